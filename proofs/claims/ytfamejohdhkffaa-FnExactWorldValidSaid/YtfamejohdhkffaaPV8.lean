/- Runs: the vertices of a graph's table; copies of proposals; a run as it is handed back. Runs: what is handed back; new runs, valid runs. Runs: what the specification's functions give. Runs: new runs, and the specification's checks. Runs: the laws' own functions. The law FnExactWorldValid: what its function gives. -/
import Derived.Test.YtfamejohdhkffaaPV7
namespace Go.Proofs.Ytfamejohdhkffaa.Am
set_option linter.unusedSimpArgs false
set_option linter.unusedVariables false
open Go
attribute [local irreducible] Mk Need Ari Get Idx Cnd CallM CallA Opt Unch At ConV
set_option maxRecDepth 10000
theorem vts_take {tab : List (Option Vtx)} {n : Nat} {o : Option Vtx} (h : tab[n]? = some o) : vtsV (tab.take (n + 1)) = vtsV (tab.take n) ++ o.toList := by
  obtain ⟨hl, rfl⟩ := List.getElem?_eq_some_iff.1 h
  rw [List.take_succ_eq_append_getElem hl]
  simp only [vtsV, List.filterMap_append]
  cases tab[n] <;> rfl
theorem vts_len (tab : List (Option Vtx)) : (vtsV tab).length ≤ tab.length := List.length_filterMap_le ..
set_option maxHeartbeats 1000000 in
theorem ivts_c (tabs : List (List (Option Vtx))) (k : Nat) (tab : List (Option Vtx)) (hk : tabs[k]? = some tab) (ht : tab.length = 217) (hv : ∀ v, some v ∈ tab → v.parents.length ≤ 1000000) : ConV Try.prog 65 [.fptr 0 k 0] [(0, .fvari 120 217 (.ob .vtx) tabs)] (.lst .vtx (vtsV tab)) [(0, .fvari 120 217 (.ob .vtx) tabs)] := by
  refine con_eq Θ_ok Try.func65 rfl rfl true 0 4 rfl rfl rfl rfl fun K hK hb1 hb2 => ?_; simp only [argsV, enc, Nat.reduceAdd]
  clear hb1 hb2
  have hat : ∀ n, n < 217 → tab[n]? = some (tab.getD n none) := fun n hn => by rw [List.getD_eq_getElem?_getD, List.getElem?_eq_getElem (by omega)]; rfl
  (repeat (any_goals (first | (with_reducible apply at_seq) | ((with_reducible apply at_regS Θ_ok); (conv => whnf)) | ((refine go ?_); (conv => whnf)) | ((refine go2 (fun xe hxe => ?_)); (conv => whnf)) | ((with_reducible refine cnd_d (fun hq => ?_) (fun hq => ?_)) <;> (conv => whnf)) | ((with_reducible refine cnd_i (fun hq => ?_) (fun hq => ?_)) <;> ((try simp only [decide_eq_true_eq, decide_eq_false_iff_not, Bool.not_eq_true', Bool.not_eq_false', beq_iff_eq, bne_iff_ne, beq_eq_false_iff_ne, bne_eq_false_iff_eq, ne_eq] at hq) <;> (first | omega | (conv => whnf)))) | ((with_reducible first | apply at_cond | apply at_ret | apply at_exit | apply at_skip); (conv => whnf)) | (with_reducible apply at_block) | ((with_reducible refine at_regD Θ_ok mixed (by kernel_rfl) ?_); (conv => whnf)))))
  refine at_loop hK [] [3, 9, 11] (fun r : Nat => ⟨[(3, .ref 4), (9, .fptr 0 k 0), (11, .int .i64 (r : Int))], [(0, .fvari 120 217 (.ob .vtx) tabs), (4, .row 63 .vtx (vtsV (tab.take (r * 7))))], 5⟩) (fun r => r ≤ 31) (fun r => 31 - r) 0 (by omega) rfl ?_
  intro r hr
  by_cases hlt : r < 31
  · obtain ⟨e, he⟩ : ∃ e : Nat → Option Vtx, ∀ j, e j = tab.getD (r * 7 + j) none := ⟨_, fun _ => rfl⟩
    have hg : ∀ j, j < 7 → tab[r * 7 + j]? = some (e j) := fun j hj => by rw [he]; exact hat _ (by omega)
    (repeat (any_goals (first | (with_reducible apply at_seq) | ((with_reducible apply at_regS Θ_ok); (conv => whnf)) | ((refine go ?_); (conv => whnf)) | ((refine go2 (fun xe hxe => ?_)); (conv => whnf)) | ((with_reducible refine cnd_d (fun hq => ?_) (fun hq => ?_)) <;> (conv => whnf)) | ((with_reducible refine cnd_i (fun hq => ?_) (fun hq => ?_)) <;> ((try simp only [decide_eq_true_eq, decide_eq_false_iff_not, Bool.not_eq_true', Bool.not_eq_false', beq_iff_eq, bne_iff_ne, beq_eq_false_iff_ne, bne_eq_false_iff_eq, ne_eq] at hq) <;> (first | omega | (conv => whnf)))) | ((with_reducible first | apply at_cond | apply at_ret | apply at_exit | apply at_skip); (conv => whnf)) | (with_reducible apply at_block) | ((with_reducible refine at_regD Θ_ok mixed (by kernel_rfl) ?_); (conv => whnf)))))
    rename_i e0 h0 e1 h1 e2 h2 e3 h3 e4 h4 e5 h5
    obtain rfl : e0 = e 0 := Option.some.inj (h0.symm.trans (hg 0 (by omega)))
    obtain rfl : e1 = e 1 := Option.some.inj (h1.symm.trans (hg 1 (by omega)))
    obtain rfl : e2 = e 2 := Option.some.inj (h2.symm.trans (hg 2 (by omega)))
    obtain rfl : e3 = e 3 := Option.some.inj (h3.symm.trans (hg 3 (by omega)))
    obtain rfl : e4 = e 4 := Option.some.inj (h4.symm.trans (hg 4 (by omega)))
    obtain rfl : e5 = e 5 := Option.some.inj (h5.symm.trans (hg 5 (by omega)))
    obtain rfl : xe = e 6 := Option.some.inj (hxe.symm.trans (hg 6 (by omega)))
    clear h0 h1 h2 h3 h4 h5 hxe
    refine at_loop hK [] [3, 9, 11, 16, 17] (fun j : Nat => ⟨[(3, .ref 4), (9, .fptr 0 k 0), (11, .int .i64 (r : Int)), (16, .agg [.obo .vtx (e 0), .obo .vtx (e 1), .obo .vtx (e 2), .obo .vtx (e 3), .obo .vtx (e 4), .obo .vtx (e 5), .obo .vtx (e 6)]), (17, .int .i64 (j : Int))], [(0, .fvari 120 217 (.ob .vtx) tabs), (4, .row 63 .vtx (vtsV (tab.take (r * 7 + j))))], 5⟩) (fun j => j ≤ 7) (fun j => 7 - j) 0 (by omega) rfl ?_
    intro j hj
    by_cases hjl : j < 7
    · have hs := vts_take (hg j hjl)
      have hvj : ∀ v, e j = some v → v.parents.length ≤ 1000000 := fun v h => hv v (List.mem_of_getElem? (by rw [hg j hjl, h]))
      have hll := vts_len (tab.take (r * 7 + j))
      rw [List.length_take] at hll
      obtain ⟨j1, hj1⟩ : ∃ j1, j1 = j + 1 := ⟨_, rfl⟩
      have hji : ((j1 : Nat) : Int) = (j : Int) + 1 := by omega
      rw [Nat.add_assoc, ← hj1] at hs
      obtain ⟨o, ho⟩ : ∃ o, o = e j := ⟨_, rfl⟩
      rw [← ho] at hs hvj
      generalize vtsV (tab.take (r * 7 + j)) = l at *
      obtain rfl | rfl | rfl | rfl | rfl | rfl | rfl : j = 0 ∨ j = 1 ∨ j = 2 ∨ j = 3 ∨ j = 4 ∨ j = 5 ∨ j = 6 := by omega
      all_goals
        rw [← ho]
        cases o with
        | none =>
          (repeat (any_goals (first | (with_reducible apply at_seq) | ((with_reducible apply at_regS Θ_ok); (conv => whnf)) | ((refine go ?_); (conv => whnf)) | ((refine go2 (fun xe hxe => ?_)); (conv => whnf)) | ((with_reducible refine cnd_d (fun hq => ?_) (fun hq => ?_)) <;> (conv => whnf)) | ((with_reducible refine cnd_i (fun hq => ?_) (fun hq => ?_)) <;> ((try simp only [decide_eq_true_eq, decide_eq_false_iff_not, Bool.not_eq_true', Bool.not_eq_false', beq_iff_eq, bne_iff_ne, beq_eq_false_iff_ne, bne_eq_false_iff_eq, ne_eq] at hq) <;> (first | omega | (conv => whnf)))) | ((with_reducible first | apply at_cond | apply at_ret | apply at_exit | apply at_skip); (conv => whnf)) | (with_reducible apply at_block) | ((with_reducible refine at_regD Θ_ok mixed (by kernel_rfl) ?_); (conv => whnf)))))
          refine ⟨j1, by omega, by omega, ?_⟩
          rw [hs, hji, Option.toList_none, List.append_nil]
          try rfl
        | some v =>
          have hvv := hvj v rfl
          (repeat (any_goals (first | (with_reducible apply at_seq) | ((with_reducible apply at_regS Θ_ok); (conv => whnf)) | ((refine go ?_); (conv => whnf)) | ((refine go2 (fun xe hxe => ?_)); (conv => whnf)) | ((with_reducible refine cnd_d (fun hq => ?_) (fun hq => ?_)) <;> (conv => whnf)) | ((with_reducible refine cnd_i (fun hq => ?_) (fun hq => ?_)) <;> ((try simp only [decide_eq_true_eq, decide_eq_false_iff_not, Bool.not_eq_true', Bool.not_eq_false', beq_iff_eq, bne_iff_ne, beq_eq_false_iff_ne, bne_eq_false_iff_eq, ne_eq] at hq) <;> (first | omega | (conv => whnf)))) | ((with_reducible first | apply at_cond | apply at_ret | apply at_exit | apply at_skip); (conv => whnf)) | (with_reducible apply at_block) | ((with_reducible refine at_regD Θ_ok mixed (by kernel_rfl) ?_); (conv => whnf)) | ((with_reducible refine call_r ?_); (conv => whnf); (first | ((with_reducible refine call_i (icl_c _ hvv) ?_); (conv => whnf)))))))
          refine ⟨j1, by omega, by omega, ?_⟩
          rw [hs, hji]
          rfl
    · obtain rfl : j = 7 := by omega
      (repeat (any_goals (first | (with_reducible apply at_seq) | ((with_reducible apply at_regS Θ_ok); (conv => whnf)) | ((refine go ?_); (conv => whnf)) | ((refine go2 (fun xe hxe => ?_)); (conv => whnf)) | ((with_reducible refine cnd_d (fun hq => ?_) (fun hq => ?_)) <;> (conv => whnf)) | ((with_reducible refine cnd_i (fun hq => ?_) (fun hq => ?_)) <;> ((try simp only [decide_eq_true_eq, decide_eq_false_iff_not, Bool.not_eq_true', Bool.not_eq_false', beq_iff_eq, bne_iff_ne, beq_eq_false_iff_ne, bne_eq_false_iff_eq, ne_eq] at hq) <;> (first | omega | (conv => whnf)))) | ((with_reducible first | apply at_cond | apply at_ret | apply at_exit | apply at_skip); (conv => whnf)) | (with_reducible apply at_block) | ((with_reducible refine at_regD Θ_ok mixed (by kernel_rfl) ?_); (conv => whnf)))))
      exact ⟨r + 1, by omega, by omega, by rw [show (r + 1) * 7 = r * 7 + 7 by omega]; rfl⟩
  · obtain rfl : r = 31 := by omega
    (repeat (any_goals (first | (with_reducible apply at_seq) | ((with_reducible apply at_regS Θ_ok); (conv => whnf)) | ((refine go ?_); (conv => whnf)) | ((refine go2 (fun xe hxe => ?_)); (conv => whnf)) | ((with_reducible refine cnd_d (fun hq => ?_) (fun hq => ?_)) <;> (conv => whnf)) | ((with_reducible refine cnd_i (fun hq => ?_) (fun hq => ?_)) <;> ((try simp only [decide_eq_true_eq, decide_eq_false_iff_not, Bool.not_eq_true', Bool.not_eq_false', beq_iff_eq, bne_iff_ne, beq_eq_false_iff_ne, bne_eq_false_iff_eq, ne_eq] at hq) <;> (first | omega | (conv => whnf)))) | ((with_reducible first | apply at_cond | apply at_ret | apply at_exit | apply at_skip); (conv => whnf)) | (with_reducible apply at_block) | ((with_reducible refine at_regD Θ_ok mixed (by kernel_rfl) ?_); (conv => whnf)))))
    rw [List.take_of_length_le (by omega)]
    exact ⟨rfl, rfl⟩
theorem ivts_h (tabs : List (List (Option Vtx))) (k : Nat) (tab : List (Option Vtx)) (hk : tabs[k]? = some tab) (ht : tab.length = 217) (hv : ∀ v, some v ∈ tab → v.parents.length ≤ 1000000) : ConV Try.prog 65 [.hpo 0 (some k)] [(0, .fvari 120 217 (.ob .vtx) tabs)] (.lst .vtx (vtsV tab)) [(0, .fvari 120 217 (.ob .vtx) tabs)] := by
  have h := ivts_c tabs k tab hk ht hv
  unfold ConV at h ⊢
  exact h
/-- cloneProposals of proposals of the call's own -/
theorem icpo_c (ps : List Ppl) (hv : ∀ p ∈ ps, p.v.parents.length ≤ 1000000 ∧ p.members.length ≤ 1000000) (hl : ps.length ≤ 1000000) : ConV Try.prog 62 [.ref 4] [(1, .frow 3 (.int .i64) (ps.map (·.members))), (4, .row 65 (.pplm 1) (pms ps))] (.lst .ppl ps) [(1, .frow 3 (.int .i64) (ps.map (·.members))), (4, .row 65 (.pplm 1) (pms ps))] := by
  refine con_eq Θ_ok Try.func62 rfl rfl true 1 5 rfl rfl rfl rfl fun K hK hb1 hb2 => ?_; simp only [argsV, enc, Nat.reduceAdd]
  clear hb1 hb2
  have hpl := pms_len ps
  (repeat (any_goals (first | (with_reducible apply at_seq) | ((with_reducible apply at_regS Θ_ok); (conv => whnf)) | ((refine go ?_); (conv => whnf)) | ((refine go2 (fun xe hxe => ?_)); (conv => whnf)) | ((with_reducible refine cnd_d (fun hq => ?_) (fun hq => ?_)) <;> (conv => whnf)) | ((with_reducible refine cnd_i (fun hq => ?_) (fun hq => ?_)) <;> ((try simp only [decide_eq_true_eq, decide_eq_false_iff_not, Bool.not_eq_true', Bool.not_eq_false', beq_iff_eq, bne_iff_ne, beq_eq_false_iff_ne, bne_eq_false_iff_eq, ne_eq] at hq) <;> (first | omega | (conv => whnf)))) | ((with_reducible first | apply at_cond | apply at_ret | apply at_exit | apply at_skip); (conv => whnf)) | (with_reducible apply at_block) | ((with_reducible refine at_regD Θ_ok mixed (by kernel_rfl) ?_); (conv => whnf)))))
  refine at_loop hK [] [3, 9, 10, 11] (fun i : Nat => ⟨[(3, .ref 5), (9, .ref 4), (10, .int .i64 ps.length), (11, .int .i64 (i : Int))], [(1, .frow 3 (.int .i64) (ps.map (·.members))), (4, .row 65 (.pplm 1) (pms ps)), (5, .row 65 .ppl (ps.take i ++ (List.replicate ps.length p0).drop i))], 6⟩) (fun i => i ≤ ps.length) (fun i => ps.length - i) 0 (by simp) (by simp only [hpl]; simp; rfl) ?_
  intro i hi
  by_cases hlt : i < ps.length
  · have hxe : ps[i]? = some ps[i] := List.getElem?_eq_getElem hlt
    have hg : i < (ps.take i ++ (List.replicate ps.length p0).drop i).length := over_get _ _ (by simp; omega) (by simpa using hlt)
    have hs : (ps.take i ++ (List.replicate ps.length p0).drop i).set i ps[i] = ps.take (i + 1) ++ (List.replicate ps.length p0).drop (i + 1) := by
      rw [set_over _ _ _ (by simp; omega) (by simpa using hlt), List.take_succ_eq_append_getElem hlt]
    obtain ⟨v1, v2⟩ := hv _ (List.getElem_mem hlt)
    have hx1 := pms_at hxe
    have hx2 : (ps.map (·.members))[i]? = some ps[i].members := by rw [List.getElem?_map, hxe]; rfl
    generalize hrow : ps.take i ++ (List.replicate ps.length p0).drop i = row at *
    generalize ps[i] = p at *
    (repeat (any_goals (first | (with_reducible apply at_seq) | ((with_reducible apply at_regS Θ_ok); (conv => whnf)) | ((refine go ?_); (conv => whnf)) | ((refine go2 (fun xe hxe => ?_)); (conv => whnf)) | ((with_reducible refine cnd_d (fun hq => ?_) (fun hq => ?_)) <;> (conv => whnf)) | ((with_reducible refine cnd_i (fun hq => ?_) (fun hq => ?_)) <;> ((try simp only [decide_eq_true_eq, decide_eq_false_iff_not, Bool.not_eq_true', Bool.not_eq_false', beq_iff_eq, bne_iff_ne, beq_eq_false_iff_ne, bne_eq_false_iff_eq, ne_eq] at hq) <;> (first | omega | (conv => whnf)))) | ((with_reducible first | apply at_cond | apply at_ret | apply at_exit | apply at_skip); (conv => whnf)) | (with_reducible apply at_block) | ((with_reducible refine at_regD Θ_ok mixed (by kernel_rfl) ?_); (conv => whnf)) | ((with_reducible refine call_r ?_); (conv => whnf); (first | ((with_reducible refine call_i (icl_c _ v1) ?_); (conv => whnf)))))))
    refine ⟨i + 1, by omega, by omega, ?_⟩
    rw [← hs]
    rfl
  · obtain rfl : i = ps.length := by omega
    (repeat (any_goals (first | (with_reducible apply at_seq) | ((with_reducible apply at_regS Θ_ok); (conv => whnf)) | ((refine go ?_); (conv => whnf)) | ((refine go2 (fun xe hxe => ?_)); (conv => whnf)) | ((with_reducible refine cnd_d (fun hq => ?_) (fun hq => ?_)) <;> (conv => whnf)) | ((with_reducible refine cnd_i (fun hq => ?_) (fun hq => ?_)) <;> ((try simp only [decide_eq_true_eq, decide_eq_false_iff_not, Bool.not_eq_true', Bool.not_eq_false', beq_iff_eq, bne_iff_ne, beq_eq_false_iff_ne, bne_eq_false_iff_eq, ne_eq] at hq) <;> (first | omega | (conv => whnf)))) | ((with_reducible first | apply at_cond | apply at_ret | apply at_exit | apply at_skip); (conv => whnf)) | (with_reducible apply at_block) | ((with_reducible refine at_regD Θ_ok mixed (by kernel_rfl) ?_); (conv => whnf)))))
    simp
end Go.Proofs.Ytfamejohdhkffaa.Am
namespace Go.Proofs.Ytfamejohdhkffaa.Am
set_option linter.unusedSimpArgs false
set_option linter.unusedVariables false
open Go
attribute [local irreducible] Mk Need Ari Get Idx Cnd CallM CallA Opt Unch At ConV
set_option maxRecDepth 10000
theorem iwV_c (w : Wrl) (hl : ∀ g ∈ w.views, g.length ≤ 2000000) : ConV Try.prog 11 [wrlA w] [] (.bool (wrlS w)) [] := by
  have h := iop_c w hl
  have he := wrlS_eq w
  refine con_eq Θ_ok Try.func11 rfl rfl false 0 4 rfl rfl rfl rfl fun K hK hb1 hb2 => ?_; simp only [argsV, enc, Nat.reduceAdd]
  clear hb1 hb2
  cases hp : preS w
  · simp only [opR, opO, hp, Bool.false_eq_true, if_false] at h
    (repeat (any_goals (first | (with_reducible apply at_seq) | ((with_reducible apply at_regS Θ_ok); (conv => whnf)) | ((refine go ?_); (conv => whnf)) | ((refine go2 (fun xe hxe => ?_)); (conv => whnf)) | ((with_reducible refine cnd_d (fun hq => ?_) (fun hq => ?_)) <;> (conv => whnf)) | ((with_reducible refine cnd_i (fun hq => ?_) (fun hq => ?_)) <;> ((try simp only [decide_eq_true_eq, decide_eq_false_iff_not, Bool.not_eq_true', Bool.not_eq_false', beq_iff_eq, bne_iff_ne, beq_eq_false_iff_ne, bne_eq_false_iff_eq, ne_eq] at hq) <;> (first | omega | (conv => whnf)))) | ((with_reducible first | apply at_cond | apply at_ret | apply at_exit | apply at_skip); (conv => whnf)) | (with_reducible apply at_block) | ((with_reducible refine at_regD Θ_ok mixed (by kernel_rfl) ?_); (conv => whnf)) | ((with_reducible refine call_r ?_); (conv => whnf); (first | ((with_reducible refine call_i (h) ?_); (conv => whnf)))))))
    exact ⟨by rw [he, hp, Bool.false_and], rfl⟩
  · simp only [opR, opO, hp, if_true] at h
    have hk := pre_kp hp
    rw [hk] at h
    (repeat (any_goals (first | (with_reducible apply at_seq) | ((with_reducible apply at_regS Θ_ok); (conv => whnf)) | ((refine go ?_); (conv => whnf)) | ((refine go2 (fun xe hxe => ?_)); (conv => whnf)) | ((with_reducible refine cnd_d (fun hq => ?_) (fun hq => ?_)) <;> (conv => whnf)) | ((with_reducible refine cnd_i (fun hq => ?_) (fun hq => ?_)) <;> ((try simp only [decide_eq_true_eq, decide_eq_false_iff_not, Bool.not_eq_true', Bool.not_eq_false', beq_iff_eq, bne_iff_ne, beq_eq_false_iff_ne, bne_eq_false_iff_eq, ne_eq] at hq) <;> (first | omega | (conv => whnf)))) | ((with_reducible first | apply at_cond | apply at_ret | apply at_exit | apply at_skip); (conv => whnf)) | (with_reducible apply at_block) | ((with_reducible refine at_regD Θ_ok mixed (by kernel_rfl) ?_); (conv => whnf)) | ((with_reducible refine call_r ?_); (conv => whnf); (first | ((with_reducible refine call_i (h) ?_); (conv => whnf)))))))
    exact ⟨by rw [he, hp, Bool.true_and], rfl⟩
def wldS (c l : List Int) (b : Int) (tabs : List (List (Option Vtx))) (ps : List Ppl) : Nat → VSt
  | 0 => ⟨[(2, .ptr 7 0), (3, .ptr 8 0), (30, .ref 5), (31, .int .i64 tabs.length), (32, .int .i64 0)], rB c l b tabs ps ++ [(7, VB.var 29 [.nils, .nils, .int .i64 0, .nils, .nils]), (8, VB.var 29 [.lst (.int .i64) c, .ref 9, .int .i64 b, .nils, .lst .ppl ps]), (9, VB.row 3 (.int .i64) l)], 10⟩
  | i + 1 => ⟨[(2, .ptr 7 0), (3, .ptr 8 0), (30, .ref 5), (31, .int .i64 tabs.length), (32, .int .i64 ((i + 1 : Nat) : Int))], rB c l b tabs ps ++ [(7, VB.var 29 [.nils, .nils, .int .i64 0, .nils, .nils]), (8, VB.var 29 [.lst (.int .i64) c, .ref 9, .int .i64 b, .ref 10, .lst .ppl ps]), (9, VB.row 3 (.int .i64) l), (10, VB.row 33 (.lst .vtx) ((tabs.take (i + 1)).map vtsV))], 11⟩
set_option maxHeartbeats 1000000 in
theorem iwld_c (c l : List Int) (b : Int) (tabs : List (List (Option Vtx))) (ps : List Ppl) (hc : c ≠ []) (hcl : c.length ≤ 1000000) (hll : l.length ≤ 1000000) (ht : ∀ t ∈ tabs, t.length = 217 ∧ ∀ v, some v ∈ t → v.parents.length ≤ 1000000) (htl : tabs.length ≤ 7) (htl1 : 1 ≤ tabs.length)
    (hv : ∀ p ∈ ps, p.v.parents.length ≤ 1000000 ∧ p.members.length ≤ 1000000) (hpn : ps.length ≤ 1000000) : ConV Try.prog 30 [.ptr 4 0] (rB c l b tabs ps) (wrlA ⟨c, l, b, tabs.map vtsV, ps⟩) (rB c l b tabs ps) := by
  have hC := iclc_c c hc hcl
  have hP := icpo_c ps hv hpn
  have hrl : ((List.range tabs.length).map some).length = tabs.length := by simp
  refine con_eq Θ_ok Try.func30 rfl rfl true 3 7 rfl rfl rfl rfl fun K hK hb1 hb2 => ?_; simp only [argsV, enc, Nat.reduceAdd]
  clear hb1 hb2
  (repeat (any_goals (first | (with_reducible apply at_seq) | ((with_reducible apply at_regS Θ_ok); (conv => whnf)) | ((refine go ?_); (conv => whnf)) | ((refine go2 (fun xe hxe => ?_)); (conv => whnf)) | ((with_reducible refine cnd_d (fun hq => ?_) (fun hq => ?_)) <;> (conv => whnf)) | ((with_reducible refine cnd_i (fun hq => ?_) (fun hq => ?_)) <;> ((try simp only [decide_eq_true_eq, decide_eq_false_iff_not, Bool.not_eq_true', Bool.not_eq_false', beq_iff_eq, bne_iff_ne, beq_eq_false_iff_ne, bne_eq_false_iff_eq, ne_eq] at hq) <;> (first | omega | (conv => whnf)))) | ((with_reducible first | apply at_cond | apply at_ret | apply at_exit | apply at_skip); (conv => whnf)) | (with_reducible apply at_block) | ((with_reducible refine at_regD Θ_ok mixed (by kernel_rfl) ?_); (conv => whnf)) | ((with_reducible refine call_r ?_); (conv => whnf); (first | ((with_reducible refine call_i (hC) ?_); (conv => whnf)))) | ((with_reducible refine call_o ?_); (conv => whnf); (first | ((with_reducible refine call_i (hP) ?_); (conv => whnf)))))))
  refine at_loop hK [] [2, 3, 30, 31, 32] (wldS c l b tabs ps) (fun i => i ≤ tabs.length) (fun i => tabs.length - i) 0 (by simp) (by simp only [hrl]; (conv => whnf); rfl) ?_
  intro i hi
  by_cases hlt : i < tabs.length
  · have hxe : tabs[i]? = some tabs[i] := List.getElem?_eq_getElem hlt
    have hsn : tabs.take (i + 1) = tabs.take i ++ [tabs[i]] := List.take_succ_eq_append_getElem hlt
    obtain ⟨t1, t2⟩ := ht _ (List.getElem_mem hlt)
    have hxv : ((List.range tabs.length).map some)[i]? = some (some i) := by rw [List.getElem?_map, List.getElem?_range hlt]; rfl
    have hV := ivts_h tabs i _ hxe t1 t2
    generalize tabs[i] = tab at *
    cases i with
    | zero =>
      have hst : wldS c l b tabs ps (0 + 1) = ⟨[(2, .ptr 7 0), (3, .ptr 8 0), (30, .ref 5), (31, .int .i64 tabs.length), (32, .int .i64 ((0 + 1 : Nat) : Int))], rB c l b tabs ps ++ [(7, VB.var 29 [.nils, .nils, .int .i64 0, .nils, .nils]), (8, VB.var 29 [.lst (.int .i64) c, .ref 9, .int .i64 b, .ref 10, .lst .ppl ps]), (9, VB.row 3 (.int .i64) l), (10, VB.row 33 (.lst .vtx) [vtsV tab])], 11⟩ := by
        rw [wldS, hsn]
        rfl
      have hs0 : wldS c l b tabs ps 0 = ⟨[(2, .ptr 7 0), (3, .ptr 8 0), (30, .ref 5), (31, .int .i64 tabs.length), (32, .int .i64 0)], rB c l b tabs ps ++ [(7, VB.var 29 [.nils, .nils, .int .i64 0, .nils, .nils]), (8, VB.var 29 [.lst (.int .i64) c, .ref 9, .int .i64 b, .nils, .lst .ppl ps]), (9, VB.row 3 (.int .i64) l)], 10⟩ := rfl
      have hx0 : ((List.range tabs.length).map some)[(0 : Int).toNat]? = some (some 0) := hxv
      rw [hs0]
      (repeat (any_goals (first | (with_reducible apply at_seq) | ((with_reducible apply at_regS Θ_ok); (conv => whnf)) | ((refine go ?_); (conv => whnf)) | ((refine go2 (fun xe hxe => ?_)); (conv => whnf)) | ((with_reducible refine cnd_d (fun hq => ?_) (fun hq => ?_)) <;> (conv => whnf)) | ((with_reducible refine cnd_i (fun hq => ?_) (fun hq => ?_)) <;> ((try simp only [decide_eq_true_eq, decide_eq_false_iff_not, Bool.not_eq_true', Bool.not_eq_false', beq_iff_eq, bne_iff_ne, beq_eq_false_iff_ne, bne_eq_false_iff_eq, ne_eq] at hq) <;> (first | omega | (conv => whnf)))) | ((with_reducible first | apply at_cond | apply at_ret | apply at_exit | apply at_skip); (conv => whnf)) | (with_reducible apply at_block) | ((with_reducible refine at_regD Θ_ok mixed (by kernel_rfl) ?_); (conv => whnf)) | ((with_reducible refine call_o ?_); (conv => whnf); (first | ((with_reducible refine call_i (hV) ?_); (conv => whnf)))))))
      refine ⟨0 + 1, by omega, by omega, ?_⟩
      rw [hst]
      rfl
    | succ i =>
      have hfl : ((tabs.take (i + 1)).map vtsV).length = i + 1 := by rw [List.length_map, List.length_take]; omega
      have hst : wldS c l b tabs ps (i + 1 + 1) = ⟨[(2, .ptr 7 0), (3, .ptr 8 0), (30, .ref 5), (31, .int .i64 tabs.length), (32, .int .i64 ((i + 1 + 1 : Nat) : Int))], rB c l b tabs ps ++ [(7, VB.var 29 [.nils, .nils, .int .i64 0, .nils, .nils]), (8, VB.var 29 [.lst (.int .i64) c, .ref 9, .int .i64 b, .ref 10, .lst .ppl ps]), (9, VB.row 3 (.int .i64) l), (10, VB.row 33 (.lst .vtx) ((tabs.take (i + 1)).map vtsV ++ [vtsV tab]))], 11⟩ := by
        rw [wldS, hsn, List.map_append]
        rfl
      have hs0 : wldS c l b tabs ps (i + 1) = ⟨[(2, .ptr 7 0), (3, .ptr 8 0), (30, .ref 5), (31, .int .i64 tabs.length), (32, .int .i64 ((i + 1 : Nat) : Int))], rB c l b tabs ps ++ [(7, VB.var 29 [.nils, .nils, .int .i64 0, .nils, .nils]), (8, VB.var 29 [.lst (.int .i64) c, .ref 9, .int .i64 b, .ref 10, .lst .ppl ps]), (9, VB.row 3 (.int .i64) l), (10, VB.row 33 (.lst .vtx) ((tabs.take (i + 1)).map vtsV))], 11⟩ := rfl
      rw [hs0]
      clear hs0
      generalize (tabs.take (i + 1)).map vtsV = ts at *
      (repeat (any_goals (first | (with_reducible apply at_seq) | ((with_reducible apply at_regS Θ_ok); (conv => whnf)) | ((refine go ?_); (conv => whnf)) | ((refine go2 (fun xe hxe => ?_)); (conv => whnf)) | ((with_reducible refine cnd_d (fun hq => ?_) (fun hq => ?_)) <;> (conv => whnf)) | ((with_reducible refine cnd_i (fun hq => ?_) (fun hq => ?_)) <;> ((try simp only [decide_eq_true_eq, decide_eq_false_iff_not, Bool.not_eq_true', Bool.not_eq_false', beq_iff_eq, bne_iff_ne, beq_eq_false_iff_ne, bne_eq_false_iff_eq, ne_eq] at hq) <;> (first | omega | (conv => whnf)))) | ((with_reducible first | apply at_cond | apply at_ret | apply at_exit | apply at_skip); (conv => whnf)) | (with_reducible apply at_block) | ((with_reducible refine at_regD Θ_ok mixed (by kernel_rfl) ?_); (conv => whnf)) | ((with_reducible refine call_o ?_); (conv => whnf); (first | ((with_reducible refine call_i (hV) ?_); (conv => whnf)))))))
      refine ⟨i + 1 + 1, by omega, by omega, ?_⟩
      rw [hst]
      rfl
  · cases i with
    | zero => omega
    | succ i =>
      have hs0 : wldS c l b tabs ps (i + 1) = ⟨[(2, .ptr 7 0), (3, .ptr 8 0), (30, .ref 5), (31, .int .i64 tabs.length), (32, .int .i64 ((i + 1 : Nat) : Int))], rB c l b tabs ps ++ [(7, VB.var 29 [.nils, .nils, .int .i64 0, .nils, .nils]), (8, VB.var 29 [.lst (.int .i64) c, .ref 9, .int .i64 b, .ref 10, .lst .ppl ps]), (9, VB.row 3 (.int .i64) l), (10, VB.row 33 (.lst .vtx) (tabs.map vtsV))], 11⟩ := by
        rw [wldS, List.take_of_length_le (by omega)]
      rw [hs0]
      clear hs0
      (repeat (any_goals (first | (with_reducible apply at_seq) | ((with_reducible apply at_regS Θ_ok); (conv => whnf)) | ((refine go ?_); (conv => whnf)) | ((refine go2 (fun xe hxe => ?_)); (conv => whnf)) | ((with_reducible refine cnd_d (fun hq => ?_) (fun hq => ?_)) <;> (conv => whnf)) | ((with_reducible refine cnd_i (fun hq => ?_) (fun hq => ?_)) <;> ((try simp only [decide_eq_true_eq, decide_eq_false_iff_not, Bool.not_eq_true', Bool.not_eq_false', beq_iff_eq, bne_iff_ne, beq_eq_false_iff_ne, bne_eq_false_iff_eq, ne_eq] at hq) <;> (first | omega | (conv => whnf)))) | ((with_reducible first | apply at_cond | apply at_ret | apply at_exit | apply at_skip); (conv => whnf)) | (with_reducible apply at_block) | ((with_reducible refine at_regD Θ_ok mixed (by kernel_rfl) ?_); (conv => whnf)))))
      exact ⟨rfl, rfl⟩
end Go.Proofs.Ytfamejohdhkffaa.Am
namespace Go.Proofs.Ytfamejohdhkffaa.Am
set_option linter.unusedSimpArgs false
set_option linter.unusedVariables false
open Go
attribute [local irreducible] Mk Need Ari Get Idx Cnd CallM CallA Opt Unch At ConV
set_option maxRecDepth 10000
theorem has_c (l : List Int) (n : Int) : ConV Try.prog 50 [.lst (.int .i64) l, .int .i64 n] [] (.bool (l.contains n)) [] := by
  refine con_eq Θ_ok Try.func50 rfl rfl false 0 4 rfl rfl rfl rfl fun K hK hb1 hb2 => ?_; simp only [argsV, enc, Nat.reduceAdd]
  simp [toDL, V.toD, bnd, encD, D.cells] at hb1
  (repeat (any_goals (first | (with_reducible apply at_seq) | ((with_reducible apply at_regS Θ_ok); (conv => whnf)) | ((refine go ?_); (conv => whnf)) | ((refine go2 (fun xe hxe => ?_)); (conv => whnf)) | ((with_reducible refine cnd_d (fun hq => ?_) (fun hq => ?_)) <;> (conv => whnf)) | ((with_reducible refine cnd_i (fun hq => ?_) (fun hq => ?_)) <;> ((try simp only [decide_eq_true_eq, decide_eq_false_iff_not, Bool.not_eq_true', Bool.not_eq_false', beq_iff_eq, bne_iff_ne, beq_eq_false_iff_ne, bne_eq_false_iff_eq, ne_eq] at hq) <;> (first | omega | (conv => whnf)))) | ((with_reducible first | apply at_cond | apply at_ret | apply at_exit | apply at_skip); (conv => whnf)) | (with_reducible apply at_block) | ((with_reducible refine at_regD Θ_ok mixed (by kernel_rfl) ?_); (conv => whnf)))))
  refine at_loop hK [] [0, 1, 5] (fun i : Nat => ⟨[(0, .lst (.int .i64) l), (1, .int .i64 n), (5, .int .i64 i)], [], 4⟩) (fun i => i ≤ l.length ∧ ∀ y ∈ l.take i, (y == n) = false) (fun i => l.length - i) 0 ⟨by simp, by simp⟩ rfl ?_
  rintro i ⟨hi, hall⟩
  by_cases hlt : i < l.length
  · have hxe : l[i]? = some l[i] := List.getElem?_eq_getElem hlt
    have hsn : l.take (i + 1) = l.take i ++ [l[i]] := List.take_succ_eq_append_getElem hlt
    have hm : l[i] ∈ l := List.getElem_mem hlt
    generalize l[i] = x at *
    by_cases h : x = n
    · subst h
      (repeat (any_goals (first | (with_reducible apply at_seq) | ((with_reducible apply at_regS Θ_ok); (conv => whnf)) | ((refine go ?_); (conv => whnf)) | ((refine go2 (fun xe hxe => ?_)); (conv => whnf)) | ((with_reducible refine cnd_d (fun hq => ?_) (fun hq => ?_)) <;> (conv => whnf)) | ((with_reducible refine cnd_i (fun hq => ?_) (fun hq => ?_)) <;> ((try simp only [decide_eq_true_eq, decide_eq_false_iff_not, Bool.not_eq_true', Bool.not_eq_false', beq_iff_eq, bne_iff_ne, beq_eq_false_iff_ne, bne_eq_false_iff_eq, ne_eq] at hq) <;> (first | omega | (conv => whnf)))) | ((with_reducible first | apply at_cond | apply at_ret | apply at_exit | apply at_skip); (conv => whnf)) | (with_reducible apply at_block) | ((with_reducible refine at_regD Θ_ok mixed (by kernel_rfl) ?_); (conv => whnf)))))
      · rw [List.contains_iff_mem.2 hm]
        exact ⟨rfl, rfl⟩
      · exact absurd trivial hq
    · (repeat (any_goals (first | (with_reducible apply at_seq) | ((with_reducible apply at_regS Θ_ok); (conv => whnf)) | ((refine go ?_); (conv => whnf)) | ((refine go2 (fun xe hxe => ?_)); (conv => whnf)) | ((with_reducible refine cnd_d (fun hq => ?_) (fun hq => ?_)) <;> (conv => whnf)) | ((with_reducible refine cnd_i (fun hq => ?_) (fun hq => ?_)) <;> ((try simp only [decide_eq_true_eq, decide_eq_false_iff_not, Bool.not_eq_true', Bool.not_eq_false', beq_iff_eq, bne_iff_ne, beq_eq_false_iff_ne, bne_eq_false_iff_eq, ne_eq] at hq) <;> (first | omega | (conv => whnf)))) | ((with_reducible first | apply at_cond | apply at_ret | apply at_exit | apply at_skip); (conv => whnf)) | (with_reducible apply at_block) | ((with_reducible refine at_regD Θ_ok mixed (by kernel_rfl) ?_); (conv => whnf)))))
      exact ⟨i + 1, ⟨by omega, by rw [hsn]; exact tk_snoc hall (by simpa using h)⟩, by omega, rfl⟩
  · (repeat (any_goals (first | (with_reducible apply at_seq) | ((with_reducible apply at_regS Θ_ok); (conv => whnf)) | ((refine go ?_); (conv => whnf)) | ((refine go2 (fun xe hxe => ?_)); (conv => whnf)) | ((with_reducible refine cnd_d (fun hq => ?_) (fun hq => ?_)) <;> (conv => whnf)) | ((with_reducible refine cnd_i (fun hq => ?_) (fun hq => ?_)) <;> ((try simp only [decide_eq_true_eq, decide_eq_false_iff_not, Bool.not_eq_true', Bool.not_eq_false', beq_iff_eq, bne_iff_ne, beq_eq_false_iff_ne, bne_eq_false_iff_eq, ne_eq] at hq) <;> (first | omega | (conv => whnf)))) | ((with_reducible first | apply at_cond | apply at_ret | apply at_exit | apply at_skip); (conv => whnf)) | (with_reducible apply at_block) | ((with_reducible refine at_regD Θ_ok mixed (by kernel_rfl) ?_); (conv => whnf)))))
    rw [List.take_of_length_le (by omega)] at hall
    have : l.contains n = false := by
      rw [Bool.eq_false_iff]
      intro h
      have := hall _ (List.contains_iff_mem.1 h)
      simp at this
    rw [this]
    exact ⟨rfl, rfl⟩
theorem lEq_ne {a b : List Int} {i : Nat} {x y : Int} (hx : a[i]? = some x) (hy : b[i]? = some y) (h : x ≠ y) : (a == b) = false := by
  rw [beq_eq_false_iff_ne]
  rintro rfl
  rw [hx] at hy
  exact h (Option.some.inj hy)
theorem same_c (v u : Vtx) : ConV Try.prog 78 [vtxA v, vtxA u] [] (.bool (vEq v u)) [] := by
  have hno : ∀ b, vEq v u = b → V.bool b = V.bool (vEq v u) ∧ ([] : VH) = [] := fun b h => ⟨by rw [h], rfl⟩
  refine con_eq Θ_ok Try.func78 rfl rfl false 0 4 rfl rfl rfl rfl fun K hK hb1 hb2 => ?_; simp only [argsV, enc, Nat.reduceAdd]
  simp [toDL, V.toD, bnd, encD, D.cells, intsD] at hb1
  by_cases h1 : v.round = u.round
  rotate_left
  · (repeat (any_goals (first | (with_reducible apply at_seq) | ((with_reducible apply at_regS Θ_ok); (conv => whnf)) | ((refine go ?_); (conv => whnf)) | ((refine go2 (fun xe hxe => ?_)); (conv => whnf)) | ((with_reducible refine cnd_d (fun hq => ?_) (fun hq => ?_)) <;> (conv => whnf)) | ((with_reducible refine cnd_i (fun hq => ?_) (fun hq => ?_)) <;> ((try simp only [decide_eq_true_eq, decide_eq_false_iff_not, Bool.not_eq_true', Bool.not_eq_false', beq_iff_eq, bne_iff_ne, beq_eq_false_iff_ne, bne_eq_false_iff_eq, ne_eq] at hq) <;> (first | omega | (conv => whnf)))) | ((with_reducible first | apply at_cond | apply at_ret | apply at_exit | apply at_skip); (conv => whnf)) | (with_reducible apply at_block) | ((with_reducible refine at_regD Θ_ok mixed (by kernel_rfl) ?_); (conv => whnf)))))
    exact hno _ (by simp [vEq, h1])
  by_cases h2 : v.author = u.author
  rotate_left
  · (repeat (any_goals (first | (with_reducible apply at_seq) | ((with_reducible apply at_regS Θ_ok); (conv => whnf)) | ((refine go ?_); (conv => whnf)) | ((refine go2 (fun xe hxe => ?_)); (conv => whnf)) | ((with_reducible refine cnd_d (fun hq => ?_) (fun hq => ?_)) <;> (conv => whnf)) | ((with_reducible refine cnd_i (fun hq => ?_) (fun hq => ?_)) <;> ((try simp only [decide_eq_true_eq, decide_eq_false_iff_not, Bool.not_eq_true', Bool.not_eq_false', beq_iff_eq, bne_iff_ne, beq_eq_false_iff_ne, bne_eq_false_iff_eq, ne_eq] at hq) <;> (first | omega | (conv => whnf)))) | ((with_reducible first | apply at_cond | apply at_ret | apply at_exit | apply at_skip); (conv => whnf)) | (with_reducible apply at_block) | ((with_reducible refine at_regD Θ_ok mixed (by kernel_rfl) ?_); (conv => whnf)))))
    exact hno _ (by simp [vEq, h2])
  by_cases h3 : v.digest = u.digest
  rotate_left
  · (repeat (any_goals (first | (with_reducible apply at_seq) | ((with_reducible apply at_regS Θ_ok); (conv => whnf)) | ((refine go ?_); (conv => whnf)) | ((refine go2 (fun xe hxe => ?_)); (conv => whnf)) | ((with_reducible refine cnd_d (fun hq => ?_) (fun hq => ?_)) <;> (conv => whnf)) | ((with_reducible refine cnd_i (fun hq => ?_) (fun hq => ?_)) <;> ((try simp only [decide_eq_true_eq, decide_eq_false_iff_not, Bool.not_eq_true', Bool.not_eq_false', beq_iff_eq, bne_iff_ne, beq_eq_false_iff_ne, bne_eq_false_iff_eq, ne_eq] at hq) <;> (first | omega | (conv => whnf)))) | ((with_reducible first | apply at_cond | apply at_ret | apply at_exit | apply at_skip); (conv => whnf)) | (with_reducible apply at_block) | ((with_reducible refine at_regD Θ_ok mixed (by kernel_rfl) ?_); (conv => whnf)))))
    exact hno _ (by simp [vEq, h3])
  have he : vEq v u = (v.parents == u.parents) := by simp [vEq, h1, h2, h3]
  by_cases h4 : v.parents.length = u.parents.length
  rotate_left
  · (repeat (any_goals (first | (with_reducible apply at_seq) | ((with_reducible apply at_regS Θ_ok); (conv => whnf)) | ((refine go ?_); (conv => whnf)) | ((refine go2 (fun xe hxe => ?_)); (conv => whnf)) | ((with_reducible refine cnd_d (fun hq => ?_) (fun hq => ?_)) <;> (conv => whnf)) | ((with_reducible refine cnd_i (fun hq => ?_) (fun hq => ?_)) <;> ((try simp only [decide_eq_true_eq, decide_eq_false_iff_not, Bool.not_eq_true', Bool.not_eq_false', beq_iff_eq, bne_iff_ne, beq_eq_false_iff_ne, bne_eq_false_iff_eq, ne_eq] at hq) <;> (first | omega | (conv => whnf)))) | ((with_reducible first | apply at_cond | apply at_ret | apply at_exit | apply at_skip); (conv => whnf)) | (with_reducible apply at_block) | ((with_reducible refine at_regD Θ_ok mixed (by kernel_rfl) ?_); (conv => whnf)))))
    exact hno _ (by rw [he, beq_eq_false_iff_ne]; intro h; exact h4 (by rw [h]))
  (repeat (any_goals (first | (with_reducible apply at_seq) | ((with_reducible apply at_regS Θ_ok); (conv => whnf)) | ((refine go ?_); (conv => whnf)) | ((refine go2 (fun xe hxe => ?_)); (conv => whnf)) | ((with_reducible refine cnd_d (fun hq => ?_) (fun hq => ?_)) <;> (conv => whnf)) | ((with_reducible refine cnd_i (fun hq => ?_) (fun hq => ?_)) <;> ((try simp only [decide_eq_true_eq, decide_eq_false_iff_not, Bool.not_eq_true', Bool.not_eq_false', beq_iff_eq, bne_iff_ne, beq_eq_false_iff_ne, bne_eq_false_iff_eq, ne_eq] at hq) <;> (first | omega | (conv => whnf)))) | ((with_reducible first | apply at_cond | apply at_ret | apply at_exit | apply at_skip); (conv => whnf)) | (with_reducible apply at_block) | ((with_reducible refine at_regD Θ_ok mixed (by kernel_rfl) ?_); (conv => whnf)))))
  refine at_loop hK [] [2, 3, 5] (fun i : Nat => ⟨[(2, .ptr 4 0), (3, .ptr 5 0), (5, .int .i64 i)], [(4, .var 63 (vtxA v).cells), (5, .var 63 (vtxA u).cells)], 6⟩) (fun i => i ≤ v.parents.length ∧ v.parents.take i = u.parents.take i) (fun i => v.parents.length - i) 0 ⟨by simp, by simp⟩ rfl ?_
  rintro i ⟨hi, hall⟩
  by_cases hlt : i < v.parents.length
  · have hxe : v.parents[i]? = some v.parents[i] := List.getElem?_eq_getElem hlt
    have hye : u.parents[i]? = some (u.parents[i]'(by omega)) := List.getElem?_eq_getElem (by omega)
    have hsn : v.parents.take (i + 1) = v.parents.take i ++ [v.parents[i]] := List.take_succ_eq_append_getElem hlt
    have hsu : u.parents.take (i + 1) = u.parents.take i ++ [u.parents[i]'(by omega)] := List.take_succ_eq_append_getElem (by omega)
    generalize v.parents[i] = x at *
    generalize u.parents[i]'(by omega) = y at *
    by_cases h : x = y
    · subst h
      (repeat (any_goals (first | (with_reducible apply at_seq) | ((with_reducible apply at_regS Θ_ok); (conv => whnf)) | ((refine go ?_); (conv => whnf)) | ((refine go2 (fun xe hxe => ?_)); (conv => whnf)) | ((with_reducible refine cnd_d (fun hq => ?_) (fun hq => ?_)) <;> (conv => whnf)) | ((with_reducible refine cnd_i (fun hq => ?_) (fun hq => ?_)) <;> ((try simp only [decide_eq_true_eq, decide_eq_false_iff_not, Bool.not_eq_true', Bool.not_eq_false', beq_iff_eq, bne_iff_ne, beq_eq_false_iff_ne, bne_eq_false_iff_eq, ne_eq] at hq) <;> (first | omega | (conv => whnf)))) | ((with_reducible first | apply at_cond | apply at_ret | apply at_exit | apply at_skip); (conv => whnf)) | (with_reducible apply at_block) | ((with_reducible refine at_regD Θ_ok mixed (by kernel_rfl) ?_); (conv => whnf)))))
      · exact absurd trivial hq
      · exact ⟨i + 1, ⟨by omega, by rw [hsn, hsu, hall]⟩, by omega, rfl⟩
    · (repeat (any_goals (first | (with_reducible apply at_seq) | ((with_reducible apply at_regS Θ_ok); (conv => whnf)) | ((refine go ?_); (conv => whnf)) | ((refine go2 (fun xe hxe => ?_)); (conv => whnf)) | ((with_reducible refine cnd_d (fun hq => ?_) (fun hq => ?_)) <;> (conv => whnf)) | ((with_reducible refine cnd_i (fun hq => ?_) (fun hq => ?_)) <;> ((try simp only [decide_eq_true_eq, decide_eq_false_iff_not, Bool.not_eq_true', Bool.not_eq_false', beq_iff_eq, bne_iff_ne, beq_eq_false_iff_ne, bne_eq_false_iff_eq, ne_eq] at hq) <;> (first | omega | (conv => whnf)))) | ((with_reducible first | apply at_cond | apply at_ret | apply at_exit | apply at_skip); (conv => whnf)) | (with_reducible apply at_block) | ((with_reducible refine at_regD Θ_ok mixed (by kernel_rfl) ?_); (conv => whnf)))))
      exact hno _ (by rw [he]; exact lEq_ne hxe hye h)
  · (repeat (any_goals (first | (with_reducible apply at_seq) | ((with_reducible apply at_regS Θ_ok); (conv => whnf)) | ((refine go ?_); (conv => whnf)) | ((refine go2 (fun xe hxe => ?_)); (conv => whnf)) | ((with_reducible refine cnd_d (fun hq => ?_) (fun hq => ?_)) <;> (conv => whnf)) | ((with_reducible refine cnd_i (fun hq => ?_) (fun hq => ?_)) <;> ((try simp only [decide_eq_true_eq, decide_eq_false_iff_not, Bool.not_eq_true', Bool.not_eq_false', beq_iff_eq, bne_iff_ne, beq_eq_false_iff_ne, bne_eq_false_iff_eq, ne_eq] at hq) <;> (first | omega | (conv => whnf)))) | ((with_reducible first | apply at_cond | apply at_ret | apply at_exit | apply at_skip); (conv => whnf)) | (with_reducible apply at_block) | ((with_reducible refine at_regD Θ_ok mixed (by kernel_rfl) ?_); (conv => whnf)))))
    rw [List.take_of_length_le (by omega), List.take_of_length_le (by omega)] at hall
    exact hno _ (by rw [he, hall]; simp)
theorem sslt_c (v u : Vtx) : ConV Try.prog 77 [vtxA v, vtxA u] [] (.bool (slt v u)) [] := by
  refine con_eq Θ_ok Try.func77 rfl rfl false 0 4 rfl rfl rfl rfl fun K hK hb1 hb2 => ?_; simp only [argsV, enc, Nat.reduceAdd]
  (repeat (any_goals (first | (with_reducible apply at_seq) | ((with_reducible apply at_regS Θ_ok); (conv => whnf)) | ((refine go ?_); (conv => whnf)) | ((refine go2 (fun xe hxe => ?_)); (conv => whnf)) | ((with_reducible refine cnd_d (fun hq => ?_) (fun hq => ?_)) <;> (conv => whnf)) | ((with_reducible refine cnd_i (fun hq => ?_) (fun hq => ?_)) <;> ((try simp only [decide_eq_true_eq, decide_eq_false_iff_not, Bool.not_eq_true', Bool.not_eq_false', beq_iff_eq, bne_iff_ne, beq_eq_false_iff_ne, bne_eq_false_iff_eq, ne_eq] at hq) <;> (first | omega | (conv => whnf)))) | ((with_reducible first | apply at_cond | apply at_ret | apply at_exit | apply at_skip); (conv => whnf)) | (with_reducible apply at_block) | ((with_reducible refine at_regD Θ_ok mixed (by kernel_rfl) ?_); (conv => whnf)))))
  all_goals (refine ⟨?_, rfl⟩; simp_all [slt])
theorem sdone_c (w : Wrl) (p : Ppl) (hc : comV w.com = true) (hm : mems w.com p.members = true) : ConV Try.prog 54 [wrlA w, pplA p] [] (.bool (don w.com p)) [] := by
  have h1 := mems_in hm
  have h2 := mems_len7 hm
  have h3 := (comV_iff.1 hc).2
  refine con_eq Θ_ok Try.func54 rfl rfl false 0 4 rfl rfl rfl rfl fun K hK hb1 hb2 => ?_; simp only [argsV, enc, Nat.reduceAdd]
  (repeat (any_goals (first | (with_reducible apply at_seq) | ((with_reducible apply at_regS Θ_ok); (conv => whnf)) | ((refine go ?_); (conv => whnf)) | ((refine go2 (fun xe hxe => ?_)); (conv => whnf)) | ((with_reducible refine cnd_d (fun hq => ?_) (fun hq => ?_)) <;> (conv => whnf)) | ((with_reducible refine cnd_i (fun hq => ?_) (fun hq => ?_)) <;> ((try simp only [decide_eq_true_eq, decide_eq_false_iff_not, Bool.not_eq_true', Bool.not_eq_false', beq_iff_eq, bne_iff_ne, beq_eq_false_iff_ne, bne_eq_false_iff_eq, ne_eq] at hq) <;> (first | omega | (conv => whnf)))) | ((with_reducible first | apply at_cond | apply at_ret | apply at_exit | apply at_skip); (conv => whnf)) | (with_reducible apply at_block) | ((with_reducible refine at_regD Θ_ok mixed (by kernel_rfl) ?_); (conv => whnf)) | ((with_reducible refine call_r ?_); (conv => whnf); (first | ((with_reducible refine call_i (wei_c _ _ hc h1 (by omega)) ?_); (conv => whnf)) | ((with_reducible refine call_i (quo_c _ hc) ?_); (conv => whnf)))))))
  exact ⟨rfl, rfl⟩
theorem spro_c (w : Wrl) (hc : comV w.com = true) : ConV Try.prog 48 [wrlA w] [] (.bool (proS w.com w.bad w.props)) [] := by
  refine con_eq Θ_ok Try.func48 rfl rfl false 0 4 rfl rfl rfl rfl fun K hK hb1 hb2 => ?_; simp only [argsV, enc, Nat.reduceAdd]
  simp [toDL, V.toD, bnd, encD, D.cells] at hb1
  (repeat (any_goals (first | (with_reducible apply at_seq) | ((with_reducible apply at_regS Θ_ok); (conv => whnf)) | ((refine go ?_); (conv => whnf)) | ((refine go2 (fun xe hxe => ?_)); (conv => whnf)) | ((with_reducible refine cnd_d (fun hq => ?_) (fun hq => ?_)) <;> (conv => whnf)) | ((with_reducible refine cnd_i (fun hq => ?_) (fun hq => ?_)) <;> ((try simp only [decide_eq_true_eq, decide_eq_false_iff_not, Bool.not_eq_true', Bool.not_eq_false', beq_iff_eq, bne_iff_ne, beq_eq_false_iff_ne, bne_eq_false_iff_eq, ne_eq] at hq) <;> (first | omega | (conv => whnf)))) | ((with_reducible first | apply at_cond | apply at_ret | apply at_exit | apply at_skip); (conv => whnf)) | (with_reducible apply at_block) | ((with_reducible refine at_regD Θ_ok mixed (by kernel_rfl) ?_); (conv => whnf)))))
  refine at_loop hK [] [1, 3] (fun i : Nat => ⟨[(1, .ptr 4 0), (3, .int .i64 i)], [(4, .var 29 (wrlA w).cells)], 5⟩) (fun i => i ≤ w.props.length ∧ ∀ j, j < i → proAt w.com w.bad w.props j = true) (fun i => w.props.length - i) 0 ⟨by simp, by simp⟩ rfl ?_
  rintro i ⟨hi, hall⟩
  by_cases hlt : i < w.props.length
  · have hxe : w.props[i]? = some w.props[i] := List.getElem?_eq_getElem hlt
    have hno : proAt w.com w.bad w.props i = false → V.bool false = V.bool (proS w.com w.bad w.props) ∧ ([] : VH) = [] := fun h => ⟨by rw [proS, allTo_f hlt h, Bool.false_and], rfl⟩
    have hA : proAt w.com w.bad w.props i = (oneP w.com w.props[i] && allTo i (fun k => fitP w.bad w.props[i] (w.props.getD k p0))) := by simp only [proAt, getD_of hxe]
    generalize w.props[i] = p at *
    have hvc := vtx_c w.com p.v hc
    have hmc := mems_c w.com p.members
    cases h1 : vtxS w.com p.v
    · rw [h1] at hvc
      (repeat (any_goals (first | (with_reducible apply at_seq) | ((with_reducible apply at_regS Θ_ok); (conv => whnf)) | ((refine go ?_); (conv => whnf)) | ((refine go2 (fun xe hxe => ?_)); (conv => whnf)) | ((with_reducible refine cnd_d (fun hq => ?_) (fun hq => ?_)) <;> (conv => whnf)) | ((with_reducible refine cnd_i (fun hq => ?_) (fun hq => ?_)) <;> ((try simp only [decide_eq_true_eq, decide_eq_false_iff_not, Bool.not_eq_true', Bool.not_eq_false', beq_iff_eq, bne_iff_ne, beq_eq_false_iff_ne, bne_eq_false_iff_eq, ne_eq] at hq) <;> (first | omega | (conv => whnf)))) | ((with_reducible first | apply at_cond | apply at_ret | apply at_exit | apply at_skip); (conv => whnf)) | (with_reducible apply at_block) | ((with_reducible refine at_regD Θ_ok mixed (by kernel_rfl) ?_); (conv => whnf)) | ((with_reducible refine call_r ?_); (conv => whnf); (first | ((with_reducible refine call_i (hvc) ?_); (conv => whnf)) | ((with_reducible refine call_i (hmc) ?_); (conv => whnf)))))))
      exact hno (by simp [hA, oneP, h1])
    rw [h1] at hvc
    cases h2 : mems w.com p.members
    · rw [h2] at hmc
      (repeat (any_goals (first | (with_reducible apply at_seq) | ((with_reducible apply at_regS Θ_ok); (conv => whnf)) | ((refine go ?_); (conv => whnf)) | ((refine go2 (fun xe hxe => ?_)); (conv => whnf)) | ((with_reducible refine cnd_d (fun hq => ?_) (fun hq => ?_)) <;> (conv => whnf)) | ((with_reducible refine cnd_i (fun hq => ?_) (fun hq => ?_)) <;> ((try simp only [decide_eq_true_eq, decide_eq_false_iff_not, Bool.not_eq_true', Bool.not_eq_false', beq_iff_eq, bne_iff_ne, beq_eq_false_iff_ne, bne_eq_false_iff_eq, ne_eq] at hq) <;> (first | omega | (conv => whnf)))) | ((with_reducible first | apply at_cond | apply at_ret | apply at_exit | apply at_skip); (conv => whnf)) | (with_reducible apply at_block) | ((with_reducible refine at_regD Θ_ok mixed (by kernel_rfl) ?_); (conv => whnf)) | ((with_reducible refine call_r ?_); (conv => whnf); (first | ((with_reducible refine call_i (hvc) ?_); (conv => whnf)) | ((with_reducible refine call_i (hmc) ?_); (conv => whnf)))))))
      exact hno (by simp [hA, oneP, h2])
    rw [h2] at hmc
    (repeat (any_goals (first | (with_reducible apply at_seq) | ((with_reducible apply at_regS Θ_ok); (conv => whnf)) | ((refine go ?_); (conv => whnf)) | ((refine go2 (fun xe hxe => ?_)); (conv => whnf)) | ((with_reducible refine cnd_d (fun hq => ?_) (fun hq => ?_)) <;> (conv => whnf)) | ((with_reducible refine cnd_i (fun hq => ?_) (fun hq => ?_)) <;> ((try simp only [decide_eq_true_eq, decide_eq_false_iff_not, Bool.not_eq_true', Bool.not_eq_false', beq_iff_eq, bne_iff_ne, beq_eq_false_iff_ne, bne_eq_false_iff_eq, ne_eq] at hq) <;> (first | omega | (conv => whnf)))) | ((with_reducible first | apply at_cond | apply at_ret | apply at_exit | apply at_skip); (conv => whnf)) | (with_reducible apply at_block) | ((with_reducible refine at_regD Θ_ok mixed (by kernel_rfl) ?_); (conv => whnf)) | ((with_reducible refine call_r ?_); (conv => whnf); (first | ((with_reducible refine call_i (hvc) ?_); (conv => whnf)) | ((with_reducible refine call_i (hmc) ?_); (conv => whnf)))))))
    refine at_loop hK [] [1, 3, 4, 5] (fun k : Nat => ⟨[(1, .ptr 4 0), (3, .int .i64 i), (4, .ptr 5 0), (5, .int .i64 k)], [(4, .var 29 (wrlA w).cells), (5, .var 65 (pplA p).cells)], 6⟩) (fun k => k ≤ i ∧ ∀ j, j < k → fitP w.bad p (w.props.getD j p0) = true) (fun k => i - k) 0 ⟨by simp, by simp⟩ rfl ?_
    rintro k ⟨hk, hkall⟩
    by_cases hkl : k < i
    · have hxk : w.props[k]? = some (w.props.getD k p0) := by rw [List.getD_eq_getElem?_getD, List.getElem?_eq_getElem (show k < w.props.length by omega)]; rfl
      have hyes := all_step hkall (p := fun j => fitP w.bad p (w.props.getD j p0)) (i := k)
      have hnk : fitP w.bad p (w.props.getD k p0) = false → V.bool false = V.bool (proS w.com w.bad w.props) ∧ ([] : VH) = [] := fun h => hno (by rw [hA, allTo_f hkl h, Bool.and_false])
      generalize w.props.getD k p0 = q at *
      have hsc := sslt_c p.v q.v
      have hqc := same_c p.v q.v
      cases h3 : slt p.v q.v
      · rw [h3] at hsc
        (repeat (any_goals (first | (with_reducible apply at_seq) | ((with_reducible apply at_regS Θ_ok); (conv => whnf)) | ((refine go ?_); (conv => whnf)) | ((refine go2 (fun xe hxe => ?_)); (conv => whnf)) | ((with_reducible refine cnd_d (fun hq => ?_) (fun hq => ?_)) <;> (conv => whnf)) | ((with_reducible refine cnd_i (fun hq => ?_) (fun hq => ?_)) <;> ((try simp only [decide_eq_true_eq, decide_eq_false_iff_not, Bool.not_eq_true', Bool.not_eq_false', beq_iff_eq, bne_iff_ne, beq_eq_false_iff_ne, bne_eq_false_iff_eq, ne_eq] at hq) <;> (first | omega | (conv => whnf)))) | ((with_reducible first | apply at_cond | apply at_ret | apply at_exit | apply at_skip); (conv => whnf)) | (with_reducible apply at_block) | ((with_reducible refine at_regD Θ_ok mixed (by kernel_rfl) ?_); (conv => whnf)) | ((with_reducible refine call_r ?_); (conv => whnf); (first | ((with_reducible refine call_i (hsc) ?_); (conv => whnf)) | ((with_reducible refine call_i (hqc) ?_); (conv => whnf)))))))
        exact ⟨k + 1, ⟨by omega, hyes (by simp [fitP, h3])⟩, by omega, rfl⟩
      rw [h3] at hsc
      cases h4 : vEq p.v q.v
      rotate_left
      · rw [h4] at hqc
        (repeat (any_goals (first | (with_reducible apply at_seq) | ((with_reducible apply at_regS Θ_ok); (conv => whnf)) | ((refine go ?_); (conv => whnf)) | ((refine go2 (fun xe hxe => ?_)); (conv => whnf)) | ((with_reducible refine cnd_d (fun hq => ?_) (fun hq => ?_)) <;> (conv => whnf)) | ((with_reducible refine cnd_i (fun hq => ?_) (fun hq => ?_)) <;> ((try simp only [decide_eq_true_eq, decide_eq_false_iff_not, Bool.not_eq_true', Bool.not_eq_false', beq_iff_eq, bne_iff_ne, beq_eq_false_iff_ne, bne_eq_false_iff_eq, ne_eq] at hq) <;> (first | omega | (conv => whnf)))) | ((with_reducible first | apply at_cond | apply at_ret | apply at_exit | apply at_skip); (conv => whnf)) | (with_reducible apply at_block) | ((with_reducible refine at_regD Θ_ok mixed (by kernel_rfl) ?_); (conv => whnf)) | ((with_reducible refine call_r ?_); (conv => whnf); (first | ((with_reducible refine call_i (hsc) ?_); (conv => whnf)) | ((with_reducible refine call_i (hqc) ?_); (conv => whnf)))))))
        exact hnk (by simp [fitP, h3, h4])
      rw [h4] at hqc
      by_cases h5 : p.v.author = w.bad
      rotate_left
      · (repeat (any_goals (first | (with_reducible apply at_seq) | ((with_reducible apply at_regS Θ_ok); (conv => whnf)) | ((refine go ?_); (conv => whnf)) | ((refine go2 (fun xe hxe => ?_)); (conv => whnf)) | ((with_reducible refine cnd_d (fun hq => ?_) (fun hq => ?_)) <;> (conv => whnf)) | ((with_reducible refine cnd_i (fun hq => ?_) (fun hq => ?_)) <;> ((try simp only [decide_eq_true_eq, decide_eq_false_iff_not, Bool.not_eq_true', Bool.not_eq_false', beq_iff_eq, bne_iff_ne, beq_eq_false_iff_ne, bne_eq_false_iff_eq, ne_eq] at hq) <;> (first | omega | (conv => whnf)))) | ((with_reducible first | apply at_cond | apply at_ret | apply at_exit | apply at_skip); (conv => whnf)) | (with_reducible apply at_block) | ((with_reducible refine at_regD Θ_ok mixed (by kernel_rfl) ?_); (conv => whnf)) | ((with_reducible refine call_r ?_); (conv => whnf); (first | ((with_reducible refine call_i (hsc) ?_); (conv => whnf)) | ((with_reducible refine call_i (hqc) ?_); (conv => whnf)))))))
        exact hnk (by simp [fitP, h3, h5])
      have hfe : fitP w.bad p q = !both w.bad p.members q.members := by simp [fitP, h3, h4, h5]
      (repeat (any_goals (first | (with_reducible apply at_seq) | ((with_reducible apply at_regS Θ_ok); (conv => whnf)) | ((refine go ?_); (conv => whnf)) | ((refine go2 (fun xe hxe => ?_)); (conv => whnf)) | ((with_reducible refine cnd_d (fun hq => ?_) (fun hq => ?_)) <;> (conv => whnf)) | ((with_reducible refine cnd_i (fun hq => ?_) (fun hq => ?_)) <;> ((try simp only [decide_eq_true_eq, decide_eq_false_iff_not, Bool.not_eq_true', Bool.not_eq_false', beq_iff_eq, bne_iff_ne, beq_eq_false_iff_ne, bne_eq_false_iff_eq, ne_eq] at hq) <;> (first | omega | (conv => whnf)))) | ((with_reducible first | apply at_cond | apply at_ret | apply at_exit | apply at_skip); (conv => whnf)) | (with_reducible apply at_block) | ((with_reducible refine at_regD Θ_ok mixed (by kernel_rfl) ?_); (conv => whnf)) | ((with_reducible refine call_r ?_); (conv => whnf); (first | ((with_reducible refine call_i (hsc) ?_); (conv => whnf)) | ((with_reducible refine call_i (hqc) ?_); (conv => whnf)))))))
      refine at_loop hK [] [1, 3, 4, 5, 6, 7] (fun n : Nat => ⟨[(1, .ptr 4 0), (3, .int .i64 i), (4, .ptr 5 0), (5, .int .i64 k), (6, .ptr 6 0), (7, .int .i64 n)], [(4, .var 29 (wrlA w).cells), (5, .var 65 (pplA p).cells), (6, .var 65 (pplA q).cells)], 7⟩) (fun n => n ≤ p.members.length ∧ ∀ m ∈ p.members.take n, (m != w.bad && q.members.contains m) = false) (fun n => p.members.length - n) 0 ⟨by simp, by simp⟩ rfl ?_
      rintro n ⟨hn, hnall⟩
      by_cases hnl : n < p.members.length
      · have hxm : p.members[n]? = some p.members[n] := List.getElem?_eq_getElem hnl
        have hsn : p.members.take (n + 1) = p.members.take n ++ [p.members[n]] := List.take_succ_eq_append_getElem hnl
        have hmm : p.members[n] ∈ p.members := List.getElem_mem hnl
        have hml : p.members.length ≤ 7 := by have := mems_len7 h2; have := (comV_iff.1 hc).2; omega
        generalize p.members[n] = m at *
        have hhc := has_c q.members m
        by_cases h6 : m = w.bad
        · (repeat (any_goals (first | (with_reducible apply at_seq) | ((with_reducible apply at_regS Θ_ok); (conv => whnf)) | ((refine go ?_); (conv => whnf)) | ((refine go2 (fun xe hxe => ?_)); (conv => whnf)) | ((with_reducible refine cnd_d (fun hq => ?_) (fun hq => ?_)) <;> (conv => whnf)) | ((with_reducible refine cnd_i (fun hq => ?_) (fun hq => ?_)) <;> ((try simp only [decide_eq_true_eq, decide_eq_false_iff_not, Bool.not_eq_true', Bool.not_eq_false', beq_iff_eq, bne_iff_ne, beq_eq_false_iff_ne, bne_eq_false_iff_eq, ne_eq] at hq) <;> (first | omega | (conv => whnf)))) | ((with_reducible first | apply at_cond | apply at_ret | apply at_exit | apply at_skip); (conv => whnf)) | (with_reducible apply at_block) | ((with_reducible refine at_regD Θ_ok mixed (by kernel_rfl) ?_); (conv => whnf)) | ((with_reducible refine call_r ?_); (conv => whnf); (first | ((with_reducible refine call_i (hhc) ?_); (conv => whnf)))))))
          exact ⟨n + 1, ⟨by omega, by rw [hsn]; exact tk_snoc hnall (by simp [h6])⟩, by omega, rfl⟩
        · cases h7 : q.members.contains m
          · rw [h7] at hhc
            (repeat (any_goals (first | (with_reducible apply at_seq) | ((with_reducible apply at_regS Θ_ok); (conv => whnf)) | ((refine go ?_); (conv => whnf)) | ((refine go2 (fun xe hxe => ?_)); (conv => whnf)) | ((with_reducible refine cnd_d (fun hq => ?_) (fun hq => ?_)) <;> (conv => whnf)) | ((with_reducible refine cnd_i (fun hq => ?_) (fun hq => ?_)) <;> ((try simp only [decide_eq_true_eq, decide_eq_false_iff_not, Bool.not_eq_true', Bool.not_eq_false', beq_iff_eq, bne_iff_ne, beq_eq_false_iff_ne, bne_eq_false_iff_eq, ne_eq] at hq) <;> (first | omega | (conv => whnf)))) | ((with_reducible first | apply at_cond | apply at_ret | apply at_exit | apply at_skip); (conv => whnf)) | (with_reducible apply at_block) | ((with_reducible refine at_regD Θ_ok mixed (by kernel_rfl) ?_); (conv => whnf)) | ((with_reducible refine call_r ?_); (conv => whnf); (first | ((with_reducible refine call_i (hhc) ?_); (conv => whnf)))))))
            exact ⟨n + 1, ⟨by omega, by rw [hsn]; exact tk_snoc hnall (by rw [h7, Bool.and_false])⟩, by omega, rfl⟩
          · rw [h7] at hhc
            (repeat (any_goals (first | (with_reducible apply at_seq) | ((with_reducible apply at_regS Θ_ok); (conv => whnf)) | ((refine go ?_); (conv => whnf)) | ((refine go2 (fun xe hxe => ?_)); (conv => whnf)) | ((with_reducible refine cnd_d (fun hq => ?_) (fun hq => ?_)) <;> (conv => whnf)) | ((with_reducible refine cnd_i (fun hq => ?_) (fun hq => ?_)) <;> ((try simp only [decide_eq_true_eq, decide_eq_false_iff_not, Bool.not_eq_true', Bool.not_eq_false', beq_iff_eq, bne_iff_ne, beq_eq_false_iff_ne, bne_eq_false_iff_eq, ne_eq] at hq) <;> (first | omega | (conv => whnf)))) | ((with_reducible first | apply at_cond | apply at_ret | apply at_exit | apply at_skip); (conv => whnf)) | (with_reducible apply at_block) | ((with_reducible refine at_regD Θ_ok mixed (by kernel_rfl) ?_); (conv => whnf)) | ((with_reducible refine call_r ?_); (conv => whnf); (first | ((with_reducible refine call_i (hhc) ?_); (conv => whnf)))))))
            refine hnk ?_
            have : both w.bad p.members q.members = true := List.any_eq_true.2 ⟨m, hmm, by rw [h7]; simpa using h6⟩
            rw [hfe, this]
            rfl
      · (repeat (any_goals (first | (with_reducible apply at_seq) | ((with_reducible apply at_regS Θ_ok); (conv => whnf)) | ((refine go ?_); (conv => whnf)) | ((refine go2 (fun xe hxe => ?_)); (conv => whnf)) | ((with_reducible refine cnd_d (fun hq => ?_) (fun hq => ?_)) <;> (conv => whnf)) | ((with_reducible refine cnd_i (fun hq => ?_) (fun hq => ?_)) <;> ((try simp only [decide_eq_true_eq, decide_eq_false_iff_not, Bool.not_eq_true', Bool.not_eq_false', beq_iff_eq, bne_iff_ne, beq_eq_false_iff_ne, bne_eq_false_iff_eq, ne_eq] at hq) <;> (first | omega | (conv => whnf)))) | ((with_reducible first | apply at_cond | apply at_ret | apply at_exit | apply at_skip); (conv => whnf)) | (with_reducible apply at_block) | ((with_reducible refine at_regD Θ_ok mixed (by kernel_rfl) ?_); (conv => whnf)))))
        rw [List.take_of_length_le (by omega)] at hnall
        have : both w.bad p.members q.members = false := by
          rw [Bool.eq_false_iff]
          intro h
          obtain ⟨m, hm, h⟩ := List.any_eq_true.1 h
          rw [hnall m hm] at h
          cases h
        exact ⟨k + 1, ⟨by omega, hyes (by rw [hfe, this]; rfl)⟩, by omega, rfl⟩
    · have hAt : proAt w.com w.bad w.props i = true := by
        rw [hA, allTo_t (fun j hj => hkall j (by omega)), oneP, h1, h2]
        rfl
      (repeat (any_goals (first | (with_reducible apply at_seq) | ((with_reducible apply at_regS Θ_ok); (conv => whnf)) | ((refine go ?_); (conv => whnf)) | ((refine go2 (fun xe hxe => ?_)); (conv => whnf)) | ((with_reducible refine cnd_d (fun hq => ?_) (fun hq => ?_)) <;> (conv => whnf)) | ((with_reducible refine cnd_i (fun hq => ?_) (fun hq => ?_)) <;> ((try simp only [decide_eq_true_eq, decide_eq_false_iff_not, Bool.not_eq_true', Bool.not_eq_false', beq_iff_eq, bne_iff_ne, beq_eq_false_iff_ne, bne_eq_false_iff_eq, ne_eq] at hq) <;> (first | omega | (conv => whnf)))) | ((with_reducible first | apply at_cond | apply at_ret | apply at_exit | apply at_skip); (conv => whnf)) | (with_reducible apply at_block) | ((with_reducible refine at_regD Θ_ok mixed (by kernel_rfl) ?_); (conv => whnf)))))
      exact ⟨i + 1, ⟨by omega, all_step hall hAt⟩, by omega, rfl⟩
  · (repeat (any_goals (first | (with_reducible apply at_seq) | ((with_reducible apply at_regS Θ_ok); (conv => whnf)) | ((refine go ?_); (conv => whnf)) | ((refine go2 (fun xe hxe => ?_)); (conv => whnf)) | ((with_reducible refine cnd_d (fun hq => ?_) (fun hq => ?_)) <;> (conv => whnf)) | ((with_reducible refine cnd_i (fun hq => ?_) (fun hq => ?_)) <;> ((try simp only [decide_eq_true_eq, decide_eq_false_iff_not, Bool.not_eq_true', Bool.not_eq_false', beq_iff_eq, bne_iff_ne, beq_eq_false_iff_ne, bne_eq_false_iff_eq, ne_eq] at hq) <;> (first | omega | (conv => whnf)))) | ((with_reducible first | apply at_cond | apply at_ret | apply at_exit | apply at_skip); (conv => whnf)) | (with_reducible apply at_block) | ((with_reducible refine at_regD Θ_ok mixed (by kernel_rfl) ?_); (conv => whnf)))))
    rw [proS, allTo_t (fun j hj => hall j (by omega)), Bool.true_and]
    exact ⟨rfl, rfl⟩
theorem sview_c (w : Wrl) (g : List Vtx) (hc : comV w.com = true) (hp : proS w.com w.bad w.props = true) : ConV Try.prog 49 [wrlA w, .lst .vtx g] [] (.bool (viwS w.com w.props g)) [] := by
  have hpl := pro_len hp
  have hv : viwS w.com w.props g = (g.all (knw w.com w.props) && graS w.com g) := rfl
  refine con_eq Θ_ok Try.func49 rfl rfl false 0 4 rfl rfl rfl rfl fun K hK hb1 hb2 => ?_; simp only [argsV, enc, Nat.reduceAdd]
  simp [toDL, V.toD, bnd, encD, D.cells] at hb1
  (repeat (any_goals (first | (with_reducible apply at_seq) | ((with_reducible apply at_regS Θ_ok); (conv => whnf)) | ((refine go ?_); (conv => whnf)) | ((refine go2 (fun xe hxe => ?_)); (conv => whnf)) | ((with_reducible refine cnd_d (fun hq => ?_) (fun hq => ?_)) <;> (conv => whnf)) | ((with_reducible refine cnd_i (fun hq => ?_) (fun hq => ?_)) <;> ((try simp only [decide_eq_true_eq, decide_eq_false_iff_not, Bool.not_eq_true', Bool.not_eq_false', beq_iff_eq, bne_iff_ne, beq_eq_false_iff_ne, bne_eq_false_iff_eq, ne_eq] at hq) <;> (first | omega | (conv => whnf)))) | ((with_reducible first | apply at_cond | apply at_ret | apply at_exit | apply at_skip); (conv => whnf)) | (with_reducible apply at_block) | ((with_reducible refine at_regD Θ_ok mixed (by kernel_rfl) ?_); (conv => whnf)))))
  refine at_loop hK [] [1, 2, 5] (fun i : Nat => ⟨[(1, .lst .vtx g), (2, .ptr 4 0), (5, .int .i64 i)], [(4, .var 29 (wrlA w).cells)], 5⟩) (fun i => i ≤ g.length ∧ ∀ v ∈ g.take i, knw w.com w.props v = true) (fun i => g.length - i) 0 ⟨by simp, by simp⟩ rfl ?_
  rintro i ⟨hi, hall⟩
  by_cases hlt : i < g.length
  · have hxe : g[i]? = some g[i] := List.getElem?_eq_getElem hlt
    have hsn : g.take (i + 1) = g.take i ++ [g[i]] := List.take_succ_eq_append_getElem hlt
    have hvm : g[i] ∈ g := List.getElem_mem hlt
    generalize g[i] = v at *
    (repeat (any_goals (first | (with_reducible apply at_seq) | ((with_reducible apply at_regS Θ_ok); (conv => whnf)) | ((refine go ?_); (conv => whnf)) | ((refine go2 (fun xe hxe => ?_)); (conv => whnf)) | ((with_reducible refine cnd_d (fun hq => ?_) (fun hq => ?_)) <;> (conv => whnf)) | ((with_reducible refine cnd_i (fun hq => ?_) (fun hq => ?_)) <;> ((try simp only [decide_eq_true_eq, decide_eq_false_iff_not, Bool.not_eq_true', Bool.not_eq_false', beq_iff_eq, bne_iff_ne, beq_eq_false_iff_ne, bne_eq_false_iff_eq, ne_eq] at hq) <;> (first | omega | (conv => whnf)))) | ((with_reducible first | apply at_cond | apply at_ret | apply at_exit | apply at_skip); (conv => whnf)) | (with_reducible apply at_block) | ((with_reducible refine at_regD Θ_ok mixed (by kernel_rfl) ?_); (conv => whnf)))))
    refine at_loop hK [] [1, 2, 5, 6, 7] (fun k : Nat => ⟨[(1, .lst .vtx g), (2, .ptr 4 0), (5, .int .i64 i), (6, .bool (knw w.com (w.props.take k) v)), (7, .int .i64 k)], [(4, .var 29 (wrlA w).cells)], 5⟩) (fun k => k ≤ w.props.length) (fun k => w.props.length - k) 0 (by simp) rfl ?_
    intro k hk
    by_cases hkl : k < w.props.length
    · have hxk : w.props[k]? = some w.props[k] := List.getElem?_eq_getElem hkl
      have hks : w.props.take (k + 1) = w.props.take k ++ [w.props[k]] := List.take_succ_eq_append_getElem hkl
      have hom := pro_one hp _ (List.getElem_mem hkl)
      generalize w.props[k] = p at *
      simp only [oneP, Bool.and_eq_true] at hom
      have hks2 : knw w.com (w.props.take (k + 1)) v = (knw w.com (w.props.take k) v || (don w.com p && vEq p.v v)) := by rw [hks]; simp [knw]
      have hdc := sdone_c w p hc hom.2
      have hqc := same_c p.v v
      cases h1 : knw w.com (w.props.take k) v
      · cases h2 : don w.com p
        · rw [h2] at hdc
          (repeat (any_goals (first | (with_reducible apply at_seq) | ((with_reducible apply at_regS Θ_ok); (conv => whnf)) | ((refine go ?_); (conv => whnf)) | ((refine go2 (fun xe hxe => ?_)); (conv => whnf)) | ((with_reducible refine cnd_d (fun hq => ?_) (fun hq => ?_)) <;> (conv => whnf)) | ((with_reducible refine cnd_i (fun hq => ?_) (fun hq => ?_)) <;> ((try simp only [decide_eq_true_eq, decide_eq_false_iff_not, Bool.not_eq_true', Bool.not_eq_false', beq_iff_eq, bne_iff_ne, beq_eq_false_iff_ne, bne_eq_false_iff_eq, ne_eq] at hq) <;> (first | omega | (conv => whnf)))) | ((with_reducible first | apply at_cond | apply at_ret | apply at_exit | apply at_skip); (conv => whnf)) | (with_reducible apply at_block) | ((with_reducible refine at_regD Θ_ok mixed (by kernel_rfl) ?_); (conv => whnf)) | ((with_reducible refine call_r ?_); (conv => whnf); (first | ((with_reducible refine call_i (hdc) ?_); (conv => whnf)) | ((with_reducible refine call_i (hqc) ?_); (conv => whnf)))))))
          exact ⟨k + 1, by omega, by omega, by rw [hks2, h1, h2]; rfl⟩
        · rw [h2] at hdc
          (repeat (any_goals (first | (with_reducible apply at_seq) | ((with_reducible apply at_regS Θ_ok); (conv => whnf)) | ((refine go ?_); (conv => whnf)) | ((refine go2 (fun xe hxe => ?_)); (conv => whnf)) | ((with_reducible refine cnd_d (fun hq => ?_) (fun hq => ?_)) <;> (conv => whnf)) | ((with_reducible refine cnd_i (fun hq => ?_) (fun hq => ?_)) <;> ((try simp only [decide_eq_true_eq, decide_eq_false_iff_not, Bool.not_eq_true', Bool.not_eq_false', beq_iff_eq, bne_iff_ne, beq_eq_false_iff_ne, bne_eq_false_iff_eq, ne_eq] at hq) <;> (first | omega | (conv => whnf)))) | ((with_reducible first | apply at_cond | apply at_ret | apply at_exit | apply at_skip); (conv => whnf)) | (with_reducible apply at_block) | ((with_reducible refine at_regD Θ_ok mixed (by kernel_rfl) ?_); (conv => whnf)) | ((with_reducible refine call_r ?_); (conv => whnf); (first | ((with_reducible refine call_i (hdc) ?_); (conv => whnf)) | ((with_reducible refine call_i (hqc) ?_); (conv => whnf)))))))
          exact ⟨k + 1, by omega, by omega, by rw [hks2, h1, h2]; rfl⟩
      · (repeat (any_goals (first | (with_reducible apply at_seq) | ((with_reducible apply at_regS Θ_ok); (conv => whnf)) | ((refine go ?_); (conv => whnf)) | ((refine go2 (fun xe hxe => ?_)); (conv => whnf)) | ((with_reducible refine cnd_d (fun hq => ?_) (fun hq => ?_)) <;> (conv => whnf)) | ((with_reducible refine cnd_i (fun hq => ?_) (fun hq => ?_)) <;> ((try simp only [decide_eq_true_eq, decide_eq_false_iff_not, Bool.not_eq_true', Bool.not_eq_false', beq_iff_eq, bne_iff_ne, beq_eq_false_iff_ne, bne_eq_false_iff_eq, ne_eq] at hq) <;> (first | omega | (conv => whnf)))) | ((with_reducible first | apply at_cond | apply at_ret | apply at_exit | apply at_skip); (conv => whnf)) | (with_reducible apply at_block) | ((with_reducible refine at_regD Θ_ok mixed (by kernel_rfl) ?_); (conv => whnf)) | ((with_reducible refine call_r ?_); (conv => whnf); (first | ((with_reducible refine call_i (hdc) ?_); (conv => whnf)) | ((with_reducible refine call_i (hqc) ?_); (conv => whnf)))))))
        exact ⟨k + 1, by omega, by omega, by rw [hks2, h1]; rfl⟩
    · rw [List.take_of_length_le (by omega)]
      cases h1 : knw w.com w.props v
      · (repeat (any_goals (first | (with_reducible apply at_seq) | ((with_reducible apply at_regS Θ_ok); (conv => whnf)) | ((refine go ?_); (conv => whnf)) | ((refine go2 (fun xe hxe => ?_)); (conv => whnf)) | ((with_reducible refine cnd_d (fun hq => ?_) (fun hq => ?_)) <;> (conv => whnf)) | ((with_reducible refine cnd_i (fun hq => ?_) (fun hq => ?_)) <;> ((try simp only [decide_eq_true_eq, decide_eq_false_iff_not, Bool.not_eq_true', Bool.not_eq_false', beq_iff_eq, bne_iff_ne, beq_eq_false_iff_ne, bne_eq_false_iff_eq, ne_eq] at hq) <;> (first | omega | (conv => whnf)))) | ((with_reducible first | apply at_cond | apply at_ret | apply at_exit | apply at_skip); (conv => whnf)) | (with_reducible apply at_block) | ((with_reducible refine at_regD Θ_ok mixed (by kernel_rfl) ?_); (conv => whnf)))))
        have : g.all (knw w.com w.props) = false := by
          rw [Bool.eq_false_iff]
          intro h
          rw [List.all_eq_true.1 h v hvm] at h1
          cases h1
        exact ⟨by rw [hv, this, Bool.false_and], rfl⟩
      · (repeat (any_goals (first | (with_reducible apply at_seq) | ((with_reducible apply at_regS Θ_ok); (conv => whnf)) | ((refine go ?_); (conv => whnf)) | ((refine go2 (fun xe hxe => ?_)); (conv => whnf)) | ((with_reducible refine cnd_d (fun hq => ?_) (fun hq => ?_)) <;> (conv => whnf)) | ((with_reducible refine cnd_i (fun hq => ?_) (fun hq => ?_)) <;> ((try simp only [decide_eq_true_eq, decide_eq_false_iff_not, Bool.not_eq_true', Bool.not_eq_false', beq_iff_eq, bne_iff_ne, beq_eq_false_iff_ne, bne_eq_false_iff_eq, ne_eq] at hq) <;> (first | omega | (conv => whnf)))) | ((with_reducible first | apply at_cond | apply at_ret | apply at_exit | apply at_skip); (conv => whnf)) | (with_reducible apply at_block) | ((with_reducible refine at_regD Θ_ok mixed (by kernel_rfl) ?_); (conv => whnf)))))
        exact ⟨i + 1, ⟨by omega, by rw [hsn]; exact tk_snoc hall h1⟩, by omega, rfl⟩
  · rw [List.take_of_length_le (by omega)] at hall
    (repeat (any_goals (first | (with_reducible apply at_seq) | ((with_reducible apply at_regS Θ_ok); (conv => whnf)) | ((refine go ?_); (conv => whnf)) | ((refine go2 (fun xe hxe => ?_)); (conv => whnf)) | ((with_reducible refine cnd_d (fun hq => ?_) (fun hq => ?_)) <;> (conv => whnf)) | ((with_reducible refine cnd_i (fun hq => ?_) (fun hq => ?_)) <;> ((try simp only [decide_eq_true_eq, decide_eq_false_iff_not, Bool.not_eq_true', Bool.not_eq_false', beq_iff_eq, bne_iff_ne, beq_eq_false_iff_ne, bne_eq_false_iff_eq, ne_eq] at hq) <;> (first | omega | (conv => whnf)))) | ((with_reducible first | apply at_cond | apply at_ret | apply at_exit | apply at_skip); (conv => whnf)) | (with_reducible apply at_block) | ((with_reducible refine at_regD Θ_ok mixed (by kernel_rfl) ?_); (conv => whnf)) | ((with_reducible refine call_r ?_); (conv => whnf); (first | ((with_reducible refine call_i (graS_c _ _) ?_); (conv => whnf)))))))
    exact ⟨by rw [hv, List.all_eq_true.2 hall, Bool.true_and], rfl⟩
end Go.Proofs.Ytfamejohdhkffaa.Am
namespace Go.Proofs.Ytfamejohdhkffaa.Am
set_option linter.unusedSimpArgs false
set_option linter.unusedVariables false
open Go
attribute [local irreducible] Mk Need Ari Get Idx Cnd CallM CallA Opt Unch At ConV
set_option maxRecDepth 10000
/-- nothing -/
abbrev wrlZ : V := .agg [.nils, .nils, .int .i64 0, .nils, .nils]
theorem snew_c (c l : List Int) (b : Int) (hl : c.length ≤ 2000000) : ConV Try.prog 9 [.lst (.int .i64) c, .lst (.int .i64) l, .int .i64 b] [] (if newS c l b then .tup [wrlA (newW c l b), .bool true] else .tup [wrlZ, .bool false]) [] := by
  have hL := leaV_c c l
  refine con_eq Θ_ok Try.func9 rfl rfl true 0 4 rfl rfl rfl rfl fun K hK hb1 hb2 => ?_; simp only [argsV, enc, Nat.reduceAdd]
  simp [toDL, V.toD, bnd, encD, D.cells] at hb1
  cases h1 : comV c && leaS c l
  · rw [h1] at hL
    have hn : newS c l b = false := by
      rw [Bool.and_eq_false_iff] at h1
      rcases h1 with h1 | h1 <;> simp [newS, h1]
    rw [hn]
    (repeat (any_goals (first | (with_reducible apply at_seq) | ((with_reducible apply at_regS Θ_ok); (conv => whnf)) | ((refine go ?_); (conv => whnf)) | ((refine go2 (fun xe hxe => ?_)); (conv => whnf)) | ((with_reducible refine cnd_d (fun hq => ?_) (fun hq => ?_)) <;> (conv => whnf)) | ((with_reducible refine cnd_i (fun hq => ?_) (fun hq => ?_)) <;> ((try simp only [decide_eq_true_eq, decide_eq_false_iff_not, Bool.not_eq_true', Bool.not_eq_false', beq_iff_eq, bne_iff_ne, beq_eq_false_iff_ne, bne_eq_false_iff_eq, ne_eq] at hq) <;> (first | omega | (conv => whnf)))) | ((with_reducible first | apply at_cond | apply at_ret | apply at_exit | apply at_skip); (conv => whnf)) | (with_reducible apply at_block) | ((with_reducible refine at_regD Θ_ok mixed (by kernel_rfl) ?_); (conv => whnf)) | ((with_reducible refine call_r ?_); (conv => whnf); (first | ((with_reducible refine call_i (hL) ?_); (conv => whnf)))))))
    exact ⟨rfl, rfl⟩
  rw [h1] at hL
  have hc : comV c = true := (Bool.and_eq_true_iff.1 h1).1
  have hle : leaS c l = true := (Bool.and_eq_true_iff.1 h1).2
  have hns : newS c l b = badS c b := by simp [newS, hc, hle]
  rw [hns]
  have h7 := (comV_iff.1 hc).2
  have hll := (leaS_iff.1 hle).2
  have hI := in_c b (-1) ((c.length : Int) - 1)
  cases h2 : vIn b (-1) ((c.length : Int) - 1)
  · rw [h2] at hI
    have hb : badS c b = false := by simp [badS, h2]
    rw [hb]
    (repeat (any_goals (first | (with_reducible apply at_seq) | ((with_reducible apply at_regS Θ_ok); (conv => whnf)) | ((refine go ?_); (conv => whnf)) | ((refine go2 (fun xe hxe => ?_)); (conv => whnf)) | ((with_reducible refine cnd_d (fun hq => ?_) (fun hq => ?_)) <;> (conv => whnf)) | ((with_reducible refine cnd_i (fun hq => ?_) (fun hq => ?_)) <;> ((try simp only [decide_eq_true_eq, decide_eq_false_iff_not, Bool.not_eq_true', Bool.not_eq_false', beq_iff_eq, bne_iff_ne, beq_eq_false_iff_ne, bne_eq_false_iff_eq, ne_eq] at hq) <;> (first | omega | (conv => whnf)))) | ((with_reducible first | apply at_cond | apply at_ret | apply at_exit | apply at_skip); (conv => whnf)) | (with_reducible apply at_block) | ((with_reducible refine at_regD Θ_ok mixed (by kernel_rfl) ?_); (conv => whnf)) | ((with_reducible refine call_r ?_); (conv => whnf); (first | ((with_reducible refine call_i (hL) ?_); (conv => whnf)) | ((with_reducible refine call_i (hI) ?_); (conv => whnf)))))))
    exact ⟨rfl, rfl⟩
  rw [h2] at hI
  have hbr := vIn_iff.1 h2
  have hT := tot_c c hc
  have hfd := fau_bd hc
  have htb := tot_bd hc
  have hfau : (tot c - 1).tdiv 3 = fau c := rfl
  have hst : ∀ i : Nat, (⟨[(0, .lst (.int .i64) c), (6, .ptr 4 0), (8, .ptr 5 0), (9, .int .i64 ((i : Int) + 1))], [(4, .var 29 [.nils, .nils, .int .i64 0, .nils, .nils]), (5, .var 29 [.ref 6, .ref 7, .int .i64 b, .ref 8, .ref 9]), (6, .row 3 (.int .i64) c), (7, .row 3 (.int .i64) l), (8, .row 33 (.lst .vtx) (List.replicate i [] ++ [[]])), (9, .row 65 .ppl [])], 10⟩ : VSt) =
      ⟨[(0, .lst (.int .i64) c), (6, .ptr 4 0), (8, .ptr 5 0), (9, .int .i64 ((i + 1 : Nat) : Int))], [(4, .var 29 [.nils, .nils, .int .i64 0, .nils, .nils]), (5, .var 29 [.ref 6, .ref 7, .int .i64 b, .ref 8, .ref 9]), (6, .row 3 (.int .i64) c), (7, .row 3 (.int .i64) l), (8, .row 33 (.lst .vtx) (List.replicate (i + 1) [])), (9, .row 65 .ppl [])], 10⟩ := fun i => by
    rw [List.replicate_succ']
    rfl
  have hfin : ∀ x : Int, fau c < x → (tot c - 1).tdiv 3 < x := fun x h => h
  have hfin2 : ∀ x : Int, x ≤ fau c → ¬ (tot c - 1).tdiv 3 < x := fun x h => by rw [hfau]; omega
  by_cases h3 : b < 0
  · have hb : badS c b = true := by simp [badS, h2, h3]
    rw [hb]
    (repeat (any_goals (first | (with_reducible apply at_seq) | ((with_reducible apply at_regS Θ_ok); (conv => whnf)) | ((refine go ?_); (conv => whnf)) | ((refine go2 (fun xe hxe => ?_)); (conv => whnf)) | ((with_reducible refine cnd_d (fun hq => ?_) (fun hq => ?_)) <;> (conv => whnf)) | ((with_reducible refine cnd_i (fun hq => ?_) (fun hq => ?_)) <;> ((try simp only [decide_eq_true_eq, decide_eq_false_iff_not, Bool.not_eq_true', Bool.not_eq_false', beq_iff_eq, bne_iff_ne, beq_eq_false_iff_ne, bne_eq_false_iff_eq, ne_eq] at hq) <;> (first | omega | (conv => whnf)))) | ((with_reducible first | apply at_cond | apply at_ret | apply at_exit | apply at_skip); (conv => whnf)) | (with_reducible apply at_block) | ((with_reducible refine at_regD Θ_ok mixed (by kernel_rfl) ?_); (conv => whnf)) | ((with_reducible refine call_r ?_); (conv => whnf); (first | ((with_reducible refine call_i (hL) ?_); (conv => whnf)) | ((with_reducible refine call_i (hI) ?_); (conv => whnf)) | ((with_reducible refine call_i (hT) ?_); (conv => whnf)))))))
    refine at_loop hK [] [0, 6, 8, 9] (fun i : Nat => ⟨[(0, .lst (.int .i64) c), (6, .ptr 4 0), (8, .ptr 5 0), (9, .int .i64 (i : Int))], [(4, .var 29 [.nils, .nils, .int .i64 0, .nils, .nils]), (5, .var 29 [.ref 6, .ref 7, .int .i64 b, .ref 8, .ref 9]), (6, .row 3 (.int .i64) c), (7, .row 3 (.int .i64) l), (8, .row 33 (.lst .vtx) (List.replicate i [])), (9, .row 65 .ppl [])], 10⟩) (fun i => i ≤ c.length) (fun i => c.length - i) 0 (by simp) rfl ?_
    intro i hi
    have hrl : (List.replicate i ([] : List Vtx)).length = i := by simp
    have hst := hst i
    generalize hrs : List.replicate i ([] : List Vtx) = rs at *
    by_cases hlt : i < c.length
    · (repeat (any_goals (first | (with_reducible apply at_seq) | ((with_reducible apply at_regS Θ_ok); (conv => whnf)) | ((refine go ?_); (conv => whnf)) | ((refine go2 (fun xe hxe => ?_)); (conv => whnf)) | ((with_reducible refine cnd_d (fun hq => ?_) (fun hq => ?_)) <;> (conv => whnf)) | ((with_reducible refine cnd_i (fun hq => ?_) (fun hq => ?_)) <;> ((try simp only [decide_eq_true_eq, decide_eq_false_iff_not, Bool.not_eq_true', Bool.not_eq_false', beq_iff_eq, bne_iff_ne, beq_eq_false_iff_ne, bne_eq_false_iff_eq, ne_eq] at hq) <;> (first | omega | (conv => whnf)))) | ((with_reducible first | apply at_cond | apply at_ret | apply at_exit | apply at_skip); (conv => whnf)) | (with_reducible apply at_block) | ((with_reducible refine at_regD Θ_ok mixed (by kernel_rfl) ?_); (conv => whnf)))))
      refine ⟨i + 1, by omega, by omega, ?_⟩
      rw [← hst]
      try rfl
    · obtain rfl : i = c.length := by omega
      (repeat (any_goals (first | (with_reducible apply at_seq) | ((with_reducible apply at_regS Θ_ok); (conv => whnf)) | ((refine go ?_); (conv => whnf)) | ((refine go2 (fun xe hxe => ?_)); (conv => whnf)) | ((with_reducible refine cnd_d (fun hq => ?_) (fun hq => ?_)) <;> (conv => whnf)) | ((with_reducible refine cnd_i (fun hq => ?_) (fun hq => ?_)) <;> ((try simp only [decide_eq_true_eq, decide_eq_false_iff_not, Bool.not_eq_true', Bool.not_eq_false', beq_iff_eq, bne_iff_ne, beq_eq_false_iff_ne, bne_eq_false_iff_eq, ne_eq] at hq) <;> (first | omega | (conv => whnf)))) | ((with_reducible first | apply at_cond | apply at_ret | apply at_exit | apply at_skip); (conv => whnf)) | (with_reducible apply at_block) | ((with_reducible refine at_regD Θ_ok mixed (by kernel_rfl) ?_); (conv => whnf)))))
      rw [← hrs]
      exact ⟨rfl, rfl⟩
  · have hxe : c[b.toNat]? = some (c.getD b.toNat 0) := by rw [List.getD_eq_getElem?_getD, List.getElem?_eq_getElem (show b.toNat < c.length by omega)]; rfl
    have hb : badS c b = decide (c.getD b.toNat 0 ≤ fau c) := by simp [badS, h2, h3]
    rw [hb]
    generalize c.getD b.toNat 0 = x at *
    by_cases hxf : x ≤ fau c
    · rw [decide_eq_true hxf]
      have hxf := hfin2 x hxf
      (repeat (any_goals (first | (with_reducible apply at_seq) | ((with_reducible apply at_regS Θ_ok); (conv => whnf)) | ((refine go ?_); (conv => whnf)) | ((refine go2 (fun xe hxe => ?_)); (conv => whnf)) | ((with_reducible refine cnd_d (fun hq => ?_) (fun hq => ?_)) <;> (conv => whnf)) | ((with_reducible refine cnd_i (fun hq => ?_) (fun hq => ?_)) <;> ((try simp only [decide_eq_true_eq, decide_eq_false_iff_not, Bool.not_eq_true', Bool.not_eq_false', beq_iff_eq, bne_iff_ne, beq_eq_false_iff_ne, bne_eq_false_iff_eq, ne_eq] at hq) <;> (first | omega | (conv => whnf)))) | ((with_reducible first | apply at_cond | apply at_ret | apply at_exit | apply at_skip); (conv => whnf)) | (with_reducible apply at_block) | ((with_reducible refine at_regD Θ_ok mixed (by kernel_rfl) ?_); (conv => whnf)) | ((with_reducible refine call_r ?_); (conv => whnf); (first | ((with_reducible refine call_i (hL) ?_); (conv => whnf)) | ((with_reducible refine call_i (hI) ?_); (conv => whnf)) | ((with_reducible refine call_i (hT) ?_); (conv => whnf)))))))
      refine at_loop hK [] [0, 6, 8, 9] (fun i : Nat => ⟨[(0, .lst (.int .i64) c), (6, .ptr 4 0), (8, .ptr 5 0), (9, .int .i64 (i : Int))], [(4, .var 29 [.nils, .nils, .int .i64 0, .nils, .nils]), (5, .var 29 [.ref 6, .ref 7, .int .i64 b, .ref 8, .ref 9]), (6, .row 3 (.int .i64) c), (7, .row 3 (.int .i64) l), (8, .row 33 (.lst .vtx) (List.replicate i [])), (9, .row 65 .ppl [])], 10⟩) (fun i => i ≤ c.length) (fun i => c.length - i) 0 (by simp) rfl ?_
      intro i hi
      have hrl : (List.replicate i ([] : List Vtx)).length = i := by simp
      have hst := hst i
      generalize hrs : List.replicate i ([] : List Vtx) = rs at *
      by_cases hlt : i < c.length
      · (repeat (any_goals (first | (with_reducible apply at_seq) | ((with_reducible apply at_regS Θ_ok); (conv => whnf)) | ((refine go ?_); (conv => whnf)) | ((refine go2 (fun xe hxe => ?_)); (conv => whnf)) | ((with_reducible refine cnd_d (fun hq => ?_) (fun hq => ?_)) <;> (conv => whnf)) | ((with_reducible refine cnd_i (fun hq => ?_) (fun hq => ?_)) <;> ((try simp only [decide_eq_true_eq, decide_eq_false_iff_not, Bool.not_eq_true', Bool.not_eq_false', beq_iff_eq, bne_iff_ne, beq_eq_false_iff_ne, bne_eq_false_iff_eq, ne_eq] at hq) <;> (first | omega | (conv => whnf)))) | ((with_reducible first | apply at_cond | apply at_ret | apply at_exit | apply at_skip); (conv => whnf)) | (with_reducible apply at_block) | ((with_reducible refine at_regD Θ_ok mixed (by kernel_rfl) ?_); (conv => whnf)))))
        refine ⟨i + 1, by omega, by omega, ?_⟩
        rw [← hst]
        try rfl
      · obtain rfl : i = c.length := by omega
        (repeat (any_goals (first | (with_reducible apply at_seq) | ((with_reducible apply at_regS Θ_ok); (conv => whnf)) | ((refine go ?_); (conv => whnf)) | ((refine go2 (fun xe hxe => ?_)); (conv => whnf)) | ((with_reducible refine cnd_d (fun hq => ?_) (fun hq => ?_)) <;> (conv => whnf)) | ((with_reducible refine cnd_i (fun hq => ?_) (fun hq => ?_)) <;> ((try simp only [decide_eq_true_eq, decide_eq_false_iff_not, Bool.not_eq_true', Bool.not_eq_false', beq_iff_eq, bne_iff_ne, beq_eq_false_iff_ne, bne_eq_false_iff_eq, ne_eq] at hq) <;> (first | omega | (conv => whnf)))) | ((with_reducible first | apply at_cond | apply at_ret | apply at_exit | apply at_skip); (conv => whnf)) | (with_reducible apply at_block) | ((with_reducible refine at_regD Θ_ok mixed (by kernel_rfl) ?_); (conv => whnf)))))
        rw [← hrs]
        exact ⟨rfl, rfl⟩
    · rw [decide_eq_false hxf]
      have hxf := hfin x (by omega)
      (repeat (any_goals (first | (with_reducible apply at_seq) | ((with_reducible apply at_regS Θ_ok); (conv => whnf)) | ((refine go ?_); (conv => whnf)) | ((refine go2 (fun xe hxe => ?_)); (conv => whnf)) | ((with_reducible refine cnd_d (fun hq => ?_) (fun hq => ?_)) <;> (conv => whnf)) | ((with_reducible refine cnd_i (fun hq => ?_) (fun hq => ?_)) <;> ((try simp only [decide_eq_true_eq, decide_eq_false_iff_not, Bool.not_eq_true', Bool.not_eq_false', beq_iff_eq, bne_iff_ne, beq_eq_false_iff_ne, bne_eq_false_iff_eq, ne_eq] at hq) <;> (first | omega | (conv => whnf)))) | ((with_reducible first | apply at_cond | apply at_ret | apply at_exit | apply at_skip); (conv => whnf)) | (with_reducible apply at_block) | ((with_reducible refine at_regD Θ_ok mixed (by kernel_rfl) ?_); (conv => whnf)) | ((with_reducible refine call_r ?_); (conv => whnf); (first | ((with_reducible refine call_i (hL) ?_); (conv => whnf)) | ((with_reducible refine call_i (hI) ?_); (conv => whnf)) | ((with_reducible refine call_i (hT) ?_); (conv => whnf)))))))
      exact ⟨rfl, rfl⟩
set_option maxHeartbeats 1000000 in
theorem swV_c (w : Wrl) (hcl : w.com.length ≤ 2000000) : ConV Try.prog 20 [wrlA w] [] (.bool (wrlS w)) [] := by
  have hN := snew_c w.com w.lead w.bad hcl
  refine con_eq Θ_ok Try.func20 rfl rfl false 0 4 rfl rfl rfl rfl fun K hK hb1 hb2 => ?_; simp only [argsV, enc, Nat.reduceAdd]
  simp [toDL, V.toD, bnd, encD, D.cells] at hb1
  cases h1 : newS w.com w.lead w.bad
  · rw [h1] at hN
    simp only [Bool.false_eq_true, if_false] at hN
    (repeat (any_goals (first | (with_reducible apply at_seq) | ((with_reducible apply at_regS Θ_ok); (conv => whnf)) | ((refine go ?_); (conv => whnf)) | ((refine go2 (fun xe hxe => ?_)); (conv => whnf)) | ((with_reducible refine cnd_d (fun hq => ?_) (fun hq => ?_)) <;> (conv => whnf)) | ((with_reducible refine cnd_i (fun hq => ?_) (fun hq => ?_)) <;> ((try simp only [decide_eq_true_eq, decide_eq_false_iff_not, Bool.not_eq_true', Bool.not_eq_false', beq_iff_eq, bne_iff_ne, beq_eq_false_iff_ne, bne_eq_false_iff_eq, ne_eq] at hq) <;> (first | omega | (conv => whnf)))) | ((with_reducible first | apply at_cond | apply at_ret | apply at_exit | apply at_skip); (conv => whnf)) | (with_reducible apply at_block) | ((with_reducible refine at_regD Θ_ok mixed (by kernel_rfl) ?_); (conv => whnf)) | ((with_reducible refine call_r ?_); (conv => whnf); (first | ((with_reducible refine call_i (hN) ?_); (conv => whnf)))))))
    exact ⟨by simp [wrlS, h1], rfl⟩
  rw [h1] at hN
  simp only [if_true] at hN
  have hc : comV w.com = true := by
    simp only [newS, Bool.and_eq_true] at h1
    exact h1.1
  have h7 := (comV_iff.1 hc).2
  by_cases h2 : w.views.length = w.com.length
  rotate_left
  · have hf : wrlS w = false := by
      have : (w.views.length == w.com.length) = false := by simpa using h2
      simp [wrlS, this]
    rw [hf]
    (repeat (any_goals (first | (with_reducible apply at_seq) | ((with_reducible apply at_regS Θ_ok); (conv => whnf)) | ((refine go ?_); (conv => whnf)) | ((refine go2 (fun xe hxe => ?_)); (conv => whnf)) | ((with_reducible refine cnd_d (fun hq => ?_) (fun hq => ?_)) <;> (conv => whnf)) | ((with_reducible refine cnd_i (fun hq => ?_) (fun hq => ?_)) <;> ((try simp only [decide_eq_true_eq, decide_eq_false_iff_not, Bool.not_eq_true', Bool.not_eq_false', beq_iff_eq, bne_iff_ne, beq_eq_false_iff_ne, bne_eq_false_iff_eq, ne_eq] at hq) <;> (first | omega | (conv => whnf)))) | ((with_reducible first | apply at_cond | apply at_ret | apply at_exit | apply at_skip); (conv => whnf)) | (with_reducible apply at_block) | ((with_reducible refine at_regD Θ_ok mixed (by kernel_rfl) ?_); (conv => whnf)) | ((with_reducible refine call_r ?_); (conv => whnf); (first | ((with_reducible refine call_i (hN) ?_); (conv => whnf)))))))
    exact ⟨rfl, rfl⟩
  have hP := spro_c w hc
  cases h3 : proS w.com w.bad w.props
  · rw [h3] at hP
    have hf : wrlS w = false := by simp [wrlS, h3]
    rw [hf]
    (repeat (any_goals (first | (with_reducible apply at_seq) | ((with_reducible apply at_regS Θ_ok); (conv => whnf)) | ((refine go ?_); (conv => whnf)) | ((refine go2 (fun xe hxe => ?_)); (conv => whnf)) | ((with_reducible refine cnd_d (fun hq => ?_) (fun hq => ?_)) <;> (conv => whnf)) | ((with_reducible refine cnd_i (fun hq => ?_) (fun hq => ?_)) <;> ((try simp only [decide_eq_true_eq, decide_eq_false_iff_not, Bool.not_eq_true', Bool.not_eq_false', beq_iff_eq, bne_iff_ne, beq_eq_false_iff_ne, bne_eq_false_iff_eq, ne_eq] at hq) <;> (first | omega | (conv => whnf)))) | ((with_reducible first | apply at_cond | apply at_ret | apply at_exit | apply at_skip); (conv => whnf)) | (with_reducible apply at_block) | ((with_reducible refine at_regD Θ_ok mixed (by kernel_rfl) ?_); (conv => whnf)) | ((with_reducible refine call_r ?_); (conv => whnf); (first | ((with_reducible refine call_i (hN) ?_); (conv => whnf)) | ((with_reducible refine call_i (hP) ?_); (conv => whnf)))))))
    exact ⟨rfl, rfl⟩
  rw [h3] at hP
  have hpl := pro_len h3
  have he : wrlS w = (viwsS w.com w.bad w.props w.views && kpar w.bad w.props w.views) := by simp [wrlS, h1, h2, h3]
  rw [he]
  (repeat (any_goals (first | (with_reducible apply at_seq) | ((with_reducible apply at_regS Θ_ok); (conv => whnf)) | ((refine go ?_); (conv => whnf)) | ((refine go2 (fun xe hxe => ?_)); (conv => whnf)) | ((with_reducible refine cnd_d (fun hq => ?_) (fun hq => ?_)) <;> (conv => whnf)) | ((with_reducible refine cnd_i (fun hq => ?_) (fun hq => ?_)) <;> ((try simp only [decide_eq_true_eq, decide_eq_false_iff_not, Bool.not_eq_true', Bool.not_eq_false', beq_iff_eq, bne_iff_ne, beq_eq_false_iff_ne, bne_eq_false_iff_eq, ne_eq] at hq) <;> (first | omega | (conv => whnf)))) | ((with_reducible first | apply at_cond | apply at_ret | apply at_exit | apply at_skip); (conv => whnf)) | (with_reducible apply at_block) | ((with_reducible refine at_regD Θ_ok mixed (by kernel_rfl) ?_); (conv => whnf)) | ((with_reducible refine call_r ?_); (conv => whnf); (first | ((with_reducible refine call_i (hN) ?_); (conv => whnf)) | ((with_reducible refine call_i (hP) ?_); (conv => whnf)))))))
  refine at_loop hK [] [1, 5] (fun i : Nat => ⟨[(1, .ptr 4 0), (5, .int .i64 i)], [(4, .var 29 (wrlA w).cells)], 5⟩)
    (fun i => i ≤ w.views.length ∧ ∀ j, j < i → (viwS w.com w.props (w.views.getD j []) && (!((j : Int) == w.bad) || (w.views.getD j []).isEmpty)) = true) (fun i => w.views.length - i) 0 ⟨by simp, by simp⟩ rfl ?_
  rintro i ⟨hi, hall⟩
  by_cases hlt : i < w.views.length
  · have hxe : w.views[i]? = some (w.views.getD i []) := by rw [List.getD_eq_getElem?_getD, List.getElem?_eq_getElem hlt]; rfl
    have hno : (viwS w.com w.props (w.views.getD i []) && (!((i : Int) == w.bad) || (w.views.getD i []).isEmpty)) = false → V.bool false = V.bool (viwsS w.com w.bad w.props w.views && kpar w.bad w.props w.views) ∧ ([] : VH) = [] := fun h => ⟨by unfold viwsS; rw [allTo_f hlt h, Bool.false_and], rfl⟩
    have hyes := all_step hall (p := fun j => viwS w.com w.props (w.views.getD j []) && (!((j : Int) == w.bad) || (w.views.getD j []).isEmpty)) (i := i)
    generalize w.views.getD i [] = g at *
    have hV := sview_c w g hc h3
    cases h4 : viwS w.com w.props g
    · rw [h4] at hV
      (repeat (any_goals (first | (with_reducible apply at_seq) | ((with_reducible apply at_regS Θ_ok); (conv => whnf)) | ((refine go ?_); (conv => whnf)) | ((refine go2 (fun xe hxe => ?_)); (conv => whnf)) | ((with_reducible refine cnd_d (fun hq => ?_) (fun hq => ?_)) <;> (conv => whnf)) | ((with_reducible refine cnd_i (fun hq => ?_) (fun hq => ?_)) <;> ((try simp only [decide_eq_true_eq, decide_eq_false_iff_not, Bool.not_eq_true', Bool.not_eq_false', beq_iff_eq, bne_iff_ne, beq_eq_false_iff_ne, bne_eq_false_iff_eq, ne_eq] at hq) <;> (first | omega | (conv => whnf)))) | ((with_reducible first | apply at_cond | apply at_ret | apply at_exit | apply at_skip); (conv => whnf)) | (with_reducible apply at_block) | ((with_reducible refine at_regD Θ_ok mixed (by kernel_rfl) ?_); (conv => whnf)) | ((with_reducible refine call_r ?_); (conv => whnf); (first | ((with_reducible refine call_i (hV) ?_); (conv => whnf)))))))
      exact hno (by rw [h4, Bool.false_and])
    rw [h4] at hV
    have hem : g.isEmpty = decide ((g.length : Int) = 0) := by cases g <;> simp; omega
    by_cases h5 : (i : Int) = w.bad
    · have hb1 : ((i : Int) == w.bad) = true := by simpa using h5
      by_cases h6 : 0 < (g.length : Int)
      · (repeat (any_goals (first | (with_reducible apply at_seq) | ((with_reducible apply at_regS Θ_ok); (conv => whnf)) | ((refine go ?_); (conv => whnf)) | ((refine go2 (fun xe hxe => ?_)); (conv => whnf)) | ((with_reducible refine cnd_d (fun hq => ?_) (fun hq => ?_)) <;> (conv => whnf)) | ((with_reducible refine cnd_i (fun hq => ?_) (fun hq => ?_)) <;> ((try simp only [decide_eq_true_eq, decide_eq_false_iff_not, Bool.not_eq_true', Bool.not_eq_false', beq_iff_eq, bne_iff_ne, beq_eq_false_iff_ne, bne_eq_false_iff_eq, ne_eq] at hq) <;> (first | omega | (conv => whnf)))) | ((with_reducible first | apply at_cond | apply at_ret | apply at_exit | apply at_skip); (conv => whnf)) | (with_reducible apply at_block) | ((with_reducible refine at_regD Θ_ok mixed (by kernel_rfl) ?_); (conv => whnf)) | ((with_reducible refine call_r ?_); (conv => whnf); (first | ((with_reducible refine call_i (hV) ?_); (conv => whnf)))))))
        exact hno (by rw [hb1, hem, decide_eq_false (by omega)]; simp)
      · (repeat (any_goals (first | (with_reducible apply at_seq) | ((with_reducible apply at_regS Θ_ok); (conv => whnf)) | ((refine go ?_); (conv => whnf)) | ((refine go2 (fun xe hxe => ?_)); (conv => whnf)) | ((with_reducible refine cnd_d (fun hq => ?_) (fun hq => ?_)) <;> (conv => whnf)) | ((with_reducible refine cnd_i (fun hq => ?_) (fun hq => ?_)) <;> ((try simp only [decide_eq_true_eq, decide_eq_false_iff_not, Bool.not_eq_true', Bool.not_eq_false', beq_iff_eq, bne_iff_ne, beq_eq_false_iff_ne, bne_eq_false_iff_eq, ne_eq] at hq) <;> (first | omega | (conv => whnf)))) | ((with_reducible first | apply at_cond | apply at_ret | apply at_exit | apply at_skip); (conv => whnf)) | (with_reducible apply at_block) | ((with_reducible refine at_regD Θ_ok mixed (by kernel_rfl) ?_); (conv => whnf)) | ((with_reducible refine call_r ?_); (conv => whnf); (first | ((with_reducible refine call_i (hV) ?_); (conv => whnf)))))))
        exact ⟨i + 1, ⟨by omega, hyes (by rw [h4, hb1, hem, decide_eq_true (by omega)]; simp)⟩, by omega, rfl⟩
    · have hb1 : ((i : Int) == w.bad) = false := by simpa using h5
      (repeat (any_goals (first | (with_reducible apply at_seq) | ((with_reducible apply at_regS Θ_ok); (conv => whnf)) | ((refine go ?_); (conv => whnf)) | ((refine go2 (fun xe hxe => ?_)); (conv => whnf)) | ((with_reducible refine cnd_d (fun hq => ?_) (fun hq => ?_)) <;> (conv => whnf)) | ((with_reducible refine cnd_i (fun hq => ?_) (fun hq => ?_)) <;> ((try simp only [decide_eq_true_eq, decide_eq_false_iff_not, Bool.not_eq_true', Bool.not_eq_false', beq_iff_eq, bne_iff_ne, beq_eq_false_iff_ne, bne_eq_false_iff_eq, ne_eq] at hq) <;> (first | omega | (conv => whnf)))) | ((with_reducible first | apply at_cond | apply at_ret | apply at_exit | apply at_skip); (conv => whnf)) | (with_reducible apply at_block) | ((with_reducible refine at_regD Θ_ok mixed (by kernel_rfl) ?_); (conv => whnf)) | ((with_reducible refine call_r ?_); (conv => whnf); (first | ((with_reducible refine call_i (hV) ?_); (conv => whnf)))))))
      exact ⟨i + 1, ⟨by omega, hyes (by rw [h4, hb1]; rfl)⟩, by omega, rfl⟩
  have hvs : viwsS w.com w.bad w.props w.views = true := by
    unfold viwsS
    exact allTo_t (fun j hj => hall j (by omega))
  rw [hvs, Bool.true_and]
  (repeat (any_goals (first | (with_reducible apply at_seq) | ((with_reducible apply at_regS Θ_ok); (conv => whnf)) | ((refine go ?_); (conv => whnf)) | ((refine go2 (fun xe hxe => ?_)); (conv => whnf)) | ((with_reducible refine cnd_d (fun hq => ?_) (fun hq => ?_)) <;> (conv => whnf)) | ((with_reducible refine cnd_i (fun hq => ?_) (fun hq => ?_)) <;> ((try simp only [decide_eq_true_eq, decide_eq_false_iff_not, Bool.not_eq_true', Bool.not_eq_false', beq_iff_eq, bne_iff_ne, beq_eq_false_iff_ne, bne_eq_false_iff_eq, ne_eq] at hq) <;> (first | omega | (conv => whnf)))) | ((with_reducible first | apply at_cond | apply at_ret | apply at_exit | apply at_skip); (conv => whnf)) | (with_reducible apply at_block) | ((with_reducible refine at_regD Θ_ok mixed (by kernel_rfl) ?_); (conv => whnf)))))
  refine at_loop hK [] [1, 6] (fun i : Nat => ⟨[(1, .ptr 4 0), (6, .int .i64 i)], [(4, .var 29 (wrlA w).cells)], 5⟩)
    (fun i => i ≤ w.props.length ∧ ∀ p ∈ w.props.take i, allTo w.views.length (kparAt w.bad w.views p) = true) (fun i => w.props.length - i) 0 ⟨by simp, by simp⟩ rfl ?_
  rintro k ⟨hk, hkall⟩
  by_cases hkl : k < w.props.length
  · have hxp : w.props[k]? = some w.props[k] := List.getElem?_eq_getElem hkl
    have hsn : w.props.take (k + 1) = w.props.take k ++ [w.props[k]] := List.take_succ_eq_append_getElem hkl
    have hpm : w.props[k] ∈ w.props := List.getElem_mem hkl
    have hone := pro_one h3 _ hpm
    have hno : allTo w.views.length (kparAt w.bad w.views w.props[k]) = false → V.bool false = V.bool (kpar w.bad w.props w.views) ∧ ([] : VH) = [] := fun h => ⟨by
      have : kpar w.bad w.props w.views = false := by
        rw [Bool.eq_false_iff]
        intro h2
        rw [List.all_eq_true.1 h2 _ hpm] at h
        cases h
      rw [this], rfl⟩
    generalize w.props[k] = p at *
    simp only [oneP, Bool.and_eq_true] at hone
    have hrd := vtxS_rd hone.1
    (repeat (any_goals (first | (with_reducible apply at_seq) | ((with_reducible apply at_regS Θ_ok); (conv => whnf)) | ((refine go ?_); (conv => whnf)) | ((refine go2 (fun xe hxe => ?_)); (conv => whnf)) | ((with_reducible refine cnd_d (fun hq => ?_) (fun hq => ?_)) <;> (conv => whnf)) | ((with_reducible refine cnd_i (fun hq => ?_) (fun hq => ?_)) <;> ((try simp only [decide_eq_true_eq, decide_eq_false_iff_not, Bool.not_eq_true', Bool.not_eq_false', beq_iff_eq, bne_iff_ne, beq_eq_false_iff_ne, bne_eq_false_iff_eq, ne_eq] at hq) <;> (first | omega | (conv => whnf)))) | ((with_reducible first | apply at_cond | apply at_ret | apply at_exit | apply at_skip); (conv => whnf)) | (with_reducible apply at_block) | ((with_reducible refine at_regD Θ_ok mixed (by kernel_rfl) ?_); (conv => whnf)))))
    refine at_loop hK [] [1, 6, 7, 8] (fun m : Nat => ⟨[(1, .ptr 4 0), (6, .int .i64 k), (7, .ptr 5 0), (8, .int .i64 m)], [(4, .var 29 (wrlA w).cells), (5, .var 63 (vtxA p.v).cells)], 6⟩)
      (fun m => m ≤ w.views.length ∧ ∀ j, j < m → kparAt w.bad w.views p j = true) (fun m => w.views.length - m) 0 ⟨by simp, by simp⟩ rfl ?_
    rintro m ⟨hm, hmall⟩
    by_cases hml : m < w.views.length
    · have hxv : w.views[m]? = some (w.views.getD m []) := by rw [List.getD_eq_getElem?_getD, List.getElem?_eq_getElem hml]; rfl
      have hyes := all_step hmall (p := kparAt w.bad w.views p) (i := m)
      have hno2 : kparAt w.bad w.views p m = false → V.bool false = V.bool (kpar w.bad w.props w.views) ∧ ([] : VH) = [] := fun h => hno (allTo_f hml h)
      have hA : kparAt w.bad w.views p m = (!((m : Int) != w.bad && ((m : Int) == p.v.author || p.members.contains (m : Int))) || parOK (w.views.getD m []) p.v) := rfl
      generalize w.views.getD m [] = g at *
      have hH := has_c p.members m
      have hG := parents_c g p.v hrd
      by_cases c1 : (m : Int) = w.bad
      · (repeat (any_goals (first | (with_reducible apply at_seq) | ((with_reducible apply at_regS Θ_ok); (conv => whnf)) | ((refine go ?_); (conv => whnf)) | ((refine go2 (fun xe hxe => ?_)); (conv => whnf)) | ((with_reducible refine cnd_d (fun hq => ?_) (fun hq => ?_)) <;> (conv => whnf)) | ((with_reducible refine cnd_i (fun hq => ?_) (fun hq => ?_)) <;> ((try simp only [decide_eq_true_eq, decide_eq_false_iff_not, Bool.not_eq_true', Bool.not_eq_false', beq_iff_eq, bne_iff_ne, beq_eq_false_iff_ne, bne_eq_false_iff_eq, ne_eq] at hq) <;> (first | omega | (conv => whnf)))) | ((with_reducible first | apply at_cond | apply at_ret | apply at_exit | apply at_skip); (conv => whnf)) | (with_reducible apply at_block) | ((with_reducible refine at_regD Θ_ok mixed (by kernel_rfl) ?_); (conv => whnf)) | ((with_reducible refine call_r ?_); (conv => whnf); (first | ((with_reducible refine call_i (hH) ?_); (conv => whnf)) | ((with_reducible refine call_i (hG) ?_); (conv => whnf)))))))
        exact ⟨m + 1, ⟨by omega, hyes (by simp [hA, c1])⟩, by omega, rfl⟩
      cases c2 : (m : Int) == p.v.author || p.members.contains (m : Int)
      · rw [Bool.or_eq_false_iff] at c2
        have c3 : ¬ (m : Int) = p.v.author := by simpa using c2.1
        rw [c2.2] at hH
        (repeat (any_goals (first | (with_reducible apply at_seq) | ((with_reducible apply at_regS Θ_ok); (conv => whnf)) | ((refine go ?_); (conv => whnf)) | ((refine go2 (fun xe hxe => ?_)); (conv => whnf)) | ((with_reducible refine cnd_d (fun hq => ?_) (fun hq => ?_)) <;> (conv => whnf)) | ((with_reducible refine cnd_i (fun hq => ?_) (fun hq => ?_)) <;> ((try simp only [decide_eq_true_eq, decide_eq_false_iff_not, Bool.not_eq_true', Bool.not_eq_false', beq_iff_eq, bne_iff_ne, beq_eq_false_iff_ne, bne_eq_false_iff_eq, ne_eq] at hq) <;> (first | omega | (conv => whnf)))) | ((with_reducible first | apply at_cond | apply at_ret | apply at_exit | apply at_skip); (conv => whnf)) | (with_reducible apply at_block) | ((with_reducible refine at_regD Θ_ok mixed (by kernel_rfl) ?_); (conv => whnf)) | ((with_reducible refine call_r ?_); (conv => whnf); (first | ((with_reducible refine call_i (hH) ?_); (conv => whnf)) | ((with_reducible refine call_i (hG) ?_); (conv => whnf)))))))
        exact ⟨m + 1, ⟨by omega, hyes (by rw [hA, c2.1, c2.2]; simp)⟩, by omega, rfl⟩
      · cases c4 : parOK g p.v
        · rw [c4] at hG
          have hn := hno2 (by rw [hA, c2, c4]; simpa using c1)
          by_cases c3 : (m : Int) = p.v.author
          · (repeat (any_goals (first | (with_reducible apply at_seq) | ((with_reducible apply at_regS Θ_ok); (conv => whnf)) | ((refine go ?_); (conv => whnf)) | ((refine go2 (fun xe hxe => ?_)); (conv => whnf)) | ((with_reducible refine cnd_d (fun hq => ?_) (fun hq => ?_)) <;> (conv => whnf)) | ((with_reducible refine cnd_i (fun hq => ?_) (fun hq => ?_)) <;> ((try simp only [decide_eq_true_eq, decide_eq_false_iff_not, Bool.not_eq_true', Bool.not_eq_false', beq_iff_eq, bne_iff_ne, beq_eq_false_iff_ne, bne_eq_false_iff_eq, ne_eq] at hq) <;> (first | omega | (conv => whnf)))) | ((with_reducible first | apply at_cond | apply at_ret | apply at_exit | apply at_skip); (conv => whnf)) | (with_reducible apply at_block) | ((with_reducible refine at_regD Θ_ok mixed (by kernel_rfl) ?_); (conv => whnf)) | ((with_reducible refine call_r ?_); (conv => whnf); (first | ((with_reducible refine call_i (hH) ?_); (conv => whnf)) | ((with_reducible refine call_i (hG) ?_); (conv => whnf)))))))
            exact hn
          · have c5 : p.members.contains (m : Int) = true := by simpa [c3] using c2
            rw [c5] at hH
            (repeat (any_goals (first | (with_reducible apply at_seq) | ((with_reducible apply at_regS Θ_ok); (conv => whnf)) | ((refine go ?_); (conv => whnf)) | ((refine go2 (fun xe hxe => ?_)); (conv => whnf)) | ((with_reducible refine cnd_d (fun hq => ?_) (fun hq => ?_)) <;> (conv => whnf)) | ((with_reducible refine cnd_i (fun hq => ?_) (fun hq => ?_)) <;> ((try simp only [decide_eq_true_eq, decide_eq_false_iff_not, Bool.not_eq_true', Bool.not_eq_false', beq_iff_eq, bne_iff_ne, beq_eq_false_iff_ne, bne_eq_false_iff_eq, ne_eq] at hq) <;> (first | omega | (conv => whnf)))) | ((with_reducible first | apply at_cond | apply at_ret | apply at_exit | apply at_skip); (conv => whnf)) | (with_reducible apply at_block) | ((with_reducible refine at_regD Θ_ok mixed (by kernel_rfl) ?_); (conv => whnf)) | ((with_reducible refine call_r ?_); (conv => whnf); (first | ((with_reducible refine call_i (hH) ?_); (conv => whnf)) | ((with_reducible refine call_i (hG) ?_); (conv => whnf)))))))
            exact hn
        · rw [c4] at hG
          have hn := hyes (by rw [hA, c4, Bool.or_true])
          by_cases c3 : (m : Int) = p.v.author
          · (repeat (any_goals (first | (with_reducible apply at_seq) | ((with_reducible apply at_regS Θ_ok); (conv => whnf)) | ((refine go ?_); (conv => whnf)) | ((refine go2 (fun xe hxe => ?_)); (conv => whnf)) | ((with_reducible refine cnd_d (fun hq => ?_) (fun hq => ?_)) <;> (conv => whnf)) | ((with_reducible refine cnd_i (fun hq => ?_) (fun hq => ?_)) <;> ((try simp only [decide_eq_true_eq, decide_eq_false_iff_not, Bool.not_eq_true', Bool.not_eq_false', beq_iff_eq, bne_iff_ne, beq_eq_false_iff_ne, bne_eq_false_iff_eq, ne_eq] at hq) <;> (first | omega | (conv => whnf)))) | ((with_reducible first | apply at_cond | apply at_ret | apply at_exit | apply at_skip); (conv => whnf)) | (with_reducible apply at_block) | ((with_reducible refine at_regD Θ_ok mixed (by kernel_rfl) ?_); (conv => whnf)) | ((with_reducible refine call_r ?_); (conv => whnf); (first | ((with_reducible refine call_i (hH) ?_); (conv => whnf)) | ((with_reducible refine call_i (hG) ?_); (conv => whnf)))))))
            exact ⟨m + 1, ⟨by omega, hn⟩, by omega, rfl⟩
          · have c5 : p.members.contains (m : Int) = true := by simpa [c3] using c2
            rw [c5] at hH
            (repeat (any_goals (first | (with_reducible apply at_seq) | ((with_reducible apply at_regS Θ_ok); (conv => whnf)) | ((refine go ?_); (conv => whnf)) | ((refine go2 (fun xe hxe => ?_)); (conv => whnf)) | ((with_reducible refine cnd_d (fun hq => ?_) (fun hq => ?_)) <;> (conv => whnf)) | ((with_reducible refine cnd_i (fun hq => ?_) (fun hq => ?_)) <;> ((try simp only [decide_eq_true_eq, decide_eq_false_iff_not, Bool.not_eq_true', Bool.not_eq_false', beq_iff_eq, bne_iff_ne, beq_eq_false_iff_ne, bne_eq_false_iff_eq, ne_eq] at hq) <;> (first | omega | (conv => whnf)))) | ((with_reducible first | apply at_cond | apply at_ret | apply at_exit | apply at_skip); (conv => whnf)) | (with_reducible apply at_block) | ((with_reducible refine at_regD Θ_ok mixed (by kernel_rfl) ?_); (conv => whnf)) | ((with_reducible refine call_r ?_); (conv => whnf); (first | ((with_reducible refine call_i (hH) ?_); (conv => whnf)) | ((with_reducible refine call_i (hG) ?_); (conv => whnf)))))))
            exact ⟨m + 1, ⟨by omega, hn⟩, by omega, rfl⟩
    · (repeat (any_goals (first | (with_reducible apply at_seq) | ((with_reducible apply at_regS Θ_ok); (conv => whnf)) | ((refine go ?_); (conv => whnf)) | ((refine go2 (fun xe hxe => ?_)); (conv => whnf)) | ((with_reducible refine cnd_d (fun hq => ?_) (fun hq => ?_)) <;> (conv => whnf)) | ((with_reducible refine cnd_i (fun hq => ?_) (fun hq => ?_)) <;> ((try simp only [decide_eq_true_eq, decide_eq_false_iff_not, Bool.not_eq_true', Bool.not_eq_false', beq_iff_eq, bne_iff_ne, beq_eq_false_iff_ne, bne_eq_false_iff_eq, ne_eq] at hq) <;> (first | omega | (conv => whnf)))) | ((with_reducible first | apply at_cond | apply at_ret | apply at_exit | apply at_skip); (conv => whnf)) | (with_reducible apply at_block) | ((with_reducible refine at_regD Θ_ok mixed (by kernel_rfl) ?_); (conv => whnf)))))
      exact ⟨k + 1, ⟨by omega, by rw [hsn]; exact tk_snoc hkall (allTo_t fun j hj => hmall j (by omega))⟩, by omega, rfl⟩
  · (repeat (any_goals (first | (with_reducible apply at_seq) | ((with_reducible apply at_regS Θ_ok); (conv => whnf)) | ((refine go ?_); (conv => whnf)) | ((refine go2 (fun xe hxe => ?_)); (conv => whnf)) | ((with_reducible refine cnd_d (fun hq => ?_) (fun hq => ?_)) <;> (conv => whnf)) | ((with_reducible refine cnd_i (fun hq => ?_) (fun hq => ?_)) <;> ((try simp only [decide_eq_true_eq, decide_eq_false_iff_not, Bool.not_eq_true', Bool.not_eq_false', beq_iff_eq, bne_iff_ne, beq_eq_false_iff_ne, bne_eq_false_iff_eq, ne_eq] at hq) <;> (first | omega | (conv => whnf)))) | ((with_reducible first | apply at_cond | apply at_ret | apply at_exit | apply at_skip); (conv => whnf)) | (with_reducible apply at_block) | ((with_reducible refine at_regD Θ_ok mixed (by kernel_rfl) ?_); (conv => whnf)))))
    rw [List.take_of_length_le (by omega)] at hkall
    have : kpar w.bad w.props w.views = true := List.all_eq_true.2 hkall
    rw [this]
    exact ⟨rfl, rfl⟩
end Go.Proofs.Ytfamejohdhkffaa.Am
namespace Go.Proofs.Ytfamejohdhkffaa.Am
set_option linter.unusedSimpArgs false
set_option linter.unusedVariables false
open Go
attribute [local irreducible] Mk Need Ari Get Idx Cnd CallM CallA Opt Unch At ConV
set_option maxRecDepth 10000
/-- a sum over a list, step by step -/
theorem sumf_snoc {α : Type} {f : α → Nat} {l : List α} {i : Nat} {x : α} (h : l[i]? = some x) : ((l.take (i + 1)).map f).sum = ((l.take i).map f).sum + f x := by
  obtain ⟨hl, rfl⟩ := List.getElem?_eq_some_iff.1 h
  rw [List.take_succ_eq_append_getElem hl, List.map_append, List.sum_append]
  simp
theorem sumf_tk {α : Type} (f : α → Nat) (l : List α) (i : Nat) : ((l.take i).map f).sum ≤ (l.map f).sum := by
  conv => rhs; rw [← List.take_append_drop i l, List.map_append, List.sum_append]
  omega
theorem sumf_le {α : Type} {f : α → Nat} {l : List α} {x : α} (h : x ∈ l) : f x ≤ (l.map f).sum := by
  obtain ⟨i, hi⟩ := List.getElem?_of_mem h
  have h1 := sumf_snoc (f := f) hi
  have h2 := sumf_tk f l (i + 1)
  omega
def gsz1 (g : List Vtx) : Nat := g.length + pars g
def gsz (gs : List (List Vtx)) : Nat := (gs.map gsz1).sum
def psz1 (p : Ppl) : Nat := p.v.parents.length + p.members.length
def psz (ps : List Ppl) : Nat := (ps.map psz1).sum
def wsz (w : Wrl) : Nat := w.com.length + w.lead.length + (w.views.length + gsz w.views) + (w.props.length + psz w.props)
theorem szVertexSS_c (gs : List (List Vtx)) (l : Int) (hl : 0 ≤ l ∧ l ≤ 1048576) : ConV Try.prog 46 [.lst (.lst .vtx) gs, .int .i64 l] [] (.int .i64 (lft l (gs.length + gsz gs))) [] := by
  refine con_eq Θ_ok Try.func46 rfl rfl false 0 4 rfl rfl rfl rfl fun K hK hb1 hb2 => ?_; simp only [argsV, enc, Nat.reduceAdd]
  simp [toDL, V.toD, bnd, encD, D.cells] at hb1
  have hno : l - gs.length - gsz gs < 0 → V.int .i64 (-1) = V.int .i64 (lft l (gs.length + gsz gs)) ∧ ([] : VH) = [] := fun h => ⟨by rw [lft, if_pos (by omega)], rfl⟩
  by_cases h0 : l - gs.length < 0
  · (repeat (any_goals (first | (with_reducible apply at_seq) | ((with_reducible apply at_regS Θ_ok); (conv => whnf)) | ((refine go ?_); (conv => whnf)) | ((refine go2 (fun xe hxe => ?_)); (conv => whnf)) | ((with_reducible refine cnd_d (fun hq => ?_) (fun hq => ?_)) <;> (conv => whnf)) | ((with_reducible refine cnd_i (fun hq => ?_) (fun hq => ?_)) <;> ((try simp only [decide_eq_true_eq, decide_eq_false_iff_not, Bool.not_eq_true', Bool.not_eq_false', beq_iff_eq, bne_iff_ne, beq_eq_false_iff_ne, bne_eq_false_iff_eq, ne_eq] at hq) <;> (first | omega | (conv => whnf)))) | ((with_reducible first | apply at_cond | apply at_ret | apply at_exit | apply at_skip); (conv => whnf)) | (with_reducible apply at_block) | ((with_reducible refine at_regD Θ_ok mixed (by kernel_rfl) ?_); (conv => whnf)))))
    exact hno (by omega)
  (repeat (any_goals (first | (with_reducible apply at_seq) | ((with_reducible apply at_regS Θ_ok); (conv => whnf)) | ((refine go ?_); (conv => whnf)) | ((refine go2 (fun xe hxe => ?_)); (conv => whnf)) | ((with_reducible refine cnd_d (fun hq => ?_) (fun hq => ?_)) <;> (conv => whnf)) | ((with_reducible refine cnd_i (fun hq => ?_) (fun hq => ?_)) <;> ((try simp only [decide_eq_true_eq, decide_eq_false_iff_not, Bool.not_eq_true', Bool.not_eq_false', beq_iff_eq, bne_iff_ne, beq_eq_false_iff_ne, bne_eq_false_iff_eq, ne_eq] at hq) <;> (first | omega | (conv => whnf)))) | ((with_reducible first | apply at_cond | apply at_ret | apply at_exit | apply at_skip); (conv => whnf)) | (with_reducible apply at_block) | ((with_reducible refine at_regD Θ_ok mixed (by kernel_rfl) ?_); (conv => whnf)))))
  refine at_loop hK [] [0, 1, 5] (fun i : Nat => ⟨[(0, .lst (.lst .vtx) gs), (1, .int .i64 (l - gs.length - gsz (gs.take i))), (5, .int .i64 i)], [], 4⟩) (fun i => i ≤ gs.length ∧ 0 ≤ l - gs.length - gsz (gs.take i)) (fun i => gs.length - i) 0 ⟨by simp, by simp [gsz]; omega⟩ (by simp [gsz]; rfl) ?_
  rintro i ⟨hi, hp⟩
  by_cases hlt : i < gs.length
  · have hxe : gs[i]? = some gs[i] := List.getElem?_eq_getElem hlt
    have h3 : gsz (gs.take (i + 1)) = gsz (gs.take i) + gsz1 gs[i] := sumf_snoc hxe
    have h4 : gsz (gs.take (i + 1)) ≤ gsz gs := sumf_tk _ gs (i + 1)
    generalize gs[i] = g at *
    have hc := szVertexS_c g (l - gs.length - gsz (gs.take i)) (by omega)
    unfold lft at hc
    unfold gsz1 at h3
    by_cases h5 : l - gs.length - gsz (gs.take i) - (g.length + pars g : Nat) < 0
    · rw [if_pos h5] at hc
      (repeat (any_goals (first | (with_reducible apply at_seq) | ((with_reducible apply at_regS Θ_ok); (conv => whnf)) | ((refine go ?_); (conv => whnf)) | ((refine go2 (fun xe hxe => ?_)); (conv => whnf)) | ((with_reducible refine cnd_d (fun hq => ?_) (fun hq => ?_)) <;> (conv => whnf)) | ((with_reducible refine cnd_i (fun hq => ?_) (fun hq => ?_)) <;> ((try simp only [decide_eq_true_eq, decide_eq_false_iff_not, Bool.not_eq_true', Bool.not_eq_false', beq_iff_eq, bne_iff_ne, beq_eq_false_iff_ne, bne_eq_false_iff_eq, ne_eq] at hq) <;> (first | omega | (conv => whnf)))) | ((with_reducible first | apply at_cond | apply at_ret | apply at_exit | apply at_skip); (conv => whnf)) | (with_reducible apply at_block) | ((with_reducible refine at_regD Θ_ok mixed (by kernel_rfl) ?_); (conv => whnf)) | ((with_reducible refine call_r ?_); (conv => whnf); (first | ((with_reducible refine call_i (hc) ?_); (conv => whnf)))))))
      exact hno (by omega)
    · rw [if_neg h5] at hc
      (repeat (any_goals (first | (with_reducible apply at_seq) | ((with_reducible apply at_regS Θ_ok); (conv => whnf)) | ((refine go ?_); (conv => whnf)) | ((refine go2 (fun xe hxe => ?_)); (conv => whnf)) | ((with_reducible refine cnd_d (fun hq => ?_) (fun hq => ?_)) <;> (conv => whnf)) | ((with_reducible refine cnd_i (fun hq => ?_) (fun hq => ?_)) <;> ((try simp only [decide_eq_true_eq, decide_eq_false_iff_not, Bool.not_eq_true', Bool.not_eq_false', beq_iff_eq, bne_iff_ne, beq_eq_false_iff_ne, bne_eq_false_iff_eq, ne_eq] at hq) <;> (first | omega | (conv => whnf)))) | ((with_reducible first | apply at_cond | apply at_ret | apply at_exit | apply at_skip); (conv => whnf)) | (with_reducible apply at_block) | ((with_reducible refine at_regD Θ_ok mixed (by kernel_rfl) ?_); (conv => whnf)) | ((with_reducible refine call_r ?_); (conv => whnf); (first | ((with_reducible refine call_i (hc) ?_); (conv => whnf)))))))
      refine ⟨i + 1, by omega, by omega, ?_⟩
      rw [h3, show l - (gs.length : Int) - ((gsz (gs.take i) + (g.length + pars g) : Nat) : Int) = l - gs.length - gsz (gs.take i) - (g.length + pars g : Nat) by omega]
      rfl
  · rw [List.take_of_length_le (by omega)] at *
    (repeat (any_goals (first | (with_reducible apply at_seq) | ((with_reducible apply at_regS Θ_ok); (conv => whnf)) | ((refine go ?_); (conv => whnf)) | ((refine go2 (fun xe hxe => ?_)); (conv => whnf)) | ((with_reducible refine cnd_d (fun hq => ?_) (fun hq => ?_)) <;> (conv => whnf)) | ((with_reducible refine cnd_i (fun hq => ?_) (fun hq => ?_)) <;> ((try simp only [decide_eq_true_eq, decide_eq_false_iff_not, Bool.not_eq_true', Bool.not_eq_false', beq_iff_eq, bne_iff_ne, beq_eq_false_iff_ne, bne_eq_false_iff_eq, ne_eq] at hq) <;> (first | omega | (conv => whnf)))) | ((with_reducible first | apply at_cond | apply at_ret | apply at_exit | apply at_skip); (conv => whnf)) | (with_reducible apply at_block) | ((with_reducible refine at_regD Θ_ok mixed (by kernel_rfl) ?_); (conv => whnf)))))
    exact ⟨by rw [lft, if_neg (by omega)]; congr 1; omega, rfl⟩
theorem szProposal_c (p : Ppl) (l : Int) (hl : 0 ≤ l ∧ l ≤ 1048576) : ConV Try.prog 74 [pplA p, .int .i64 l] [] (.int .i64 (lft l (psz1 p))) [] := by
  have hc := szVertex_c p.v l hl
  unfold psz1
  refine con_eq Θ_ok Try.func74 rfl rfl false 0 4 rfl rfl rfl rfl fun K hK hb1 hb2 => ?_; simp only [argsV, enc, Nat.reduceAdd]
  clear hb1 hb2
  unfold lft at hc ⊢
  by_cases h : l - p.v.parents.length < 0
  · rw [if_pos h] at hc
    (repeat (any_goals (first | (with_reducible apply at_seq) | ((with_reducible apply at_regS Θ_ok); (conv => whnf)) | ((refine go ?_); (conv => whnf)) | ((refine go2 (fun xe hxe => ?_)); (conv => whnf)) | ((with_reducible refine cnd_d (fun hq => ?_) (fun hq => ?_)) <;> (conv => whnf)) | ((with_reducible refine cnd_i (fun hq => ?_) (fun hq => ?_)) <;> ((try simp only [decide_eq_true_eq, decide_eq_false_iff_not, Bool.not_eq_true', Bool.not_eq_false', beq_iff_eq, bne_iff_ne, beq_eq_false_iff_ne, bne_eq_false_iff_eq, ne_eq] at hq) <;> (first | omega | (conv => whnf)))) | ((with_reducible first | apply at_cond | apply at_ret | apply at_exit | apply at_skip); (conv => whnf)) | (with_reducible apply at_block) | ((with_reducible refine at_regD Θ_ok mixed (by kernel_rfl) ?_); (conv => whnf)) | ((with_reducible refine call_r ?_); (conv => whnf); (first | ((with_reducible refine call_i (hc) ?_); (conv => whnf)))))))
    exact ⟨by rw [if_pos (by omega)], rfl⟩
  · rw [if_neg h] at hc
    have hd := szIntS_c p.members (l - p.v.parents.length) (by omega)
    by_cases h2 : l - p.v.parents.length - p.members.length < 0
    · rw [if_pos h2] at hd
      (repeat (any_goals (first | (with_reducible apply at_seq) | ((with_reducible apply at_regS Θ_ok); (conv => whnf)) | ((refine go ?_); (conv => whnf)) | ((refine go2 (fun xe hxe => ?_)); (conv => whnf)) | ((with_reducible refine cnd_d (fun hq => ?_) (fun hq => ?_)) <;> (conv => whnf)) | ((with_reducible refine cnd_i (fun hq => ?_) (fun hq => ?_)) <;> ((try simp only [decide_eq_true_eq, decide_eq_false_iff_not, Bool.not_eq_true', Bool.not_eq_false', beq_iff_eq, bne_iff_ne, beq_eq_false_iff_ne, bne_eq_false_iff_eq, ne_eq] at hq) <;> (first | omega | (conv => whnf)))) | ((with_reducible first | apply at_cond | apply at_ret | apply at_exit | apply at_skip); (conv => whnf)) | (with_reducible apply at_block) | ((with_reducible refine at_regD Θ_ok mixed (by kernel_rfl) ?_); (conv => whnf)) | ((with_reducible refine call_r ?_); (conv => whnf); (first | ((with_reducible refine call_i (hc) ?_); (conv => whnf)) | ((with_reducible refine call_i (hd) ?_); (conv => whnf)))))))
      exact ⟨by rw [if_pos (by omega)], rfl⟩
    · rw [if_neg h2] at hd
      (repeat (any_goals (first | (with_reducible apply at_seq) | ((with_reducible apply at_regS Θ_ok); (conv => whnf)) | ((refine go ?_); (conv => whnf)) | ((refine go2 (fun xe hxe => ?_)); (conv => whnf)) | ((with_reducible refine cnd_d (fun hq => ?_) (fun hq => ?_)) <;> (conv => whnf)) | ((with_reducible refine cnd_i (fun hq => ?_) (fun hq => ?_)) <;> ((try simp only [decide_eq_true_eq, decide_eq_false_iff_not, Bool.not_eq_true', Bool.not_eq_false', beq_iff_eq, bne_iff_ne, beq_eq_false_iff_ne, bne_eq_false_iff_eq, ne_eq] at hq) <;> (first | omega | (conv => whnf)))) | ((with_reducible first | apply at_cond | apply at_ret | apply at_exit | apply at_skip); (conv => whnf)) | (with_reducible apply at_block) | ((with_reducible refine at_regD Θ_ok mixed (by kernel_rfl) ?_); (conv => whnf)) | ((with_reducible refine call_r ?_); (conv => whnf); (first | ((with_reducible refine call_i (hc) ?_); (conv => whnf)) | ((with_reducible refine call_i (hd) ?_); (conv => whnf)))))))
      exact ⟨by rw [if_neg (by omega)]; congr 1; omega, rfl⟩
theorem szProposalS_c (ps : List Ppl) (l : Int) (hl : 0 ≤ l ∧ l ≤ 1048576) : ConV Try.prog 47 [.lst .ppl ps, .int .i64 l] [] (.int .i64 (lft l (ps.length + psz ps))) [] := by
  refine con_eq Θ_ok Try.func47 rfl rfl false 0 4 rfl rfl rfl rfl fun K hK hb1 hb2 => ?_; simp only [argsV, enc, Nat.reduceAdd]
  simp [toDL, V.toD, bnd, encD, D.cells] at hb1
  have hno : l - ps.length - psz ps < 0 → V.int .i64 (-1) = V.int .i64 (lft l (ps.length + psz ps)) ∧ ([] : VH) = [] := fun h => ⟨by rw [lft, if_pos (by omega)], rfl⟩
  by_cases h0 : l - ps.length < 0
  · (repeat (any_goals (first | (with_reducible apply at_seq) | ((with_reducible apply at_regS Θ_ok); (conv => whnf)) | ((refine go ?_); (conv => whnf)) | ((refine go2 (fun xe hxe => ?_)); (conv => whnf)) | ((with_reducible refine cnd_d (fun hq => ?_) (fun hq => ?_)) <;> (conv => whnf)) | ((with_reducible refine cnd_i (fun hq => ?_) (fun hq => ?_)) <;> ((try simp only [decide_eq_true_eq, decide_eq_false_iff_not, Bool.not_eq_true', Bool.not_eq_false', beq_iff_eq, bne_iff_ne, beq_eq_false_iff_ne, bne_eq_false_iff_eq, ne_eq] at hq) <;> (first | omega | (conv => whnf)))) | ((with_reducible first | apply at_cond | apply at_ret | apply at_exit | apply at_skip); (conv => whnf)) | (with_reducible apply at_block) | ((with_reducible refine at_regD Θ_ok mixed (by kernel_rfl) ?_); (conv => whnf)))))
    exact hno (by omega)
  (repeat (any_goals (first | (with_reducible apply at_seq) | ((with_reducible apply at_regS Θ_ok); (conv => whnf)) | ((refine go ?_); (conv => whnf)) | ((refine go2 (fun xe hxe => ?_)); (conv => whnf)) | ((with_reducible refine cnd_d (fun hq => ?_) (fun hq => ?_)) <;> (conv => whnf)) | ((with_reducible refine cnd_i (fun hq => ?_) (fun hq => ?_)) <;> ((try simp only [decide_eq_true_eq, decide_eq_false_iff_not, Bool.not_eq_true', Bool.not_eq_false', beq_iff_eq, bne_iff_ne, beq_eq_false_iff_ne, bne_eq_false_iff_eq, ne_eq] at hq) <;> (first | omega | (conv => whnf)))) | ((with_reducible first | apply at_cond | apply at_ret | apply at_exit | apply at_skip); (conv => whnf)) | (with_reducible apply at_block) | ((with_reducible refine at_regD Θ_ok mixed (by kernel_rfl) ?_); (conv => whnf)))))
  refine at_loop hK [] [0, 1, 5] (fun i : Nat => ⟨[(0, .lst .ppl ps), (1, .int .i64 (l - ps.length - psz (ps.take i))), (5, .int .i64 i)], [], 4⟩) (fun i => i ≤ ps.length ∧ 0 ≤ l - ps.length - psz (ps.take i)) (fun i => ps.length - i) 0 ⟨by simp, by simp [psz]; omega⟩ (by simp [psz]; rfl) ?_
  rintro i ⟨hi, hp⟩
  by_cases hlt : i < ps.length
  · have hxe : ps[i]? = some ps[i] := List.getElem?_eq_getElem hlt
    have h3 : psz (ps.take (i + 1)) = psz (ps.take i) + psz1 ps[i] := sumf_snoc hxe
    have h4 : psz (ps.take (i + 1)) ≤ psz ps := sumf_tk _ ps (i + 1)
    generalize ps[i] = p at *
    have hc := szProposal_c p (l - ps.length - psz (ps.take i)) (by omega)
    unfold lft at hc
    by_cases h5 : l - ps.length - psz (ps.take i) - (psz1 p : Nat) < 0
    · rw [if_pos h5] at hc
      (repeat (any_goals (first | (with_reducible apply at_seq) | ((with_reducible apply at_regS Θ_ok); (conv => whnf)) | ((refine go ?_); (conv => whnf)) | ((refine go2 (fun xe hxe => ?_)); (conv => whnf)) | ((with_reducible refine cnd_d (fun hq => ?_) (fun hq => ?_)) <;> (conv => whnf)) | ((with_reducible refine cnd_i (fun hq => ?_) (fun hq => ?_)) <;> ((try simp only [decide_eq_true_eq, decide_eq_false_iff_not, Bool.not_eq_true', Bool.not_eq_false', beq_iff_eq, bne_iff_ne, beq_eq_false_iff_ne, bne_eq_false_iff_eq, ne_eq] at hq) <;> (first | omega | (conv => whnf)))) | ((with_reducible first | apply at_cond | apply at_ret | apply at_exit | apply at_skip); (conv => whnf)) | (with_reducible apply at_block) | ((with_reducible refine at_regD Θ_ok mixed (by kernel_rfl) ?_); (conv => whnf)) | ((with_reducible refine call_r ?_); (conv => whnf); (first | ((with_reducible refine call_i (hc) ?_); (conv => whnf)))))))
      exact hno (by omega)
    · rw [if_neg h5] at hc
      (repeat (any_goals (first | (with_reducible apply at_seq) | ((with_reducible apply at_regS Θ_ok); (conv => whnf)) | ((refine go ?_); (conv => whnf)) | ((refine go2 (fun xe hxe => ?_)); (conv => whnf)) | ((with_reducible refine cnd_d (fun hq => ?_) (fun hq => ?_)) <;> (conv => whnf)) | ((with_reducible refine cnd_i (fun hq => ?_) (fun hq => ?_)) <;> ((try simp only [decide_eq_true_eq, decide_eq_false_iff_not, Bool.not_eq_true', Bool.not_eq_false', beq_iff_eq, bne_iff_ne, beq_eq_false_iff_ne, bne_eq_false_iff_eq, ne_eq] at hq) <;> (first | omega | (conv => whnf)))) | ((with_reducible first | apply at_cond | apply at_ret | apply at_exit | apply at_skip); (conv => whnf)) | (with_reducible apply at_block) | ((with_reducible refine at_regD Θ_ok mixed (by kernel_rfl) ?_); (conv => whnf)) | ((with_reducible refine call_r ?_); (conv => whnf); (first | ((with_reducible refine call_i (hc) ?_); (conv => whnf)))))))
      refine ⟨i + 1, by omega, by omega, ?_⟩
      rw [h3, show l - (ps.length : Int) - ((psz (ps.take i) + psz1 p : Nat) : Int) = l - ps.length - psz (ps.take i) - (psz1 p : Nat) by omega]
      rfl
  · rw [List.take_of_length_le (by omega)] at *
    (repeat (any_goals (first | (with_reducible apply at_seq) | ((with_reducible apply at_regS Θ_ok); (conv => whnf)) | ((refine go ?_); (conv => whnf)) | ((refine go2 (fun xe hxe => ?_)); (conv => whnf)) | ((with_reducible refine cnd_d (fun hq => ?_) (fun hq => ?_)) <;> (conv => whnf)) | ((with_reducible refine cnd_i (fun hq => ?_) (fun hq => ?_)) <;> ((try simp only [decide_eq_true_eq, decide_eq_false_iff_not, Bool.not_eq_true', Bool.not_eq_false', beq_iff_eq, bne_iff_ne, beq_eq_false_iff_ne, bne_eq_false_iff_eq, ne_eq] at hq) <;> (first | omega | (conv => whnf)))) | ((with_reducible first | apply at_cond | apply at_ret | apply at_exit | apply at_skip); (conv => whnf)) | (with_reducible apply at_block) | ((with_reducible refine at_regD Θ_ok mixed (by kernel_rfl) ?_); (conv => whnf)))))
    exact ⟨by rw [lft, if_neg (by omega)]; congr 1; omega, rfl⟩
theorem szWorld_c (w : Wrl) (l : Int) (hl : 0 ≤ l ∧ l ≤ 1048576) : ConV Try.prog 19 [wrlA w, .int .i64 l] [] (.int .i64 (lft l (wsz w))) [] := by
  have h1 := szIntS_c w.com l hl
  refine con_eq Θ_ok Try.func19 rfl rfl false 0 4 rfl rfl rfl rfl fun K hK hb1 hb2 => ?_; simp only [argsV, enc, Nat.reduceAdd]
  clear hb1 hb2
  unfold lft wsz
  by_cases c1 : l - w.com.length < 0
  · rw [if_pos c1] at h1
    (repeat (any_goals (first | (with_reducible apply at_seq) | ((with_reducible apply at_regS Θ_ok); (conv => whnf)) | ((refine go ?_); (conv => whnf)) | ((refine go2 (fun xe hxe => ?_)); (conv => whnf)) | ((with_reducible refine cnd_d (fun hq => ?_) (fun hq => ?_)) <;> (conv => whnf)) | ((with_reducible refine cnd_i (fun hq => ?_) (fun hq => ?_)) <;> ((try simp only [decide_eq_true_eq, decide_eq_false_iff_not, Bool.not_eq_true', Bool.not_eq_false', beq_iff_eq, bne_iff_ne, beq_eq_false_iff_ne, bne_eq_false_iff_eq, ne_eq] at hq) <;> (first | omega | (conv => whnf)))) | ((with_reducible first | apply at_cond | apply at_ret | apply at_exit | apply at_skip); (conv => whnf)) | (with_reducible apply at_block) | ((with_reducible refine at_regD Θ_ok mixed (by kernel_rfl) ?_); (conv => whnf)) | ((with_reducible refine call_r ?_); (conv => whnf); (first | ((with_reducible refine call_i (h1) ?_); (conv => whnf)))))))
    exact ⟨by rw [if_pos (by omega)], rfl⟩
  rw [if_neg c1] at h1
  have h2 := szIntS_c w.lead (l - w.com.length) (by omega)
  by_cases c2 : l - w.com.length - w.lead.length < 0
  · rw [if_pos c2] at h2
    (repeat (any_goals (first | (with_reducible apply at_seq) | ((with_reducible apply at_regS Θ_ok); (conv => whnf)) | ((refine go ?_); (conv => whnf)) | ((refine go2 (fun xe hxe => ?_)); (conv => whnf)) | ((with_reducible refine cnd_d (fun hq => ?_) (fun hq => ?_)) <;> (conv => whnf)) | ((with_reducible refine cnd_i (fun hq => ?_) (fun hq => ?_)) <;> ((try simp only [decide_eq_true_eq, decide_eq_false_iff_not, Bool.not_eq_true', Bool.not_eq_false', beq_iff_eq, bne_iff_ne, beq_eq_false_iff_ne, bne_eq_false_iff_eq, ne_eq] at hq) <;> (first | omega | (conv => whnf)))) | ((with_reducible first | apply at_cond | apply at_ret | apply at_exit | apply at_skip); (conv => whnf)) | (with_reducible apply at_block) | ((with_reducible refine at_regD Θ_ok mixed (by kernel_rfl) ?_); (conv => whnf)) | ((with_reducible refine call_r ?_); (conv => whnf); (first | ((with_reducible refine call_i (h1) ?_); (conv => whnf)) | ((with_reducible refine call_i (h2) ?_); (conv => whnf)))))))
    exact ⟨by rw [if_pos (by omega)], rfl⟩
  rw [if_neg c2] at h2
  have h3 := szVertexSS_c w.views (l - w.com.length - w.lead.length) (by omega)
  unfold lft at h3
  by_cases c3 : l - w.com.length - w.lead.length - (w.views.length + gsz w.views : Nat) < 0
  · rw [if_pos c3] at h3
    (repeat (any_goals (first | (with_reducible apply at_seq) | ((with_reducible apply at_regS Θ_ok); (conv => whnf)) | ((refine go ?_); (conv => whnf)) | ((refine go2 (fun xe hxe => ?_)); (conv => whnf)) | ((with_reducible refine cnd_d (fun hq => ?_) (fun hq => ?_)) <;> (conv => whnf)) | ((with_reducible refine cnd_i (fun hq => ?_) (fun hq => ?_)) <;> ((try simp only [decide_eq_true_eq, decide_eq_false_iff_not, Bool.not_eq_true', Bool.not_eq_false', beq_iff_eq, bne_iff_ne, beq_eq_false_iff_ne, bne_eq_false_iff_eq, ne_eq] at hq) <;> (first | omega | (conv => whnf)))) | ((with_reducible first | apply at_cond | apply at_ret | apply at_exit | apply at_skip); (conv => whnf)) | (with_reducible apply at_block) | ((with_reducible refine at_regD Θ_ok mixed (by kernel_rfl) ?_); (conv => whnf)) | ((with_reducible refine call_r ?_); (conv => whnf); (first | ((with_reducible refine call_i (h1) ?_); (conv => whnf)) | ((with_reducible refine call_i (h2) ?_); (conv => whnf)) | ((with_reducible refine call_i (h3) ?_); (conv => whnf)))))))
    exact ⟨by rw [if_pos (by omega)], rfl⟩
  rw [if_neg c3] at h3
  have h4 := szProposalS_c w.props (l - w.com.length - w.lead.length - (w.views.length + gsz w.views : Nat)) (by omega)
  unfold lft at h4
  by_cases c4 : l - w.com.length - w.lead.length - (w.views.length + gsz w.views : Nat) - (w.props.length + psz w.props : Nat) < 0
  · rw [if_pos c4] at h4
    (repeat (any_goals (first | (with_reducible apply at_seq) | ((with_reducible apply at_regS Θ_ok); (conv => whnf)) | ((refine go ?_); (conv => whnf)) | ((refine go2 (fun xe hxe => ?_)); (conv => whnf)) | ((with_reducible refine cnd_d (fun hq => ?_) (fun hq => ?_)) <;> (conv => whnf)) | ((with_reducible refine cnd_i (fun hq => ?_) (fun hq => ?_)) <;> ((try simp only [decide_eq_true_eq, decide_eq_false_iff_not, Bool.not_eq_true', Bool.not_eq_false', beq_iff_eq, bne_iff_ne, beq_eq_false_iff_ne, bne_eq_false_iff_eq, ne_eq] at hq) <;> (first | omega | (conv => whnf)))) | ((with_reducible first | apply at_cond | apply at_ret | apply at_exit | apply at_skip); (conv => whnf)) | (with_reducible apply at_block) | ((with_reducible refine at_regD Θ_ok mixed (by kernel_rfl) ?_); (conv => whnf)) | ((with_reducible refine call_r ?_); (conv => whnf); (first | ((with_reducible refine call_i (h1) ?_); (conv => whnf)) | ((with_reducible refine call_i (h2) ?_); (conv => whnf)) | ((with_reducible refine call_i (h3) ?_); (conv => whnf)) | ((with_reducible refine call_i (h4) ?_); (conv => whnf)))))))
    exact ⟨by rw [if_pos (by omega)], rfl⟩
  · rw [if_neg c4] at h4
    (repeat (any_goals (first | (with_reducible apply at_seq) | ((with_reducible apply at_regS Θ_ok); (conv => whnf)) | ((refine go ?_); (conv => whnf)) | ((refine go2 (fun xe hxe => ?_)); (conv => whnf)) | ((with_reducible refine cnd_d (fun hq => ?_) (fun hq => ?_)) <;> (conv => whnf)) | ((with_reducible refine cnd_i (fun hq => ?_) (fun hq => ?_)) <;> ((try simp only [decide_eq_true_eq, decide_eq_false_iff_not, Bool.not_eq_true', Bool.not_eq_false', beq_iff_eq, bne_iff_ne, beq_eq_false_iff_ne, bne_eq_false_iff_eq, ne_eq] at hq) <;> (first | omega | (conv => whnf)))) | ((with_reducible first | apply at_cond | apply at_ret | apply at_exit | apply at_skip); (conv => whnf)) | (with_reducible apply at_block) | ((with_reducible refine at_regD Θ_ok mixed (by kernel_rfl) ?_); (conv => whnf)) | ((with_reducible refine call_r ?_); (conv => whnf); (first | ((with_reducible refine call_i (h1) ?_); (conv => whnf)) | ((with_reducible refine call_i (h2) ?_); (conv => whnf)) | ((with_reducible refine call_i (h3) ?_); (conv => whnf)) | ((with_reducible refine call_i (h4) ?_); (conv => whnf)))))))
    exact ⟨by rw [if_neg (by omega)]; congr 1; omega, rfl⟩
/-- small enough for the laws -/
structure Small (w : Wrl) : Prop where
  com : w.com.length ≤ 1048576
  lead : w.lead.length ≤ 1048576
  vlen : w.views.length ≤ 1048576
  view : ∀ g ∈ w.views, g.length ≤ 1048576 ∧ ∀ v ∈ g, v.parents.length ≤ 1048576
  plen : w.props.length ≤ 1048576
  prop : ∀ p ∈ w.props, p.v.parents.length ≤ 1048576 ∧ p.members.length ≤ 1048576
theorem small_of {w : Wrl} (h : wsz w ≤ 1048576) : Small w := by
  unfold wsz at h
  refine ⟨by omega, by omega, by omega, fun g hg => ?_, by omega, fun p hp => ?_⟩
  · have h1 : gsz1 g ≤ gsz w.views := sumf_le hg
    unfold gsz1 at h1
    refine ⟨by omega, fun v hv => ?_⟩
    have := par_le hv
    omega
  · have h1 : psz1 p ≤ psz w.props := sumf_le hp
    unfold psz1 at h1
    omega
theorem toVertexSS_c (gs : List (List Vtx)) (hg : gs.length ≤ 1048576) (hv : ∀ g ∈ gs, g.length ≤ 1048576 ∧ ∀ v ∈ g, v.parents.length ≤ 1048576) : ConV Try.prog 52 [.lst (.lst .vtx) gs] [] (.lst (.lst .vtx) gs) [] := by
  refine con_eq Θ_ok Try.func52 rfl rfl true 0 4 rfl rfl rfl rfl fun K hK hb1 hb2 => ?_; simp only [argsV, enc, Nat.reduceAdd]
  clear hb1 hb2
  (repeat (any_goals (first | (with_reducible apply at_seq) | ((with_reducible apply at_regS Θ_ok); (conv => whnf)) | ((refine go ?_); (conv => whnf)) | ((refine go2 (fun xe hxe => ?_)); (conv => whnf)) | ((with_reducible refine cnd_d (fun hq => ?_) (fun hq => ?_)) <;> (conv => whnf)) | ((with_reducible refine cnd_i (fun hq => ?_) (fun hq => ?_)) <;> ((try simp only [decide_eq_true_eq, decide_eq_false_iff_not, Bool.not_eq_true', Bool.not_eq_false', beq_iff_eq, bne_iff_ne, beq_eq_false_iff_ne, bne_eq_false_iff_eq, ne_eq] at hq) <;> (first | omega | (conv => whnf)))) | ((with_reducible first | apply at_cond | apply at_ret | apply at_exit | apply at_skip); (conv => whnf)) | (with_reducible apply at_block) | ((with_reducible refine at_regD Θ_ok mixed (by kernel_rfl) ?_); (conv => whnf)))))
  refine at_loop hK [] [0, 3, 4] (fun i : Nat => ⟨[(0, .lst (.lst .vtx) gs), (3, .ref 4), (4, .int .i64 i)], [(4, .row 33 (.lst .vtx) (gs.take i ++ (List.replicate gs.length []).drop i))], 5⟩) (fun i => i ≤ gs.length) (fun i => gs.length - i) 0 (by simp) (by simp; rfl) ?_
  intro i hi
  by_cases hlt : i < gs.length
  · have hx : gs[i]? = some gs[i] := List.getElem?_eq_getElem hlt
    have hgt : i < (gs.take i ++ (List.replicate gs.length []).drop i).length := over_get _ _ (by simp; omega) (by simpa using hlt)
    have hs : (gs.take i ++ (List.replicate gs.length []).drop i).set i gs[i] = gs.take (i + 1) ++ (List.replicate gs.length []).drop (i + 1) := by
      rw [set_over _ _ _ (by simp; omega) (by simpa using hlt), List.take_succ_eq_append_getElem hlt]
    obtain ⟨hvl, hvp⟩ := hv _ (List.getElem_mem hlt)
    generalize hrow : gs.take i ++ (List.replicate gs.length []).drop i = row at *
    generalize gs[i] = x at *
    (repeat (any_goals (first | (with_reducible apply at_seq) | ((with_reducible apply at_regS Θ_ok); (conv => whnf)) | ((refine go ?_); (conv => whnf)) | ((refine go2 (fun xe hxe => ?_)); (conv => whnf)) | ((with_reducible refine cnd_d (fun hq => ?_) (fun hq => ?_)) <;> (conv => whnf)) | ((with_reducible refine cnd_i (fun hq => ?_) (fun hq => ?_)) <;> ((try simp only [decide_eq_true_eq, decide_eq_false_iff_not, Bool.not_eq_true', Bool.not_eq_false', beq_iff_eq, bne_iff_ne, beq_eq_false_iff_ne, bne_eq_false_iff_eq, ne_eq] at hq) <;> (first | omega | (conv => whnf)))) | ((with_reducible first | apply at_cond | apply at_ret | apply at_exit | apply at_skip); (conv => whnf)) | (with_reducible apply at_block) | ((with_reducible refine at_regD Θ_ok mixed (by kernel_rfl) ?_); (conv => whnf)) | ((with_reducible refine call_r ?_); (conv => whnf); (first | ((with_reducible refine call_i (toVertexS_c _ hvl hvp) ?_); (conv => whnf)))))))
    refine ⟨i + 1, by omega, by omega, ?_⟩
    rw [← hs]
    rfl
  · obtain rfl : i = gs.length := by omega
    (repeat (any_goals (first | (with_reducible apply at_seq) | ((with_reducible apply at_regS Θ_ok); (conv => whnf)) | ((refine go ?_); (conv => whnf)) | ((refine go2 (fun xe hxe => ?_)); (conv => whnf)) | ((with_reducible refine cnd_d (fun hq => ?_) (fun hq => ?_)) <;> (conv => whnf)) | ((with_reducible refine cnd_i (fun hq => ?_) (fun hq => ?_)) <;> ((try simp only [decide_eq_true_eq, decide_eq_false_iff_not, Bool.not_eq_true', Bool.not_eq_false', beq_iff_eq, bne_iff_ne, beq_eq_false_iff_ne, bne_eq_false_iff_eq, ne_eq] at hq) <;> (first | omega | (conv => whnf)))) | ((with_reducible first | apply at_cond | apply at_ret | apply at_exit | apply at_skip); (conv => whnf)) | (with_reducible apply at_block) | ((with_reducible refine at_regD Θ_ok mixed (by kernel_rfl) ?_); (conv => whnf)))))
    simp
theorem toProposal_c (p : Ppl) (hv : p.v.parents.length ≤ 1048576 ∧ p.members.length ≤ 1048576) : ConV Try.prog 82 [pplA p] [] (pplA p) [] := by
  refine con_eq Θ_ok Try.func82 rfl rfl true 0 4 rfl rfl rfl rfl fun K hK hb1 hb2 => ?_; simp only [argsV, enc, Nat.reduceAdd]
  clear hb1 hb2
  (repeat (any_goals (first | (with_reducible apply at_seq) | ((with_reducible apply at_regS Θ_ok); (conv => whnf)) | ((refine go ?_); (conv => whnf)) | ((refine go2 (fun xe hxe => ?_)); (conv => whnf)) | ((with_reducible refine cnd_d (fun hq => ?_) (fun hq => ?_)) <;> (conv => whnf)) | ((with_reducible refine cnd_i (fun hq => ?_) (fun hq => ?_)) <;> ((try simp only [decide_eq_true_eq, decide_eq_false_iff_not, Bool.not_eq_true', Bool.not_eq_false', beq_iff_eq, bne_iff_ne, beq_eq_false_iff_ne, bne_eq_false_iff_eq, ne_eq] at hq) <;> (first | omega | (conv => whnf)))) | ((with_reducible first | apply at_cond | apply at_ret | apply at_exit | apply at_skip); (conv => whnf)) | (with_reducible apply at_block) | ((with_reducible refine at_regD Θ_ok mixed (by kernel_rfl) ?_); (conv => whnf)) | ((with_reducible refine call_r ?_); (conv => whnf); (first | ((with_reducible refine call_i (toVertex_c _ hv.1) ?_); (conv => whnf)) | ((with_reducible refine call_i (toIntS_c _ hv.2) ?_); (conv => whnf)))))))
  exact ⟨rfl, rfl⟩
theorem toProposalS_c (ps : List Ppl) (hp : ps.length ≤ 1048576) (hv : ∀ p ∈ ps, p.v.parents.length ≤ 1048576 ∧ p.members.length ≤ 1048576) : ConV Try.prog 53 [.lst .ppl ps] [] (.lst .ppl ps) [] := by
  refine con_eq Θ_ok Try.func53 rfl rfl true 0 4 rfl rfl rfl rfl fun K hK hb1 hb2 => ?_; simp only [argsV, enc, Nat.reduceAdd]
  clear hb1 hb2
  (repeat (any_goals (first | (with_reducible apply at_seq) | ((with_reducible apply at_regS Θ_ok); (conv => whnf)) | ((refine go ?_); (conv => whnf)) | ((refine go2 (fun xe hxe => ?_)); (conv => whnf)) | ((with_reducible refine cnd_d (fun hq => ?_) (fun hq => ?_)) <;> (conv => whnf)) | ((with_reducible refine cnd_i (fun hq => ?_) (fun hq => ?_)) <;> ((try simp only [decide_eq_true_eq, decide_eq_false_iff_not, Bool.not_eq_true', Bool.not_eq_false', beq_iff_eq, bne_iff_ne, beq_eq_false_iff_ne, bne_eq_false_iff_eq, ne_eq] at hq) <;> (first | omega | (conv => whnf)))) | ((with_reducible first | apply at_cond | apply at_ret | apply at_exit | apply at_skip); (conv => whnf)) | (with_reducible apply at_block) | ((with_reducible refine at_regD Θ_ok mixed (by kernel_rfl) ?_); (conv => whnf)))))
  refine at_loop hK [] [0, 3, 4] (fun i : Nat => ⟨[(0, .lst .ppl ps), (3, .ref 4), (4, .int .i64 i)], [(4, .row 65 .ppl (ps.take i ++ (List.replicate ps.length p0).drop i))], 5⟩) (fun i => i ≤ ps.length) (fun i => ps.length - i) 0 (by simp) (by simp; rfl) ?_
  intro i hi
  by_cases hlt : i < ps.length
  · have hx : ps[i]? = some ps[i] := List.getElem?_eq_getElem hlt
    have hgt : i < (ps.take i ++ (List.replicate ps.length p0).drop i).length := over_get _ _ (by simp; omega) (by simpa using hlt)
    have hs : (ps.take i ++ (List.replicate ps.length p0).drop i).set i ps[i] = ps.take (i + 1) ++ (List.replicate ps.length p0).drop (i + 1) := by
      rw [set_over _ _ _ (by simp; omega) (by simpa using hlt), List.take_succ_eq_append_getElem hlt]
    have hvl := hv _ (List.getElem_mem hlt)
    generalize hrow : ps.take i ++ (List.replicate ps.length p0).drop i = row at *
    generalize ps[i] = x at *
    (repeat (any_goals (first | (with_reducible apply at_seq) | ((with_reducible apply at_regS Θ_ok); (conv => whnf)) | ((refine go ?_); (conv => whnf)) | ((refine go2 (fun xe hxe => ?_)); (conv => whnf)) | ((with_reducible refine cnd_d (fun hq => ?_) (fun hq => ?_)) <;> (conv => whnf)) | ((with_reducible refine cnd_i (fun hq => ?_) (fun hq => ?_)) <;> ((try simp only [decide_eq_true_eq, decide_eq_false_iff_not, Bool.not_eq_true', Bool.not_eq_false', beq_iff_eq, bne_iff_ne, beq_eq_false_iff_ne, bne_eq_false_iff_eq, ne_eq] at hq) <;> (first | omega | (conv => whnf)))) | ((with_reducible first | apply at_cond | apply at_ret | apply at_exit | apply at_skip); (conv => whnf)) | (with_reducible apply at_block) | ((with_reducible refine at_regD Θ_ok mixed (by kernel_rfl) ?_); (conv => whnf)) | ((with_reducible refine call_r ?_); (conv => whnf); (first | ((with_reducible refine call_i (toProposal_c _ hvl) ?_); (conv => whnf)))))))
    refine ⟨i + 1, by omega, by omega, ?_⟩
    rw [← hs]
    rfl
  · obtain rfl : i = ps.length := by omega
    (repeat (any_goals (first | (with_reducible apply at_seq) | ((with_reducible apply at_regS Θ_ok); (conv => whnf)) | ((refine go ?_); (conv => whnf)) | ((refine go2 (fun xe hxe => ?_)); (conv => whnf)) | ((with_reducible refine cnd_d (fun hq => ?_) (fun hq => ?_)) <;> (conv => whnf)) | ((with_reducible refine cnd_i (fun hq => ?_) (fun hq => ?_)) <;> ((try simp only [decide_eq_true_eq, decide_eq_false_iff_not, Bool.not_eq_true', Bool.not_eq_false', beq_iff_eq, bne_iff_ne, beq_eq_false_iff_ne, bne_eq_false_iff_eq, ne_eq] at hq) <;> (first | omega | (conv => whnf)))) | ((with_reducible first | apply at_cond | apply at_ret | apply at_exit | apply at_skip); (conv => whnf)) | (with_reducible apply at_block) | ((with_reducible refine at_regD Θ_ok mixed (by kernel_rfl) ?_); (conv => whnf)))))
    simp
theorem toWorld_c (w : Wrl) (h : Small w) : ConV Try.prog 21 [wrlA w] [] (wrlA w) [] := by
  obtain ⟨h1, h2, h3, h4, h5, h6⟩ := h
  refine con_eq Θ_ok Try.func21 rfl rfl true 0 4 rfl rfl rfl rfl fun K hK hb1 hb2 => ?_; simp only [argsV, enc, Nat.reduceAdd]
  clear hb1 hb2
  (repeat (any_goals (first | (with_reducible apply at_seq) | ((with_reducible apply at_regS Θ_ok); (conv => whnf)) | ((refine go ?_); (conv => whnf)) | ((refine go2 (fun xe hxe => ?_)); (conv => whnf)) | ((with_reducible refine cnd_d (fun hq => ?_) (fun hq => ?_)) <;> (conv => whnf)) | ((with_reducible refine cnd_i (fun hq => ?_) (fun hq => ?_)) <;> ((try simp only [decide_eq_true_eq, decide_eq_false_iff_not, Bool.not_eq_true', Bool.not_eq_false', beq_iff_eq, bne_iff_ne, beq_eq_false_iff_ne, bne_eq_false_iff_eq, ne_eq] at hq) <;> (first | omega | (conv => whnf)))) | ((with_reducible first | apply at_cond | apply at_ret | apply at_exit | apply at_skip); (conv => whnf)) | (with_reducible apply at_block) | ((with_reducible refine at_regD Θ_ok mixed (by kernel_rfl) ?_); (conv => whnf)) | ((with_reducible refine call_r ?_); (conv => whnf); (first | ((with_reducible refine call_i (toIntS_c _ h1) ?_); (conv => whnf)) | ((with_reducible refine call_i (toIntS_c _ h2) ?_); (conv => whnf)) | ((with_reducible refine call_i (toVertexSS_c _ h3 h4) ?_); (conv => whnf)) | ((with_reducible refine call_i (toProposalS_c _ h5 h6) ?_); (conv => whnf)))))))
  exact ⟨rfl, rfl⟩
theorem eqVertexSS_e (g : List (List Vtx)) : ConV Try.prog 39 [.lst (.lst .vtx) g, .lst (.lst .vtx) g] [] (.bool true) [] := by
  refine con_eq Θ_ok Try.func39 rfl rfl false 0 4 rfl rfl rfl rfl fun K hK hb1 hb2 => ?_; simp only [argsV, enc, Nat.reduceAdd]
  simp [toDL, V.toD, bnd, encD, D.cells] at hb1
  (repeat (any_goals (first | (with_reducible apply at_seq) | ((with_reducible apply at_regS Θ_ok); (conv => whnf)) | ((refine go ?_); (conv => whnf)) | ((refine go2 (fun xe hxe => ?_)); (conv => whnf)) | ((with_reducible refine cnd_d (fun hq => ?_) (fun hq => ?_)) <;> (conv => whnf)) | ((with_reducible refine cnd_i (fun hq => ?_) (fun hq => ?_)) <;> ((try simp only [decide_eq_true_eq, decide_eq_false_iff_not, Bool.not_eq_true', Bool.not_eq_false', beq_iff_eq, bne_iff_ne, beq_eq_false_iff_ne, bne_eq_false_iff_eq, ne_eq] at hq) <;> (first | omega | (conv => whnf)))) | ((with_reducible first | apply at_cond | apply at_ret | apply at_exit | apply at_skip); (conv => whnf)) | (with_reducible apply at_block) | ((with_reducible refine at_regD Θ_ok mixed (by kernel_rfl) ?_); (conv => whnf)))))
  · exact absurd trivial hq
  refine at_loop hK [] [0, 1, 5] (fun i : Nat => ⟨[(0, .lst (.lst .vtx) g), (1, .lst (.lst .vtx) g), (5, .int .i64 i)], [], 4⟩) (fun i => i ≤ g.length) (fun i => g.length - i) 0 (by simp) rfl ?_
  intro i hi
  by_cases hlt : i < g.length
  · have hx : g[i]? = some g[i] := List.getElem?_eq_getElem hlt
    generalize g[i] = x at *
    (repeat (any_goals (first | (with_reducible apply at_seq) | ((with_reducible apply at_regS Θ_ok); (conv => whnf)) | ((refine go ?_); (conv => whnf)) | ((refine go2 (fun xe hxe => ?_)); (conv => whnf)) | ((with_reducible refine cnd_d (fun hq => ?_) (fun hq => ?_)) <;> (conv => whnf)) | ((with_reducible refine cnd_i (fun hq => ?_) (fun hq => ?_)) <;> ((try simp only [decide_eq_true_eq, decide_eq_false_iff_not, Bool.not_eq_true', Bool.not_eq_false', beq_iff_eq, bne_iff_ne, beq_eq_false_iff_ne, bne_eq_false_iff_eq, ne_eq] at hq) <;> (first | omega | (conv => whnf)))) | ((with_reducible first | apply at_cond | apply at_ret | apply at_exit | apply at_skip); (conv => whnf)) | (with_reducible apply at_block) | ((with_reducible refine at_regD Θ_ok mixed (by kernel_rfl) ?_); (conv => whnf)) | ((with_reducible refine call_r ?_); (conv => whnf); (first | ((with_reducible refine call_i (eqVertexS_e _) ?_); (conv => whnf)))))))
    exact ⟨i + 1, by omega, by omega, rfl⟩
  · (repeat (any_goals (first | (with_reducible apply at_seq) | ((with_reducible apply at_regS Θ_ok); (conv => whnf)) | ((refine go ?_); (conv => whnf)) | ((refine go2 (fun xe hxe => ?_)); (conv => whnf)) | ((with_reducible refine cnd_d (fun hq => ?_) (fun hq => ?_)) <;> (conv => whnf)) | ((with_reducible refine cnd_i (fun hq => ?_) (fun hq => ?_)) <;> ((try simp only [decide_eq_true_eq, decide_eq_false_iff_not, Bool.not_eq_true', Bool.not_eq_false', beq_iff_eq, bne_iff_ne, beq_eq_false_iff_ne, bne_eq_false_iff_eq, ne_eq] at hq) <;> (first | omega | (conv => whnf)))) | ((with_reducible first | apply at_cond | apply at_ret | apply at_exit | apply at_skip); (conv => whnf)) | (with_reducible apply at_block) | ((with_reducible refine at_regD Θ_ok mixed (by kernel_rfl) ?_); (conv => whnf)))))
    exact ⟨rfl, rfl⟩
theorem eqProposal_e (p : Ppl) : ConV Try.prog 70 [pplA p, pplA p] [] (.bool true) [] := by
  refine con_eq Θ_ok Try.func70 rfl rfl false 0 4 rfl rfl rfl rfl fun K hK hb1 hb2 => ?_; simp only [argsV, enc, Nat.reduceAdd]
  (repeat (any_goals (first | (with_reducible apply at_seq) | ((with_reducible apply at_regS Θ_ok); (conv => whnf)) | ((refine go ?_); (conv => whnf)) | ((refine go2 (fun xe hxe => ?_)); (conv => whnf)) | ((with_reducible refine cnd_d (fun hq => ?_) (fun hq => ?_)) <;> (conv => whnf)) | ((with_reducible refine cnd_i (fun hq => ?_) (fun hq => ?_)) <;> ((try simp only [decide_eq_true_eq, decide_eq_false_iff_not, Bool.not_eq_true', Bool.not_eq_false', beq_iff_eq, bne_iff_ne, beq_eq_false_iff_ne, bne_eq_false_iff_eq, ne_eq] at hq) <;> (first | omega | (conv => whnf)))) | ((with_reducible first | apply at_cond | apply at_ret | apply at_exit | apply at_skip); (conv => whnf)) | (with_reducible apply at_block) | ((with_reducible refine at_regD Θ_ok mixed (by kernel_rfl) ?_); (conv => whnf)) | ((with_reducible refine call_r ?_); (conv => whnf); (first | ((with_reducible refine call_i (eqVertex_e _) ?_); (conv => whnf)) | ((with_reducible refine call_i (eqIntS_e _) ?_); (conv => whnf)))))))
  all_goals first | (exact ⟨rfl, rfl⟩) | exact absurd rfl hq | exact absurd trivial hq | cases hq
theorem eqProposalS_e (g : List Ppl) : ConV Try.prog 40 [.lst .ppl g, .lst .ppl g] [] (.bool true) [] := by
  refine con_eq Θ_ok Try.func40 rfl rfl false 0 4 rfl rfl rfl rfl fun K hK hb1 hb2 => ?_; simp only [argsV, enc, Nat.reduceAdd]
  simp [toDL, V.toD, bnd, encD, D.cells] at hb1
  (repeat (any_goals (first | (with_reducible apply at_seq) | ((with_reducible apply at_regS Θ_ok); (conv => whnf)) | ((refine go ?_); (conv => whnf)) | ((refine go2 (fun xe hxe => ?_)); (conv => whnf)) | ((with_reducible refine cnd_d (fun hq => ?_) (fun hq => ?_)) <;> (conv => whnf)) | ((with_reducible refine cnd_i (fun hq => ?_) (fun hq => ?_)) <;> ((try simp only [decide_eq_true_eq, decide_eq_false_iff_not, Bool.not_eq_true', Bool.not_eq_false', beq_iff_eq, bne_iff_ne, beq_eq_false_iff_ne, bne_eq_false_iff_eq, ne_eq] at hq) <;> (first | omega | (conv => whnf)))) | ((with_reducible first | apply at_cond | apply at_ret | apply at_exit | apply at_skip); (conv => whnf)) | (with_reducible apply at_block) | ((with_reducible refine at_regD Θ_ok mixed (by kernel_rfl) ?_); (conv => whnf)))))
  · exact absurd trivial hq
  refine at_loop hK [] [0, 1, 5] (fun i : Nat => ⟨[(0, .lst .ppl g), (1, .lst .ppl g), (5, .int .i64 i)], [], 4⟩) (fun i => i ≤ g.length) (fun i => g.length - i) 0 (by simp) rfl ?_
  intro i hi
  by_cases hlt : i < g.length
  · have hx : g[i]? = some g[i] := List.getElem?_eq_getElem hlt
    generalize g[i] = x at *
    (repeat (any_goals (first | (with_reducible apply at_seq) | ((with_reducible apply at_regS Θ_ok); (conv => whnf)) | ((refine go ?_); (conv => whnf)) | ((refine go2 (fun xe hxe => ?_)); (conv => whnf)) | ((with_reducible refine cnd_d (fun hq => ?_) (fun hq => ?_)) <;> (conv => whnf)) | ((with_reducible refine cnd_i (fun hq => ?_) (fun hq => ?_)) <;> ((try simp only [decide_eq_true_eq, decide_eq_false_iff_not, Bool.not_eq_true', Bool.not_eq_false', beq_iff_eq, bne_iff_ne, beq_eq_false_iff_ne, bne_eq_false_iff_eq, ne_eq] at hq) <;> (first | omega | (conv => whnf)))) | ((with_reducible first | apply at_cond | apply at_ret | apply at_exit | apply at_skip); (conv => whnf)) | (with_reducible apply at_block) | ((with_reducible refine at_regD Θ_ok mixed (by kernel_rfl) ?_); (conv => whnf)) | ((with_reducible refine call_r ?_); (conv => whnf); (first | ((with_reducible refine call_i (eqProposal_e _) ?_); (conv => whnf)))))))
    exact ⟨i + 1, by omega, by omega, rfl⟩
  · (repeat (any_goals (first | (with_reducible apply at_seq) | ((with_reducible apply at_regS Θ_ok); (conv => whnf)) | ((refine go ?_); (conv => whnf)) | ((refine go2 (fun xe hxe => ?_)); (conv => whnf)) | ((with_reducible refine cnd_d (fun hq => ?_) (fun hq => ?_)) <;> (conv => whnf)) | ((with_reducible refine cnd_i (fun hq => ?_) (fun hq => ?_)) <;> ((try simp only [decide_eq_true_eq, decide_eq_false_iff_not, Bool.not_eq_true', Bool.not_eq_false', beq_iff_eq, bne_iff_ne, beq_eq_false_iff_ne, bne_eq_false_iff_eq, ne_eq] at hq) <;> (first | omega | (conv => whnf)))) | ((with_reducible first | apply at_cond | apply at_ret | apply at_exit | apply at_skip); (conv => whnf)) | (with_reducible apply at_block) | ((with_reducible refine at_regD Θ_ok mixed (by kernel_rfl) ?_); (conv => whnf)))))
    exact ⟨rfl, rfl⟩
theorem eqWorld_e (w : Wrl) : ConV Try.prog 14 [wrlA w, wrlA w] [] (.bool true) [] := by
  refine con_eq Θ_ok Try.func14 rfl rfl false 0 4 rfl rfl rfl rfl fun K hK hb1 hb2 => ?_; simp only [argsV, enc, Nat.reduceAdd]
  clear hb1 hb2
  (repeat (any_goals (first | (with_reducible apply at_seq) | ((with_reducible apply at_regS Θ_ok); (conv => whnf)) | ((refine go ?_); (conv => whnf)) | ((refine go2 (fun xe hxe => ?_)); (conv => whnf)) | ((with_reducible refine cnd_d (fun hq => ?_) (fun hq => ?_)) <;> (conv => whnf)) | ((with_reducible refine cnd_i (fun hq => ?_) (fun hq => ?_)) <;> ((try simp only [decide_eq_true_eq, decide_eq_false_iff_not, Bool.not_eq_true', Bool.not_eq_false', beq_iff_eq, bne_iff_ne, beq_eq_false_iff_ne, bne_eq_false_iff_eq, ne_eq] at hq) <;> (first | omega | (conv => whnf)))) | ((with_reducible first | apply at_cond | apply at_ret | apply at_exit | apply at_skip); (conv => whnf)) | (with_reducible apply at_block) | ((with_reducible refine at_regD Θ_ok mixed (by kernel_rfl) ?_); (conv => whnf)) | ((with_reducible refine call_r ?_); (conv => whnf); (first | ((with_reducible refine call_i (eqIntS_e _) ?_); (conv => whnf)) | ((with_reducible refine call_i (eqVertexSS_e _) ?_); (conv => whnf)) | ((with_reducible refine call_i (eqProposalS_e _) ?_); (conv => whnf)))))))
  all_goals first | (exact ⟨rfl, rfl⟩) | exact absurd rfl hq | exact absurd trivial hq | cases hq
end Go.Proofs.Ytfamejohdhkffaa.Am
namespace Go.Proofs.Ytfamejohdhkffaa.Am
set_option linter.unusedSimpArgs false
set_option linter.unusedVariables false
open Go
attribute [local irreducible] Mk Need Ari Get Idx Cnd CallM CallA Opt Unch At ConV
set_option maxRecDepth 10000
theorem lawExWV_c (w : Wrl) : ConV Try.prog 5 [wrlA w] [] (.bool true) [] := by
  have hsz := szWorld_c w 1048576 (by omega)
  unfold lft at hsz
  refine con_eq Θ_ok Try.func5 rfl rfl false 0 4 rfl rfl rfl rfl fun K hK hb1 hb2 => ?_; simp only [argsV, enc, Nat.reduceAdd]
  clear hb1 hb2
  by_cases hl : (1048576 : Int) - (wsz w : Nat) < 0
  · rw [if_pos hl] at hsz
    (repeat (any_goals (first | (with_reducible apply at_seq) | ((with_reducible apply at_regS Θ_ok); (conv => whnf)) | ((refine go ?_); (conv => whnf)) | ((refine go2 (fun xe hxe => ?_)); (conv => whnf)) | ((with_reducible refine cnd_d (fun hq => ?_) (fun hq => ?_)) <;> (conv => whnf)) | ((with_reducible refine cnd_i (fun hq => ?_) (fun hq => ?_)) <;> ((try simp only [decide_eq_true_eq, decide_eq_false_iff_not, Bool.not_eq_true', Bool.not_eq_false', beq_iff_eq, bne_iff_ne, beq_eq_false_iff_ne, bne_eq_false_iff_eq, ne_eq] at hq) <;> (first | omega | (conv => whnf)))) | ((with_reducible first | apply at_cond | apply at_ret | apply at_exit | apply at_skip); (conv => whnf)) | (with_reducible apply at_block) | ((with_reducible refine at_regD Θ_ok mixed (by kernel_rfl) ?_); (conv => whnf)) | ((with_reducible refine call_r ?_); (conv => whnf); (first | ((with_reducible refine call_i (hsz) ?_); (conv => whnf)))))))
    exact ⟨rfl, rfl⟩
  rw [if_neg hl] at hsz
  have hs : Small w := small_of (by omega)
  have hI := iwV_c w fun g hg => by have := (hs.view g hg).1; omega
  have hS := swV_c w (by have := hs.com; omega)
  cases hv : wrlS w
  · rw [hv] at hI hS
    (repeat (any_goals (first | (with_reducible apply at_seq) | ((with_reducible apply at_regS Θ_ok); (conv => whnf)) | ((refine go ?_); (conv => whnf)) | ((refine go2 (fun xe hxe => ?_)); (conv => whnf)) | ((with_reducible refine cnd_d (fun hq => ?_) (fun hq => ?_)) <;> (conv => whnf)) | ((with_reducible refine cnd_i (fun hq => ?_) (fun hq => ?_)) <;> ((try simp only [decide_eq_true_eq, decide_eq_false_iff_not, Bool.not_eq_true', Bool.not_eq_false', beq_iff_eq, bne_iff_ne, beq_eq_false_iff_ne, bne_eq_false_iff_eq, ne_eq] at hq) <;> (first | omega | (conv => whnf)))) | ((with_reducible first | apply at_cond | apply at_ret | apply at_exit | apply at_skip); (conv => whnf)) | (with_reducible apply at_block) | ((with_reducible refine at_regD Θ_ok mixed (by kernel_rfl) ?_); (conv => whnf)) | ((with_reducible refine call_r ?_); (conv => whnf); (first | ((with_reducible refine call_i (hsz) ?_); (conv => whnf)) | ((with_reducible refine call_i (toWorld_c w hs) ?_); (conv => whnf)) | ((with_reducible refine call_i (hI) ?_); (conv => whnf)) | ((with_reducible refine call_i (hS) ?_); (conv => whnf)) | ((with_reducible refine call_i (eqWorld_e w) ?_); (conv => whnf)))))))
    all_goals first | (exact ⟨rfl, rfl⟩) | exact absurd rfl hq | exact absurd trivial hq | cases hq
  · rw [hv] at hI hS
    (repeat (any_goals (first | (with_reducible apply at_seq) | ((with_reducible apply at_regS Θ_ok); (conv => whnf)) | ((refine go ?_); (conv => whnf)) | ((refine go2 (fun xe hxe => ?_)); (conv => whnf)) | ((with_reducible refine cnd_d (fun hq => ?_) (fun hq => ?_)) <;> (conv => whnf)) | ((with_reducible refine cnd_i (fun hq => ?_) (fun hq => ?_)) <;> ((try simp only [decide_eq_true_eq, decide_eq_false_iff_not, Bool.not_eq_true', Bool.not_eq_false', beq_iff_eq, bne_iff_ne, beq_eq_false_iff_ne, bne_eq_false_iff_eq, ne_eq] at hq) <;> (first | omega | (conv => whnf)))) | ((with_reducible first | apply at_cond | apply at_ret | apply at_exit | apply at_skip); (conv => whnf)) | (with_reducible apply at_block) | ((with_reducible refine at_regD Θ_ok mixed (by kernel_rfl) ?_); (conv => whnf)) | ((with_reducible refine call_r ?_); (conv => whnf); (first | ((with_reducible refine call_i (hsz) ?_); (conv => whnf)) | ((with_reducible refine call_i (toWorld_c w hs) ?_); (conv => whnf)) | ((with_reducible refine call_i (hI) ?_); (conv => whnf)) | ((with_reducible refine call_i (hS) ?_); (conv => whnf)) | ((with_reducible refine call_i (eqWorld_e w) ?_); (conv => whnf)))))))
    all_goals first | (exact ⟨rfl, rfl⟩) | exact absurd rfl hq | exact absurd trivial hq | cases hq
end Go.Proofs.Ytfamejohdhkffaa.Am
