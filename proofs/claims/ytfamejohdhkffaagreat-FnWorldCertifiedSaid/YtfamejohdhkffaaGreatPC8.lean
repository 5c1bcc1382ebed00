/- Runs: what the specification's functions of events give, put together. Runs: quiet rounds, copies, whole events: what the specification gives. What is drawn: the reader of bytes. What is drawn for graphs. New runs: what the program gives; equal runs; the law FnWorldNew. What is drawn for new runs; the law FnWorldNew. The plain machine with types: a cut between two parts. What is drawn for runs. What is drawn for runs: whole runs, runs that are often invalid. -/
import Derived.Test.YtfamejohdhkffaaGreatPC7
namespace Go.Proofs.YtfamejohdhkffaaGreat.Am
set_option linter.unusedSimpArgs false
set_option linter.unusedVariables false
open Go
attribute [local irreducible] Mk Need Ari Get Idx Cnd CallM CallA Opt Unch At ConV
set_option maxRecDepth 10000
theorem sprp_c (w : Wrl) (m d : Int) (h : WOK w) : ConV Tryz.prog 80 [wrlA w, .int .i64 m, .int .i64 d] [] (wrlA (sPrp w m d)) [] := by
  have hG := sgood_c w m
  have hD := digest_c d
  have hN := snext_c w m (fun p hp => (vtxS_ok (h.pv p hp).1).1) (by have := h.plen; omega)
  have hpl := h.plen
  have hno : prpB w m d = false → sPrp w m d = w := fun h => by simp [sPrp, h]
  refine con_eq Θ_ok Tryz.func80 rfl rfl true 0 4 rfl rfl rfl rfl fun K hK hb1 hb2 => ?_; simp only [argsV, enc, Nat.reduceAdd]
  clear hb1 hb2
  cases h1 : good w m
  · rw [h1] at hG
    rw [hno (by simp [prpB, h1])]
    (repeat (any_goals (first | (with_reducible first | apply at_seq | apply at_block) | ((first | with_reducible apply at_regS Θ_ok | refine go ?_ | refine go2 fun xe hxe => ?_ | (with_reducible first | refine cnd_d (fun hq => ?_) fun hq => ?_ | apply at_cond | apply at_ret | apply at_exit | apply at_skip | refine at_regD Θ_ok mixed (by kernel_rfl) ?_)) <;> conv => whnf) | ((with_reducible refine cnd_i (fun hq => ?_) fun hq => ?_) <;> ((try simp only [decide_eq_true_eq, decide_eq_false_iff_not, Bool.not_eq_true', Bool.not_eq_false', beq_iff_eq, bne_iff_ne, beq_eq_false_iff_ne, bne_eq_false_iff_eq, ne_eq] at hq) <;> (first | omega | conv => whnf))) | ((with_reducible refine call_r ?_); (conv => whnf); (first | with_reducible refine call_i (hG) ?_); conv => whnf))))
    exact ⟨rfl, rfl⟩
  rw [h1] at hG
  cases h2 : vIn d 0 990
  · rw [h2] at hD
    rw [hno (by simp [prpB, h2])]
    (repeat (any_goals (first | (with_reducible first | apply at_seq | apply at_block) | ((first | with_reducible apply at_regS Θ_ok | refine go ?_ | refine go2 fun xe hxe => ?_ | (with_reducible first | refine cnd_d (fun hq => ?_) fun hq => ?_ | apply at_cond | apply at_ret | apply at_exit | apply at_skip | refine at_regD Θ_ok mixed (by kernel_rfl) ?_)) <;> conv => whnf) | ((with_reducible refine cnd_i (fun hq => ?_) fun hq => ?_) <;> ((try simp only [decide_eq_true_eq, decide_eq_false_iff_not, Bool.not_eq_true', Bool.not_eq_false', beq_iff_eq, bne_iff_ne, beq_eq_false_iff_ne, bne_eq_false_iff_eq, ne_eq] at hq) <;> (first | omega | conv => whnf))) | ((with_reducible refine call_r ?_); (conv => whnf); (first | with_reducible refine call_i (hG) ?_ | with_reducible refine call_i (hD) ?_); conv => whnf))))
    exact ⟨rfl, rfl⟩
  rw [h2] at hD
  by_cases h3 : w.props.length < 220
  rotate_left
  · rw [hno (by simp [prpB, h3])]
    (repeat (any_goals (first | (with_reducible first | apply at_seq | apply at_block) | ((first | with_reducible apply at_regS Θ_ok | refine go ?_ | refine go2 fun xe hxe => ?_ | (with_reducible first | refine cnd_d (fun hq => ?_) fun hq => ?_ | apply at_cond | apply at_ret | apply at_exit | apply at_skip | refine at_regD Θ_ok mixed (by kernel_rfl) ?_)) <;> conv => whnf) | ((with_reducible refine cnd_i (fun hq => ?_) fun hq => ?_) <;> ((try simp only [decide_eq_true_eq, decide_eq_false_iff_not, Bool.not_eq_true', Bool.not_eq_false', beq_iff_eq, bne_iff_ne, beq_eq_false_iff_ne, bne_eq_false_iff_eq, ne_eq] at hq) <;> (first | omega | conv => whnf))) | ((with_reducible refine call_r ?_); (conv => whnf); (first | with_reducible refine call_i (hG) ?_ | with_reducible refine call_i (hD) ?_); conv => whnf))))
    exact ⟨rfl, rfl⟩
  obtain ⟨hx, hvm, hml⟩ := h.view h1
  have hgo := graS_ok (h.gra _ hvm)
  have hvl := h.vl _ hvm
  have hgr := good_iff.1 h1
  have hvlen := h.vlen
  have hH := hgt_c w.com (view w m) hgo (by omega)
  have hhb := hgtTo_lt w.com (view w m) 31
  have hhb : -1 ≤ hgt w.com (view w m) ∧ hgt w.com (view w m) < 31 := hhb
  have hnb := nxt_bd (ps := w.props) (m := m) fun p hp => (vtxS_ok (h.pv p hp).1).1
  have hB : prpB w m d = (decide (nxt w.props m ≤ (prpV w m d).round) && vtxS w.com (prpV w m d)) := by simp [prpB, h1, h2, h3]
  by_cases h4 : 0 < hgt w.com (view w m) + 1
  · have hA := auth_c (view w m) (hgt w.com (view w m) + 1 - 1) (by omega)
    have hv : prpV w m d = ⟨hgt w.com (view w m) + 1, m, auth (view w m) (hgt w.com (view w m) + 1 - 1), d⟩ := by
      rw [prpV, if_pos h4, show hgt w.com (view w m) + 1 - 1 = hgt w.com (view w m) by omega]
    have hV := vtx_c w.com (prpV w m d) h.com
    rw [hv] at hV hB
    have hadd : prpB w m d = true → sPrp w m d = addP w ⟨hgt w.com (view w m) + 1, m, auth (view w m) (hgt w.com (view w m) + 1 - 1), d⟩ := fun hb => by simp only [sPrp, hb, if_true, hv]
    generalize auth (view w m) (hgt w.com (view w m) + 1 - 1) = au at *
    generalize hgt w.com (view w m) = hh at *
    generalize view w m = g at *
    by_cases h5 : nxt w.props m ≤ hh + 1
    rotate_left
    · rw [hno (by rw [hB]; simp [h5])]
      generalize nxt w.props m = nn at *
      (repeat (any_goals (first | (with_reducible first | apply at_seq | apply at_block) | ((first | with_reducible apply at_regS Θ_ok | refine go ?_ | refine go2 fun xe hxe => ?_ | (with_reducible first | refine cnd_d (fun hq => ?_) fun hq => ?_ | apply at_cond | apply at_ret | apply at_exit | apply at_skip | refine at_regD Θ_ok mixed (by kernel_rfl) ?_)) <;> conv => whnf) | ((with_reducible refine cnd_i (fun hq => ?_) fun hq => ?_) <;> ((try simp only [decide_eq_true_eq, decide_eq_false_iff_not, Bool.not_eq_true', Bool.not_eq_false', beq_iff_eq, bne_iff_ne, beq_eq_false_iff_ne, bne_eq_false_iff_eq, ne_eq] at hq) <;> (first | omega | conv => whnf))) | ((with_reducible refine call_r ?_); (conv => whnf); (first | with_reducible refine call_i (hG) ?_ | with_reducible refine call_i (hD) ?_ | with_reducible refine call_i (hH) ?_ | with_reducible refine call_i (hA) ?_ | with_reducible refine call_i (hN) ?_ | with_reducible refine call_i (hV) ?_); conv => whnf))))
      exact ⟨rfl, rfl⟩
    cases h6 : vtxS w.com ⟨hh + 1, m, au, d⟩
    · rw [h6] at hV
      rw [hno (by rw [hB, h6, Bool.and_false])]
      generalize nxt w.props m = nn at *
      (repeat (any_goals (first | (with_reducible first | apply at_seq | apply at_block) | ((first | with_reducible apply at_regS Θ_ok | refine go ?_ | refine go2 fun xe hxe => ?_ | (with_reducible first | refine cnd_d (fun hq => ?_) fun hq => ?_ | apply at_cond | apply at_ret | apply at_exit | apply at_skip | refine at_regD Θ_ok mixed (by kernel_rfl) ?_)) <;> conv => whnf) | ((with_reducible refine cnd_i (fun hq => ?_) fun hq => ?_) <;> ((try simp only [decide_eq_true_eq, decide_eq_false_iff_not, Bool.not_eq_true', Bool.not_eq_false', beq_iff_eq, bne_iff_ne, beq_eq_false_iff_ne, bne_eq_false_iff_eq, ne_eq] at hq) <;> (first | omega | conv => whnf))) | ((with_reducible refine call_r ?_); (conv => whnf); (first | with_reducible refine call_i (hG) ?_ | with_reducible refine call_i (hD) ?_ | with_reducible refine call_i (hH) ?_ | with_reducible refine call_i (hA) ?_ | with_reducible refine call_i (hN) ?_ | with_reducible refine call_i (hV) ?_); conv => whnf))))
      exact ⟨rfl, rfl⟩
    · rw [h6] at hV
      rw [hadd (by rw [hB, h6]; simpa using h5)]
      generalize nxt w.props m = nn at *
      (repeat (any_goals (first | (with_reducible first | apply at_seq | apply at_block) | ((first | with_reducible apply at_regS Θ_ok | refine go ?_ | refine go2 fun xe hxe => ?_ | (with_reducible first | refine cnd_d (fun hq => ?_) fun hq => ?_ | apply at_cond | apply at_ret | apply at_exit | apply at_skip | refine at_regD Θ_ok mixed (by kernel_rfl) ?_)) <;> conv => whnf) | ((with_reducible refine cnd_i (fun hq => ?_) fun hq => ?_) <;> ((try simp only [decide_eq_true_eq, decide_eq_false_iff_not, Bool.not_eq_true', Bool.not_eq_false', beq_iff_eq, bne_iff_ne, beq_eq_false_iff_ne, bne_eq_false_iff_eq, ne_eq] at hq) <;> (first | omega | conv => whnf))) | ((with_reducible refine call_r ?_); (conv => whnf); (first | with_reducible refine call_i (hG) ?_ | with_reducible refine call_i (hD) ?_ | with_reducible refine call_i (hH) ?_ | with_reducible refine call_i (hA) ?_ | with_reducible refine call_i (hN) ?_ | with_reducible refine call_i (hV) ?_); conv => whnf))))
      exact ⟨rfl, rfl⟩
  · have hv : prpV w m d = ⟨hgt w.com (view w m) + 1, m, [], d⟩ := by rw [prpV, if_neg h4]
    have hV := vtx_c w.com (prpV w m d) h.com
    rw [hv] at hV hB
    have hadd : prpB w m d = true → sPrp w m d = addP w ⟨hgt w.com (view w m) + 1, m, [], d⟩ := fun hb => by simp only [sPrp, hb, if_true, hv]
    generalize hgt w.com (view w m) = hh at *
    generalize view w m = g at *
    by_cases h5 : nxt w.props m ≤ hh + 1
    rotate_left
    · rw [hno (by rw [hB]; simp [h5])]
      generalize nxt w.props m = nn at *
      (repeat (any_goals (first | (with_reducible first | apply at_seq | apply at_block) | ((first | with_reducible apply at_regS Θ_ok | refine go ?_ | refine go2 fun xe hxe => ?_ | (with_reducible first | refine cnd_d (fun hq => ?_) fun hq => ?_ | apply at_cond | apply at_ret | apply at_exit | apply at_skip | refine at_regD Θ_ok mixed (by kernel_rfl) ?_)) <;> conv => whnf) | ((with_reducible refine cnd_i (fun hq => ?_) fun hq => ?_) <;> ((try simp only [decide_eq_true_eq, decide_eq_false_iff_not, Bool.not_eq_true', Bool.not_eq_false', beq_iff_eq, bne_iff_ne, beq_eq_false_iff_ne, bne_eq_false_iff_eq, ne_eq] at hq) <;> (first | omega | conv => whnf))) | ((with_reducible refine call_r ?_); (conv => whnf); (first | with_reducible refine call_i (hG) ?_ | with_reducible refine call_i (hD) ?_ | with_reducible refine call_i (hH) ?_ | with_reducible refine call_i (hN) ?_ | with_reducible refine call_i (hV) ?_); conv => whnf))))
      exact ⟨rfl, rfl⟩
    cases h6 : vtxS w.com ⟨hh + 1, m, [], d⟩
    · rw [h6] at hV
      rw [hno (by rw [hB, h6, Bool.and_false])]
      generalize nxt w.props m = nn at *
      (repeat (any_goals (first | (with_reducible first | apply at_seq | apply at_block) | ((first | with_reducible apply at_regS Θ_ok | refine go ?_ | refine go2 fun xe hxe => ?_ | (with_reducible first | refine cnd_d (fun hq => ?_) fun hq => ?_ | apply at_cond | apply at_ret | apply at_exit | apply at_skip | refine at_regD Θ_ok mixed (by kernel_rfl) ?_)) <;> conv => whnf) | ((with_reducible refine cnd_i (fun hq => ?_) fun hq => ?_) <;> ((try simp only [decide_eq_true_eq, decide_eq_false_iff_not, Bool.not_eq_true', Bool.not_eq_false', beq_iff_eq, bne_iff_ne, beq_eq_false_iff_ne, bne_eq_false_iff_eq, ne_eq] at hq) <;> (first | omega | conv => whnf))) | ((with_reducible refine call_r ?_); (conv => whnf); (first | with_reducible refine call_i (hG) ?_ | with_reducible refine call_i (hD) ?_ | with_reducible refine call_i (hH) ?_ | with_reducible refine call_i (hN) ?_ | with_reducible refine call_i (hV) ?_); conv => whnf))))
      exact ⟨rfl, rfl⟩
    · rw [h6] at hV
      rw [hadd (by rw [hB, h6]; simpa using h5)]
      generalize nxt w.props m = nn at *
      (repeat (any_goals (first | (with_reducible first | apply at_seq | apply at_block) | ((first | with_reducible apply at_regS Θ_ok | refine go ?_ | refine go2 fun xe hxe => ?_ | (with_reducible first | refine cnd_d (fun hq => ?_) fun hq => ?_ | apply at_cond | apply at_ret | apply at_exit | apply at_skip | refine at_regD Θ_ok mixed (by kernel_rfl) ?_)) <;> conv => whnf) | ((with_reducible refine cnd_i (fun hq => ?_) fun hq => ?_) <;> ((try simp only [decide_eq_true_eq, decide_eq_false_iff_not, Bool.not_eq_true', Bool.not_eq_false', beq_iff_eq, bne_iff_ne, beq_eq_false_iff_ne, bne_eq_false_iff_eq, ne_eq] at hq) <;> (first | omega | conv => whnf))) | ((with_reducible refine call_r ?_); (conv => whnf); (first | with_reducible refine call_i (hG) ?_ | with_reducible refine call_i (hD) ?_ | with_reducible refine call_i (hH) ?_ | with_reducible refine call_i (hN) ?_ | with_reducible refine call_i (hV) ?_); conv => whnf))))
      exact ⟨rfl, rfl⟩
theorem scnt_c (w : Wrl) (i m : Int) (h : WOK w) (hi : inP w i = true) : ConV Tryz.prog 84 [wrlA w, .int .i64 i, .int .i64 m] [] (wrlA (sCnt w i m)) [] := by
  obtain ⟨hl, hx, hp⟩ := prop_at hi
  have hpl := h.plen
  have hir := vIn_iff.1 hi
  have hI := sins_c (prop w i).members m (by have := h.mem _ hp; omega)
  have hs : sCnt w i m = { w with props := w.props.set i.toNat ⟨(prop w i).v, insM (prop w i).members m⟩ } := rfl
  rw [hs]
  refine con_eq Θ_ok Tryz.func84 rfl rfl true 0 4 rfl rfl rfl rfl fun K hK hb1 hb2 => ?_; simp only [argsV, enc, Nat.reduceAdd]
  clear hb1 hb2
  generalize prop w i = p at *
  generalize insM p.members m = ms at *
  (repeat (any_goals (first | (with_reducible first | apply at_seq | apply at_block) | ((first | with_reducible apply at_regS Θ_ok | refine go ?_ | refine go2 fun xe hxe => ?_ | (with_reducible first | refine cnd_d (fun hq => ?_) fun hq => ?_ | apply at_cond | apply at_ret | apply at_exit | apply at_skip | refine at_regD Θ_ok mixed (by kernel_rfl) ?_)) <;> conv => whnf) | ((with_reducible refine cnd_i (fun hq => ?_) fun hq => ?_) <;> ((try simp only [decide_eq_true_eq, decide_eq_false_iff_not, Bool.not_eq_true', Bool.not_eq_false', beq_iff_eq, bne_iff_ne, beq_eq_false_iff_ne, bne_eq_false_iff_eq, ne_eq] at hq) <;> (first | omega | conv => whnf))))))
  obtain rfl : xe = p := Option.some.inj (hxe.symm.trans hx)
  (repeat (any_goals (first | (with_reducible first | apply at_seq | apply at_block) | ((first | with_reducible apply at_regS Θ_ok | refine go ?_ | refine go2 fun xe hxe => ?_ | (with_reducible first | refine cnd_d (fun hq => ?_) fun hq => ?_ | apply at_cond | apply at_ret | apply at_exit | apply at_skip | refine at_regD Θ_ok mixed (by kernel_rfl) ?_)) <;> conv => whnf) | ((with_reducible refine cnd_i (fun hq => ?_) fun hq => ?_) <;> ((try simp only [decide_eq_true_eq, decide_eq_false_iff_not, Bool.not_eq_true', Bool.not_eq_false', beq_iff_eq, bne_iff_ne, beq_eq_false_iff_ne, bne_eq_false_iff_eq, ne_eq] at hq) <;> (first | omega | conv => whnf))) | ((with_reducible refine call_r ?_); (conv => whnf); (first | with_reducible refine call_i (hI) ?_); conv => whnf))))
  exact ⟨rfl, rfl⟩
theorem svot_c (w : Wrl) (m i : Int) (h : WOK w) : ConV Tryz.prog 81 [wrlA w, .int .i64 m, .int .i64 i] [] (wrlA (sVot w m i)) [] := by
  have hG := sgood_c w m
  have hI := in_c i 0 ((w.props.length : Int) - 1)
  have hpl := h.plen
  have hno : votB w m i = false → sVot w m i = w := fun h => by simp [sVot, h]
  refine con_eq Θ_ok Tryz.func81 rfl rfl true 0 4 rfl rfl rfl rfl fun K hK hb1 hb2 => ?_; simp only [argsV, enc, Nat.reduceAdd]
  clear hb1 hb2
  cases h1 : good w m
  · rw [h1] at hG
    rw [hno (by simp [votB, h1])]
    (repeat (any_goals (first | (with_reducible first | apply at_seq | apply at_block) | ((first | with_reducible apply at_regS Θ_ok | refine go ?_ | refine go2 fun xe hxe => ?_ | (with_reducible first | refine cnd_d (fun hq => ?_) fun hq => ?_ | apply at_cond | apply at_ret | apply at_exit | apply at_skip | refine at_regD Θ_ok mixed (by kernel_rfl) ?_)) <;> conv => whnf) | ((with_reducible refine cnd_i (fun hq => ?_) fun hq => ?_) <;> ((try simp only [decide_eq_true_eq, decide_eq_false_iff_not, Bool.not_eq_true', Bool.not_eq_false', beq_iff_eq, bne_iff_ne, beq_eq_false_iff_ne, bne_eq_false_iff_eq, ne_eq] at hq) <;> (first | omega | conv => whnf))) | ((with_reducible refine call_r ?_); (conv => whnf); (first | with_reducible refine call_i (hG) ?_); conv => whnf))))
    exact ⟨rfl, rfl⟩
  rw [h1] at hG
  cases h2 : vIn i 0 ((w.props.length : Int) - 1)
  · rw [h2] at hI
    rw [hno (by simp [votB, inP, h2])]
    (repeat (any_goals (first | (with_reducible first | apply at_seq | apply at_block) | ((first | with_reducible apply at_regS Θ_ok | refine go ?_ | refine go2 fun xe hxe => ?_ | (with_reducible first | refine cnd_d (fun hq => ?_) fun hq => ?_ | apply at_cond | apply at_ret | apply at_exit | apply at_skip | refine at_regD Θ_ok mixed (by kernel_rfl) ?_)) <;> conv => whnf) | ((with_reducible refine cnd_i (fun hq => ?_) fun hq => ?_) <;> ((try simp only [decide_eq_true_eq, decide_eq_false_iff_not, Bool.not_eq_true', Bool.not_eq_false', beq_iff_eq, bne_iff_ne, beq_eq_false_iff_ne, bne_eq_false_iff_eq, ne_eq] at hq) <;> (first | omega | conv => whnf))) | ((with_reducible refine call_r ?_); (conv => whnf); (first | with_reducible refine call_i (hG) ?_ | with_reducible refine call_i (hI) ?_); conv => whnf))))
    exact ⟨rfl, rfl⟩
  rw [h2] at hI
  have h2' : inP w i = true := h2
  obtain ⟨hl, hx, hp⟩ := prop_at h2'
  have hir := vIn_iff.1 h2
  have hvx := h.pv _ hp
  have hrd := vtxS_rd hvx.1
  obtain ⟨hgx, hvm, hml⟩ := h.view h1
  have hgr := good_iff.1 h1
  have hvlen := h.vlen
  have hB : votB w m i = (!dbl w m i && parOK (view w m) (prop w i).v) := by simp [votB, h1, h2']
  have hP := parents_c (view w m) (prop w i).v hrd
  have hC := scnt_c w i m h h2'
  have hyes : votB w m i = true → sVot w m i = sCnt w i m := fun h => by simp [sVot, h]
  have hdbl : dbl w m i = (List.range w.props.length).any fun j => (j : Int) != i && (slt (w.props.getD j p0).v (prop w i).v && (w.props.getD j p0).members.contains m) := rfl
  generalize prop w i = p at *
  (repeat (any_goals (first | (with_reducible first | apply at_seq | apply at_block) | ((first | with_reducible apply at_regS Θ_ok | refine go ?_ | refine go2 fun xe hxe => ?_ | (with_reducible first | refine cnd_d (fun hq => ?_) fun hq => ?_ | apply at_cond | apply at_ret | apply at_exit | apply at_skip | refine at_regD Θ_ok mixed (by kernel_rfl) ?_)) <;> conv => whnf) | ((with_reducible refine cnd_i (fun hq => ?_) fun hq => ?_) <;> ((try simp only [decide_eq_true_eq, decide_eq_false_iff_not, Bool.not_eq_true', Bool.not_eq_false', beq_iff_eq, bne_iff_ne, beq_eq_false_iff_ne, bne_eq_false_iff_eq, ne_eq] at hq) <;> (first | omega | conv => whnf))) | ((with_reducible refine call_r ?_); (conv => whnf); (first | with_reducible refine call_i (hG) ?_ | with_reducible refine call_i (hI) ?_); conv => whnf))))
  refine at_loop hK [] [1, 2, 3, 6, 7, 8] (fun j : Nat => ⟨[(1, .int .i64 m), (2, .int .i64 i), (3, .ptr 4 0), (6, .ptr 5 0), (7, .ptr 6 0), (8, .int .i64 (j : Int))], [(4, .var 27 (wrlA w).cells), (5, .var 27 [.nils, .nils, .int .i64 0, .nils, .nils]), (6, .var 42 (vtxA p.v).cells)], 7⟩)
    (fun j => j ≤ w.props.length ∧ ∀ k, k < j → ((k : Int) != i && (slt (w.props.getD k p0).v p.v && (w.props.getD k p0).members.contains m)) = false) (fun j => w.props.length - j) 0 ⟨by simp, by simp⟩ rfl ?_
  rintro j ⟨hj, hall⟩
  by_cases hlt : j < w.props.length
  · have hxq : w.props[j]? = some (w.props.getD j p0) := by rw [List.getD_eq_getElem?_getD, List.getElem?_eq_getElem hlt]; rfl
    have hqm : w.props.getD j p0 ∈ w.props := gd_mem hlt
    have hyes2 : ((j : Int) != i && (slt (w.props.getD j p0).v p.v && (w.props.getD j p0).members.contains m)) = true → dbl w m i = true := fun hh => by rw [hdbl]; exact List.any_eq_true.2 ⟨j, List.mem_range.2 hlt, hh⟩
    have hno2 : ((j : Int) != i && (slt (w.props.getD j p0).v p.v && (w.props.getD j p0).members.contains m)) = false → ∀ k, k < j + 1 → ((k : Int) != i && (slt (w.props.getD k p0).v p.v && (w.props.getD k p0).members.contains m)) = false := fun hh k hk => by
      rcases Nat.lt_or_ge k j with h5 | h5
      · exact hall k h5
      · obtain rfl : k = j := by omega
        exact hh
    generalize w.props.getD j p0 = q at *
    have hS := sslt_c q.v p.v
    have hH := has_c q.members m
    by_cases h3 : (j : Int) = i
    · (repeat (any_goals (first | (with_reducible first | apply at_seq | apply at_block) | ((first | with_reducible apply at_regS Θ_ok | refine go ?_ | refine go2 fun xe hxe => ?_ | (with_reducible first | refine cnd_d (fun hq => ?_) fun hq => ?_ | apply at_cond | apply at_ret | apply at_exit | apply at_skip | refine at_regD Θ_ok mixed (by kernel_rfl) ?_)) <;> conv => whnf) | ((with_reducible refine cnd_i (fun hq => ?_) fun hq => ?_) <;> ((try simp only [decide_eq_true_eq, decide_eq_false_iff_not, Bool.not_eq_true', Bool.not_eq_false', beq_iff_eq, bne_iff_ne, beq_eq_false_iff_ne, bne_eq_false_iff_eq, ne_eq] at hq) <;> (first | omega | conv => whnf))) | ((with_reducible refine call_r ?_); (conv => whnf); (first | with_reducible refine call_i (hS) ?_ | with_reducible refine call_i (hH) ?_); conv => whnf))))
      exact ⟨j + 1, ⟨by omega, hno2 (by simp [h3])⟩, by omega, rfl⟩
    cases h4 : slt q.v p.v
    · rw [h4] at hS
      (repeat (any_goals (first | (with_reducible first | apply at_seq | apply at_block) | ((first | with_reducible apply at_regS Θ_ok | refine go ?_ | refine go2 fun xe hxe => ?_ | (with_reducible first | refine cnd_d (fun hq => ?_) fun hq => ?_ | apply at_cond | apply at_ret | apply at_exit | apply at_skip | refine at_regD Θ_ok mixed (by kernel_rfl) ?_)) <;> conv => whnf) | ((with_reducible refine cnd_i (fun hq => ?_) fun hq => ?_) <;> ((try simp only [decide_eq_true_eq, decide_eq_false_iff_not, Bool.not_eq_true', Bool.not_eq_false', beq_iff_eq, bne_iff_ne, beq_eq_false_iff_ne, bne_eq_false_iff_eq, ne_eq] at hq) <;> (first | omega | conv => whnf))) | ((with_reducible refine call_r ?_); (conv => whnf); (first | with_reducible refine call_i (hS) ?_ | with_reducible refine call_i (hH) ?_); conv => whnf))))
      exact ⟨j + 1, ⟨by omega, hno2 (by simp [h4])⟩, by omega, rfl⟩
    rw [h4] at hS
    cases h5 : q.members.contains m
    · rw [h5] at hH
      (repeat (any_goals (first | (with_reducible first | apply at_seq | apply at_block) | ((first | with_reducible apply at_regS Θ_ok | refine go ?_ | refine go2 fun xe hxe => ?_ | (with_reducible first | refine cnd_d (fun hq => ?_) fun hq => ?_ | apply at_cond | apply at_ret | apply at_exit | apply at_skip | refine at_regD Θ_ok mixed (by kernel_rfl) ?_)) <;> conv => whnf) | ((with_reducible refine cnd_i (fun hq => ?_) fun hq => ?_) <;> ((try simp only [decide_eq_true_eq, decide_eq_false_iff_not, Bool.not_eq_true', Bool.not_eq_false', beq_iff_eq, bne_iff_ne, beq_eq_false_iff_ne, bne_eq_false_iff_eq, ne_eq] at hq) <;> (first | omega | conv => whnf))) | ((with_reducible refine call_r ?_); (conv => whnf); (first | with_reducible refine call_i (hS) ?_ | with_reducible refine call_i (hH) ?_); conv => whnf))))
      exact ⟨j + 1, ⟨by omega, hno2 (by rw [h5, Bool.and_false, Bool.and_false])⟩, by omega, rfl⟩
    · rw [h5] at hH
      rw [hno (by rw [hB, hyes2 (by rw [h4, h5]; simpa using h3)]; rfl)]
      (repeat (any_goals (first | (with_reducible first | apply at_seq | apply at_block) | ((first | with_reducible apply at_regS Θ_ok | refine go ?_ | refine go2 fun xe hxe => ?_ | (with_reducible first | refine cnd_d (fun hq => ?_) fun hq => ?_ | apply at_cond | apply at_ret | apply at_exit | apply at_skip | refine at_regD Θ_ok mixed (by kernel_rfl) ?_)) <;> conv => whnf) | ((with_reducible refine cnd_i (fun hq => ?_) fun hq => ?_) <;> ((try simp only [decide_eq_true_eq, decide_eq_false_iff_not, Bool.not_eq_true', Bool.not_eq_false', beq_iff_eq, bne_iff_ne, beq_eq_false_iff_ne, bne_eq_false_iff_eq, ne_eq] at hq) <;> (first | omega | conv => whnf))) | ((with_reducible refine call_r ?_); (conv => whnf); (first | with_reducible refine call_i (hS) ?_ | with_reducible refine call_i (hH) ?_); conv => whnf))))
      exact ⟨rfl, rfl⟩
  · have hnd : dbl w m i = false := by
      rw [hdbl, Bool.eq_false_iff]
      intro hh
      obtain ⟨k, hk, hh⟩ := List.any_eq_true.1 hh
      rw [hall k (by have := List.mem_range.1 hk; omega)] at hh
      cases hh
    rw [hnd] at hB
    generalize view w m = g at *
    cases h6 : parOK g p.v
    · rw [h6] at hP hB
      rw [hno hB]
      (repeat (any_goals (first | (with_reducible first | apply at_seq | apply at_block) | ((first | with_reducible apply at_regS Θ_ok | refine go ?_ | refine go2 fun xe hxe => ?_ | (with_reducible first | refine cnd_d (fun hq => ?_) fun hq => ?_ | apply at_cond | apply at_ret | apply at_exit | apply at_skip | refine at_regD Θ_ok mixed (by kernel_rfl) ?_)) <;> conv => whnf) | ((with_reducible refine cnd_i (fun hq => ?_) fun hq => ?_) <;> ((try simp only [decide_eq_true_eq, decide_eq_false_iff_not, Bool.not_eq_true', Bool.not_eq_false', beq_iff_eq, bne_iff_ne, beq_eq_false_iff_ne, bne_eq_false_iff_eq, ne_eq] at hq) <;> (first | omega | conv => whnf))) | ((with_reducible refine call_r ?_); (conv => whnf); (first | with_reducible refine call_i (hP) ?_); conv => whnf))))
      exact ⟨rfl, rfl⟩
    · rw [h6] at hP hB
      rw [hyes hB]
      (repeat (any_goals (first | (with_reducible first | apply at_seq | apply at_block) | ((first | with_reducible apply at_regS Θ_ok | refine go ?_ | refine go2 fun xe hxe => ?_ | (with_reducible first | refine cnd_d (fun hq => ?_) fun hq => ?_ | apply at_cond | apply at_ret | apply at_exit | apply at_skip | refine at_regD Θ_ok mixed (by kernel_rfl) ?_)) <;> conv => whnf) | ((with_reducible refine cnd_i (fun hq => ?_) fun hq => ?_) <;> ((try simp only [decide_eq_true_eq, decide_eq_false_iff_not, Bool.not_eq_true', Bool.not_eq_false', beq_iff_eq, bne_iff_ne, beq_eq_false_iff_ne, bne_eq_false_iff_eq, ne_eq] at hq) <;> (first | omega | conv => whnf))) | ((with_reducible refine call_r ?_); (conv => whnf); (first | with_reducible refine call_i (hP) ?_ | with_reducible refine call_i (hC) ?_); conv => whnf))))
      exact ⟨rfl, rfl⟩
theorem sdel_c (w : Wrl) (m i : Int) (h : WOK w) : ConV Tryz.prog 82 [wrlA w, .int .i64 m, .int .i64 i] [] (wrlA (sDel w m i)) [] := by
  have hG := sgood_c w m
  have hI := in_c i 0 ((w.props.length : Int) - 1)
  have hpl := h.plen
  have hno : delB w m i = false → sDel w m i = w := fun h => by simp [sDel, h]
  refine con_eq Θ_ok Tryz.func82 rfl rfl true 0 4 rfl rfl rfl rfl fun K hK hb1 hb2 => ?_; simp only [argsV, enc, Nat.reduceAdd]
  clear hb1 hb2
  cases h1 : good w m
  · rw [h1] at hG
    rw [hno (by simp [delB, h1])]
    (repeat (any_goals (first | (with_reducible first | apply at_seq | apply at_block) | ((first | with_reducible apply at_regS Θ_ok | refine go ?_ | refine go2 fun xe hxe => ?_ | (with_reducible first | refine cnd_d (fun hq => ?_) fun hq => ?_ | apply at_cond | apply at_ret | apply at_exit | apply at_skip | refine at_regD Θ_ok mixed (by kernel_rfl) ?_)) <;> conv => whnf) | ((with_reducible refine cnd_i (fun hq => ?_) fun hq => ?_) <;> ((try simp only [decide_eq_true_eq, decide_eq_false_iff_not, Bool.not_eq_true', Bool.not_eq_false', beq_iff_eq, bne_iff_ne, beq_eq_false_iff_ne, bne_eq_false_iff_eq, ne_eq] at hq) <;> (first | omega | conv => whnf))) | ((with_reducible refine call_r ?_); (conv => whnf); (first | with_reducible refine call_i (hG) ?_); conv => whnf))))
    exact ⟨rfl, rfl⟩
  rw [h1] at hG
  cases h2 : vIn i 0 ((w.props.length : Int) - 1)
  · rw [h2] at hI
    rw [hno (by simp [delB, inP, h2])]
    (repeat (any_goals (first | (with_reducible first | apply at_seq | apply at_block) | ((first | with_reducible apply at_regS Θ_ok | refine go ?_ | refine go2 fun xe hxe => ?_ | (with_reducible first | refine cnd_d (fun hq => ?_) fun hq => ?_ | apply at_cond | apply at_ret | apply at_exit | apply at_skip | refine at_regD Θ_ok mixed (by kernel_rfl) ?_)) <;> conv => whnf) | ((with_reducible refine cnd_i (fun hq => ?_) fun hq => ?_) <;> ((try simp only [decide_eq_true_eq, decide_eq_false_iff_not, Bool.not_eq_true', Bool.not_eq_false', beq_iff_eq, bne_iff_ne, beq_eq_false_iff_ne, bne_eq_false_iff_eq, ne_eq] at hq) <;> (first | omega | conv => whnf))) | ((with_reducible refine call_r ?_); (conv => whnf); (first | with_reducible refine call_i (hG) ?_ | with_reducible refine call_i (hI) ?_); conv => whnf))))
    exact ⟨rfl, rfl⟩
  rw [h2] at hI
  have h2' : inP w i = true := h2
  obtain ⟨hl, hx, hp⟩ := prop_at h2'
  have hir := vIn_iff.1 h2
  have hvx := h.pv _ hp
  have hrd := vtxS_rd hvx.1
  obtain ⟨hgx, hvm, hml⟩ := h.view h1
  have hgr := good_iff.1 h1
  have hvlen := h.vlen
  have h7 := h.len
  have hDn := sdone_c w (prop w i) h.com hvx.2
  have hB : delB w m i = (don w.com (prop w i) && (!hasV (view w m) (prop w i).v.round (prop w i).v.author && parOK (view w m) (prop w i).v)) := by simp [delB, h1, h2']
  have hyes : delB w m i = true → sDel w m i = { w with views := w.views.set m.toNat (insV (view w m) (prop w i).v) } := fun h => by simp [sDel, h]
  have hF := find_c (view w m) (prop w i).v.round (prop w i).v.author
  have hFl := fnd_lt (view w m) (prop w i).v.round (prop w i).v.author
  have hP := parents_c (view w m) (prop w i).v hrd
  have hAd := sadd_c (view w m) (prop w i).v (by have := h.vl _ hvm; omega) (fun u hu => by have := h.par (h.vv _ hvm u hu); omega) (by have := h.par hvx.1; omega) hrd
  cases h3 : don w.com (prop w i)
  · rw [h3] at hDn
    rw [hno (by rw [hB, h3]; rfl)]
    generalize prop w i = p at *
    (repeat (any_goals (first | (with_reducible first | apply at_seq | apply at_block) | ((first | with_reducible apply at_regS Θ_ok | refine go ?_ | refine go2 fun xe hxe => ?_ | (with_reducible first | refine cnd_d (fun hq => ?_) fun hq => ?_ | apply at_cond | apply at_ret | apply at_exit | apply at_skip | refine at_regD Θ_ok mixed (by kernel_rfl) ?_)) <;> conv => whnf) | ((with_reducible refine cnd_i (fun hq => ?_) fun hq => ?_) <;> ((try simp only [decide_eq_true_eq, decide_eq_false_iff_not, Bool.not_eq_true', Bool.not_eq_false', beq_iff_eq, bne_iff_ne, beq_eq_false_iff_ne, bne_eq_false_iff_eq, ne_eq] at hq) <;> (first | omega | conv => whnf))) | ((with_reducible refine call_r ?_); (conv => whnf); (first | with_reducible refine call_i (hG) ?_ | with_reducible refine call_i (hI) ?_ | with_reducible refine call_i (hDn) ?_); conv => whnf))))
    exact ⟨rfl, rfl⟩
  rw [h3] at hDn
  generalize prop w i = p at *
  generalize view w m = g at *
  cases h4 : hasV g p.v.round p.v.author
  rotate_left
  · have hFl : ¬ fndI g p.v.round p.v.author < 0 := by simpa [h4] using hFl
    rw [hno (by rw [hB, h3, h4]; rfl)]
    generalize fndI g p.v.round p.v.author = fi at *
    (repeat (any_goals (first | (with_reducible first | apply at_seq | apply at_block) | ((first | with_reducible apply at_regS Θ_ok | refine go ?_ | refine go2 fun xe hxe => ?_ | (with_reducible first | refine cnd_d (fun hq => ?_) fun hq => ?_ | apply at_cond | apply at_ret | apply at_exit | apply at_skip | refine at_regD Θ_ok mixed (by kernel_rfl) ?_)) <;> conv => whnf) | ((with_reducible refine cnd_i (fun hq => ?_) fun hq => ?_) <;> ((try simp only [decide_eq_true_eq, decide_eq_false_iff_not, Bool.not_eq_true', Bool.not_eq_false', beq_iff_eq, bne_iff_ne, beq_eq_false_iff_ne, bne_eq_false_iff_eq, ne_eq] at hq) <;> (first | omega | conv => whnf))) | ((with_reducible refine call_r ?_); (conv => whnf); (first | with_reducible refine call_i (hG) ?_ | with_reducible refine call_i (hI) ?_ | with_reducible refine call_i (hDn) ?_ | with_reducible refine call_i (hF) ?_); conv => whnf))))
    exact ⟨rfl, rfl⟩
  have hFl : fndI g p.v.round p.v.author < 0 := by simpa [h4] using hFl
  generalize fndI g p.v.round p.v.author = fi at *
  cases h5 : parOK g p.v
  · rw [h5] at hP
    rw [hno (by rw [hB, h3, h4, h5]; rfl)]
    (repeat (any_goals (first | (with_reducible first | apply at_seq | apply at_block) | ((first | with_reducible apply at_regS Θ_ok | refine go ?_ | refine go2 fun xe hxe => ?_ | (with_reducible first | refine cnd_d (fun hq => ?_) fun hq => ?_ | apply at_cond | apply at_ret | apply at_exit | apply at_skip | refine at_regD Θ_ok mixed (by kernel_rfl) ?_)) <;> conv => whnf) | ((with_reducible refine cnd_i (fun hq => ?_) fun hq => ?_) <;> ((try simp only [decide_eq_true_eq, decide_eq_false_iff_not, Bool.not_eq_true', Bool.not_eq_false', beq_iff_eq, bne_iff_ne, beq_eq_false_iff_ne, bne_eq_false_iff_eq, ne_eq] at hq) <;> (first | omega | conv => whnf))) | ((with_reducible refine call_r ?_); (conv => whnf); (first | with_reducible refine call_i (hG) ?_ | with_reducible refine call_i (hI) ?_ | with_reducible refine call_i (hDn) ?_ | with_reducible refine call_i (hF) ?_ | with_reducible refine call_i (hP) ?_); conv => whnf))))
    exact ⟨rfl, rfl⟩
  rw [h5] at hP
  rw [hyes (by rw [hB, h3, h4, h5]; rfl)]
  have hAd := hAd h4 h5
  generalize insV g p.v = g2 at *
  (repeat (any_goals (first | (with_reducible first | apply at_seq | apply at_block) | ((first | with_reducible apply at_regS Θ_ok | refine go ?_ | refine go2 fun xe hxe => ?_ | (with_reducible first | refine cnd_d (fun hq => ?_) fun hq => ?_ | apply at_cond | apply at_ret | apply at_exit | apply at_skip | refine at_regD Θ_ok mixed (by kernel_rfl) ?_)) <;> conv => whnf) | ((with_reducible refine cnd_i (fun hq => ?_) fun hq => ?_) <;> ((try simp only [decide_eq_true_eq, decide_eq_false_iff_not, Bool.not_eq_true', Bool.not_eq_false', beq_iff_eq, bne_iff_ne, beq_eq_false_iff_ne, bne_eq_false_iff_eq, ne_eq] at hq) <;> (first | omega | conv => whnf))) | ((with_reducible refine call_r ?_); (conv => whnf); (first | with_reducible refine call_i (hG) ?_ | with_reducible refine call_i (hI) ?_ | with_reducible refine call_i (hDn) ?_ | with_reducible refine call_i (hF) ?_ | with_reducible refine call_i (hP) ?_ | with_reducible refine call_i (hAd) ?_); conv => whnf))))
  exact ⟨rfl, rfl⟩
theorem sfrg_c (w : Wrl) (v : Vtx) (h : WOK w) (hvl : v.parents.length ≤ 1000000) : ConV Tryz.prog 83 [wrlA w, vtxA v] [] (wrlA (sFrg w v)) [] := by
  have hpl := h.plen
  have hno : frgB w v = false → sFrg w v = w := fun h => by simp [sFrg, h]
  have hyes : frgB w v = true → sFrg w v = addP w v := fun h => by simp [sFrg, h]
  have hV := vtx_c w.com v h.com
  refine con_eq Θ_ok Tryz.func83 rfl rfl true 0 4 rfl rfl rfl rfl fun K hK hb1 hb2 => ?_; simp only [argsV, enc, Nat.reduceAdd]
  clear hb1 hb2
  by_cases h1 : w.bad < 0
  · rw [hno (by simp [frgB]; intro h9; omega)]
    (repeat (any_goals (first | (with_reducible first | apply at_seq | apply at_block) | ((first | with_reducible apply at_regS Θ_ok | refine go ?_ | refine go2 fun xe hxe => ?_ | (with_reducible first | refine cnd_d (fun hq => ?_) fun hq => ?_ | apply at_cond | apply at_ret | apply at_exit | apply at_skip | refine at_regD Θ_ok mixed (by kernel_rfl) ?_)) <;> conv => whnf) | ((with_reducible refine cnd_i (fun hq => ?_) fun hq => ?_) <;> ((try simp only [decide_eq_true_eq, decide_eq_false_iff_not, Bool.not_eq_true', Bool.not_eq_false', beq_iff_eq, bne_iff_ne, beq_eq_false_iff_ne, bne_eq_false_iff_eq, ne_eq] at hq) <;> (first | omega | conv => whnf))) | ((with_reducible refine call_r ?_); (conv => whnf); (first | with_reducible refine call_i (hV) ?_); conv => whnf))))
    exact ⟨rfl, rfl⟩
  by_cases h2 : v.author = w.bad
  rotate_left
  · rw [hno (by simp [frgB, h2])]
    (repeat (any_goals (first | (with_reducible first | apply at_seq | apply at_block) | ((first | with_reducible apply at_regS Θ_ok | refine go ?_ | refine go2 fun xe hxe => ?_ | (with_reducible first | refine cnd_d (fun hq => ?_) fun hq => ?_ | apply at_cond | apply at_ret | apply at_exit | apply at_skip | refine at_regD Θ_ok mixed (by kernel_rfl) ?_)) <;> conv => whnf) | ((with_reducible refine cnd_i (fun hq => ?_) fun hq => ?_) <;> ((try simp only [decide_eq_true_eq, decide_eq_false_iff_not, Bool.not_eq_true', Bool.not_eq_false', beq_iff_eq, bne_iff_ne, beq_eq_false_iff_ne, bne_eq_false_iff_eq, ne_eq] at hq) <;> (first | omega | conv => whnf))) | ((with_reducible refine call_r ?_); (conv => whnf); (first | with_reducible refine call_i (hV) ?_); conv => whnf))))
    exact ⟨rfl, rfl⟩
  cases h3 : vtxS w.com v
  · rw [h3] at hV
    rw [hno (by simp [frgB, h3])]
    (repeat (any_goals (first | (with_reducible first | apply at_seq | apply at_block) | ((first | with_reducible apply at_regS Θ_ok | refine go ?_ | refine go2 fun xe hxe => ?_ | (with_reducible first | refine cnd_d (fun hq => ?_) fun hq => ?_ | apply at_cond | apply at_ret | apply at_exit | apply at_skip | refine at_regD Θ_ok mixed (by kernel_rfl) ?_)) <;> conv => whnf) | ((with_reducible refine cnd_i (fun hq => ?_) fun hq => ?_) <;> ((try simp only [decide_eq_true_eq, decide_eq_false_iff_not, Bool.not_eq_true', Bool.not_eq_false', beq_iff_eq, bne_iff_ne, beq_eq_false_iff_ne, bne_eq_false_iff_eq, ne_eq] at hq) <;> (first | omega | conv => whnf))) | ((with_reducible refine call_r ?_); (conv => whnf); (first | with_reducible refine call_i (hV) ?_); conv => whnf))))
    exact ⟨rfl, rfl⟩
  rw [h3] at hV
  by_cases h4 : w.props.length < 220
  rotate_left
  · rw [hno (by simp [frgB, h4])]
    (repeat (any_goals (first | (with_reducible first | apply at_seq | apply at_block) | ((first | with_reducible apply at_regS Θ_ok | refine go ?_ | refine go2 fun xe hxe => ?_ | (with_reducible first | refine cnd_d (fun hq => ?_) fun hq => ?_ | apply at_cond | apply at_ret | apply at_exit | apply at_skip | refine at_regD Θ_ok mixed (by kernel_rfl) ?_)) <;> conv => whnf) | ((with_reducible refine cnd_i (fun hq => ?_) fun hq => ?_) <;> ((try simp only [decide_eq_true_eq, decide_eq_false_iff_not, Bool.not_eq_true', Bool.not_eq_false', beq_iff_eq, bne_iff_ne, beq_eq_false_iff_ne, bne_eq_false_iff_eq, ne_eq] at hq) <;> (first | omega | conv => whnf))) | ((with_reducible refine call_r ?_); (conv => whnf); (first | with_reducible refine call_i (hV) ?_); conv => whnf))))
    exact ⟨rfl, rfl⟩
  have hB : frgB w v = !w.props.any fun p => vEq p.v v := by
    have : (0 : Int) ≤ w.bad := by omega
    simp [frgB, this, h2, h3, h4]
  (repeat (any_goals (first | (with_reducible first | apply at_seq | apply at_block) | ((first | with_reducible apply at_regS Θ_ok | refine go ?_ | refine go2 fun xe hxe => ?_ | (with_reducible first | refine cnd_d (fun hq => ?_) fun hq => ?_ | apply at_cond | apply at_ret | apply at_exit | apply at_skip | refine at_regD Θ_ok mixed (by kernel_rfl) ?_)) <;> conv => whnf) | ((with_reducible refine cnd_i (fun hq => ?_) fun hq => ?_) <;> ((try simp only [decide_eq_true_eq, decide_eq_false_iff_not, Bool.not_eq_true', Bool.not_eq_false', beq_iff_eq, bne_iff_ne, beq_eq_false_iff_ne, bne_eq_false_iff_eq, ne_eq] at hq) <;> (first | omega | conv => whnf))) | ((with_reducible refine call_r ?_); (conv => whnf); (first | with_reducible refine call_i (hV) ?_); conv => whnf))))
  refine at_loop hK [] [2, 3, 4, 5] (fun j : Nat => ⟨[(2, .ptr 4 0), (3, .ptr 5 0), (4, .ptr 6 0), (5, .int .i64 (j : Int))], [(4, .var 27 (wrlA w).cells), (5, .var 42 (vtxA v).cells), (6, .var 27 [.nils, .nils, .int .i64 0, .nils, .nils])], 7⟩)
    (fun j => j ≤ w.props.length ∧ ∀ p ∈ w.props.take j, vEq p.v v = false) (fun j => w.props.length - j) 0 ⟨by simp, by simp⟩ rfl ?_
  rintro j ⟨hj, hall⟩
  by_cases hlt : j < w.props.length
  · have hxq : w.props[j]? = some w.props[j] := List.getElem?_eq_getElem hlt
    have hsn : w.props.take (j + 1) = w.props.take j ++ [w.props[j]] := List.take_succ_eq_append_getElem hlt
    have hqm : w.props[j] ∈ w.props := List.getElem_mem hlt
    generalize w.props[j] = q at *
    have hS := same_c q.v v
    cases h5 : vEq q.v v
    · rw [h5] at hS
      (repeat (any_goals (first | (with_reducible first | apply at_seq | apply at_block) | ((first | with_reducible apply at_regS Θ_ok | refine go ?_ | refine go2 fun xe hxe => ?_ | (with_reducible first | refine cnd_d (fun hq => ?_) fun hq => ?_ | apply at_cond | apply at_ret | apply at_exit | apply at_skip | refine at_regD Θ_ok mixed (by kernel_rfl) ?_)) <;> conv => whnf) | ((with_reducible refine cnd_i (fun hq => ?_) fun hq => ?_) <;> ((try simp only [decide_eq_true_eq, decide_eq_false_iff_not, Bool.not_eq_true', Bool.not_eq_false', beq_iff_eq, bne_iff_ne, beq_eq_false_iff_ne, bne_eq_false_iff_eq, ne_eq] at hq) <;> (first | omega | conv => whnf))) | ((with_reducible refine call_r ?_); (conv => whnf); (first | with_reducible refine call_i (hS) ?_); conv => whnf))))
      exact ⟨j + 1, ⟨by omega, by rw [hsn]; exact tk_snoc hall h5⟩, by omega, rfl⟩
    · rw [h5] at hS
      have : (w.props.any fun p => vEq p.v v) = true := List.any_eq_true.2 ⟨q, hqm, h5⟩
      rw [hno (by rw [hB, this]; rfl)]
      (repeat (any_goals (first | (with_reducible first | apply at_seq | apply at_block) | ((first | with_reducible apply at_regS Θ_ok | refine go ?_ | refine go2 fun xe hxe => ?_ | (with_reducible first | refine cnd_d (fun hq => ?_) fun hq => ?_ | apply at_cond | apply at_ret | apply at_exit | apply at_skip | refine at_regD Θ_ok mixed (by kernel_rfl) ?_)) <;> conv => whnf) | ((with_reducible refine cnd_i (fun hq => ?_) fun hq => ?_) <;> ((try simp only [decide_eq_true_eq, decide_eq_false_iff_not, Bool.not_eq_true', Bool.not_eq_false', beq_iff_eq, bne_iff_ne, beq_eq_false_iff_ne, bne_eq_false_iff_eq, ne_eq] at hq) <;> (first | omega | conv => whnf))) | ((with_reducible refine call_r ?_); (conv => whnf); (first | with_reducible refine call_i (hS) ?_); conv => whnf))))
      exact ⟨rfl, rfl⟩
  · rw [List.take_of_length_le (by omega)] at hall
    have : (w.props.any fun p => vEq p.v v) = false := by
      rw [Bool.eq_false_iff]
      intro hh
      obtain ⟨p, hp, hh⟩ := List.any_eq_true.1 hh
      rw [hall p hp] at hh
      cases hh
    rw [hyes (by rw [hB, this]; rfl)]
    (repeat (any_goals (first | (with_reducible first | apply at_seq | apply at_block) | ((first | with_reducible apply at_regS Θ_ok | refine go ?_ | refine go2 fun xe hxe => ?_ | (with_reducible first | refine cnd_d (fun hq => ?_) fun hq => ?_ | apply at_cond | apply at_ret | apply at_exit | apply at_skip | refine at_regD Θ_ok mixed (by kernel_rfl) ?_)) <;> conv => whnf) | ((with_reducible refine cnd_i (fun hq => ?_) fun hq => ?_) <;> ((try simp only [decide_eq_true_eq, decide_eq_false_iff_not, Bool.not_eq_true', Bool.not_eq_false', beq_iff_eq, bne_iff_ne, beq_eq_false_iff_ne, bne_eq_false_iff_eq, ne_eq] at hq) <;> (first | omega | conv => whnf))) | ((with_reducible refine call_r ?_); (conv => whnf); (first | with_reducible refine call_i (sone_c _ hvl) ?_); conv => whnf))))
    exact ⟨rfl, rfl⟩
abbrev evtA (e : Evt) : V := .agg [.int .i64 e.kind, .int .i64 e.a, .int .i64 e.b, .int .i64 e.v.round, .int .i64 e.v.author, .lst (.int .i64) e.v.parents, .int .i64 e.v.digest]
theorem sdo_c (w : Wrl) (e : Evt) (h : WOK w) (hvl : e.v.parents.length ≤ 1000000) : ConV Tryz.prog 48 [wrlA w, evtA e] [] (wrlA (sDo w e)) [] := by
  have hpl := h.plen
  have h1 := sprp_c w e.a e.b h
  have h2 := svot_c w e.a e.b h
  have h3 := sdel_c w e.a e.b h
  have h4 := sfrg_c w e.v h hvl
  have hI := in_c e.b 0 ((w.props.length : Int) - 1)
  refine con_eq Θ_ok Tryz.func48 rfl rfl true 0 4 rfl rfl rfl rfl fun K hK hb1 hb2 => ?_; simp only [argsV, enc, Nat.reduceAdd]
  clear hb1 hb2
  unfold sDo
  by_cases k1 : e.kind = 1
  · rw [if_pos k1]
    generalize sPrp w e.a e.b = w' at *
    (repeat (any_goals (first | (with_reducible first | apply at_seq | apply at_block) | ((first | with_reducible apply at_regS Θ_ok | refine go ?_ | refine go2 fun xe hxe => ?_ | (with_reducible first | refine cnd_d (fun hq => ?_) fun hq => ?_ | apply at_cond | apply at_ret | apply at_exit | apply at_skip | refine at_regD Θ_ok mixed (by kernel_rfl) ?_)) <;> conv => whnf) | ((with_reducible refine cnd_i (fun hq => ?_) fun hq => ?_) <;> ((try simp only [decide_eq_true_eq, decide_eq_false_iff_not, Bool.not_eq_true', Bool.not_eq_false', beq_iff_eq, bne_iff_ne, beq_eq_false_iff_ne, bne_eq_false_iff_eq, ne_eq] at hq) <;> (first | omega | conv => whnf))) | ((with_reducible refine call_r ?_); (conv => whnf); (first | with_reducible refine call_i (h1) ?_); conv => whnf))))
    exact ⟨rfl, rfl⟩
  by_cases k2 : e.kind = 2
  · rw [if_neg k1, if_pos k2]
    generalize sVot w e.a e.b = w' at *
    (repeat (any_goals (first | (with_reducible first | apply at_seq | apply at_block) | ((first | with_reducible apply at_regS Θ_ok | refine go ?_ | refine go2 fun xe hxe => ?_ | (with_reducible first | refine cnd_d (fun hq => ?_) fun hq => ?_ | apply at_cond | apply at_ret | apply at_exit | apply at_skip | refine at_regD Θ_ok mixed (by kernel_rfl) ?_)) <;> conv => whnf) | ((with_reducible refine cnd_i (fun hq => ?_) fun hq => ?_) <;> ((try simp only [decide_eq_true_eq, decide_eq_false_iff_not, Bool.not_eq_true', Bool.not_eq_false', beq_iff_eq, bne_iff_ne, beq_eq_false_iff_ne, bne_eq_false_iff_eq, ne_eq] at hq) <;> (first | omega | conv => whnf))) | ((with_reducible refine call_r ?_); (conv => whnf); (first | with_reducible refine call_i (h2) ?_); conv => whnf))))
    exact ⟨rfl, rfl⟩
  by_cases k3 : e.kind = 3
  · rw [if_neg k1, if_neg k2, if_pos k3]
    generalize sDel w e.a e.b = w' at *
    (repeat (any_goals (first | (with_reducible first | apply at_seq | apply at_block) | ((first | with_reducible apply at_regS Θ_ok | refine go ?_ | refine go2 fun xe hxe => ?_ | (with_reducible first | refine cnd_d (fun hq => ?_) fun hq => ?_ | apply at_cond | apply at_ret | apply at_exit | apply at_skip | refine at_regD Θ_ok mixed (by kernel_rfl) ?_)) <;> conv => whnf) | ((with_reducible refine cnd_i (fun hq => ?_) fun hq => ?_) <;> ((try simp only [decide_eq_true_eq, decide_eq_false_iff_not, Bool.not_eq_true', Bool.not_eq_false', beq_iff_eq, bne_iff_ne, beq_eq_false_iff_ne, bne_eq_false_iff_eq, ne_eq] at hq) <;> (first | omega | conv => whnf))) | ((with_reducible refine call_r ?_); (conv => whnf); (first | with_reducible refine call_i (h3) ?_); conv => whnf))))
    exact ⟨rfl, rfl⟩
  by_cases k4 : e.kind = 4
  · rw [if_neg k1, if_neg k2, if_neg k3, if_pos k4]
    generalize sFrg w e.v = w' at *
    (repeat (any_goals (first | (with_reducible first | apply at_seq | apply at_block) | ((first | with_reducible apply at_regS Θ_ok | refine go ?_ | refine go2 fun xe hxe => ?_ | (with_reducible first | refine cnd_d (fun hq => ?_) fun hq => ?_ | apply at_cond | apply at_ret | apply at_exit | apply at_skip | refine at_regD Θ_ok mixed (by kernel_rfl) ?_)) <;> conv => whnf) | ((with_reducible refine cnd_i (fun hq => ?_) fun hq => ?_) <;> ((try simp only [decide_eq_true_eq, decide_eq_false_iff_not, Bool.not_eq_true', Bool.not_eq_false', beq_iff_eq, bne_iff_ne, beq_eq_false_iff_ne, bne_eq_false_iff_eq, ne_eq] at hq) <;> (first | omega | conv => whnf))) | ((with_reducible refine call_r ?_); (conv => whnf); (first | with_reducible refine call_i (h4) ?_); conv => whnf))))
    exact ⟨rfl, rfl⟩
  by_cases k5 : e.kind = 5
  · rw [if_neg k1, if_neg k2, if_neg k3, if_neg k4, if_pos k5]
    by_cases h6 : 0 ≤ w.bad
    · cases h7 : vIn e.b 0 ((w.props.length : Int) - 1)
      · rw [h7] at hI
        have : sBad w e.b = w := by simp [sBad, badB, inP, h7]
        rw [this]
        (repeat (any_goals (first | (with_reducible first | apply at_seq | apply at_block) | ((first | with_reducible apply at_regS Θ_ok | refine go ?_ | refine go2 fun xe hxe => ?_ | (with_reducible first | refine cnd_d (fun hq => ?_) fun hq => ?_ | apply at_cond | apply at_ret | apply at_exit | apply at_skip | refine at_regD Θ_ok mixed (by kernel_rfl) ?_)) <;> conv => whnf) | ((with_reducible refine cnd_i (fun hq => ?_) fun hq => ?_) <;> ((try simp only [decide_eq_true_eq, decide_eq_false_iff_not, Bool.not_eq_true', Bool.not_eq_false', beq_iff_eq, bne_iff_ne, beq_eq_false_iff_ne, bne_eq_false_iff_eq, ne_eq] at hq) <;> (first | omega | conv => whnf))) | ((with_reducible refine call_r ?_); (conv => whnf); (first | with_reducible refine call_i (hI) ?_); conv => whnf))))
        exact ⟨rfl, rfl⟩
      · rw [h7] at hI
        have h7' : inP w e.b = true := h7
        have : sBad w e.b = sCnt w e.b w.bad := by simp [sBad, badB, h7', h6]
        rw [this]
        have h5 := scnt_c w e.b w.bad h h7'
        generalize sCnt w e.b w.bad = w' at *
        (repeat (any_goals (first | (with_reducible first | apply at_seq | apply at_block) | ((first | with_reducible apply at_regS Θ_ok | refine go ?_ | refine go2 fun xe hxe => ?_ | (with_reducible first | refine cnd_d (fun hq => ?_) fun hq => ?_ | apply at_cond | apply at_ret | apply at_exit | apply at_skip | refine at_regD Θ_ok mixed (by kernel_rfl) ?_)) <;> conv => whnf) | ((with_reducible refine cnd_i (fun hq => ?_) fun hq => ?_) <;> ((try simp only [decide_eq_true_eq, decide_eq_false_iff_not, Bool.not_eq_true', Bool.not_eq_false', beq_iff_eq, bne_iff_ne, beq_eq_false_iff_ne, bne_eq_false_iff_eq, ne_eq] at hq) <;> (first | omega | conv => whnf))) | ((with_reducible refine call_r ?_); (conv => whnf); (first | with_reducible refine call_i (hI) ?_ | with_reducible refine call_i (h5) ?_); conv => whnf))))
        exact ⟨rfl, rfl⟩
    · have : sBad w e.b = w := by simp [sBad, badB, h6]
      rw [this]
      (repeat (any_goals (first | (with_reducible first | apply at_seq | apply at_block) | ((first | with_reducible apply at_regS Θ_ok | refine go ?_ | refine go2 fun xe hxe => ?_ | (with_reducible first | refine cnd_d (fun hq => ?_) fun hq => ?_ | apply at_cond | apply at_ret | apply at_exit | apply at_skip | refine at_regD Θ_ok mixed (by kernel_rfl) ?_)) <;> conv => whnf) | ((with_reducible refine cnd_i (fun hq => ?_) fun hq => ?_) <;> ((try simp only [decide_eq_true_eq, decide_eq_false_iff_not, Bool.not_eq_true', Bool.not_eq_false', beq_iff_eq, bne_iff_ne, beq_eq_false_iff_ne, bne_eq_false_iff_eq, ne_eq] at hq) <;> (first | omega | conv => whnf))) | ((with_reducible refine call_r ?_); (conv => whnf); (first | with_reducible refine call_i (hI) ?_); conv => whnf))))
      exact ⟨rfl, rfl⟩
  · rw [if_neg k1, if_neg k2, if_neg k3, if_neg k4, if_neg k5]
    (repeat (any_goals (first | (with_reducible first | apply at_seq | apply at_block) | ((first | with_reducible apply at_regS Θ_ok | refine go ?_ | refine go2 fun xe hxe => ?_ | (with_reducible first | refine cnd_d (fun hq => ?_) fun hq => ?_ | apply at_cond | apply at_ret | apply at_exit | apply at_skip | refine at_regD Θ_ok mixed (by kernel_rfl) ?_)) <;> conv => whnf) | ((with_reducible refine cnd_i (fun hq => ?_) fun hq => ?_) <;> ((try simp only [decide_eq_true_eq, decide_eq_false_iff_not, Bool.not_eq_true', Bool.not_eq_false', beq_iff_eq, bne_iff_ne, beq_eq_false_iff_ne, bne_eq_false_iff_eq, ne_eq] at hq) <;> (first | omega | conv => whnf))))))
    exact ⟨rfl, rfl⟩
end Go.Proofs.YtfamejohdhkffaaGreat.Am
namespace Go.Proofs.YtfamejohdhkffaaGreat.Am
set_option linter.unusedSimpArgs false
set_option linter.unusedVariables false
open Go
attribute [local irreducible] Mk Need Ari Get Idx Cnd CallM CallA Opt Unch At ConV
set_option maxRecDepth 10000
theorem delTo_le {w : Wrl} (h : WOK w) (i : Int) : ∀ n, tsz w ≤ tsz (delTo w i n)
  | 0 => Nat.le_refl _
  | n + 1 => by
    have h1 := delTo_le h i n
    rcases sDel_cases (delTo_ok h i n) n i with ⟨-, h2⟩ | ⟨-, h2⟩
    · simp only [delTo, h2]; exact h1
    · simp only [delTo, h2]; omega
theorem passTo_le {w : Wrl} (h : WOK w) : ∀ k, tsz w ≤ tsz (passTo w k)
  | 0 => Nat.le_refl _
  | k + 1 => Nat.le_trans (passTo_le h k) (delTo_le (passTo_ok h k) _ _)
theorem sDel_view {w : Wrl} (h : WOK w) {m i : Int} (hb : delB w m i = true) : (sDel w m i).views[m.toNat]? = some (insV (view w m) (prop w i).v) := by
  have hg : good w m = true := by
    simp only [delB, Bool.and_eq_true] at hb
    exact hb.1
  have hl := (h.view hg).2.2
  simp [sDel, hb, List.getElem?_set, hl]
abbrev wZv : List V := [.nils, .nils, .int .i64 0, .nils, .nils]
set_option maxHeartbeats 1000000 in
theorem sspr_c (w : Wrl) (h : WOK w) : ConV Tryz.prog 78 [wrlA w] [] (wrlA (sSpr w)) [] := by
  refine con_eq Θ_ok Tryz.func78 rfl rfl true 0 4 rfl rfl rfl rfl fun K hK hb1 hb2 => ?_; simp only [argsV, enc, Nat.reduceAdd]
  clear hb1 hb2
  (repeat (any_goals (first | (with_reducible first | apply at_seq | apply at_block) | ((first | with_reducible apply at_regS Θ_ok | refine go ?_ | refine go2 fun xe hxe => ?_ | (with_reducible first | refine cnd_d (fun hq => ?_) fun hq => ?_ | apply at_cond | apply at_ret | apply at_exit | apply at_skip | refine at_regD Θ_ok mixed (by kernel_rfl) ?_)) <;> conv => whnf) | ((with_reducible refine cnd_i (fun hq => ?_) fun hq => ?_) <;> ((try simp only [decide_eq_true_eq, decide_eq_false_iff_not, Bool.not_eq_true', Bool.not_eq_false', beq_iff_eq, bne_iff_ne, beq_eq_false_iff_ne, bne_eq_false_iff_eq, ne_eq] at hq) <;> (first | omega | conv => whnf))))))
  refine at_loop hK [] [1, 2, 3] (fun x : Bool × Wrl => ⟨[(1, .ptr 4 0), (2, .ptr 5 0), (3, .bool x.1)], [(4, .var 27 (wrlA x.2).cells), (5, .var 27 wZv)], 6⟩) (fun x => WOK x.2 ∧ (x.1 = true → sSpr x.2 = sSpr w) ∧ (x.1 = false → x.2 = sSpr w)) (fun x => if x.1 = true then 1520 - tsz x.2 else 0) (true, w) ⟨h, fun _ => rfl, fun h => by cases h⟩ rfl ?_
  rintro ⟨b, x⟩ ⟨hx, hbt, hbf⟩
  dsimp only at hx hbt hbf ⊢
  cases b
  · have := hbf rfl
    rw [← this]
    (repeat (any_goals (first | (with_reducible first | apply at_seq | apply at_block) | ((first | with_reducible apply at_regS Θ_ok | refine go ?_ | refine go2 fun xe hxe => ?_ | (with_reducible first | refine cnd_d (fun hq => ?_) fun hq => ?_ | apply at_cond | apply at_ret | apply at_exit | apply at_skip | refine at_regD Θ_ok mixed (by kernel_rfl) ?_)) <;> conv => whnf) | ((with_reducible refine cnd_i (fun hq => ?_) fun hq => ?_) <;> ((try simp only [decide_eq_true_eq, decide_eq_false_iff_not, Bool.not_eq_true', Bool.not_eq_false', beq_iff_eq, bne_iff_ne, beq_eq_false_iff_ne, bne_eq_false_iff_eq, ne_eq] at hq) <;> (first | omega | conv => whnf))))))
    exact ⟨rfl, rfl⟩
  have hbt := hbt rfl
  have hx7 := hx.len
  have hxp := hx.plen
  (repeat (any_goals (first | (with_reducible first | apply at_seq | apply at_block) | ((first | with_reducible apply at_regS Θ_ok | refine go ?_ | refine go2 fun xe hxe => ?_ | (with_reducible first | refine cnd_d (fun hq => ?_) fun hq => ?_ | apply at_cond | apply at_ret | apply at_exit | apply at_skip | refine at_regD Θ_ok mixed (by kernel_rfl) ?_)) <;> conv => whnf) | ((with_reducible refine cnd_i (fun hq => ?_) fun hq => ?_) <;> ((try simp only [decide_eq_true_eq, decide_eq_false_iff_not, Bool.not_eq_true', Bool.not_eq_false', beq_iff_eq, bne_iff_ne, beq_eq_false_iff_ne, bne_eq_false_iff_eq, ne_eq] at hq) <;> (first | omega | conv => whnf))))))
  refine at_loop hK [] [1, 2, 3, 4] (fun k : Nat => ⟨[(1, .ptr 4 0), (2, .ptr 5 0), (3, .bool (decide (tsz x < tsz (passTo x k)))), (4, .int .i64 (k : Int))], [(4, .var 27 (wrlA (passTo x k)).cells), (5, .var 27 wZv)], 6⟩) (fun k => k ≤ x.props.length) (fun k => x.props.length - k) 0 (by omega) (by simp only [passTo, Nat.lt_irrefl, decide_false]; rfl) ?_
  intro k hk
  have hpc := passTo_com x k
  have hpo := passTo_ok hx k
  have hple := passTo_le hx k
  have hps : passTo x (k + 1) = delTo (passTo x k) k (passTo x k).com.length := rfl
  by_cases hlt : k < x.props.length
  · generalize passTo x k = y at *
    have hyl : y.props.length = x.props.length := by rw [hpc.2]
    have hyc : y.com.length = x.com.length := by rw [hpc.1]
    (repeat (any_goals (first | (with_reducible first | apply at_seq | apply at_block) | ((first | with_reducible apply at_regS Θ_ok | refine go ?_ | refine go2 fun xe hxe => ?_ | (with_reducible first | refine cnd_d (fun hq => ?_) fun hq => ?_ | apply at_cond | apply at_ret | apply at_exit | apply at_skip | refine at_regD Θ_ok mixed (by kernel_rfl) ?_)) <;> conv => whnf) | ((with_reducible refine cnd_i (fun hq => ?_) fun hq => ?_) <;> ((try simp only [decide_eq_true_eq, decide_eq_false_iff_not, Bool.not_eq_true', Bool.not_eq_false', beq_iff_eq, bne_iff_ne, beq_eq_false_iff_ne, bne_eq_false_iff_eq, ne_eq] at hq) <;> (first | omega | conv => whnf))))))
    refine at_loop hK [] [1, 2, 3, 4, 5] (fun m : Nat => ⟨[(1, .ptr 4 0), (2, .ptr 5 0), (3, .bool (decide (tsz x < tsz (delTo y k m)))), (4, .int .i64 (k : Int)), (5, .int .i64 (m : Int))], [(4, .var 27 (wrlA (delTo y k m)).cells), (5, .var 27 wZv)], 6⟩) (fun m => m ≤ y.com.length) (fun m => y.com.length - m) 0 (by omega) rfl ?_
    intro m hm
    have hdc := delTo_com y k m
    have hdo := delTo_ok hpo k m
    have hdle := delTo_le hpo k m
    have hds : delTo y k (m + 1) = sDel (delTo y k m) m k := rfl
    by_cases hml : m < y.com.length
    · generalize delTo y k m = z at *
      have hzc : z.com.length = y.com.length := by rw [hdc.1]
      have hzv := hdo.vlen
      have hS := sdel_c z m k hdo
      have hxv : z.views[m]? = some (view z m) := by
        unfold view
        rw [Int.toNat_natCast, List.getD_eq_getElem?_getD, List.getElem?_eq_getElem (show m < z.views.length by omega)]
        rfl
      have hgl := hdo.vl _ (List.mem_of_getElem? hxv)
      have hso := sDel_ok hdo m k
      have hsc := sDel_com z m k
      have hsv := hso.vlen
      rcases sDel_cases hdo m k with ⟨e1, e2⟩ | ⟨e1, e2⟩
      · rw [e2] at hS hds
        generalize view z m = g at *
        by_cases hmo : tsz x < tsz z
        · rw [decide_eq_true hmo]
          (repeat (any_goals (first | (with_reducible first | apply at_seq | apply at_block) | ((first | with_reducible apply at_regS Θ_ok | refine go ?_ | refine go2 fun xe hxe => ?_ | (with_reducible first | refine cnd_d (fun hq => ?_) fun hq => ?_ | apply at_cond | apply at_ret | apply at_exit | apply at_skip | refine at_regD Θ_ok mixed (by kernel_rfl) ?_)) <;> conv => whnf) | ((with_reducible refine cnd_i (fun hq => ?_) fun hq => ?_) <;> ((try simp only [decide_eq_true_eq, decide_eq_false_iff_not, Bool.not_eq_true', Bool.not_eq_false', beq_iff_eq, bne_iff_ne, beq_eq_false_iff_ne, bne_eq_false_iff_eq, ne_eq] at hq) <;> (first | omega | conv => whnf))) | ((with_reducible refine call_r ?_); (conv => whnf); (first | with_reducible refine call_i (hS) ?_); conv => whnf))))
          exact ⟨m + 1, by omega, by omega, by rw [hds, decide_eq_true hmo]; rfl⟩
        · rw [decide_eq_false hmo]
          (repeat (any_goals (first | (with_reducible first | apply at_seq | apply at_block) | ((first | with_reducible apply at_regS Θ_ok | refine go ?_ | refine go2 fun xe hxe => ?_ | (with_reducible first | refine cnd_d (fun hq => ?_) fun hq => ?_ | apply at_cond | apply at_ret | apply at_exit | apply at_skip | refine at_regD Θ_ok mixed (by kernel_rfl) ?_)) <;> conv => whnf) | ((with_reducible refine cnd_i (fun hq => ?_) fun hq => ?_) <;> ((try simp only [decide_eq_true_eq, decide_eq_false_iff_not, Bool.not_eq_true', Bool.not_eq_false', beq_iff_eq, bne_iff_ne, beq_eq_false_iff_ne, bne_eq_false_iff_eq, ne_eq] at hq) <;> (first | omega | conv => whnf))) | ((with_reducible refine call_r ?_); (conv => whnf); (first | with_reducible refine call_i (hS) ?_); conv => whnf))))
          exact ⟨m + 1, by omega, by omega, by rw [hds, decide_eq_false hmo, decide_eq_false (Int.lt_irrefl _)]; rfl⟩
      · have hxv2 := sDel_view hdo e1
        rw [Int.toNat_natCast] at hxv2
        have hil := insV_len (view z m) (prop z k).v
        have hmo2 : tsz x < tsz (sDel z m k) := by omega
        generalize sDel z m k = z2 at *
        generalize insV (view z m) (prop z k).v = g2 at *
        generalize view z m = g at *
        by_cases hmo : tsz x < tsz z
        · rw [decide_eq_true hmo]
          (repeat (any_goals (first | (with_reducible first | apply at_seq | apply at_block) | ((first | with_reducible apply at_regS Θ_ok | refine go ?_ | refine go2 fun xe hxe => ?_ | (with_reducible first | refine cnd_d (fun hq => ?_) fun hq => ?_ | apply at_cond | apply at_ret | apply at_exit | apply at_skip | refine at_regD Θ_ok mixed (by kernel_rfl) ?_)) <;> conv => whnf) | ((with_reducible refine cnd_i (fun hq => ?_) fun hq => ?_) <;> ((try simp only [decide_eq_true_eq, decide_eq_false_iff_not, Bool.not_eq_true', Bool.not_eq_false', beq_iff_eq, bne_iff_ne, beq_eq_false_iff_ne, bne_eq_false_iff_eq, ne_eq] at hq) <;> (first | omega | conv => whnf))) | ((with_reducible refine call_r ?_); (conv => whnf); (first | with_reducible refine call_i (hS) ?_); conv => whnf))))
          exact ⟨m + 1, by omega, by omega, by rw [hds, decide_eq_true hmo2]; rfl⟩
        · rw [decide_eq_false hmo]
          have hlt2 : (g.length : Int) < g2.length := by omega
          (repeat (any_goals (first | (with_reducible first | apply at_seq | apply at_block) | ((first | with_reducible apply at_regS Θ_ok | refine go ?_ | refine go2 fun xe hxe => ?_ | (with_reducible first | refine cnd_d (fun hq => ?_) fun hq => ?_ | apply at_cond | apply at_ret | apply at_exit | apply at_skip | refine at_regD Θ_ok mixed (by kernel_rfl) ?_)) <;> conv => whnf) | ((with_reducible refine cnd_i (fun hq => ?_) fun hq => ?_) <;> ((try simp only [decide_eq_true_eq, decide_eq_false_iff_not, Bool.not_eq_true', Bool.not_eq_false', beq_iff_eq, bne_iff_ne, beq_eq_false_iff_ne, bne_eq_false_iff_eq, ne_eq] at hq) <;> (first | omega | conv => whnf))) | ((with_reducible refine call_r ?_); (conv => whnf); (first | with_reducible refine call_i (hS) ?_); conv => whnf))))
          exact ⟨m + 1, by omega, by omega, by rw [hds, decide_eq_true hmo2, decide_eq_true hlt2]; rfl⟩
    · obtain rfl : m = y.com.length := by omega
      rw [← hps]
      have hc2 : (passTo x (k + 1)).com.length = y.com.length := by rw [hps, hdc.1]
      generalize hz : passTo x (k + 1) = z at *
      (repeat (any_goals (first | (with_reducible first | apply at_seq | apply at_block) | ((first | with_reducible apply at_regS Θ_ok | refine go ?_ | refine go2 fun xe hxe => ?_ | (with_reducible first | refine cnd_d (fun hq => ?_) fun hq => ?_ | apply at_cond | apply at_ret | apply at_exit | apply at_skip | refine at_regD Θ_ok mixed (by kernel_rfl) ?_)) <;> conv => whnf) | ((with_reducible refine cnd_i (fun hq => ?_) fun hq => ?_) <;> ((try simp only [decide_eq_true_eq, decide_eq_false_iff_not, Bool.not_eq_true', Bool.not_eq_false', beq_iff_eq, bne_iff_ne, beq_eq_false_iff_ne, bne_eq_false_iff_eq, ne_eq] at hq) <;> (first | omega | conv => whnf))))))
      exact ⟨k + 1, by omega, by omega, by rw [hz]; rfl⟩
  · obtain rfl : k = x.props.length := by omega
    have hpa : passTo x x.props.length = pass x := rfl
    rw [hpa] at hpc hpo hple
    rw [hpa]
    clear hpa hps
    have hyl : (pass x).props.length = x.props.length := by rw [hpc.2]
    have htl := tsz_le hpo
    have htx := tsz_le hx
    have e1 : tsz x < tsz (pass x) → sSpr x = sSpr (pass x) := fun hh => by
      rw [sSpr]
      exact dif_pos ⟨hh, htl⟩
    have e2 : ¬ tsz x < tsz (pass x) → sSpr x = pass x := fun hh => by
      rw [sSpr]
      exact dif_neg fun h9 => hh h9.1
    generalize pass x = z at *
    (repeat (any_goals (first | (with_reducible first | apply at_seq | apply at_block) | ((first | with_reducible apply at_regS Θ_ok | refine go ?_ | refine go2 fun xe hxe => ?_ | (with_reducible first | refine cnd_d (fun hq => ?_) fun hq => ?_ | apply at_cond | apply at_ret | apply at_exit | apply at_skip | refine at_regD Θ_ok mixed (by kernel_rfl) ?_)) <;> conv => whnf) | ((with_reducible refine cnd_i (fun hq => ?_) fun hq => ?_) <;> ((try simp only [decide_eq_true_eq, decide_eq_false_iff_not, Bool.not_eq_true', Bool.not_eq_false', beq_iff_eq, bne_iff_ne, beq_eq_false_iff_ne, bne_eq_false_iff_eq, ne_eq] at hq) <;> (first | omega | conv => whnf))))))
    refine ⟨(decide (tsz x < tsz z), z), ⟨hpo, fun hh => ?_, fun hh => ?_⟩, ?_, rfl⟩
    · rw [← hbt, e1 (of_decide_eq_true hh)]
    · rw [← hbt, e2 (of_decide_eq_false hh)]
    · dsimp only
      split
      · rename_i hh
        have := of_decide_eq_true hh
        simp only [if_true]
        omega
      · simp only [if_true]
        omega
theorem svts_c (w : Wrl) (h : WOK w) : ConV Tryz.prog 79 [wrlA w] [] (wrlA (sVts w)) [] := by
  have h7 := h.len
  have hpl := h.plen
  refine con_eq Θ_ok Tryz.func79 rfl rfl true 0 4 rfl rfl rfl rfl fun K hK hb1 hb2 => ?_; simp only [argsV, enc, Nat.reduceAdd]
  clear hb1 hb2
  (repeat (any_goals (first | (with_reducible first | apply at_seq | apply at_block) | ((first | with_reducible apply at_regS Θ_ok | refine go ?_ | refine go2 fun xe hxe => ?_ | (with_reducible first | refine cnd_d (fun hq => ?_) fun hq => ?_ | apply at_cond | apply at_ret | apply at_exit | apply at_skip | refine at_regD Θ_ok mixed (by kernel_rfl) ?_)) <;> conv => whnf) | ((with_reducible refine cnd_i (fun hq => ?_) fun hq => ?_) <;> ((try simp only [decide_eq_true_eq, decide_eq_false_iff_not, Bool.not_eq_true', Bool.not_eq_false', beq_iff_eq, bne_iff_ne, beq_eq_false_iff_ne, bne_eq_false_iff_eq, ne_eq] at hq) <;> (first | omega | conv => whnf))))))
  refine at_loop hK [] [1, 2, 3] (fun k : Nat => ⟨[(1, .ptr 4 0), (2, .ptr 5 0), (3, .int .i64 (k : Int))], [(4, .var 27 (wrlA (votsTo w k)).cells), (5, .var 27 wZv)], 6⟩) (fun k => k ≤ w.props.length) (fun k => w.props.length - k) 0 (by omega) rfl ?_
  intro k hk
  have hpc := votsTo_com w k
  have hpo := votsTo_ok h k
  have hps : votsTo w (k + 1) = votTo (votsTo w k) k (votsTo w k).com.length := rfl
  by_cases hlt : k < w.props.length
  · generalize votsTo w k = y at *
    have hyc : y.com.length = w.com.length := by rw [hpc.1]
    (repeat (any_goals (first | (with_reducible first | apply at_seq | apply at_block) | ((first | with_reducible apply at_regS Θ_ok | refine go ?_ | refine go2 fun xe hxe => ?_ | (with_reducible first | refine cnd_d (fun hq => ?_) fun hq => ?_ | apply at_cond | apply at_ret | apply at_exit | apply at_skip | refine at_regD Θ_ok mixed (by kernel_rfl) ?_)) <;> conv => whnf) | ((with_reducible refine cnd_i (fun hq => ?_) fun hq => ?_) <;> ((try simp only [decide_eq_true_eq, decide_eq_false_iff_not, Bool.not_eq_true', Bool.not_eq_false', beq_iff_eq, bne_iff_ne, beq_eq_false_iff_ne, bne_eq_false_iff_eq, ne_eq] at hq) <;> (first | omega | conv => whnf))))))
    refine at_loop hK [] [1, 2, 3, 4] (fun m : Nat => ⟨[(1, .ptr 4 0), (2, .ptr 5 0), (3, .int .i64 (k : Int)), (4, .int .i64 (m : Int))], [(4, .var 27 (wrlA (votTo y k m)).cells), (5, .var 27 wZv)], 6⟩) (fun m => m ≤ y.com.length) (fun m => y.com.length - m) 0 (by omega) rfl ?_
    intro m hm
    have hdc := votTo_com y k m
    have hdo := votTo_ok hpo k m
    have hds : votTo y k (m + 1) = sVot (votTo y k m) m k := rfl
    by_cases hml : m < y.com.length
    · generalize votTo y k m = z at *
      have hzc : z.com.length = y.com.length := by rw [hdc.1]
      have hS := svot_c z m k hdo
      generalize sVot z m k = z2 at *
      (repeat (any_goals (first | (with_reducible first | apply at_seq | apply at_block) | ((first | with_reducible apply at_regS Θ_ok | refine go ?_ | refine go2 fun xe hxe => ?_ | (with_reducible first | refine cnd_d (fun hq => ?_) fun hq => ?_ | apply at_cond | apply at_ret | apply at_exit | apply at_skip | refine at_regD Θ_ok mixed (by kernel_rfl) ?_)) <;> conv => whnf) | ((with_reducible refine cnd_i (fun hq => ?_) fun hq => ?_) <;> ((try simp only [decide_eq_true_eq, decide_eq_false_iff_not, Bool.not_eq_true', Bool.not_eq_false', beq_iff_eq, bne_iff_ne, beq_eq_false_iff_ne, bne_eq_false_iff_eq, ne_eq] at hq) <;> (first | omega | conv => whnf))) | ((with_reducible refine call_r ?_); (conv => whnf); (first | with_reducible refine call_i (hS) ?_); conv => whnf))))
      exact ⟨m + 1, by omega, by omega, by rw [hds]; rfl⟩
    · obtain rfl : m = y.com.length := by omega
      rw [← hps]
      have hc2 : (votsTo w (k + 1)).com.length = y.com.length := by rw [hps, hdc.1]
      generalize hz : votsTo w (k + 1) = z at *
      (repeat (any_goals (first | (with_reducible first | apply at_seq | apply at_block) | ((first | with_reducible apply at_regS Θ_ok | refine go ?_ | refine go2 fun xe hxe => ?_ | (with_reducible first | refine cnd_d (fun hq => ?_) fun hq => ?_ | apply at_cond | apply at_ret | apply at_exit | apply at_skip | refine at_regD Θ_ok mixed (by kernel_rfl) ?_)) <;> conv => whnf) | ((with_reducible refine cnd_i (fun hq => ?_) fun hq => ?_) <;> ((try simp only [decide_eq_true_eq, decide_eq_false_iff_not, Bool.not_eq_true', Bool.not_eq_false', beq_iff_eq, bne_iff_ne, beq_eq_false_iff_ne, bne_eq_false_iff_eq, ne_eq] at hq) <;> (first | omega | conv => whnf))))))
      exact ⟨k + 1, by omega, by omega, by rw [hz]; rfl⟩
  · obtain rfl : k = w.props.length := by omega
    have hpa : votsTo w w.props.length = sVts w := rfl
    rw [hpa] at hpc hpo
    rw [hpa]
    clear hpa hps
    have hyl := hpc.2
    generalize sVts w = z at *
    (repeat (any_goals (first | (with_reducible first | apply at_seq | apply at_block) | ((first | with_reducible apply at_regS Θ_ok | refine go ?_ | refine go2 fun xe hxe => ?_ | (with_reducible first | refine cnd_d (fun hq => ?_) fun hq => ?_ | apply at_cond | apply at_ret | apply at_exit | apply at_skip | refine at_regD Θ_ok mixed (by kernel_rfl) ?_)) <;> conv => whnf) | ((with_reducible refine cnd_i (fun hq => ?_) fun hq => ?_) <;> ((try simp only [decide_eq_true_eq, decide_eq_false_iff_not, Bool.not_eq_true', Bool.not_eq_false', beq_iff_eq, bne_iff_ne, beq_eq_false_iff_ne, bne_eq_false_iff_eq, ne_eq] at hq) <;> (first | omega | conv => whnf))))))
    exact ⟨rfl, rfl⟩
theorem scpy_c (w : Wrl) (h : WOK w) : ConV Tryz.prog 52 [wrlA w] [] (wrlA w) [] := by
  have h7 := h.len
  have hvl := h.vlen
  have hpl := h.plen
  have hll := (leaS_iff.1 h.lead).2
  refine con_eq Θ_ok Tryz.func52 rfl rfl true 0 4 rfl rfl rfl rfl fun K hK hb1 hb2 => ?_; simp only [argsV, enc, Nat.reduceAdd]
  clear hb1 hb2
  (repeat (any_goals (first | (with_reducible first | apply at_seq | apply at_block) | ((first | with_reducible apply at_regS Θ_ok | refine go ?_ | refine go2 fun xe hxe => ?_ | (with_reducible first | refine cnd_d (fun hq => ?_) fun hq => ?_ | apply at_cond | apply at_ret | apply at_exit | apply at_skip | refine at_regD Θ_ok mixed (by kernel_rfl) ?_)) <;> conv => whnf) | ((with_reducible refine cnd_i (fun hq => ?_) fun hq => ?_) <;> ((try simp only [decide_eq_true_eq, decide_eq_false_iff_not, Bool.not_eq_true', Bool.not_eq_false', beq_iff_eq, bne_iff_ne, beq_eq_false_iff_ne, bne_eq_false_iff_eq, ne_eq] at hq) <;> (first | omega | conv => whnf))))))
  refine at_loop hK [] [1, 2, 3, 4] (fun i : Nat => ⟨[(1, .ptr 4 0), (2, .ptr 5 0), (3, .ptr 6 0), (4, .int .i64 (i : Int))], [(4, .var 27 (wrlA w).cells), (5, .var 27 wZv), (6, .var 27 [.ref 7, .ref 8, .int .i64 w.bad, .ref 9, .ref 10]), (7, .row 3 (.int .i64) w.com), (8, .row 3 (.int .i64) w.lead), (9, .row 45 (.lst .vtx) (w.views.take i)), (10, .row 44 .ppl [])], 11⟩) (fun i => i ≤ w.views.length) (fun i => w.views.length - i) 0 (by omega) rfl ?_
  intro i hi
  by_cases hlt : i < w.views.length
  · have hxe : w.views[i]? = some w.views[i] := List.getElem?_eq_getElem hlt
    have hsn : w.views.take (i + 1) = w.views.take i ++ [w.views[i]] := List.take_succ_eq_append_getElem hlt
    have hgm := List.getElem_mem hlt
    have hC := scopy_c w.views[i] (by have := h.vl _ hgm; omega) fun v hv => by have := h.par (h.vv _ hgm v hv); omega
    have hl1 : (w.views.take i).length = i := by rw [List.length_take]; omega
    generalize w.views[i] = g at *
    generalize w.views.take i = l at *
    (repeat (any_goals (first | (with_reducible first | apply at_seq | apply at_block) | ((first | with_reducible apply at_regS Θ_ok | refine go ?_ | refine go2 fun xe hxe => ?_ | (with_reducible first | refine cnd_d (fun hq => ?_) fun hq => ?_ | apply at_cond | apply at_ret | apply at_exit | apply at_skip | refine at_regD Θ_ok mixed (by kernel_rfl) ?_)) <;> conv => whnf) | ((with_reducible refine cnd_i (fun hq => ?_) fun hq => ?_) <;> ((try simp only [decide_eq_true_eq, decide_eq_false_iff_not, Bool.not_eq_true', Bool.not_eq_false', beq_iff_eq, bne_iff_ne, beq_eq_false_iff_ne, bne_eq_false_iff_eq, ne_eq] at hq) <;> (first | omega | conv => whnf))) | ((with_reducible refine call_r ?_); (conv => whnf); (first | with_reducible refine call_i (hC) ?_); conv => whnf))))
    exact ⟨i + 1, by omega, by omega, by rw [hsn]; rfl⟩
  rw [List.take_of_length_le (by omega)]
  (repeat (any_goals (first | (with_reducible first | apply at_seq | apply at_block) | ((first | with_reducible apply at_regS Θ_ok | refine go ?_ | refine go2 fun xe hxe => ?_ | (with_reducible first | refine cnd_d (fun hq => ?_) fun hq => ?_ | apply at_cond | apply at_ret | apply at_exit | apply at_skip | refine at_regD Θ_ok mixed (by kernel_rfl) ?_)) <;> conv => whnf) | ((with_reducible refine cnd_i (fun hq => ?_) fun hq => ?_) <;> ((try simp only [decide_eq_true_eq, decide_eq_false_iff_not, Bool.not_eq_true', Bool.not_eq_false', beq_iff_eq, bne_iff_ne, beq_eq_false_iff_ne, bne_eq_false_iff_eq, ne_eq] at hq) <;> (first | omega | conv => whnf))))))
  refine at_loop hK [] [1, 2, 3, 5] (fun i : Nat => ⟨[(1, .ptr 4 0), (2, .ptr 5 0), (3, .ptr 6 0), (5, .int .i64 (i : Int))], [(4, .var 27 (wrlA w).cells), (5, .var 27 wZv), (6, .var 27 [.ref 7, .ref 8, .int .i64 w.bad, .ref 9, .ref 10]), (7, .row 3 (.int .i64) w.com), (8, .row 3 (.int .i64) w.lead), (9, .row 45 (.lst .vtx) w.views), (10, .row 44 .ppl (w.props.take i))], 11⟩) (fun i => i ≤ w.props.length) (fun i => w.props.length - i) 0 (by omega) rfl ?_
  intro k hk
  by_cases hkl : k < w.props.length
  · have hxe : w.props[k]? = some w.props[k] := List.getElem?_eq_getElem hkl
    have hsn : w.props.take (k + 1) = w.props.take k ++ [w.props[k]] := List.take_succ_eq_append_getElem hkl
    have hpm := List.getElem_mem hkl
    have hC := sone_c w.props[k].v (by have := h.par (h.pv _ hpm).1; omega)
    have hm := h.mem _ hpm
    have hl1 : (w.props.take k).length = k := by rw [List.length_take]; omega
    generalize w.props[k] = p at *
    generalize w.props.take k = l at *
    (repeat (any_goals (first | (with_reducible first | apply at_seq | apply at_block) | ((first | with_reducible apply at_regS Θ_ok | refine go ?_ | refine go2 fun xe hxe => ?_ | (with_reducible first | refine cnd_d (fun hq => ?_) fun hq => ?_ | apply at_cond | apply at_ret | apply at_exit | apply at_skip | refine at_regD Θ_ok mixed (by kernel_rfl) ?_)) <;> conv => whnf) | ((with_reducible refine cnd_i (fun hq => ?_) fun hq => ?_) <;> ((try simp only [decide_eq_true_eq, decide_eq_false_iff_not, Bool.not_eq_true', Bool.not_eq_false', beq_iff_eq, bne_iff_ne, beq_eq_false_iff_ne, bne_eq_false_iff_eq, ne_eq] at hq) <;> (first | omega | conv => whnf))) | ((with_reducible refine call_r ?_); (conv => whnf); (first | with_reducible refine call_i (hC) ?_); conv => whnf))))
    exact ⟨k + 1, by omega, by omega, by rw [hsn]; rfl⟩
  · (repeat (any_goals (first | (with_reducible first | apply at_seq | apply at_block) | ((first | with_reducible apply at_regS Θ_ok | refine go ?_ | refine go2 fun xe hxe => ?_ | (with_reducible first | refine cnd_d (fun hq => ?_) fun hq => ?_ | apply at_cond | apply at_ret | apply at_exit | apply at_skip | refine at_regD Θ_ok mixed (by kernel_rfl) ?_)) <;> conv => whnf) | ((with_reducible refine cnd_i (fun hq => ?_) fun hq => ?_) <;> ((try simp only [decide_eq_true_eq, decide_eq_false_iff_not, Bool.not_eq_true', Bool.not_eq_false', beq_iff_eq, bne_iff_ne, beq_eq_false_iff_ne, bne_eq_false_iff_eq, ne_eq] at hq) <;> (first | omega | conv => whnf))))))
    rw [List.take_of_length_le (by omega)]
    exact ⟨rfl, rfl⟩
theorem wrl_com {w : Wrl} (h : WOK w) : w.com.length ≤ 2000000 := by have := h.len; omega
theorem scalm_c (w : Wrl) (r : Nat) (h : WOK w) (hr : r ≤ 12) : ConV Tryz.prog 46 [wrlA w, .int .i64 (r : Int)] [] (wrlA (calmTo w r)) [] := by
  have hV := swV_c w (wrl_com h)
  rw [wok_iff.2 h] at hV
  have hI := in_c (r : Int) 0 12
  rw [vIn_iff.2 (by omega)] at hI
  have hS := sspr_c w h
  refine con_eq Θ_ok Tryz.func46 rfl rfl true 0 4 rfl rfl rfl rfl fun K hK hb1 hb2 => ?_; simp only [argsV, enc, Nat.reduceAdd]
  clear hb1 hb2
  (repeat (any_goals (first | (with_reducible first | apply at_seq | apply at_block) | ((first | with_reducible apply at_regS Θ_ok | refine go ?_ | refine go2 fun xe hxe => ?_ | (with_reducible first | refine cnd_d (fun hq => ?_) fun hq => ?_ | apply at_cond | apply at_ret | apply at_exit | apply at_skip | refine at_regD Θ_ok mixed (by kernel_rfl) ?_)) <;> conv => whnf) | ((with_reducible refine cnd_i (fun hq => ?_) fun hq => ?_) <;> ((try simp only [decide_eq_true_eq, decide_eq_false_iff_not, Bool.not_eq_true', Bool.not_eq_false', beq_iff_eq, bne_iff_ne, beq_eq_false_iff_ne, bne_eq_false_iff_eq, ne_eq] at hq) <;> (first | omega | conv => whnf))) | ((with_reducible refine call_r ?_); (conv => whnf); (first | with_reducible refine call_i (hV) ?_ | with_reducible refine call_i (hI) ?_ | with_reducible refine call_i (hS) ?_); conv => whnf))))
  refine at_loop hK [] [1, 2, 4, 5] (fun k : Nat => ⟨[(1, .int .i64 (r : Int)), (2, .ptr 4 0), (4, .ptr 5 0), (5, .int .i64 (k : Int))], [(4, .var 27 (wrlA (calmTo w k)).cells), (5, .var 27 wZv)], 6⟩) (fun k => k ≤ r) (fun k => r - k) 0 (by omega) rfl ?_
  intro k hk
  have hco := calmTo_ok h k
  have hcs : calmTo w (k + 1) = rnd1 (prpTo (rnd1 (calmTo w k)) k (rnd1 (calmTo w k)).com.length) := rfl
  by_cases hlt : k < r
  · generalize calmTo w k = x at *
    have h1 := svts_c x hco
    have h2 := sspr_c (sVts x) (votsTo_ok hco _)
    have hr1 : sSpr (sVts x) = rnd1 x := rfl
    have hro := rnd1_ok hco
    rw [hr1] at h2
    generalize sVts x = x1 at *
    generalize rnd1 x = y at *
    (repeat (any_goals (first | (with_reducible first | apply at_seq | apply at_block) | ((first | with_reducible apply at_regS Θ_ok | refine go ?_ | refine go2 fun xe hxe => ?_ | (with_reducible first | refine cnd_d (fun hq => ?_) fun hq => ?_ | apply at_cond | apply at_ret | apply at_exit | apply at_skip | refine at_regD Θ_ok mixed (by kernel_rfl) ?_)) <;> conv => whnf) | ((with_reducible refine cnd_i (fun hq => ?_) fun hq => ?_) <;> ((try simp only [decide_eq_true_eq, decide_eq_false_iff_not, Bool.not_eq_true', Bool.not_eq_false', beq_iff_eq, bne_iff_ne, beq_eq_false_iff_ne, bne_eq_false_iff_eq, ne_eq] at hq) <;> (first | omega | conv => whnf))) | ((with_reducible refine call_r ?_); (conv => whnf); (first | with_reducible refine call_i (h1) ?_ | with_reducible refine call_i (h2) ?_); conv => whnf))))
    refine at_loop hK [] [1, 2, 4, 5, 6] (fun m : Nat => ⟨[(1, .int .i64 (r : Int)), (2, .ptr 4 0), (4, .ptr 5 0), (5, .int .i64 (k : Int)), (6, .int .i64 (m : Int))], [(4, .var 27 (wrlA (prpTo y k m)).cells), (5, .var 27 wZv)], 6⟩) (fun m => m ≤ y.com.length) (fun m => y.com.length - m) 0 (by omega) rfl ?_
    intro m hm
    have hdc := prpTo_com y k m
    have hdo := prpTo_ok hro k m
    have hyl := hro.len
    have hds : prpTo y k (m + 1) = sPrp (prpTo y k m) m (7 * k + m) := rfl
    by_cases hml : m < y.com.length
    · generalize prpTo y k m = z at *
      have hzc : z.com.length = y.com.length := by rw [hdc]
      have hP := sprp_c z m (7 * k + m) hdo
      generalize sPrp z m (7 * k + m) = z2 at *
      (repeat (any_goals (first | (with_reducible first | apply at_seq | apply at_block) | ((first | with_reducible apply at_regS Θ_ok | refine go ?_ | refine go2 fun xe hxe => ?_ | (with_reducible first | refine cnd_d (fun hq => ?_) fun hq => ?_ | apply at_cond | apply at_ret | apply at_exit | apply at_skip | refine at_regD Θ_ok mixed (by kernel_rfl) ?_)) <;> conv => whnf) | ((with_reducible refine cnd_i (fun hq => ?_) fun hq => ?_) <;> ((try simp only [decide_eq_true_eq, decide_eq_false_iff_not, Bool.not_eq_true', Bool.not_eq_false', beq_iff_eq, bne_iff_ne, beq_eq_false_iff_ne, bne_eq_false_iff_eq, ne_eq] at hq) <;> (first | omega | conv => whnf))) | ((with_reducible refine call_r ?_); (conv => whnf); (first | with_reducible refine call_i (hP) ?_); conv => whnf))))
      exact ⟨m + 1, by omega, by omega, by rw [hds]; rfl⟩
    · obtain rfl : m = y.com.length := by omega
      have hzc : (prpTo y k y.com.length).com.length = y.com.length := by rw [hdc]
      generalize prpTo y k y.com.length = z at *
      have h3 := svts_c z hdo
      have h4 := sspr_c (sVts z) (votsTo_ok hdo _)
      have hr2 : sSpr (sVts z) = rnd1 z := rfl
      rw [hr2] at h4
      generalize sVts z = z1 at *
      generalize rnd1 z = z2 at *
      (repeat (any_goals (first | (with_reducible first | apply at_seq | apply at_block) | ((first | with_reducible apply at_regS Θ_ok | refine go ?_ | refine go2 fun xe hxe => ?_ | (with_reducible first | refine cnd_d (fun hq => ?_) fun hq => ?_ | apply at_cond | apply at_ret | apply at_exit | apply at_skip | refine at_regD Θ_ok mixed (by kernel_rfl) ?_)) <;> conv => whnf) | ((with_reducible refine cnd_i (fun hq => ?_) fun hq => ?_) <;> ((try simp only [decide_eq_true_eq, decide_eq_false_iff_not, Bool.not_eq_true', Bool.not_eq_false', beq_iff_eq, bne_iff_ne, beq_eq_false_iff_ne, bne_eq_false_iff_eq, ne_eq] at hq) <;> (first | omega | conv => whnf))) | ((with_reducible refine call_r ?_); (conv => whnf); (first | with_reducible refine call_i (h3) ?_ | with_reducible refine call_i (h4) ?_); conv => whnf))))
      exact ⟨k + 1, by omega, by omega, by rw [hcs]; rfl⟩
  · obtain rfl : k = r := by omega
    have hC := scpy_c (calmTo w k) hco
    generalize calmTo w k = x at *
    (repeat (any_goals (first | (with_reducible first | apply at_seq | apply at_block) | ((first | with_reducible apply at_regS Θ_ok | refine go ?_ | refine go2 fun xe hxe => ?_ | (with_reducible first | refine cnd_d (fun hq => ?_) fun hq => ?_ | apply at_cond | apply at_ret | apply at_exit | apply at_skip | refine at_regD Θ_ok mixed (by kernel_rfl) ?_)) <;> conv => whnf) | ((with_reducible refine cnd_i (fun hq => ?_) fun hq => ?_) <;> ((try simp only [decide_eq_true_eq, decide_eq_false_iff_not, Bool.not_eq_true', Bool.not_eq_false', beq_iff_eq, bne_iff_ne, beq_eq_false_iff_ne, bne_eq_false_iff_eq, ne_eq] at hq) <;> (first | omega | conv => whnf))) | ((with_reducible refine call_r ?_); (conv => whnf); (first | with_reducible refine call_i (hC) ?_); conv => whnf))))
    exact ⟨rfl, rfl⟩
end Go.Proofs.YtfamejohdhkffaaGreat.Am
namespace Go.Proofs.YtfamejohdhkffaaGreat.Am
set_option linter.unusedSimpArgs false
set_option linter.unusedVariables false
open Go
attribute [local irreducible] Mk Need Ari Get Idx Cnd CallM CallA Opt Unch At ConV
set_option maxRecDepth 10000

/-- bytes, and a place that is not too far -/
def rdOK (c : List Int) (p : Int) : Prop := c.length ≤ 2000 ∧ (∀ x ∈ c, 0 ≤ x ∧ x ≤ 255) ∧ 0 ≤ p ∧ p ≤ 1000000000
theorem open_c (c : List Int) : ConV Tryz.prog 31 [.lst (.int .u8) c] [] (.ptr 4 0) [(4, .var 84 [.lst (.int .u8) (c.take 2000), .int .i64 0])] := by
  refine con_eq Θ_ok Tryz.func31 rfl rfl false 0 4 rfl rfl rfl rfl fun K hK hb1 hb2 => ?_; simp only [argsV, enc, Nat.reduceAdd]
  (repeat (any_goals (first | (with_reducible first | apply at_seq | apply at_block) | ((first | with_reducible apply at_regS Θ_ok | refine go ?_ | refine go2 fun xe hxe => ?_ | (with_reducible first | refine cnd_d (fun hq => ?_) fun hq => ?_ | apply at_cond | apply at_ret | apply at_exit | apply at_skip | refine at_regD Θ_ok mixed (by kernel_rfl) ?_)) <;> conv => whnf) | ((with_reducible refine cnd_i (fun hq => ?_) fun hq => ?_) <;> ((try simp only [decide_eq_true_eq, decide_eq_false_iff_not, Bool.not_eq_true', Bool.not_eq_false', beq_iff_eq, bne_iff_ne, beq_eq_false_iff_ne, bne_eq_false_iff_eq, ne_eq] at hq) <;> (first | omega | conv => whnf))))))
  · exact ⟨rfl, rfl⟩
  · exact ⟨rfl, by rw [List.take_of_length_le (by omega)]⟩
theorem pick_c (c : List Int) (p n : Int) (T : TypeId) (h : rdOK c p) (hn : 1 ≤ n ∧ n ≤ 1000000) : ∃ v, (0 ≤ v ∧ v < n) ∧ ConV Tryz.prog 32 [.ptr 4 0, .int .i64 n] [(4, .var T [.lst (.int .u8) c, .int .i64 p])] (.int .i64 v) [(4, .var T [.lst (.int .u8) c, .int .i64 (p + 1)])] := by
  obtain ⟨h1, h2, h3, h4⟩ := h
  suffices hs : ∃ r hout, (∃ v, (0 ≤ v ∧ v < n) ∧ r = .int .i64 v ∧ hout = [(4, VB.var T [.lst (.int .u8) c, .int .i64 (p + 1)])]) ∧ ConV Tryz.prog 32 [.ptr 4 0, .int .i64 n] [(4, .var T [.lst (.int .u8) c, .int .i64 p])] r hout by
    obtain ⟨r, hout, ⟨v, hv, rfl, rfl⟩, h⟩ := hs
    exact ⟨v, hv, h⟩
  refine con_ex Θ_ok Tryz.func32 rfl rfl false 1 5 rfl rfl rfl rfl (R := fun r hout => ∃ v, (0 ≤ v ∧ v < n) ∧ r = .int .i64 v ∧ hout = [(4, VB.var T [.lst (.int .u8) c, .int .i64 (p + 1)])]) (r0 := .int .i64 0) (hout0 := [(4, VB.var T [.lst (.int .u8) c, .int .i64 (p + 1)])]) (⟨0, by omega, rfl, rfl⟩) fun K hK hb1 hb2 => ?_; simp only [argsV, enc, Nat.reduceAdd]
  clear hb1 hb2
  have hat : ∀ k : Int, 0 ≤ k → k < c.length → ∃ v, c[k.toNat]? = some v ∧ 0 ≤ v ∧ v ≤ 255 := fun k ha hb => by
    have hl : k.toNat < c.length := by omega
    exact ⟨c[k.toNat], List.getElem?_eq_getElem hl, h2 _ (List.getElem_mem hl)⟩
  by_cases h0 : c.length = 0
  · (repeat (any_goals (first | (with_reducible first | apply at_seq | apply at_block) | ((first | with_reducible apply at_regS Θ_ok | refine go ?_ | refine go2 fun xe hxe => ?_ | (with_reducible first | refine cnd_d (fun hq => ?_) fun hq => ?_ | apply at_cond | apply at_ret | apply at_exit | apply at_skip | refine at_regD Θ_ok mixed (by kernel_rfl) ?_)) <;> conv => whnf) | ((with_reducible refine cnd_i (fun hq => ?_) fun hq => ?_) <;> ((try simp only [decide_eq_true_eq, decide_eq_false_iff_not, Bool.not_eq_true', Bool.not_eq_false', beq_iff_eq, bne_iff_ne, beq_eq_false_iff_ne, bne_eq_false_iff_eq, ne_eq] at hq) <;> (first | omega | conv => whnf))))))
    exact ⟨0, by omega, rfl, rfl⟩
  have hcl : 0 ≤ p.tmod c.length ∧ p.tmod c.length < c.length := ⟨Int.tmod_nonneg _ h3, Int.tmod_lt_of_pos _ (by omega)⟩
  have hcl2 : 0 ≤ (p * 7 + 3).tmod c.length ∧ (p * 7 + 3).tmod c.length < c.length := ⟨Int.tmod_nonneg _ (by omega), Int.tmod_lt_of_pos _ (by omega)⟩
  have hdv : 0 ≤ p.tdiv c.length ∧ p.tdiv c.length ≤ p := ⟨Int.tdiv_nonneg h3 (by omega), by rw [Int.tdiv_eq_ediv_of_nonneg h3]; exact Int.ediv_le_self _ h3⟩
  have hp : p + 1 - 1 = p := by omega
  by_cases h6 : p < c.length
  · obtain ⟨v, hv, hv1, hv2⟩ := hat p h3 h6
    rw [← hp] at hv
    have hm : 0 ≤ v.tmod n ∧ v.tmod n < n := ⟨Int.tmod_nonneg _ hv1, Int.tmod_lt_of_pos _ (by omega)⟩
    (repeat (any_goals (first | (with_reducible first | apply at_seq | apply at_block) | ((first | with_reducible apply at_regS Θ_ok | refine go ?_ | refine go2 fun xe hxe => ?_ | (with_reducible first | refine cnd_d (fun hq => ?_) fun hq => ?_ | apply at_cond | apply at_ret | apply at_exit | apply at_skip | refine at_regD Θ_ok mixed (by kernel_rfl) ?_)) <;> conv => whnf) | ((with_reducible refine cnd_i (fun hq => ?_) fun hq => ?_) <;> ((try simp only [decide_eq_true_eq, decide_eq_false_iff_not, Bool.not_eq_true', Bool.not_eq_false', beq_iff_eq, bne_iff_ne, beq_eq_false_iff_ne, bne_eq_false_iff_eq, ne_eq] at hq) <;> (first | omega | conv => whnf))))))
    exact ⟨_, hm, rfl, rfl⟩
  · obtain ⟨v, hv, hv1, hv2⟩ := hat _ hcl.1 hcl.2
    obtain ⟨w, hw, hw1, hw2⟩ := hat _ hcl2.1 hcl2.2
    rw [← hp] at hv hw hdv hcl hcl2
    have hS : 0 ≤ v * 131 + w * 1117 + (p + 1 - 1) * 29 + (p + 1 - 1).tdiv ↑c.length * 53 ∧ v * 131 + w * 1117 + (p + 1 - 1) * 29 + (p + 1 - 1).tdiv ↑c.length * 53 < 4611686018427387904 := by omega
    have hD : 0 ≤ (v * 131 + w * 1117 + (p + 1 - 1) * 29 + (p + 1 - 1).tdiv ↑c.length * 53).tdiv 64 ∧ (v * 131 + w * 1117 + (p + 1 - 1) * 29 + (p + 1 - 1).tdiv ↑c.length * 53).tdiv 64 < 4611686018427387904 :=
      ⟨Int.tdiv_nonneg hS.1 (by omega), by rw [Int.tdiv_eq_ediv_of_nonneg hS.1]; omega⟩
    have hX := xor_bd hS hD
    (repeat (any_goals (first | (with_reducible first | apply at_seq | apply at_block) | ((first | with_reducible apply at_regS Θ_ok | refine go ?_ | refine go2 fun xe hxe => ?_ | (with_reducible first | refine cnd_d (fun hq => ?_) fun hq => ?_ | apply at_cond | apply at_ret | apply at_exit | apply at_skip | refine at_regD Θ_ok mixed (by kernel_rfl) ?_)) <;> conv => whnf) | ((with_reducible refine cnd_i (fun hq => ?_) fun hq => ?_) <;> ((try simp only [decide_eq_true_eq, decide_eq_false_iff_not, Bool.not_eq_true', Bool.not_eq_false', beq_iff_eq, bne_iff_ne, beq_eq_false_iff_ne, bne_eq_false_iff_eq, ne_eq] at hq) <;> (first | omega | conv => whnf))))))
    refine ⟨_, ⟨Int.tmod_nonneg _ hX, Int.tmod_lt_of_pos _ (by omega)⟩, rfl, rfl⟩
end Go.Proofs.YtfamejohdhkffaaGreat.Am
namespace Go.Proofs.YtfamejohdhkffaaGreat.Am
set_option linter.unusedSimpArgs false
set_option linter.unusedVariables false
open Go
attribute [local irreducible] Mk Need Ari Get Idx Cnd CallM CallA Opt Unch At ConV
set_option maxRecDepth 10000

/-- the reader of bytes at place p -/
abbrev rdB (b : List Int) (p : Int) : VB := .var 84 [.lst (.int .u8) b, .int .i64 p]
theorem pk_c (b : List Int) (p n : Int) (h : rdOK b 0) (hp : 0 ≤ p ∧ p ≤ 100000000) (hn : 1 ≤ n ∧ n ≤ 1000000) : ∃ v, (0 ≤ v ∧ v < n) ∧ ConV Tryz.prog 32 [.ptr 4 0, .int .i64 n] [(4, rdB b p)] (.int .i64 v) [(4, rdB b (p + 1))] :=
  pick_c b p n _ ⟨h.1, h.2.1, by omega, by omega⟩ hn
theorem all_get {l : List Int} {P : Int → Prop} {i : Nat} {x : Int} (hx : l[i]? = some x) (h : ∀ y ∈ l, P y) : P x := h x (List.mem_of_getElem? hx)
theorem dcom_c (b : List Int) (p : Int) (h : rdOK b 0) (hp : 0 ≤ p ∧ p ≤ 1000000) : ∃ x : List Int × Int, (p ≤ x.2 ∧ x.2 ≤ p + 20 ∧ x.1.length ≤ 11) ∧ ConV Tryz.prog 113 [.ptr 4 0] [(4, rdB b p)] (.lst (.int .i64) x.1) [(4, rdB b x.2)] := by
  suffices hs : ∃ r hout, (∃ x : List Int × Int, (p ≤ x.2 ∧ x.2 ≤ p + 20 ∧ x.1.length ≤ 11) ∧ r = .lst (.int .i64) x.1 ∧ hout = [(4, rdB b x.2)]) ∧ ConV Tryz.prog 113 [.ptr 4 0] [(4, rdB b p)] r hout by
    obtain ⟨r, hout, ⟨v, hv, rfl, rfl⟩, h⟩ := hs
    exact ⟨v, hv, h⟩
  refine con_ex Θ_ok Tryz.func113 rfl rfl true 1 5 rfl rfl rfl rfl (R := fun r hout => ∃ x : List Int × Int, (p ≤ x.2 ∧ x.2 ≤ p + 20 ∧ x.1.length ≤ 11) ∧ r = .lst (.int .i64) x.1 ∧ hout = [(4, rdB b x.2)]) (r0 := .lst (.int .i64) []) (hout0 := [(4, rdB b p)]) (⟨([], p), by simp; omega, rfl, rfl⟩) fun K hK hb1 hb2 => ?_; simp only [argsV, enc, Nat.reduceAdd]
  clear hb1 hb2
  (repeat (any_goals (first | (with_reducible first | apply at_seq | apply at_block) | ((first | with_reducible apply at_regS Θ_ok | refine go ?_ | refine go2 fun xe hxe => ?_ | (with_reducible first | refine cnd_d (fun hq => ?_) fun hq => ?_ | apply at_cond | apply at_ret | apply at_exit | apply at_skip | refine at_regD Θ_ok mixed (by kernel_rfl) ?_)) <;> conv => whnf) | ((with_reducible refine cnd_i (fun hq => ?_) fun hq => ?_) <;> ((try simp only [decide_eq_true_eq, decide_eq_false_iff_not, Bool.not_eq_true', Bool.not_eq_false', beq_iff_eq, bne_iff_ne, beq_eq_false_iff_ne, bne_eq_false_iff_eq, ne_eq] at hq) <;> (first | omega | conv => whnf))) | ((with_reducible refine call_r ?_); (conv => whnf); (first | refine call_ex (pk_c b _ _ h (by omega) (by omega)) fun xv hxv => ?_); conv => whnf))))
  obtain ⟨n, hn, hnx⟩ : ∃ n : Int, (1 ≤ n ∧ n ≤ 7) ∧ n = xe := ⟨xe, all_get (P := fun y => 1 ≤ y ∧ y ≤ 7) hxe (by decide), rfl⟩
  clear hxe
  subst hnx
  refine at_loop hK [] [0, 3, 4, 5] (fun i : Nat × List Int × Int => ⟨[(0, .ptr 4 0), (3, .ref 5), (4, .int .i64 n), (5, .int .i64 i.1)], [(4, rdB b i.2.2), (5, .row 3 (.int .i64) i.2.1)], 6⟩)
    (fun i => (i.1 : Int) ≤ n ∧ i.2.1.length = i.1 ∧ p + 1 ≤ i.2.2 ∧ i.2.2 ≤ p + 1 + 2 * i.1) (fun i => 8 - i.1) (0, [], p + 1) (by simp; omega) rfl ?_
  rintro ⟨i, l, q⟩ ⟨hi1, hi2, hi3, hi4⟩
  dsimp only at hi1 hi2 hi3 hi4 ⊢
  by_cases hlt : (i : Int) < n
  · (repeat (any_goals (first | (with_reducible first | apply at_seq | apply at_block) | ((first | with_reducible apply at_regS Θ_ok | refine go ?_ | refine go2 fun xe hxe => ?_ | (with_reducible first | refine cnd_d (fun hq => ?_) fun hq => ?_ | apply at_cond | apply at_ret | apply at_exit | apply at_skip | refine at_regD Θ_ok mixed (by kernel_rfl) ?_)) <;> conv => whnf) | ((with_reducible refine cnd_i (fun hq => ?_) fun hq => ?_) <;> ((try simp only [decide_eq_true_eq, decide_eq_false_iff_not, Bool.not_eq_true', Bool.not_eq_false', beq_iff_eq, bne_iff_ne, beq_eq_false_iff_ne, bne_eq_false_iff_eq, ne_eq] at hq) <;> (first | omega | conv => whnf))) | ((with_reducible refine call_r ?_); (conv => whnf); (first | refine call_ex (pk_c b _ _ h (by omega) (by omega)) fun xv hxv => ?_); conv => whnf))))
    rename_i y hy
    have hm : 0 ≤ y * xv ∧ y * xv ≤ 3 * 2 := ⟨Int.mul_nonneg (by omega) (by omega), Int.mul_le_mul (by omega) (by omega) (by omega) (by omega)⟩
    generalize y * xv = z at *
    have hd : 0 ≤ z.tdiv 2 ∧ z.tdiv 2 ≤ 3 := by rw [Int.tdiv_eq_ediv_of_nonneg (by omega)]; omega
    (repeat (any_goals (first | (with_reducible first | apply at_seq | apply at_block) | ((first | with_reducible apply at_regS Θ_ok | refine go ?_ | refine go2 fun xe hxe => ?_ | (with_reducible first | refine cnd_d (fun hq => ?_) fun hq => ?_ | apply at_cond | apply at_ret | apply at_exit | apply at_skip | refine at_regD Θ_ok mixed (by kernel_rfl) ?_)) <;> conv => whnf) | ((with_reducible refine cnd_i (fun hq => ?_) fun hq => ?_) <;> ((try simp only [decide_eq_true_eq, decide_eq_false_iff_not, Bool.not_eq_true', Bool.not_eq_false', beq_iff_eq, bne_iff_ne, beq_eq_false_iff_ne, bne_eq_false_iff_eq, ne_eq] at hq) <;> (first | omega | conv => whnf))))))
    refine ⟨(i + 1, l ++ [1 + z.tdiv 2], q + 1 + 1), ⟨by omega, by simp; omega, by dsimp only; omega, by dsimp only; omega⟩, by dsimp only; omega, rfl⟩
  · (repeat (any_goals (first | (with_reducible first | apply at_seq | apply at_block) | ((first | with_reducible apply at_regS Θ_ok | refine go ?_ | refine go2 fun xe hxe => ?_ | (with_reducible first | refine cnd_d (fun hq => ?_) fun hq => ?_ | apply at_cond | apply at_ret | apply at_exit | apply at_skip | refine at_regD Θ_ok mixed (by kernel_rfl) ?_)) <;> conv => whnf) | ((with_reducible refine cnd_i (fun hq => ?_) fun hq => ?_) <;> ((try simp only [decide_eq_true_eq, decide_eq_false_iff_not, Bool.not_eq_true', Bool.not_eq_false', beq_iff_eq, bne_iff_ne, beq_eq_false_iff_ne, bne_eq_false_iff_eq, ne_eq] at hq) <;> (first | omega | conv => whnf))) | ((with_reducible refine call_r ?_); (conv => whnf); (first | refine call_ex (pk_c b _ _ h (by omega) (by omega)) fun xv hxv => ?_); conv => whnf))))
    · exact ⟨(l ++ [1, 1, 1, 1], q + 1), ⟨by dsimp only; omega, by dsimp only; omega, by simp; omega⟩, rfl, rfl⟩
    · exact ⟨(l.set _ _, q + 1 + 1 + 1), ⟨by dsimp only; omega, by dsimp only; omega, by simp; omega⟩, rfl, rfl⟩
    · exact ⟨([], q + 1), ⟨by dsimp only; omega, by dsimp only; omega, by simp⟩, rfl, rfl⟩
    · exact ⟨(l, q + 1), ⟨by dsimp only; omega, by dsimp only; omega, by dsimp only; omega⟩, rfl, rfl⟩
theorem dgood_c (b : List Int) (p : Int) (h : rdOK b 0) (hp : 0 ≤ p ∧ p ≤ 1000000) : ∃ x : List Int × Int, (p ≤ x.2 ∧ x.2 ≤ p + 20 ∧ comV x.1 = true) ∧ ConV Tryz.prog 77 [.ptr 4 0] [(4, rdB b p)] (.lst (.int .i64) x.1) [(4, rdB b x.2)] := by
  suffices hs : ∃ r hout, (∃ x : List Int × Int, (p ≤ x.2 ∧ x.2 ≤ p + 20 ∧ comV x.1 = true) ∧ r = .lst (.int .i64) x.1 ∧ hout = [(4, rdB b x.2)]) ∧ ConV Tryz.prog 77 [.ptr 4 0] [(4, rdB b p)] r hout by
    obtain ⟨r, hout, ⟨v, hv, rfl, rfl⟩, h⟩ := hs
    exact ⟨v, hv, h⟩
  refine con_ex Θ_ok Tryz.func77 rfl rfl true 1 5 rfl rfl rfl rfl (R := fun r hout => ∃ x : List Int × Int, (p ≤ x.2 ∧ x.2 ≤ p + 20 ∧ comV x.1 = true) ∧ r = .lst (.int .i64) x.1 ∧ hout = [(4, rdB b x.2)]) (r0 := .lst (.int .i64) [1, 1, 1, 1]) (hout0 := [(4, rdB b p)]) (⟨([1, 1, 1, 1], p), ⟨by dsimp only; omega, by dsimp only; omega, rfl⟩, rfl, rfl⟩) fun K hK hb1 hb2 => ?_; simp only [argsV, enc, Nat.reduceAdd]
  clear hb1 hb2
  obtain ⟨⟨c, q⟩, ⟨h1, h2, h3⟩, hc⟩ := dcom_c b p h hp
  dsimp only at h1 h2 h3 hc
  cases hv : comV c
  · (repeat (any_goals (first | (with_reducible first | apply at_seq | apply at_block) | ((first | with_reducible apply at_regS Θ_ok | refine go ?_ | refine go2 fun xe hxe => ?_ | (with_reducible first | refine cnd_d (fun hq => ?_) fun hq => ?_ | apply at_cond | apply at_ret | apply at_exit | apply at_skip | refine at_regD Θ_ok mixed (by kernel_rfl) ?_)) <;> conv => whnf) | ((with_reducible refine cnd_i (fun hq => ?_) fun hq => ?_) <;> ((try simp only [decide_eq_true_eq, decide_eq_false_iff_not, Bool.not_eq_true', Bool.not_eq_false', beq_iff_eq, bne_iff_ne, beq_eq_false_iff_ne, bne_eq_false_iff_eq, ne_eq] at hq) <;> (first | omega | conv => whnf))) | ((with_reducible refine call_r ?_); (conv => whnf); (first | with_reducible refine call_i (comV_c _) ?_); conv => whnf) | ((with_reducible refine call_o ?_); (conv => whnf); (first | with_reducible refine call_i (hc) ?_); conv => whnf))))
    exact ⟨([1, 1, 1, 1], q), ⟨h1, h2, rfl⟩, rfl, rfl⟩
  · (repeat (any_goals (first | (with_reducible first | apply at_seq | apply at_block) | ((first | with_reducible apply at_regS Θ_ok | refine go ?_ | refine go2 fun xe hxe => ?_ | (with_reducible first | refine cnd_d (fun hq => ?_) fun hq => ?_ | apply at_cond | apply at_ret | apply at_exit | apply at_skip | refine at_regD Θ_ok mixed (by kernel_rfl) ?_)) <;> conv => whnf) | ((with_reducible refine cnd_i (fun hq => ?_) fun hq => ?_) <;> ((try simp only [decide_eq_true_eq, decide_eq_false_iff_not, Bool.not_eq_true', Bool.not_eq_false', beq_iff_eq, bne_iff_ne, beq_eq_false_iff_ne, bne_eq_false_iff_eq, ne_eq] at hq) <;> (first | omega | conv => whnf))) | ((with_reducible refine call_r ?_); (conv => whnf); (first | with_reducible refine call_i (comV_c _) ?_); conv => whnf) | ((with_reducible refine call_o ?_); (conv => whnf); (first | with_reducible refine call_i (hc) ?_); conv => whnf))))
    exact ⟨(c, q), ⟨h1, h2, hv⟩, rfl, rfl⟩
theorem ddig_c (b : List Int) (p : Int) (h : rdOK b 0) (hp : 0 ≤ p ∧ p ≤ 1000000) : ∃ x : Int × Int, (p ≤ x.2 ∧ x.2 ≤ p + 3) ∧ ConV Tryz.prog 62 [.ptr 4 0] [(4, rdB b p)] (.int .i64 x.1) [(4, rdB b x.2)] := by
  suffices hs : ∃ r hout, (∃ x : Int × Int, (p ≤ x.2 ∧ x.2 ≤ p + 3) ∧ r = .int .i64 x.1 ∧ hout = [(4, rdB b x.2)]) ∧ ConV Tryz.prog 62 [.ptr 4 0] [(4, rdB b p)] r hout by
    obtain ⟨r, hout, ⟨v, hv, rfl, rfl⟩, h⟩ := hs
    exact ⟨v, hv, h⟩
  refine con_ex Θ_ok Tryz.func62 rfl rfl true 1 5 rfl rfl rfl rfl (R := fun r hout => ∃ x : Int × Int, (p ≤ x.2 ∧ x.2 ≤ p + 3) ∧ r = .int .i64 x.1 ∧ hout = [(4, rdB b x.2)]) (r0 := .int .i64 0) (hout0 := [(4, rdB b p)]) (⟨(0, p), by simp; omega, rfl, rfl⟩) fun K hK hb1 hb2 => ?_; simp only [argsV, enc, Nat.reduceAdd]
  clear hb1 hb2
  (repeat (any_goals (first | (with_reducible first | apply at_seq | apply at_block) | ((first | with_reducible apply at_regS Θ_ok | refine go ?_ | refine go2 fun xe hxe => ?_ | (with_reducible first | refine cnd_d (fun hq => ?_) fun hq => ?_ | apply at_cond | apply at_ret | apply at_exit | apply at_skip | refine at_regD Θ_ok mixed (by kernel_rfl) ?_)) <;> conv => whnf) | ((with_reducible refine cnd_i (fun hq => ?_) fun hq => ?_) <;> ((try simp only [decide_eq_true_eq, decide_eq_false_iff_not, Bool.not_eq_true', Bool.not_eq_false', beq_iff_eq, bne_iff_ne, beq_eq_false_iff_ne, bne_eq_false_iff_eq, ne_eq] at hq) <;> (first | omega | conv => whnf))) | ((with_reducible refine call_r ?_); (conv => whnf); (first | refine call_ex (pk_c b _ _ h (by omega) (by omega)) fun xv hxv => ?_); conv => whnf))))
  all_goals exact ⟨(_, _), by dsimp only; omega, rfl, rfl⟩
theorem dmem_c (b : List Int) (p : Int) (n : Int) (h : rdOK b 0) (hp : 0 ≤ p ∧ p ≤ 1000000) (hn : n ≤ 20) : ∃ x : List Int × Int, (p ≤ x.2 ∧ x.2 ≤ p + 30 ∧ x.1.length ≤ 30) ∧ ConV Tryz.prog 61 [.ptr 4 0, .int .i64 n] [(4, rdB b p)] (.lst (.int .i64) x.1) [(4, rdB b x.2)] := by
  suffices hs : ∃ r hout, (∃ x : List Int × Int, (p ≤ x.2 ∧ x.2 ≤ p + 30 ∧ x.1.length ≤ 30) ∧ r = .lst (.int .i64) x.1 ∧ hout = [(4, rdB b x.2)]) ∧ ConV Tryz.prog 61 [.ptr 4 0, .int .i64 n] [(4, rdB b p)] r hout by
    obtain ⟨r, hout, ⟨v, hv, rfl, rfl⟩, h⟩ := hs
    exact ⟨v, hv, h⟩
  refine con_ex Θ_ok Tryz.func61 rfl rfl true 1 5 rfl rfl rfl rfl (R := fun r hout => ∃ x : List Int × Int, (p ≤ x.2 ∧ x.2 ≤ p + 30 ∧ x.1.length ≤ 30) ∧ r = .lst (.int .i64) x.1 ∧ hout = [(4, rdB b x.2)]) (r0 := .lst (.int .i64) []) (hout0 := [(4, rdB b p)]) (⟨([], p), by simp; omega, rfl, rfl⟩) fun K hK hb1 hb2 => ?_; simp only [argsV, enc, Nat.reduceAdd]
  clear hb1 hb2
  (repeat (any_goals (first | (with_reducible first | apply at_seq | apply at_block) | ((first | with_reducible apply at_regS Θ_ok | refine go ?_ | refine go2 fun xe hxe => ?_ | (with_reducible first | refine cnd_d (fun hq => ?_) fun hq => ?_ | apply at_cond | apply at_ret | apply at_exit | apply at_skip | refine at_regD Θ_ok mixed (by kernel_rfl) ?_)) <;> conv => whnf) | ((with_reducible refine cnd_i (fun hq => ?_) fun hq => ?_) <;> ((try simp only [decide_eq_true_eq, decide_eq_false_iff_not, Bool.not_eq_true', Bool.not_eq_false', beq_iff_eq, bne_iff_ne, beq_eq_false_iff_ne, bne_eq_false_iff_eq, ne_eq] at hq) <;> (first | omega | conv => whnf))))))
  refine at_loop hK [] [0, 1, 5, 6] (fun i : Nat × List Int × Int => ⟨[(0, .ptr 4 0), (1, .int .i64 n), (5, .ref 5), (6, .int .i64 i.1)], [(4, rdB b i.2.2), (5, .row 3 (.int .i64) i.2.1)], 6⟩)
    (fun i => (i.1 : Int) ≤ max n 0 ∧ i.2.1.length ≤ i.1 ∧ i.2.2 = p + i.1) (fun i => 20 - i.1) (0, [], p) (by simp; omega) rfl ?_
  rintro ⟨i, l, q⟩ ⟨hi1, hi2, hi3⟩
  dsimp only at hi1 hi2 hi3 ⊢
  by_cases hlt : (i : Int) < n
  · (repeat (any_goals (first | (with_reducible first | apply at_seq | apply at_block) | ((first | with_reducible apply at_regS Θ_ok | refine go ?_ | refine go2 fun xe hxe => ?_ | (with_reducible first | refine cnd_d (fun hq => ?_) fun hq => ?_ | apply at_cond | apply at_ret | apply at_exit | apply at_skip | refine at_regD Θ_ok mixed (by kernel_rfl) ?_)) <;> conv => whnf) | ((with_reducible refine cnd_i (fun hq => ?_) fun hq => ?_) <;> ((try simp only [decide_eq_true_eq, decide_eq_false_iff_not, Bool.not_eq_true', Bool.not_eq_false', beq_iff_eq, bne_iff_ne, beq_eq_false_iff_ne, bne_eq_false_iff_eq, ne_eq] at hq) <;> (first | omega | conv => whnf))) | ((with_reducible refine call_r ?_); (conv => whnf); (first | refine call_ex (pk_c b _ _ h (by omega) (by omega)) fun xv hxv => ?_); conv => whnf))))
    · exact ⟨(i + 1, l ++ [(i : Int)], q + 1), ⟨by dsimp only; omega, by simp; omega, by dsimp only; omega⟩, by dsimp only; omega, rfl⟩
    · exact ⟨(i + 1, l, q + 1), ⟨by dsimp only; omega, by simp; omega, by dsimp only; omega⟩, by dsimp only; omega, rfl⟩
  · (repeat (any_goals (first | (with_reducible first | apply at_seq | apply at_block) | ((first | with_reducible apply at_regS Θ_ok | refine go ?_ | refine go2 fun xe hxe => ?_ | (with_reducible first | refine cnd_d (fun hq => ?_) fun hq => ?_ | apply at_cond | apply at_ret | apply at_exit | apply at_skip | refine at_regD Θ_ok mixed (by kernel_rfl) ?_)) <;> conv => whnf) | ((with_reducible refine cnd_i (fun hq => ?_) fun hq => ?_) <;> ((try simp only [decide_eq_true_eq, decide_eq_false_iff_not, Bool.not_eq_true', Bool.not_eq_false', beq_iff_eq, bne_iff_ne, beq_eq_false_iff_ne, bne_eq_false_iff_eq, ne_eq] at hq) <;> (first | omega | conv => whnf))) | ((with_reducible refine call_r ?_); (conv => whnf); (first | refine call_ex (pk_c b _ _ h (by omega) (by omega)) fun xv hxv => ?_); conv => whnf))))
    · exact ⟨(l ++ [n], q + 1), ⟨by dsimp only; omega, by dsimp only; omega, by simp; omega⟩, rfl, rfl⟩
    · exact ⟨(l ++ [_], q + 1 + 1), ⟨by dsimp only; omega, by dsimp only; omega, by simp; omega⟩, rfl, rfl⟩
    · exact ⟨(l, q + 1), ⟨by dsimp only; omega, by dsimp only; omega, by dsimp only; omega⟩, rfl, rfl⟩
end Go.Proofs.YtfamejohdhkffaaGreat.Am
namespace Go.Proofs.YtfamejohdhkffaaGreat.Am
set_option linter.unusedSimpArgs false
set_option linter.unusedVariables false
open Go
attribute [local irreducible] Mk Need Ari Get Idx Cnd CallM CallA Opt Unch At ConV
set_option maxRecDepth 10000
theorem pre_new (c l : List Int) (b : Int) : preS ⟨c, l, b, List.replicate (min c.length 7) [], []⟩ = newS c l b := by
  cases h : newS c l b
  · simp [preS, h]
  · have hc : comV c = true := by
      simp only [newS, Bool.and_eq_true] at h
      exact h.1
    have h7 := (comV_iff.1 hc).2
    have hn : min c.length 7 = c.length := by omega
    rw [hn]
    have h1 : proS c b [] = true := proS_nil c b
    have h2 : viwsS c b [] (List.replicate c.length []) = true := by
      refine viws_nil hc
    simp [preS, h, h1, h2]
where
  proS_nil (c : List Int) (b : Int) : proS c b [] = true := rfl
  viws_nil {c : List Int} {b : Int} (hc : comV c = true) : viwsS c b [] (List.replicate c.length []) = true := by
    refine allTo_t fun j hj => ?_
    rw [List.length_replicate] at hj
    have : (List.replicate c.length ([] : List Vtx)).getD j [] = [] := by simp [List.getD_eq_getElem?_getD, List.getElem?_replicate, hj]
    rw [this]
    simp [viwS, graS, hc, allTo]
theorem wrl_new {c l : List Int} {b : Int} (h : newS c l b = true) : wrlS (newW c l b) = true := by
  have hc : comV c = true := by
    simp only [newS, Bool.and_eq_true] at h
    exact h.1
  have h7 := (comV_iff.1 hc).2
  have hp := pre_new c l b
  rw [show min c.length 7 = c.length by omega, h] at hp
  rw [wrlS_eq]
  have : preS (newW c l b) = true := hp
  rw [this]
  rfl
end Go.Proofs.YtfamejohdhkffaaGreat.Am
namespace Go.Proofs.YtfamejohdhkffaaGreat.Am
set_option linter.unusedSimpArgs false
set_option linter.unusedVariables false
open Go
attribute [local irreducible] Mk Need Ari Get Idx Cnd CallM CallA Opt Unch At ConV
set_option maxRecDepth 10000
theorem rd0w {c : List Int} (h : ∀ x ∈ c, 0 ≤ x ∧ x ≤ 255) : rdOK (c.take 2000) 0 := ⟨by rw [List.length_take]; omega, fun x hx => h x (List.mem_of_mem_take hx), by omega, by omega⟩
end Go.Proofs.YtfamejohdhkffaaGreat.Am
namespace Go.Proofs.YtfamejohdhkffaaGreat.Am
set_option linter.unusedSimpArgs false
set_option linter.unusedVariables false
open Go Go.RowKit

variable {P : Program} {N : Nat} {K : Id → Prop} {σ : VSt} {Q : Exit → VSt → Prop}
/-- what stands at a cut -/
def cutQ {α : Type} (m : Nat) (fs ts : List Nat) (st : α → VSt) (p : α → Prop) (e : Exit) (σ : VSt) : Prop :=
  match e with
  | .normal => zgcK m fs ts σ fun σ2 => ∃ a, p a ∧ σ2 = st a
  | _ => False
theorem at_then {α : Type} {x y : Code} {m : Nat} (hK : KB m K) (fs ts : List Nat) (st : α → VSt) (p : α → Prop) (h : At P N K x (cutQ m fs ts st p) σ) (k : ∀ a, p a → At P N K y Q (st a)) : At P N K x (thenQ (At P N K y Q) Q) σ := by
  obtain ⟨e, σ1, h1, h2⟩ := h
  refine ⟨e, σ1, h1, fun hr => ?_⟩
  have h3 := h2 hr
  cases e with
  | normal =>
    obtain ⟨σ2, hw, a, ha, rfl⟩ := zgcK_ok hK h3
    exact at_weak hw (k a ha)
  | _ => exact h3.elim
end Go.Proofs.YtfamejohdhkffaaGreat.Am
namespace Go.Proofs.YtfamejohdhkffaaGreat.Am
set_option linter.unusedSimpArgs false
set_option linter.unusedVariables false
open Go
attribute [local irreducible] Mk Need Ari Get Idx Cnd CallM CallA Opt Unch At ConV
set_option maxRecDepth 10000
theorem newS_bad {c l : List Int} (hc : comV c = true) (hl : leaS c l = true) : newS c l (-1) = true := by
  have : badS c (-1) = true := badS_iff.2 (.inl rfl)
  simp [newS, hc, hl, this]
theorem new_ok {c l : List Int} {b : Int} (h : newS c l b = true) : WOK (newW c l b) := wok_iff.1 (wrl_new h)
theorem dbeg_c (b : List Int) (p : Int) (h : rdOK b 0) (hp : 0 ≤ p ∧ p ≤ 900000) : ∃ x : Wrl × Int, (p ≤ x.2 ∧ x.2 ≤ p + 60 ∧ WOK x.1) ∧ ConV Tryz.prog 45 [.ptr 4 0] [(4, rdB b p)] (wrlA x.1) [(4, rdB b x.2)] := by
  obtain ⟨⟨c, q⟩, ⟨h1, h2, h3⟩, hg⟩ := dgood_c b p h (by omega)
  dsimp only at h1 h2 h3 hg
  have h7 := (comV_iff.1 h3).2
  suffices hs : ∃ r hout, (∃ x : Wrl × Int, (p ≤ x.2 ∧ x.2 ≤ p + 60 ∧ WOK x.1) ∧ r = wrlA x.1 ∧ hout = [(4, rdB b x.2)]) ∧ ConV Tryz.prog 45 [.ptr 4 0] [(4, rdB b p)] r hout by
    obtain ⟨r, hout, ⟨v, hv, rfl, rfl⟩, h⟩ := hs
    exact ⟨v, hv, h⟩
  have h0 : WOK (newW c [] (-1)) := new_ok (newS_bad h3 rfl)
  refine con_ex Θ_ok Tryz.func45 rfl rfl true 1 5 rfl rfl rfl rfl (R := fun r hout => ∃ x : Wrl × Int, (p ≤ x.2 ∧ x.2 ≤ p + 60 ∧ WOK x.1) ∧ r = wrlA x.1 ∧ hout = [(4, rdB b x.2)]) (r0 := wrlA (newW c [] (-1))) (hout0 := [(4, rdB b p)]) (⟨(newW c [] (-1), p), ⟨by dsimp only; omega, by dsimp only; omega, h0⟩, rfl, rfl⟩) fun K hK hb1 hb2 => ?_; simp only [argsV, enc, Nat.reduceAdd]
  clear hb1 hb2
  (repeat (any_goals (first | (with_reducible first | apply at_seq | apply at_block) | ((first | with_reducible apply at_regS Θ_ok | refine go ?_ | refine go2 fun xe hxe => ?_ | (with_reducible first | refine cnd_d (fun hq => ?_) fun hq => ?_ | apply at_cond | apply at_ret | apply at_exit | apply at_skip | refine at_regD Θ_ok mixed (by kernel_rfl) ?_)) <;> conv => whnf) | ((with_reducible refine cnd_i (fun hq => ?_) fun hq => ?_) <;> ((try simp only [decide_eq_true_eq, decide_eq_false_iff_not, Bool.not_eq_true', Bool.not_eq_false', beq_iff_eq, bne_iff_ne, beq_eq_false_iff_ne, bne_eq_false_iff_eq, ne_eq] at hq) <;> (first | omega | conv => whnf))) | ((with_reducible refine call_o ?_); (conv => whnf); (first | with_reducible refine call_i (hg) ?_); conv => whnf))))
  refine at_loop hK [] [0, 2, 3, 4, 5] (fun i : Nat × List Int × Int => ⟨[(0, .ptr 4 0), (2, .ptr 5 0), (3, .lst (.int .i64) c), (4, .ref 6), (5, .int .i64 i.1)], [(4, rdB b i.2.2), (5, .var 27 wZv), (6, .row 3 (.int .i64) i.2.1)], 7⟩)
    (fun i => i.1 ≤ 11 ∧ i.2.1.length = i.1 ∧ i.2.2 = q + 2 * i.1 ∧ ∀ x ∈ i.2.1, 0 ≤ x ∧ x < c.length) (fun i => 12 - i.1) (0, [], q) (by simp) rfl ?_
  rintro ⟨i, l, q2⟩ ⟨hi1, hi2, hi3, hi4⟩
  dsimp only at hi1 hi2 hi3 hi4 ⊢
  have hle : leaS c l = true := leaS_iff.2 ⟨hi4, by omega⟩
  (repeat (any_goals (first | (with_reducible first | apply at_seq | apply at_block) | ((first | with_reducible apply at_regS Θ_ok | refine go ?_ | refine go2 fun xe hxe => ?_ | (with_reducible first | refine cnd_d (fun hq => ?_) fun hq => ?_ | apply at_cond | apply at_ret | apply at_exit | apply at_skip | refine at_regD Θ_ok mixed (by kernel_rfl) ?_)) <;> conv => whnf) | ((with_reducible refine cnd_i (fun hq => ?_) fun hq => ?_) <;> ((try simp only [decide_eq_true_eq, decide_eq_false_iff_not, Bool.not_eq_true', Bool.not_eq_false', beq_iff_eq, bne_iff_ne, beq_eq_false_iff_ne, bne_eq_false_iff_eq, ne_eq] at hq) <;> (first | omega | conv => whnf))) | ((with_reducible refine call_r ?_); (conv => whnf); (first | refine call_ex (pk_c b _ _ h (by omega) (by omega)) fun xv hxv => ?_); conv => whnf))))
  · exact ⟨(i + 1, l ++ [xv], q2 + 1 + 1), ⟨by dsimp only; omega, by simp; omega, by dsimp only; omega, fun x hx => by
      rcases List.mem_append.1 hx with hx | hx
      · exact hi4 x hx
      · rw [List.mem_singleton.1 hx]; omega⟩, by dsimp only; omega, rfl⟩
  · have hN := snew_c c l (xv - 1) (by omega)
    cases hn : newS c l (xv - 1)
    · rw [hn] at hN
      simp only [Bool.false_eq_true, if_false] at hN
      have hN2 := snew_c c l (-1) (by omega)
      rw [newS_bad h3 hle] at hN2
      simp only [if_true] at hN2
      (repeat (any_goals (first | (with_reducible first | apply at_seq | apply at_block) | ((first | with_reducible apply at_regS Θ_ok | refine go ?_ | refine go2 fun xe hxe => ?_ | (with_reducible first | refine cnd_d (fun hq => ?_) fun hq => ?_ | apply at_cond | apply at_ret | apply at_exit | apply at_skip | refine at_regD Θ_ok mixed (by kernel_rfl) ?_)) <;> conv => whnf) | ((with_reducible refine cnd_i (fun hq => ?_) fun hq => ?_) <;> ((try simp only [decide_eq_true_eq, decide_eq_false_iff_not, Bool.not_eq_true', Bool.not_eq_false', beq_iff_eq, bne_iff_ne, beq_eq_false_iff_ne, bne_eq_false_iff_eq, ne_eq] at hq) <;> (first | omega | conv => whnf))) | ((with_reducible refine call_r ?_); (conv => whnf); (first | with_reducible refine call_i (hN) ?_ | with_reducible refine call_i (hN2) ?_); conv => whnf))))
      exact ⟨(newW c l (-1), q2 + 1 + 1), ⟨by dsimp only; omega, by dsimp only; omega, new_ok (newS_bad h3 hle)⟩, rfl, rfl⟩
    · rw [hn] at hN
      simp only [if_true] at hN
      (repeat (any_goals (first | (with_reducible first | apply at_seq | apply at_block) | ((first | with_reducible apply at_regS Θ_ok | refine go ?_ | refine go2 fun xe hxe => ?_ | (with_reducible first | refine cnd_d (fun hq => ?_) fun hq => ?_ | apply at_cond | apply at_ret | apply at_exit | apply at_skip | refine at_regD Θ_ok mixed (by kernel_rfl) ?_)) <;> conv => whnf) | ((with_reducible refine cnd_i (fun hq => ?_) fun hq => ?_) <;> ((try simp only [decide_eq_true_eq, decide_eq_false_iff_not, Bool.not_eq_true', Bool.not_eq_false', beq_iff_eq, bne_iff_ne, beq_eq_false_iff_ne, bne_eq_false_iff_eq, ne_eq] at hq) <;> (first | omega | conv => whnf))) | ((with_reducible refine call_r ?_); (conv => whnf); (first | with_reducible refine call_i (hN) ?_); conv => whnf))))
      exact ⟨(newW c l (xv - 1), q2 + 1 + 1), ⟨by dsimp only; omega, by dsimp only; omega, new_ok hn⟩, rfl, rfl⟩
def e0 : Evt := ⟨0, 0, 0, v0⟩
/-- an event, its parents the nil slice where z holds -/
abbrev evtZ (z : Bool) (e : Evt) : V := if z then .agg [.int .i64 e.kind, .int .i64 e.a, .int .i64 e.b, .int .i64 e.v.round, .int .i64 e.v.author, .nils, .int .i64 e.v.digest] else evtA e
def evtS (b : List Int) (q : Int) (k a c r u d : Int) (l : List Int) : Nat → VSt
  | 0 => ⟨[(0, .ptr 4 0), (4, .ptr 5 0), (7, .ptr 6 0)], [(4, rdB b q), (5, .var 52 [.int .i64 0, .int .i64 0, .int .i64 0, .int .i64 0, .int .i64 0, .nils, .int .i64 0]), (6, .var 52 [.int .i64 k, .int .i64 a, .int .i64 c, .int .i64 r, .int .i64 u, .nils, .int .i64 d])], 7⟩
  | 1 => ⟨[(0, .ptr 4 0), (4, .ptr 5 0), (7, .ptr 6 0)], [(4, rdB b q), (5, .var 52 [.int .i64 0, .int .i64 0, .int .i64 0, .int .i64 0, .int .i64 0, .nils, .int .i64 0]), (6, .var 52 [.int .i64 k, .int .i64 a, .int .i64 c, .int .i64 r, .int .i64 u, .lst (.int .i64) l, .int .i64 d])], 7⟩
  | _ => ⟨[(0, .ptr 4 0), (4, .ptr 5 0), (7, .ptr 6 0)], [(4, rdB b q), (5, .var 52 [.int .i64 0, .int .i64 0, .int .i64 0, .int .i64 0, .int .i64 0, .nils, .int .i64 0]), (6, .var 52 [.int .i64 k, .int .i64 a, .int .i64 c, .int .i64 r, .int .i64 u, .ref 7, .int .i64 d]), (7, .row 3 (.int .i64) l)], 8⟩
def evtF (b : List Int) (x : (Int × Int × Int × Int) × Int × Int × Int × List Int × Nat) : VSt := evtS b x.2.1 x.1.1 x.1.2.1 x.1.2.2.1 x.1.2.2.2 x.2.2.1 x.2.2.2.1 x.2.2.2.2.1 x.2.2.2.2.2
theorem evt_k0 {b : List Int} {q k a c r u d : Int} {p : (Int × Int × Int × Int) × Int × Int × Int × List Int × Nat → Prop} (hp : p ((k, a, c, r), q, u, d, [], 0)) : ∃ x, p x ∧ (⟨[(0, .ptr 4 0), (4, .ptr 5 0), (7, .ptr 6 0)], [(4, rdB b q), (5, .var 52 [.int .i64 0, .int .i64 0, .int .i64 0, .int .i64 0, .int .i64 0, .nils, .int .i64 0]), (6, .var 52 [.int .i64 k, .int .i64 a, .int .i64 c, .int .i64 r, .int .i64 u, .nils, .int .i64 d])], 7⟩ : VSt) = evtF b x := ⟨_, hp, rfl⟩
theorem evt_k1 {b : List Int} {q k a c r u d : Int} {l : List Int} {p : (Int × Int × Int × Int) × Int × Int × Int × List Int × Nat → Prop} (hp : p ((k, a, c, r), q, u, d, l, 1)) : ∃ x, p x ∧ (⟨[(0, .ptr 4 0), (4, .ptr 5 0), (7, .ptr 6 0)], [(4, rdB b q), (5, .var 52 [.int .i64 0, .int .i64 0, .int .i64 0, .int .i64 0, .int .i64 0, .nils, .int .i64 0]), (6, .var 52 [.int .i64 k, .int .i64 a, .int .i64 c, .int .i64 r, .int .i64 u, .lst (.int .i64) l, .int .i64 d])], 7⟩ : VSt) = evtF b x := ⟨_, hp, rfl⟩
theorem evt_k2 {b : List Int} {q k a c r u d : Int} {l : List Int} {p : (Int × Int × Int × Int) × Int × Int × Int × List Int × Nat → Prop} (hp : p ((k, a, c, r), q, u, d, l, 2)) : ∃ x, p x ∧ (⟨[(0, .ptr 4 0), (4, .ptr 5 0), (7, .ptr 6 0)], [(4, rdB b q), (5, .var 52 [.int .i64 0, .int .i64 0, .int .i64 0, .int .i64 0, .int .i64 0, .nils, .int .i64 0]), (6, .var 52 [.int .i64 k, .int .i64 a, .int .i64 c, .int .i64 r, .int .i64 u, .ref 7, .int .i64 d]), (7, .row 3 (.int .i64) l)], 8⟩ : VSt) = evtF b x := ⟨_, hp, rfl⟩
set_option maxHeartbeats 4000000 in
theorem devt_c (b : List Int) (p : Int) (w : Wrl) (h : rdOK b 0) (hp : 0 ≤ p ∧ p ≤ 900000) (hw : WOK w) : ∃ x : (Bool × Evt) × Int, (p ≤ x.2 ∧ x.2 ≤ p + 60 ∧ x.1.2.v.parents.length ≤ 30 ∧ (x.1.1 = true → x.1.2.v.parents = [])) ∧ ConV Tryz.prog 47 [.ptr 4 0, wrlA w] [(4, rdB b p)] (evtZ x.1.1 x.1.2) [(4, rdB b x.2)] := by
  have h7 := hw.len
  have hpl := hw.plen
  have hbd := badS_iff.1 hw.bad
  suffices hs : ∃ r hout, (∃ x : (Bool × Evt) × Int, (p ≤ x.2 ∧ x.2 ≤ p + 60 ∧ x.1.2.v.parents.length ≤ 30 ∧ (x.1.1 = true → x.1.2.v.parents = [])) ∧ r = evtZ x.1.1 x.1.2 ∧ hout = [(4, rdB b x.2)]) ∧ ConV Tryz.prog 47 [.ptr 4 0, wrlA w] [(4, rdB b p)] r hout by
    obtain ⟨r, hout, ⟨v, hv, rfl, rfl⟩, h⟩ := hs
    exact ⟨v, hv, h⟩
  refine con_ex Θ_ok Tryz.func47 rfl rfl true 1 5 rfl rfl rfl rfl (R := fun r hout => ∃ x : (Bool × Evt) × Int, (p ≤ x.2 ∧ x.2 ≤ p + 60 ∧ x.1.2.v.parents.length ≤ 30 ∧ (x.1.1 = true → x.1.2.v.parents = [])) ∧ r = evtZ x.1.1 x.1.2 ∧ hout = [(4, rdB b x.2)]) (r0 := evtZ true e0) (hout0 := [(4, rdB b p)]) (⟨((true, e0), p), ⟨by dsimp only; omega, by dsimp only; omega, by simp [e0, v0], fun _ => rfl⟩, rfl, rfl⟩) fun K hK hb1 hb2 => ?_; simp only [argsV, enc, Nat.reduceAdd]
  clear hb1 hb2
  (repeat (any_goals (first | (with_reducible first | apply at_seq) | ((first | with_reducible apply at_regS Θ_ok | refine go ?_ | refine go2 fun xe hxe => ?_ | (with_reducible first | refine cnd_d (fun hq => ?_) fun hq => ?_ | apply at_cond | apply at_ret | apply at_exit | apply at_skip | refine at_regD Θ_ok mixed (by kernel_rfl) ?_)) <;> conv => whnf) | ((with_reducible refine cnd_i (fun hq => ?_) fun hq => ?_) <;> ((try simp only [decide_eq_true_eq, decide_eq_false_iff_not, Bool.not_eq_true', Bool.not_eq_false', beq_iff_eq, bne_iff_ne, beq_eq_false_iff_ne, bne_eq_false_iff_eq, ne_eq] at hq) <;> (first | omega | conv => whnf))) | ((with_reducible refine call_r ?_); (conv => whnf); (first | refine call_ex (pk_c b _ _ h (by omega) (by omega)) fun xv hxv => ?_); conv => whnf))))
  refine at_then hK [] [0, 4, 7] (evtF b) (fun x => (p ≤ x.2.1 ∧ x.2.1 ≤ p + 50 ∧ x.2.2.2.2.1.length ≤ 30)) ?_ ?_
  · (repeat (any_goals (first | (with_reducible first | apply at_seq | apply at_block) | ((first | with_reducible apply at_regS Θ_ok | refine go ?_ | refine go2 fun xe hxe => ?_ | (with_reducible first | refine cnd_d (fun hq => ?_) fun hq => ?_ | apply at_cond | apply at_ret | apply at_exit | apply at_skip | refine at_regD Θ_ok mixed (by kernel_rfl) ?_)) <;> conv => whnf) | ((with_reducible refine cnd_i (fun hq => ?_) fun hq => ?_) <;> ((try simp only [decide_eq_true_eq, decide_eq_false_iff_not, Bool.not_eq_true', Bool.not_eq_false', beq_iff_eq, bne_iff_ne, beq_eq_false_iff_ne, bne_eq_false_iff_eq, ne_eq] at hq) <;> (first | omega | conv => whnf))) | ((with_reducible refine call_r ?_); (conv => whnf); (first | refine call_ex (pk_c b _ _ h (by omega) (by omega)) fun xv hxv => ?_ | refine call_ex (ddig_c b _ h (by omega)) fun xv hxv => ?_ | refine call_ex (dmem_c b _ _ h (by omega) (by omega)) fun xv hxv => ?_); conv => whnf))))
    all_goals first
      | (refine evt_k0 ⟨?_, ?_, ?_⟩ <;> first | (dsimp only; omega) | simp; done)
      | (refine evt_k1 ⟨?_, ?_, ?_⟩ <;> first | (dsimp only; omega) | simp; done)
      | (refine evt_k2 ⟨?_, ?_, ?_⟩ <;> first | (dsimp only; omega) | simp; done)
  · rintro ⟨⟨k, a, c, r⟩, q, u, d, l, z⟩ ⟨hq1, hq2, hq3⟩
    dsimp only [evtF] at hq1 hq2 hq3 ⊢
    match z with
    | 0 =>
      have hs0 : evtS b q k a c r u d l 0 = ⟨[(0, .ptr 4 0), (4, .ptr 5 0), (7, .ptr 6 0)], [(4, rdB b q), (5, .var 52 [.int .i64 0, .int .i64 0, .int .i64 0, .int .i64 0, .int .i64 0, .nils, .int .i64 0]), (6, .var 52 [.int .i64 k, .int .i64 a, .int .i64 c, .int .i64 r, .int .i64 u, .nils, .int .i64 d])], 7⟩ := rfl
      rw [hs0]
      (repeat (any_goals (first | (with_reducible first | apply at_seq | apply at_block) | ((first | with_reducible apply at_regS Θ_ok | refine go ?_ | refine go2 fun xe hxe => ?_ | (with_reducible first | refine cnd_d (fun hq => ?_) fun hq => ?_ | apply at_cond | apply at_ret | apply at_exit | apply at_skip | refine at_regD Θ_ok mixed (by kernel_rfl) ?_)) <;> conv => whnf) | ((with_reducible refine cnd_i (fun hq => ?_) fun hq => ?_) <;> ((try simp only [decide_eq_true_eq, decide_eq_false_iff_not, Bool.not_eq_true', Bool.not_eq_false', beq_iff_eq, bne_iff_ne, beq_eq_false_iff_ne, bne_eq_false_iff_eq, ne_eq] at hq) <;> (first | omega | conv => whnf))) | ((with_reducible refine call_r ?_); (conv => whnf); (first | refine call_ex (pk_c b _ _ h (by omega) (by omega)) fun xv hxv => ?_); conv => whnf))))
      all_goals exact ⟨((true, ⟨_, _, _, ⟨_, _, [], _⟩⟩), _), ⟨by dsimp only; omega, by dsimp only; omega, by simp, fun h => by rfl⟩, rfl, rfl⟩
    | 1 =>
      have hs0 : evtS b q k a c r u d l 1 = ⟨[(0, .ptr 4 0), (4, .ptr 5 0), (7, .ptr 6 0)], [(4, rdB b q), (5, .var 52 [.int .i64 0, .int .i64 0, .int .i64 0, .int .i64 0, .int .i64 0, .nils, .int .i64 0]), (6, .var 52 [.int .i64 k, .int .i64 a, .int .i64 c, .int .i64 r, .int .i64 u, .lst (.int .i64) l, .int .i64 d])], 7⟩ := rfl
      rw [hs0]
      (repeat (any_goals (first | (with_reducible first | apply at_seq | apply at_block) | ((first | with_reducible apply at_regS Θ_ok | refine go ?_ | refine go2 fun xe hxe => ?_ | (with_reducible first | refine cnd_d (fun hq => ?_) fun hq => ?_ | apply at_cond | apply at_ret | apply at_exit | apply at_skip | refine at_regD Θ_ok mixed (by kernel_rfl) ?_)) <;> conv => whnf) | ((with_reducible refine cnd_i (fun hq => ?_) fun hq => ?_) <;> ((try simp only [decide_eq_true_eq, decide_eq_false_iff_not, Bool.not_eq_true', Bool.not_eq_false', beq_iff_eq, bne_iff_ne, beq_eq_false_iff_ne, bne_eq_false_iff_eq, ne_eq] at hq) <;> (first | omega | conv => whnf))) | ((with_reducible refine call_r ?_); (conv => whnf); (first | refine call_ex (pk_c b _ _ h (by omega) (by omega)) fun xv hxv => ?_); conv => whnf))))
      all_goals exact ⟨((false, ⟨_, _, _, ⟨_, _, l, _⟩⟩), _), ⟨by dsimp only; omega, by dsimp only; omega, by dsimp only; omega, fun h => by cases h⟩, rfl, rfl⟩
    | n + 2 =>
      have hs0 : evtS b q k a c r u d l (n + 2) = ⟨[(0, .ptr 4 0), (4, .ptr 5 0), (7, .ptr 6 0)], [(4, rdB b q), (5, .var 52 [.int .i64 0, .int .i64 0, .int .i64 0, .int .i64 0, .int .i64 0, .nils, .int .i64 0]), (6, .var 52 [.int .i64 k, .int .i64 a, .int .i64 c, .int .i64 r, .int .i64 u, .ref 7, .int .i64 d]), (7, .row 3 (.int .i64) l)], 8⟩ := rfl
      rw [hs0]
      (repeat (any_goals (first | (with_reducible first | apply at_seq | apply at_block) | ((first | with_reducible apply at_regS Θ_ok | refine go ?_ | refine go2 fun xe hxe => ?_ | (with_reducible first | refine cnd_d (fun hq => ?_) fun hq => ?_ | apply at_cond | apply at_ret | apply at_exit | apply at_skip | refine at_regD Θ_ok mixed (by kernel_rfl) ?_)) <;> conv => whnf) | ((with_reducible refine cnd_i (fun hq => ?_) fun hq => ?_) <;> ((try simp only [decide_eq_true_eq, decide_eq_false_iff_not, Bool.not_eq_true', Bool.not_eq_false', beq_iff_eq, bne_iff_ne, beq_eq_false_iff_ne, bne_eq_false_iff_eq, ne_eq] at hq) <;> (first | omega | conv => whnf))) | ((with_reducible refine call_r ?_); (conv => whnf); (first | refine call_ex (pk_c b _ _ h (by omega) (by omega)) fun xv hxv => ?_); conv => whnf))))
      all_goals exact ⟨((false, ⟨_, _, _, ⟨_, _, l, _⟩⟩), _), ⟨by dsimp only; omega, by dsimp only; omega, by dsimp only; omega, fun h => by cases h⟩, rfl, rfl⟩
end Go.Proofs.YtfamejohdhkffaaGreat.Am
namespace Go.Proofs.YtfamejohdhkffaaGreat.Am
set_option linter.unusedSimpArgs false
set_option linter.unusedVariables false
open Go
attribute [local irreducible] Mk Need Ari Get Idx Cnd CallM CallA Opt Unch At ConV
set_option maxRecDepth 10000
theorem scpo_c (w : Wrl) (h : WOK w) : ConV Tryz.prog 52 [wrlA w] [] (.agg [.ref 4, .ref 5, .int .i64 w.bad, .ref 6, .ref 7]) [(4, .row 3 (.int .i64) w.com), (5, .row 3 (.int .i64) w.lead), (6, .row 45 (.lst .vtx) w.views), (7, .row 44 .ppl w.props)] := by
  have h7 := h.len
  have hvl := h.vlen
  have hpl := h.plen
  have hll := (leaS_iff.1 h.lead).2
  refine con_eq Θ_ok Tryz.func52 rfl rfl false 0 4 rfl rfl rfl rfl fun K hK hb1 hb2 => ?_; simp only [argsV, enc, Nat.reduceAdd]
  clear hb1 hb2
  (repeat (any_goals (first | (with_reducible first | apply at_seq | apply at_block) | ((first | with_reducible apply at_regS Θ_ok | refine go ?_ | refine go2 fun xe hxe => ?_ | (with_reducible first | refine cnd_d (fun hq => ?_) fun hq => ?_ | apply at_cond | apply at_ret | apply at_exit | apply at_skip | refine at_regD Θ_ok mixed (by kernel_rfl) ?_)) <;> conv => whnf) | ((with_reducible refine cnd_i (fun hq => ?_) fun hq => ?_) <;> ((try simp only [decide_eq_true_eq, decide_eq_false_iff_not, Bool.not_eq_true', Bool.not_eq_false', beq_iff_eq, bne_iff_ne, beq_eq_false_iff_ne, bne_eq_false_iff_eq, ne_eq] at hq) <;> (first | omega | conv => whnf))))))
  refine at_loop hK [] [1, 2, 3, 4] (fun i : Nat => ⟨[(1, .ptr 4 0), (2, .ptr 5 0), (3, .ptr 6 0), (4, .int .i64 (i : Int))], [(4, .var 27 (wrlA w).cells), (5, .var 27 wZv), (6, .var 27 [.ref 7, .ref 8, .int .i64 w.bad, .ref 9, .ref 10]), (7, .row 3 (.int .i64) w.com), (8, .row 3 (.int .i64) w.lead), (9, .row 45 (.lst .vtx) (w.views.take i)), (10, .row 44 .ppl [])], 11⟩) (fun i => i ≤ w.views.length) (fun i => w.views.length - i) 0 (by omega) rfl ?_
  intro i hi
  by_cases hlt : i < w.views.length
  · have hxe : w.views[i]? = some w.views[i] := List.getElem?_eq_getElem hlt
    have hsn : w.views.take (i + 1) = w.views.take i ++ [w.views[i]] := List.take_succ_eq_append_getElem hlt
    have hgm := List.getElem_mem hlt
    have hC := scopy_c w.views[i] (by have := h.vl _ hgm; omega) fun v hv => by have := h.par (h.vv _ hgm v hv); omega
    have hl1 : (w.views.take i).length = i := by rw [List.length_take]; omega
    generalize w.views[i] = g at *
    generalize w.views.take i = l at *
    (repeat (any_goals (first | (with_reducible first | apply at_seq | apply at_block) | ((first | with_reducible apply at_regS Θ_ok | refine go ?_ | refine go2 fun xe hxe => ?_ | (with_reducible first | refine cnd_d (fun hq => ?_) fun hq => ?_ | apply at_cond | apply at_ret | apply at_exit | apply at_skip | refine at_regD Θ_ok mixed (by kernel_rfl) ?_)) <;> conv => whnf) | ((with_reducible refine cnd_i (fun hq => ?_) fun hq => ?_) <;> ((try simp only [decide_eq_true_eq, decide_eq_false_iff_not, Bool.not_eq_true', Bool.not_eq_false', beq_iff_eq, bne_iff_ne, beq_eq_false_iff_ne, bne_eq_false_iff_eq, ne_eq] at hq) <;> (first | omega | conv => whnf))) | ((with_reducible refine call_r ?_); (conv => whnf); (first | with_reducible refine call_i (hC) ?_); conv => whnf))))
    exact ⟨i + 1, by omega, by omega, by rw [hsn]; rfl⟩
  rw [List.take_of_length_le (by omega)]
  (repeat (any_goals (first | (with_reducible first | apply at_seq | apply at_block) | ((first | with_reducible apply at_regS Θ_ok | refine go ?_ | refine go2 fun xe hxe => ?_ | (with_reducible first | refine cnd_d (fun hq => ?_) fun hq => ?_ | apply at_cond | apply at_ret | apply at_exit | apply at_skip | refine at_regD Θ_ok mixed (by kernel_rfl) ?_)) <;> conv => whnf) | ((with_reducible refine cnd_i (fun hq => ?_) fun hq => ?_) <;> ((try simp only [decide_eq_true_eq, decide_eq_false_iff_not, Bool.not_eq_true', Bool.not_eq_false', beq_iff_eq, bne_iff_ne, beq_eq_false_iff_ne, bne_eq_false_iff_eq, ne_eq] at hq) <;> (first | omega | conv => whnf))))))
  refine at_loop hK [] [1, 2, 3, 5] (fun i : Nat => ⟨[(1, .ptr 4 0), (2, .ptr 5 0), (3, .ptr 6 0), (5, .int .i64 (i : Int))], [(4, .var 27 (wrlA w).cells), (5, .var 27 wZv), (6, .var 27 [.ref 7, .ref 8, .int .i64 w.bad, .ref 9, .ref 10]), (7, .row 3 (.int .i64) w.com), (8, .row 3 (.int .i64) w.lead), (9, .row 45 (.lst .vtx) w.views), (10, .row 44 .ppl (w.props.take i))], 11⟩) (fun i => i ≤ w.props.length) (fun i => w.props.length - i) 0 (by omega) rfl ?_
  intro k hk
  by_cases hkl : k < w.props.length
  · have hxe : w.props[k]? = some w.props[k] := List.getElem?_eq_getElem hkl
    have hsn : w.props.take (k + 1) = w.props.take k ++ [w.props[k]] := List.take_succ_eq_append_getElem hkl
    have hpm := List.getElem_mem hkl
    have hC := sone_c w.props[k].v (by have := h.par (h.pv _ hpm).1; omega)
    have hm := h.mem _ hpm
    have hl1 : (w.props.take k).length = k := by rw [List.length_take]; omega
    generalize w.props[k] = p at *
    generalize w.props.take k = l at *
    (repeat (any_goals (first | (with_reducible first | apply at_seq | apply at_block) | ((first | with_reducible apply at_regS Θ_ok | refine go ?_ | refine go2 fun xe hxe => ?_ | (with_reducible first | refine cnd_d (fun hq => ?_) fun hq => ?_ | apply at_cond | apply at_ret | apply at_exit | apply at_skip | refine at_regD Θ_ok mixed (by kernel_rfl) ?_)) <;> conv => whnf) | ((with_reducible refine cnd_i (fun hq => ?_) fun hq => ?_) <;> ((try simp only [decide_eq_true_eq, decide_eq_false_iff_not, Bool.not_eq_true', Bool.not_eq_false', beq_iff_eq, bne_iff_ne, beq_eq_false_iff_ne, bne_eq_false_iff_eq, ne_eq] at hq) <;> (first | omega | conv => whnf))) | ((with_reducible refine call_r ?_); (conv => whnf); (first | with_reducible refine call_i (hC) ?_); conv => whnf))))
    exact ⟨k + 1, by omega, by omega, by rw [hsn]; rfl⟩
  · (repeat (any_goals (first | (with_reducible first | apply at_seq | apply at_block) | ((first | with_reducible apply at_regS Θ_ok | refine go ?_ | refine go2 fun xe hxe => ?_ | (with_reducible first | refine cnd_d (fun hq => ?_) fun hq => ?_ | apply at_cond | apply at_ret | apply at_exit | apply at_skip | refine at_regD Θ_ok mixed (by kernel_rfl) ?_)) <;> conv => whnf) | ((with_reducible refine cnd_i (fun hq => ?_) fun hq => ?_) <;> ((try simp only [decide_eq_true_eq, decide_eq_false_iff_not, Bool.not_eq_true', Bool.not_eq_false', beq_iff_eq, bne_iff_ne, beq_eq_false_iff_ne, bne_eq_false_iff_eq, ne_eq] at hq) <;> (first | omega | conv => whnf))))))
    rw [List.take_of_length_le (by omega)]
    exact ⟨rfl, rfl⟩
theorem evtZ_do (w : Wrl) (z : Bool) (e : Evt) (h : WOK w) (hvl : e.v.parents.length ≤ 30) (hz : z = true → e.v.parents = []) : ConV Tryz.prog 48 [wrlA w, .agg [.int .i64 e.kind, .int .i64 e.a, .int .i64 e.b, .int .i64 e.v.round, .int .i64 e.v.author, .lst (.int .i64) e.v.parents, .int .i64 e.v.digest]] [] (wrlA (sDo w e)) [] :=
  sdo_c w e h (by omega)
set_option maxHeartbeats 1000000 in
theorem dwld_c (b : List Int) (p : Int) (h : rdOK b 0) (hp : 0 ≤ p ∧ p ≤ 500000) : ∃ x : Wrl × Int, (p ≤ x.2 ∧ x.2 ≤ p + 6000 ∧ WOK x.1) ∧ ConV Tryz.prog 34 [.ptr 4 0] [(4, rdB b p)] (wrlA x.1) [(4, rdB b x.2)] := by
  obtain ⟨⟨w0, q⟩, ⟨h1, h2, h3⟩, hB⟩ := dbeg_c b p h (by omega)
  dsimp only at h1 h2 h3 hB
  obtain ⟨m, hm, hmc⟩ := pk_c b q 3 h (by omega) (by omega)
  obtain ⟨r, hr, hrc⟩ := pk_c b (q + 1) 5 h (by omega) (by omega)
  obtain ⟨r, rfl⟩ : ∃ k : Nat, (k : Int) = r := ⟨r.toNat, by omega⟩
  have hC := scalm_c w0 r h3 (by omega)
  have hco := calmTo_ok h3 r
  suffices hs : ∃ r hout, (∃ x : Wrl × Int, (p ≤ x.2 ∧ x.2 ≤ p + 6000 ∧ WOK x.1) ∧ r = wrlA x.1 ∧ hout = [(4, rdB b x.2)]) ∧ ConV Tryz.prog 34 [.ptr 4 0] [(4, rdB b p)] r hout by
    obtain ⟨r, hout, ⟨v, hv, rfl, rfl⟩, h⟩ := hs
    exact ⟨v, hv, h⟩
  refine con_ex Θ_ok Tryz.func34 rfl rfl true 1 5 rfl rfl rfl rfl (R := fun r hout => ∃ x : Wrl × Int, (p ≤ x.2 ∧ x.2 ≤ p + 6000 ∧ WOK x.1) ∧ r = wrlA x.1 ∧ hout = [(4, rdB b x.2)]) (r0 := wrlA w0) (hout0 := [(4, rdB b p)]) (⟨(w0, p), ⟨by dsimp only; omega, by dsimp only; omega, h3⟩, rfl, rfl⟩) fun K hK hb1 hb2 => ?_; simp only [argsV, enc, Nat.reduceAdd]
  clear hb1 hb2
  generalize calmTo w0 r = w1 at *
  have body : ∀ (K : Id → Prop) (c : Code) (i : Nat) (w : Wrl) (q2 : Int), True := fun _ _ _ _ _ => trivial
  by_cases hm0 : 0 < m
  · (repeat (any_goals (first | (with_reducible first | apply at_seq | apply at_block) | ((first | with_reducible apply at_regS Θ_ok | refine go ?_ | refine go2 fun xe hxe => ?_ | (with_reducible first | refine cnd_d (fun hq => ?_) fun hq => ?_ | apply at_cond | apply at_ret | apply at_exit | apply at_skip | refine at_regD Θ_ok mixed (by kernel_rfl) ?_)) <;> conv => whnf) | ((with_reducible refine cnd_i (fun hq => ?_) fun hq => ?_) <;> ((try simp only [decide_eq_true_eq, decide_eq_false_iff_not, Bool.not_eq_true', Bool.not_eq_false', beq_iff_eq, bne_iff_ne, beq_eq_false_iff_ne, bne_eq_false_iff_eq, ne_eq] at hq) <;> (first | omega | conv => whnf))) | ((with_reducible refine call_r ?_); (conv => whnf); (first | with_reducible refine call_i (hmc) ?_ | with_reducible refine call_i (hrc) ?_ | with_reducible refine call_i (hC) ?_); conv => whnf) | ((with_reducible refine call_o ?_); (conv => whnf); (first | with_reducible refine call_i (hB) ?_); conv => whnf))))
    refine at_loop hK [] [0, 2, 3, 4] (fun x : Nat × Wrl × Int => ⟨[(0, .ptr 4 0), (2, .ptr 5 0), (3, .ptr 6 0), (4, .int .i64 x.1)], [(4, rdB b x.2.2), (5, .var 27 wZv), (6, .var 27 (wrlA x.2.1).cells)], 7⟩)
      (fun x => x.1 ≤ 69 ∧ WOK x.2.1 ∧ p ≤ x.2.2 ∧ x.2.2 ≤ p + 100 + 61 * x.1) (fun x => 70 - x.1) (0, w1, q + 1 + 1) ⟨by dsimp only; omega, hco, by dsimp only; omega, by dsimp only; omega⟩ rfl ?_
    rintro ⟨i, w, q2⟩ ⟨hi1, hi2, hi3, hi4⟩
    dsimp only at hi1 hi2 hi3 hi4 ⊢
    obtain ⟨n, hn, hnc⟩ := pk_c b q2 70 h (by omega) (by omega)
    obtain ⟨⟨⟨z, e⟩, q3⟩, ⟨e1, e2, e3, e4⟩, hE⟩ := devt_c b (q2 + 1) w h (by omega) hi2
    dsimp only at e1 e2 e3 e4 hE
    have hD := evtZ_do w z e hi2 e3 e4
    have hdo := sDo_ok hi2 e
    by_cases hlt : (i : Int) < n
    · cases z with
      | false =>
        have hE : ConV Tryz.prog 47 [.ptr 4 0, wrlA w] [(4, rdB b (q2 + 1))] (evtA e) [(4, rdB b q3)] := hE
        generalize sDo w e = w2 at *
        (repeat (any_goals (first | (with_reducible first | apply at_seq | apply at_block) | ((first | with_reducible apply at_regS Θ_ok | refine go ?_ | refine go2 fun xe hxe => ?_ | (with_reducible first | refine cnd_d (fun hq => ?_) fun hq => ?_ | apply at_cond | apply at_ret | apply at_exit | apply at_skip | refine at_regD Θ_ok mixed (by kernel_rfl) ?_)) <;> conv => whnf) | ((with_reducible refine cnd_i (fun hq => ?_) fun hq => ?_) <;> ((try simp only [decide_eq_true_eq, decide_eq_false_iff_not, Bool.not_eq_true', Bool.not_eq_false', beq_iff_eq, bne_iff_ne, beq_eq_false_iff_ne, bne_eq_false_iff_eq, ne_eq] at hq) <;> (first | omega | conv => whnf))) | ((with_reducible refine call_r ?_); (conv => whnf); (first | with_reducible refine call_i (hnc) ?_ | with_reducible refine call_i (hD) ?_); conv => whnf) | ((with_reducible refine call_o ?_); (conv => whnf); (first | with_reducible refine call_i (hE) ?_); conv => whnf))))
        exact ⟨(i + 1, w2, q3), ⟨by dsimp only; omega, hdo, by dsimp only; omega, by dsimp only; omega⟩, by dsimp only; omega, rfl⟩
      | true =>
        have hE : ConV Tryz.prog 47 [.ptr 4 0, wrlA w] [(4, rdB b (q2 + 1))] (.agg [.int .i64 e.kind, .int .i64 e.a, .int .i64 e.b, .int .i64 e.v.round, .int .i64 e.v.author, .nils, .int .i64 e.v.digest]) [(4, rdB b q3)] := hE
        rw [e4 rfl] at hD
        generalize sDo w e = w2 at *
        (repeat (any_goals (first | (with_reducible first | apply at_seq | apply at_block) | ((first | with_reducible apply at_regS Θ_ok | refine go ?_ | refine go2 fun xe hxe => ?_ | (with_reducible first | refine cnd_d (fun hq => ?_) fun hq => ?_ | apply at_cond | apply at_ret | apply at_exit | apply at_skip | refine at_regD Θ_ok mixed (by kernel_rfl) ?_)) <;> conv => whnf) | ((with_reducible refine cnd_i (fun hq => ?_) fun hq => ?_) <;> ((try simp only [decide_eq_true_eq, decide_eq_false_iff_not, Bool.not_eq_true', Bool.not_eq_false', beq_iff_eq, bne_iff_ne, beq_eq_false_iff_ne, bne_eq_false_iff_eq, ne_eq] at hq) <;> (first | omega | conv => whnf))) | ((with_reducible refine call_r ?_); (conv => whnf); (first | with_reducible refine call_i (hnc) ?_ | with_reducible refine call_i (hD) ?_); conv => whnf) | ((with_reducible refine call_o ?_); (conv => whnf); (first | with_reducible refine call_i (hE) ?_); conv => whnf))))
        exact ⟨(i + 1, w2, q3), ⟨by dsimp only; omega, hdo, by dsimp only; omega, by dsimp only; omega⟩, by dsimp only; omega, rfl⟩
    · (repeat (any_goals (first | (with_reducible first | apply at_seq | apply at_block) | ((first | with_reducible apply at_regS Θ_ok | refine go ?_ | refine go2 fun xe hxe => ?_ | (with_reducible first | refine cnd_d (fun hq => ?_) fun hq => ?_ | apply at_cond | apply at_ret | apply at_exit | apply at_skip | refine at_regD Θ_ok mixed (by kernel_rfl) ?_)) <;> conv => whnf) | ((with_reducible refine cnd_i (fun hq => ?_) fun hq => ?_) <;> ((try simp only [decide_eq_true_eq, decide_eq_false_iff_not, Bool.not_eq_true', Bool.not_eq_false', beq_iff_eq, bne_iff_ne, beq_eq_false_iff_ne, bne_eq_false_iff_eq, ne_eq] at hq) <;> (first | omega | conv => whnf))) | ((with_reducible refine call_r ?_); (conv => whnf); (first | with_reducible refine call_i (hnc) ?_); conv => whnf))))
      exact ⟨(w, q2 + 1), ⟨by dsimp only; omega, by dsimp only; omega, hi2⟩, rfl, rfl⟩
  · (repeat (any_goals (first | (with_reducible first | apply at_seq | apply at_block) | ((first | with_reducible apply at_regS Θ_ok | refine go ?_ | refine go2 fun xe hxe => ?_ | (with_reducible first | refine cnd_d (fun hq => ?_) fun hq => ?_ | apply at_cond | apply at_ret | apply at_exit | apply at_skip | refine at_regD Θ_ok mixed (by kernel_rfl) ?_)) <;> conv => whnf) | ((with_reducible refine cnd_i (fun hq => ?_) fun hq => ?_) <;> ((try simp only [decide_eq_true_eq, decide_eq_false_iff_not, Bool.not_eq_true', Bool.not_eq_false', beq_iff_eq, bne_iff_ne, beq_eq_false_iff_ne, bne_eq_false_iff_eq, ne_eq] at hq) <;> (first | omega | conv => whnf))) | ((with_reducible refine call_r ?_); (conv => whnf); (first | with_reducible refine call_i (hmc) ?_); conv => whnf) | ((with_reducible refine call_o ?_); (conv => whnf); (first | with_reducible refine call_i (hB) ?_); conv => whnf))))
    refine at_loop hK [] [0, 2, 3, 4] (fun x : Nat × Wrl × Int => ⟨[(0, .ptr 4 0), (2, .ptr 5 0), (3, .ptr 6 0), (4, .int .i64 x.1)], [(4, rdB b x.2.2), (5, .var 27 wZv), (6, .var 27 (wrlA x.2.1).cells)], 7⟩)
      (fun x => x.1 ≤ 69 ∧ WOK x.2.1 ∧ p ≤ x.2.2 ∧ x.2.2 ≤ p + 100 + 61 * x.1) (fun x => 70 - x.1) (0, w0, q + 1) ⟨by dsimp only; omega, h3, by dsimp only; omega, by dsimp only; omega⟩ rfl ?_
    rintro ⟨i, w, q2⟩ ⟨hi1, hi2, hi3, hi4⟩
    dsimp only at hi1 hi2 hi3 hi4 ⊢
    obtain ⟨n, hn, hnc⟩ := pk_c b q2 70 h (by omega) (by omega)
    obtain ⟨⟨⟨z, e⟩, q3⟩, ⟨e1, e2, e3, e4⟩, hE⟩ := devt_c b (q2 + 1) w h (by omega) hi2
    dsimp only at e1 e2 e3 e4 hE
    have hD := evtZ_do w z e hi2 e3 e4
    have hdo := sDo_ok hi2 e
    by_cases hlt : (i : Int) < n
    · cases z with
      | false =>
        have hE : ConV Tryz.prog 47 [.ptr 4 0, wrlA w] [(4, rdB b (q2 + 1))] (evtA e) [(4, rdB b q3)] := hE
        generalize sDo w e = w2 at *
        (repeat (any_goals (first | (with_reducible first | apply at_seq | apply at_block) | ((first | with_reducible apply at_regS Θ_ok | refine go ?_ | refine go2 fun xe hxe => ?_ | (with_reducible first | refine cnd_d (fun hq => ?_) fun hq => ?_ | apply at_cond | apply at_ret | apply at_exit | apply at_skip | refine at_regD Θ_ok mixed (by kernel_rfl) ?_)) <;> conv => whnf) | ((with_reducible refine cnd_i (fun hq => ?_) fun hq => ?_) <;> ((try simp only [decide_eq_true_eq, decide_eq_false_iff_not, Bool.not_eq_true', Bool.not_eq_false', beq_iff_eq, bne_iff_ne, beq_eq_false_iff_ne, bne_eq_false_iff_eq, ne_eq] at hq) <;> (first | omega | conv => whnf))) | ((with_reducible refine call_r ?_); (conv => whnf); (first | with_reducible refine call_i (hnc) ?_ | with_reducible refine call_i (hD) ?_); conv => whnf) | ((with_reducible refine call_o ?_); (conv => whnf); (first | with_reducible refine call_i (hE) ?_); conv => whnf))))
        exact ⟨(i + 1, w2, q3), ⟨by dsimp only; omega, hdo, by dsimp only; omega, by dsimp only; omega⟩, by dsimp only; omega, rfl⟩
      | true =>
        have hE : ConV Tryz.prog 47 [.ptr 4 0, wrlA w] [(4, rdB b (q2 + 1))] (.agg [.int .i64 e.kind, .int .i64 e.a, .int .i64 e.b, .int .i64 e.v.round, .int .i64 e.v.author, .nils, .int .i64 e.v.digest]) [(4, rdB b q3)] := hE
        rw [e4 rfl] at hD
        generalize sDo w e = w2 at *
        (repeat (any_goals (first | (with_reducible first | apply at_seq | apply at_block) | ((first | with_reducible apply at_regS Θ_ok | refine go ?_ | refine go2 fun xe hxe => ?_ | (with_reducible first | refine cnd_d (fun hq => ?_) fun hq => ?_ | apply at_cond | apply at_ret | apply at_exit | apply at_skip | refine at_regD Θ_ok mixed (by kernel_rfl) ?_)) <;> conv => whnf) | ((with_reducible refine cnd_i (fun hq => ?_) fun hq => ?_) <;> ((try simp only [decide_eq_true_eq, decide_eq_false_iff_not, Bool.not_eq_true', Bool.not_eq_false', beq_iff_eq, bne_iff_ne, beq_eq_false_iff_ne, bne_eq_false_iff_eq, ne_eq] at hq) <;> (first | omega | conv => whnf))) | ((with_reducible refine call_r ?_); (conv => whnf); (first | with_reducible refine call_i (hnc) ?_ | with_reducible refine call_i (hD) ?_); conv => whnf) | ((with_reducible refine call_o ?_); (conv => whnf); (first | with_reducible refine call_i (hE) ?_); conv => whnf))))
        exact ⟨(i + 1, w2, q3), ⟨by dsimp only; omega, hdo, by dsimp only; omega, by dsimp only; omega⟩, by dsimp only; omega, rfl⟩
    · (repeat (any_goals (first | (with_reducible first | apply at_seq | apply at_block) | ((first | with_reducible apply at_regS Θ_ok | refine go ?_ | refine go2 fun xe hxe => ?_ | (with_reducible first | refine cnd_d (fun hq => ?_) fun hq => ?_ | apply at_cond | apply at_ret | apply at_exit | apply at_skip | refine at_regD Θ_ok mixed (by kernel_rfl) ?_)) <;> conv => whnf) | ((with_reducible refine cnd_i (fun hq => ?_) fun hq => ?_) <;> ((try simp only [decide_eq_true_eq, decide_eq_false_iff_not, Bool.not_eq_true', Bool.not_eq_false', beq_iff_eq, bne_iff_ne, beq_eq_false_iff_ne, bne_eq_false_iff_eq, ne_eq] at hq) <;> (first | omega | conv => whnf))) | ((with_reducible refine call_r ?_); (conv => whnf); (first | with_reducible refine call_i (hnc) ?_); conv => whnf))))
      exact ⟨(w, q2 + 1), ⟨by dsimp only; omega, by dsimp only; omega, hi2⟩, rfl, rfl⟩
/-- small enough to be looked at -/
def WSm (w : Wrl) : Prop := w.com.length ≤ 1000 ∧ ∀ g ∈ w.views, g.length ≤ 1000
theorem WOK.sm {w : Wrl} (h : WOK w) : WSm w := ⟨by have := h.len; omega, fun g hg => by have := h.vl g hg; omega⟩
theorem cut_mem {α : Type} {xs : List α} {lo hi : Option V} {a b : Nat} {x : α} (h : x ∈ cutL xs lo hi a b) : x ∈ xs := by
  unfold cutL at h
  split at h
  · exact h
  · exact List.mem_of_mem_take h
  · exact List.mem_of_mem_drop h
  · exact List.mem_of_mem_take (List.mem_of_mem_drop h)
theorem cut_len {α : Type} (xs : List α) (lo hi : Option V) (a b : Nat) : (cutL xs lo hi a b).length ≤ xs.length := by
  unfold cutL
  split
  · omega
  · rw [List.length_take]; omega
  · rw [List.length_drop]; omega
  · rw [List.length_drop, List.length_take]; omega
theorem wsm_cut {vs : List (List Vtx)} {lo hi : Option V} {a b : Nat} (h : ∀ g ∈ vs, g.length ≤ 1000) : ∀ g ∈ cutL vs lo hi a b, g.length ≤ 1000 := fun g hg => h g (cut_mem hg)
theorem wsm_set {vs : List (List Vtx)} {k k2 : Nat} {g0 : List Vtx} {lo hi : Option V} {a b : Nat} (h : ∀ g ∈ vs, g.length ≤ 1000) (hx : vs[k2]? = some g0) : ∀ g ∈ vs.set k (cutL g0 lo hi a b), g.length ≤ 1000 := fun g hg => by
  rcases mem_set hg with rfl | hg
  · have h1 := cut_len g0 lo hi a b
    have h2 := h g0 (List.mem_of_getElem? hx)
    omega
  · exact h g hg
theorem wrg_i {b : List Int} {p q : Int} {c l : List Int} {bd : Int} {vs : List (List Vtx)} {ps : List Ppl} (h1 : p ≤ q ∧ q ≤ p + 6100) (h2 : c.length ≤ 1000) (h3 : ∀ g ∈ vs, g.length ≤ 1000) : ∃ x : Wrl × Int, (p ≤ x.2 ∧ x.2 ≤ p + 6100 ∧ WSm x.1) ∧ V.agg [.lst (.int .i64) c, .lst (.int .i64) l, .int .i64 bd, .lst (.lst .vtx) vs, .lst .ppl ps] = wrlA x.1 ∧ ([(4, rdB b q)] : VH) = [(4, rdB b x.2)] := ⟨(⟨c, l, bd, vs, ps⟩, q), ⟨h1.1, h1.2, h2, h3⟩, rfl, rfl⟩
set_option maxHeartbeats 1000000 in
theorem dwrg_c (b : List Int) (p : Int) (h : rdOK b 0) (hp : 0 ≤ p ∧ p ≤ 400000) : ∃ x : Wrl × Int, (p ≤ x.2 ∧ x.2 ≤ p + 6100 ∧ WSm x.1) ∧ ConV Tryz.prog 33 [.ptr 4 0] [(4, rdB b p)] (wrlA x.1) [(4, rdB b x.2)] := by
  obtain ⟨⟨w, q⟩, ⟨h1, h2, h3⟩, hB⟩ := dwld_c b p h (by omega)
  dsimp only at h1 h2 h3 hB
  have hC := scpo_c w h3
  have h7 := h3.len
  have hvl := h3.vlen
  have hpl := h3.plen
  have hll := (leaS_iff.1 h3.lead).2
  have hsm := h3.sm
  suffices hs : ∃ r hout, (∃ x : Wrl × Int, (p ≤ x.2 ∧ x.2 ≤ p + 6100 ∧ WSm x.1) ∧ r = wrlA x.1 ∧ hout = [(4, rdB b x.2)]) ∧ ConV Tryz.prog 33 [.ptr 4 0] [(4, rdB b p)] r hout by
    obtain ⟨r, hout, ⟨v, hv, rfl, rfl⟩, h⟩ := hs
    exact ⟨v, hv, h⟩
  refine con_ex Θ_ok Tryz.func33 rfl rfl true 1 5 rfl rfl rfl rfl (R := fun r hout => ∃ x : Wrl × Int, (p ≤ x.2 ∧ x.2 ≤ p + 6100 ∧ WSm x.1) ∧ r = wrlA x.1 ∧ hout = [(4, rdB b x.2)]) (r0 := wrlA w) (hout0 := [(4, rdB b p)]) (⟨(w, p), ⟨by dsimp only; omega, by dsimp only; omega, hsm⟩, rfl, rfl⟩) fun K hK hb1 hb2 => ?_; simp only [argsV, enc, Nat.reduceAdd]
  clear hb1 hb2
  (repeat (any_goals (first | (with_reducible first | apply at_seq | apply at_block) | ((first | with_reducible apply at_regS Θ_ok | refine go ?_ | refine go2 fun xe hxe => ?_ | (with_reducible first | refine cnd_d (fun hq => ?_) fun hq => ?_ | apply at_cond | apply at_ret | apply at_exit | apply at_skip | refine at_regD Θ_ok mixed (by kernel_rfl) ?_)) <;> conv => whnf) | ((with_reducible refine cnd_i (fun hq => ?_) fun hq => ?_) <;> ((try simp only [decide_eq_true_eq, decide_eq_false_iff_not, Bool.not_eq_true', Bool.not_eq_false', beq_iff_eq, bne_iff_ne, beq_eq_false_iff_ne, bne_eq_false_iff_eq, ne_eq] at hq) <;> (first | omega | conv => whnf))) | ((with_reducible refine call_r ?_); (conv => whnf); (first | with_reducible refine call_i (hC) ?_ | refine call_ex (pk_c b _ _ h (by omega) (by omega)) fun xv hxv => ?_ | refine call_ex (ddig_c b _ h (by omega)) fun xv hxv => ?_ | refine call_ex (dmem_c b _ _ h (by omega) (by omega)) fun xv hxv => ?_); conv => whnf) | ((with_reducible refine call_o ?_); (conv => whnf); (first | with_reducible refine call_i (hB) ?_); conv => whnf))))
  all_goals refine wrg_i ?_ ?_ ?_
  all_goals first | omega | (rw [List.length_set]; omega) | omega | exact hsm.2 | exact wsm_cut hsm.2 | exact wsm_set hsm.2 hxe | (exact wsm_set hsm.2 (by assumption))
theorem dcer_c (c : List Int) (hc : ∀ x ∈ c, 0 ≤ x ∧ x ≤ 255) : ∃ w : Wrl, WSm w ∧ ConV Tryz.prog 11 [.lst (.int .u8) c] [] (wrlA w) [] := by
  have h := rd0w hc
  obtain ⟨n, hn, hnc⟩ := pk_c _ 0 10 h (by omega) (by omega)
  by_cases h0 : n = 0
  · obtain ⟨⟨w, q⟩, ⟨h1, h2, h3⟩, hw⟩ := dwrg_c _ (0 + 1) h (by omega)
    dsimp only at h1 h2 h3 hw
    refine ⟨w, h3, ?_⟩
    refine con_eq Θ_ok Tryz.func11 rfl rfl true 0 4 rfl rfl rfl rfl fun K hK hb1 hb2 => ?_; simp only [argsV, enc, Nat.reduceAdd]
    clear hb1 hb2
    (repeat (any_goals (first | (with_reducible first | apply at_seq | apply at_block) | ((first | with_reducible apply at_regS Θ_ok | refine go ?_ | refine go2 fun xe hxe => ?_ | (with_reducible first | refine cnd_d (fun hq => ?_) fun hq => ?_ | apply at_cond | apply at_ret | apply at_exit | apply at_skip | refine at_regD Θ_ok mixed (by kernel_rfl) ?_)) <;> conv => whnf) | ((with_reducible refine cnd_i (fun hq => ?_) fun hq => ?_) <;> ((try simp only [decide_eq_true_eq, decide_eq_false_iff_not, Bool.not_eq_true', Bool.not_eq_false', beq_iff_eq, bne_iff_ne, beq_eq_false_iff_ne, bne_eq_false_iff_eq, ne_eq] at hq) <;> (first | omega | conv => whnf))) | ((with_reducible refine call_r ?_); (conv => whnf); (first | with_reducible refine call_i (open_c _) ?_ | with_reducible refine call_i (hnc) ?_ | with_reducible refine call_i (hw) ?_); conv => whnf))))
    exact ⟨rfl, rfl⟩
  · obtain ⟨⟨w, q⟩, ⟨h1, h2, h3⟩, hw⟩ := dwld_c _ (0 + 1) h (by omega)
    dsimp only at h1 h2 h3 hw
    refine ⟨w, h3.sm, ?_⟩
    refine con_eq Θ_ok Tryz.func11 rfl rfl true 0 4 rfl rfl rfl rfl fun K hK hb1 hb2 => ?_; simp only [argsV, enc, Nat.reduceAdd]
    clear hb1 hb2
    (repeat (any_goals (first | (with_reducible first | apply at_seq | apply at_block) | ((first | with_reducible apply at_regS Θ_ok | refine go ?_ | refine go2 fun xe hxe => ?_ | (with_reducible first | refine cnd_d (fun hq => ?_) fun hq => ?_ | apply at_cond | apply at_ret | apply at_exit | apply at_skip | refine at_regD Θ_ok mixed (by kernel_rfl) ?_)) <;> conv => whnf) | ((with_reducible refine cnd_i (fun hq => ?_) fun hq => ?_) <;> ((try simp only [decide_eq_true_eq, decide_eq_false_iff_not, Bool.not_eq_true', Bool.not_eq_false', beq_iff_eq, bne_iff_ne, beq_eq_false_iff_ne, bne_eq_false_iff_eq, ne_eq] at hq) <;> (first | omega | conv => whnf))) | ((with_reducible refine call_r ?_); (conv => whnf); (first | with_reducible refine call_i (open_c _) ?_ | with_reducible refine call_i (hnc) ?_ | with_reducible refine call_i (hw) ?_); conv => whnf))))
    exact ⟨rfl, rfl⟩
end Go.Proofs.YtfamejohdhkffaaGreat.Am
