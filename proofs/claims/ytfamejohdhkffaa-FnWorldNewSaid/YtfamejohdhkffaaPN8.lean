/- Runs: new runs, and the specification's checks. What is drawn: the reader of bytes. What is drawn for graphs. New runs: what the program gives; equal runs; the law FnWorldNew. What is drawn for new runs; the law FnWorldNew. -/
import Derived.Test.YtfamejohdhkffaaPN7
namespace Go.Proofs.Ytfamejohdhkffaa.Am
set_option linter.unusedSimpArgs false
set_option linter.unusedVariables false
open Go
attribute [local irreducible] Mk Need Ari Get Idx Cnd CallM CallA Opt Unch At ConV
set_option maxRecDepth 10000
/-- nothing -/
abbrev wrlZ : V := .agg [.nils, .nils, .int .i64 0, .nils, .nils]
theorem snew_c (c l : List Int) (b : Int) (hl : c.length ≤ 2000000) : ConV Try.prog 9 [.lst (.int .i64) c, .lst (.int .i64) l, .int .i64 b] [] (if newS c l b then .tup [wrlA (newW c l b), .bool true] else .tup [wrlZ, .bool false]) [] := by
  have hL := leaV_c c l
  refine con_eq Θ_ok Try.func9 rfl rfl true 0 4 rfl rfl rfl rfl fun K hK hb1 hb2 => ?_; simp only [argsV, enc, Nat.reduceAdd]
  simp [toDL, V.toD, bnd, encD, D.cells] at hb1
  cases h1 : comV c && leaS c l
  · rw [h1] at hL
    have hn : newS c l b = false := by
      rw [Bool.and_eq_false_iff] at h1
      rcases h1 with h1 | h1 <;> simp [newS, h1]
    rw [hn]
    (repeat (any_goals (first | (with_reducible apply at_seq) | ((with_reducible apply at_regS Θ_ok); (conv => whnf)) | ((refine go ?_); (conv => whnf)) | ((refine go2 (fun xe hxe => ?_)); (conv => whnf)) | ((with_reducible refine cnd_d (fun hq => ?_) (fun hq => ?_)) <;> (conv => whnf)) | ((with_reducible refine cnd_i (fun hq => ?_) (fun hq => ?_)) <;> ((try simp only [decide_eq_true_eq, decide_eq_false_iff_not, Bool.not_eq_true', Bool.not_eq_false', beq_iff_eq, bne_iff_ne, beq_eq_false_iff_ne, bne_eq_false_iff_eq, ne_eq] at hq) <;> (first | omega | (conv => whnf)))) | ((with_reducible first | apply at_cond | apply at_ret | apply at_exit | apply at_skip); (conv => whnf)) | (with_reducible apply at_block) | ((with_reducible refine at_regD Θ_ok mixed (by kernel_rfl) ?_); (conv => whnf)) | ((with_reducible refine call_r ?_); (conv => whnf); (first | ((with_reducible refine call_i (hL) ?_); (conv => whnf)))))))
    exact ⟨rfl, rfl⟩
  rw [h1] at hL
  have hc : comV c = true := (Bool.and_eq_true_iff.1 h1).1
  have hle : leaS c l = true := (Bool.and_eq_true_iff.1 h1).2
  have hns : newS c l b = badS c b := by simp [newS, hc, hle]
  rw [hns]
  have h7 := (comV_iff.1 hc).2
  have hll := (leaS_iff.1 hle).2
  have hI := in_c b (-1) ((c.length : Int) - 1)
  cases h2 : vIn b (-1) ((c.length : Int) - 1)
  · rw [h2] at hI
    have hb : badS c b = false := by simp [badS, h2]
    rw [hb]
    (repeat (any_goals (first | (with_reducible apply at_seq) | ((with_reducible apply at_regS Θ_ok); (conv => whnf)) | ((refine go ?_); (conv => whnf)) | ((refine go2 (fun xe hxe => ?_)); (conv => whnf)) | ((with_reducible refine cnd_d (fun hq => ?_) (fun hq => ?_)) <;> (conv => whnf)) | ((with_reducible refine cnd_i (fun hq => ?_) (fun hq => ?_)) <;> ((try simp only [decide_eq_true_eq, decide_eq_false_iff_not, Bool.not_eq_true', Bool.not_eq_false', beq_iff_eq, bne_iff_ne, beq_eq_false_iff_ne, bne_eq_false_iff_eq, ne_eq] at hq) <;> (first | omega | (conv => whnf)))) | ((with_reducible first | apply at_cond | apply at_ret | apply at_exit | apply at_skip); (conv => whnf)) | (with_reducible apply at_block) | ((with_reducible refine at_regD Θ_ok mixed (by kernel_rfl) ?_); (conv => whnf)) | ((with_reducible refine call_r ?_); (conv => whnf); (first | ((with_reducible refine call_i (hL) ?_); (conv => whnf)) | ((with_reducible refine call_i (hI) ?_); (conv => whnf)))))))
    exact ⟨rfl, rfl⟩
  rw [h2] at hI
  have hbr := vIn_iff.1 h2
  have hT := tot_c c hc
  have hfd := fau_bd hc
  have htb := tot_bd hc
  have hfau : (tot c - 1).tdiv 3 = fau c := rfl
  have hst : ∀ i : Nat, (⟨[(0, .lst (.int .i64) c), (6, .ptr 4 0), (8, .ptr 5 0), (9, .int .i64 ((i : Int) + 1))], [(4, .var 29 [.nils, .nils, .int .i64 0, .nils, .nils]), (5, .var 29 [.ref 6, .ref 7, .int .i64 b, .ref 8, .ref 9]), (6, .row 3 (.int .i64) c), (7, .row 3 (.int .i64) l), (8, .row 33 (.lst .vtx) (List.replicate i [] ++ [[]])), (9, .row 65 .ppl [])], 10⟩ : VSt) =
      ⟨[(0, .lst (.int .i64) c), (6, .ptr 4 0), (8, .ptr 5 0), (9, .int .i64 ((i + 1 : Nat) : Int))], [(4, .var 29 [.nils, .nils, .int .i64 0, .nils, .nils]), (5, .var 29 [.ref 6, .ref 7, .int .i64 b, .ref 8, .ref 9]), (6, .row 3 (.int .i64) c), (7, .row 3 (.int .i64) l), (8, .row 33 (.lst .vtx) (List.replicate (i + 1) [])), (9, .row 65 .ppl [])], 10⟩ := fun i => by
    rw [List.replicate_succ']
    rfl
  have hfin : ∀ x : Int, fau c < x → (tot c - 1).tdiv 3 < x := fun x h => h
  have hfin2 : ∀ x : Int, x ≤ fau c → ¬ (tot c - 1).tdiv 3 < x := fun x h => by rw [hfau]; omega
  by_cases h3 : b < 0
  · have hb : badS c b = true := by simp [badS, h2, h3]
    rw [hb]
    (repeat (any_goals (first | (with_reducible apply at_seq) | ((with_reducible apply at_regS Θ_ok); (conv => whnf)) | ((refine go ?_); (conv => whnf)) | ((refine go2 (fun xe hxe => ?_)); (conv => whnf)) | ((with_reducible refine cnd_d (fun hq => ?_) (fun hq => ?_)) <;> (conv => whnf)) | ((with_reducible refine cnd_i (fun hq => ?_) (fun hq => ?_)) <;> ((try simp only [decide_eq_true_eq, decide_eq_false_iff_not, Bool.not_eq_true', Bool.not_eq_false', beq_iff_eq, bne_iff_ne, beq_eq_false_iff_ne, bne_eq_false_iff_eq, ne_eq] at hq) <;> (first | omega | (conv => whnf)))) | ((with_reducible first | apply at_cond | apply at_ret | apply at_exit | apply at_skip); (conv => whnf)) | (with_reducible apply at_block) | ((with_reducible refine at_regD Θ_ok mixed (by kernel_rfl) ?_); (conv => whnf)) | ((with_reducible refine call_r ?_); (conv => whnf); (first | ((with_reducible refine call_i (hL) ?_); (conv => whnf)) | ((with_reducible refine call_i (hI) ?_); (conv => whnf)) | ((with_reducible refine call_i (hT) ?_); (conv => whnf)))))))
    refine at_loop hK [] [0, 6, 8, 9] (fun i : Nat => ⟨[(0, .lst (.int .i64) c), (6, .ptr 4 0), (8, .ptr 5 0), (9, .int .i64 (i : Int))], [(4, .var 29 [.nils, .nils, .int .i64 0, .nils, .nils]), (5, .var 29 [.ref 6, .ref 7, .int .i64 b, .ref 8, .ref 9]), (6, .row 3 (.int .i64) c), (7, .row 3 (.int .i64) l), (8, .row 33 (.lst .vtx) (List.replicate i [])), (9, .row 65 .ppl [])], 10⟩) (fun i => i ≤ c.length) (fun i => c.length - i) 0 (by simp) rfl ?_
    intro i hi
    have hrl : (List.replicate i ([] : List Vtx)).length = i := by simp
    have hst := hst i
    generalize hrs : List.replicate i ([] : List Vtx) = rs at *
    by_cases hlt : i < c.length
    · (repeat (any_goals (first | (with_reducible apply at_seq) | ((with_reducible apply at_regS Θ_ok); (conv => whnf)) | ((refine go ?_); (conv => whnf)) | ((refine go2 (fun xe hxe => ?_)); (conv => whnf)) | ((with_reducible refine cnd_d (fun hq => ?_) (fun hq => ?_)) <;> (conv => whnf)) | ((with_reducible refine cnd_i (fun hq => ?_) (fun hq => ?_)) <;> ((try simp only [decide_eq_true_eq, decide_eq_false_iff_not, Bool.not_eq_true', Bool.not_eq_false', beq_iff_eq, bne_iff_ne, beq_eq_false_iff_ne, bne_eq_false_iff_eq, ne_eq] at hq) <;> (first | omega | (conv => whnf)))) | ((with_reducible first | apply at_cond | apply at_ret | apply at_exit | apply at_skip); (conv => whnf)) | (with_reducible apply at_block) | ((with_reducible refine at_regD Θ_ok mixed (by kernel_rfl) ?_); (conv => whnf)))))
      refine ⟨i + 1, by omega, by omega, ?_⟩
      rw [← hst]
      try rfl
    · obtain rfl : i = c.length := by omega
      (repeat (any_goals (first | (with_reducible apply at_seq) | ((with_reducible apply at_regS Θ_ok); (conv => whnf)) | ((refine go ?_); (conv => whnf)) | ((refine go2 (fun xe hxe => ?_)); (conv => whnf)) | ((with_reducible refine cnd_d (fun hq => ?_) (fun hq => ?_)) <;> (conv => whnf)) | ((with_reducible refine cnd_i (fun hq => ?_) (fun hq => ?_)) <;> ((try simp only [decide_eq_true_eq, decide_eq_false_iff_not, Bool.not_eq_true', Bool.not_eq_false', beq_iff_eq, bne_iff_ne, beq_eq_false_iff_ne, bne_eq_false_iff_eq, ne_eq] at hq) <;> (first | omega | (conv => whnf)))) | ((with_reducible first | apply at_cond | apply at_ret | apply at_exit | apply at_skip); (conv => whnf)) | (with_reducible apply at_block) | ((with_reducible refine at_regD Θ_ok mixed (by kernel_rfl) ?_); (conv => whnf)))))
      rw [← hrs]
      exact ⟨rfl, rfl⟩
  · have hxe : c[b.toNat]? = some (c.getD b.toNat 0) := by rw [List.getD_eq_getElem?_getD, List.getElem?_eq_getElem (show b.toNat < c.length by omega)]; rfl
    have hb : badS c b = decide (c.getD b.toNat 0 ≤ fau c) := by simp [badS, h2, h3]
    rw [hb]
    generalize c.getD b.toNat 0 = x at *
    by_cases hxf : x ≤ fau c
    · rw [decide_eq_true hxf]
      have hxf := hfin2 x hxf
      (repeat (any_goals (first | (with_reducible apply at_seq) | ((with_reducible apply at_regS Θ_ok); (conv => whnf)) | ((refine go ?_); (conv => whnf)) | ((refine go2 (fun xe hxe => ?_)); (conv => whnf)) | ((with_reducible refine cnd_d (fun hq => ?_) (fun hq => ?_)) <;> (conv => whnf)) | ((with_reducible refine cnd_i (fun hq => ?_) (fun hq => ?_)) <;> ((try simp only [decide_eq_true_eq, decide_eq_false_iff_not, Bool.not_eq_true', Bool.not_eq_false', beq_iff_eq, bne_iff_ne, beq_eq_false_iff_ne, bne_eq_false_iff_eq, ne_eq] at hq) <;> (first | omega | (conv => whnf)))) | ((with_reducible first | apply at_cond | apply at_ret | apply at_exit | apply at_skip); (conv => whnf)) | (with_reducible apply at_block) | ((with_reducible refine at_regD Θ_ok mixed (by kernel_rfl) ?_); (conv => whnf)) | ((with_reducible refine call_r ?_); (conv => whnf); (first | ((with_reducible refine call_i (hL) ?_); (conv => whnf)) | ((with_reducible refine call_i (hI) ?_); (conv => whnf)) | ((with_reducible refine call_i (hT) ?_); (conv => whnf)))))))
      refine at_loop hK [] [0, 6, 8, 9] (fun i : Nat => ⟨[(0, .lst (.int .i64) c), (6, .ptr 4 0), (8, .ptr 5 0), (9, .int .i64 (i : Int))], [(4, .var 29 [.nils, .nils, .int .i64 0, .nils, .nils]), (5, .var 29 [.ref 6, .ref 7, .int .i64 b, .ref 8, .ref 9]), (6, .row 3 (.int .i64) c), (7, .row 3 (.int .i64) l), (8, .row 33 (.lst .vtx) (List.replicate i [])), (9, .row 65 .ppl [])], 10⟩) (fun i => i ≤ c.length) (fun i => c.length - i) 0 (by simp) rfl ?_
      intro i hi
      have hrl : (List.replicate i ([] : List Vtx)).length = i := by simp
      have hst := hst i
      generalize hrs : List.replicate i ([] : List Vtx) = rs at *
      by_cases hlt : i < c.length
      · (repeat (any_goals (first | (with_reducible apply at_seq) | ((with_reducible apply at_regS Θ_ok); (conv => whnf)) | ((refine go ?_); (conv => whnf)) | ((refine go2 (fun xe hxe => ?_)); (conv => whnf)) | ((with_reducible refine cnd_d (fun hq => ?_) (fun hq => ?_)) <;> (conv => whnf)) | ((with_reducible refine cnd_i (fun hq => ?_) (fun hq => ?_)) <;> ((try simp only [decide_eq_true_eq, decide_eq_false_iff_not, Bool.not_eq_true', Bool.not_eq_false', beq_iff_eq, bne_iff_ne, beq_eq_false_iff_ne, bne_eq_false_iff_eq, ne_eq] at hq) <;> (first | omega | (conv => whnf)))) | ((with_reducible first | apply at_cond | apply at_ret | apply at_exit | apply at_skip); (conv => whnf)) | (with_reducible apply at_block) | ((with_reducible refine at_regD Θ_ok mixed (by kernel_rfl) ?_); (conv => whnf)))))
        refine ⟨i + 1, by omega, by omega, ?_⟩
        rw [← hst]
        try rfl
      · obtain rfl : i = c.length := by omega
        (repeat (any_goals (first | (with_reducible apply at_seq) | ((with_reducible apply at_regS Θ_ok); (conv => whnf)) | ((refine go ?_); (conv => whnf)) | ((refine go2 (fun xe hxe => ?_)); (conv => whnf)) | ((with_reducible refine cnd_d (fun hq => ?_) (fun hq => ?_)) <;> (conv => whnf)) | ((with_reducible refine cnd_i (fun hq => ?_) (fun hq => ?_)) <;> ((try simp only [decide_eq_true_eq, decide_eq_false_iff_not, Bool.not_eq_true', Bool.not_eq_false', beq_iff_eq, bne_iff_ne, beq_eq_false_iff_ne, bne_eq_false_iff_eq, ne_eq] at hq) <;> (first | omega | (conv => whnf)))) | ((with_reducible first | apply at_cond | apply at_ret | apply at_exit | apply at_skip); (conv => whnf)) | (with_reducible apply at_block) | ((with_reducible refine at_regD Θ_ok mixed (by kernel_rfl) ?_); (conv => whnf)))))
        rw [← hrs]
        exact ⟨rfl, rfl⟩
    · rw [decide_eq_false hxf]
      have hxf := hfin x (by omega)
      (repeat (any_goals (first | (with_reducible apply at_seq) | ((with_reducible apply at_regS Θ_ok); (conv => whnf)) | ((refine go ?_); (conv => whnf)) | ((refine go2 (fun xe hxe => ?_)); (conv => whnf)) | ((with_reducible refine cnd_d (fun hq => ?_) (fun hq => ?_)) <;> (conv => whnf)) | ((with_reducible refine cnd_i (fun hq => ?_) (fun hq => ?_)) <;> ((try simp only [decide_eq_true_eq, decide_eq_false_iff_not, Bool.not_eq_true', Bool.not_eq_false', beq_iff_eq, bne_iff_ne, beq_eq_false_iff_ne, bne_eq_false_iff_eq, ne_eq] at hq) <;> (first | omega | (conv => whnf)))) | ((with_reducible first | apply at_cond | apply at_ret | apply at_exit | apply at_skip); (conv => whnf)) | (with_reducible apply at_block) | ((with_reducible refine at_regD Θ_ok mixed (by kernel_rfl) ?_); (conv => whnf)) | ((with_reducible refine call_r ?_); (conv => whnf); (first | ((with_reducible refine call_i (hL) ?_); (conv => whnf)) | ((with_reducible refine call_i (hI) ?_); (conv => whnf)) | ((with_reducible refine call_i (hT) ?_); (conv => whnf)))))))
      exact ⟨rfl, rfl⟩
set_option maxHeartbeats 1000000 in
theorem swV_c (w : Wrl) (hcl : w.com.length ≤ 2000000) : ConV Try.prog 20 [wrlA w] [] (.bool (wrlS w)) [] := by
  have hN := snew_c w.com w.lead w.bad hcl
  refine con_eq Θ_ok Try.func20 rfl rfl false 0 4 rfl rfl rfl rfl fun K hK hb1 hb2 => ?_; simp only [argsV, enc, Nat.reduceAdd]
  simp [toDL, V.toD, bnd, encD, D.cells] at hb1
  cases h1 : newS w.com w.lead w.bad
  · rw [h1] at hN
    simp only [Bool.false_eq_true, if_false] at hN
    (repeat (any_goals (first | (with_reducible apply at_seq) | ((with_reducible apply at_regS Θ_ok); (conv => whnf)) | ((refine go ?_); (conv => whnf)) | ((refine go2 (fun xe hxe => ?_)); (conv => whnf)) | ((with_reducible refine cnd_d (fun hq => ?_) (fun hq => ?_)) <;> (conv => whnf)) | ((with_reducible refine cnd_i (fun hq => ?_) (fun hq => ?_)) <;> ((try simp only [decide_eq_true_eq, decide_eq_false_iff_not, Bool.not_eq_true', Bool.not_eq_false', beq_iff_eq, bne_iff_ne, beq_eq_false_iff_ne, bne_eq_false_iff_eq, ne_eq] at hq) <;> (first | omega | (conv => whnf)))) | ((with_reducible first | apply at_cond | apply at_ret | apply at_exit | apply at_skip); (conv => whnf)) | (with_reducible apply at_block) | ((with_reducible refine at_regD Θ_ok mixed (by kernel_rfl) ?_); (conv => whnf)) | ((with_reducible refine call_r ?_); (conv => whnf); (first | ((with_reducible refine call_i (hN) ?_); (conv => whnf)))))))
    exact ⟨by simp [wrlS, h1], rfl⟩
  rw [h1] at hN
  simp only [if_true] at hN
  have hc : comV w.com = true := by
    simp only [newS, Bool.and_eq_true] at h1
    exact h1.1
  have h7 := (comV_iff.1 hc).2
  by_cases h2 : w.views.length = w.com.length
  rotate_left
  · have hf : wrlS w = false := by
      have : (w.views.length == w.com.length) = false := by simpa using h2
      simp [wrlS, this]
    rw [hf]
    (repeat (any_goals (first | (with_reducible apply at_seq) | ((with_reducible apply at_regS Θ_ok); (conv => whnf)) | ((refine go ?_); (conv => whnf)) | ((refine go2 (fun xe hxe => ?_)); (conv => whnf)) | ((with_reducible refine cnd_d (fun hq => ?_) (fun hq => ?_)) <;> (conv => whnf)) | ((with_reducible refine cnd_i (fun hq => ?_) (fun hq => ?_)) <;> ((try simp only [decide_eq_true_eq, decide_eq_false_iff_not, Bool.not_eq_true', Bool.not_eq_false', beq_iff_eq, bne_iff_ne, beq_eq_false_iff_ne, bne_eq_false_iff_eq, ne_eq] at hq) <;> (first | omega | (conv => whnf)))) | ((with_reducible first | apply at_cond | apply at_ret | apply at_exit | apply at_skip); (conv => whnf)) | (with_reducible apply at_block) | ((with_reducible refine at_regD Θ_ok mixed (by kernel_rfl) ?_); (conv => whnf)) | ((with_reducible refine call_r ?_); (conv => whnf); (first | ((with_reducible refine call_i (hN) ?_); (conv => whnf)))))))
    exact ⟨rfl, rfl⟩
  have hP := spro_c w hc
  cases h3 : proS w.com w.bad w.props
  · rw [h3] at hP
    have hf : wrlS w = false := by simp [wrlS, h3]
    rw [hf]
    (repeat (any_goals (first | (with_reducible apply at_seq) | ((with_reducible apply at_regS Θ_ok); (conv => whnf)) | ((refine go ?_); (conv => whnf)) | ((refine go2 (fun xe hxe => ?_)); (conv => whnf)) | ((with_reducible refine cnd_d (fun hq => ?_) (fun hq => ?_)) <;> (conv => whnf)) | ((with_reducible refine cnd_i (fun hq => ?_) (fun hq => ?_)) <;> ((try simp only [decide_eq_true_eq, decide_eq_false_iff_not, Bool.not_eq_true', Bool.not_eq_false', beq_iff_eq, bne_iff_ne, beq_eq_false_iff_ne, bne_eq_false_iff_eq, ne_eq] at hq) <;> (first | omega | (conv => whnf)))) | ((with_reducible first | apply at_cond | apply at_ret | apply at_exit | apply at_skip); (conv => whnf)) | (with_reducible apply at_block) | ((with_reducible refine at_regD Θ_ok mixed (by kernel_rfl) ?_); (conv => whnf)) | ((with_reducible refine call_r ?_); (conv => whnf); (first | ((with_reducible refine call_i (hN) ?_); (conv => whnf)) | ((with_reducible refine call_i (hP) ?_); (conv => whnf)))))))
    exact ⟨rfl, rfl⟩
  rw [h3] at hP
  have hpl := pro_len h3
  have he : wrlS w = (viwsS w.com w.bad w.props w.views && kpar w.bad w.props w.views) := by simp [wrlS, h1, h2, h3]
  rw [he]
  (repeat (any_goals (first | (with_reducible apply at_seq) | ((with_reducible apply at_regS Θ_ok); (conv => whnf)) | ((refine go ?_); (conv => whnf)) | ((refine go2 (fun xe hxe => ?_)); (conv => whnf)) | ((with_reducible refine cnd_d (fun hq => ?_) (fun hq => ?_)) <;> (conv => whnf)) | ((with_reducible refine cnd_i (fun hq => ?_) (fun hq => ?_)) <;> ((try simp only [decide_eq_true_eq, decide_eq_false_iff_not, Bool.not_eq_true', Bool.not_eq_false', beq_iff_eq, bne_iff_ne, beq_eq_false_iff_ne, bne_eq_false_iff_eq, ne_eq] at hq) <;> (first | omega | (conv => whnf)))) | ((with_reducible first | apply at_cond | apply at_ret | apply at_exit | apply at_skip); (conv => whnf)) | (with_reducible apply at_block) | ((with_reducible refine at_regD Θ_ok mixed (by kernel_rfl) ?_); (conv => whnf)) | ((with_reducible refine call_r ?_); (conv => whnf); (first | ((with_reducible refine call_i (hN) ?_); (conv => whnf)) | ((with_reducible refine call_i (hP) ?_); (conv => whnf)))))))
  refine at_loop hK [] [1, 5] (fun i : Nat => ⟨[(1, .ptr 4 0), (5, .int .i64 i)], [(4, .var 29 (wrlA w).cells)], 5⟩)
    (fun i => i ≤ w.views.length ∧ ∀ j, j < i → (viwS w.com w.props (w.views.getD j []) && (!((j : Int) == w.bad) || (w.views.getD j []).isEmpty)) = true) (fun i => w.views.length - i) 0 ⟨by simp, by simp⟩ rfl ?_
  rintro i ⟨hi, hall⟩
  by_cases hlt : i < w.views.length
  · have hxe : w.views[i]? = some (w.views.getD i []) := by rw [List.getD_eq_getElem?_getD, List.getElem?_eq_getElem hlt]; rfl
    have hno : (viwS w.com w.props (w.views.getD i []) && (!((i : Int) == w.bad) || (w.views.getD i []).isEmpty)) = false → V.bool false = V.bool (viwsS w.com w.bad w.props w.views && kpar w.bad w.props w.views) ∧ ([] : VH) = [] := fun h => ⟨by unfold viwsS; rw [allTo_f hlt h, Bool.false_and], rfl⟩
    have hyes := all_step hall (p := fun j => viwS w.com w.props (w.views.getD j []) && (!((j : Int) == w.bad) || (w.views.getD j []).isEmpty)) (i := i)
    generalize w.views.getD i [] = g at *
    have hV := sview_c w g hc h3
    cases h4 : viwS w.com w.props g
    · rw [h4] at hV
      (repeat (any_goals (first | (with_reducible apply at_seq) | ((with_reducible apply at_regS Θ_ok); (conv => whnf)) | ((refine go ?_); (conv => whnf)) | ((refine go2 (fun xe hxe => ?_)); (conv => whnf)) | ((with_reducible refine cnd_d (fun hq => ?_) (fun hq => ?_)) <;> (conv => whnf)) | ((with_reducible refine cnd_i (fun hq => ?_) (fun hq => ?_)) <;> ((try simp only [decide_eq_true_eq, decide_eq_false_iff_not, Bool.not_eq_true', Bool.not_eq_false', beq_iff_eq, bne_iff_ne, beq_eq_false_iff_ne, bne_eq_false_iff_eq, ne_eq] at hq) <;> (first | omega | (conv => whnf)))) | ((with_reducible first | apply at_cond | apply at_ret | apply at_exit | apply at_skip); (conv => whnf)) | (with_reducible apply at_block) | ((with_reducible refine at_regD Θ_ok mixed (by kernel_rfl) ?_); (conv => whnf)) | ((with_reducible refine call_r ?_); (conv => whnf); (first | ((with_reducible refine call_i (hV) ?_); (conv => whnf)))))))
      exact hno (by rw [h4, Bool.false_and])
    rw [h4] at hV
    have hem : g.isEmpty = decide ((g.length : Int) = 0) := by cases g <;> simp; omega
    by_cases h5 : (i : Int) = w.bad
    · have hb1 : ((i : Int) == w.bad) = true := by simpa using h5
      by_cases h6 : 0 < (g.length : Int)
      · (repeat (any_goals (first | (with_reducible apply at_seq) | ((with_reducible apply at_regS Θ_ok); (conv => whnf)) | ((refine go ?_); (conv => whnf)) | ((refine go2 (fun xe hxe => ?_)); (conv => whnf)) | ((with_reducible refine cnd_d (fun hq => ?_) (fun hq => ?_)) <;> (conv => whnf)) | ((with_reducible refine cnd_i (fun hq => ?_) (fun hq => ?_)) <;> ((try simp only [decide_eq_true_eq, decide_eq_false_iff_not, Bool.not_eq_true', Bool.not_eq_false', beq_iff_eq, bne_iff_ne, beq_eq_false_iff_ne, bne_eq_false_iff_eq, ne_eq] at hq) <;> (first | omega | (conv => whnf)))) | ((with_reducible first | apply at_cond | apply at_ret | apply at_exit | apply at_skip); (conv => whnf)) | (with_reducible apply at_block) | ((with_reducible refine at_regD Θ_ok mixed (by kernel_rfl) ?_); (conv => whnf)) | ((with_reducible refine call_r ?_); (conv => whnf); (first | ((with_reducible refine call_i (hV) ?_); (conv => whnf)))))))
        exact hno (by rw [hb1, hem, decide_eq_false (by omega)]; simp)
      · (repeat (any_goals (first | (with_reducible apply at_seq) | ((with_reducible apply at_regS Θ_ok); (conv => whnf)) | ((refine go ?_); (conv => whnf)) | ((refine go2 (fun xe hxe => ?_)); (conv => whnf)) | ((with_reducible refine cnd_d (fun hq => ?_) (fun hq => ?_)) <;> (conv => whnf)) | ((with_reducible refine cnd_i (fun hq => ?_) (fun hq => ?_)) <;> ((try simp only [decide_eq_true_eq, decide_eq_false_iff_not, Bool.not_eq_true', Bool.not_eq_false', beq_iff_eq, bne_iff_ne, beq_eq_false_iff_ne, bne_eq_false_iff_eq, ne_eq] at hq) <;> (first | omega | (conv => whnf)))) | ((with_reducible first | apply at_cond | apply at_ret | apply at_exit | apply at_skip); (conv => whnf)) | (with_reducible apply at_block) | ((with_reducible refine at_regD Θ_ok mixed (by kernel_rfl) ?_); (conv => whnf)) | ((with_reducible refine call_r ?_); (conv => whnf); (first | ((with_reducible refine call_i (hV) ?_); (conv => whnf)))))))
        exact ⟨i + 1, ⟨by omega, hyes (by rw [h4, hb1, hem, decide_eq_true (by omega)]; simp)⟩, by omega, rfl⟩
    · have hb1 : ((i : Int) == w.bad) = false := by simpa using h5
      (repeat (any_goals (first | (with_reducible apply at_seq) | ((with_reducible apply at_regS Θ_ok); (conv => whnf)) | ((refine go ?_); (conv => whnf)) | ((refine go2 (fun xe hxe => ?_)); (conv => whnf)) | ((with_reducible refine cnd_d (fun hq => ?_) (fun hq => ?_)) <;> (conv => whnf)) | ((with_reducible refine cnd_i (fun hq => ?_) (fun hq => ?_)) <;> ((try simp only [decide_eq_true_eq, decide_eq_false_iff_not, Bool.not_eq_true', Bool.not_eq_false', beq_iff_eq, bne_iff_ne, beq_eq_false_iff_ne, bne_eq_false_iff_eq, ne_eq] at hq) <;> (first | omega | (conv => whnf)))) | ((with_reducible first | apply at_cond | apply at_ret | apply at_exit | apply at_skip); (conv => whnf)) | (with_reducible apply at_block) | ((with_reducible refine at_regD Θ_ok mixed (by kernel_rfl) ?_); (conv => whnf)) | ((with_reducible refine call_r ?_); (conv => whnf); (first | ((with_reducible refine call_i (hV) ?_); (conv => whnf)))))))
      exact ⟨i + 1, ⟨by omega, hyes (by rw [h4, hb1]; rfl)⟩, by omega, rfl⟩
  have hvs : viwsS w.com w.bad w.props w.views = true := by
    unfold viwsS
    exact allTo_t (fun j hj => hall j (by omega))
  rw [hvs, Bool.true_and]
  (repeat (any_goals (first | (with_reducible apply at_seq) | ((with_reducible apply at_regS Θ_ok); (conv => whnf)) | ((refine go ?_); (conv => whnf)) | ((refine go2 (fun xe hxe => ?_)); (conv => whnf)) | ((with_reducible refine cnd_d (fun hq => ?_) (fun hq => ?_)) <;> (conv => whnf)) | ((with_reducible refine cnd_i (fun hq => ?_) (fun hq => ?_)) <;> ((try simp only [decide_eq_true_eq, decide_eq_false_iff_not, Bool.not_eq_true', Bool.not_eq_false', beq_iff_eq, bne_iff_ne, beq_eq_false_iff_ne, bne_eq_false_iff_eq, ne_eq] at hq) <;> (first | omega | (conv => whnf)))) | ((with_reducible first | apply at_cond | apply at_ret | apply at_exit | apply at_skip); (conv => whnf)) | (with_reducible apply at_block) | ((with_reducible refine at_regD Θ_ok mixed (by kernel_rfl) ?_); (conv => whnf)))))
  refine at_loop hK [] [1, 6] (fun i : Nat => ⟨[(1, .ptr 4 0), (6, .int .i64 i)], [(4, .var 29 (wrlA w).cells)], 5⟩)
    (fun i => i ≤ w.props.length ∧ ∀ p ∈ w.props.take i, allTo w.views.length (kparAt w.bad w.views p) = true) (fun i => w.props.length - i) 0 ⟨by simp, by simp⟩ rfl ?_
  rintro k ⟨hk, hkall⟩
  by_cases hkl : k < w.props.length
  · have hxp : w.props[k]? = some w.props[k] := List.getElem?_eq_getElem hkl
    have hsn : w.props.take (k + 1) = w.props.take k ++ [w.props[k]] := List.take_succ_eq_append_getElem hkl
    have hpm : w.props[k] ∈ w.props := List.getElem_mem hkl
    have hone := pro_one h3 _ hpm
    have hno : allTo w.views.length (kparAt w.bad w.views w.props[k]) = false → V.bool false = V.bool (kpar w.bad w.props w.views) ∧ ([] : VH) = [] := fun h => ⟨by
      have : kpar w.bad w.props w.views = false := by
        rw [Bool.eq_false_iff]
        intro h2
        rw [List.all_eq_true.1 h2 _ hpm] at h
        cases h
      rw [this], rfl⟩
    generalize w.props[k] = p at *
    simp only [oneP, Bool.and_eq_true] at hone
    have hrd := vtxS_rd hone.1
    (repeat (any_goals (first | (with_reducible apply at_seq) | ((with_reducible apply at_regS Θ_ok); (conv => whnf)) | ((refine go ?_); (conv => whnf)) | ((refine go2 (fun xe hxe => ?_)); (conv => whnf)) | ((with_reducible refine cnd_d (fun hq => ?_) (fun hq => ?_)) <;> (conv => whnf)) | ((with_reducible refine cnd_i (fun hq => ?_) (fun hq => ?_)) <;> ((try simp only [decide_eq_true_eq, decide_eq_false_iff_not, Bool.not_eq_true', Bool.not_eq_false', beq_iff_eq, bne_iff_ne, beq_eq_false_iff_ne, bne_eq_false_iff_eq, ne_eq] at hq) <;> (first | omega | (conv => whnf)))) | ((with_reducible first | apply at_cond | apply at_ret | apply at_exit | apply at_skip); (conv => whnf)) | (with_reducible apply at_block) | ((with_reducible refine at_regD Θ_ok mixed (by kernel_rfl) ?_); (conv => whnf)))))
    refine at_loop hK [] [1, 6, 7, 8] (fun m : Nat => ⟨[(1, .ptr 4 0), (6, .int .i64 k), (7, .ptr 5 0), (8, .int .i64 m)], [(4, .var 29 (wrlA w).cells), (5, .var 63 (vtxA p.v).cells)], 6⟩)
      (fun m => m ≤ w.views.length ∧ ∀ j, j < m → kparAt w.bad w.views p j = true) (fun m => w.views.length - m) 0 ⟨by simp, by simp⟩ rfl ?_
    rintro m ⟨hm, hmall⟩
    by_cases hml : m < w.views.length
    · have hxv : w.views[m]? = some (w.views.getD m []) := by rw [List.getD_eq_getElem?_getD, List.getElem?_eq_getElem hml]; rfl
      have hyes := all_step hmall (p := kparAt w.bad w.views p) (i := m)
      have hno2 : kparAt w.bad w.views p m = false → V.bool false = V.bool (kpar w.bad w.props w.views) ∧ ([] : VH) = [] := fun h => hno (allTo_f hml h)
      have hA : kparAt w.bad w.views p m = (!((m : Int) != w.bad && ((m : Int) == p.v.author || p.members.contains (m : Int))) || parOK (w.views.getD m []) p.v) := rfl
      generalize w.views.getD m [] = g at *
      have hH := has_c p.members m
      have hG := parents_c g p.v hrd
      by_cases c1 : (m : Int) = w.bad
      · (repeat (any_goals (first | (with_reducible apply at_seq) | ((with_reducible apply at_regS Θ_ok); (conv => whnf)) | ((refine go ?_); (conv => whnf)) | ((refine go2 (fun xe hxe => ?_)); (conv => whnf)) | ((with_reducible refine cnd_d (fun hq => ?_) (fun hq => ?_)) <;> (conv => whnf)) | ((with_reducible refine cnd_i (fun hq => ?_) (fun hq => ?_)) <;> ((try simp only [decide_eq_true_eq, decide_eq_false_iff_not, Bool.not_eq_true', Bool.not_eq_false', beq_iff_eq, bne_iff_ne, beq_eq_false_iff_ne, bne_eq_false_iff_eq, ne_eq] at hq) <;> (first | omega | (conv => whnf)))) | ((with_reducible first | apply at_cond | apply at_ret | apply at_exit | apply at_skip); (conv => whnf)) | (with_reducible apply at_block) | ((with_reducible refine at_regD Θ_ok mixed (by kernel_rfl) ?_); (conv => whnf)) | ((with_reducible refine call_r ?_); (conv => whnf); (first | ((with_reducible refine call_i (hH) ?_); (conv => whnf)) | ((with_reducible refine call_i (hG) ?_); (conv => whnf)))))))
        exact ⟨m + 1, ⟨by omega, hyes (by simp [hA, c1])⟩, by omega, rfl⟩
      cases c2 : (m : Int) == p.v.author || p.members.contains (m : Int)
      · rw [Bool.or_eq_false_iff] at c2
        have c3 : ¬ (m : Int) = p.v.author := by simpa using c2.1
        rw [c2.2] at hH
        (repeat (any_goals (first | (with_reducible apply at_seq) | ((with_reducible apply at_regS Θ_ok); (conv => whnf)) | ((refine go ?_); (conv => whnf)) | ((refine go2 (fun xe hxe => ?_)); (conv => whnf)) | ((with_reducible refine cnd_d (fun hq => ?_) (fun hq => ?_)) <;> (conv => whnf)) | ((with_reducible refine cnd_i (fun hq => ?_) (fun hq => ?_)) <;> ((try simp only [decide_eq_true_eq, decide_eq_false_iff_not, Bool.not_eq_true', Bool.not_eq_false', beq_iff_eq, bne_iff_ne, beq_eq_false_iff_ne, bne_eq_false_iff_eq, ne_eq] at hq) <;> (first | omega | (conv => whnf)))) | ((with_reducible first | apply at_cond | apply at_ret | apply at_exit | apply at_skip); (conv => whnf)) | (with_reducible apply at_block) | ((with_reducible refine at_regD Θ_ok mixed (by kernel_rfl) ?_); (conv => whnf)) | ((with_reducible refine call_r ?_); (conv => whnf); (first | ((with_reducible refine call_i (hH) ?_); (conv => whnf)) | ((with_reducible refine call_i (hG) ?_); (conv => whnf)))))))
        exact ⟨m + 1, ⟨by omega, hyes (by rw [hA, c2.1, c2.2]; simp)⟩, by omega, rfl⟩
      · cases c4 : parOK g p.v
        · rw [c4] at hG
          have hn := hno2 (by rw [hA, c2, c4]; simpa using c1)
          by_cases c3 : (m : Int) = p.v.author
          · (repeat (any_goals (first | (with_reducible apply at_seq) | ((with_reducible apply at_regS Θ_ok); (conv => whnf)) | ((refine go ?_); (conv => whnf)) | ((refine go2 (fun xe hxe => ?_)); (conv => whnf)) | ((with_reducible refine cnd_d (fun hq => ?_) (fun hq => ?_)) <;> (conv => whnf)) | ((with_reducible refine cnd_i (fun hq => ?_) (fun hq => ?_)) <;> ((try simp only [decide_eq_true_eq, decide_eq_false_iff_not, Bool.not_eq_true', Bool.not_eq_false', beq_iff_eq, bne_iff_ne, beq_eq_false_iff_ne, bne_eq_false_iff_eq, ne_eq] at hq) <;> (first | omega | (conv => whnf)))) | ((with_reducible first | apply at_cond | apply at_ret | apply at_exit | apply at_skip); (conv => whnf)) | (with_reducible apply at_block) | ((with_reducible refine at_regD Θ_ok mixed (by kernel_rfl) ?_); (conv => whnf)) | ((with_reducible refine call_r ?_); (conv => whnf); (first | ((with_reducible refine call_i (hH) ?_); (conv => whnf)) | ((with_reducible refine call_i (hG) ?_); (conv => whnf)))))))
            exact hn
          · have c5 : p.members.contains (m : Int) = true := by simpa [c3] using c2
            rw [c5] at hH
            (repeat (any_goals (first | (with_reducible apply at_seq) | ((with_reducible apply at_regS Θ_ok); (conv => whnf)) | ((refine go ?_); (conv => whnf)) | ((refine go2 (fun xe hxe => ?_)); (conv => whnf)) | ((with_reducible refine cnd_d (fun hq => ?_) (fun hq => ?_)) <;> (conv => whnf)) | ((with_reducible refine cnd_i (fun hq => ?_) (fun hq => ?_)) <;> ((try simp only [decide_eq_true_eq, decide_eq_false_iff_not, Bool.not_eq_true', Bool.not_eq_false', beq_iff_eq, bne_iff_ne, beq_eq_false_iff_ne, bne_eq_false_iff_eq, ne_eq] at hq) <;> (first | omega | (conv => whnf)))) | ((with_reducible first | apply at_cond | apply at_ret | apply at_exit | apply at_skip); (conv => whnf)) | (with_reducible apply at_block) | ((with_reducible refine at_regD Θ_ok mixed (by kernel_rfl) ?_); (conv => whnf)) | ((with_reducible refine call_r ?_); (conv => whnf); (first | ((with_reducible refine call_i (hH) ?_); (conv => whnf)) | ((with_reducible refine call_i (hG) ?_); (conv => whnf)))))))
            exact hn
        · rw [c4] at hG
          have hn := hyes (by rw [hA, c4, Bool.or_true])
          by_cases c3 : (m : Int) = p.v.author
          · (repeat (any_goals (first | (with_reducible apply at_seq) | ((with_reducible apply at_regS Θ_ok); (conv => whnf)) | ((refine go ?_); (conv => whnf)) | ((refine go2 (fun xe hxe => ?_)); (conv => whnf)) | ((with_reducible refine cnd_d (fun hq => ?_) (fun hq => ?_)) <;> (conv => whnf)) | ((with_reducible refine cnd_i (fun hq => ?_) (fun hq => ?_)) <;> ((try simp only [decide_eq_true_eq, decide_eq_false_iff_not, Bool.not_eq_true', Bool.not_eq_false', beq_iff_eq, bne_iff_ne, beq_eq_false_iff_ne, bne_eq_false_iff_eq, ne_eq] at hq) <;> (first | omega | (conv => whnf)))) | ((with_reducible first | apply at_cond | apply at_ret | apply at_exit | apply at_skip); (conv => whnf)) | (with_reducible apply at_block) | ((with_reducible refine at_regD Θ_ok mixed (by kernel_rfl) ?_); (conv => whnf)) | ((with_reducible refine call_r ?_); (conv => whnf); (first | ((with_reducible refine call_i (hH) ?_); (conv => whnf)) | ((with_reducible refine call_i (hG) ?_); (conv => whnf)))))))
            exact ⟨m + 1, ⟨by omega, hn⟩, by omega, rfl⟩
          · have c5 : p.members.contains (m : Int) = true := by simpa [c3] using c2
            rw [c5] at hH
            (repeat (any_goals (first | (with_reducible apply at_seq) | ((with_reducible apply at_regS Θ_ok); (conv => whnf)) | ((refine go ?_); (conv => whnf)) | ((refine go2 (fun xe hxe => ?_)); (conv => whnf)) | ((with_reducible refine cnd_d (fun hq => ?_) (fun hq => ?_)) <;> (conv => whnf)) | ((with_reducible refine cnd_i (fun hq => ?_) (fun hq => ?_)) <;> ((try simp only [decide_eq_true_eq, decide_eq_false_iff_not, Bool.not_eq_true', Bool.not_eq_false', beq_iff_eq, bne_iff_ne, beq_eq_false_iff_ne, bne_eq_false_iff_eq, ne_eq] at hq) <;> (first | omega | (conv => whnf)))) | ((with_reducible first | apply at_cond | apply at_ret | apply at_exit | apply at_skip); (conv => whnf)) | (with_reducible apply at_block) | ((with_reducible refine at_regD Θ_ok mixed (by kernel_rfl) ?_); (conv => whnf)) | ((with_reducible refine call_r ?_); (conv => whnf); (first | ((with_reducible refine call_i (hH) ?_); (conv => whnf)) | ((with_reducible refine call_i (hG) ?_); (conv => whnf)))))))
            exact ⟨m + 1, ⟨by omega, hn⟩, by omega, rfl⟩
    · (repeat (any_goals (first | (with_reducible apply at_seq) | ((with_reducible apply at_regS Θ_ok); (conv => whnf)) | ((refine go ?_); (conv => whnf)) | ((refine go2 (fun xe hxe => ?_)); (conv => whnf)) | ((with_reducible refine cnd_d (fun hq => ?_) (fun hq => ?_)) <;> (conv => whnf)) | ((with_reducible refine cnd_i (fun hq => ?_) (fun hq => ?_)) <;> ((try simp only [decide_eq_true_eq, decide_eq_false_iff_not, Bool.not_eq_true', Bool.not_eq_false', beq_iff_eq, bne_iff_ne, beq_eq_false_iff_ne, bne_eq_false_iff_eq, ne_eq] at hq) <;> (first | omega | (conv => whnf)))) | ((with_reducible first | apply at_cond | apply at_ret | apply at_exit | apply at_skip); (conv => whnf)) | (with_reducible apply at_block) | ((with_reducible refine at_regD Θ_ok mixed (by kernel_rfl) ?_); (conv => whnf)))))
      exact ⟨k + 1, ⟨by omega, by rw [hsn]; exact tk_snoc hkall (allTo_t fun j hj => hmall j (by omega))⟩, by omega, rfl⟩
  · (repeat (any_goals (first | (with_reducible apply at_seq) | ((with_reducible apply at_regS Θ_ok); (conv => whnf)) | ((refine go ?_); (conv => whnf)) | ((refine go2 (fun xe hxe => ?_)); (conv => whnf)) | ((with_reducible refine cnd_d (fun hq => ?_) (fun hq => ?_)) <;> (conv => whnf)) | ((with_reducible refine cnd_i (fun hq => ?_) (fun hq => ?_)) <;> ((try simp only [decide_eq_true_eq, decide_eq_false_iff_not, Bool.not_eq_true', Bool.not_eq_false', beq_iff_eq, bne_iff_ne, beq_eq_false_iff_ne, bne_eq_false_iff_eq, ne_eq] at hq) <;> (first | omega | (conv => whnf)))) | ((with_reducible first | apply at_cond | apply at_ret | apply at_exit | apply at_skip); (conv => whnf)) | (with_reducible apply at_block) | ((with_reducible refine at_regD Θ_ok mixed (by kernel_rfl) ?_); (conv => whnf)))))
    rw [List.take_of_length_le (by omega)] at hkall
    have : kpar w.bad w.props w.views = true := List.all_eq_true.2 hkall
    rw [this]
    exact ⟨rfl, rfl⟩
end Go.Proofs.Ytfamejohdhkffaa.Am
namespace Go.Proofs.Ytfamejohdhkffaa.Am
set_option linter.unusedSimpArgs false
set_option linter.unusedVariables false
open Go
attribute [local irreducible] Mk Need Ari Get Idx Cnd CallM CallA Opt Unch At ConV
set_option maxRecDepth 10000

/-- bytes, and a place that is not too far -/
def rdOK (c : List Int) (p : Int) : Prop := c.length ≤ 2000 ∧ (∀ x ∈ c, 0 ≤ x ∧ x ≤ 255) ∧ 0 ≤ p ∧ p ≤ 1000000000
theorem open_c (c : List Int) : ConV Try.prog 25 [.lst (.int .u8) c] [] (.ptr 4 0) [(4, .var 83 [.lst (.int .u8) (c.take 2000), .int .i64 0])] := by
  refine con_eq Θ_ok Try.func25 rfl rfl false 0 4 rfl rfl rfl rfl fun K hK hb1 hb2 => ?_; simp only [argsV, enc, Nat.reduceAdd]
  (repeat (any_goals (first | (with_reducible apply at_seq) | ((with_reducible apply at_regS Θ_ok); (conv => whnf)) | ((refine go ?_); (conv => whnf)) | ((refine go2 (fun xe hxe => ?_)); (conv => whnf)) | ((with_reducible refine cnd_d (fun hq => ?_) (fun hq => ?_)) <;> (conv => whnf)) | ((with_reducible refine cnd_i (fun hq => ?_) (fun hq => ?_)) <;> ((try simp only [decide_eq_true_eq, decide_eq_false_iff_not, Bool.not_eq_true', Bool.not_eq_false', beq_iff_eq, bne_iff_ne, beq_eq_false_iff_ne, bne_eq_false_iff_eq, ne_eq] at hq) <;> (first | omega | (conv => whnf)))) | ((with_reducible first | apply at_cond | apply at_ret | apply at_exit | apply at_skip); (conv => whnf)) | (with_reducible apply at_block) | ((with_reducible refine at_regD Θ_ok mixed (by kernel_rfl) ?_); (conv => whnf)))))
  · exact ⟨rfl, rfl⟩
  · exact ⟨rfl, by rw [List.take_of_length_le (by omega)]⟩
theorem rd_ok {c : List Int} (h : ∀ x ∈ c, 0 ≤ x ∧ x ≤ 255) : rdOK (c.take 2000) 0 := ⟨by rw [List.length_take]; omega, fun x hx => h x (List.mem_of_mem_take hx), by omega, by omega⟩
theorem pick_c (c : List Int) (p n : Int) (T : TypeId) (h : rdOK c p) (hn : 1 ≤ n ∧ n ≤ 1000000) : ∃ v, (0 ≤ v ∧ v < n) ∧ ConV Try.prog 28 [.ptr 4 0, .int .i64 n] [(4, .var T [.lst (.int .u8) c, .int .i64 p])] (.int .i64 v) [(4, .var T [.lst (.int .u8) c, .int .i64 (p + 1)])] := by
  obtain ⟨h1, h2, h3, h4⟩ := h
  suffices hs : ∃ r hout, (∃ v, (0 ≤ v ∧ v < n) ∧ r = .int .i64 v ∧ hout = [(4, VB.var T [.lst (.int .u8) c, .int .i64 (p + 1)])]) ∧ ConV Try.prog 28 [.ptr 4 0, .int .i64 n] [(4, .var T [.lst (.int .u8) c, .int .i64 p])] r hout by
    obtain ⟨r, hout, ⟨v, hv, rfl, rfl⟩, h⟩ := hs
    exact ⟨v, hv, h⟩
  refine con_ex Θ_ok Try.func28 rfl rfl false 1 5 rfl rfl rfl rfl (R := fun r hout => ∃ v, (0 ≤ v ∧ v < n) ∧ r = .int .i64 v ∧ hout = [(4, VB.var T [.lst (.int .u8) c, .int .i64 (p + 1)])]) (r0 := .int .i64 0) (hout0 := [(4, VB.var T [.lst (.int .u8) c, .int .i64 (p + 1)])]) (⟨0, by omega, rfl, rfl⟩) fun K hK hb1 hb2 => ?_; simp only [argsV, enc, Nat.reduceAdd]
  clear hb1 hb2
  have hat : ∀ k : Int, 0 ≤ k → k < c.length → ∃ v, c[k.toNat]? = some v ∧ 0 ≤ v ∧ v ≤ 255 := fun k ha hb => by
    have hl : k.toNat < c.length := by omega
    exact ⟨c[k.toNat], List.getElem?_eq_getElem hl, h2 _ (List.getElem_mem hl)⟩
  by_cases h0 : c.length = 0
  · (repeat (any_goals (first | (with_reducible apply at_seq) | ((with_reducible apply at_regS Θ_ok); (conv => whnf)) | ((refine go ?_); (conv => whnf)) | ((refine go2 (fun xe hxe => ?_)); (conv => whnf)) | ((with_reducible refine cnd_d (fun hq => ?_) (fun hq => ?_)) <;> (conv => whnf)) | ((with_reducible refine cnd_i (fun hq => ?_) (fun hq => ?_)) <;> ((try simp only [decide_eq_true_eq, decide_eq_false_iff_not, Bool.not_eq_true', Bool.not_eq_false', beq_iff_eq, bne_iff_ne, beq_eq_false_iff_ne, bne_eq_false_iff_eq, ne_eq] at hq) <;> (first | omega | (conv => whnf)))) | ((with_reducible first | apply at_cond | apply at_ret | apply at_exit | apply at_skip); (conv => whnf)) | (with_reducible apply at_block) | ((with_reducible refine at_regD Θ_ok mixed (by kernel_rfl) ?_); (conv => whnf)))))
    exact ⟨0, by omega, rfl, rfl⟩
  have hcl : 0 ≤ p.tmod c.length ∧ p.tmod c.length < c.length := ⟨Int.tmod_nonneg _ h3, Int.tmod_lt_of_pos _ (by omega)⟩
  have hcl2 : 0 ≤ (p * 7 + 3).tmod c.length ∧ (p * 7 + 3).tmod c.length < c.length := ⟨Int.tmod_nonneg _ (by omega), Int.tmod_lt_of_pos _ (by omega)⟩
  have hdv : 0 ≤ p.tdiv c.length ∧ p.tdiv c.length ≤ p := ⟨Int.tdiv_nonneg h3 (by omega), by rw [Int.tdiv_eq_ediv_of_nonneg h3]; exact Int.ediv_le_self _ h3⟩
  have hp : p + 1 - 1 = p := by omega
  by_cases h6 : p < c.length
  · obtain ⟨v, hv, hv1, hv2⟩ := hat p h3 h6
    rw [← hp] at hv
    have hm : 0 ≤ v.tmod n ∧ v.tmod n < n := ⟨Int.tmod_nonneg _ hv1, Int.tmod_lt_of_pos _ (by omega)⟩
    (repeat (any_goals (first | (with_reducible apply at_seq) | ((with_reducible apply at_regS Θ_ok); (conv => whnf)) | ((refine go ?_); (conv => whnf)) | ((refine go2 (fun xe hxe => ?_)); (conv => whnf)) | ((with_reducible refine cnd_d (fun hq => ?_) (fun hq => ?_)) <;> (conv => whnf)) | ((with_reducible refine cnd_i (fun hq => ?_) (fun hq => ?_)) <;> ((try simp only [decide_eq_true_eq, decide_eq_false_iff_not, Bool.not_eq_true', Bool.not_eq_false', beq_iff_eq, bne_iff_ne, beq_eq_false_iff_ne, bne_eq_false_iff_eq, ne_eq] at hq) <;> (first | omega | (conv => whnf)))) | ((with_reducible first | apply at_cond | apply at_ret | apply at_exit | apply at_skip); (conv => whnf)) | (with_reducible apply at_block) | ((with_reducible refine at_regD Θ_ok mixed (by kernel_rfl) ?_); (conv => whnf)))))
    exact ⟨_, hm, rfl, rfl⟩
  · obtain ⟨v, hv, hv1, hv2⟩ := hat _ hcl.1 hcl.2
    obtain ⟨w, hw, hw1, hw2⟩ := hat _ hcl2.1 hcl2.2
    rw [← hp] at hv hw hdv hcl hcl2
    have hS : 0 ≤ v * 131 + w * 1117 + (p + 1 - 1) * 29 + (p + 1 - 1).tdiv ↑c.length * 53 ∧ v * 131 + w * 1117 + (p + 1 - 1) * 29 + (p + 1 - 1).tdiv ↑c.length * 53 < 4611686018427387904 := by omega
    have hD : 0 ≤ (v * 131 + w * 1117 + (p + 1 - 1) * 29 + (p + 1 - 1).tdiv ↑c.length * 53).tdiv 64 ∧ (v * 131 + w * 1117 + (p + 1 - 1) * 29 + (p + 1 - 1).tdiv ↑c.length * 53).tdiv 64 < 4611686018427387904 :=
      ⟨Int.tdiv_nonneg hS.1 (by omega), by rw [Int.tdiv_eq_ediv_of_nonneg hS.1]; omega⟩
    have hX := xor_bd hS hD
    (repeat (any_goals (first | (with_reducible apply at_seq) | ((with_reducible apply at_regS Θ_ok); (conv => whnf)) | ((refine go ?_); (conv => whnf)) | ((refine go2 (fun xe hxe => ?_)); (conv => whnf)) | ((with_reducible refine cnd_d (fun hq => ?_) (fun hq => ?_)) <;> (conv => whnf)) | ((with_reducible refine cnd_i (fun hq => ?_) (fun hq => ?_)) <;> ((try simp only [decide_eq_true_eq, decide_eq_false_iff_not, Bool.not_eq_true', Bool.not_eq_false', beq_iff_eq, bne_iff_ne, beq_eq_false_iff_ne, bne_eq_false_iff_eq, ne_eq] at hq) <;> (first | omega | (conv => whnf)))) | ((with_reducible first | apply at_cond | apply at_ret | apply at_exit | apply at_skip); (conv => whnf)) | (with_reducible apply at_block) | ((with_reducible refine at_regD Θ_ok mixed (by kernel_rfl) ?_); (conv => whnf)))))
    refine ⟨_, ⟨Int.tmod_nonneg _ hX, Int.tmod_lt_of_pos _ (by omega)⟩, rfl, rfl⟩
end Go.Proofs.Ytfamejohdhkffaa.Am
namespace Go.Proofs.Ytfamejohdhkffaa.Am
set_option linter.unusedSimpArgs false
set_option linter.unusedVariables false
open Go
attribute [local irreducible] Mk Need Ari Get Idx Cnd CallM CallA Opt Unch At ConV
set_option maxRecDepth 10000

/-- the reader of bytes at place p -/
abbrev rdB (b : List Int) (p : Int) : VB := .var 83 [.lst (.int .u8) b, .int .i64 p]
theorem pk_c (b : List Int) (p n : Int) (h : rdOK b 0) (hp : 0 ≤ p ∧ p ≤ 100000000) (hn : 1 ≤ n ∧ n ≤ 1000000) : ∃ v, (0 ≤ v ∧ v < n) ∧ ConV Try.prog 28 [.ptr 4 0, .int .i64 n] [(4, rdB b p)] (.int .i64 v) [(4, rdB b (p + 1))] :=
  pick_c b p n _ ⟨h.1, h.2.1, by omega, by omega⟩ hn
theorem fits_app {nb : Nat} {α β : Type} {xs : List α} {ys : List β} (h1 : xs.length ≤ 1000) (h2 : ys.length ≤ 1000) (hb : nb ≤ 100) : fits nb (xs.length + ys.length) := by
  have : (xs.length + ys.length) * nb ≤ 2000 * 100 := Nat.mul_le_mul (by omega) hb
  unfold fits
  omega
theorem all_get {l : List Int} {P : Int → Prop} {i : Nat} {x : Int} (hx : l[i]? = some x) (h : ∀ y ∈ l, P y) : P x := h x (List.mem_of_getElem? hx)
theorem dcom_c (b : List Int) (p : Int) (h : rdOK b 0) (hp : 0 ≤ p ∧ p ≤ 1000000) : ∃ x : List Int × Int, (p ≤ x.2 ∧ x.2 ≤ p + 20 ∧ x.1.length ≤ 11) ∧ ConV Try.prog 26 [.ptr 4 0] [(4, rdB b p)] (.lst (.int .i64) x.1) [(4, rdB b x.2)] := by
  suffices hs : ∃ r hout, (∃ x : List Int × Int, (p ≤ x.2 ∧ x.2 ≤ p + 20 ∧ x.1.length ≤ 11) ∧ r = .lst (.int .i64) x.1 ∧ hout = [(4, rdB b x.2)]) ∧ ConV Try.prog 26 [.ptr 4 0] [(4, rdB b p)] r hout by
    obtain ⟨r, hout, ⟨v, hv, rfl, rfl⟩, h⟩ := hs
    exact ⟨v, hv, h⟩
  refine con_ex Θ_ok Try.func26 rfl rfl true 1 5 rfl rfl rfl rfl (R := fun r hout => ∃ x : List Int × Int, (p ≤ x.2 ∧ x.2 ≤ p + 20 ∧ x.1.length ≤ 11) ∧ r = .lst (.int .i64) x.1 ∧ hout = [(4, rdB b x.2)]) (r0 := .lst (.int .i64) []) (hout0 := [(4, rdB b p)]) (⟨([], p), by simp; omega, rfl, rfl⟩) fun K hK hb1 hb2 => ?_; simp only [argsV, enc, Nat.reduceAdd]
  clear hb1 hb2
  (repeat (any_goals (first | (with_reducible apply at_seq) | ((with_reducible apply at_regS Θ_ok); (conv => whnf)) | ((refine go ?_); (conv => whnf)) | ((refine go2 (fun xe hxe => ?_)); (conv => whnf)) | ((with_reducible refine cnd_d (fun hq => ?_) (fun hq => ?_)) <;> (conv => whnf)) | ((with_reducible refine cnd_i (fun hq => ?_) (fun hq => ?_)) <;> ((try simp only [decide_eq_true_eq, decide_eq_false_iff_not, Bool.not_eq_true', Bool.not_eq_false', beq_iff_eq, bne_iff_ne, beq_eq_false_iff_ne, bne_eq_false_iff_eq, ne_eq] at hq) <;> (first | omega | (conv => whnf)))) | ((with_reducible first | apply at_cond | apply at_ret | apply at_exit | apply at_skip); (conv => whnf)) | (with_reducible apply at_block) | ((with_reducible refine at_regD Θ_ok mixed (by kernel_rfl) ?_); (conv => whnf)) | ((with_reducible refine call_r ?_); (conv => whnf); (first | ((refine call_ex (pk_c b _ _ h (by omega) (by omega)) (fun xv hxv => ?_)); (conv => whnf)))))))
  obtain ⟨n, hn, hnx⟩ : ∃ n : Int, (1 ≤ n ∧ n ≤ 7) ∧ n = xe := ⟨xe, all_get (P := fun y => 1 ≤ y ∧ y ≤ 7) hxe (by decide), rfl⟩
  clear hxe
  subst hnx
  refine at_loop hK [] [0, 3, 4, 5] (fun i : Nat × List Int × Int => ⟨[(0, .ptr 4 0), (3, .ref 5), (4, .int .i64 n), (5, .int .i64 i.1)], [(4, rdB b i.2.2), (5, .row 3 (.int .i64) i.2.1)], 6⟩)
    (fun i => (i.1 : Int) ≤ n ∧ i.2.1.length = i.1 ∧ p + 1 ≤ i.2.2 ∧ i.2.2 ≤ p + 1 + 2 * i.1) (fun i => 8 - i.1) (0, [], p + 1) (by simp; omega) rfl ?_
  rintro ⟨i, l, q⟩ ⟨hi1, hi2, hi3, hi4⟩
  dsimp only at hi1 hi2 hi3 hi4 ⊢
  by_cases hlt : (i : Int) < n
  · (repeat (any_goals (first | (with_reducible apply at_seq) | ((with_reducible apply at_regS Θ_ok); (conv => whnf)) | ((refine go ?_); (conv => whnf)) | ((refine go2 (fun xe hxe => ?_)); (conv => whnf)) | ((with_reducible refine cnd_d (fun hq => ?_) (fun hq => ?_)) <;> (conv => whnf)) | ((with_reducible refine cnd_i (fun hq => ?_) (fun hq => ?_)) <;> ((try simp only [decide_eq_true_eq, decide_eq_false_iff_not, Bool.not_eq_true', Bool.not_eq_false', beq_iff_eq, bne_iff_ne, beq_eq_false_iff_ne, bne_eq_false_iff_eq, ne_eq] at hq) <;> (first | omega | (conv => whnf)))) | ((with_reducible first | apply at_cond | apply at_ret | apply at_exit | apply at_skip); (conv => whnf)) | (with_reducible apply at_block) | ((with_reducible refine at_regD Θ_ok mixed (by kernel_rfl) ?_); (conv => whnf)) | ((with_reducible refine call_r ?_); (conv => whnf); (first | ((refine call_ex (pk_c b _ _ h (by omega) (by omega)) (fun xv hxv => ?_)); (conv => whnf)))))))
    rename_i y hy
    have hm : 0 ≤ y * xv ∧ y * xv ≤ 3 * 2 := ⟨Int.mul_nonneg (by omega) (by omega), Int.mul_le_mul (by omega) (by omega) (by omega) (by omega)⟩
    generalize y * xv = z at *
    have hd : 0 ≤ z.tdiv 2 ∧ z.tdiv 2 ≤ 3 := by rw [Int.tdiv_eq_ediv_of_nonneg (by omega)]; omega
    (repeat (any_goals (first | (with_reducible apply at_seq) | ((with_reducible apply at_regS Θ_ok); (conv => whnf)) | ((refine go ?_); (conv => whnf)) | ((refine go2 (fun xe hxe => ?_)); (conv => whnf)) | ((with_reducible refine cnd_d (fun hq => ?_) (fun hq => ?_)) <;> (conv => whnf)) | ((with_reducible refine cnd_i (fun hq => ?_) (fun hq => ?_)) <;> ((try simp only [decide_eq_true_eq, decide_eq_false_iff_not, Bool.not_eq_true', Bool.not_eq_false', beq_iff_eq, bne_iff_ne, beq_eq_false_iff_ne, bne_eq_false_iff_eq, ne_eq] at hq) <;> (first | omega | (conv => whnf)))) | ((with_reducible first | apply at_cond | apply at_ret | apply at_exit | apply at_skip); (conv => whnf)) | (with_reducible apply at_block) | ((with_reducible refine at_regD Θ_ok mixed (by kernel_rfl) ?_); (conv => whnf)))))
    refine ⟨(i + 1, l ++ [1 + z.tdiv 2], q + 1 + 1), ⟨by omega, by simp; omega, by dsimp only; omega, by dsimp only; omega⟩, by dsimp only; omega, rfl⟩
  · (repeat (any_goals (first | (with_reducible apply at_seq) | ((with_reducible apply at_regS Θ_ok); (conv => whnf)) | ((refine go ?_); (conv => whnf)) | ((refine go2 (fun xe hxe => ?_)); (conv => whnf)) | ((with_reducible refine cnd_d (fun hq => ?_) (fun hq => ?_)) <;> (conv => whnf)) | ((with_reducible refine cnd_i (fun hq => ?_) (fun hq => ?_)) <;> ((try simp only [decide_eq_true_eq, decide_eq_false_iff_not, Bool.not_eq_true', Bool.not_eq_false', beq_iff_eq, bne_iff_ne, beq_eq_false_iff_ne, bne_eq_false_iff_eq, ne_eq] at hq) <;> (first | omega | (conv => whnf)))) | ((with_reducible first | apply at_cond | apply at_ret | apply at_exit | apply at_skip); (conv => whnf)) | (with_reducible apply at_block) | ((with_reducible refine at_regD Θ_ok mixed (by kernel_rfl) ?_); (conv => whnf)) | ((with_reducible refine call_r ?_); (conv => whnf); (first | ((refine call_ex (pk_c b _ _ h (by omega) (by omega)) (fun xv hxv => ?_)); (conv => whnf)))))))
    · exact ⟨(l ++ [1, 1, 1, 1], q + 1), ⟨by dsimp only; omega, by dsimp only; omega, by simp; omega⟩, rfl, rfl⟩
    · exact ⟨(l.set _ _, q + 1 + 1 + 1), ⟨by dsimp only; omega, by dsimp only; omega, by simp; omega⟩, rfl, rfl⟩
    · exact ⟨([], q + 1), ⟨by dsimp only; omega, by dsimp only; omega, by simp⟩, rfl, rfl⟩
    · exact ⟨(l, q + 1), ⟨by dsimp only; omega, by dsimp only; omega, by dsimp only; omega⟩, rfl, rfl⟩
/-- vertices of a committee, drawn -/
def graD (c : List Int) (m : Int) (g : List Vtx) : Prop := (∀ v ∈ g, vtxS c v = true) ∧ (g.length : Int) ≤ m
theorem graD_auth {c : List Int} {m : Int} {g : List Vtx} (h : graD c m g) (r : Int) : (∀ a ∈ auth g r, 0 ≤ a ∧ a < c.length) ∧ (auth g r).length ≤ g.length := by
  refine ⟨fun a ha => ?_, ?_⟩
  · obtain ⟨v, hv, -, rfl⟩ := hasV_iff.1 (auth_mem.1 ha)
    exact (vtxS_ok (h.1 v hv)).2.1
  · unfold auth; rw [List.length_map]; exact List.length_filter_le _ _
end Go.Proofs.Ytfamejohdhkffaa.Am
namespace Go.Proofs.Ytfamejohdhkffaa.Am
set_option linter.unusedSimpArgs false
set_option linter.unusedVariables false
open Go
attribute [local irreducible] Mk Need Ari Get Idx Cnd CallM CallA Opt Unch At ConV
set_option maxRecDepth 10000
theorem tabV_mem {g : List Vtx} {v : Vtx} (h : some v ∈ tabV g) : v ∈ g := by
  induction g using snoc_ind with
  | h0 =>
    have := List.eq_of_mem_replicate h
    cases this
  | h l x ih =>
    rw [tabV_snoc] at h
    rcases List.mem_or_eq_of_mem_set h with h | h
    · exact List.mem_append.2 (.inl (ih h))
    · obtain rfl := Option.some.inj h
      simp
theorem vts_views {w : Wrl} (h : preS w = true) : (w.views.map tabV).map vtsV = w.views := by
  rw [List.map_map]
  conv => rhs; rw [← List.map_id w.views]
  refine List.map_congr_left fun g hg => ?_
  have hok := graS_ok (pre_gra h g hg)
  exact vts_tab (fun v hv => (pre_tab h g hg v hv).1) hok.pw
/-- a valid run, handed back -/
theorem iwldw_c (w : Wrl) (h : preS w = true) : ConV Try.prog 30 [.ptr 4 0] (rB w.com w.lead w.bad (w.views.map tabV) w.props) (wrlA w) (rB w.com w.lead w.bad (w.views.map tabV) w.props) := by
  obtain ⟨h1, h2, h3, h4, h5, h6⟩ := pre_ok h
  have h7 := (comV_iff.1 h1).2
  have hll := (leaS_iff.1 h2).2
  have hps := pre_pOK h
  have hpl := pro_len h4
  have hne : w.com ≠ [] := fun h => by rw [h] at h7; simp at h7
  have hc := iwld_c w.com w.lead w.bad (w.views.map tabV) w.props hne (by omega) (by omega) (fun t ht => by
    obtain ⟨g, hg, rfl⟩ := List.mem_map.1 ht
    refine ⟨tabV_len g, fun v hv => ?_⟩
    have := (pre_tab h g hg v (tabV_mem hv)).2
    omega) (by rw [List.length_map]; omega) (by rw [List.length_map]; omega) (fun p hp => by have := (hps p hp).2.2.2; omega) (by omega)
  rw [vts_views h] at hc
  exact hc
theorem pre_new (c l : List Int) (b : Int) : preS ⟨c, l, b, List.replicate (min c.length 7) [], []⟩ = newS c l b := by
  cases h : newS c l b
  · simp [preS, h]
  · have hc : comV c = true := by
      simp only [newS, Bool.and_eq_true] at h
      exact h.1
    have h7 := (comV_iff.1 hc).2
    have hn : min c.length 7 = c.length := by omega
    rw [hn]
    have h1 : proS c b [] = true := proS_nil c b
    have h2 : viwsS c b [] (List.replicate c.length []) = true := by
      refine viws_nil hc
    simp [preS, h, h1, h2]
where
  proS_nil (c : List Int) (b : Int) : proS c b [] = true := rfl
  viws_nil {c : List Int} {b : Int} (hc : comV c = true) : viwsS c b [] (List.replicate c.length []) = true := by
    refine allTo_t fun j hj => ?_
    rw [List.length_replicate] at hj
    have : (List.replicate c.length ([] : List Vtx)).getD j [] = [] := by simp [List.getD_eq_getElem?_getD, List.getElem?_replicate, hj]
    rw [this]
    simp [viwS, graS, hc, allTo]
theorem iopn_c (c l : List Int) (b : Int) (n : Nat) (hn : n = min c.length 7) : ConV Try.prog 29 [.agg [.lst (.int .i64) c, .lst (.int .i64) l, .int .i64 b, .lst (.lst .vtx) (List.replicate n []), .lst (.int .i64) []]] []
    (if newS c l b then .tup [.ptr 4 0, .bool true] else .tup [.nilp, .bool false]) (if newS c l b then rB c l b ((List.replicate n []).map tabV) [] else []) := by
  have h := iop_c ⟨c, l, b, List.replicate n [], []⟩ fun g hg => by rw [List.eq_of_mem_replicate hg]; simp
  subst hn
  simp only [opR, opO, pre_new] at h
  have hk : kpIs b ((List.replicate (min c.length 7) []).map tabV) [] = true := rfl
  rw [hk] at h
  unfold ConV at h ⊢
  exact h
theorem inew_c (c l : List Int) (b : Int) : ConV Try.prog 8 [.lst (.int .i64) c, .lst (.int .i64) l, .int .i64 b] [] (if newS c l b then .tup [wrlA (newW c l b), .bool true] else .tup [wrlZ, .bool false]) [] := by
  have hO := iopn_c c l b
  have hp := pre_new c l b
  refine con_eq Θ_ok Try.func8 rfl rfl true 0 4 rfl rfl rfl rfl fun K hK hb1 hb2 => ?_; simp only [argsV, enc, Nat.reduceAdd]
  simp [toDL, V.toD, bnd, encD, D.cells] at hb1
  cases h : newS c l b
  · simp only [h, Bool.false_eq_true, if_false] at hO
    by_cases h7 : 7 < (c.length : Int)
    · have hO := hO (7 : Int).toNat (by omega)
      (repeat (any_goals (first | (with_reducible apply at_seq) | ((with_reducible apply at_regS Θ_ok); (conv => whnf)) | ((refine go ?_); (conv => whnf)) | ((refine go2 (fun xe hxe => ?_)); (conv => whnf)) | ((with_reducible refine cnd_d (fun hq => ?_) (fun hq => ?_)) <;> (conv => whnf)) | ((with_reducible refine cnd_i (fun hq => ?_) (fun hq => ?_)) <;> ((try simp only [decide_eq_true_eq, decide_eq_false_iff_not, Bool.not_eq_true', Bool.not_eq_false', beq_iff_eq, bne_iff_ne, beq_eq_false_iff_ne, bne_eq_false_iff_eq, ne_eq] at hq) <;> (first | omega | (conv => whnf)))) | ((with_reducible first | apply at_cond | apply at_ret | apply at_exit | apply at_skip); (conv => whnf)) | (with_reducible apply at_block) | ((with_reducible refine at_regD Θ_ok mixed (by kernel_rfl) ?_); (conv => whnf)))))
      rw [if_pos h7]
      (repeat (any_goals (first | (with_reducible apply at_seq) | ((with_reducible apply at_regS Θ_ok); (conv => whnf)) | ((refine go ?_); (conv => whnf)) | ((refine go2 (fun xe hxe => ?_)); (conv => whnf)) | ((with_reducible refine cnd_d (fun hq => ?_) (fun hq => ?_)) <;> (conv => whnf)) | ((with_reducible refine cnd_i (fun hq => ?_) (fun hq => ?_)) <;> ((try simp only [decide_eq_true_eq, decide_eq_false_iff_not, Bool.not_eq_true', Bool.not_eq_false', beq_iff_eq, bne_iff_ne, beq_eq_false_iff_ne, bne_eq_false_iff_eq, ne_eq] at hq) <;> (first | omega | (conv => whnf)))) | ((with_reducible first | apply at_cond | apply at_ret | apply at_exit | apply at_skip); (conv => whnf)) | (with_reducible apply at_block) | ((with_reducible refine at_regD Θ_ok mixed (by kernel_rfl) ?_); (conv => whnf)) | ((with_reducible refine call_r ?_); (conv => whnf); (first | ((with_reducible refine call_i (hO) ?_); (conv => whnf)))))))
      exact ⟨rfl, rfl⟩
    · have hO := hO (c.length : Int).toNat (by omega)
      (repeat (any_goals (first | (with_reducible apply at_seq) | ((with_reducible apply at_regS Θ_ok); (conv => whnf)) | ((refine go ?_); (conv => whnf)) | ((refine go2 (fun xe hxe => ?_)); (conv => whnf)) | ((with_reducible refine cnd_d (fun hq => ?_) (fun hq => ?_)) <;> (conv => whnf)) | ((with_reducible refine cnd_i (fun hq => ?_) (fun hq => ?_)) <;> ((try simp only [decide_eq_true_eq, decide_eq_false_iff_not, Bool.not_eq_true', Bool.not_eq_false', beq_iff_eq, bne_iff_ne, beq_eq_false_iff_ne, bne_eq_false_iff_eq, ne_eq] at hq) <;> (first | omega | (conv => whnf)))) | ((with_reducible first | apply at_cond | apply at_ret | apply at_exit | apply at_skip); (conv => whnf)) | (with_reducible apply at_block) | ((with_reducible refine at_regD Θ_ok mixed (by kernel_rfl) ?_); (conv => whnf)))))
      rw [if_neg h7]
      (repeat (any_goals (first | (with_reducible apply at_seq) | ((with_reducible apply at_regS Θ_ok); (conv => whnf)) | ((refine go ?_); (conv => whnf)) | ((refine go2 (fun xe hxe => ?_)); (conv => whnf)) | ((with_reducible refine cnd_d (fun hq => ?_) (fun hq => ?_)) <;> (conv => whnf)) | ((with_reducible refine cnd_i (fun hq => ?_) (fun hq => ?_)) <;> ((try simp only [decide_eq_true_eq, decide_eq_false_iff_not, Bool.not_eq_true', Bool.not_eq_false', beq_iff_eq, bne_iff_ne, beq_eq_false_iff_ne, bne_eq_false_iff_eq, ne_eq] at hq) <;> (first | omega | (conv => whnf)))) | ((with_reducible first | apply at_cond | apply at_ret | apply at_exit | apply at_skip); (conv => whnf)) | (with_reducible apply at_block) | ((with_reducible refine at_regD Θ_ok mixed (by kernel_rfl) ?_); (conv => whnf)) | ((with_reducible refine call_r ?_); (conv => whnf); (first | ((with_reducible refine call_i (hO) ?_); (conv => whnf)))))))
      exact ⟨rfl, rfl⟩
  · simp only [h, if_true] at hO
    rw [h] at hp
    have hc : comV c = true := by
      simp only [newS, Bool.and_eq_true] at h
      exact h.1
    have h7 := (comV_iff.1 hc).2
    have hW := iwldw_c _ hp
    dsimp only at hW
    have hn : min c.length 7 = (c.length : Int).toNat := by omega
    rw [hn] at hW
    have hO := hO (c.length : Int).toNat (by omega)
    (repeat (any_goals (first | (with_reducible apply at_seq) | ((with_reducible apply at_regS Θ_ok); (conv => whnf)) | ((refine go ?_); (conv => whnf)) | ((refine go2 (fun xe hxe => ?_)); (conv => whnf)) | ((with_reducible refine cnd_d (fun hq => ?_) (fun hq => ?_)) <;> (conv => whnf)) | ((with_reducible refine cnd_i (fun hq => ?_) (fun hq => ?_)) <;> ((try simp only [decide_eq_true_eq, decide_eq_false_iff_not, Bool.not_eq_true', Bool.not_eq_false', beq_iff_eq, bne_iff_ne, beq_eq_false_iff_ne, bne_eq_false_iff_eq, ne_eq] at hq) <;> (first | omega | (conv => whnf)))) | ((with_reducible first | apply at_cond | apply at_ret | apply at_exit | apply at_skip); (conv => whnf)) | (with_reducible apply at_block) | ((with_reducible refine at_regD Θ_ok mixed (by kernel_rfl) ?_); (conv => whnf)))))
    rw [if_neg (by omega)]
    (repeat (any_goals (first | (with_reducible apply at_seq) | ((with_reducible apply at_regS Θ_ok); (conv => whnf)) | ((refine go ?_); (conv => whnf)) | ((refine go2 (fun xe hxe => ?_)); (conv => whnf)) | ((with_reducible refine cnd_d (fun hq => ?_) (fun hq => ?_)) <;> (conv => whnf)) | ((with_reducible refine cnd_i (fun hq => ?_) (fun hq => ?_)) <;> ((try simp only [decide_eq_true_eq, decide_eq_false_iff_not, Bool.not_eq_true', Bool.not_eq_false', beq_iff_eq, bne_iff_ne, beq_eq_false_iff_ne, bne_eq_false_iff_eq, ne_eq] at hq) <;> (first | omega | (conv => whnf)))) | ((with_reducible first | apply at_cond | apply at_ret | apply at_exit | apply at_skip); (conv => whnf)) | (with_reducible apply at_block) | ((with_reducible refine at_regD Θ_ok mixed (by kernel_rfl) ?_); (conv => whnf)) | ((with_reducible refine call_r ?_); (conv => whnf); (first | ((with_reducible refine call_i (hO) ?_); (conv => whnf)))) | ((with_reducible refine call_o ?_); (conv => whnf); (first | ((with_reducible refine call_i (hW) ?_); (conv => whnf)))))))
    rw [Int.toNat_natCast]
    exact ⟨rfl, rfl⟩
theorem sVtx_e (v : Vtx) : ConV Try.prog 36 [vtxA v, vtxA v] [] (.bool true) [] := by
  have hi := sameInts_c v.parents v.parents
  rw [decide_eq_true rfl] at hi
  refine con_eq Θ_ok Try.func36 rfl rfl false 0 4 rfl rfl rfl rfl fun K hK hb1 hb2 => ?_; simp only [argsV, enc, Nat.reduceAdd]
  clear hb1 hb2
  (repeat (any_goals (first | (with_reducible apply at_seq) | ((with_reducible apply at_regS Θ_ok); (conv => whnf)) | ((refine go ?_); (conv => whnf)) | ((refine go2 (fun xe hxe => ?_)); (conv => whnf)) | ((with_reducible refine cnd_d (fun hq => ?_) (fun hq => ?_)) <;> (conv => whnf)) | ((with_reducible refine cnd_i (fun hq => ?_) (fun hq => ?_)) <;> ((try simp only [decide_eq_true_eq, decide_eq_false_iff_not, Bool.not_eq_true', Bool.not_eq_false', beq_iff_eq, bne_iff_ne, beq_eq_false_iff_ne, bne_eq_false_iff_eq, ne_eq] at hq) <;> (first | omega | (conv => whnf)))) | ((with_reducible first | apply at_cond | apply at_ret | apply at_exit | apply at_skip); (conv => whnf)) | (with_reducible apply at_block) | ((with_reducible refine at_regD Θ_ok mixed (by kernel_rfl) ?_); (conv => whnf)) | ((with_reducible refine call_r ?_); (conv => whnf); (first | ((with_reducible refine call_i (hi) ?_); (conv => whnf)))))))
  all_goals first | (exact ⟨rfl, rfl⟩) | exact absurd rfl hq | exact absurd trivial hq | cases hq
theorem sGra_e (g : List Vtx) : ConV Try.prog 35 [.lst .vtx g, .lst .vtx g] [] (.bool true) [] := by
  refine con_eq Θ_ok Try.func35 rfl rfl false 0 4 rfl rfl rfl rfl fun K hK hb1 hb2 => ?_; simp only [argsV, enc, Nat.reduceAdd]
  simp [toDL, V.toD, bnd, encD, D.cells] at hb1
  (repeat (any_goals (first | (with_reducible apply at_seq) | ((with_reducible apply at_regS Θ_ok); (conv => whnf)) | ((refine go ?_); (conv => whnf)) | ((refine go2 (fun xe hxe => ?_)); (conv => whnf)) | ((with_reducible refine cnd_d (fun hq => ?_) (fun hq => ?_)) <;> (conv => whnf)) | ((with_reducible refine cnd_i (fun hq => ?_) (fun hq => ?_)) <;> ((try simp only [decide_eq_true_eq, decide_eq_false_iff_not, Bool.not_eq_true', Bool.not_eq_false', beq_iff_eq, bne_iff_ne, beq_eq_false_iff_ne, bne_eq_false_iff_eq, ne_eq] at hq) <;> (first | omega | (conv => whnf)))) | ((with_reducible first | apply at_cond | apply at_ret | apply at_exit | apply at_skip); (conv => whnf)) | (with_reducible apply at_block) | ((with_reducible refine at_regD Θ_ok mixed (by kernel_rfl) ?_); (conv => whnf)))))
  · exact absurd trivial hq
  refine at_loop hK [] [0, 1, 5] (fun i : Nat => ⟨[(0, .lst .vtx g), (1, .lst .vtx g), (5, .int .i64 i)], [], 4⟩) (fun i => i ≤ g.length) (fun i => g.length - i) 0 (by simp) rfl ?_
  intro i hi
  by_cases hlt : i < g.length
  · have hx : g[i]? = some g[i] := List.getElem?_eq_getElem hlt
    generalize g[i] = x at *
    (repeat (any_goals (first | (with_reducible apply at_seq) | ((with_reducible apply at_regS Θ_ok); (conv => whnf)) | ((refine go ?_); (conv => whnf)) | ((refine go2 (fun xe hxe => ?_)); (conv => whnf)) | ((with_reducible refine cnd_d (fun hq => ?_) (fun hq => ?_)) <;> (conv => whnf)) | ((with_reducible refine cnd_i (fun hq => ?_) (fun hq => ?_)) <;> ((try simp only [decide_eq_true_eq, decide_eq_false_iff_not, Bool.not_eq_true', Bool.not_eq_false', beq_iff_eq, bne_iff_ne, beq_eq_false_iff_ne, bne_eq_false_iff_eq, ne_eq] at hq) <;> (first | omega | (conv => whnf)))) | ((with_reducible first | apply at_cond | apply at_ret | apply at_exit | apply at_skip); (conv => whnf)) | (with_reducible apply at_block) | ((with_reducible refine at_regD Θ_ok mixed (by kernel_rfl) ?_); (conv => whnf)) | ((with_reducible refine call_r ?_); (conv => whnf); (first | ((with_reducible refine call_i (sVtx_e _) ?_); (conv => whnf)))))))
    exact ⟨i + 1, by omega, by omega, rfl⟩
  · (repeat (any_goals (first | (with_reducible apply at_seq) | ((with_reducible apply at_regS Θ_ok); (conv => whnf)) | ((refine go ?_); (conv => whnf)) | ((refine go2 (fun xe hxe => ?_)); (conv => whnf)) | ((with_reducible refine cnd_d (fun hq => ?_) (fun hq => ?_)) <;> (conv => whnf)) | ((with_reducible refine cnd_i (fun hq => ?_) (fun hq => ?_)) <;> ((try simp only [decide_eq_true_eq, decide_eq_false_iff_not, Bool.not_eq_true', Bool.not_eq_false', beq_iff_eq, bne_iff_ne, beq_eq_false_iff_ne, bne_eq_false_iff_eq, ne_eq] at hq) <;> (first | omega | (conv => whnf)))) | ((with_reducible first | apply at_cond | apply at_ret | apply at_exit | apply at_skip); (conv => whnf)) | (with_reducible apply at_block) | ((with_reducible refine at_regD Θ_ok mixed (by kernel_rfl) ?_); (conv => whnf)))))
    exact ⟨rfl, rfl⟩
theorem sWrl_e (w : Wrl) : ConV Try.prog 10 [wrlA w, wrlA w] [] (.bool true) [] := by
  have hi1 := sameInts_c w.com w.com
  have hi2 := sameInts_c w.lead w.lead
  rw [decide_eq_true rfl] at hi1 hi2
  refine con_eq Θ_ok Try.func10 rfl rfl false 0 4 rfl rfl rfl rfl fun K hK hb1 hb2 => ?_; simp only [argsV, enc, Nat.reduceAdd]
  simp [toDL, V.toD, bnd, encD, D.cells] at hb1
  (repeat (any_goals (first | (with_reducible apply at_seq) | ((with_reducible apply at_regS Θ_ok); (conv => whnf)) | ((refine go ?_); (conv => whnf)) | ((refine go2 (fun xe hxe => ?_)); (conv => whnf)) | ((with_reducible refine cnd_d (fun hq => ?_) (fun hq => ?_)) <;> (conv => whnf)) | ((with_reducible refine cnd_i (fun hq => ?_) (fun hq => ?_)) <;> ((try simp only [decide_eq_true_eq, decide_eq_false_iff_not, Bool.not_eq_true', Bool.not_eq_false', beq_iff_eq, bne_iff_ne, beq_eq_false_iff_ne, bne_eq_false_iff_eq, ne_eq] at hq) <;> (first | omega | (conv => whnf)))) | ((with_reducible first | apply at_cond | apply at_ret | apply at_exit | apply at_skip); (conv => whnf)) | (with_reducible apply at_block) | ((with_reducible refine at_regD Θ_ok mixed (by kernel_rfl) ?_); (conv => whnf)) | ((with_reducible refine call_r ?_); (conv => whnf); (first | ((with_reducible refine call_i (hi1) ?_); (conv => whnf)) | ((with_reducible refine call_i (hi2) ?_); (conv => whnf)))))))
  all_goals try exact absurd trivial hq
  all_goals try exact absurd rfl hq
  refine at_loop hK [] [2, 3, 5] (fun i : Nat => ⟨[(2, .ptr 4 0), (3, .ptr 5 0), (5, .int .i64 i)], [(4, .var 29 (wrlA w).cells), (5, .var 29 (wrlA w).cells)], 6⟩) (fun i => i ≤ w.views.length) (fun i => w.views.length - i) 0 (by simp) rfl ?_
  intro i hi
  by_cases hlt : i < w.views.length
  · have hx : w.views[i]? = some w.views[i] := List.getElem?_eq_getElem hlt
    generalize w.views[i] = x at *
    (repeat (any_goals (first | (with_reducible apply at_seq) | ((with_reducible apply at_regS Θ_ok); (conv => whnf)) | ((refine go ?_); (conv => whnf)) | ((refine go2 (fun xe hxe => ?_)); (conv => whnf)) | ((with_reducible refine cnd_d (fun hq => ?_) (fun hq => ?_)) <;> (conv => whnf)) | ((with_reducible refine cnd_i (fun hq => ?_) (fun hq => ?_)) <;> ((try simp only [decide_eq_true_eq, decide_eq_false_iff_not, Bool.not_eq_true', Bool.not_eq_false', beq_iff_eq, bne_iff_ne, beq_eq_false_iff_ne, bne_eq_false_iff_eq, ne_eq] at hq) <;> (first | omega | (conv => whnf)))) | ((with_reducible first | apply at_cond | apply at_ret | apply at_exit | apply at_skip); (conv => whnf)) | (with_reducible apply at_block) | ((with_reducible refine at_regD Θ_ok mixed (by kernel_rfl) ?_); (conv => whnf)) | ((with_reducible refine call_r ?_); (conv => whnf); (first | ((with_reducible refine call_i (sGra_e _) ?_); (conv => whnf)))))))
    exact ⟨i + 1, by omega, by omega, rfl⟩
  (repeat (any_goals (first | (with_reducible apply at_seq) | ((with_reducible apply at_regS Θ_ok); (conv => whnf)) | ((refine go ?_); (conv => whnf)) | ((refine go2 (fun xe hxe => ?_)); (conv => whnf)) | ((with_reducible refine cnd_d (fun hq => ?_) (fun hq => ?_)) <;> (conv => whnf)) | ((with_reducible refine cnd_i (fun hq => ?_) (fun hq => ?_)) <;> ((try simp only [decide_eq_true_eq, decide_eq_false_iff_not, Bool.not_eq_true', Bool.not_eq_false', beq_iff_eq, bne_iff_ne, beq_eq_false_iff_ne, bne_eq_false_iff_eq, ne_eq] at hq) <;> (first | omega | (conv => whnf)))) | ((with_reducible first | apply at_cond | apply at_ret | apply at_exit | apply at_skip); (conv => whnf)) | (with_reducible apply at_block) | ((with_reducible refine at_regD Θ_ok mixed (by kernel_rfl) ?_); (conv => whnf)))))
  refine at_loop hK [] [2, 3, 6] (fun i : Nat => ⟨[(2, .ptr 4 0), (3, .ptr 5 0), (6, .int .i64 i)], [(4, .var 29 (wrlA w).cells), (5, .var 29 (wrlA w).cells)], 6⟩) (fun i => i ≤ w.props.length) (fun i => w.props.length - i) 0 (by simp) rfl ?_
  intro k hk
  by_cases hkl : k < w.props.length
  · have hx : w.props[k]? = some w.props[k] := List.getElem?_eq_getElem hkl
    generalize w.props[k] = p at *
    have hi3 := sameInts_c p.members p.members
    rw [decide_eq_true rfl] at hi3
    (repeat (any_goals (first | (with_reducible apply at_seq) | ((with_reducible apply at_regS Θ_ok); (conv => whnf)) | ((refine go ?_); (conv => whnf)) | ((refine go2 (fun xe hxe => ?_)); (conv => whnf)) | ((with_reducible refine cnd_d (fun hq => ?_) (fun hq => ?_)) <;> (conv => whnf)) | ((with_reducible refine cnd_i (fun hq => ?_) (fun hq => ?_)) <;> ((try simp only [decide_eq_true_eq, decide_eq_false_iff_not, Bool.not_eq_true', Bool.not_eq_false', beq_iff_eq, bne_iff_ne, beq_eq_false_iff_ne, bne_eq_false_iff_eq, ne_eq] at hq) <;> (first | omega | (conv => whnf)))) | ((with_reducible first | apply at_cond | apply at_ret | apply at_exit | apply at_skip); (conv => whnf)) | (with_reducible apply at_block) | ((with_reducible refine at_regD Θ_ok mixed (by kernel_rfl) ?_); (conv => whnf)) | ((with_reducible refine call_r ?_); (conv => whnf); (first | ((with_reducible refine call_i (sVtx_e _) ?_); (conv => whnf)) | ((with_reducible refine call_i (hi3) ?_); (conv => whnf)))))))
    exact ⟨k + 1, by omega, by omega, rfl⟩
  (repeat (any_goals (first | (with_reducible apply at_seq) | ((with_reducible apply at_regS Θ_ok); (conv => whnf)) | ((refine go ?_); (conv => whnf)) | ((refine go2 (fun xe hxe => ?_)); (conv => whnf)) | ((with_reducible refine cnd_d (fun hq => ?_) (fun hq => ?_)) <;> (conv => whnf)) | ((with_reducible refine cnd_i (fun hq => ?_) (fun hq => ?_)) <;> ((try simp only [decide_eq_true_eq, decide_eq_false_iff_not, Bool.not_eq_true', Bool.not_eq_false', beq_iff_eq, bne_iff_ne, beq_eq_false_iff_ne, bne_eq_false_iff_eq, ne_eq] at hq) <;> (first | omega | (conv => whnf)))) | ((with_reducible first | apply at_cond | apply at_ret | apply at_exit | apply at_skip); (conv => whnf)) | (with_reducible apply at_block) | ((with_reducible refine at_regD Θ_ok mixed (by kernel_rfl) ?_); (conv => whnf)))))
  exact ⟨rfl, rfl⟩
theorem sWrl_z : ConV Try.prog 10 [.agg [.lst (.int .i64) [], .lst (.int .i64) [], .int .i64 0, .lst (.int .i64) [], .lst (.int .i64) []], .agg [.lst (.int .i64) [], .lst (.int .i64) [], .int .i64 0, .lst (.int .i64) [], .lst (.int .i64) []]] [] (.bool true) [] := by
  have h := sWrl_e w0
  unfold ConV at h ⊢
  exact h
theorem wrl_new {c l : List Int} {b : Int} (h : newS c l b = true) : wrlS (newW c l b) = true := by
  have hc : comV c = true := by
    simp only [newS, Bool.and_eq_true] at h
    exact h.1
  have h7 := (comV_iff.1 hc).2
  have hp := pre_new c l b
  rw [show min c.length 7 = c.length by omega, h] at hp
  rw [wrlS_eq]
  have : preS (newW c l b) = true := hp
  rw [this]
  rfl
end Go.Proofs.Ytfamejohdhkffaa.Am
namespace Go.Proofs.Ytfamejohdhkffaa.Am
set_option linter.unusedSimpArgs false
set_option linter.unusedVariables false
open Go
attribute [local irreducible] Mk Need Ari Get Idx Cnd CallM CallA Opt Unch At ConV
set_option maxRecDepth 10000
theorem dlea_c (b : List Int) (p : Int) (c : List Int) (n : Int) (h : rdOK b 0) (hp : 0 ≤ p ∧ p ≤ 1000000) (hc : c.length ≤ 11) (hn : n ≤ 10) : ∃ x : List Int × Int, (p ≤ x.2 ∧ x.2 ≤ p + 20 ∧ x.1.length ≤ 30) ∧ ConV Try.prog 27 [.ptr 4 0, .lst (.int .i64) c, .int .i64 n] [(4, rdB b p)] (.lst (.int .i64) x.1) [(4, rdB b x.2)] := by
  suffices hs : ∃ r hout, (∃ x : List Int × Int, (p ≤ x.2 ∧ x.2 ≤ p + 20 ∧ x.1.length ≤ 30) ∧ r = .lst (.int .i64) x.1 ∧ hout = [(4, rdB b x.2)]) ∧ ConV Try.prog 27 [.ptr 4 0, .lst (.int .i64) c, .int .i64 n] [(4, rdB b p)] r hout by
    obtain ⟨r, hout, ⟨v, hv, rfl, rfl⟩, h⟩ := hs
    exact ⟨v, hv, h⟩
  refine con_ex Θ_ok Try.func27 rfl rfl true 1 5 rfl rfl rfl rfl (R := fun r hout => ∃ x : List Int × Int, (p ≤ x.2 ∧ x.2 ≤ p + 20 ∧ x.1.length ≤ 30) ∧ r = .lst (.int .i64) x.1 ∧ hout = [(4, rdB b x.2)]) (r0 := .lst (.int .i64) []) (hout0 := [(4, rdB b p)]) (⟨([], p), by simp; omega, rfl, rfl⟩) fun K hK hb1 hb2 => ?_; simp only [argsV, enc, Nat.reduceAdd]
  clear hb1 hb2
  (repeat (any_goals (first | (with_reducible apply at_seq) | ((with_reducible apply at_regS Θ_ok); (conv => whnf)) | ((refine go ?_); (conv => whnf)) | ((refine go2 (fun xe hxe => ?_)); (conv => whnf)) | ((with_reducible refine cnd_d (fun hq => ?_) (fun hq => ?_)) <;> (conv => whnf)) | ((with_reducible refine cnd_i (fun hq => ?_) (fun hq => ?_)) <;> ((try simp only [decide_eq_true_eq, decide_eq_false_iff_not, Bool.not_eq_true', Bool.not_eq_false', beq_iff_eq, bne_iff_ne, beq_eq_false_iff_ne, bne_eq_false_iff_eq, ne_eq] at hq) <;> (first | omega | (conv => whnf)))) | ((with_reducible first | apply at_cond | apply at_ret | apply at_exit | apply at_skip); (conv => whnf)) | (with_reducible apply at_block) | ((with_reducible refine at_regD Θ_ok mixed (by kernel_rfl) ?_); (conv => whnf)))))
  refine at_loop hK [] [0, 1, 2, 7, 8] (fun i : Nat × List Int × Int => ⟨[(0, .ptr 4 0), (1, .lst (.int .i64) c), (2, .int .i64 n), (7, .ref 5), (8, .int .i64 i.1)], [(4, rdB b i.2.2), (5, .row 3 (.int .i64) i.2.1)], 6⟩)
    (fun i => (i.1 : Int) ≤ max n 0 ∧ i.2.1.length = i.1 ∧ i.2.2 = p + i.1) (fun i => 10 - i.1) (0, [], p) (by simp; omega) rfl ?_
  rintro ⟨i, l, q⟩ ⟨hi1, hi2, hi3⟩
  dsimp only at hi1 hi2 hi3 ⊢
  by_cases hlt : (i : Int) < n
  · (repeat (any_goals (first | (with_reducible apply at_seq) | ((with_reducible apply at_regS Θ_ok); (conv => whnf)) | ((refine go ?_); (conv => whnf)) | ((refine go2 (fun xe hxe => ?_)); (conv => whnf)) | ((with_reducible refine cnd_d (fun hq => ?_) (fun hq => ?_)) <;> (conv => whnf)) | ((with_reducible refine cnd_i (fun hq => ?_) (fun hq => ?_)) <;> ((try simp only [decide_eq_true_eq, decide_eq_false_iff_not, Bool.not_eq_true', Bool.not_eq_false', beq_iff_eq, bne_iff_ne, beq_eq_false_iff_ne, bne_eq_false_iff_eq, ne_eq] at hq) <;> (first | omega | (conv => whnf)))) | ((with_reducible first | apply at_cond | apply at_ret | apply at_exit | apply at_skip); (conv => whnf)) | (with_reducible apply at_block) | ((with_reducible refine at_regD Θ_ok mixed (by kernel_rfl) ?_); (conv => whnf)) | ((with_reducible refine call_r ?_); (conv => whnf); (first | ((refine call_ex (pk_c b _ _ h (by omega) (by omega)) (fun xv hxv => ?_)); (conv => whnf)))))))
    exact ⟨(i + 1, l ++ [xv], q + 1), ⟨by dsimp only; omega, by simp; omega, by dsimp only; omega⟩, by dsimp only; omega, rfl⟩
  · (repeat (any_goals (first | (with_reducible apply at_seq) | ((with_reducible apply at_regS Θ_ok); (conv => whnf)) | ((refine go ?_); (conv => whnf)) | ((refine go2 (fun xe hxe => ?_)); (conv => whnf)) | ((with_reducible refine cnd_d (fun hq => ?_) (fun hq => ?_)) <;> (conv => whnf)) | ((with_reducible refine cnd_i (fun hq => ?_) (fun hq => ?_)) <;> ((try simp only [decide_eq_true_eq, decide_eq_false_iff_not, Bool.not_eq_true', Bool.not_eq_false', beq_iff_eq, bne_iff_ne, beq_eq_false_iff_ne, bne_eq_false_iff_eq, ne_eq] at hq) <;> (first | omega | (conv => whnf)))) | ((with_reducible first | apply at_cond | apply at_ret | apply at_exit | apply at_skip); (conv => whnf)) | (with_reducible apply at_block) | ((with_reducible refine at_regD Θ_ok mixed (by kernel_rfl) ?_); (conv => whnf)) | ((with_reducible refine call_r ?_); (conv => whnf); (first | ((refine call_ex (pk_c b _ _ h (by omega) (by omega)) (fun xv hxv => ?_)); (conv => whnf)))))))
    · exact ⟨(l ++ [(c.length : Int)], q + 1), ⟨by dsimp only; omega, by dsimp only; omega, by simp; omega⟩, rfl, rfl⟩
    · exact ⟨(l ++ List.replicate 15 0, q + 1), ⟨by dsimp only; omega, by dsimp only; omega, by simp; omega⟩, rfl, rfl⟩
    · exact ⟨(l, q + 1), ⟨by dsimp only; omega, by dsimp only; omega, by dsimp only; omega⟩, rfl, rfl⟩
theorem rd0w {c : List Int} (h : ∀ x ∈ c, 0 ≤ x ∧ x ≤ 255) : rdOK (c.take 2000) 0 := ⟨by rw [List.length_take]; omega, fun x hx => h x (List.mem_of_mem_take hx), by omega, by omega⟩
theorem dnew_c (c : List Int) (hc : ∀ x ∈ c, 0 ≤ x ∧ x ≤ 255) : ∃ x : (List Int × List Int) × Int, (x.1.1.length ≤ 11 ∧ x.1.2.length ≤ 30) ∧ ConV Try.prog 7 [.lst (.int .u8) c] [] (.tup [.lst (.int .i64) x.1.1, .lst (.int .i64) x.1.2, .int .i64 x.2]) [] := by
  have h := rd0w hc
  obtain ⟨⟨cm, q⟩, ⟨h1, h2, h3⟩, hs⟩ := dcom_c _ 0 h (by omega)
  dsimp only at h1 h2 h3 hs
  obtain ⟨n, hn, hnc⟩ := pk_c _ q 10 h (by omega) (by omega)
  obtain ⟨⟨l, q2⟩, ⟨h4, h5, h6⟩, hl⟩ := dlea_c _ (q + 1) cm n h (by omega) h3 (by omega)
  dsimp only at h4 h5 h6 hl
  obtain ⟨z, hz, hzc⟩ := pk_c _ q2 ((cm.length : Int) + 2) h (by omega) (by omega)
  refine ⟨((cm, l), z - 1), ⟨h3, h6⟩, ?_⟩
  refine con_eq Θ_ok Try.func7 rfl rfl true 0 4 rfl rfl rfl rfl fun K hK hb1 hb2 => ?_; simp only [argsV, enc, Nat.reduceAdd]
  clear hb1 hb2
  (repeat (any_goals (first | (with_reducible apply at_seq) | ((with_reducible apply at_regS Θ_ok); (conv => whnf)) | ((refine go ?_); (conv => whnf)) | ((refine go2 (fun xe hxe => ?_)); (conv => whnf)) | ((with_reducible refine cnd_d (fun hq => ?_) (fun hq => ?_)) <;> (conv => whnf)) | ((with_reducible refine cnd_i (fun hq => ?_) (fun hq => ?_)) <;> ((try simp only [decide_eq_true_eq, decide_eq_false_iff_not, Bool.not_eq_true', Bool.not_eq_false', beq_iff_eq, bne_iff_ne, beq_eq_false_iff_ne, bne_eq_false_iff_eq, ne_eq] at hq) <;> (first | omega | (conv => whnf)))) | ((with_reducible first | apply at_cond | apply at_ret | apply at_exit | apply at_skip); (conv => whnf)) | (with_reducible apply at_block) | ((with_reducible refine at_regD Θ_ok mixed (by kernel_rfl) ?_); (conv => whnf)) | ((with_reducible refine call_r ?_); (conv => whnf); (first | ((with_reducible refine call_i (open_c _) ?_); (conv => whnf)) | ((with_reducible refine call_i (hs) ?_); (conv => whnf)) | ((with_reducible refine call_i (hnc) ?_); (conv => whnf)) | ((with_reducible refine call_i (hl) ?_); (conv => whnf)) | ((with_reducible refine call_i (hzc) ?_); (conv => whnf)))))))
  exact ⟨rfl, rfl⟩
theorem lawNew_c (c : List Int) (hc : ∀ x ∈ c, 0 ≤ x ∧ x ≤ 255) : ConV Try.prog 3 [.lst (.int .u8) c] [] (.bool true) [] := by
  obtain ⟨⟨⟨cm, l⟩, b⟩, ⟨h1, h2⟩, hd⟩ := dnew_c c hc
  dsimp only at h1 h2 hd
  have hI := inew_c cm l b
  have hS := snew_c cm l b (by omega)
  refine con_eq Θ_ok Try.func3 rfl rfl false 0 4 rfl rfl rfl rfl fun K hK hb1 hb2 => ?_; simp only [argsV, enc, Nat.reduceAdd]
  clear hb1 hb2
  by_cases hl : 1048576 < (c.length : Int)
  · (repeat (any_goals (first | (with_reducible apply at_seq) | ((with_reducible apply at_regS Θ_ok); (conv => whnf)) | ((refine go ?_); (conv => whnf)) | ((refine go2 (fun xe hxe => ?_)); (conv => whnf)) | ((with_reducible refine cnd_d (fun hq => ?_) (fun hq => ?_)) <;> (conv => whnf)) | ((with_reducible refine cnd_i (fun hq => ?_) (fun hq => ?_)) <;> ((try simp only [decide_eq_true_eq, decide_eq_false_iff_not, Bool.not_eq_true', Bool.not_eq_false', beq_iff_eq, bne_iff_ne, beq_eq_false_iff_ne, bne_eq_false_iff_eq, ne_eq] at hq) <;> (first | omega | (conv => whnf)))) | ((with_reducible first | apply at_cond | apply at_ret | apply at_exit | apply at_skip); (conv => whnf)) | (with_reducible apply at_block) | ((with_reducible refine at_regD Θ_ok mixed (by kernel_rfl) ?_); (conv => whnf)))))
    exact ⟨rfl, rfl⟩
  cases hn : newS cm l b
  · rw [hn] at hI hS
    simp only [Bool.false_eq_true, if_false] at hI hS
    (repeat (any_goals (first | (with_reducible apply at_seq) | ((with_reducible apply at_regS Θ_ok); (conv => whnf)) | ((refine go ?_); (conv => whnf)) | ((refine go2 (fun xe hxe => ?_)); (conv => whnf)) | ((with_reducible refine cnd_d (fun hq => ?_) (fun hq => ?_)) <;> (conv => whnf)) | ((with_reducible refine cnd_i (fun hq => ?_) (fun hq => ?_)) <;> ((try simp only [decide_eq_true_eq, decide_eq_false_iff_not, Bool.not_eq_true', Bool.not_eq_false', beq_iff_eq, bne_iff_ne, beq_eq_false_iff_ne, bne_eq_false_iff_eq, ne_eq] at hq) <;> (first | omega | (conv => whnf)))) | ((with_reducible first | apply at_cond | apply at_ret | apply at_exit | apply at_skip); (conv => whnf)) | (with_reducible apply at_block) | ((with_reducible refine at_regD Θ_ok mixed (by kernel_rfl) ?_); (conv => whnf)) | ((with_reducible refine call_r ?_); (conv => whnf); (first | ((with_reducible refine call_i (hd) ?_); (conv => whnf)) | ((with_reducible refine call_i (hI) ?_); (conv => whnf)) | ((with_reducible refine call_i (hS) ?_); (conv => whnf)) | ((with_reducible refine call_i (sWrl_z) ?_); (conv => whnf)))))))
    all_goals first | (exact ⟨rfl, rfl⟩) | exact absurd rfl hq | exact absurd trivial hq | cases hq
  · rw [hn] at hI hS
    simp only [if_true] at hI hS
    have hcv : comV cm = true ∧ badS cm b = true := by
      simp only [newS, Bool.and_eq_true] at hn
      exact ⟨hn.1, hn.2.2⟩
    have h7 := (comV_iff.1 hcv.1).2
    have hb := badS_iff.1 hcv.2
    have hF := icfau_c cm
    rw [if_pos hcv.1] at hF
    have hE := sWrl_e (newW cm l b)
    have hV := iwV_c (newW cm l b) fun g hg => by rw [List.eq_of_mem_replicate hg]; simp
    rw [wrl_new hn] at hV
    have hvl : (newW cm l b).views.length = cm.length := by simp [newW]
    have hvx : ∀ i, i < cm.length → (newW cm l b).views[i]? = some [] := fun i hi => by simp [newW, List.getElem?_replicate, hi]
    have hpe : (newW cm l b).props = [] := rfl
    (repeat (any_goals (first | (with_reducible apply at_seq) | ((with_reducible apply at_regS Θ_ok); (conv => whnf)) | ((refine go ?_); (conv => whnf)) | ((refine go2 (fun xe hxe => ?_)); (conv => whnf)) | ((with_reducible refine cnd_d (fun hq => ?_) (fun hq => ?_)) <;> (conv => whnf)) | ((with_reducible refine cnd_i (fun hq => ?_) (fun hq => ?_)) <;> ((try simp only [decide_eq_true_eq, decide_eq_false_iff_not, Bool.not_eq_true', Bool.not_eq_false', beq_iff_eq, bne_iff_ne, beq_eq_false_iff_ne, bne_eq_false_iff_eq, ne_eq] at hq) <;> (first | omega | (conv => whnf)))) | ((with_reducible first | apply at_cond | apply at_ret | apply at_exit | apply at_skip); (conv => whnf)) | (with_reducible apply at_block) | ((with_reducible refine at_regD Θ_ok mixed (by kernel_rfl) ?_); (conv => whnf)) | ((with_reducible refine call_r ?_); (conv => whnf); (first | ((with_reducible refine call_i (hd) ?_); (conv => whnf)) | ((with_reducible refine call_i (hI) ?_); (conv => whnf)) | ((with_reducible refine call_i (hS) ?_); (conv => whnf)) | ((with_reducible refine call_i (hE) ?_); (conv => whnf)))))))
    all_goals try exact absurd trivial hq
    all_goals try exact absurd rfl hq
    refine at_loop hK [] [3, 5, 6, 10] (fun i : Nat => ⟨[(3, .lst (.int .i64) cm), (5, .int .i64 b), (6, .ptr 4 0), (10, .int .i64 i)], [(4, .var 29 (wrlA (newW cm l b)).cells)], 5⟩) (fun i => i ≤ cm.length) (fun i => cm.length - i) 0 (by omega) rfl ?_
    intro i hi
    by_cases hlt : i < cm.length
    · have hx := hvx i hlt
      generalize (newW cm l b) = w at *
      (repeat (any_goals (first | (with_reducible apply at_seq) | ((with_reducible apply at_regS Θ_ok); (conv => whnf)) | ((refine go ?_); (conv => whnf)) | ((refine go2 (fun xe hxe => ?_)); (conv => whnf)) | ((with_reducible refine cnd_d (fun hq => ?_) (fun hq => ?_)) <;> (conv => whnf)) | ((with_reducible refine cnd_i (fun hq => ?_) (fun hq => ?_)) <;> ((try simp only [decide_eq_true_eq, decide_eq_false_iff_not, Bool.not_eq_true', Bool.not_eq_false', beq_iff_eq, bne_iff_ne, beq_eq_false_iff_ne, bne_eq_false_iff_eq, ne_eq] at hq) <;> (first | omega | (conv => whnf)))) | ((with_reducible first | apply at_cond | apply at_ret | apply at_exit | apply at_skip); (conv => whnf)) | (with_reducible apply at_block) | ((with_reducible refine at_regD Θ_ok mixed (by kernel_rfl) ?_); (conv => whnf)))))
      · exact absurd hq (by simp)
      · exact ⟨i + 1, by omega, by omega, rfl⟩
    · by_cases hb0 : b < 0
      · (repeat (any_goals (first | (with_reducible apply at_seq) | ((with_reducible apply at_regS Θ_ok); (conv => whnf)) | ((refine go ?_); (conv => whnf)) | ((refine go2 (fun xe hxe => ?_)); (conv => whnf)) | ((with_reducible refine cnd_d (fun hq => ?_) (fun hq => ?_)) <;> (conv => whnf)) | ((with_reducible refine cnd_i (fun hq => ?_) (fun hq => ?_)) <;> ((try simp only [decide_eq_true_eq, decide_eq_false_iff_not, Bool.not_eq_true', Bool.not_eq_false', beq_iff_eq, bne_iff_ne, beq_eq_false_iff_ne, bne_eq_false_iff_eq, ne_eq] at hq) <;> (first | omega | (conv => whnf)))) | ((with_reducible first | apply at_cond | apply at_ret | apply at_exit | apply at_skip); (conv => whnf)) | (with_reducible apply at_block) | ((with_reducible refine at_regD Θ_ok mixed (by kernel_rfl) ?_); (conv => whnf)) | ((with_reducible refine call_r ?_); (conv => whnf); (first | ((with_reducible refine call_i (hV) ?_); (conv => whnf)) | ((with_reducible refine call_i (hF) ?_); (conv => whnf)))))))
        all_goals first | (exact ⟨rfl, rfl⟩) | exact absurd (by simp [newW]) hq
      · have hx : cm[b.toNat]? = some (cm.getD b.toNat 0) := by rw [List.getD_eq_getElem?_getD, List.getElem?_eq_getElem (show b.toNat < cm.length by omega)]; rfl
        have hle : cm.getD b.toNat 0 ≤ fau cm := by
          rcases hb with hb | hb
          · omega
          · exact hb.2
        generalize cm.getD b.toNat 0 = x at *
        (repeat (any_goals (first | (with_reducible apply at_seq) | ((with_reducible apply at_regS Θ_ok); (conv => whnf)) | ((refine go ?_); (conv => whnf)) | ((refine go2 (fun xe hxe => ?_)); (conv => whnf)) | ((with_reducible refine cnd_d (fun hq => ?_) (fun hq => ?_)) <;> (conv => whnf)) | ((with_reducible refine cnd_i (fun hq => ?_) (fun hq => ?_)) <;> ((try simp only [decide_eq_true_eq, decide_eq_false_iff_not, Bool.not_eq_true', Bool.not_eq_false', beq_iff_eq, bne_iff_ne, beq_eq_false_iff_ne, bne_eq_false_iff_eq, ne_eq] at hq) <;> (first | omega | (conv => whnf)))) | ((with_reducible first | apply at_cond | apply at_ret | apply at_exit | apply at_skip); (conv => whnf)) | (with_reducible apply at_block) | ((with_reducible refine at_regD Θ_ok mixed (by kernel_rfl) ?_); (conv => whnf)) | ((with_reducible refine call_r ?_); (conv => whnf); (first | ((with_reducible refine call_i (hV) ?_); (conv => whnf)) | ((with_reducible refine call_i (hF) ?_); (conv => whnf)))))))
        all_goals first | (exact ⟨rfl, rfl⟩) | (exact ⟨by rw [decide_eq_true hle], rfl⟩) | exact absurd (by simp [newW]) hq
end Go.Proofs.Ytfamejohdhkffaa.Am
