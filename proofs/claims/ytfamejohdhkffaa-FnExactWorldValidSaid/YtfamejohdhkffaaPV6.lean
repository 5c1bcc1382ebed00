/- Committees and graphs: what the specification's functions give. Committees and vertices: what the program's functions give. Graphs: what the program's functions give. Graphs: a vertex is linked. Graphs: all vertices are linked. Graphs: heights, authors, places. -/
import Derived.Test.YtfamejohdhkffaaPV5
namespace Go.Proofs.Ytfamejohdhkffaa.Am
set_option linter.unusedSimpArgs false
set_option linter.unusedVariables false
open Go
attribute [local irreducible] Mk Need Ari Get Idx Cnd CallM CallA Opt Unch At ConV
set_option maxRecDepth 10000

theorem in_c (n lo hi : Int) : ConV Try.prog 32 [.int .i64 n, .int .i64 lo, .int .i64 hi] [] (.bool (vIn n lo hi)) [] := by
  refine con_eq Θ_ok Try.func32 rfl rfl false 0 4 rfl rfl rfl rfl fun K hK hb1 hb2 => ?_; simp only [argsV, enc, Nat.reduceAdd]
  (repeat (any_goals (first | (with_reducible apply at_seq) | ((with_reducible apply at_regS Θ_ok); (conv => whnf)) | ((refine go ?_); (conv => whnf)) | ((refine go2 (fun xe hxe => ?_)); (conv => whnf)) | ((with_reducible refine cnd_d (fun hq => ?_) (fun hq => ?_)) <;> (conv => whnf)) | ((with_reducible refine cnd_i (fun hq => ?_) (fun hq => ?_)) <;> ((try simp only [decide_eq_true_eq, decide_eq_false_iff_not, Bool.not_eq_true', Bool.not_eq_false', beq_iff_eq, bne_iff_ne, beq_eq_false_iff_ne, bne_eq_false_iff_eq, ne_eq] at hq) <;> (first | omega | (conv => whnf)))) | ((with_reducible first | apply at_cond | apply at_ret | apply at_exit | apply at_skip); (conv => whnf)) | (with_reducible apply at_block) | ((with_reducible refine at_regD Θ_ok mixed (by kernel_rfl) ?_); (conv => whnf)))))
  all_goals (refine ⟨?_, rfl⟩; simp_all [vIn])
  omega
theorem comV_c (c : List Int) : ConV Try.prog 66 [.lst (.int .i64) c] [] (.bool (comV c)) [] := by
  refine con_eq Θ_ok Try.func66 rfl rfl false 0 4 rfl rfl rfl rfl fun K hK hb1 hb2 => ?_; simp only [argsV, enc, Nat.reduceAdd]
  simp [toDL, V.toD, bnd, encD, D.cells] at hb1
  (repeat (any_goals (first | (with_reducible apply at_seq) | ((with_reducible apply at_regS Θ_ok); (conv => whnf)) | ((refine go ?_); (conv => whnf)) | ((refine go2 (fun xe hxe => ?_)); (conv => whnf)) | ((with_reducible refine cnd_d (fun hq => ?_) (fun hq => ?_)) <;> (conv => whnf)) | ((with_reducible refine cnd_i (fun hq => ?_) (fun hq => ?_)) <;> ((try simp only [decide_eq_true_eq, decide_eq_false_iff_not, Bool.not_eq_true', Bool.not_eq_false', beq_iff_eq, bne_iff_ne, beq_eq_false_iff_ne, bne_eq_false_iff_eq, ne_eq] at hq) <;> (first | omega | (conv => whnf)))) | ((with_reducible first | apply at_cond | apply at_ret | apply at_exit | apply at_skip); (conv => whnf)) | (with_reducible apply at_block) | ((with_reducible refine at_regD Θ_ok mixed (by kernel_rfl) ?_); (conv => whnf)) | ((with_reducible refine call_r ?_); (conv => whnf); (first | ((with_reducible refine call_i (in_c _ _ _) ?_); (conv => whnf)))))))
  refine at_loop hK [] [0, 3] (fun i : Nat => ⟨[(0, .lst (.int .i64) c), (3, .int .i64 i)], [], 4⟩) (fun i => i ≤ c.length ∧ ∀ j, j < i → vIn (c.getD j 0) 1 9 = true) (fun i => c.length - i) 0 ⟨by simp, by simp⟩ rfl ?_
  rintro i ⟨hi, hall⟩
  (repeat (any_goals (first | (with_reducible apply at_seq) | ((with_reducible apply at_regS Θ_ok); (conv => whnf)) | ((refine go ?_); (conv => whnf)) | ((refine go2 (fun xe hxe => ?_)); (conv => whnf)) | ((with_reducible refine cnd_d (fun hq => ?_) (fun hq => ?_)) <;> (conv => whnf)) | ((with_reducible refine cnd_i (fun hq => ?_) (fun hq => ?_)) <;> ((try simp only [decide_eq_true_eq, decide_eq_false_iff_not, Bool.not_eq_true', Bool.not_eq_false', beq_iff_eq, bne_iff_ne, beq_eq_false_iff_ne, bne_eq_false_iff_eq, ne_eq] at hq) <;> (first | omega | (conv => whnf)))) | ((with_reducible first | apply at_cond | apply at_ret | apply at_exit | apply at_skip); (conv => whnf)) | (with_reducible apply at_block) | ((with_reducible refine at_regD Θ_ok mixed (by kernel_rfl) ?_); (conv => whnf)) | ((with_reducible refine call_r ?_); (conv => whnf); (first | ((with_reducible refine call_i (in_c _ _ _) ?_); (conv => whnf)))))))
  · refine ⟨?_, rfl⟩
    have : comV c = false := by
      simp only [comV, Bool.and_eq_false_iff]
      left
      exact allTo_f (j := i) (by omega) (by rw [getD_of hxe]; exact hq)
    rw [this]
  · refine ⟨i + 1, ⟨by omega, all_step hall (by rw [getD_of hxe]; exact hq)⟩, by omega, rfl⟩
  · refine ⟨?_, rfl⟩
    have : i = c.length := by omega
    subst this
    simp only [comV, allTo_t hall, Bool.true_and]
theorem tot_snoc {c : List Int} {i : Nat} {x : Int} (h : c[i]? = some x) : tot (c.take (i + 1)) = tot (c.take i) + x := by
  obtain ⟨hl, rfl⟩ := List.getElem?_eq_some_iff.1 h
  rw [List.take_succ_eq_append_getElem hl]
  unfold tot
  rw [List.sum_append]
  simp
theorem tot_tk {c : List Int} (h : comV c = true) (i : Nat) : 0 ≤ tot (c.take i) ∧ tot (c.take i) ≤ 63 := by
  obtain ⟨h1, h2, h3⟩ := comV_iff.1 h
  have h4 := sum_bnd (M := 9) (by omega) (l := c.take i) fun x hx => ⟨by have := h1 x (List.mem_of_mem_take hx); omega, (h1 x (List.mem_of_mem_take hx)).2⟩
  rw [List.length_take] at h4
  unfold tot
  omega
theorem tot_c (c : List Int) (hc : comV c = true) : ConV Try.prog 33 [.lst (.int .i64) c] [] (.int .i64 (tot c)) [] := by
  have hc1 := comV_iff.1 hc
  refine con_eq Θ_ok Try.func33 rfl rfl false 0 4 rfl rfl rfl rfl fun K hK hb1 hb2 => ?_; simp only [argsV, enc, Nat.reduceAdd]
  clear hb1 hb2
  (repeat (any_goals (first | (with_reducible apply at_seq) | ((with_reducible apply at_regS Θ_ok); (conv => whnf)) | ((refine go ?_); (conv => whnf)) | ((refine go2 (fun xe hxe => ?_)); (conv => whnf)) | ((with_reducible refine cnd_d (fun hq => ?_) (fun hq => ?_)) <;> (conv => whnf)) | ((with_reducible refine cnd_i (fun hq => ?_) (fun hq => ?_)) <;> ((try simp only [decide_eq_true_eq, decide_eq_false_iff_not, Bool.not_eq_true', Bool.not_eq_false', beq_iff_eq, bne_iff_ne, beq_eq_false_iff_ne, bne_eq_false_iff_eq, ne_eq] at hq) <;> (first | omega | (conv => whnf)))) | ((with_reducible first | apply at_cond | apply at_ret | apply at_exit | apply at_skip); (conv => whnf)) | (with_reducible apply at_block) | ((with_reducible refine at_regD Θ_ok mixed (by kernel_rfl) ?_); (conv => whnf)))))
  refine at_loop hK [] [0, 3, 4] (fun i : Nat => ⟨[(0, .lst (.int .i64) c), (3, .int .i64 (tot (c.take i))), (4, .int .i64 i)], [], 4⟩) (fun i => i ≤ c.length) (fun i => c.length - i) 0 (by simp) rfl ?_
  intro i hi
  have hb := tot_tk hc i
  have hbx : ∀ x, c[i]? = some x → 1 ≤ x ∧ x ≤ 9 := fun x hx => hc1.1 x (List.mem_of_getElem? hx)
  by_cases hlt : i < c.length
  · have hxe : c[i]? = some c[i] := List.getElem?_eq_getElem hlt
    have hb2 := hbx _ hxe
    have hsn := tot_snoc hxe
    generalize c[i] = x at *
    (repeat (any_goals (first | (with_reducible apply at_seq) | ((with_reducible apply at_regS Θ_ok); (conv => whnf)) | ((refine go ?_); (conv => whnf)) | ((refine go2 (fun xe hxe => ?_)); (conv => whnf)) | ((with_reducible refine cnd_d (fun hq => ?_) (fun hq => ?_)) <;> (conv => whnf)) | ((with_reducible refine cnd_i (fun hq => ?_) (fun hq => ?_)) <;> ((try simp only [decide_eq_true_eq, decide_eq_false_iff_not, Bool.not_eq_true', Bool.not_eq_false', beq_iff_eq, bne_iff_ne, beq_eq_false_iff_ne, bne_eq_false_iff_eq, ne_eq] at hq) <;> (first | omega | (conv => whnf)))) | ((with_reducible first | apply at_cond | apply at_ret | apply at_exit | apply at_skip); (conv => whnf)) | (with_reducible apply at_block) | ((with_reducible refine at_regD Θ_ok mixed (by kernel_rfl) ?_); (conv => whnf)))))
    exact ⟨i + 1, by omega, by omega, by rw [hsn]; rfl⟩
  (repeat (any_goals (first | (with_reducible apply at_seq) | ((with_reducible apply at_regS Θ_ok); (conv => whnf)) | ((refine go ?_); (conv => whnf)) | ((refine go2 (fun xe hxe => ?_)); (conv => whnf)) | ((with_reducible refine cnd_d (fun hq => ?_) (fun hq => ?_)) <;> (conv => whnf)) | ((with_reducible refine cnd_i (fun hq => ?_) (fun hq => ?_)) <;> ((try simp only [decide_eq_true_eq, decide_eq_false_iff_not, Bool.not_eq_true', Bool.not_eq_false', beq_iff_eq, bne_iff_ne, beq_eq_false_iff_ne, bne_eq_false_iff_eq, ne_eq] at hq) <;> (first | omega | (conv => whnf)))) | ((with_reducible first | apply at_cond | apply at_ret | apply at_exit | apply at_skip); (conv => whnf)) | (with_reducible apply at_block) | ((with_reducible refine at_regD Θ_ok mixed (by kernel_rfl) ?_); (conv => whnf)))))
  rw [List.take_of_length_le (by omega)]
  exact ⟨rfl, rfl⟩
theorem quo_c (c : List Int) (hc : comV c = true) : ConV Try.prog 84 [.lst (.int .i64) c] [] (.int .i64 (quo c)) [] := by
  have h1 := tot_bd hc
  have h2 := quo_bd hc
  have h3 : (2 * tot c).tdiv 3 + 1 = quo c := rfl
  refine con_eq Θ_ok Try.func84 rfl rfl false 0 4 rfl rfl rfl rfl fun K hK hb1 hb2 => ?_; simp only [argsV, enc, Nat.reduceAdd]
  (repeat (any_goals (first | (with_reducible apply at_seq) | ((with_reducible apply at_regS Θ_ok); (conv => whnf)) | ((refine go ?_); (conv => whnf)) | ((refine go2 (fun xe hxe => ?_)); (conv => whnf)) | ((with_reducible refine cnd_d (fun hq => ?_) (fun hq => ?_)) <;> (conv => whnf)) | ((with_reducible refine cnd_i (fun hq => ?_) (fun hq => ?_)) <;> ((try simp only [decide_eq_true_eq, decide_eq_false_iff_not, Bool.not_eq_true', Bool.not_eq_false', beq_iff_eq, bne_iff_ne, beq_eq_false_iff_ne, bne_eq_false_iff_eq, ne_eq] at hq) <;> (first | omega | (conv => whnf)))) | ((with_reducible first | apply at_cond | apply at_ret | apply at_exit | apply at_skip); (conv => whnf)) | (with_reducible apply at_block) | ((with_reducible refine at_regD Θ_ok mixed (by kernel_rfl) ?_); (conv => whnf)) | ((with_reducible refine call_r ?_); (conv => whnf); (first | ((with_reducible refine call_i (tot_c _ hc) ?_); (conv => whnf)))))))
  exact ⟨rfl, rfl⟩
theorem digest_c (n : Int) : ConV Try.prog 100 [.int .i64 n] [] (.bool (vIn n 0 990)) [] := by
  refine con_eq Θ_ok Try.func100 rfl rfl false 0 4 rfl rfl rfl rfl fun K hK hb1 hb2 => ?_; simp only [argsV, enc, Nat.reduceAdd]
  (repeat (any_goals (first | (with_reducible apply at_seq) | ((with_reducible apply at_regS Θ_ok); (conv => whnf)) | ((refine go ?_); (conv => whnf)) | ((refine go2 (fun xe hxe => ?_)); (conv => whnf)) | ((with_reducible refine cnd_d (fun hq => ?_) (fun hq => ?_)) <;> (conv => whnf)) | ((with_reducible refine cnd_i (fun hq => ?_) (fun hq => ?_)) <;> ((try simp only [decide_eq_true_eq, decide_eq_false_iff_not, Bool.not_eq_true', Bool.not_eq_false', beq_iff_eq, bne_iff_ne, beq_eq_false_iff_ne, bne_eq_false_iff_eq, ne_eq] at hq) <;> (first | omega | (conv => whnf)))) | ((with_reducible first | apply at_cond | apply at_ret | apply at_exit | apply at_skip); (conv => whnf)) | (with_reducible apply at_block) | ((with_reducible refine at_regD Θ_ok mixed (by kernel_rfl) ?_); (conv => whnf)) | ((with_reducible refine call_r ?_); (conv => whnf); (first | ((with_reducible refine call_i (in_c _ _ _) ?_); (conv => whnf)))))))
  exact ⟨rfl, rfl⟩
theorem mems_c (c ms : List Int) : ConV Try.prog 76 [.lst (.int .i64) c, .lst (.int .i64) ms] [] (.bool (mems c ms)) [] := by
  refine con_eq Θ_ok Try.func76 rfl rfl false 0 4 rfl rfl rfl rfl fun K hK hb1 hb2 => ?_; simp only [argsV, enc, Nat.reduceAdd]
  simp [toDL, V.toD, bnd, encD, D.cells] at hb1
  (repeat (any_goals (first | (with_reducible apply at_seq) | ((with_reducible apply at_regS Θ_ok); (conv => whnf)) | ((refine go ?_); (conv => whnf)) | ((refine go2 (fun xe hxe => ?_)); (conv => whnf)) | ((with_reducible refine cnd_d (fun hq => ?_) (fun hq => ?_)) <;> (conv => whnf)) | ((with_reducible refine cnd_i (fun hq => ?_) (fun hq => ?_)) <;> ((try simp only [decide_eq_true_eq, decide_eq_false_iff_not, Bool.not_eq_true', Bool.not_eq_false', beq_iff_eq, bne_iff_ne, beq_eq_false_iff_ne, bne_eq_false_iff_eq, ne_eq] at hq) <;> (first | omega | (conv => whnf)))) | ((with_reducible first | apply at_cond | apply at_ret | apply at_exit | apply at_skip); (conv => whnf)) | (with_reducible apply at_block) | ((with_reducible refine at_regD Θ_ok mixed (by kernel_rfl) ?_); (conv => whnf)) | ((with_reducible refine call_r ?_); (conv => whnf); (first | ((with_reducible refine call_i (in_c _ _ _) ?_); (conv => whnf)))))))
  refine at_loop hK [] [0, 1, 5] (fun i : Nat => ⟨[(0, .lst (.int .i64) c), (1, .lst (.int .i64) ms), (5, .int .i64 i)], [], 4⟩) (fun i => i ≤ ms.length ∧ ∀ j, j < i → memAt c ms j = true) (fun i => ms.length - i) 0 ⟨by simp, by simp⟩ rfl ?_
  rintro i ⟨hi, hall⟩
  (repeat (any_goals (first | (with_reducible apply at_seq) | ((with_reducible apply at_regS Θ_ok); (conv => whnf)) | ((refine go ?_); (conv => whnf)) | ((refine go2 (fun xe hxe => ?_)); (conv => whnf)) | ((with_reducible refine cnd_d (fun hq => ?_) (fun hq => ?_)) <;> (conv => whnf)) | ((with_reducible refine cnd_i (fun hq => ?_) (fun hq => ?_)) <;> ((try simp only [decide_eq_true_eq, decide_eq_false_iff_not, Bool.not_eq_true', Bool.not_eq_false', beq_iff_eq, bne_iff_ne, beq_eq_false_iff_ne, bne_eq_false_iff_eq, ne_eq] at hq) <;> (first | omega | (conv => whnf)))) | ((with_reducible first | apply at_cond | apply at_ret | apply at_exit | apply at_skip); (conv => whnf)) | (with_reducible apply at_block) | ((with_reducible refine at_regD Θ_ok mixed (by kernel_rfl) ?_); (conv => whnf)) | ((with_reducible refine call_r ?_); (conv => whnf); (first | ((with_reducible refine call_i (in_c _ _ _) ?_); (conv => whnf)))))))
  · refine ⟨?_, rfl⟩
    have : mems c ms = false := allTo_f (j := i) (by omega) (by simp only [memAt, hasM, getD_of hxe, hq, Bool.false_and])
    rw [this]
  · rename_i x hx hq1 h0
    have hy' : ms[i - 1]? = some xe := by rw [← hxe]; congr 1; omega
    refine ⟨?_, rfl⟩
    have : mems c ms = false := allTo_f (j := i) (by omega) (by simp only [memAt, getD_of hx, getD_of hy', Bool.and_eq_false_iff, Bool.or_eq_false_iff, decide_eq_false_iff_not]; right; exact ⟨by simp; omega, by omega⟩)
    rw [this]
  · rename_i x hx hq1 h0
    have hy' : ms[i - 1]? = some xe := by rw [← hxe]; congr 1; omega
    refine ⟨i + 1, ⟨by omega, all_step hall ?_⟩, by omega, rfl⟩
    simp only [memAt, hasM, getD_of hx, getD_of hy', hq1, Bool.true_and, Bool.or_eq_true, decide_eq_true_eq]
    right; omega
  · have h0 : i = 0 := by omega
    subst h0
    refine ⟨0 + 1, ⟨by omega, all_step hall ?_⟩, by omega, rfl⟩
    simp only [memAt, hasM, getD_of hxe, *]
    rfl
  · refine ⟨?_, rfl⟩
    have : i = ms.length := by omega
    subst this
    have : mems c ms = true := allTo_t hall
    rw [this]
theorem wei_tk {c ms : List Int} {i : Nat} {m : Int} (h : ms[i]? = some m) : wei c (ms.take (i + 1)) = wei c (ms.take i) + c.getD m.toNat 0 := by
  obtain ⟨hl, rfl⟩ := List.getElem?_eq_some_iff.1 h
  rw [List.take_succ_eq_append_getElem hl, wei_snoc]
theorem wei_c (c ms : List Int) (hc : comV c = true) (hm : ∀ m ∈ ms, 0 ≤ m ∧ m < c.length) (hl : ms.length ≤ 2000000) : ConV Try.prog 83 [.lst (.int .i64) c, .lst (.int .i64) ms] [] (.int .i64 (wei c ms)) [] := by
  refine con_eq Θ_ok Try.func83 rfl rfl false 0 4 rfl rfl rfl rfl fun K hK hb1 hb2 => ?_; simp only [argsV, enc, Nat.reduceAdd]
  clear hb1 hb2
  (repeat (any_goals (first | (with_reducible apply at_seq) | ((with_reducible apply at_regS Θ_ok); (conv => whnf)) | ((refine go ?_); (conv => whnf)) | ((refine go2 (fun xe hxe => ?_)); (conv => whnf)) | ((with_reducible refine cnd_d (fun hq => ?_) (fun hq => ?_)) <;> (conv => whnf)) | ((with_reducible refine cnd_i (fun hq => ?_) (fun hq => ?_)) <;> ((try simp only [decide_eq_true_eq, decide_eq_false_iff_not, Bool.not_eq_true', Bool.not_eq_false', beq_iff_eq, bne_iff_ne, beq_eq_false_iff_ne, bne_eq_false_iff_eq, ne_eq] at hq) <;> (first | omega | (conv => whnf)))) | ((with_reducible first | apply at_cond | apply at_ret | apply at_exit | apply at_skip); (conv => whnf)) | (with_reducible apply at_block) | ((with_reducible refine at_regD Θ_ok mixed (by kernel_rfl) ?_); (conv => whnf)))))
  refine at_loop hK [] [0, 1, 5, 6] (fun i : Nat => ⟨[(0, .lst (.int .i64) c), (1, .lst (.int .i64) ms), (5, .int .i64 (wei c (ms.take i))), (6, .int .i64 i)], [], 4⟩) (fun i => i ≤ ms.length) (fun i => ms.length - i) 0 (by simp) rfl ?_
  intro i hi
  by_cases hlt : i < ms.length
  · have hxe : ms[i]? = some ms[i] := List.getElem?_eq_getElem hlt
    have h1 := hm _ (List.getElem_mem hlt)
    have h2 := wei_bd (ms := ms.take i) hc
    have h3 := wei_tk (c := c) hxe
    rw [List.length_take] at h2
    generalize ms[i] = m at *
    have hx2 : c[m.toNat]? = some (c.getD m.toNat 0) := by rw [List.getD_eq_getElem?_getD, List.getElem?_eq_getElem (show m.toNat < c.length by omega)]; rfl
    have h4 := (comV_iff.1 hc).1 _ (List.mem_of_getElem? hx2)
    generalize c.getD m.toNat 0 = x at *
    (repeat (any_goals (first | (with_reducible apply at_seq) | ((with_reducible apply at_regS Θ_ok); (conv => whnf)) | ((refine go ?_); (conv => whnf)) | ((refine go2 (fun xe hxe => ?_)); (conv => whnf)) | ((with_reducible refine cnd_d (fun hq => ?_) (fun hq => ?_)) <;> (conv => whnf)) | ((with_reducible refine cnd_i (fun hq => ?_) (fun hq => ?_)) <;> ((try simp only [decide_eq_true_eq, decide_eq_false_iff_not, Bool.not_eq_true', Bool.not_eq_false', beq_iff_eq, bne_iff_ne, beq_eq_false_iff_ne, bne_eq_false_iff_eq, ne_eq] at hq) <;> (first | omega | (conv => whnf)))) | ((with_reducible first | apply at_cond | apply at_ret | apply at_exit | apply at_skip); (conv => whnf)) | (with_reducible apply at_block) | ((with_reducible refine at_regD Θ_ok mixed (by kernel_rfl) ?_); (conv => whnf)))))
    exact ⟨i + 1, by omega, by omega, by rw [h3]; rfl⟩
  (repeat (any_goals (first | (with_reducible apply at_seq) | ((with_reducible apply at_regS Θ_ok); (conv => whnf)) | ((refine go ?_); (conv => whnf)) | ((refine go2 (fun xe hxe => ?_)); (conv => whnf)) | ((with_reducible refine cnd_d (fun hq => ?_) (fun hq => ?_)) <;> (conv => whnf)) | ((with_reducible refine cnd_i (fun hq => ?_) (fun hq => ?_)) <;> ((try simp only [decide_eq_true_eq, decide_eq_false_iff_not, Bool.not_eq_true', Bool.not_eq_false', beq_iff_eq, bne_iff_ne, beq_eq_false_iff_ne, bne_eq_false_iff_eq, ne_eq] at hq) <;> (first | omega | (conv => whnf)))) | ((with_reducible first | apply at_cond | apply at_ret | apply at_exit | apply at_skip); (conv => whnf)) | (with_reducible apply at_block) | ((with_reducible refine at_regD Θ_ok mixed (by kernel_rfl) ?_); (conv => whnf)))))
  rw [List.take_of_length_le (by omega)]
  exact ⟨rfl, rfl⟩
theorem before_c (v u : Vtx) : ConV Try.prog 101 [.agg [.int .i64 v.round, .int .i64 v.author, .lst (.int .i64) v.parents, .int .i64 v.digest], .agg [.int .i64 u.round, .int .i64 u.author, .lst (.int .i64) u.parents, .int .i64 u.digest]] [] (.bool (bef v u)) [] := by
  refine con_eq Θ_ok Try.func101 rfl rfl false 0 4 rfl rfl rfl rfl fun K hK hb1 hb2 => ?_; simp only [argsV, enc, Nat.reduceAdd]
  (repeat (any_goals (first | (with_reducible apply at_seq) | ((with_reducible apply at_regS Θ_ok); (conv => whnf)) | ((refine go ?_); (conv => whnf)) | ((refine go2 (fun xe hxe => ?_)); (conv => whnf)) | ((with_reducible refine cnd_d (fun hq => ?_) (fun hq => ?_)) <;> (conv => whnf)) | ((with_reducible refine cnd_i (fun hq => ?_) (fun hq => ?_)) <;> ((try simp only [decide_eq_true_eq, decide_eq_false_iff_not, Bool.not_eq_true', Bool.not_eq_false', beq_iff_eq, bne_iff_ne, beq_eq_false_iff_ne, bne_eq_false_iff_eq, ne_eq] at hq) <;> (first | omega | (conv => whnf)))) | ((with_reducible first | apply at_cond | apply at_ret | apply at_exit | apply at_skip); (conv => whnf)) | (with_reducible apply at_block) | ((with_reducible refine at_regD Θ_ok mixed (by kernel_rfl) ?_); (conv => whnf)))))
  all_goals (refine ⟨?_, rfl⟩; simp_all [bef])
abbrev vtxA (v : Vtx) : V := .agg [.int .i64 v.round, .int .i64 v.author, .lst (.int .i64) v.parents, .int .i64 v.digest]
theorem nodup_len {α : Type} [BEq α] [LawfulBEq α] : ∀ {a b : List α}, a.Nodup → a ⊆ b → a.length ≤ b.length
  | [], _, _, _ => Nat.zero_le _
  | x :: a, b, h, hs => by
    rw [List.nodup_cons] at h
    have hx : x ∈ b := hs (List.mem_cons_self ..)
    have := nodup_len (b := b.erase x) h.2 fun y hy => by
      have hne : y ≠ x := fun e => h.1 (e ▸ hy)
      exact (List.mem_erase_of_ne hne).2 (hs (List.mem_cons_of_mem _ hy))
    rw [List.length_erase_of_mem hx] at this
    have := List.length_pos_of_mem hx
    simp only [List.length_cons]
    omega
theorem mems_len {c ms : List Int} (h : mems c ms = true) : ms.length ≤ c.length := by
  have h1 := mems_in h
  have h2 : ms ⊆ (List.range c.length).map fun n : Nat => (n : Int) := fun m hm => by
    have := h1 m hm
    rw [List.mem_map]
    exact ⟨m.toNat, by rw [List.mem_range]; omega, by omega⟩
  have h3 : ms.Nodup := (mems_asc h).imp fun hab => by omega
  have := nodup_len h3 h2
  simpa using this
theorem vtx_c (c : List Int) (v : Vtx) (hc : comV c = true) : ConV Try.prog 75 [.lst (.int .i64) c, vtxA v] [] (.bool (vtxS c v)) [] := by
  refine con_eq Θ_ok Try.func75 rfl rfl false 0 4 rfl rfl rfl rfl fun K hK hb1 hb2 => ?_; simp only [argsV, enc, Nat.reduceAdd]
  simp [toDL, V.toD, bnd, encD, D.cells] at hb1
  have h7 := (comV_iff.1 hc).2
  have h8 : ((v.parents.length : Int) == 0) = (v.parents.length == 0) := by rw [Bool.eq_iff_iff, beq_iff_eq, beq_iff_eq]; omega
  cases hm : mems c v.parents
  · (repeat (any_goals (first | (with_reducible apply at_seq) | ((with_reducible apply at_regS Θ_ok); (conv => whnf)) | ((refine go ?_); (conv => whnf)) | ((refine go2 (fun xe hxe => ?_)); (conv => whnf)) | ((with_reducible refine cnd_d (fun hq => ?_) (fun hq => ?_)) <;> (conv => whnf)) | ((with_reducible refine cnd_i (fun hq => ?_) (fun hq => ?_)) <;> ((try simp only [decide_eq_true_eq, decide_eq_false_iff_not, Bool.not_eq_true', Bool.not_eq_false', beq_iff_eq, bne_iff_ne, beq_eq_false_iff_ne, bne_eq_false_iff_eq, ne_eq] at hq) <;> (first | omega | (conv => whnf)))) | ((with_reducible first | apply at_cond | apply at_ret | apply at_exit | apply at_skip); (conv => whnf)) | (with_reducible apply at_block) | ((with_reducible refine at_regD Θ_ok mixed (by kernel_rfl) ?_); (conv => whnf)) | ((with_reducible refine call_r ?_); (conv => whnf); (first | ((with_reducible refine call_i (in_c _ _ _) ?_); (conv => whnf)) | ((with_reducible refine call_i (mems_c _ _) ?_); (conv => whnf)) | ((with_reducible refine call_i (digest_c _) ?_); (conv => whnf)) | ((with_reducible refine call_i (quo_c _ hc) ?_); (conv => whnf)))))))
    all_goals (refine ⟨?_, rfl⟩; simp_all [vtxS, hasM])
  · have hl := mems_len hm
    (repeat (any_goals (first | (with_reducible apply at_seq) | ((with_reducible apply at_regS Θ_ok); (conv => whnf)) | ((refine go ?_); (conv => whnf)) | ((refine go2 (fun xe hxe => ?_)); (conv => whnf)) | ((with_reducible refine cnd_d (fun hq => ?_) (fun hq => ?_)) <;> (conv => whnf)) | ((with_reducible refine cnd_i (fun hq => ?_) (fun hq => ?_)) <;> ((try simp only [decide_eq_true_eq, decide_eq_false_iff_not, Bool.not_eq_true', Bool.not_eq_false', beq_iff_eq, bne_iff_ne, beq_eq_false_iff_ne, bne_eq_false_iff_eq, ne_eq] at hq) <;> (first | omega | (conv => whnf)))) | ((with_reducible first | apply at_cond | apply at_ret | apply at_exit | apply at_skip); (conv => whnf)) | (with_reducible apply at_block) | ((with_reducible refine at_regD Θ_ok mixed (by kernel_rfl) ?_); (conv => whnf)) | ((with_reducible refine call_r ?_); (conv => whnf); (first | ((with_reducible refine call_i (in_c _ _ _) ?_); (conv => whnf)) | ((with_reducible refine call_i (mems_c _ _) ?_); (conv => whnf)) | ((with_reducible refine call_i (digest_c _) ?_); (conv => whnf)) | ((with_reducible refine call_i (quo_c _ hc) ?_); (conv => whnf)) | ((with_reducible refine call_i (wei_c _ _ hc (mems_in hm) (by omega)) ?_); (conv => whnf)))))))
    all_goals (refine ⟨?_, rfl⟩; simp_all [vtxS, hasM])
theorem tk_snoc {α : Type} {l : List α} {P : α → Prop} {x : α} (h : ∀ y ∈ l, P y) (hx : P x) : ∀ y ∈ l ++ [x], P y := by
  intro y hy
  rcases List.mem_append.1 hy with hy | hy
  · exact h y hy
  · rw [List.mem_singleton.1 hy]; exact hx
theorem find_at {α : Type} {l : List α} {p : α → Bool} {i : Nat} {x : α} (h : l[i]? = some x) (hn : ∀ y ∈ l.take i, p y = false) (hp : p x = true) : l.findIdx? p = some i := by
  obtain ⟨hi, rfl⟩ := List.getElem?_eq_some_iff.1 h
  rw [List.findIdx?_eq_some_iff_getElem]
  refine ⟨hi, hp, fun j hj => ?_⟩
  rw [hn _ (List.mem_of_getElem? (i := j) (by rw [List.getElem?_take, if_pos hj, List.getElem?_eq_getElem]))]
  simp
theorem find_c (g : List Vtx) (r a : Int) : ConV Try.prog 80 [.lst .vtx g, .int .i64 r, .int .i64 a] [] (.int .i64 (fndI g r a)) [] := by
  refine con_eq Θ_ok Try.func80 rfl rfl false 0 4 rfl rfl rfl rfl fun K hK hb1 hb2 => ?_; simp only [argsV, enc, Nat.reduceAdd]
  simp [toDL, V.toD, bnd, encD, D.cells] at hb1
  (repeat (any_goals (first | (with_reducible apply at_seq) | ((with_reducible apply at_regS Θ_ok); (conv => whnf)) | ((refine go ?_); (conv => whnf)) | ((refine go2 (fun xe hxe => ?_)); (conv => whnf)) | ((with_reducible refine cnd_d (fun hq => ?_) (fun hq => ?_)) <;> (conv => whnf)) | ((with_reducible refine cnd_i (fun hq => ?_) (fun hq => ?_)) <;> ((try simp only [decide_eq_true_eq, decide_eq_false_iff_not, Bool.not_eq_true', Bool.not_eq_false', beq_iff_eq, bne_iff_ne, beq_eq_false_iff_ne, bne_eq_false_iff_eq, ne_eq] at hq) <;> (first | omega | (conv => whnf)))) | ((with_reducible first | apply at_cond | apply at_ret | apply at_exit | apply at_skip); (conv => whnf)) | (with_reducible apply at_block) | ((with_reducible refine at_regD Θ_ok mixed (by kernel_rfl) ?_); (conv => whnf)))))
  refine at_loop hK [] [0, 1, 2, 7] (fun i : Nat => ⟨[(0, .lst .vtx g), (1, .int .i64 r), (2, .int .i64 a), (7, .int .i64 i)], [], 4⟩) (fun i => i ≤ g.length ∧ ∀ v ∈ g.take i, isAt r a v = false) (fun i => g.length - i) 0 ⟨by simp, by simp⟩ rfl ?_
  rintro i ⟨hi, hall⟩
  by_cases hlt : i < g.length
  · have hxe : g[i]? = some g[i] := List.getElem?_eq_getElem hlt
    have h3 : g.take (i + 1) = g.take i ++ [g[i]] := List.take_succ_eq_append_getElem hlt
    have h4 := find_at (l := g) (p := isAt r a) hxe hall
    generalize g[i] = v at *
    have hA : isAt r a v = (v.round == r && v.author == a) := rfl
    cases h1 : v.round == r
    · (repeat (any_goals (first | (with_reducible apply at_seq) | ((with_reducible apply at_regS Θ_ok); (conv => whnf)) | ((refine go ?_); (conv => whnf)) | ((refine go2 (fun xe hxe => ?_)); (conv => whnf)) | ((with_reducible refine cnd_d (fun hq => ?_) (fun hq => ?_)) <;> (conv => whnf)) | ((with_reducible refine cnd_i (fun hq => ?_) (fun hq => ?_)) <;> ((try simp only [decide_eq_true_eq, decide_eq_false_iff_not, Bool.not_eq_true', Bool.not_eq_false', beq_iff_eq, bne_iff_ne, beq_eq_false_iff_ne, bne_eq_false_iff_eq, ne_eq] at hq) <;> (first | omega | (conv => whnf)))) | ((with_reducible first | apply at_cond | apply at_ret | apply at_exit | apply at_skip); (conv => whnf)) | (with_reducible apply at_block) | ((with_reducible refine at_regD Θ_ok mixed (by kernel_rfl) ?_); (conv => whnf)))))
      exact ⟨i + 1, ⟨by omega, by rw [h3]; exact tk_snoc hall (by simp [hA, h1])⟩, by omega, rfl⟩
    · cases h2 : v.author == a
      · (repeat (any_goals (first | (with_reducible apply at_seq) | ((with_reducible apply at_regS Θ_ok); (conv => whnf)) | ((refine go ?_); (conv => whnf)) | ((refine go2 (fun xe hxe => ?_)); (conv => whnf)) | ((with_reducible refine cnd_d (fun hq => ?_) (fun hq => ?_)) <;> (conv => whnf)) | ((with_reducible refine cnd_i (fun hq => ?_) (fun hq => ?_)) <;> ((try simp only [decide_eq_true_eq, decide_eq_false_iff_not, Bool.not_eq_true', Bool.not_eq_false', beq_iff_eq, bne_iff_ne, beq_eq_false_iff_ne, bne_eq_false_iff_eq, ne_eq] at hq) <;> (first | omega | (conv => whnf)))) | ((with_reducible first | apply at_cond | apply at_ret | apply at_exit | apply at_skip); (conv => whnf)) | (with_reducible apply at_block) | ((with_reducible refine at_regD Θ_ok mixed (by kernel_rfl) ?_); (conv => whnf)))))
        exact ⟨i + 1, ⟨by omega, by rw [h3]; exact tk_snoc hall (by simp [hA, h1, h2])⟩, by omega, rfl⟩
      · (repeat (any_goals (first | (with_reducible apply at_seq) | ((with_reducible apply at_regS Θ_ok); (conv => whnf)) | ((refine go ?_); (conv => whnf)) | ((refine go2 (fun xe hxe => ?_)); (conv => whnf)) | ((with_reducible refine cnd_d (fun hq => ?_) (fun hq => ?_)) <;> (conv => whnf)) | ((with_reducible refine cnd_i (fun hq => ?_) (fun hq => ?_)) <;> ((try simp only [decide_eq_true_eq, decide_eq_false_iff_not, Bool.not_eq_true', Bool.not_eq_false', beq_iff_eq, bne_iff_ne, beq_eq_false_iff_ne, bne_eq_false_iff_eq, ne_eq] at hq) <;> (first | omega | (conv => whnf)))) | ((with_reducible first | apply at_cond | apply at_ret | apply at_exit | apply at_skip); (conv => whnf)) | (with_reducible apply at_block) | ((with_reducible refine at_regD Θ_ok mixed (by kernel_rfl) ?_); (conv => whnf)))))
        refine ⟨?_, rfl⟩
        rw [fndI, h4 (by simp [hA, h1, h2])]
  · (repeat (any_goals (first | (with_reducible apply at_seq) | ((with_reducible apply at_regS Θ_ok); (conv => whnf)) | ((refine go ?_); (conv => whnf)) | ((refine go2 (fun xe hxe => ?_)); (conv => whnf)) | ((with_reducible refine cnd_d (fun hq => ?_) (fun hq => ?_)) <;> (conv => whnf)) | ((with_reducible refine cnd_i (fun hq => ?_) (fun hq => ?_)) <;> ((try simp only [decide_eq_true_eq, decide_eq_false_iff_not, Bool.not_eq_true', Bool.not_eq_false', beq_iff_eq, bne_iff_ne, beq_eq_false_iff_ne, bne_eq_false_iff_eq, ne_eq] at hq) <;> (first | omega | (conv => whnf)))) | ((with_reducible first | apply at_cond | apply at_ret | apply at_exit | apply at_skip); (conv => whnf)) | (with_reducible apply at_block) | ((with_reducible refine at_regD Θ_ok mixed (by kernel_rfl) ?_); (conv => whnf)))))
    refine ⟨?_, rfl⟩
    rw [List.take_of_length_le (by omega)] at hall
    rw [fndI, List.findIdx?_eq_none_iff.2 hall]
theorem fnd_lt (g : List Vtx) (r a : Int) : decide (fndI g r a < 0) = !hasV g r a := by
  rw [← fnd_has]
  unfold fndI
  cases g.findIdx? (isAt r a) with
  | none => rfl
  | some i => simp
theorem fnd_bd (g : List Vtx) (r a : Int) : -1 ≤ fndI g r a ∧ fndI g r a < g.length := by
  unfold fndI
  cases h : g.findIdx? (isAt r a) with
  | none => simp only; omega
  | some i =>
    rw [List.findIdx?_eq_some_iff_getElem] at h
    obtain ⟨h1, -⟩ := h
    simp only; omega
theorem parents_c (g : List Vtx) (v : Vtx) (hr : -1000000 < v.round ∧ v.round < 1000000) : ConV Try.prog 51 [.lst .vtx g, vtxA v] [] (.bool (parOK g v)) [] := by
  refine con_eq Θ_ok Try.func51 rfl rfl false 0 4 rfl rfl rfl rfl fun K hK hb1 hb2 => ?_; simp only [argsV, enc, Nat.reduceAdd]
  simp [toDL, V.toD, bnd, encD, D.cells, intsD] at hb1
  (repeat (any_goals (first | (with_reducible apply at_seq) | ((with_reducible apply at_regS Θ_ok); (conv => whnf)) | ((refine go ?_); (conv => whnf)) | ((refine go2 (fun xe hxe => ?_)); (conv => whnf)) | ((with_reducible refine cnd_d (fun hq => ?_) (fun hq => ?_)) <;> (conv => whnf)) | ((with_reducible refine cnd_i (fun hq => ?_) (fun hq => ?_)) <;> ((try simp only [decide_eq_true_eq, decide_eq_false_iff_not, Bool.not_eq_true', Bool.not_eq_false', beq_iff_eq, bne_iff_ne, beq_eq_false_iff_ne, bne_eq_false_iff_eq, ne_eq] at hq) <;> (first | omega | (conv => whnf)))) | ((with_reducible first | apply at_cond | apply at_ret | apply at_exit | apply at_skip); (conv => whnf)) | (with_reducible apply at_block) | ((with_reducible refine at_regD Θ_ok mixed (by kernel_rfl) ?_); (conv => whnf)))))
  refine at_loop hK [] [0, 3, 5] (fun i : Nat => ⟨[(0, .lst .vtx g), (3, .ptr 4 0), (5, .int .i64 i)], [(4, .var 63 (vtxA v).cells)], 5⟩) (fun i => i ≤ v.parents.length ∧ ∀ p ∈ v.parents.take i, hasV g (v.round - 1) p = true) (fun i => v.parents.length - i) 0 ⟨by simp, by simp⟩ rfl ?_
  rintro i ⟨hi, hall⟩
  by_cases hlt : i < v.parents.length
  · have hxe : v.parents[i]? = some v.parents[i] := List.getElem?_eq_getElem hlt
    have h3 : v.parents.take (i + 1) = v.parents.take i ++ [v.parents[i]] := List.take_succ_eq_append_getElem hlt
    have h4 : v.parents[i] ∈ v.parents := List.getElem_mem hlt
    generalize v.parents[i] = p at *
    have hlt2 := fnd_lt g (v.round - 1) p
    cases h5 : hasV g (v.round - 1) p
    · have hlt2 : fndI g (v.round - 1) p < 0 := by simpa [h5] using hlt2
      (repeat (any_goals (first | (with_reducible apply at_seq) | ((with_reducible apply at_regS Θ_ok); (conv => whnf)) | ((refine go ?_); (conv => whnf)) | ((refine go2 (fun xe hxe => ?_)); (conv => whnf)) | ((with_reducible refine cnd_d (fun hq => ?_) (fun hq => ?_)) <;> (conv => whnf)) | ((with_reducible refine cnd_i (fun hq => ?_) (fun hq => ?_)) <;> ((try simp only [decide_eq_true_eq, decide_eq_false_iff_not, Bool.not_eq_true', Bool.not_eq_false', beq_iff_eq, bne_iff_ne, beq_eq_false_iff_ne, bne_eq_false_iff_eq, ne_eq] at hq) <;> (first | omega | (conv => whnf)))) | ((with_reducible first | apply at_cond | apply at_ret | apply at_exit | apply at_skip); (conv => whnf)) | (with_reducible apply at_block) | ((with_reducible refine at_regD Θ_ok mixed (by kernel_rfl) ?_); (conv => whnf)) | ((with_reducible refine call_r ?_); (conv => whnf); (first | ((with_reducible refine call_i (find_c _ _ _) ?_); (conv => whnf)))))))
      refine ⟨?_, rfl⟩
      have : parOK g v = false := by
        rw [Bool.eq_false_iff]
        intro h
        rw [parOK_iff.1 h p h4] at h5
        cases h5
      rw [this]
    · have hlt2 : ¬ fndI g (v.round - 1) p < 0 := by simpa [h5] using hlt2
      (repeat (any_goals (first | (with_reducible apply at_seq) | ((with_reducible apply at_regS Θ_ok); (conv => whnf)) | ((refine go ?_); (conv => whnf)) | ((refine go2 (fun xe hxe => ?_)); (conv => whnf)) | ((with_reducible refine cnd_d (fun hq => ?_) (fun hq => ?_)) <;> (conv => whnf)) | ((with_reducible refine cnd_i (fun hq => ?_) (fun hq => ?_)) <;> ((try simp only [decide_eq_true_eq, decide_eq_false_iff_not, Bool.not_eq_true', Bool.not_eq_false', beq_iff_eq, bne_iff_ne, beq_eq_false_iff_ne, bne_eq_false_iff_eq, ne_eq] at hq) <;> (first | omega | (conv => whnf)))) | ((with_reducible first | apply at_cond | apply at_ret | apply at_exit | apply at_skip); (conv => whnf)) | (with_reducible apply at_block) | ((with_reducible refine at_regD Θ_ok mixed (by kernel_rfl) ?_); (conv => whnf)) | ((with_reducible refine call_r ?_); (conv => whnf); (first | ((with_reducible refine call_i (find_c _ _ _) ?_); (conv => whnf)))))))
      exact ⟨i + 1, ⟨by omega, by rw [h3]; exact tk_snoc hall h5⟩, by omega, rfl⟩
  · (repeat (any_goals (first | (with_reducible apply at_seq) | ((with_reducible apply at_regS Θ_ok); (conv => whnf)) | ((refine go ?_); (conv => whnf)) | ((refine go2 (fun xe hxe => ?_)); (conv => whnf)) | ((with_reducible refine cnd_d (fun hq => ?_) (fun hq => ?_)) <;> (conv => whnf)) | ((with_reducible refine cnd_i (fun hq => ?_) (fun hq => ?_)) <;> ((try simp only [decide_eq_true_eq, decide_eq_false_iff_not, Bool.not_eq_true', Bool.not_eq_false', beq_iff_eq, bne_iff_ne, beq_eq_false_iff_ne, bne_eq_false_iff_eq, ne_eq] at hq) <;> (first | omega | (conv => whnf)))) | ((with_reducible first | apply at_cond | apply at_ret | apply at_exit | apply at_skip); (conv => whnf)) | (with_reducible apply at_block) | ((with_reducible refine at_regD Θ_ok mixed (by kernel_rfl) ?_); (conv => whnf)))))
    refine ⟨?_, rfl⟩
    rw [List.take_of_length_le (by omega)] at hall
    rw [parOK_iff.2 hall]
theorem vtxS_rd {c : List Int} {v : Vtx} (h : vtxS c v = true) : -1000000 < v.round ∧ v.round < 1000000 := by
  have := (vtxS_ok h).1
  omega
theorem graS_c (c : List Int) (g : List Vtx) : ConV Try.prog 79 [.lst (.int .i64) c, .lst .vtx g] [] (.bool (graS c g)) [] := by
  refine con_eq Θ_ok Try.func79 rfl rfl false 0 4 rfl rfl rfl rfl fun K hK hb1 hb2 => ?_; simp only [argsV, enc, Nat.reduceAdd]
  simp [toDL, V.toD, bnd, encD, D.cells] at hb1
  cases hc : comV c
  · (repeat (any_goals (first | (with_reducible apply at_seq) | ((with_reducible apply at_regS Θ_ok); (conv => whnf)) | ((refine go ?_); (conv => whnf)) | ((refine go2 (fun xe hxe => ?_)); (conv => whnf)) | ((with_reducible refine cnd_d (fun hq => ?_) (fun hq => ?_)) <;> (conv => whnf)) | ((with_reducible refine cnd_i (fun hq => ?_) (fun hq => ?_)) <;> ((try simp only [decide_eq_true_eq, decide_eq_false_iff_not, Bool.not_eq_true', Bool.not_eq_false', beq_iff_eq, bne_iff_ne, beq_eq_false_iff_ne, bne_eq_false_iff_eq, ne_eq] at hq) <;> (first | omega | (conv => whnf)))) | ((with_reducible first | apply at_cond | apply at_ret | apply at_exit | apply at_skip); (conv => whnf)) | (with_reducible apply at_block) | ((with_reducible refine at_regD Θ_ok mixed (by kernel_rfl) ?_); (conv => whnf)) | ((with_reducible refine call_r ?_); (conv => whnf); (first | ((with_reducible refine call_i (comV_c _) ?_); (conv => whnf)))))))
    exact ⟨by simp [graS, hc], rfl⟩
  (repeat (any_goals (first | (with_reducible apply at_seq) | ((with_reducible apply at_regS Θ_ok); (conv => whnf)) | ((refine go ?_); (conv => whnf)) | ((refine go2 (fun xe hxe => ?_)); (conv => whnf)) | ((with_reducible refine cnd_d (fun hq => ?_) (fun hq => ?_)) <;> (conv => whnf)) | ((with_reducible refine cnd_i (fun hq => ?_) (fun hq => ?_)) <;> ((try simp only [decide_eq_true_eq, decide_eq_false_iff_not, Bool.not_eq_true', Bool.not_eq_false', beq_iff_eq, bne_iff_ne, beq_eq_false_iff_ne, bne_eq_false_iff_eq, ne_eq] at hq) <;> (first | omega | (conv => whnf)))) | ((with_reducible first | apply at_cond | apply at_ret | apply at_exit | apply at_skip); (conv => whnf)) | (with_reducible apply at_block) | ((with_reducible refine at_regD Θ_ok mixed (by kernel_rfl) ?_); (conv => whnf)) | ((with_reducible refine call_r ?_); (conv => whnf); (first | ((with_reducible refine call_i (comV_c _) ?_); (conv => whnf)))))))
  refine at_loop hK [] [0, 1, 5] (fun i : Nat => ⟨[(0, .lst (.int .i64) c), (1, .lst .vtx g), (5, .int .i64 i)], [], 4⟩) (fun i => i ≤ g.length ∧ ∀ j, j < i → graAt c g j = true) (fun i => g.length - i) 0 ⟨by simp, by simp⟩ rfl ?_
  rintro i ⟨hi, hall⟩
  have hno : graAt c g i = false → i < g.length → V.bool false = V.bool (graS c g) ∧ ([] : VH) = [] := fun h1 h2 => ⟨by simp only [graS, hc, Bool.true_and]; rw [allTo_f h2 h1], rfl⟩
  by_cases hlt : i < g.length
  · have hxe : g[i]? = some g[i] := List.getElem?_eq_getElem hlt
    have hA : graAt c g i = (vtxS c g[i] && ((i == 0 || bef (g.getD (i - 1) v0) g[i]) && parOK g g[i])) := by simp only [graAt, getD_of hxe]
    have hyes : graAt c g i = true → ∃ y, (y ≤ g.length ∧ ∀ j, j < y → graAt c g j = true) ∧ g.length - y < g.length - i ∧ VSt.mk [(0, .lst (.int .i64) c), (1, .lst .vtx g), (5, .int .i64 ((i : Int) + 1))] [] 4 = ⟨[(0, .lst (.int .i64) c), (1, .lst .vtx g), (5, .int .i64 (y : Int))], [], 4⟩ := fun h => ⟨i + 1, ⟨by omega, all_step hall h⟩, by omega, rfl⟩
    generalize g[i] = v at *
    cases h1 : vtxS c v
    · (repeat (any_goals (first | (with_reducible apply at_seq) | ((with_reducible apply at_regS Θ_ok); (conv => whnf)) | ((refine go ?_); (conv => whnf)) | ((refine go2 (fun xe hxe => ?_)); (conv => whnf)) | ((with_reducible refine cnd_d (fun hq => ?_) (fun hq => ?_)) <;> (conv => whnf)) | ((with_reducible refine cnd_i (fun hq => ?_) (fun hq => ?_)) <;> ((try simp only [decide_eq_true_eq, decide_eq_false_iff_not, Bool.not_eq_true', Bool.not_eq_false', beq_iff_eq, bne_iff_ne, beq_eq_false_iff_ne, bne_eq_false_iff_eq, ne_eq] at hq) <;> (first | omega | (conv => whnf)))) | ((with_reducible first | apply at_cond | apply at_ret | apply at_exit | apply at_skip); (conv => whnf)) | (with_reducible apply at_block) | ((with_reducible refine at_regD Θ_ok mixed (by kernel_rfl) ?_); (conv => whnf)) | ((with_reducible refine call_r ?_); (conv => whnf); (first | ((with_reducible refine call_i (vtx_c _ _ hc) ?_); (conv => whnf)))))))
      exact hno (by rw [hA, h1]; rfl) hlt
    have h0 : -1000000 < v.round ∧ v.round < 1000000 := vtxS_rd h1
    rw [h1] at hA
    cases h3 : parOK g v
    · rw [h3] at hA
      by_cases hi0 : i = 0
      · (repeat (any_goals (first | (with_reducible apply at_seq) | ((with_reducible apply at_regS Θ_ok); (conv => whnf)) | ((refine go ?_); (conv => whnf)) | ((refine go2 (fun xe hxe => ?_)); (conv => whnf)) | ((with_reducible refine cnd_d (fun hq => ?_) (fun hq => ?_)) <;> (conv => whnf)) | ((with_reducible refine cnd_i (fun hq => ?_) (fun hq => ?_)) <;> ((try simp only [decide_eq_true_eq, decide_eq_false_iff_not, Bool.not_eq_true', Bool.not_eq_false', beq_iff_eq, bne_iff_ne, beq_eq_false_iff_ne, bne_eq_false_iff_eq, ne_eq] at hq) <;> (first | omega | (conv => whnf)))) | ((with_reducible first | apply at_cond | apply at_ret | apply at_exit | apply at_skip); (conv => whnf)) | (with_reducible apply at_block) | ((with_reducible refine at_regD Θ_ok mixed (by kernel_rfl) ?_); (conv => whnf)) | ((with_reducible refine call_r ?_); (conv => whnf); (first | ((with_reducible refine call_i (vtx_c _ _ hc) ?_); (conv => whnf)) | ((with_reducible refine call_i (parents_c _ _ h0) ?_); (conv => whnf)))))))
        exact hno (by rw [hA]; simp) hlt
      · have hye : g[((i : Int) - 1).toNat]? = some (g.getD (i - 1) v0) := by rw [show ((i : Int) - 1).toNat = i - 1 by omega, List.getD_eq_getElem?_getD, List.getElem?_eq_getElem (show i - 1 < g.length by omega)]; rfl
        generalize g.getD (i - 1) v0 = u at *
        (repeat (any_goals (first | (with_reducible apply at_seq) | ((with_reducible apply at_regS Θ_ok); (conv => whnf)) | ((refine go ?_); (conv => whnf)) | ((refine go2 (fun xe hxe => ?_)); (conv => whnf)) | ((with_reducible refine cnd_d (fun hq => ?_) (fun hq => ?_)) <;> (conv => whnf)) | ((with_reducible refine cnd_i (fun hq => ?_) (fun hq => ?_)) <;> ((try simp only [decide_eq_true_eq, decide_eq_false_iff_not, Bool.not_eq_true', Bool.not_eq_false', beq_iff_eq, bne_iff_ne, beq_eq_false_iff_ne, bne_eq_false_iff_eq, ne_eq] at hq) <;> (first | omega | (conv => whnf)))) | ((with_reducible first | apply at_cond | apply at_ret | apply at_exit | apply at_skip); (conv => whnf)) | (with_reducible apply at_block) | ((with_reducible refine at_regD Θ_ok mixed (by kernel_rfl) ?_); (conv => whnf)) | ((with_reducible refine call_r ?_); (conv => whnf); (first | ((with_reducible refine call_i (vtx_c _ _ hc) ?_); (conv => whnf)) | ((with_reducible refine call_i (before_c _ _) ?_); (conv => whnf)) | ((with_reducible refine call_i (parents_c _ _ h0) ?_); (conv => whnf)))))))
        all_goals exact hno (by rw [hA]; simp) hlt
    · rw [h3] at hA
      by_cases hi0 : i = 0
      · (repeat (any_goals (first | (with_reducible apply at_seq) | ((with_reducible apply at_regS Θ_ok); (conv => whnf)) | ((refine go ?_); (conv => whnf)) | ((refine go2 (fun xe hxe => ?_)); (conv => whnf)) | ((with_reducible refine cnd_d (fun hq => ?_) (fun hq => ?_)) <;> (conv => whnf)) | ((with_reducible refine cnd_i (fun hq => ?_) (fun hq => ?_)) <;> ((try simp only [decide_eq_true_eq, decide_eq_false_iff_not, Bool.not_eq_true', Bool.not_eq_false', beq_iff_eq, bne_iff_ne, beq_eq_false_iff_ne, bne_eq_false_iff_eq, ne_eq] at hq) <;> (first | omega | (conv => whnf)))) | ((with_reducible first | apply at_cond | apply at_ret | apply at_exit | apply at_skip); (conv => whnf)) | (with_reducible apply at_block) | ((with_reducible refine at_regD Θ_ok mixed (by kernel_rfl) ?_); (conv => whnf)) | ((with_reducible refine call_r ?_); (conv => whnf); (first | ((with_reducible refine call_i (vtx_c _ _ hc) ?_); (conv => whnf)) | ((with_reducible refine call_i (parents_c _ _ h0) ?_); (conv => whnf)))))))
        exact hyes (by rw [hA]; simp [hi0])
      · have hye : g[((i : Int) - 1).toNat]? = some (g.getD (i - 1) v0) := by rw [show ((i : Int) - 1).toNat = i - 1 by omega, List.getD_eq_getElem?_getD, List.getElem?_eq_getElem (show i - 1 < g.length by omega)]; rfl
        generalize g.getD (i - 1) v0 = u at *
        cases h4 : bef u v
        · (repeat (any_goals (first | (with_reducible apply at_seq) | ((with_reducible apply at_regS Θ_ok); (conv => whnf)) | ((refine go ?_); (conv => whnf)) | ((refine go2 (fun xe hxe => ?_)); (conv => whnf)) | ((with_reducible refine cnd_d (fun hq => ?_) (fun hq => ?_)) <;> (conv => whnf)) | ((with_reducible refine cnd_i (fun hq => ?_) (fun hq => ?_)) <;> ((try simp only [decide_eq_true_eq, decide_eq_false_iff_not, Bool.not_eq_true', Bool.not_eq_false', beq_iff_eq, bne_iff_ne, beq_eq_false_iff_ne, bne_eq_false_iff_eq, ne_eq] at hq) <;> (first | omega | (conv => whnf)))) | ((with_reducible first | apply at_cond | apply at_ret | apply at_exit | apply at_skip); (conv => whnf)) | (with_reducible apply at_block) | ((with_reducible refine at_regD Θ_ok mixed (by kernel_rfl) ?_); (conv => whnf)) | ((with_reducible refine call_r ?_); (conv => whnf); (first | ((with_reducible refine call_i (vtx_c _ _ hc) ?_); (conv => whnf)) | ((with_reducible refine call_i (before_c _ _) ?_); (conv => whnf)) | ((with_reducible refine call_i (parents_c _ _ h0) ?_); (conv => whnf)))))))
          exact hno (by rw [hA, h4]; simp [hi0]) hlt
        · (repeat (any_goals (first | (with_reducible apply at_seq) | ((with_reducible apply at_regS Θ_ok); (conv => whnf)) | ((refine go ?_); (conv => whnf)) | ((refine go2 (fun xe hxe => ?_)); (conv => whnf)) | ((with_reducible refine cnd_d (fun hq => ?_) (fun hq => ?_)) <;> (conv => whnf)) | ((with_reducible refine cnd_i (fun hq => ?_) (fun hq => ?_)) <;> ((try simp only [decide_eq_true_eq, decide_eq_false_iff_not, Bool.not_eq_true', Bool.not_eq_false', beq_iff_eq, bne_iff_ne, beq_eq_false_iff_ne, bne_eq_false_iff_eq, ne_eq] at hq) <;> (first | omega | (conv => whnf)))) | ((with_reducible first | apply at_cond | apply at_ret | apply at_exit | apply at_skip); (conv => whnf)) | (with_reducible apply at_block) | ((with_reducible refine at_regD Θ_ok mixed (by kernel_rfl) ?_); (conv => whnf)) | ((with_reducible refine call_r ?_); (conv => whnf); (first | ((with_reducible refine call_i (vtx_c _ _ hc) ?_); (conv => whnf)) | ((with_reducible refine call_i (before_c _ _) ?_); (conv => whnf)) | ((with_reducible refine call_i (parents_c _ _ h0) ?_); (conv => whnf)))))))
          exact hyes (by rw [hA, h4]; simp)
  · (repeat (any_goals (first | (with_reducible apply at_seq) | ((with_reducible apply at_regS Θ_ok); (conv => whnf)) | ((refine go ?_); (conv => whnf)) | ((refine go2 (fun xe hxe => ?_)); (conv => whnf)) | ((with_reducible refine cnd_d (fun hq => ?_) (fun hq => ?_)) <;> (conv => whnf)) | ((with_reducible refine cnd_i (fun hq => ?_) (fun hq => ?_)) <;> ((try simp only [decide_eq_true_eq, decide_eq_false_iff_not, Bool.not_eq_true', Bool.not_eq_false', beq_iff_eq, bne_iff_ne, beq_eq_false_iff_ne, bne_eq_false_iff_eq, ne_eq] at hq) <;> (first | omega | (conv => whnf)))) | ((with_reducible first | apply at_cond | apply at_ret | apply at_exit | apply at_skip); (conv => whnf)) | (with_reducible apply at_block) | ((with_reducible refine at_regD Θ_ok mixed (by kernel_rfl) ?_); (conv => whnf)))))
    refine ⟨?_, rfl⟩
    have : i = g.length := by omega
    subst this
    simp only [graS, hc, allTo_t hall, Bool.true_and]
theorem auth_snoc {g : List Vtx} {r : Int} {i : Nat} {v : Vtx} (h : g[i]? = some v) : auth (g.take (i + 1)) r = if v.round == r then auth (g.take i) r ++ [v.author] else auth (g.take i) r := by
  obtain ⟨hl, rfl⟩ := List.getElem?_eq_some_iff.1 h
  rw [List.take_succ_eq_append_getElem hl]
  simp only [auth, List.filter_append, List.map_append, List.filter_cons, List.filter_nil]
  split <;> simp
theorem auth_len (g : List Vtx) (r : Int) (i : Nat) : (auth (g.take i) r).length ≤ g.length := by
  unfold auth
  rw [List.length_map]
  refine Nat.le_trans (List.length_filter_le _ _) ?_
  rw [List.length_take]
  omega
def ghV (c : List Int) (g : List Vtx) : Int := if graS c g then hgt c g else -1
def gaV (c : List Int) (g : List Vtx) (r : Int) : List Int := if graS c g then auth g r else []
end Go.Proofs.Ytfamejohdhkffaa.Am
namespace Go.Proofs.Ytfamejohdhkffaa.Am
set_option linter.unusedSimpArgs false
set_option linter.unusedVariables false
open Go
attribute [local irreducible] Mk Need Ari Get Idx Cnd CallM CallA Opt Unch At ConV
set_option maxRecDepth 10000

theorem ival_c (c : List Int) : ConV Try.prog 37 [.lst (.int .i64) c] [] (.bool (comV c)) [] := by
  refine con_eq Θ_ok Try.func37 rfl rfl false 0 4 rfl rfl rfl rfl fun K hK hb1 hb2 => ?_; simp only [argsV, enc, Nat.reduceAdd]
  simp [toDL, V.toD, bnd, encD, D.cells] at hb1
  have hno : ¬ (1 ≤ c.length ∧ c.length ≤ 7) → V.bool false = V.bool (comV c) ∧ ([] : VH) = [] := fun h => by
    refine ⟨?_, rfl⟩
    have : comV c = false := by rw [Bool.eq_false_iff]; intro h2; exact h (comV_iff.1 h2).2
    rw [this]
  (repeat (any_goals (first | (with_reducible apply at_seq) | ((with_reducible apply at_regS Θ_ok); (conv => whnf)) | ((refine go ?_); (conv => whnf)) | ((refine go2 (fun xe hxe => ?_)); (conv => whnf)) | ((with_reducible refine cnd_d (fun hq => ?_) (fun hq => ?_)) <;> (conv => whnf)) | ((with_reducible refine cnd_i (fun hq => ?_) (fun hq => ?_)) <;> ((try simp only [decide_eq_true_eq, decide_eq_false_iff_not, Bool.not_eq_true', Bool.not_eq_false', beq_iff_eq, bne_iff_ne, beq_eq_false_iff_ne, bne_eq_false_iff_eq, ne_eq] at hq) <;> (first | omega | (conv => whnf)))) | ((with_reducible first | apply at_cond | apply at_ret | apply at_exit | apply at_skip); (conv => whnf)) | (with_reducible apply at_block) | ((with_reducible refine at_regD Θ_ok mixed (by kernel_rfl) ?_); (conv => whnf)))))
  · exact hno (by omega)
  · exact hno (by omega)
  refine at_loop hK [] [0, 13, 14, 15] (fun i : Nat => ⟨[(0, .lst (.int .i64) c), (13, .lst (.int .i64) c), (14, .int .i64 c.length), (15, .int .i64 i)], [], 4⟩) (fun i => i ≤ c.length ∧ ∀ j, j < i → vIn (c.getD j 0) 1 9 = true) (fun i => c.length - i) 0 ⟨by simp, by simp⟩ rfl ?_
  rintro i ⟨hi, hall⟩
  have hno : ∀ x, c[i]? = some x → ¬ (1 ≤ x ∧ x ≤ 9) → V.bool false = V.bool (comV c) ∧ ([] : VH) = [] := fun x hx h => by
    refine ⟨?_, rfl⟩
    have : comV c = false := by rw [Bool.eq_false_iff]; intro h2; exact h ((comV_iff.1 h2).1 x (List.mem_of_getElem? hx))
    rw [this]
  by_cases hlt : i < c.length
  · have hxe : c[i]? = some c[i] := List.getElem?_eq_getElem hlt
    have hn := hno _ hxe
    have hy := all_step hall (p := fun j => vIn (c.getD j 0) 1 9) (i := i)
    simp only [getD_of hxe] at hy
    generalize c[i] = x at *
    (repeat (any_goals (first | (with_reducible apply at_seq) | ((with_reducible apply at_regS Θ_ok); (conv => whnf)) | ((refine go ?_); (conv => whnf)) | ((refine go2 (fun xe hxe => ?_)); (conv => whnf)) | ((with_reducible refine cnd_d (fun hq => ?_) (fun hq => ?_)) <;> (conv => whnf)) | ((with_reducible refine cnd_i (fun hq => ?_) (fun hq => ?_)) <;> ((try simp only [decide_eq_true_eq, decide_eq_false_iff_not, Bool.not_eq_true', Bool.not_eq_false', beq_iff_eq, bne_iff_ne, beq_eq_false_iff_ne, bne_eq_false_iff_eq, ne_eq] at hq) <;> (first | omega | (conv => whnf)))) | ((with_reducible first | apply at_cond | apply at_ret | apply at_exit | apply at_skip); (conv => whnf)) | (with_reducible apply at_block) | ((with_reducible refine at_regD Θ_ok mixed (by kernel_rfl) ?_); (conv => whnf)))))
    · exact hn (by omega)
    · exact hn (by omega)
    · exact ⟨i + 1, ⟨by omega, hy (vIn_iff.2 (by omega))⟩, by omega, rfl⟩
  · (repeat (any_goals (first | (with_reducible apply at_seq) | ((with_reducible apply at_regS Θ_ok); (conv => whnf)) | ((refine go ?_); (conv => whnf)) | ((refine go2 (fun xe hxe => ?_)); (conv => whnf)) | ((with_reducible refine cnd_d (fun hq => ?_) (fun hq => ?_)) <;> (conv => whnf)) | ((with_reducible refine cnd_i (fun hq => ?_) (fun hq => ?_)) <;> ((try simp only [decide_eq_true_eq, decide_eq_false_iff_not, Bool.not_eq_true', Bool.not_eq_false', beq_iff_eq, bne_iff_ne, beq_eq_false_iff_ne, bne_eq_false_iff_eq, ne_eq] at hq) <;> (first | omega | (conv => whnf)))) | ((with_reducible first | apply at_cond | apply at_ret | apply at_exit | apply at_skip); (conv => whnf)) | (with_reducible apply at_block) | ((with_reducible refine at_regD Θ_ok mixed (by kernel_rfl) ?_); (conv => whnf)))))
    refine ⟨?_, rfl⟩
    have : i = c.length := by omega
    subst this
    have h1 : vIn c.length 1 7 = true := vIn_iff.2 (by omega)
    simp only [comV, allTo_t hall, Bool.true_and, h1]
theorem icomV_c (c : List Int) : ConV Try.prog 87 [.lst (.int .i64) c] [] (.bool (comV c)) [] := by
  refine con_eq Θ_ok Try.func87 rfl rfl false 0 4 rfl rfl rfl rfl fun K hK hb1 hb2 => ?_; simp only [argsV, enc, Nat.reduceAdd]
  (repeat (any_goals (first | (with_reducible apply at_seq) | ((with_reducible apply at_regS Θ_ok); (conv => whnf)) | ((refine go ?_); (conv => whnf)) | ((refine go2 (fun xe hxe => ?_)); (conv => whnf)) | ((with_reducible refine cnd_d (fun hq => ?_) (fun hq => ?_)) <;> (conv => whnf)) | ((with_reducible refine cnd_i (fun hq => ?_) (fun hq => ?_)) <;> ((try simp only [decide_eq_true_eq, decide_eq_false_iff_not, Bool.not_eq_true', Bool.not_eq_false', beq_iff_eq, bne_iff_ne, beq_eq_false_iff_ne, bne_eq_false_iff_eq, ne_eq] at hq) <;> (first | omega | (conv => whnf)))) | ((with_reducible first | apply at_cond | apply at_ret | apply at_exit | apply at_skip); (conv => whnf)) | (with_reducible apply at_block) | ((with_reducible refine at_regD Θ_ok mixed (by kernel_rfl) ?_); (conv => whnf)) | ((with_reducible refine call_r ?_); (conv => whnf); (first | ((with_reducible refine call_i (ival_c _) ?_); (conv => whnf)))))))
  exact ⟨rfl, rfl⟩
theorem itot_c (c : List Int) (hc : comV c = true) : ConV Try.prog 68 [.lst (.int .i64) c] [] (.int .i64 (tot c)) [] := by
  have hc1 := comV_iff.1 hc
  refine con_eq Θ_ok Try.func68 rfl rfl false 0 4 rfl rfl rfl rfl fun K hK hb1 hb2 => ?_; simp only [argsV, enc, Nat.reduceAdd]
  clear hb1 hb2
  (repeat (any_goals (first | (with_reducible apply at_seq) | ((with_reducible apply at_regS Θ_ok); (conv => whnf)) | ((refine go ?_); (conv => whnf)) | ((refine go2 (fun xe hxe => ?_)); (conv => whnf)) | ((with_reducible refine cnd_d (fun hq => ?_) (fun hq => ?_)) <;> (conv => whnf)) | ((with_reducible refine cnd_i (fun hq => ?_) (fun hq => ?_)) <;> ((try simp only [decide_eq_true_eq, decide_eq_false_iff_not, Bool.not_eq_true', Bool.not_eq_false', beq_iff_eq, bne_iff_ne, beq_eq_false_iff_ne, bne_eq_false_iff_eq, ne_eq] at hq) <;> (first | omega | (conv => whnf)))) | ((with_reducible first | apply at_cond | apply at_ret | apply at_exit | apply at_skip); (conv => whnf)) | (with_reducible apply at_block) | ((with_reducible refine at_regD Θ_ok mixed (by kernel_rfl) ?_); (conv => whnf)))))
  refine at_loop hK [] [0, 3, 6, 7, 8] (fun i : Nat => ⟨[(0, .lst (.int .i64) c), (3, .int .i64 (tot (c.take i))), (6, .lst (.int .i64) c), (7, .int .i64 c.length), (8, .int .i64 i)], [], 4⟩) (fun i => i ≤ c.length) (fun i => c.length - i) 0 (by simp) rfl ?_
  intro i hi
  have hb := tot_tk hc i
  by_cases hlt : i < c.length
  · have hxe : c[i]? = some c[i] := List.getElem?_eq_getElem hlt
    have hb2 := hc1.1 _ (List.mem_of_getElem? hxe)
    have hsn := tot_snoc hxe
    generalize c[i] = x at *
    (repeat (any_goals (first | (with_reducible apply at_seq) | ((with_reducible apply at_regS Θ_ok); (conv => whnf)) | ((refine go ?_); (conv => whnf)) | ((refine go2 (fun xe hxe => ?_)); (conv => whnf)) | ((with_reducible refine cnd_d (fun hq => ?_) (fun hq => ?_)) <;> (conv => whnf)) | ((with_reducible refine cnd_i (fun hq => ?_) (fun hq => ?_)) <;> ((try simp only [decide_eq_true_eq, decide_eq_false_iff_not, Bool.not_eq_true', Bool.not_eq_false', beq_iff_eq, bne_iff_ne, beq_eq_false_iff_ne, bne_eq_false_iff_eq, ne_eq] at hq) <;> (first | omega | (conv => whnf)))) | ((with_reducible first | apply at_cond | apply at_ret | apply at_exit | apply at_skip); (conv => whnf)) | (with_reducible apply at_block) | ((with_reducible refine at_regD Θ_ok mixed (by kernel_rfl) ?_); (conv => whnf)))))
    exact ⟨i + 1, by omega, by omega, by rw [hsn]; rfl⟩
  (repeat (any_goals (first | (with_reducible apply at_seq) | ((with_reducible apply at_regS Θ_ok); (conv => whnf)) | ((refine go ?_); (conv => whnf)) | ((refine go2 (fun xe hxe => ?_)); (conv => whnf)) | ((with_reducible refine cnd_d (fun hq => ?_) (fun hq => ?_)) <;> (conv => whnf)) | ((with_reducible refine cnd_i (fun hq => ?_) (fun hq => ?_)) <;> ((try simp only [decide_eq_true_eq, decide_eq_false_iff_not, Bool.not_eq_true', Bool.not_eq_false', beq_iff_eq, bne_iff_ne, beq_eq_false_iff_ne, bne_eq_false_iff_eq, ne_eq] at hq) <;> (first | omega | (conv => whnf)))) | ((with_reducible first | apply at_cond | apply at_ret | apply at_exit | apply at_skip); (conv => whnf)) | (with_reducible apply at_block) | ((with_reducible refine at_regD Θ_ok mixed (by kernel_rfl) ?_); (conv => whnf)))))
  rw [List.take_of_length_le (by omega)]
  exact ⟨rfl, rfl⟩
theorem iquo_c (c : List Int) (hc : comV c = true) : ConV Try.prog 104 [.lst (.int .i64) c] [] (.int .i64 (quo c)) [] := by
  have h1 := tot_bd hc
  have h2 := quo_bd hc
  have h3 : (2 * tot c).tdiv 3 + 1 = quo c := rfl
  refine con_eq Θ_ok Try.func104 rfl rfl false 0 4 rfl rfl rfl rfl fun K hK hb1 hb2 => ?_; simp only [argsV, enc, Nat.reduceAdd]
  (repeat (any_goals (first | (with_reducible apply at_seq) | ((with_reducible apply at_regS Θ_ok); (conv => whnf)) | ((refine go ?_); (conv => whnf)) | ((refine go2 (fun xe hxe => ?_)); (conv => whnf)) | ((with_reducible refine cnd_d (fun hq => ?_) (fun hq => ?_)) <;> (conv => whnf)) | ((with_reducible refine cnd_i (fun hq => ?_) (fun hq => ?_)) <;> ((try simp only [decide_eq_true_eq, decide_eq_false_iff_not, Bool.not_eq_true', Bool.not_eq_false', beq_iff_eq, bne_iff_ne, beq_eq_false_iff_ne, bne_eq_false_iff_eq, ne_eq] at hq) <;> (first | omega | (conv => whnf)))) | ((with_reducible first | apply at_cond | apply at_ret | apply at_exit | apply at_skip); (conv => whnf)) | (with_reducible apply at_block) | ((with_reducible refine at_regD Θ_ok mixed (by kernel_rfl) ?_); (conv => whnf)) | ((with_reducible refine call_r ?_); (conv => whnf); (first | ((with_reducible refine call_i (itot_c _ hc) ?_); (conv => whnf)))))))
  exact ⟨rfl, rfl⟩
theorem icquo_c (c : List Int) : ConV Try.prog 86 [.lst (.int .i64) c] [] (.int .i64 (if comV c then quo c else -1)) [] := by
  refine con_eq Θ_ok Try.func86 rfl rfl false 0 4 rfl rfl rfl rfl fun K hK hb1 hb2 => ?_; simp only [argsV, enc, Nat.reduceAdd]
  cases hc : comV c
  · (repeat (any_goals (first | (with_reducible apply at_seq) | ((with_reducible apply at_regS Θ_ok); (conv => whnf)) | ((refine go ?_); (conv => whnf)) | ((refine go2 (fun xe hxe => ?_)); (conv => whnf)) | ((with_reducible refine cnd_d (fun hq => ?_) (fun hq => ?_)) <;> (conv => whnf)) | ((with_reducible refine cnd_i (fun hq => ?_) (fun hq => ?_)) <;> ((try simp only [decide_eq_true_eq, decide_eq_false_iff_not, Bool.not_eq_true', Bool.not_eq_false', beq_iff_eq, bne_iff_ne, beq_eq_false_iff_ne, bne_eq_false_iff_eq, ne_eq] at hq) <;> (first | omega | (conv => whnf)))) | ((with_reducible first | apply at_cond | apply at_ret | apply at_exit | apply at_skip); (conv => whnf)) | (with_reducible apply at_block) | ((with_reducible refine at_regD Θ_ok mixed (by kernel_rfl) ?_); (conv => whnf)) | ((with_reducible refine call_r ?_); (conv => whnf); (first | ((with_reducible refine call_i (ival_c _) ?_); (conv => whnf)))))))
    exact ⟨rfl, rfl⟩
  · (repeat (any_goals (first | (with_reducible apply at_seq) | ((with_reducible apply at_regS Θ_ok); (conv => whnf)) | ((refine go ?_); (conv => whnf)) | ((refine go2 (fun xe hxe => ?_)); (conv => whnf)) | ((with_reducible refine cnd_d (fun hq => ?_) (fun hq => ?_)) <;> (conv => whnf)) | ((with_reducible refine cnd_i (fun hq => ?_) (fun hq => ?_)) <;> ((try simp only [decide_eq_true_eq, decide_eq_false_iff_not, Bool.not_eq_true', Bool.not_eq_false', beq_iff_eq, bne_iff_ne, beq_eq_false_iff_ne, bne_eq_false_iff_eq, ne_eq] at hq) <;> (first | omega | (conv => whnf)))) | ((with_reducible first | apply at_cond | apply at_ret | apply at_exit | apply at_skip); (conv => whnf)) | (with_reducible apply at_block) | ((with_reducible refine at_regD Θ_ok mixed (by kernel_rfl) ?_); (conv => whnf)) | ((with_reducible refine call_r ?_); (conv => whnf); (first | ((with_reducible refine call_i (ival_c _) ?_); (conv => whnf)) | ((with_reducible refine call_i (iquo_c _ hc) ?_); (conv => whnf)))))))
    exact ⟨rfl, rfl⟩
theorem ihas_c (c : List Int) (m : Int) : ConV Try.prog 88 [.lst (.int .i64) c, .int .i64 m] [] (.bool (hasM c m)) [] := by
  refine con_eq Θ_ok Try.func88 rfl rfl false 0 4 rfl rfl rfl rfl fun K hK hb1 hb2 => ?_; simp only [argsV, enc, Nat.reduceAdd]
  simp [toDL, V.toD, bnd, encD, D.cells] at hb1
  (repeat (any_goals (first | (with_reducible apply at_seq) | ((with_reducible apply at_regS Θ_ok); (conv => whnf)) | ((refine go ?_); (conv => whnf)) | ((refine go2 (fun xe hxe => ?_)); (conv => whnf)) | ((with_reducible refine cnd_d (fun hq => ?_) (fun hq => ?_)) <;> (conv => whnf)) | ((with_reducible refine cnd_i (fun hq => ?_) (fun hq => ?_)) <;> ((try simp only [decide_eq_true_eq, decide_eq_false_iff_not, Bool.not_eq_true', Bool.not_eq_false', beq_iff_eq, bne_iff_ne, beq_eq_false_iff_ne, bne_eq_false_iff_eq, ne_eq] at hq) <;> (first | omega | (conv => whnf)))) | ((with_reducible first | apply at_cond | apply at_ret | apply at_exit | apply at_skip); (conv => whnf)) | (with_reducible apply at_block) | ((with_reducible refine at_regD Θ_ok mixed (by kernel_rfl) ?_); (conv => whnf)))))
  all_goals (refine ⟨congrArg V.bool ?_, rfl⟩; rw [Bool.eq_iff_iff]; simp only [hasM, vIn_iff, decide_eq_true_eq]; (try simp); omega)
theorem irnd_c (r : Int) : ConV Try.prog 105 [.int .i64 r] [] (.bool (vIn r 0 30)) [] := by
  refine con_eq Θ_ok Try.func105 rfl rfl false 0 4 rfl rfl rfl rfl fun K hK hb1 hb2 => ?_; simp only [argsV, enc, Nat.reduceAdd]
  (repeat (any_goals (first | (with_reducible apply at_seq) | ((with_reducible apply at_regS Θ_ok); (conv => whnf)) | ((refine go ?_); (conv => whnf)) | ((refine go2 (fun xe hxe => ?_)); (conv => whnf)) | ((with_reducible refine cnd_d (fun hq => ?_) (fun hq => ?_)) <;> (conv => whnf)) | ((with_reducible refine cnd_i (fun hq => ?_) (fun hq => ?_)) <;> ((try simp only [decide_eq_true_eq, decide_eq_false_iff_not, Bool.not_eq_true', Bool.not_eq_false', beq_iff_eq, bne_iff_ne, beq_eq_false_iff_ne, bne_eq_false_iff_eq, ne_eq] at hq) <;> (first | omega | (conv => whnf)))) | ((with_reducible first | apply at_cond | apply at_ret | apply at_exit | apply at_skip); (conv => whnf)) | (with_reducible apply at_block) | ((with_reducible refine at_regD Θ_ok mixed (by kernel_rfl) ?_); (conv => whnf)))))
  all_goals (refine ⟨congrArg V.bool ?_, rfl⟩; rw [Bool.eq_iff_iff]; simp only [vIn_iff, decide_eq_true_eq]; (try simp); omega)
theorem idig_c (r : Int) : ConV Try.prog 106 [.int .i64 r] [] (.bool (vIn r 0 990)) [] := by
  refine con_eq Θ_ok Try.func106 rfl rfl false 0 4 rfl rfl rfl rfl fun K hK hb1 hb2 => ?_; simp only [argsV, enc, Nat.reduceAdd]
  (repeat (any_goals (first | (with_reducible apply at_seq) | ((with_reducible apply at_regS Θ_ok); (conv => whnf)) | ((refine go ?_); (conv => whnf)) | ((refine go2 (fun xe hxe => ?_)); (conv => whnf)) | ((with_reducible refine cnd_d (fun hq => ?_) (fun hq => ?_)) <;> (conv => whnf)) | ((with_reducible refine cnd_i (fun hq => ?_) (fun hq => ?_)) <;> ((try simp only [decide_eq_true_eq, decide_eq_false_iff_not, Bool.not_eq_true', Bool.not_eq_false', beq_iff_eq, bne_iff_ne, beq_eq_false_iff_ne, bne_eq_false_iff_eq, ne_eq] at hq) <;> (first | omega | (conv => whnf)))) | ((with_reducible first | apply at_cond | apply at_ret | apply at_exit | apply at_skip); (conv => whnf)) | (with_reducible apply at_block) | ((with_reducible refine at_regD Θ_ok mixed (by kernel_rfl) ?_); (conv => whnf)))))
  all_goals (refine ⟨congrArg V.bool ?_, rfl⟩; rw [Bool.eq_iff_iff]; simp only [vIn_iff, decide_eq_true_eq]; (try simp); omega)
theorem ihold_c (c ms : List Int) : ConV Try.prog 107 [.lst (.int .i64) c, .lst (.int .i64) ms] [] (.bool (mems c ms)) [] := by
  refine con_eq Θ_ok Try.func107 rfl rfl false 0 4 rfl rfl rfl rfl fun K hK hb1 hb2 => ?_; simp only [argsV, enc, Nat.reduceAdd]
  simp [toDL, V.toD, bnd, encD, D.cells] at hb1
  (repeat (any_goals (first | (with_reducible apply at_seq) | ((with_reducible apply at_regS Θ_ok); (conv => whnf)) | ((refine go ?_); (conv => whnf)) | ((refine go2 (fun xe hxe => ?_)); (conv => whnf)) | ((with_reducible refine cnd_d (fun hq => ?_) (fun hq => ?_)) <;> (conv => whnf)) | ((with_reducible refine cnd_i (fun hq => ?_) (fun hq => ?_)) <;> ((try simp only [decide_eq_true_eq, decide_eq_false_iff_not, Bool.not_eq_true', Bool.not_eq_false', beq_iff_eq, bne_iff_ne, beq_eq_false_iff_ne, bne_eq_false_iff_eq, ne_eq] at hq) <;> (first | omega | (conv => whnf)))) | ((with_reducible first | apply at_cond | apply at_ret | apply at_exit | apply at_skip); (conv => whnf)) | (with_reducible apply at_block) | ((with_reducible refine at_regD Θ_ok mixed (by kernel_rfl) ?_); (conv => whnf)))))
  refine at_loop hK [] [0, 1, 7, 8, 9] (fun i : Nat => ⟨[(0, .lst (.int .i64) c), (1, .lst (.int .i64) ms), (7, .lst (.int .i64) ms), (8, .int .i64 ms.length), (9, .int .i64 i)], [], 4⟩) (fun i => i ≤ ms.length ∧ ∀ j, j < i → memAt c ms j = true) (fun i => ms.length - i) 0 ⟨by simp, by simp⟩ rfl ?_
  rintro i ⟨hi, hall⟩
  have hno : memAt c ms i = false → i < ms.length → V.bool false = V.bool (mems c ms) ∧ ([] : VH) = [] := fun h1 h2 => by
    have : mems c ms = false := allTo_f h2 h1
    rw [this]
    exact ⟨rfl, rfl⟩
  by_cases hlt : i < ms.length
  · have hxe : ms[i]? = some ms[i] := List.getElem?_eq_getElem hlt
    have hA : memAt c ms i = (hasM c ms[i] && (i == 0 || decide (ms.getD (i - 1) 0 < ms[i]))) := by simp only [memAt, getD_of hxe]
    have hyes : memAt c ms i = true → ∃ y, (y ≤ ms.length ∧ ∀ j, j < y → memAt c ms j = true) ∧ ms.length - y < ms.length - i ∧ VSt.mk [(0, .lst (.int .i64) c), (1, .lst (.int .i64) ms), (7, .lst (.int .i64) ms), (8, .int .i64 ms.length), (9, .int .i64 ((i : Int) + 1))] [] 4 = ⟨[(0, .lst (.int .i64) c), (1, .lst (.int .i64) ms), (7, .lst (.int .i64) ms), (8, .int .i64 ms.length), (9, .int .i64 (y : Int))], [], 4⟩ := fun h => ⟨i + 1, ⟨by omega, all_step hall h⟩, by omega, rfl⟩
    generalize ms[i] = m at *
    cases h1 : hasM c m
    · (repeat (any_goals (first | (with_reducible apply at_seq) | ((with_reducible apply at_regS Θ_ok); (conv => whnf)) | ((refine go ?_); (conv => whnf)) | ((refine go2 (fun xe hxe => ?_)); (conv => whnf)) | ((with_reducible refine cnd_d (fun hq => ?_) (fun hq => ?_)) <;> (conv => whnf)) | ((with_reducible refine cnd_i (fun hq => ?_) (fun hq => ?_)) <;> ((try simp only [decide_eq_true_eq, decide_eq_false_iff_not, Bool.not_eq_true', Bool.not_eq_false', beq_iff_eq, bne_iff_ne, beq_eq_false_iff_ne, bne_eq_false_iff_eq, ne_eq] at hq) <;> (first | omega | (conv => whnf)))) | ((with_reducible first | apply at_cond | apply at_ret | apply at_exit | apply at_skip); (conv => whnf)) | (with_reducible apply at_block) | ((with_reducible refine at_regD Θ_ok mixed (by kernel_rfl) ?_); (conv => whnf)) | ((with_reducible refine call_r ?_); (conv => whnf); (first | ((with_reducible refine call_i (ihas_c _ _) ?_); (conv => whnf)))))))
      exact hno (by rw [hA, h1]; rfl) hlt
    by_cases hi0 : i = 0
    · (repeat (any_goals (first | (with_reducible apply at_seq) | ((with_reducible apply at_regS Θ_ok); (conv => whnf)) | ((refine go ?_); (conv => whnf)) | ((refine go2 (fun xe hxe => ?_)); (conv => whnf)) | ((with_reducible refine cnd_d (fun hq => ?_) (fun hq => ?_)) <;> (conv => whnf)) | ((with_reducible refine cnd_i (fun hq => ?_) (fun hq => ?_)) <;> ((try simp only [decide_eq_true_eq, decide_eq_false_iff_not, Bool.not_eq_true', Bool.not_eq_false', beq_iff_eq, bne_iff_ne, beq_eq_false_iff_ne, bne_eq_false_iff_eq, ne_eq] at hq) <;> (first | omega | (conv => whnf)))) | ((with_reducible first | apply at_cond | apply at_ret | apply at_exit | apply at_skip); (conv => whnf)) | (with_reducible apply at_block) | ((with_reducible refine at_regD Θ_ok mixed (by kernel_rfl) ?_); (conv => whnf)) | ((with_reducible refine call_r ?_); (conv => whnf); (first | ((with_reducible refine call_i (ihas_c _ _) ?_); (conv => whnf)))))))
      exact hyes (by rw [hA, h1]; simp [hi0])
    · have hye : ms[((i : Int) - 1).toNat]? = some (ms.getD (i - 1) 0) := by rw [show ((i : Int) - 1).toNat = i - 1 by omega, List.getD_eq_getElem?_getD, List.getElem?_eq_getElem (show i - 1 < ms.length by omega)]; rfl
      generalize ms.getD (i - 1) 0 = u at *
      (repeat (any_goals (first | (with_reducible apply at_seq) | ((with_reducible apply at_regS Θ_ok); (conv => whnf)) | ((refine go ?_); (conv => whnf)) | ((refine go2 (fun xe hxe => ?_)); (conv => whnf)) | ((with_reducible refine cnd_d (fun hq => ?_) (fun hq => ?_)) <;> (conv => whnf)) | ((with_reducible refine cnd_i (fun hq => ?_) (fun hq => ?_)) <;> ((try simp only [decide_eq_true_eq, decide_eq_false_iff_not, Bool.not_eq_true', Bool.not_eq_false', beq_iff_eq, bne_iff_ne, beq_eq_false_iff_ne, bne_eq_false_iff_eq, ne_eq] at hq) <;> (first | omega | (conv => whnf)))) | ((with_reducible first | apply at_cond | apply at_ret | apply at_exit | apply at_skip); (conv => whnf)) | (with_reducible apply at_block) | ((with_reducible refine at_regD Θ_ok mixed (by kernel_rfl) ?_); (conv => whnf)) | ((with_reducible refine call_r ?_); (conv => whnf); (first | ((with_reducible refine call_i (ihas_c _ _) ?_); (conv => whnf)))))))
      · exact hno (by rw [hA, h1]; simp; omega) hlt
      · exact hyes (by rw [hA, h1]; simp; omega)
  · (repeat (any_goals (first | (with_reducible apply at_seq) | ((with_reducible apply at_regS Θ_ok); (conv => whnf)) | ((refine go ?_); (conv => whnf)) | ((refine go2 (fun xe hxe => ?_)); (conv => whnf)) | ((with_reducible refine cnd_d (fun hq => ?_) (fun hq => ?_)) <;> (conv => whnf)) | ((with_reducible refine cnd_i (fun hq => ?_) (fun hq => ?_)) <;> ((try simp only [decide_eq_true_eq, decide_eq_false_iff_not, Bool.not_eq_true', Bool.not_eq_false', beq_iff_eq, bne_iff_ne, beq_eq_false_iff_ne, bne_eq_false_iff_eq, ne_eq] at hq) <;> (first | omega | (conv => whnf)))) | ((with_reducible first | apply at_cond | apply at_ret | apply at_exit | apply at_skip); (conv => whnf)) | (with_reducible apply at_block) | ((with_reducible refine at_regD Θ_ok mixed (by kernel_rfl) ?_); (conv => whnf)))))
    refine ⟨?_, rfl⟩
    have : i = ms.length := by omega
    subst this
    have : mems c ms = true := allTo_t hall
    rw [this]
theorem imemV_c (c ms : List Int) : ConV Try.prog 90 [.lst (.int .i64) c, .lst (.int .i64) ms] [] (.bool (comV c && mems c ms)) [] := by
  refine con_eq Θ_ok Try.func90 rfl rfl false 0 4 rfl rfl rfl rfl fun K hK hb1 hb2 => ?_; simp only [argsV, enc, Nat.reduceAdd]
  (repeat (any_goals (first | (with_reducible apply at_seq) | ((with_reducible apply at_regS Θ_ok); (conv => whnf)) | ((refine go ?_); (conv => whnf)) | ((refine go2 (fun xe hxe => ?_)); (conv => whnf)) | ((with_reducible refine cnd_d (fun hq => ?_) (fun hq => ?_)) <;> (conv => whnf)) | ((with_reducible refine cnd_i (fun hq => ?_) (fun hq => ?_)) <;> ((try simp only [decide_eq_true_eq, decide_eq_false_iff_not, Bool.not_eq_true', Bool.not_eq_false', beq_iff_eq, bne_iff_ne, beq_eq_false_iff_ne, bne_eq_false_iff_eq, ne_eq] at hq) <;> (first | omega | (conv => whnf)))) | ((with_reducible first | apply at_cond | apply at_ret | apply at_exit | apply at_skip); (conv => whnf)) | (with_reducible apply at_block) | ((with_reducible refine at_regD Θ_ok mixed (by kernel_rfl) ?_); (conv => whnf)) | ((with_reducible refine call_r ?_); (conv => whnf); (first | ((with_reducible refine call_i (ival_c _) ?_); (conv => whnf)) | ((with_reducible refine call_i (ihold_c _ _) ?_); (conv => whnf)))))))
  all_goals (refine ⟨?_, rfl⟩; simp_all)
theorem iwei_c (c ms : List Int) (hc : comV c = true) (hm : ∀ m ∈ ms, 0 ≤ m ∧ m < c.length) (hl : ms.length ≤ 2000000) : ConV Try.prog 103 [.lst (.int .i64) c, .lst (.int .i64) ms] [] (.int .i64 (wei c ms)) [] := by
  refine con_eq Θ_ok Try.func103 rfl rfl false 0 4 rfl rfl rfl rfl fun K hK hb1 hb2 => ?_; simp only [argsV, enc, Nat.reduceAdd]
  clear hb1 hb2
  (repeat (any_goals (first | (with_reducible apply at_seq) | ((with_reducible apply at_regS Θ_ok); (conv => whnf)) | ((refine go ?_); (conv => whnf)) | ((refine go2 (fun xe hxe => ?_)); (conv => whnf)) | ((with_reducible refine cnd_d (fun hq => ?_) (fun hq => ?_)) <;> (conv => whnf)) | ((with_reducible refine cnd_i (fun hq => ?_) (fun hq => ?_)) <;> ((try simp only [decide_eq_true_eq, decide_eq_false_iff_not, Bool.not_eq_true', Bool.not_eq_false', beq_iff_eq, bne_iff_ne, beq_eq_false_iff_ne, bne_eq_false_iff_eq, ne_eq] at hq) <;> (first | omega | (conv => whnf)))) | ((with_reducible first | apply at_cond | apply at_ret | apply at_exit | apply at_skip); (conv => whnf)) | (with_reducible apply at_block) | ((with_reducible refine at_regD Θ_ok mixed (by kernel_rfl) ?_); (conv => whnf)))))
  refine at_loop hK [] [0, 1, 5, 8, 9, 10] (fun i : Nat => ⟨[(0, .lst (.int .i64) c), (1, .lst (.int .i64) ms), (5, .int .i64 (wei c (ms.take i))), (8, .lst (.int .i64) ms), (9, .int .i64 ms.length), (10, .int .i64 i)], [], 4⟩) (fun i => i ≤ ms.length) (fun i => ms.length - i) 0 (by simp) rfl ?_
  intro i hi
  by_cases hlt : i < ms.length
  · have hxe : ms[i]? = some ms[i] := List.getElem?_eq_getElem hlt
    have h1 := hm _ (List.getElem_mem hlt)
    have h2 := wei_bd (ms := ms.take i) hc
    have h3 := wei_tk (c := c) hxe
    rw [List.length_take] at h2
    generalize ms[i] = m at *
    have hx2 : c[m.toNat]? = some (c.getD m.toNat 0) := by rw [List.getD_eq_getElem?_getD, List.getElem?_eq_getElem (show m.toNat < c.length by omega)]; rfl
    have h4 := (comV_iff.1 hc).1 _ (List.mem_of_getElem? hx2)
    generalize c.getD m.toNat 0 = x at *
    (repeat (any_goals (first | (with_reducible apply at_seq) | ((with_reducible apply at_regS Θ_ok); (conv => whnf)) | ((refine go ?_); (conv => whnf)) | ((refine go2 (fun xe hxe => ?_)); (conv => whnf)) | ((with_reducible refine cnd_d (fun hq => ?_) (fun hq => ?_)) <;> (conv => whnf)) | ((with_reducible refine cnd_i (fun hq => ?_) (fun hq => ?_)) <;> ((try simp only [decide_eq_true_eq, decide_eq_false_iff_not, Bool.not_eq_true', Bool.not_eq_false', beq_iff_eq, bne_iff_ne, beq_eq_false_iff_ne, bne_eq_false_iff_eq, ne_eq] at hq) <;> (first | omega | (conv => whnf)))) | ((with_reducible first | apply at_cond | apply at_ret | apply at_exit | apply at_skip); (conv => whnf)) | (with_reducible apply at_block) | ((with_reducible refine at_regD Θ_ok mixed (by kernel_rfl) ?_); (conv => whnf)))))
    exact ⟨i + 1, by omega, by omega, by rw [h3]; rfl⟩
  (repeat (any_goals (first | (with_reducible apply at_seq) | ((with_reducible apply at_regS Θ_ok); (conv => whnf)) | ((refine go ?_); (conv => whnf)) | ((refine go2 (fun xe hxe => ?_)); (conv => whnf)) | ((with_reducible refine cnd_d (fun hq => ?_) (fun hq => ?_)) <;> (conv => whnf)) | ((with_reducible refine cnd_i (fun hq => ?_) (fun hq => ?_)) <;> ((try simp only [decide_eq_true_eq, decide_eq_false_iff_not, Bool.not_eq_true', Bool.not_eq_false', beq_iff_eq, bne_iff_ne, beq_eq_false_iff_ne, bne_eq_false_iff_eq, ne_eq] at hq) <;> (first | omega | (conv => whnf)))) | ((with_reducible first | apply at_cond | apply at_ret | apply at_exit | apply at_skip); (conv => whnf)) | (with_reducible apply at_block) | ((with_reducible refine at_regD Θ_ok mixed (by kernel_rfl) ?_); (conv => whnf)))))
  rw [List.take_of_length_le (by omega)]
  exact ⟨rfl, rfl⟩
def weiV (c ms : List Int) : Int := if comV c && mems c ms then wei c ms else -1
theorem iweiV_c (c ms : List Int) : ConV Try.prog 85 [.lst (.int .i64) c, .lst (.int .i64) ms] [] (.int .i64 (weiV c ms)) [] := by
  refine con_eq Θ_ok Try.func85 rfl rfl false 0 4 rfl rfl rfl rfl fun K hK hb1 hb2 => ?_; simp only [argsV, enc, Nat.reduceAdd]
  cases hv : comV c && mems c ms
  · (repeat (any_goals (first | (with_reducible apply at_seq) | ((with_reducible apply at_regS Θ_ok); (conv => whnf)) | ((refine go ?_); (conv => whnf)) | ((refine go2 (fun xe hxe => ?_)); (conv => whnf)) | ((with_reducible refine cnd_d (fun hq => ?_) (fun hq => ?_)) <;> (conv => whnf)) | ((with_reducible refine cnd_i (fun hq => ?_) (fun hq => ?_)) <;> ((try simp only [decide_eq_true_eq, decide_eq_false_iff_not, Bool.not_eq_true', Bool.not_eq_false', beq_iff_eq, bne_iff_ne, beq_eq_false_iff_ne, bne_eq_false_iff_eq, ne_eq] at hq) <;> (first | omega | (conv => whnf)))) | ((with_reducible first | apply at_cond | apply at_ret | apply at_exit | apply at_skip); (conv => whnf)) | (with_reducible apply at_block) | ((with_reducible refine at_regD Θ_ok mixed (by kernel_rfl) ?_); (conv => whnf)) | ((with_reducible refine call_r ?_); (conv => whnf); (first | ((with_reducible refine call_i (imemV_c _ _) ?_); (conv => whnf)))))))
    exact ⟨by simp [weiV, hv], rfl⟩
  · have hc : comV c = true := by simp_all
    have hm : mems c ms = true := by simp_all
    have h7 := (comV_iff.1 hc).2
    have hl := mems_len hm
    (repeat (any_goals (first | (with_reducible apply at_seq) | ((with_reducible apply at_regS Θ_ok); (conv => whnf)) | ((refine go ?_); (conv => whnf)) | ((refine go2 (fun xe hxe => ?_)); (conv => whnf)) | ((with_reducible refine cnd_d (fun hq => ?_) (fun hq => ?_)) <;> (conv => whnf)) | ((with_reducible refine cnd_i (fun hq => ?_) (fun hq => ?_)) <;> ((try simp only [decide_eq_true_eq, decide_eq_false_iff_not, Bool.not_eq_true', Bool.not_eq_false', beq_iff_eq, bne_iff_ne, beq_eq_false_iff_ne, bne_eq_false_iff_eq, ne_eq] at hq) <;> (first | omega | (conv => whnf)))) | ((with_reducible first | apply at_cond | apply at_ret | apply at_exit | apply at_skip); (conv => whnf)) | (with_reducible apply at_block) | ((with_reducible refine at_regD Θ_ok mixed (by kernel_rfl) ?_); (conv => whnf)) | ((with_reducible refine call_r ?_); (conv => whnf); (first | ((with_reducible refine call_i (imemV_c _ _) ?_); (conv => whnf)) | ((with_reducible refine call_i (iwei_c _ _ hc (mems_in hm) (by omega)) ?_); (conv => whnf)))))))
    exact ⟨by simp [weiV, hv], rfl⟩
theorem ibef_c (v u : Vtx) : ConV Try.prog 114 [vtxA v, vtxA u] [] (.bool (bef v u)) [] := by
  refine con_eq Θ_ok Try.func114 rfl rfl false 0 4 rfl rfl rfl rfl fun K hK hb1 hb2 => ?_; simp only [argsV, enc, Nat.reduceAdd]
  (repeat (any_goals (first | (with_reducible apply at_seq) | ((with_reducible apply at_regS Θ_ok); (conv => whnf)) | ((refine go ?_); (conv => whnf)) | ((refine go2 (fun xe hxe => ?_)); (conv => whnf)) | ((with_reducible refine cnd_d (fun hq => ?_) (fun hq => ?_)) <;> (conv => whnf)) | ((with_reducible refine cnd_i (fun hq => ?_) (fun hq => ?_)) <;> ((try simp only [decide_eq_true_eq, decide_eq_false_iff_not, Bool.not_eq_true', Bool.not_eq_false', beq_iff_eq, bne_iff_ne, beq_eq_false_iff_ne, bne_eq_false_iff_eq, ne_eq] at hq) <;> (first | omega | (conv => whnf)))) | ((with_reducible first | apply at_cond | apply at_ret | apply at_exit | apply at_skip); (conv => whnf)) | (with_reducible apply at_block) | ((with_reducible refine at_regD Θ_ok mixed (by kernel_rfl) ?_); (conv => whnf)))))
  all_goals (refine ⟨?_, rfl⟩; simp_all [bef])
theorem ivtx_c (c : List Int) (v : Vtx) : ConV Try.prog 89 [.lst (.int .i64) c, vtxA v] [] (.bool (comV c && vtxS c v)) [] := by
  refine con_eq Θ_ok Try.func89 rfl rfl false 0 4 rfl rfl rfl rfl fun K hK hb1 hb2 => ?_; simp only [argsV, enc, Nat.reduceAdd]
  simp [toDL, V.toD, bnd, encD, D.cells] at hb1
  have h8 : ((v.parents.length : Int) == 0) = (v.parents.length == 0) := by rw [Bool.eq_iff_iff, beq_iff_eq, beq_iff_eq]; omega
  (repeat (any_goals (first | (with_reducible apply at_seq) | ((with_reducible apply at_regS Θ_ok); (conv => whnf)) | ((refine go ?_); (conv => whnf)) | ((refine go2 (fun xe hxe => ?_)); (conv => whnf)) | ((with_reducible refine cnd_d (fun hq => ?_) (fun hq => ?_)) <;> (conv => whnf)) | ((with_reducible refine cnd_i (fun hq => ?_) (fun hq => ?_)) <;> ((try simp only [decide_eq_true_eq, decide_eq_false_iff_not, Bool.not_eq_true', Bool.not_eq_false', beq_iff_eq, bne_iff_ne, beq_eq_false_iff_ne, bne_eq_false_iff_eq, ne_eq] at hq) <;> (first | omega | (conv => whnf)))) | ((with_reducible first | apply at_cond | apply at_ret | apply at_exit | apply at_skip); (conv => whnf)) | (with_reducible apply at_block) | ((with_reducible refine at_regD Θ_ok mixed (by kernel_rfl) ?_); (conv => whnf)) | ((with_reducible refine call_r ?_); (conv => whnf); (first | ((with_reducible refine call_i (imemV_c _ _) ?_); (conv => whnf)) | ((with_reducible refine call_i (irnd_c _) ?_); (conv => whnf)) | ((with_reducible refine call_i (ihas_c _ _) ?_); (conv => whnf)) | ((with_reducible refine call_i (idig_c _) ?_); (conv => whnf)) | ((with_reducible refine call_i (iweiV_c _ _) ?_); (conv => whnf)) | ((with_reducible refine call_i (icquo_c _) ?_); (conv => whnf)))))))
  all_goals (refine ⟨?_, rfl⟩; simp_all [vtxS, hasM, weiV])
end Go.Proofs.Ytfamejohdhkffaa.Am
namespace Go.Proofs.Ytfamejohdhkffaa.Am
set_option linter.unusedSimpArgs false
set_option linter.unusedVariables false
open Go
attribute [local irreducible] Mk Need Ari Get Idx Cnd CallM CallA Opt Unch At ConV
set_option maxRecDepth 10000

def Θg : TT := (130, ⟨.ptr 136, 1, 8, some (.nilp), some (.hp 0), false⟩) :: Θ
theorem Θg_ok : TT.ok Try.prog Θg := TT.okB_ok (by kernel_rfl)
/-- a linked graph: its list of nodes is nil, or a row -/
abbrev gZ (c : List Int) (s : GS) : VH := [(0, .fvar 136 (.nod 1) s.nodes), (1, .frow 130 (.hp 0) s.rows), (4, .vari 134 [.lst (.int .i64) c, .nils] 217 (.hp 0) s.plc [])]
abbrev gZx (c : List Int) (s : GS) (x : VB) : VH := [(0, .fvar 136 (.nod 1) s.nodes), (1, .frow 130 (.hp 0) s.rows), (4, .vari 134 [.lst (.int .i64) c, .nils] 217 (.hp 0) s.plc []), (5, x)]
abbrev gR (c : List Int) (s : GS) : VH := [(0, .fvar 136 (.nod 1) s.nodes), (1, .frow 130 (.hp 0) s.rows), (4, .vari 134 [.lst (.int .i64) c, .ref 5] 217 (.hp 0) s.plc []), (5, .row 130 (.hp 0) ((List.range s.nodes.length).map some))]
abbrev gRx (c : List Int) (s : GS) (x : VB) : VH := [(0, .fvar 136 (.nod 1) s.nodes), (1, .frow 130 (.hp 0) s.rows), (4, .vari 134 [.lst (.int .i64) c, .ref 5] 217 (.hp 0) s.plc []), (5, .row 130 (.hp 0) ((List.range s.nodes.length).map some)), (6, x)]
theorem plc_get {s : GS} (hs : s.plc.length = 217) {r a : Int} (hr : vIn r 0 30 = true) (ha : 0 ≤ a ∧ a ≤ 6) : s.plc[r.toNat * 7 + a.toNat]? = some (s.at r a) := by
  have hr := vIn_iff.1 hr
  have e : (r * 7 + a).toNat = r.toNat * 7 + a.toNat := by omega
  rw [GS.at, e, List.getD_eq_getElem?_getD, List.getElem?_eq_getElem (by omega)]
  rfl
/-- the authors of a round -/
def authG (s : GS) (r : Int) (n : Nat) : List Int := ((List.range n).filter fun a : Nat => vIn r 0 30 && (s.at r (a : Int)).isSome).map fun a : Nat => (a : Int)
theorem authG_snoc (s : GS) (r : Int) (n : Nat) : authG s r (n + 1) = if vIn r 0 30 && (s.at r (n : Int)).isSome then authG s r n ++ [(n : Int)] else authG s r n := by
  simp only [authG, List.range_succ, List.filter_append, List.map_append, List.filter_cons, List.filter_nil]
  split <;> simp
theorem authG_len (s : GS) (r : Int) (n : Nat) : (authG s r n).length ≤ n := by
  unfold authG
  rw [List.length_map]
  exact Nat.le_trans (List.length_filter_le _ _) (by simp)
theorem authG_in (s : GS) (r : Int) (n : Nat) : ∀ m ∈ authG s r n, 0 ≤ m ∧ m < n := by
  intro m hm
  obtain ⟨a, ha, rfl⟩ := List.mem_map.1 hm
  have := List.mem_range.1 (List.mem_filter.1 ha).1
  omega
theorem atn_cR (c : List Int) (s : GS) (r a : Int) (h : (vIn r 0 30 && hasM c a) = false) : ConV Try.prog 116 [.ptr 4 0, .int .i64 r, .int .i64 a] (gR c s) .nilp (gR c s) := by
  refine con_eq Θg_ok Try.func116 rfl rfl false 2 6 rfl rfl rfl rfl fun K hK hb1 hb2 => ?_; simp only [argsV, enc, Nat.reduceAdd]
  clear hb1 hb2
  cases h1 : vIn r 0 30
  · (repeat (any_goals (first | (with_reducible apply at_seq) | ((with_reducible apply at_regS Θ_ok); (conv => whnf)) | ((refine go ?_); (conv => whnf)) | ((refine go2 (fun xe hxe => ?_)); (conv => whnf)) | ((with_reducible refine cnd_d (fun hq => ?_) (fun hq => ?_)) <;> (conv => whnf)) | ((with_reducible refine cnd_i (fun hq => ?_) (fun hq => ?_)) <;> ((try simp only [decide_eq_true_eq, decide_eq_false_iff_not, Bool.not_eq_true', Bool.not_eq_false', beq_iff_eq, bne_iff_ne, beq_eq_false_iff_ne, bne_eq_false_iff_eq, ne_eq] at hq) <;> (first | omega | (conv => whnf)))) | ((with_reducible first | apply at_cond | apply at_ret | apply at_exit | apply at_skip); (conv => whnf)) | (with_reducible apply at_block) | ((with_reducible refine at_regD Θ_ok mixed (by kernel_rfl) ?_); (conv => whnf)) | ((with_reducible refine call_r ?_); (conv => whnf); (first | ((with_reducible refine call_i (irnd_c _) ?_); (conv => whnf)) | ((with_reducible refine call_i (ihas_c _ _) ?_); (conv => whnf)))))))
    exact ⟨rfl, rfl⟩
  · have h2 : hasM c a = false := by simp_all
    (repeat (any_goals (first | (with_reducible apply at_seq) | ((with_reducible apply at_regS Θ_ok); (conv => whnf)) | ((refine go ?_); (conv => whnf)) | ((refine go2 (fun xe hxe => ?_)); (conv => whnf)) | ((with_reducible refine cnd_d (fun hq => ?_) (fun hq => ?_)) <;> (conv => whnf)) | ((with_reducible refine cnd_i (fun hq => ?_) (fun hq => ?_)) <;> ((try simp only [decide_eq_true_eq, decide_eq_false_iff_not, Bool.not_eq_true', Bool.not_eq_false', beq_iff_eq, bne_iff_ne, beq_eq_false_iff_ne, bne_eq_false_iff_eq, ne_eq] at hq) <;> (first | omega | (conv => whnf)))) | ((with_reducible first | apply at_cond | apply at_ret | apply at_exit | apply at_skip); (conv => whnf)) | (with_reducible apply at_block) | ((with_reducible refine at_regD Θ_ok mixed (by kernel_rfl) ?_); (conv => whnf)) | ((with_reducible refine call_r ?_); (conv => whnf); (first | ((with_reducible refine call_i (irnd_c _) ?_); (conv => whnf)) | ((with_reducible refine call_i (ihas_c _ _) ?_); (conv => whnf)))))))
    exact ⟨rfl, rfl⟩
theorem aty_cR (c : List Int) (s : GS) (r a : Int) (hs : s.plc.length = 217) (hc : c.length ≤ 7) (h1 : vIn r 0 30 = true) (h2 : hasM c a = true) : ConV Try.prog 116 [.ptr 4 0, .int .i64 r, .int .i64 a] (gR c s) (.hpo 0 (s.at r a)) (gR c s) := by
  refine con_eq Θg_ok Try.func116 rfl rfl false 2 6 rfl rfl rfl rfl fun K hK hb1 hb2 => ?_; simp only [argsV, enc, Nat.reduceAdd]
  clear hb1 hb2
  have hr := vIn_iff.1 h1
  have ha := vIn_iff.1 h2
  have hp := plc_get hs h1 (a := a) (by omega)
  (repeat (any_goals (first | (with_reducible apply at_seq) | ((with_reducible apply at_regS Θ_ok); (conv => whnf)) | ((refine go ?_); (conv => whnf)) | ((refine go2 (fun xe hxe => ?_)); (conv => whnf)) | ((with_reducible refine cnd_d (fun hq => ?_) (fun hq => ?_)) <;> (conv => whnf)) | ((with_reducible refine cnd_i (fun hq => ?_) (fun hq => ?_)) <;> ((try simp only [decide_eq_true_eq, decide_eq_false_iff_not, Bool.not_eq_true', Bool.not_eq_false', beq_iff_eq, bne_iff_ne, beq_eq_false_iff_ne, bne_eq_false_iff_eq, ne_eq] at hq) <;> (first | omega | (conv => whnf)))) | ((with_reducible first | apply at_cond | apply at_ret | apply at_exit | apply at_skip); (conv => whnf)) | (with_reducible apply at_block) | ((with_reducible refine at_regD Θ_ok mixed (by kernel_rfl) ?_); (conv => whnf)) | ((with_reducible refine call_r ?_); (conv => whnf); (first | ((with_reducible refine call_i (irnd_c _) ?_); (conv => whnf)) | ((with_reducible refine call_i (ihas_c _ _) ?_); (conv => whnf)))))))
  exact ⟨rfl, rfl⟩
theorem atn_cZ (c : List Int) (s : GS) (r a : Int) (h : (vIn r 0 30 && hasM c a) = false) : ConV Try.prog 116 [.ptr 4 0, .int .i64 r, .int .i64 a] (gZ c s) .nilp (gZ c s) := by
  refine con_eq Θg_ok Try.func116 rfl rfl false 1 5 rfl rfl rfl rfl fun K hK hb1 hb2 => ?_; simp only [argsV, enc, Nat.reduceAdd]
  clear hb1 hb2
  cases h1 : vIn r 0 30
  · (repeat (any_goals (first | (with_reducible apply at_seq) | ((with_reducible apply at_regS Θ_ok); (conv => whnf)) | ((refine go ?_); (conv => whnf)) | ((refine go2 (fun xe hxe => ?_)); (conv => whnf)) | ((with_reducible refine cnd_d (fun hq => ?_) (fun hq => ?_)) <;> (conv => whnf)) | ((with_reducible refine cnd_i (fun hq => ?_) (fun hq => ?_)) <;> ((try simp only [decide_eq_true_eq, decide_eq_false_iff_not, Bool.not_eq_true', Bool.not_eq_false', beq_iff_eq, bne_iff_ne, beq_eq_false_iff_ne, bne_eq_false_iff_eq, ne_eq] at hq) <;> (first | omega | (conv => whnf)))) | ((with_reducible first | apply at_cond | apply at_ret | apply at_exit | apply at_skip); (conv => whnf)) | (with_reducible apply at_block) | ((with_reducible refine at_regD Θ_ok mixed (by kernel_rfl) ?_); (conv => whnf)) | ((with_reducible refine call_r ?_); (conv => whnf); (first | ((with_reducible refine call_i (irnd_c _) ?_); (conv => whnf)) | ((with_reducible refine call_i (ihas_c _ _) ?_); (conv => whnf)))))))
    exact ⟨rfl, rfl⟩
  · have h2 : hasM c a = false := by simp_all
    (repeat (any_goals (first | (with_reducible apply at_seq) | ((with_reducible apply at_regS Θ_ok); (conv => whnf)) | ((refine go ?_); (conv => whnf)) | ((refine go2 (fun xe hxe => ?_)); (conv => whnf)) | ((with_reducible refine cnd_d (fun hq => ?_) (fun hq => ?_)) <;> (conv => whnf)) | ((with_reducible refine cnd_i (fun hq => ?_) (fun hq => ?_)) <;> ((try simp only [decide_eq_true_eq, decide_eq_false_iff_not, Bool.not_eq_true', Bool.not_eq_false', beq_iff_eq, bne_iff_ne, beq_eq_false_iff_ne, bne_eq_false_iff_eq, ne_eq] at hq) <;> (first | omega | (conv => whnf)))) | ((with_reducible first | apply at_cond | apply at_ret | apply at_exit | apply at_skip); (conv => whnf)) | (with_reducible apply at_block) | ((with_reducible refine at_regD Θ_ok mixed (by kernel_rfl) ?_); (conv => whnf)) | ((with_reducible refine call_r ?_); (conv => whnf); (first | ((with_reducible refine call_i (irnd_c _) ?_); (conv => whnf)) | ((with_reducible refine call_i (ihas_c _ _) ?_); (conv => whnf)))))))
    exact ⟨rfl, rfl⟩
theorem aty_cZ (c : List Int) (s : GS) (r a : Int) (hs : s.plc.length = 217) (hc : c.length ≤ 7) (h1 : vIn r 0 30 = true) (h2 : hasM c a = true) : ConV Try.prog 116 [.ptr 4 0, .int .i64 r, .int .i64 a] (gZ c s) (.hpo 0 (s.at r a)) (gZ c s) := by
  refine con_eq Θg_ok Try.func116 rfl rfl false 1 5 rfl rfl rfl rfl fun K hK hb1 hb2 => ?_; simp only [argsV, enc, Nat.reduceAdd]
  clear hb1 hb2
  have hr := vIn_iff.1 h1
  have ha := vIn_iff.1 h2
  have hp := plc_get hs h1 (a := a) (by omega)
  (repeat (any_goals (first | (with_reducible apply at_seq) | ((with_reducible apply at_regS Θ_ok); (conv => whnf)) | ((refine go ?_); (conv => whnf)) | ((refine go2 (fun xe hxe => ?_)); (conv => whnf)) | ((with_reducible refine cnd_d (fun hq => ?_) (fun hq => ?_)) <;> (conv => whnf)) | ((with_reducible refine cnd_i (fun hq => ?_) (fun hq => ?_)) <;> ((try simp only [decide_eq_true_eq, decide_eq_false_iff_not, Bool.not_eq_true', Bool.not_eq_false', beq_iff_eq, bne_iff_ne, beq_eq_false_iff_ne, bne_eq_false_iff_eq, ne_eq] at hq) <;> (first | omega | (conv => whnf)))) | ((with_reducible first | apply at_cond | apply at_ret | apply at_exit | apply at_skip); (conv => whnf)) | (with_reducible apply at_block) | ((with_reducible refine at_regD Θ_ok mixed (by kernel_rfl) ?_); (conv => whnf)) | ((with_reducible refine call_r ?_); (conv => whnf); (first | ((with_reducible refine call_i (irnd_c _) ?_); (conv => whnf)) | ((with_reducible refine call_i (ihas_c _ _) ?_); (conv => whnf)))))))
  exact ⟨rfl, rfl⟩
end Go.Proofs.Ytfamejohdhkffaa.Am
namespace Go.Proofs.Ytfamejohdhkffaa.Am
set_option linter.unusedSimpArgs false
set_option linter.unusedVariables false
open Go
attribute [local irreducible] Mk Need Ari Get Idx Cnd CallM CallA Opt Unch At ConV
set_option maxRecDepth 10000

/-- a linked graph, its nodes' row as it is after a link -/
abbrev gO (c : List Int) (s : GS) : VH := [(0, .fvar 136 (.nod 1) s.nodes), (1, .frow 130 (.hp 0) s.rows), (4, .vari 134 [.lst (.int .i64) c, .ref 6] 217 (.hp 0) s.plc []), (5, .gone), (6, .row 130 (.hp 0) ((List.range s.nodes.length).map some))]
theorem nodes_row (s : GS) (v : Vtx) : (List.range s.nodes.length).map some ++ [some s.nodes.length] = (List.range (gstep s v).nodes.length).map some := by
  simp [gstep, List.range_succ]
theorem gstep_plc (s : GS) (v : Vtx) (h : 0 ≤ v.round ∧ 0 ≤ v.author) : s.plc.set (v.round.toNat * 7 + v.author.toNat) (some s.nodes.length) = (gstep s v).plc := by
  have e : (v.round * 7 + v.author).toNat = v.round.toNat * 7 + v.author.toNat := by omega
  simp only [gstep, e]
/-- all parents are there -/
def parG (s : GS) (v : Vtx) : Bool := v.parents.all fun p => (s.at (v.round - 1) p).isSome
abbrev nodV (v : Vtx) (n : Int) (p : V) : VB := .var 136 [.int .i64 v.round, .int .i64 v.author, .lst (.int .i64) v.parents, .int .i64 v.digest, .int .i64 n, p]
abbrev parB (s : GS) (v : Vtx) (i : Nat) : VB := .row 130 (.hp 0) ((v.parents.take i).map fun p => s.at (v.round - 1) p)
def lnkS (c : List Int) (s : GS) (v : Vtx) : Nat → VSt
  | 0 => ⟨[(0, .ptr 4 0), (3, .ptr 6 0), (5, .ptr 7 0), (18, .lst (.int .i64) v.parents), (19, .int .i64 v.parents.length), (20, .int .i64 0)], gR c s ++ [(6, .var 63 (vtxA v).cells), (7, nodV v s.nodes.length .nils)], 8⟩
  | i + 1 => ⟨[(0, .ptr 4 0), (3, .ptr 6 0), (5, .ptr 7 0), (18, .lst (.int .i64) v.parents), (19, .int .i64 v.parents.length), (20, .int .i64 ((i + 1 : Nat) : Int))], gR c s ++ [(6, .var 63 (vtxA v).cells), (7, nodV v s.nodes.length (.ref 8)), (8, parB s v (i + 1))], 9⟩
theorem linkR_c (c : List Int) (s : GS) (v : Vtx) (hs : s.plc.length = 217) (hc : comV c = true) (hv : vtxS c v = true) (hn : s.nodes.length ≤ 2000000) : ConV Try.prog 115 [.ptr 4 0, vtxA v] (gR c s) (.bool (parG s v)) (if parG s v then gO c (gstep s v) else gR c s) := by
  have h7 := (comV_iff.1 hc).2
  obtain ⟨v1, v2, v3, v4, v5, v6⟩ := vtxS_ok hv
  have hml := mems_len v3
  have hmi := mems_in v3
  have hrl : ((List.range s.nodes.length).map some).length = s.nodes.length := by simp
  refine con_eq Θg_ok Try.func115 rfl rfl false 2 6 rfl rfl rfl rfl fun K hK hb1 hb2 => ?_; simp only [argsV, enc, Nat.reduceAdd]
  clear hb1 hb2
  (repeat (any_goals (first | (with_reducible apply at_seq) | ((with_reducible apply at_regS Θg_ok); (conv => whnf)) | ((refine go ?_); (conv => whnf)) | ((refine go2 (fun xe hxe => ?_)); (conv => whnf)) | ((with_reducible refine cnd_d (fun hq => ?_) (fun hq => ?_)) <;> (conv => whnf)) | ((with_reducible refine cnd_i (fun hq => ?_) (fun hq => ?_)) <;> ((try simp only [decide_eq_true_eq, decide_eq_false_iff_not, Bool.not_eq_true', Bool.not_eq_false', beq_iff_eq, bne_iff_ne, beq_eq_false_iff_ne, bne_eq_false_iff_eq, ne_eq] at hq) <;> (first | omega | (conv => whnf)))) | ((with_reducible first | apply at_cond | apply at_ret | apply at_exit | apply at_skip); (conv => whnf)) | (with_reducible apply at_block) | ((with_reducible refine at_regD Θg_ok mixed (by kernel_rfl) ?_); (conv => whnf)))))
  refine at_loop hK [] [0, 3, 5, 18, 19, 20] (lnkS c s v) (fun i => i ≤ v.parents.length ∧ ∀ p ∈ v.parents.take i, (s.at (v.round - 1) p).isSome = true) (fun i => v.parents.length - i) 0 ⟨by simp, by simp⟩ (by simp only [hrl]; rfl) ?_
  rintro i ⟨hi, hall⟩
  have hno : ∀ p ∈ v.parents, s.at (v.round - 1) p = none → parG s v = false := fun p hp h => by
    rw [Bool.eq_false_iff]
    intro h2
    have := List.all_eq_true.1 h2 p hp
    rw [h] at this
    cases this
  by_cases hlt : i < v.parents.length
  · have hxe : v.parents[i]? = some v.parents[i] := List.getElem?_eq_getElem hlt
    have h3 : v.parents.take (i + 1) = v.parents.take i ++ [v.parents[i]] := List.take_succ_eq_append_getElem hlt
    have h4 : v.parents[i] ∈ v.parents := List.getElem_mem hlt
    have hr0 : v.round ≠ 0 := fun h => by rw [v5 h] at hlt; simp at hlt
    have h1 : vIn (v.round - 1) 0 30 = true := vIn_iff.2 (by omega)
    have hlk : lnkS c s v (i + 1) = ⟨[(0, .ptr 4 0), (3, .ptr 6 0), (5, .ptr 7 0), (18, .lst (.int .i64) v.parents), (19, .int .i64 v.parents.length), (20, .int .i64 ((i + 1 : Nat) : Int))], gR c s ++ [(6, .var 63 (vtxA v).cells), (7, nodV v s.nodes.length (.ref 8)), (8, .row 130 (.hp 0) (((v.parents.take i).map fun p => s.at (v.round - 1) p) ++ [s.at (v.round - 1) v.parents[i]]))], 9⟩ := by
      rw [lnkS, parB, h3, List.map_append]; rfl
    generalize v.parents[i] = p at *
    have h2 : hasM c p = true := vIn_iff.2 (by have := hmi p h4; omega)
    have hl2 : ((v.parents.take i).map fun p => s.at (v.round - 1) p).length = i := by rw [List.length_map, List.length_take]; omega
    cases h5 : s.at (v.round - 1) p with
    | none =>
      have hin : (s.at (v.round - 1) p).isNone = true := by rw [h5]; rfl
      have hnn := hno p h4 h5
      cases i with
      | zero =>
        have hx0 : v.parents[(0 : Int).toNat]? = some p := hxe
        unfold lnkS
        (repeat (any_goals (first | (with_reducible apply at_seq) | ((with_reducible apply at_regS Θg_ok); (conv => whnf)) | ((refine go ?_); (conv => whnf)) | ((refine go2 (fun xe hxe => ?_)); (conv => whnf)) | ((with_reducible refine cnd_d (fun hq => ?_) (fun hq => ?_)) <;> (conv => whnf)) | ((with_reducible refine cnd_i (fun hq => ?_) (fun hq => ?_)) <;> ((try simp only [decide_eq_true_eq, decide_eq_false_iff_not, Bool.not_eq_true', Bool.not_eq_false', beq_iff_eq, bne_iff_ne, beq_eq_false_iff_ne, bne_eq_false_iff_eq, ne_eq] at hq) <;> (first | omega | (conv => whnf)))) | ((with_reducible first | apply at_cond | apply at_ret | apply at_exit | apply at_skip); (conv => whnf)) | (with_reducible apply at_block) | ((with_reducible refine at_regD Θg_ok mixed (by kernel_rfl) ?_); (conv => whnf)) | ((with_reducible refine call_o ?_); (conv => whnf); (first | ((with_reducible refine call_i (aty_cR c s (v.round - 1) p hs h7.2 h1 h2) ?_); (conv => whnf)))))))
        exact ⟨by rw [hnn], by rw [hnn]; rfl⟩
      | succ i =>
        unfold lnkS
        (repeat (any_goals (first | (with_reducible apply at_seq) | ((with_reducible apply at_regS Θg_ok); (conv => whnf)) | ((refine go ?_); (conv => whnf)) | ((refine go2 (fun xe hxe => ?_)); (conv => whnf)) | ((with_reducible refine cnd_d (fun hq => ?_) (fun hq => ?_)) <;> (conv => whnf)) | ((with_reducible refine cnd_i (fun hq => ?_) (fun hq => ?_)) <;> ((try simp only [decide_eq_true_eq, decide_eq_false_iff_not, Bool.not_eq_true', Bool.not_eq_false', beq_iff_eq, bne_iff_ne, beq_eq_false_iff_ne, bne_eq_false_iff_eq, ne_eq] at hq) <;> (first | omega | (conv => whnf)))) | ((with_reducible first | apply at_cond | apply at_ret | apply at_exit | apply at_skip); (conv => whnf)) | (with_reducible apply at_block) | ((with_reducible refine at_regD Θg_ok mixed (by kernel_rfl) ?_); (conv => whnf)) | ((with_reducible refine call_o ?_); (conv => whnf); (first | ((with_reducible refine call_i (aty_cR c s (v.round - 1) p hs h7.2 h1 h2) ?_); (conv => whnf)))))))
        exact ⟨by rw [hnn], by rw [hnn]; rfl⟩
    | some k =>
      have hin : (s.at (v.round - 1) p).isNone = false := by rw [h5]; rfl
      cases i with
      | zero =>
        have hx0 : v.parents[(0 : Int).toNat]? = some p := hxe
        unfold lnkS
        (repeat (any_goals (first | (with_reducible apply at_seq) | ((with_reducible apply at_regS Θg_ok); (conv => whnf)) | ((refine go ?_); (conv => whnf)) | ((refine go2 (fun xe hxe => ?_)); (conv => whnf)) | ((with_reducible refine cnd_d (fun hq => ?_) (fun hq => ?_)) <;> (conv => whnf)) | ((with_reducible refine cnd_i (fun hq => ?_) (fun hq => ?_)) <;> ((try simp only [decide_eq_true_eq, decide_eq_false_iff_not, Bool.not_eq_true', Bool.not_eq_false', beq_iff_eq, bne_iff_ne, beq_eq_false_iff_ne, bne_eq_false_iff_eq, ne_eq] at hq) <;> (first | omega | (conv => whnf)))) | ((with_reducible first | apply at_cond | apply at_ret | apply at_exit | apply at_skip); (conv => whnf)) | (with_reducible apply at_block) | ((with_reducible refine at_regD Θg_ok mixed (by kernel_rfl) ?_); (conv => whnf)) | ((with_reducible refine call_o ?_); (conv => whnf); (first | ((with_reducible refine call_i (aty_cR c s (v.round - 1) p hs h7.2 h1 h2) ?_); (conv => whnf)))))))
        refine ⟨0 + 1, ⟨by omega, by rw [h3]; exact tk_snoc hall (by rw [h5]; rfl)⟩, by omega, ?_⟩
        refine Eq.trans ?_ hlk.symm
        rfl
      | succ i =>
        unfold lnkS
        simp only [parB]
        generalize (List.map (fun p => s.at (v.round - 1) p) (List.take (i + 1) v.parents)) = ps at *
        (repeat (any_goals (first | (with_reducible apply at_seq) | ((with_reducible apply at_regS Θg_ok); (conv => whnf)) | ((refine go ?_); (conv => whnf)) | ((refine go2 (fun xe hxe => ?_)); (conv => whnf)) | ((with_reducible refine cnd_d (fun hq => ?_) (fun hq => ?_)) <;> (conv => whnf)) | ((with_reducible refine cnd_i (fun hq => ?_) (fun hq => ?_)) <;> ((try simp only [decide_eq_true_eq, decide_eq_false_iff_not, Bool.not_eq_true', Bool.not_eq_false', beq_iff_eq, bne_iff_ne, beq_eq_false_iff_ne, bne_eq_false_iff_eq, ne_eq] at hq) <;> (first | omega | (conv => whnf)))) | ((with_reducible first | apply at_cond | apply at_ret | apply at_exit | apply at_skip); (conv => whnf)) | (with_reducible apply at_block) | ((with_reducible refine at_regD Θg_ok mixed (by kernel_rfl) ?_); (conv => whnf)) | ((with_reducible refine call_o ?_); (conv => whnf); (first | ((with_reducible refine call_i (aty_cR c s (v.round - 1) p hs h7.2 h1 h2) ?_); (conv => whnf)))))))
        refine ⟨i + 1 + 1, ⟨by omega, by rw [h3]; exact tk_snoc hall (by rw [h5]; rfl)⟩, by omega, ?_⟩
        refine Eq.trans ?_ hlk.symm
        rfl
  · rw [List.take_of_length_le (by omega)] at hall
    have hy : parG s v = true := List.all_eq_true.2 hall
    have hpl := plc_get hs (vIn_iff.2 v1) (a := v.author) (by omega)
    cases i with
    | zero =>
      unfold lnkS
      simp only [gR]
      generalize hnr : (List.map some (List.range s.nodes.length)) = nr at *
      (repeat (any_goals (first | (with_reducible apply at_seq) | ((with_reducible apply at_regS Θg_ok); (conv => whnf)) | ((refine go ?_); (conv => whnf)) | ((refine go2 (fun xe hxe => ?_)); (conv => whnf)) | ((with_reducible refine cnd_d (fun hq => ?_) (fun hq => ?_)) <;> (conv => whnf)) | ((with_reducible refine cnd_i (fun hq => ?_) (fun hq => ?_)) <;> ((try simp only [decide_eq_true_eq, decide_eq_false_iff_not, Bool.not_eq_true', Bool.not_eq_false', beq_iff_eq, bne_iff_ne, beq_eq_false_iff_ne, bne_eq_false_iff_eq, ne_eq] at hq) <;> (first | omega | (conv => whnf)))) | ((with_reducible first | apply at_cond | apply at_ret | apply at_exit | apply at_skip); (conv => whnf)) | (with_reducible apply at_block) | ((with_reducible refine at_regD Θg_ok mixed (by kernel_rfl) ?_); (conv => whnf)))))
      rw [hy]
      refine ⟨rfl, ?_⟩
      have e1 := nodes_row s v
      have e2 := gstep_plc s v ⟨v1.1, v2.1⟩
      simp only [if_true, gO]
      rw [← e1, ← e2, hnr]
      have e3 : v.parents = [] := List.length_eq_zero_iff.1 (by omega)
      have e4 : (gstep s v).nodes = s.nodes ++ [⟨v, s.nodes.length, none⟩] := by simp [gstep, e3]
      have e5 : (gstep s v).rows = s.rows := by simp [gstep, e3]
      rw [e4, e5]
    | succ i =>
      unfold lnkS
      simp only [parB]
      generalize hps : (List.map (fun p => s.at (v.round - 1) p) (List.take (i + 1) v.parents)) = ps at *
      simp only [gR]
      generalize hnr : (List.map some (List.range s.nodes.length)) = nr at *
      (repeat (any_goals (first | (with_reducible apply at_seq) | ((with_reducible apply at_regS Θg_ok); (conv => whnf)) | ((refine go ?_); (conv => whnf)) | ((refine go2 (fun xe hxe => ?_)); (conv => whnf)) | ((with_reducible refine cnd_d (fun hq => ?_) (fun hq => ?_)) <;> (conv => whnf)) | ((with_reducible refine cnd_i (fun hq => ?_) (fun hq => ?_)) <;> ((try simp only [decide_eq_true_eq, decide_eq_false_iff_not, Bool.not_eq_true', Bool.not_eq_false', beq_iff_eq, bne_iff_ne, beq_eq_false_iff_ne, bne_eq_false_iff_eq, ne_eq] at hq) <;> (first | omega | (conv => whnf)))) | ((with_reducible first | apply at_cond | apply at_ret | apply at_exit | apply at_skip); (conv => whnf)) | (with_reducible apply at_block) | ((with_reducible refine at_regD Θg_ok mixed (by kernel_rfl) ?_); (conv => whnf)))))
      rw [hy]
      refine ⟨rfl, ?_⟩
      have e1 := nodes_row s v
      have e2 := gstep_plc s v ⟨v1.1, v2.1⟩
      simp only [if_true, gO]
      rw [← e1, ← e2, hnr]
      have e3 : v.parents ≠ [] := fun h => by rw [h] at hi; simp at hi
      rw [List.take_of_length_le (by omega)] at hps
      simp only [gstep, e3, if_false, hps]
theorem gs0_at (r a : Int) : gs0.at r a = none := by
  simp only [gs0, GS.at, List.getD_eq_getElem?_getD, List.getElem?_replicate]
  split <;> rfl
theorem parG0 (v : Vtx) : parG gs0 v = v.parents.isEmpty := by
  unfold parG
  cases v.parents with
  | nil => rfl
  | cons p l => simp [gs0_at]
theorem linkZ_c (c : List Int) (v : Vtx) (hc : comV c = true) (hv : vtxS c v = true) : ConV Try.prog 115 [.ptr 4 0, vtxA v] (gZ c gs0) (.bool (parG gs0 v)) (if parG gs0 v then gR c (gstep gs0 v) else gZ c gs0) := by
  have h7 := (comV_iff.1 hc).2
  have hs : gs0.plc.length = 217 := List.length_replicate
  obtain ⟨v1, v2, v3, v4, v5, v6⟩ := vtxS_ok hv
  have hmi := mems_in v3
  refine con_eq Θg_ok Try.func115 rfl rfl false 1 5 rfl rfl rfl rfl fun K hK hb1 hb2 => ?_; simp only [argsV, enc, Nat.reduceAdd]
  clear hb1 hb2
  (repeat (any_goals (first | (with_reducible apply at_seq) | ((with_reducible apply at_regS Θg_ok); (conv => whnf)) | ((refine go ?_); (conv => whnf)) | ((refine go2 (fun xe hxe => ?_)); (conv => whnf)) | ((with_reducible refine cnd_d (fun hq => ?_) (fun hq => ?_)) <;> (conv => whnf)) | ((with_reducible refine cnd_i (fun hq => ?_) (fun hq => ?_)) <;> ((try simp only [decide_eq_true_eq, decide_eq_false_iff_not, Bool.not_eq_true', Bool.not_eq_false', beq_iff_eq, bne_iff_ne, beq_eq_false_iff_ne, bne_eq_false_iff_eq, ne_eq] at hq) <;> (first | omega | (conv => whnf)))) | ((with_reducible first | apply at_cond | apply at_ret | apply at_exit | apply at_skip); (conv => whnf)) | (with_reducible apply at_block) | ((with_reducible refine at_regD Θg_ok mixed (by kernel_rfl) ?_); (conv => whnf)))))
  refine at_loop hK [] [0, 3, 5, 18, 19, 20] (fun i : Nat => ⟨[(0, .ptr 4 0), (3, .ptr 5 0), (5, .ptr 6 0), (18, .lst (.int .i64) v.parents), (19, .int .i64 v.parents.length), (20, .int .i64 0)], gZ c gs0 ++ [(5, .var 63 (vtxA v).cells), (6, nodV v 0 .nils)], 7⟩) (fun i => i = 0) (fun i => i) 0 rfl (by simp only [List.length_nil]; rfl) ?_
  rintro i rfl
  have hy := parG0 v
  by_cases hlt : 0 < v.parents.length
  · have hxe : v.parents[0]? = some v.parents[0] := List.getElem?_eq_getElem hlt
    have h4 : v.parents[0] ∈ v.parents := List.getElem_mem hlt
    have hr0 : v.round ≠ 0 := fun h => by rw [v5 h] at hlt; simp at hlt
    have h1 : vIn (v.round - 1) 0 30 = true := vIn_iff.2 (by omega)
    have hne : v.parents.isEmpty = false := by cases h : v.parents with | nil => rw [h] at hlt; simp at hlt | cons _ _ => rfl
    rw [hne] at hy
    rw [hy]
    generalize v.parents[0] = p at *
    have h2 : hasM c p = true := vIn_iff.2 (by have := hmi p h4; omega)
    have hx0 : v.parents[(0 : Int).toNat]? = some p := hxe
    have hin : (gs0.at (v.round - 1) p).isNone = true := by rw [gs0_at]; rfl
    (repeat (any_goals (first | (with_reducible apply at_seq) | ((with_reducible apply at_regS Θg_ok); (conv => whnf)) | ((refine go ?_); (conv => whnf)) | ((refine go2 (fun xe hxe => ?_)); (conv => whnf)) | ((with_reducible refine cnd_d (fun hq => ?_) (fun hq => ?_)) <;> (conv => whnf)) | ((with_reducible refine cnd_i (fun hq => ?_) (fun hq => ?_)) <;> ((try simp only [decide_eq_true_eq, decide_eq_false_iff_not, Bool.not_eq_true', Bool.not_eq_false', beq_iff_eq, bne_iff_ne, beq_eq_false_iff_ne, bne_eq_false_iff_eq, ne_eq] at hq) <;> (first | omega | (conv => whnf)))) | ((with_reducible first | apply at_cond | apply at_ret | apply at_exit | apply at_skip); (conv => whnf)) | (with_reducible apply at_block) | ((with_reducible refine at_regD Θg_ok mixed (by kernel_rfl) ?_); (conv => whnf)) | ((with_reducible refine call_o ?_); (conv => whnf); (first | ((with_reducible refine call_i (aty_cZ c gs0 (v.round - 1) p hs h7.2 h1 h2) ?_); (conv => whnf)))))))
    exact ⟨rfl, rfl⟩
  · have e3 : v.parents = [] := List.length_eq_zero_iff.1 (by omega)
    have hem : v.parents.isEmpty = true := by rw [e3]; rfl
    rw [hem] at hy
    rw [hy]
    have hpl := plc_get hs (vIn_iff.2 v1) (a := v.author) (by omega)
    have e2 := gstep_plc gs0 v ⟨v1.1, v2.1⟩
    have e4 : (gstep gs0 v).nodes = [⟨v, 0, none⟩] := by simp [gstep, e3, gs0]
    have e5 : (gstep gs0 v).rows = [] := by simp [gstep, e3, gs0]
    simp only [if_true, gR]
    rw [← e2, e4, e5]
    (repeat (any_goals (first | (with_reducible apply at_seq) | ((with_reducible apply at_regS Θg_ok); (conv => whnf)) | ((refine go ?_); (conv => whnf)) | ((refine go2 (fun xe hxe => ?_)); (conv => whnf)) | ((with_reducible refine cnd_d (fun hq => ?_) (fun hq => ?_)) <;> (conv => whnf)) | ((with_reducible refine cnd_i (fun hq => ?_) (fun hq => ?_)) <;> ((try simp only [decide_eq_true_eq, decide_eq_false_iff_not, Bool.not_eq_true', Bool.not_eq_false', beq_iff_eq, bne_iff_ne, beq_eq_false_iff_ne, bne_eq_false_iff_eq, ne_eq] at hq) <;> (first | omega | (conv => whnf)))) | ((with_reducible first | apply at_cond | apply at_ret | apply at_exit | apply at_skip); (conv => whnf)) | (with_reducible apply at_block) | ((with_reducible refine at_regD Θg_ok mixed (by kernel_rfl) ?_); (conv => whnf)))))
    exact ⟨rfl, rfl⟩
end Go.Proofs.Ytfamejohdhkffaa.Am
namespace Go.Proofs.Ytfamejohdhkffaa.Am
set_option linter.unusedSimpArgs false
set_option linter.unusedVariables false
open Go
attribute [local irreducible] Mk Need Ari Get Idx Cnd CallM CallA Opt Unch At ConV
set_option maxRecDepth 10000

theorem parG_eq {c : List Int} {g : List Vtx} {v : Vtx} (hc : comV c = true) (hg : ∀ u ∈ g, vtxS c u = true) (hv : vtxS c v = true) : parG (gst g) v = parOK g v := by
  obtain ⟨v1, v2, v3, v4, v5, v6⟩ := vtxS_ok hv
  have h7 := (comV_iff.1 hc).2
  unfold parG parOK
  rw [Bool.eq_iff_iff, List.all_eq_true, List.all_eq_true]
  have key : ∀ p ∈ v.parents, ((gst g).at (v.round - 1) p).isSome = hasV g (v.round - 1) p := by
    intro p hp
    have hr0 : v.round ≠ 0 := fun h => by rw [v5 h] at hp; cases hp
    have := mems_in v3 p hp
    exact (gst_at (fun u hu => vtxS_tab hc (hg u hu)) (by omega) (by omega)).1
  constructor
  · intro h p hp; rw [← key p hp]; exact h p hp
  · intro h p hp; rw [key p hp]; exact h p hp
def lgS (c : List Int) (g : List Vtx) : Nat → VSt
  | 0 => ⟨[(0, .lst (.int .i64) c), (1, .lst .vtx g), (6, .ptr 4 0), (15, .lst .vtx g), (16, .int .i64 g.length), (17, .int .i64 0)], gZ c gs0, 5⟩
  | i + 1 => ⟨[(0, .lst (.int .i64) c), (1, .lst .vtx g), (6, .ptr 4 0), (15, .lst .vtx g), (16, .int .i64 g.length), (17, .int .i64 ((i + 1 : Nat) : Int))], gR c (gst (g.take (i + 1))), 6⟩
/-- a graph, linked -/
def gF (c : List Int) (g : List Vtx) : VH := match g with | [] => gZ c gs0 | v :: l => gR c (gst (v :: l))
def lgR (c : List Int) (g : List Vtx) : V := if graS c g then .tup [.ptr 4 0, .bool true] else .tup [.nilp, .bool false]
def lgO (c : List Int) (g : List Vtx) : VH := if graS c g then gF c g else []
theorem graI_no {c : List Int} {g : List Vtx} {i : Nat} (hi : i < g.length) (h : graAtI c g i = false) : graS c g = false := by
  unfold graS
  rw [← graI_eq, allTo_f hi h, Bool.and_false]
theorem graI_vtx {c : List Int} {g : List Vtx} {i : Nat} (h : ∀ j, j < i → graAtI c g j = true) : ∀ u ∈ g.take i, vtxS c u = true := by
  intro u hu
  obtain ⟨j, hj, rfl⟩ := mem_getD (d := v0) hu
  rw [List.length_take] at hj
  have := h j (by omega)
  simp only [graAtI, Bool.and_eq_true] at this
  rw [show (g.take i).getD j v0 = g.getD j v0 by simp only [List.getD_eq_getElem?_getD, List.getElem?_take, if_pos (show j < i by omega)]]
  exact this.1
theorem link_c (c : List Int) (g : List Vtx) (hl : g.length ≤ 2000000) : ConV Try.prog 110 [.lst (.int .i64) c, .lst .vtx g] [] (lgR c g) (lgO c g) := by
  have hbad : graS c g = false → V.tup [.nilp, .bool false] = lgR c g ∧ ([] : VH) = lgO c g := fun h => by simp [lgR, lgO, h]
  refine con_eq Θg_ok Try.func110 rfl rfl false 0 4 rfl rfl rfl rfl fun K hK hb1 hb2 => ?_; simp only [argsV, enc, Nat.reduceAdd]
  clear hb1 hb2
  cases hc : comV c
  · (repeat (any_goals (first | (with_reducible apply at_seq) | ((with_reducible apply at_regS Θg_ok); (conv => whnf)) | ((refine go ?_); (conv => whnf)) | ((refine go2 (fun xe hxe => ?_)); (conv => whnf)) | ((with_reducible refine cnd_d (fun hq => ?_) (fun hq => ?_)) <;> (conv => whnf)) | ((with_reducible refine cnd_i (fun hq => ?_) (fun hq => ?_)) <;> ((try simp only [decide_eq_true_eq, decide_eq_false_iff_not, Bool.not_eq_true', Bool.not_eq_false', beq_iff_eq, bne_iff_ne, beq_eq_false_iff_ne, bne_eq_false_iff_eq, ne_eq] at hq) <;> (first | omega | (conv => whnf)))) | ((with_reducible first | apply at_cond | apply at_ret | apply at_exit | apply at_skip); (conv => whnf)) | (with_reducible apply at_block) | ((with_reducible refine at_regD Θg_ok mixed (by kernel_rfl) ?_); (conv => whnf)) | ((with_reducible refine call_r ?_); (conv => whnf); (first | ((with_reducible refine call_i (icomV_c _) ?_); (conv => whnf)))))))
    exact hbad (by simp [graS, hc])
  (repeat (any_goals (first | (with_reducible apply at_seq) | ((with_reducible apply at_regS Θg_ok); (conv => whnf)) | ((refine go ?_); (conv => whnf)) | ((refine go2 (fun xe hxe => ?_)); (conv => whnf)) | ((with_reducible refine cnd_d (fun hq => ?_) (fun hq => ?_)) <;> (conv => whnf)) | ((with_reducible refine cnd_i (fun hq => ?_) (fun hq => ?_)) <;> ((try simp only [decide_eq_true_eq, decide_eq_false_iff_not, Bool.not_eq_true', Bool.not_eq_false', beq_iff_eq, bne_iff_ne, beq_eq_false_iff_ne, bne_eq_false_iff_eq, ne_eq] at hq) <;> (first | omega | (conv => whnf)))) | ((with_reducible first | apply at_cond | apply at_ret | apply at_exit | apply at_skip); (conv => whnf)) | (with_reducible apply at_block) | ((with_reducible refine at_regD Θg_ok mixed (by kernel_rfl) ?_); (conv => whnf)) | ((with_reducible refine call_r ?_); (conv => whnf); (first | ((with_reducible refine call_i (icomV_c _) ?_); (conv => whnf)))))))
  refine at_tab 4 2 217 (.hp 0) ?_
  ((conv => whnf); refine mk_i (by kernel_rfl) ?_; (conv => whnf))
  refine at_fam 0 (.fvar 136 (.nod 1) []) rfl ?_
  refine at_fam 1 (.frow 130 (.hp 0) []) rfl ?_
  refine at_loop hK [] [0, 1, 6, 15, 16, 17] (lgS c g) (fun i => i ≤ g.length ∧ ∀ j, j < i → graAtI c g j = true) (fun i => g.length - i) 0 ⟨by simp, by simp⟩ rfl ?_
  rintro i ⟨hi, hall⟩
  by_cases hlt : i < g.length
  · have hxe : g[i]? = some g[i] := List.getElem?_eq_getElem hlt
    have hA : graAtI c g i = (vtxS c g[i] && ((i == 0 || bef (g.getD (i - 1) v0) g[i]) && parOK (g.take i) g[i])) := by simp only [graAtI, getD_of hxe]
    have hno : graAtI c g i = false → V.tup [.nilp, .bool false] = lgR c g ∧ ([] : VH) = lgO c g := fun h => hbad (graI_no hlt h)
    have hgs : gst (g.take (i + 1)) = gstep (gst (g.take i)) g[i] := by rw [List.take_succ_eq_append_getElem hlt, gst_snoc]
    have hgv := graI_vtx hall
    have hys : graAtI c g i = true → ∀ j, j < i + 1 → graAtI c g j = true := fun h => all_step hall h
    generalize g[i] = v at *
    cases h1 : vtxS c v
    · have h2 : (comV c && vtxS c v) = false := by simp [h1]
      cases i with
      | zero =>
        have hx0 : g[(0 : Int).toNat]? = some v := hxe
        unfold lgS
        (repeat (any_goals (first | (with_reducible apply at_seq) | ((with_reducible apply at_regS Θg_ok); (conv => whnf)) | ((refine go ?_); (conv => whnf)) | ((refine go2 (fun xe hxe => ?_)); (conv => whnf)) | ((with_reducible refine cnd_d (fun hq => ?_) (fun hq => ?_)) <;> (conv => whnf)) | ((with_reducible refine cnd_i (fun hq => ?_) (fun hq => ?_)) <;> ((try simp only [decide_eq_true_eq, decide_eq_false_iff_not, Bool.not_eq_true', Bool.not_eq_false', beq_iff_eq, bne_iff_ne, beq_eq_false_iff_ne, bne_eq_false_iff_eq, ne_eq] at hq) <;> (first | omega | (conv => whnf)))) | ((with_reducible first | apply at_cond | apply at_ret | apply at_exit | apply at_skip); (conv => whnf)) | (with_reducible apply at_block) | ((with_reducible refine at_regD Θg_ok mixed (by kernel_rfl) ?_); (conv => whnf)) | ((with_reducible refine call_r ?_); (conv => whnf); (first | ((with_reducible refine call_i (ivtx_c _ _) ?_); (conv => whnf)))))))
        exact hno (by simp [hA, h1])
      | succ i =>
        unfold lgS
        (repeat (any_goals (first | (with_reducible apply at_seq) | ((with_reducible apply at_regS Θg_ok); (conv => whnf)) | ((refine go ?_); (conv => whnf)) | ((refine go2 (fun xe hxe => ?_)); (conv => whnf)) | ((with_reducible refine cnd_d (fun hq => ?_) (fun hq => ?_)) <;> (conv => whnf)) | ((with_reducible refine cnd_i (fun hq => ?_) (fun hq => ?_)) <;> ((try simp only [decide_eq_true_eq, decide_eq_false_iff_not, Bool.not_eq_true', Bool.not_eq_false', beq_iff_eq, bne_iff_ne, beq_eq_false_iff_ne, bne_eq_false_iff_eq, ne_eq] at hq) <;> (first | omega | (conv => whnf)))) | ((with_reducible first | apply at_cond | apply at_ret | apply at_exit | apply at_skip); (conv => whnf)) | (with_reducible apply at_block) | ((with_reducible refine at_regD Θg_ok mixed (by kernel_rfl) ?_); (conv => whnf)) | ((with_reducible refine call_r ?_); (conv => whnf); (first | ((with_reducible refine call_i (ivtx_c _ _) ?_); (conv => whnf)))))))
        exact hno (by simp [hA, h1])
    have h2 : (comV c && vtxS c v) = true := by simp [h1, hc]
    have hpe := parG_eq hc hgv h1
    cases i with
    | zero =>
      have hx0 : g[(0 : Int).toNat]? = some v := hxe
      have hL := linkZ_c c v hc h1
      have hpe : parG gs0 v = parOK (g.take 0) v := hpe
      have hf1 : famLen (VB.fvar 136 (.nod 1) gs0.nodes) ≤ famLen (VB.fvar 136 (.nod 1) (gstep gs0 v).nodes) := Nat.zero_le _
      have hf2 : famLen (VB.frow 130 (.hp 0) gs0.rows) ≤ famLen (VB.frow 130 (.hp 0) (gstep gs0 v).rows) := Nat.zero_le _
      cases h3 : parG gs0 v
      · rw [h3] at hL
        simp only [Bool.false_eq_true, if_false] at hL
        unfold lgS
        (repeat (any_goals (first | (with_reducible apply at_seq) | ((with_reducible apply at_regS Θg_ok); (conv => whnf)) | ((refine go ?_); (conv => whnf)) | ((refine go2 (fun xe hxe => ?_)); (conv => whnf)) | ((with_reducible refine cnd_d (fun hq => ?_) (fun hq => ?_)) <;> (conv => whnf)) | ((with_reducible refine cnd_i (fun hq => ?_) (fun hq => ?_)) <;> ((try simp only [decide_eq_true_eq, decide_eq_false_iff_not, Bool.not_eq_true', Bool.not_eq_false', beq_iff_eq, bne_iff_ne, beq_eq_false_iff_ne, bne_eq_false_iff_eq, ne_eq] at hq) <;> (first | omega | (conv => whnf)))) | ((with_reducible first | apply at_cond | apply at_ret | apply at_exit | apply at_skip); (conv => whnf)) | (with_reducible apply at_block) | ((with_reducible refine at_regD Θg_ok mixed (by kernel_rfl) ?_); (conv => whnf)) | ((with_reducible refine call_r ?_); (conv => whnf); (first | ((with_reducible refine call_i (ivtx_c _ _) ?_); (conv => whnf)))) | ((with_reducible refine call_o ?_); (conv => whnf); (first | ((with_reducible refine call_i (hL) ?_); (conv => whnf)))))))
        exact hno (by rw [hA, ← hpe, h3]; simp)
      · rw [h3] at hL
        simp only [if_true] at hL
        unfold lgS
        (repeat (any_goals (first | (with_reducible apply at_seq) | ((with_reducible apply at_regS Θg_ok); (conv => whnf)) | ((refine go ?_); (conv => whnf)) | ((refine go2 (fun xe hxe => ?_)); (conv => whnf)) | ((with_reducible refine cnd_d (fun hq => ?_) (fun hq => ?_)) <;> (conv => whnf)) | ((with_reducible refine cnd_i (fun hq => ?_) (fun hq => ?_)) <;> ((try simp only [decide_eq_true_eq, decide_eq_false_iff_not, Bool.not_eq_true', Bool.not_eq_false', beq_iff_eq, bne_iff_ne, beq_eq_false_iff_ne, bne_eq_false_iff_eq, ne_eq] at hq) <;> (first | omega | (conv => whnf)))) | ((with_reducible first | apply at_cond | apply at_ret | apply at_exit | apply at_skip); (conv => whnf)) | (with_reducible apply at_block) | ((with_reducible refine at_regD Θg_ok mixed (by kernel_rfl) ?_); (conv => whnf)) | ((with_reducible refine call_r ?_); (conv => whnf); (first | ((with_reducible refine call_i (ivtx_c _ _) ?_); (conv => whnf)))) | ((with_reducible refine call_o ?_); (conv => whnf); (first | ((with_reducible refine call_i (hL) ?_); (conv => whnf)))))))
        refine ⟨0 + 1, ⟨by omega, hys (by rw [hA, ← hpe, h3, h1]; simp)⟩, by omega, ?_⟩
        show _ = VSt.mk _ (gR c (gst (g.take (0 + 1)))) _
        rw [hgs]
        rfl
    | succ i =>
      have hgl : (gst (g.take (i + 1))).nodes.length ≤ 2000000 := by rw [(gst_len _).1, List.length_take]; omega
      have hL := linkR_c c (gst (g.take (i + 1))) v (gst_len _).2 hc h1 hgl
      have hye : g[(((i + 1 : Nat) : Int) - 1).toNat]? = some (g.getD (i + 1 - 1) v0) := by rw [show (((i + 1 : Nat) : Int) - 1).toNat = i by omega, List.getD_eq_getElem?_getD, List.getElem?_eq_getElem (show i < g.length by omega)]; simp only [Nat.add_sub_cancel, List.getElem?_eq_getElem (show i < g.length by omega)]; rfl
      generalize g.getD (i + 1 - 1) v0 = u at *
      have hst : lgS c g (i + 1) = ⟨[(0, .lst (.int .i64) c), (1, .lst .vtx g), (6, .ptr 4 0), (15, .lst .vtx g), (16, .int .i64 g.length), (17, .int .i64 ((i + 1 : Nat) : Int))], gR c (gst (g.take (i + 1))), 6⟩ := rfl
      rw [hst]
      clear hst
      generalize gst (g.take (i + 1)) = s at *
      have hf1 : famLen (VB.fvar 136 (.nod 1) s.nodes) ≤ famLen (VB.fvar 136 (.nod 1) (gstep s v).nodes) := by simp [famLen, gstep]
      have hf2 : famLen (VB.frow 130 (.hp 0) s.rows) ≤ famLen (VB.frow 130 (.hp 0) (gstep s v).rows) := by simp only [famLen, gstep]; split <;> simp
      cases h4 : bef u v
      · (repeat (any_goals (first | (with_reducible apply at_seq) | ((with_reducible apply at_regS Θg_ok); (conv => whnf)) | ((refine go ?_); (conv => whnf)) | ((refine go2 (fun xe hxe => ?_)); (conv => whnf)) | ((with_reducible refine cnd_d (fun hq => ?_) (fun hq => ?_)) <;> (conv => whnf)) | ((with_reducible refine cnd_i (fun hq => ?_) (fun hq => ?_)) <;> ((try simp only [decide_eq_true_eq, decide_eq_false_iff_not, Bool.not_eq_true', Bool.not_eq_false', beq_iff_eq, bne_iff_ne, beq_eq_false_iff_ne, bne_eq_false_iff_eq, ne_eq] at hq) <;> (first | omega | (conv => whnf)))) | ((with_reducible first | apply at_cond | apply at_ret | apply at_exit | apply at_skip); (conv => whnf)) | (with_reducible apply at_block) | ((with_reducible refine at_regD Θg_ok mixed (by kernel_rfl) ?_); (conv => whnf)) | ((with_reducible refine call_r ?_); (conv => whnf); (first | ((with_reducible refine call_i (ivtx_c _ _) ?_); (conv => whnf)) | ((with_reducible refine call_i (ibef_c _ _) ?_); (conv => whnf)))))))
        exact hno (by simp [hA, h1, h4])
      cases h3 : parG s v
      · rw [h3] at hL
        simp only [Bool.false_eq_true, if_false] at hL
        (repeat (any_goals (first | (with_reducible apply at_seq) | ((with_reducible apply at_regS Θg_ok); (conv => whnf)) | ((refine go ?_); (conv => whnf)) | ((refine go2 (fun xe hxe => ?_)); (conv => whnf)) | ((with_reducible refine cnd_d (fun hq => ?_) (fun hq => ?_)) <;> (conv => whnf)) | ((with_reducible refine cnd_i (fun hq => ?_) (fun hq => ?_)) <;> ((try simp only [decide_eq_true_eq, decide_eq_false_iff_not, Bool.not_eq_true', Bool.not_eq_false', beq_iff_eq, bne_iff_ne, beq_eq_false_iff_ne, bne_eq_false_iff_eq, ne_eq] at hq) <;> (first | omega | (conv => whnf)))) | ((with_reducible first | apply at_cond | apply at_ret | apply at_exit | apply at_skip); (conv => whnf)) | (with_reducible apply at_block) | ((with_reducible refine at_regD Θg_ok mixed (by kernel_rfl) ?_); (conv => whnf)) | ((with_reducible refine call_r ?_); (conv => whnf); (first | ((with_reducible refine call_i (ivtx_c _ _) ?_); (conv => whnf)) | ((with_reducible refine call_i (ibef_c _ _) ?_); (conv => whnf)))) | ((with_reducible refine call_o ?_); (conv => whnf); (first | ((with_reducible refine call_i (hL) ?_); (conv => whnf)))))))
        exact hno (by rw [hA, ← hpe, h3]; simp)
      · rw [h3] at hL
        simp only [if_true] at hL
        (repeat (any_goals (first | (with_reducible apply at_seq) | ((with_reducible apply at_regS Θg_ok); (conv => whnf)) | ((refine go ?_); (conv => whnf)) | ((refine go2 (fun xe hxe => ?_)); (conv => whnf)) | ((with_reducible refine cnd_d (fun hq => ?_) (fun hq => ?_)) <;> (conv => whnf)) | ((with_reducible refine cnd_i (fun hq => ?_) (fun hq => ?_)) <;> ((try simp only [decide_eq_true_eq, decide_eq_false_iff_not, Bool.not_eq_true', Bool.not_eq_false', beq_iff_eq, bne_iff_ne, beq_eq_false_iff_ne, bne_eq_false_iff_eq, ne_eq] at hq) <;> (first | omega | (conv => whnf)))) | ((with_reducible first | apply at_cond | apply at_ret | apply at_exit | apply at_skip); (conv => whnf)) | (with_reducible apply at_block) | ((with_reducible refine at_regD Θg_ok mixed (by kernel_rfl) ?_); (conv => whnf)) | ((with_reducible refine call_r ?_); (conv => whnf); (first | ((with_reducible refine call_i (ivtx_c _ _) ?_); (conv => whnf)) | ((with_reducible refine call_i (ibef_c _ _) ?_); (conv => whnf)))) | ((with_reducible refine call_o ?_); (conv => whnf); (first | ((with_reducible refine call_i (hL) ?_); (conv => whnf)))))))
        refine ⟨i + 1 + 1, ⟨by omega, hys (by rw [hA, ← hpe, h3, h1, h4]; simp)⟩, by omega, ?_⟩
        show _ = VSt.mk _ (gR c (gst (g.take (i + 1 + 1)))) _
        rw [hgs]
        rfl
  · have hg : graS c g = true := by
      unfold graS
      rw [hc, ← graI_eq, allTo_t (fun j hj => hall j (by omega))]
      rfl
    have e1 : lgR c g = .tup [.ptr 4 0, .bool true] := by simp [lgR, hg]
    have e2 : lgO c g = gF c g := by simp [lgO, hg]
    rw [e1, e2]
    cases i with
    | zero =>
      have e3 : g = [] := List.length_eq_zero_iff.1 (by omega)
      subst e3
      unfold lgS
      (repeat (any_goals (first | (with_reducible apply at_seq) | ((with_reducible apply at_regS Θg_ok); (conv => whnf)) | ((refine go ?_); (conv => whnf)) | ((refine go2 (fun xe hxe => ?_)); (conv => whnf)) | ((with_reducible refine cnd_d (fun hq => ?_) (fun hq => ?_)) <;> (conv => whnf)) | ((with_reducible refine cnd_i (fun hq => ?_) (fun hq => ?_)) <;> ((try simp only [decide_eq_true_eq, decide_eq_false_iff_not, Bool.not_eq_true', Bool.not_eq_false', beq_iff_eq, bne_iff_ne, beq_eq_false_iff_ne, bne_eq_false_iff_eq, ne_eq] at hq) <;> (first | omega | (conv => whnf)))) | ((with_reducible first | apply at_cond | apply at_ret | apply at_exit | apply at_skip); (conv => whnf)) | (with_reducible apply at_block) | ((with_reducible refine at_regD Θg_ok mixed (by kernel_rfl) ?_); (conv => whnf)))))
      exact ⟨rfl, rfl⟩
    | succ i =>
      have hst : lgS c g (i + 1) = ⟨[(0, .lst (.int .i64) c), (1, .lst .vtx g), (6, .ptr 4 0), (15, .lst .vtx g), (16, .int .i64 g.length), (17, .int .i64 ((i + 1 : Nat) : Int))], gR c (gst g), 6⟩ := by rw [lgS, List.take_of_length_le (by omega)]
      rw [hst]
      cases g with
      | nil => simp at hi
      | cons w g =>
        (repeat (any_goals (first | (with_reducible apply at_seq) | ((with_reducible apply at_regS Θg_ok); (conv => whnf)) | ((refine go ?_); (conv => whnf)) | ((refine go2 (fun xe hxe => ?_)); (conv => whnf)) | ((with_reducible refine cnd_d (fun hq => ?_) (fun hq => ?_)) <;> (conv => whnf)) | ((with_reducible refine cnd_i (fun hq => ?_) (fun hq => ?_)) <;> ((try simp only [decide_eq_true_eq, decide_eq_false_iff_not, Bool.not_eq_true', Bool.not_eq_false', beq_iff_eq, bne_iff_ne, beq_eq_false_iff_ne, bne_eq_false_iff_eq, ne_eq] at hq) <;> (first | omega | (conv => whnf)))) | ((with_reducible first | apply at_cond | apply at_ret | apply at_exit | apply at_skip); (conv => whnf)) | (with_reducible apply at_block) | ((with_reducible refine at_regD Θg_ok mixed (by kernel_rfl) ?_); (conv => whnf)))))
        exact ⟨rfl, rfl⟩
end Go.Proofs.Ytfamejohdhkffaa.Am
namespace Go.Proofs.Ytfamejohdhkffaa.Am
set_option linter.unusedSimpArgs false
set_option linter.unusedVariables false
open Go
attribute [local irreducible] Mk Need Ari Get Idx Cnd CallM CallA Opt Unch At ConV
set_option maxRecDepth 10000

theorem authG_eq {c : List Int} {g : List Vtx} (h : GraOK c g) (r : Int) : authG (gst g) r c.length = auth g r := by
  rw [← authI_eq h r]
  unfold authG authI
  congr 1
  refine List.filter_congr fun a ha => ?_
  have h7 := (comV_iff.1 h.com).2
  have ha := List.mem_range.1 ha
  cases h1 : vIn r 0 30
  · rw [Bool.false_and]
    symm
    rw [Bool.eq_false_iff]
    intro h2
    obtain ⟨v, hv, hr, -⟩ := hasV_iff.1 h2
    have := (vtxS_ok (h.vtx v hv)).1
    rw [hr] at this
    rw [vIn_iff.2 this] at h1
    cases h1
  · rw [Bool.true_and]
    exact (gst_at (fun u hu => vtxS_tab h.com (h.vtx u hu)) (vIn_iff.1 h1) (by omega)).1
/-- the place of a vertex, or -1 -/
def gfV (c : List Int) (g : List Vtx) (r a : Int) : Int := if graS c g then fndI g r a else -1
theorem gst_node {g : List Vtx} : ∀ {i : Nat} {v : Vtx}, g[i]? = some v → ∃ p, (gst g).nodes[i]? = some ⟨v, i, p⟩ := by
  induction g using snoc_ind with
  | h0 => intro i v h; simp at h
  | h l x ih =>
    intro i v h
    rw [gst_snoc]
    have hl := (gst_len l).1
    rcases Nat.lt_or_ge i l.length with hlt | hge
    · rw [List.getElem?_append_left hlt] at h
      obtain ⟨p, hp⟩ := ih h
      refine ⟨p, ?_⟩
      simp only [gstep]
      rw [List.getElem?_append_left (by omega)]
      exact hp
    · have he : i = l.length := by have := (List.getElem?_eq_some_iff.1 h).1; simp at this; omega
      subst he
      rw [List.getElem?_append_right (Nat.le_refl _)] at h
      simp at h
      subst h
      simp only [gstep]
      rw [← hl, List.getElem?_append_right (Nat.le_refl _)]
      simp
theorem fnd_out {c : List Int} {g : List Vtx} (h : GraOK c g) {r a : Int} (hn : (vIn r 0 30 && hasM c a) = false) : fndI g r a = -1 := by
  unfold fndI
  cases e : g.findIdx? (isAt r a) with
  | none => rfl
  | some i =>
    exfalso
    rw [List.findIdx?_eq_some_iff_getElem] at e
    obtain ⟨hi, e1, -⟩ := e
    have e2 := isAt_iff.1 e1
    have e3 := vtxS_ok (h.vtx _ (List.getElem_mem hi))
    rw [e2.1, e2.2] at e3
    have h1 : vIn r 0 30 = true := vIn_iff.2 e3.1
    have h2 : hasM c a = true := vIn_iff.2 (by omega)
    rw [h1, h2] at hn
    cases hn
end Go.Proofs.Ytfamejohdhkffaa.Am
