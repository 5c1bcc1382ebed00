/- Certified proposals: the law FnWorldCertified. -/
import Derived.Test.YtfamejohdhkffaaGreatPC8
namespace Go.Proofs.YtfamejohdhkffaaGreat.Am
set_option linter.unusedSimpArgs false
set_option linter.unusedVariables false
open Go
attribute [local irreducible] Mk Need Ari Get Idx Cnd CallM CallA Opt Unch At ConV
set_option maxRecDepth 10000
/-- the places of what is certified -/
def cerL (c : List Int) (ps : List Ppl) : Nat → List Int
  | 0 => []
  | n + 1 => if don c (ps.getD n p0) then cerL c ps n ++ [(n : Int)] else cerL c ps n
def cert (w : Wrl) : List Int := if wrlS w then cerL w.com w.props w.props.length else []
theorem cerL_mem {c : List Int} {ps : List Ppl} : ∀ {n : Nat} {x : Int}, x ∈ cerL c ps n ↔ 0 ≤ x ∧ x < n ∧ don c (ps.getD x.toNat p0) = true
  | 0, x => by simp [cerL]; omega
  | n + 1, x => by
    have ih := cerL_mem (c := c) (ps := ps) (n := n) (x := x)
    unfold cerL
    split
    · rename_i h
      rw [List.mem_append, List.mem_singleton, ih]
      constructor
      · rintro (⟨h1, h2, h3⟩ | rfl)
        · exact ⟨h1, by omega, h3⟩
        · exact ⟨by omega, by omega, by rw [Int.toNat_natCast]; exact h⟩
      · rintro ⟨h1, h2, h3⟩
        by_cases e : x = n
        · exact .inr e
        · exact .inl ⟨h1, by omega, h3⟩
    · rename_i h
      rw [ih]
      constructor
      · rintro ⟨h1, h2, h3⟩
        exact ⟨h1, by omega, h3⟩
      · rintro ⟨h1, h2, h3⟩
        refine ⟨h1, ?_, h3⟩
        by_cases e : x = n
        · subst e
          rw [Int.toNat_natCast] at h3
          exact absurd h3 h
        · omega
theorem cerL_asc (c : List Int) (ps : List Ppl) : ∀ n, (cerL c ps n).Pairwise (· < ·)
  | 0 => List.Pairwise.nil
  | n + 1 => by
    have ih := cerL_asc c ps n
    unfold cerL
    split
    · refine List.pairwise_append.2 ⟨ih, by simp, fun a ha b hb => ?_⟩
      obtain rfl := List.mem_singleton.1 hb
      exact (cerL_mem.1 ha).2.1
    · exact ih
theorem cerL_len (c : List Int) (ps : List Ppl) : ∀ n, (cerL c ps n).length ≤ n
  | 0 => Nat.le_refl _
  | n + 1 => by
    have ih := cerL_len c ps n
    unfold cerL
    split
    · simp; omega
    · omega
theorem icer_c (w : Wrl) (hw : WSm w) : ConV Tryz.prog 12 [wrlA w] [] (.lst (.int .i64) (cert w)) [] := by
  have hV := iwV_c w fun g hg => by have := hw.2 g hg; omega
  refine con_eq Θ_ok Tryz.func12 rfl rfl true 0 4 rfl rfl rfl rfl fun K hK hb1 hb2 => ?_; simp only [argsV, enc, Nat.reduceAdd]
  clear hb1 hb2
  cases hv : wrlS w
  · have : cert w = [] := by simp [cert, hv]
    rw [this]
    rw [hv] at hV
    (repeat (any_goals (first | (with_reducible first | apply at_seq | apply at_block) | ((first | with_reducible apply at_regS Θ_ok | refine go ?_ | refine go2 fun xe hxe => ?_ | (with_reducible first | refine cnd_d (fun hq => ?_) fun hq => ?_ | apply at_cond | apply at_ret | apply at_exit | apply at_skip | refine at_regD Θ_ok mixed (by kernel_rfl) ?_)) <;> conv => whnf) | ((with_reducible refine cnd_i (fun hq => ?_) fun hq => ?_) <;> ((try simp only [decide_eq_true_eq, decide_eq_false_iff_not, Bool.not_eq_true', Bool.not_eq_false', beq_iff_eq, bne_iff_ne, beq_eq_false_iff_ne, bne_eq_false_iff_eq, ne_eq] at hq) <;> (first | omega | conv => whnf))) | ((with_reducible refine call_r ?_); (conv => whnf); (first | with_reducible refine call_i (hV) ?_); conv => whnf))))
    exact ⟨rfl, rfl⟩
  · have hok := wok_iff.1 hv
    have hce : cert w = cerL w.com w.props w.props.length := by simp [cert, hv]
    have hpl := hok.plen
    rw [hce]
    rw [hv] at hV
    (repeat (any_goals (first | (with_reducible first | apply at_seq | apply at_block) | ((first | with_reducible apply at_regS Θ_ok | refine go ?_ | refine go2 fun xe hxe => ?_ | (with_reducible first | refine cnd_d (fun hq => ?_) fun hq => ?_ | apply at_cond | apply at_ret | apply at_exit | apply at_skip | refine at_regD Θ_ok mixed (by kernel_rfl) ?_)) <;> conv => whnf) | ((with_reducible refine cnd_i (fun hq => ?_) fun hq => ?_) <;> ((try simp only [decide_eq_true_eq, decide_eq_false_iff_not, Bool.not_eq_true', Bool.not_eq_false', beq_iff_eq, bne_iff_ne, beq_eq_false_iff_ne, bne_eq_false_iff_eq, ne_eq] at hq) <;> (first | omega | conv => whnf))) | ((with_reducible refine call_r ?_); (conv => whnf); (first | with_reducible refine call_i (hV) ?_); conv => whnf))))
    refine at_loop hK [] [1, 3, 12, 13, 14] (fun i : Nat => ⟨[(1, .ptr 4 0), (3, .ref 5), (12, .lst .ppl w.props), (13, .int .i64 w.props.length), (14, .int .i64 (i : Int))], [(4, .var 27 (wrlA w).cells), (5, .row 3 (.int .i64) (cerL w.com w.props i))], 6⟩) (fun i => i ≤ w.props.length) (fun i => w.props.length - i) 0 (by simp) rfl ?_
    intro i hi
    have hll := cerL_len w.com w.props i
    have hs : cerL w.com w.props (i + 1) = if don w.com (w.props.getD i p0) then cerL w.com w.props i ++ [(i : Int)] else cerL w.com w.props i := rfl
    by_cases hlt : i < w.props.length
    · have hxe : w.props[i]? = some (w.props.getD i p0) := by rw [List.getD_eq_getElem?_getD, List.getElem?_eq_getElem hlt]; rfl
      have hC := icert_c w.com (w.props.getD i p0) hok.com (hok.pv _ (gd_mem hlt)).2
      generalize w.props.getD i p0 = p at *
      generalize cerL w.com w.props i = l at *
      cases hd : don w.com p
      · rw [hd] at hC hs
        (repeat (any_goals (first | (with_reducible first | apply at_seq | apply at_block) | ((first | with_reducible apply at_regS Θ_ok | refine go ?_ | refine go2 fun xe hxe => ?_ | (with_reducible first | refine cnd_d (fun hq => ?_) fun hq => ?_ | apply at_cond | apply at_ret | apply at_exit | apply at_skip | refine at_regD Θ_ok mixed (by kernel_rfl) ?_)) <;> conv => whnf) | ((with_reducible refine cnd_i (fun hq => ?_) fun hq => ?_) <;> ((try simp only [decide_eq_true_eq, decide_eq_false_iff_not, Bool.not_eq_true', Bool.not_eq_false', beq_iff_eq, bne_iff_ne, beq_eq_false_iff_ne, bne_eq_false_iff_eq, ne_eq] at hq) <;> (first | omega | conv => whnf))) | ((with_reducible refine call_r ?_); (conv => whnf); (first | with_reducible refine call_i (hC) ?_); conv => whnf))))
        exact ⟨i + 1, by omega, by omega, by rw [hs]; rfl⟩
      · rw [hd] at hC hs
        (repeat (any_goals (first | (with_reducible first | apply at_seq | apply at_block) | ((first | with_reducible apply at_regS Θ_ok | refine go ?_ | refine go2 fun xe hxe => ?_ | (with_reducible first | refine cnd_d (fun hq => ?_) fun hq => ?_ | apply at_cond | apply at_ret | apply at_exit | apply at_skip | refine at_regD Θ_ok mixed (by kernel_rfl) ?_)) <;> conv => whnf) | ((with_reducible refine cnd_i (fun hq => ?_) fun hq => ?_) <;> ((try simp only [decide_eq_true_eq, decide_eq_false_iff_not, Bool.not_eq_true', Bool.not_eq_false', beq_iff_eq, bne_iff_ne, beq_eq_false_iff_ne, bne_eq_false_iff_eq, ne_eq] at hq) <;> (first | omega | conv => whnf))) | ((with_reducible refine call_r ?_); (conv => whnf); (first | with_reducible refine call_i (hC) ?_); conv => whnf))))
        exact ⟨i + 1, by omega, by omega, by rw [hs]; rfl⟩
    · obtain rfl : i = w.props.length := by omega
      (repeat (any_goals (first | (with_reducible first | apply at_seq | apply at_block) | ((first | with_reducible apply at_regS Θ_ok | refine go ?_ | refine go2 fun xe hxe => ?_ | (with_reducible first | refine cnd_d (fun hq => ?_) fun hq => ?_ | apply at_cond | apply at_ret | apply at_exit | apply at_skip | refine at_regD Θ_ok mixed (by kernel_rfl) ?_)) <;> conv => whnf) | ((with_reducible refine cnd_i (fun hq => ?_) fun hq => ?_) <;> ((try simp only [decide_eq_true_eq, decide_eq_false_iff_not, Bool.not_eq_true', Bool.not_eq_false', beq_iff_eq, bne_iff_ne, beq_eq_false_iff_ne, bne_eq_false_iff_eq, ne_eq] at hq) <;> (first | omega | conv => whnf))))))
      exact ⟨rfl, rfl⟩
theorem scer_c (w : Wrl) (hw : WSm w) : ConV Tryz.prog 13 [wrlA w] [] (.lst (.int .i64) (cert w)) [] := by
  have hV := swV_c w (by have := hw.1; omega)
  refine con_eq Θ_ok Tryz.func13 rfl rfl true 0 4 rfl rfl rfl rfl fun K hK hb1 hb2 => ?_; simp only [argsV, enc, Nat.reduceAdd]
  clear hb1 hb2
  cases hv : wrlS w
  · have : cert w = [] := by simp [cert, hv]
    rw [this]
    rw [hv] at hV
    (repeat (any_goals (first | (with_reducible first | apply at_seq | apply at_block) | ((first | with_reducible apply at_regS Θ_ok | refine go ?_ | refine go2 fun xe hxe => ?_ | (with_reducible first | refine cnd_d (fun hq => ?_) fun hq => ?_ | apply at_cond | apply at_ret | apply at_exit | apply at_skip | refine at_regD Θ_ok mixed (by kernel_rfl) ?_)) <;> conv => whnf) | ((with_reducible refine cnd_i (fun hq => ?_) fun hq => ?_) <;> ((try simp only [decide_eq_true_eq, decide_eq_false_iff_not, Bool.not_eq_true', Bool.not_eq_false', beq_iff_eq, bne_iff_ne, beq_eq_false_iff_ne, bne_eq_false_iff_eq, ne_eq] at hq) <;> (first | omega | conv => whnf))) | ((with_reducible refine call_r ?_); (conv => whnf); (first | with_reducible refine call_i (hV) ?_); conv => whnf))))
    exact ⟨rfl, rfl⟩
  · have hok := wok_iff.1 hv
    have hce : cert w = cerL w.com w.props w.props.length := by simp [cert, hv]
    have hpl := hok.plen
    rw [hce]
    rw [hv] at hV
    (repeat (any_goals (first | (with_reducible first | apply at_seq | apply at_block) | ((first | with_reducible apply at_regS Θ_ok | refine go ?_ | refine go2 fun xe hxe => ?_ | (with_reducible first | refine cnd_d (fun hq => ?_) fun hq => ?_ | apply at_cond | apply at_ret | apply at_exit | apply at_skip | refine at_regD Θ_ok mixed (by kernel_rfl) ?_)) <;> conv => whnf) | ((with_reducible refine cnd_i (fun hq => ?_) fun hq => ?_) <;> ((try simp only [decide_eq_true_eq, decide_eq_false_iff_not, Bool.not_eq_true', Bool.not_eq_false', beq_iff_eq, bne_iff_ne, beq_eq_false_iff_ne, bne_eq_false_iff_eq, ne_eq] at hq) <;> (first | omega | conv => whnf))) | ((with_reducible refine call_r ?_); (conv => whnf); (first | with_reducible refine call_i (hV) ?_); conv => whnf))))
    refine at_loop hK [] [1, 3, 4] (fun i : Nat => ⟨[(1, .ptr 4 0), (3, .ref 5), (4, .int .i64 (i : Int))], [(4, .var 27 (wrlA w).cells), (5, .row 3 (.int .i64) (cerL w.com w.props i))], 6⟩) (fun i => i ≤ w.props.length) (fun i => w.props.length - i) 0 (by simp) rfl ?_
    intro i hi
    have hll := cerL_len w.com w.props i
    have hs : cerL w.com w.props (i + 1) = if don w.com (w.props.getD i p0) then cerL w.com w.props i ++ [(i : Int)] else cerL w.com w.props i := rfl
    by_cases hlt : i < w.props.length
    · have hxe : w.props[i]? = some (w.props.getD i p0) := by rw [List.getD_eq_getElem?_getD, List.getElem?_eq_getElem hlt]; rfl
      have hC := sdone_c w (w.props.getD i p0) hok.com (hok.pv _ (gd_mem hlt)).2
      generalize w.props.getD i p0 = p at *
      generalize cerL w.com w.props i = l at *
      cases hd : don w.com p
      · rw [hd] at hC hs
        (repeat (any_goals (first | (with_reducible first | apply at_seq | apply at_block) | ((first | with_reducible apply at_regS Θ_ok | refine go ?_ | refine go2 fun xe hxe => ?_ | (with_reducible first | refine cnd_d (fun hq => ?_) fun hq => ?_ | apply at_cond | apply at_ret | apply at_exit | apply at_skip | refine at_regD Θ_ok mixed (by kernel_rfl) ?_)) <;> conv => whnf) | ((with_reducible refine cnd_i (fun hq => ?_) fun hq => ?_) <;> ((try simp only [decide_eq_true_eq, decide_eq_false_iff_not, Bool.not_eq_true', Bool.not_eq_false', beq_iff_eq, bne_iff_ne, beq_eq_false_iff_ne, bne_eq_false_iff_eq, ne_eq] at hq) <;> (first | omega | conv => whnf))) | ((with_reducible refine call_r ?_); (conv => whnf); (first | with_reducible refine call_i (hC) ?_); conv => whnf))))
        exact ⟨i + 1, by omega, by omega, by rw [hs]; rfl⟩
      · rw [hd] at hC hs
        (repeat (any_goals (first | (with_reducible first | apply at_seq | apply at_block) | ((first | with_reducible apply at_regS Θ_ok | refine go ?_ | refine go2 fun xe hxe => ?_ | (with_reducible first | refine cnd_d (fun hq => ?_) fun hq => ?_ | apply at_cond | apply at_ret | apply at_exit | apply at_skip | refine at_regD Θ_ok mixed (by kernel_rfl) ?_)) <;> conv => whnf) | ((with_reducible refine cnd_i (fun hq => ?_) fun hq => ?_) <;> ((try simp only [decide_eq_true_eq, decide_eq_false_iff_not, Bool.not_eq_true', Bool.not_eq_false', beq_iff_eq, bne_iff_ne, beq_eq_false_iff_ne, bne_eq_false_iff_eq, ne_eq] at hq) <;> (first | omega | conv => whnf))) | ((with_reducible refine call_r ?_); (conv => whnf); (first | with_reducible refine call_i (hC) ?_); conv => whnf))))
        exact ⟨i + 1, by omega, by omega, by rw [hs]; rfl⟩
    · obtain rfl : i = w.props.length := by omega
      (repeat (any_goals (first | (with_reducible first | apply at_seq | apply at_block) | ((first | with_reducible apply at_regS Θ_ok | refine go ?_ | refine go2 fun xe hxe => ?_ | (with_reducible first | refine cnd_d (fun hq => ?_) fun hq => ?_ | apply at_cond | apply at_ret | apply at_exit | apply at_skip | refine at_regD Θ_ok mixed (by kernel_rfl) ?_)) <;> conv => whnf) | ((with_reducible refine cnd_i (fun hq => ?_) fun hq => ?_) <;> ((try simp only [decide_eq_true_eq, decide_eq_false_iff_not, Bool.not_eq_true', Bool.not_eq_false', beq_iff_eq, bne_iff_ne, beq_eq_false_iff_ne, bne_eq_false_iff_eq, ne_eq] at hq) <;> (first | omega | conv => whnf))))))
      exact ⟨rfl, rfl⟩
theorem hasI_c (l : List Int) (n : Int) : ConV Tryz.prog 16 [.lst (.int .i64) l, .int .i64 n] [] (.bool (l.contains n)) [] := by
  refine con_eq Θ_ok Tryz.func16 rfl rfl false 0 4 rfl rfl rfl rfl fun K hK hb1 hb2 => ?_; simp only [argsV, enc, Nat.reduceAdd]
  simp [toDL, V.toD, bnd, encD, D.cells] at hb1
  (repeat (any_goals (first | (with_reducible first | apply at_seq | apply at_block) | ((first | with_reducible apply at_regS Θ_ok | refine go ?_ | refine go2 fun xe hxe => ?_ | (with_reducible first | refine cnd_d (fun hq => ?_) fun hq => ?_ | apply at_cond | apply at_ret | apply at_exit | apply at_skip | refine at_regD Θ_ok mixed (by kernel_rfl) ?_)) <;> conv => whnf) | ((with_reducible refine cnd_i (fun hq => ?_) fun hq => ?_) <;> ((try simp only [decide_eq_true_eq, decide_eq_false_iff_not, Bool.not_eq_true', Bool.not_eq_false', beq_iff_eq, bne_iff_ne, beq_eq_false_iff_ne, bne_eq_false_iff_eq, ne_eq] at hq) <;> (first | omega | conv => whnf))))))
  refine at_loop hK [] [0, 1, 5] (fun i : Nat => ⟨[(0, .lst (.int .i64) l), (1, .int .i64 n), (5, .int .i64 i)], [], 4⟩) (fun i => i ≤ l.length ∧ ∀ y ∈ l.take i, (y == n) = false) (fun i => l.length - i) 0 ⟨by simp, by simp⟩ rfl ?_
  rintro i ⟨hi, hall⟩
  by_cases hlt : i < l.length
  · have hxe : l[i]? = some l[i] := List.getElem?_eq_getElem hlt
    have hsn : l.take (i + 1) = l.take i ++ [l[i]] := List.take_succ_eq_append_getElem hlt
    have hm : l[i] ∈ l := List.getElem_mem hlt
    generalize l[i] = x at *
    by_cases h : x = n
    · subst h
      (repeat (any_goals (first | (with_reducible first | apply at_seq | apply at_block) | ((first | with_reducible apply at_regS Θ_ok | refine go ?_ | refine go2 fun xe hxe => ?_ | (with_reducible first | refine cnd_d (fun hq => ?_) fun hq => ?_ | apply at_cond | apply at_ret | apply at_exit | apply at_skip | refine at_regD Θ_ok mixed (by kernel_rfl) ?_)) <;> conv => whnf) | ((with_reducible refine cnd_i (fun hq => ?_) fun hq => ?_) <;> ((try simp only [decide_eq_true_eq, decide_eq_false_iff_not, Bool.not_eq_true', Bool.not_eq_false', beq_iff_eq, bne_iff_ne, beq_eq_false_iff_ne, bne_eq_false_iff_eq, ne_eq] at hq) <;> (first | omega | conv => whnf))))))
      · rw [List.contains_iff_mem.2 hm]
        exact ⟨rfl, rfl⟩
      · exact absurd trivial hq
    · (repeat (any_goals (first | (with_reducible first | apply at_seq | apply at_block) | ((first | with_reducible apply at_regS Θ_ok | refine go ?_ | refine go2 fun xe hxe => ?_ | (with_reducible first | refine cnd_d (fun hq => ?_) fun hq => ?_ | apply at_cond | apply at_ret | apply at_exit | apply at_skip | refine at_regD Θ_ok mixed (by kernel_rfl) ?_)) <;> conv => whnf) | ((with_reducible refine cnd_i (fun hq => ?_) fun hq => ?_) <;> ((try simp only [decide_eq_true_eq, decide_eq_false_iff_not, Bool.not_eq_true', Bool.not_eq_false', beq_iff_eq, bne_iff_ne, beq_eq_false_iff_ne, bne_eq_false_iff_eq, ne_eq] at hq) <;> (first | omega | conv => whnf))))))
      exact ⟨i + 1, ⟨by omega, by rw [hsn]; exact tk_snoc hall (by simpa using h)⟩, by omega, rfl⟩
  · (repeat (any_goals (first | (with_reducible first | apply at_seq | apply at_block) | ((first | with_reducible apply at_regS Θ_ok | refine go ?_ | refine go2 fun xe hxe => ?_ | (with_reducible first | refine cnd_d (fun hq => ?_) fun hq => ?_ | apply at_cond | apply at_ret | apply at_exit | apply at_skip | refine at_regD Θ_ok mixed (by kernel_rfl) ?_)) <;> conv => whnf) | ((with_reducible refine cnd_i (fun hq => ?_) fun hq => ?_) <;> ((try simp only [decide_eq_true_eq, decide_eq_false_iff_not, Bool.not_eq_true', Bool.not_eq_false', beq_iff_eq, bne_iff_ne, beq_eq_false_iff_ne, bne_eq_false_iff_eq, ne_eq] at hq) <;> (first | omega | conv => whnf))))))
    rw [List.take_of_length_le (by omega)] at hall
    have : l.contains n = false := by
      rw [Bool.eq_false_iff]
      intro h
      have := hall _ (List.contains_iff_mem.1 h)
      simp at this
    rw [this]
    exact ⟨rfl, rfl⟩
theorem isD_c (w : Wrl) (i : Nat) (p : Ppl) (h : WOK w) (hx : w.props[i]? = some p) : ConV Tryz.prog 17 [wrlA w, .int .i64 (i : Int)] [] (.bool (don w.com p)) [] := by
  have hpm := (h.pv p (List.mem_of_getElem? hx)).2
  have hW := iweiV_c w.com p.members
  have hw : weiV w.com p.members = wei w.com p.members := by simp [weiV, h.com, hpm]
  rw [hw] at hW
  have hQ := icquo_c w.com
  rw [if_pos h.com] at hQ
  refine con_eq Θ_ok Tryz.func17 rfl rfl false 0 4 rfl rfl rfl rfl fun K hK hb1 hb2 => ?_; simp only [argsV, enc, Nat.reduceAdd]
  clear hb1 hb2
  (repeat (any_goals (first | (with_reducible first | apply at_seq | apply at_block) | ((first | with_reducible apply at_regS Θ_ok | refine go ?_ | refine go2 fun xe hxe => ?_ | (with_reducible first | refine cnd_d (fun hq => ?_) fun hq => ?_ | apply at_cond | apply at_ret | apply at_exit | apply at_skip | refine at_regD Θ_ok mixed (by kernel_rfl) ?_)) <;> conv => whnf) | ((with_reducible refine cnd_i (fun hq => ?_) fun hq => ?_) <;> ((try simp only [decide_eq_true_eq, decide_eq_false_iff_not, Bool.not_eq_true', Bool.not_eq_false', beq_iff_eq, bne_iff_ne, beq_eq_false_iff_ne, bne_eq_false_iff_eq, ne_eq] at hq) <;> (first | omega | conv => whnf))) | ((with_reducible refine call_r ?_); (conv => whnf); (first | with_reducible refine call_i (hW) ?_ | with_reducible refine call_i (hQ) ?_); conv => whnf))))
  exact ⟨rfl, rfl⟩
theorem lawCer_c (c : List Int) (hc : ∀ x ∈ c, 0 ≤ x ∧ x ≤ 255) : ConV Tryz.prog 3 [.lst (.int .u8) c] [] (.bool true) [] := by
  obtain ⟨w, hw, hd⟩ := dcer_c c hc
  have hI := icer_c w hw
  have hS := scer_c w hw
  have hV := swV_c w (by have := hw.1; omega)
  have hE := sameInts_c (cert w) (cert w)
  rw [decide_eq_true rfl] at hE
  refine con_eq Θ_ok Tryz.func3 rfl rfl false 0 4 rfl rfl rfl rfl fun K hK hb1 hb2 => ?_; simp only [argsV, enc, Nat.reduceAdd]
  clear hb1 hb2
  by_cases hl : 1048576 < (c.length : Int)
  · (repeat (any_goals (first | (with_reducible first | apply at_seq | apply at_block) | ((first | with_reducible apply at_regS Θ_ok | refine go ?_ | refine go2 fun xe hxe => ?_ | (with_reducible first | refine cnd_d (fun hq => ?_) fun hq => ?_ | apply at_cond | apply at_ret | apply at_exit | apply at_skip | refine at_regD Θ_ok mixed (by kernel_rfl) ?_)) <;> conv => whnf) | ((with_reducible refine cnd_i (fun hq => ?_) fun hq => ?_) <;> ((try simp only [decide_eq_true_eq, decide_eq_false_iff_not, Bool.not_eq_true', Bool.not_eq_false', beq_iff_eq, bne_iff_ne, beq_eq_false_iff_ne, bne_eq_false_iff_eq, ne_eq] at hq) <;> (first | omega | conv => whnf))))))
    exact ⟨rfl, rfl⟩
  cases hv : wrlS w
  · rw [hv] at hV
    generalize cert w = ce at *
    (repeat (any_goals (first | (with_reducible first | apply at_seq | apply at_block) | ((first | with_reducible apply at_regS Θ_ok | refine go ?_ | refine go2 fun xe hxe => ?_ | (with_reducible first | refine cnd_d (fun hq => ?_) fun hq => ?_ | apply at_cond | apply at_ret | apply at_exit | apply at_skip | refine at_regD Θ_ok mixed (by kernel_rfl) ?_)) <;> conv => whnf) | ((with_reducible refine cnd_i (fun hq => ?_) fun hq => ?_) <;> ((try simp only [decide_eq_true_eq, decide_eq_false_iff_not, Bool.not_eq_true', Bool.not_eq_false', beq_iff_eq, bne_iff_ne, beq_eq_false_iff_ne, bne_eq_false_iff_eq, ne_eq] at hq) <;> (first | omega | conv => whnf))) | ((with_reducible refine call_r ?_); (conv => whnf); (first | with_reducible refine call_i (hd) ?_ | with_reducible refine call_i (hI) ?_ | with_reducible refine call_i (hS) ?_ | with_reducible refine call_i (hV) ?_ | with_reducible refine call_i (hE) ?_); conv => whnf))))
    exact ⟨rfl, rfl⟩
  · rw [hv] at hV
    have hok := wok_iff.1 hv
    have hce : cert w = cerL w.com w.props w.props.length := by simp [cert, hv]
    have hpl := hok.plen
    have hlen := cerL_len w.com w.props w.props.length
    have hasc := cerL_asc w.com w.props w.props.length
    have hmem : ∀ i : Nat, i < w.props.length → (cert w).contains (i : Int) = don w.com (w.props.getD i p0) := fun i hi => by
      rw [hce, Bool.eq_iff_iff, List.contains_iff_mem, cerL_mem, Int.toNat_natCast]
      constructor
      · exact fun h => h.2.2
      · exact fun h => ⟨by omega, by omega, h⟩
    rw [← hce] at hlen hasc
    generalize cert w = ce at *
    (repeat (any_goals (first | (with_reducible first | apply at_seq | apply at_block) | ((first | with_reducible apply at_regS Θ_ok | refine go ?_ | refine go2 fun xe hxe => ?_ | (with_reducible first | refine cnd_d (fun hq => ?_) fun hq => ?_ | apply at_cond | apply at_ret | apply at_exit | apply at_skip | refine at_regD Θ_ok mixed (by kernel_rfl) ?_)) <;> conv => whnf) | ((with_reducible refine cnd_i (fun hq => ?_) fun hq => ?_) <;> ((try simp only [decide_eq_true_eq, decide_eq_false_iff_not, Bool.not_eq_true', Bool.not_eq_false', beq_iff_eq, bne_iff_ne, beq_eq_false_iff_ne, bne_eq_false_iff_eq, ne_eq] at hq) <;> (first | omega | conv => whnf))) | ((with_reducible refine call_r ?_); (conv => whnf); (first | with_reducible refine call_i (hd) ?_ | with_reducible refine call_i (hI) ?_ | with_reducible refine call_i (hS) ?_ | with_reducible refine call_i (hV) ?_ | with_reducible refine call_i (hE) ?_); conv => whnf))))
    refine at_loop hK [] [3, 4, 6] (fun i : Nat => ⟨[(3, .ptr 4 0), (4, .lst (.int .i64) ce), (6, .int .i64 (i : Int))], [(4, .var 27 (wrlA w).cells)], 5⟩) (fun i => i ≤ w.props.length) (fun i => w.props.length - i) 0 (by simp) rfl ?_
    intro i hi
    by_cases hlt : i < w.props.length
    · have hxe : w.props[i]? = some (w.props.getD i p0) := by rw [List.getD_eq_getElem?_getD, List.getElem?_eq_getElem hlt]; rfl
      have hH := hasI_c ce i
      have hD := isD_c w i _ hok hxe
      rw [hmem i hlt] at hH
      cases hdn : don w.com (w.props.getD i p0)
      · rw [hdn] at hH hD
        (repeat (any_goals (first | (with_reducible first | apply at_seq | apply at_block) | ((first | with_reducible apply at_regS Θ_ok | refine go ?_ | refine go2 fun xe hxe => ?_ | (with_reducible first | refine cnd_d (fun hq => ?_) fun hq => ?_ | apply at_cond | apply at_ret | apply at_exit | apply at_skip | refine at_regD Θ_ok mixed (by kernel_rfl) ?_)) <;> conv => whnf) | ((with_reducible refine cnd_i (fun hq => ?_) fun hq => ?_) <;> ((try simp only [decide_eq_true_eq, decide_eq_false_iff_not, Bool.not_eq_true', Bool.not_eq_false', beq_iff_eq, bne_iff_ne, beq_eq_false_iff_ne, bne_eq_false_iff_eq, ne_eq] at hq) <;> (first | omega | conv => whnf))) | ((with_reducible refine call_r ?_); (conv => whnf); (first | with_reducible refine call_i (hH) ?_ | with_reducible refine call_i (hD) ?_); conv => whnf))))
        exact ⟨i + 1, by omega, by omega, rfl⟩
      · rw [hdn] at hH hD
        (repeat (any_goals (first | (with_reducible first | apply at_seq | apply at_block) | ((first | with_reducible apply at_regS Θ_ok | refine go ?_ | refine go2 fun xe hxe => ?_ | (with_reducible first | refine cnd_d (fun hq => ?_) fun hq => ?_ | apply at_cond | apply at_ret | apply at_exit | apply at_skip | refine at_regD Θ_ok mixed (by kernel_rfl) ?_)) <;> conv => whnf) | ((with_reducible refine cnd_i (fun hq => ?_) fun hq => ?_) <;> ((try simp only [decide_eq_true_eq, decide_eq_false_iff_not, Bool.not_eq_true', Bool.not_eq_false', beq_iff_eq, bne_iff_ne, beq_eq_false_iff_ne, bne_eq_false_iff_eq, ne_eq] at hq) <;> (first | omega | conv => whnf))) | ((with_reducible refine call_r ?_); (conv => whnf); (first | with_reducible refine call_i (hH) ?_ | with_reducible refine call_i (hD) ?_); conv => whnf))))
        exact ⟨i + 1, by omega, by omega, rfl⟩
    · (repeat (any_goals (first | (with_reducible first | apply at_seq | apply at_block) | ((first | with_reducible apply at_regS Θ_ok | refine go ?_ | refine go2 fun xe hxe => ?_ | (with_reducible first | refine cnd_d (fun hq => ?_) fun hq => ?_ | apply at_cond | apply at_ret | apply at_exit | apply at_skip | refine at_regD Θ_ok mixed (by kernel_rfl) ?_)) <;> conv => whnf) | ((with_reducible refine cnd_i (fun hq => ?_) fun hq => ?_) <;> ((try simp only [decide_eq_true_eq, decide_eq_false_iff_not, Bool.not_eq_true', Bool.not_eq_false', beq_iff_eq, bne_iff_ne, beq_eq_false_iff_ne, bne_eq_false_iff_eq, ne_eq] at hq) <;> (first | omega | conv => whnf))))))
      refine at_loop hK [] [4, 7] (fun i : Nat => ⟨[(4, .lst (.int .i64) ce), (7, .int .i64 ((i : Int) + 1))], [], 4⟩) (fun i => i ≤ ce.length) (fun i => ce.length - i) 0 (by simp) rfl ?_
      intro k hk
      by_cases hkl : k + 1 < ce.length
      · have hx1 : ce[k]? = some ce[k] := List.getElem?_eq_getElem (by omega)
        have hx2 : ce[k + 1]? = some ce[k + 1] := List.getElem?_eq_getElem hkl
        have hx1' : ce[((k : Int) + 1 - 1).toNat]? = some ce[k] := by rw [show ((k : Int) + 1 - 1).toNat = k by omega]; exact hx1
        have hx2' : ce[((k : Int) + 1).toNat]? = some ce[k + 1] := by rw [show ((k : Int) + 1).toNat = k + 1 by omega]; exact hx2
        have hlt2 := pw_get hasc (Nat.lt_succ_self k) hx1 hx2
        generalize ce[k] = x at *
        generalize ce[k + 1] = y at *
        (repeat (any_goals (first | (with_reducible first | apply at_seq | apply at_block) | ((first | with_reducible apply at_regS Θ_ok | refine go ?_ | refine go2 fun xe hxe => ?_ | (with_reducible first | refine cnd_d (fun hq => ?_) fun hq => ?_ | apply at_cond | apply at_ret | apply at_exit | apply at_skip | refine at_regD Θ_ok mixed (by kernel_rfl) ?_)) <;> conv => whnf) | ((with_reducible refine cnd_i (fun hq => ?_) fun hq => ?_) <;> ((try simp only [decide_eq_true_eq, decide_eq_false_iff_not, Bool.not_eq_true', Bool.not_eq_false', beq_iff_eq, bne_iff_ne, beq_eq_false_iff_ne, bne_eq_false_iff_eq, ne_eq] at hq) <;> (first | omega | conv => whnf))))))
        exact ⟨k + 1, by omega, by omega, rfl⟩
      · (repeat (any_goals (first | (with_reducible first | apply at_seq | apply at_block) | ((first | with_reducible apply at_regS Θ_ok | refine go ?_ | refine go2 fun xe hxe => ?_ | (with_reducible first | refine cnd_d (fun hq => ?_) fun hq => ?_ | apply at_cond | apply at_ret | apply at_exit | apply at_skip | refine at_regD Θ_ok mixed (by kernel_rfl) ?_)) <;> conv => whnf) | ((with_reducible refine cnd_i (fun hq => ?_) fun hq => ?_) <;> ((try simp only [decide_eq_true_eq, decide_eq_false_iff_not, Bool.not_eq_true', Bool.not_eq_false', beq_iff_eq, bne_iff_ne, beq_eq_false_iff_ne, bne_eq_false_iff_eq, ne_eq] at hq) <;> (first | omega | conv => whnf))))))
        exact ⟨rfl, rfl⟩
end Go.Proofs.YtfamejohdhkffaaGreat.Am
