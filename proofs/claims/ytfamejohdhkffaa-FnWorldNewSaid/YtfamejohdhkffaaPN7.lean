/- Runs: graphs of members, copies: what the program's functions give. Runs: clones of proposals, views that cover. Runs: parents that are known. Runs: clones of lists of numbers (the empty ones by the shelf). Runs: a run is opened. The exact laws' own functions on lists of numbers and vertices. Runs: the vertices of a graph's table; copies of proposals; a run as it is handed back. Runs: what is handed back; new runs, valid runs. Runs: what the specification's functions give. -/
import Derived.Shelf.Slices.Clone
import Derived.Test.YtfamejohdhkffaaPN6
namespace Go.Proofs.Ytfamejohdhkffaa.Am
set_option linter.unusedSimpArgs false
set_option linter.unusedVariables false
open Go
attribute [local irreducible] Mk Need Ari Get Idx Cnd CallM CallA Opt Unch At ConV
set_option maxRecDepth 10000

theorem igv_c (c : List Int) (g : List Vtx) (hl : g.length ≤ 2000000) : ConV Try.prog 92 [.lst (.int .i64) c, .lst .vtx g] [] (.bool (graS c g)) [] := by
  have hL := link_c c g hl
  refine con_eq Θg_ok Try.func92 rfl rfl false 0 4 rfl rfl rfl rfl fun K hK hb1 hb2 => ?_; simp only [argsV, enc, Nat.reduceAdd]
  clear hb1 hb2
  cases hg : graS c g
  · simp only [lgR, lgO, hg, Bool.false_eq_true, if_false] at hL
    (repeat (any_goals (first | (with_reducible apply at_seq) | ((with_reducible apply at_regS Θg_ok); (conv => whnf)) | ((refine go ?_); (conv => whnf)) | ((refine go2 (fun xe hxe => ?_)); (conv => whnf)) | ((with_reducible refine cnd_d (fun hq => ?_) (fun hq => ?_)) <;> (conv => whnf)) | ((with_reducible refine cnd_i (fun hq => ?_) (fun hq => ?_)) <;> ((try simp only [decide_eq_true_eq, decide_eq_false_iff_not, Bool.not_eq_true', Bool.not_eq_false', beq_iff_eq, bne_iff_ne, beq_eq_false_iff_ne, bne_eq_false_iff_eq, ne_eq] at hq) <;> (first | omega | (conv => whnf)))) | ((with_reducible first | apply at_cond | apply at_ret | apply at_exit | apply at_skip); (conv => whnf)) | (with_reducible apply at_block) | ((with_reducible refine at_regD Θg_ok mixed (by kernel_rfl) ?_); (conv => whnf)) | ((with_reducible refine call_r ?_); (conv => whnf); (first | ((with_reducible refine call_i (hL) ?_); (conv => whnf)))))))
    exact ⟨rfl, rfl⟩
  · simp only [lgR, lgO, hg, if_true] at hL
    cases g with
    | nil =>
      (repeat (any_goals (first | (with_reducible apply at_seq) | ((with_reducible apply at_regS Θg_ok); (conv => whnf)) | ((refine go ?_); (conv => whnf)) | ((refine go2 (fun xe hxe => ?_)); (conv => whnf)) | ((with_reducible refine cnd_d (fun hq => ?_) (fun hq => ?_)) <;> (conv => whnf)) | ((with_reducible refine cnd_i (fun hq => ?_) (fun hq => ?_)) <;> ((try simp only [decide_eq_true_eq, decide_eq_false_iff_not, Bool.not_eq_true', Bool.not_eq_false', beq_iff_eq, bne_iff_ne, beq_eq_false_iff_ne, bne_eq_false_iff_eq, ne_eq] at hq) <;> (first | omega | (conv => whnf)))) | ((with_reducible first | apply at_cond | apply at_ret | apply at_exit | apply at_skip); (conv => whnf)) | (with_reducible apply at_block) | ((with_reducible refine at_regD Θg_ok mixed (by kernel_rfl) ?_); (conv => whnf)) | ((with_reducible refine call_r ?_); (conv => whnf); (first | ((with_reducible refine call_i (hL) ?_); (conv => whnf)))))))
      exact ⟨rfl, rfl⟩
    | cons v g =>
      (repeat (any_goals (first | (with_reducible apply at_seq) | ((with_reducible apply at_regS Θg_ok); (conv => whnf)) | ((refine go ?_); (conv => whnf)) | ((refine go2 (fun xe hxe => ?_)); (conv => whnf)) | ((with_reducible refine cnd_d (fun hq => ?_) (fun hq => ?_)) <;> (conv => whnf)) | ((with_reducible refine cnd_i (fun hq => ?_) (fun hq => ?_)) <;> ((try simp only [decide_eq_true_eq, decide_eq_false_iff_not, Bool.not_eq_true', Bool.not_eq_false', beq_iff_eq, bne_iff_ne, beq_eq_false_iff_ne, bne_eq_false_iff_eq, ne_eq] at hq) <;> (first | omega | (conv => whnf)))) | ((with_reducible first | apply at_cond | apply at_ret | apply at_exit | apply at_skip); (conv => whnf)) | (with_reducible apply at_block) | ((with_reducible refine at_regD Θg_ok mixed (by kernel_rfl) ?_); (conv => whnf)) | ((with_reducible refine call_r ?_); (conv => whnf); (first | ((with_reducible refine call_i (hL) ?_); (conv => whnf)))))))
      exact ⟨rfl, rfl⟩
abbrev cloB (w : Wrl) (v : Vtx) : VH := [(4, .var 63 [.int .i64 v.round, .int .i64 v.author, .lst (.int .i64) v.parents, .int .i64 v.digest]), (5, .var 29 [.lst (.int .i64) w.com, .lst (.int .i64) w.lead, .int .i64 w.bad, .lst (.lst .vtx) w.views, .lst .ppl w.props])]
theorem vv1_c (w : Wrl) (v : Vtx) (p : Ppl) (hc : comV w.com = true) (hm : mems w.com p.members = true) : ConV Try.prog 94 [pplA p, .ptr 4 0, .ptr 5 0] (cloB w v) (.bool (vEq p.v v && don w.com p)) (cloB w v) := by
  refine con_eq Θ_ok Try.func94 rfl rfl false 2 6 rfl rfl rfl rfl fun K hK hb1 hb2 => ?_; simp only [argsV, enc, Nat.reduceAdd]
  clear hb1 hb2
  cases h1 : vEq p.v v
  · (repeat (any_goals (first | (with_reducible apply at_seq) | ((with_reducible apply at_regS Θ_ok); (conv => whnf)) | ((refine go ?_); (conv => whnf)) | ((refine go2 (fun xe hxe => ?_)); (conv => whnf)) | ((with_reducible refine cnd_d (fun hq => ?_) (fun hq => ?_)) <;> (conv => whnf)) | ((with_reducible refine cnd_i (fun hq => ?_) (fun hq => ?_)) <;> ((try simp only [decide_eq_true_eq, decide_eq_false_iff_not, Bool.not_eq_true', Bool.not_eq_false', beq_iff_eq, bne_iff_ne, beq_eq_false_iff_ne, bne_eq_false_iff_eq, ne_eq] at hq) <;> (first | omega | (conv => whnf)))) | ((with_reducible first | apply at_cond | apply at_ret | apply at_exit | apply at_skip); (conv => whnf)) | (with_reducible apply at_block) | ((with_reducible refine at_regD Θ_ok mixed (by kernel_rfl) ?_); (conv => whnf)) | ((with_reducible refine call_r ?_); (conv => whnf); (first | ((with_reducible refine call_i (ivEq_c _ _) ?_); (conv => whnf)) | ((with_reducible refine call_i (icert_c _ _ hc hm) ?_); (conv => whnf)))))))
    exact ⟨rfl, rfl⟩
  · (repeat (any_goals (first | (with_reducible apply at_seq) | ((with_reducible apply at_regS Θ_ok); (conv => whnf)) | ((refine go ?_); (conv => whnf)) | ((refine go2 (fun xe hxe => ?_)); (conv => whnf)) | ((with_reducible refine cnd_d (fun hq => ?_) (fun hq => ?_)) <;> (conv => whnf)) | ((with_reducible refine cnd_i (fun hq => ?_) (fun hq => ?_)) <;> ((try simp only [decide_eq_true_eq, decide_eq_false_iff_not, Bool.not_eq_true', Bool.not_eq_false', beq_iff_eq, bne_iff_ne, beq_eq_false_iff_ne, bne_eq_false_iff_eq, ne_eq] at hq) <;> (first | omega | (conv => whnf)))) | ((with_reducible first | apply at_cond | apply at_ret | apply at_exit | apply at_skip); (conv => whnf)) | (with_reducible apply at_block) | ((with_reducible refine at_regD Θ_ok mixed (by kernel_rfl) ?_); (conv => whnf)) | ((with_reducible refine call_r ?_); (conv => whnf); (first | ((with_reducible refine call_i (ivEq_c _ _) ?_); (conv => whnf)) | ((with_reducible refine call_i (icert_c _ _ hc hm) ?_); (conv => whnf)))))))
    exact ⟨rfl, rfl⟩
theorem idxF_c (w : Wrl) (v : Vtx) (ps : List Ppl) (hc : comV w.com = true) (hm : ∀ p ∈ ps, mems w.com p.members = true) : ConV Try.prog 111 [.lst .ppl ps, .clo 94 [.ptr 4 0, .ptr 5 0]] (cloB w v)
    (.int .i64 (match ps.findIdx? (fun p => vEq p.v v && don w.com p) with | some i => (i : Int) | none => -1)) (cloB w v) := by
  refine con_eq Θ_ok Try.func111 rfl rfl false 2 6 rfl rfl rfl rfl fun K hK hb1 hb2 => ?_; simp only [argsV, enc, Nat.reduceAdd]
  clear hb2
  simp [toDL, V.toD, bnd, encD, D.cells] at hb1
  (repeat (any_goals (first | (with_reducible apply at_seq) | ((with_reducible apply at_regS Θ_ok); (conv => whnf)) | ((refine go ?_); (conv => whnf)) | ((refine go2 (fun xe hxe => ?_)); (conv => whnf)) | ((with_reducible refine cnd_d (fun hq => ?_) (fun hq => ?_)) <;> (conv => whnf)) | ((with_reducible refine cnd_i (fun hq => ?_) (fun hq => ?_)) <;> ((try simp only [decide_eq_true_eq, decide_eq_false_iff_not, Bool.not_eq_true', Bool.not_eq_false', beq_iff_eq, bne_iff_ne, beq_eq_false_iff_ne, bne_eq_false_iff_eq, ne_eq] at hq) <;> (first | omega | (conv => whnf)))) | ((with_reducible first | apply at_cond | apply at_ret | apply at_exit | apply at_skip); (conv => whnf)) | (with_reducible apply at_block) | ((with_reducible refine at_regD Θ_ok mixed (by kernel_rfl) ?_); (conv => whnf)))))
  refine at_loop hK [] [0, 1, 7, 8] (fun i : Nat => ⟨[(0, .lst .ppl ps), (1, .clo 94 [.ptr 4 0, .ptr 5 0]), (7, .int .i64 ps.length), (8, .int .i64 i)], cloB w v, 6⟩) (fun i => i ≤ ps.length ∧ ∀ y ∈ ps.take i, (vEq y.v v && don w.com y) = false) (fun i => ps.length - i) 0 ⟨by simp, by simp⟩ rfl ?_
  rintro i ⟨hi, hall⟩
  by_cases hlt : i < ps.length
  · have hxe : ps[i]? = some ps[i] := List.getElem?_eq_getElem hlt
    have h3 : ps.take (i + 1) = ps.take i ++ [ps[i]] := List.take_succ_eq_append_getElem hlt
    have h4 := find_at (l := ps) (p := fun p => vEq p.v v && don w.com p) hxe hall
    have h5 := hm _ (List.getElem_mem hlt)
    generalize ps[i] = p at *
    have hv := vv1_c w v p hc h5
    cases h6 : vEq p.v v && don w.com p
    · rw [h6] at hv
      (repeat (any_goals (first | (with_reducible apply at_seq) | ((with_reducible apply at_regS Θ_ok); (conv => whnf)) | ((refine go ?_); (conv => whnf)) | ((refine go2 (fun xe hxe => ?_)); (conv => whnf)) | ((with_reducible refine cnd_d (fun hq => ?_) (fun hq => ?_)) <;> (conv => whnf)) | ((with_reducible refine cnd_i (fun hq => ?_) (fun hq => ?_)) <;> ((try simp only [decide_eq_true_eq, decide_eq_false_iff_not, Bool.not_eq_true', Bool.not_eq_false', beq_iff_eq, bne_iff_ne, beq_eq_false_iff_ne, bne_eq_false_iff_eq, ne_eq] at hq) <;> (first | omega | (conv => whnf)))) | ((with_reducible first | apply at_cond | apply at_ret | apply at_exit | apply at_skip); (conv => whnf)) | (with_reducible apply at_block) | ((with_reducible refine at_regD Θ_ok mixed (by kernel_rfl) ?_); (conv => whnf)) | ((with_reducible refine call_r ?_); (conv => whnf); (first | ((with_reducible refine call_i (hv) ?_); (conv => whnf)))))))
      exact ⟨i + 1, ⟨by omega, by rw [h3]; exact tk_snoc hall h6⟩, by omega, rfl⟩
    · rw [h6] at hv
      (repeat (any_goals (first | (with_reducible apply at_seq) | ((with_reducible apply at_regS Θ_ok); (conv => whnf)) | ((refine go ?_); (conv => whnf)) | ((refine go2 (fun xe hxe => ?_)); (conv => whnf)) | ((with_reducible refine cnd_d (fun hq => ?_) (fun hq => ?_)) <;> (conv => whnf)) | ((with_reducible refine cnd_i (fun hq => ?_) (fun hq => ?_)) <;> ((try simp only [decide_eq_true_eq, decide_eq_false_iff_not, Bool.not_eq_true', Bool.not_eq_false', beq_iff_eq, bne_iff_ne, beq_eq_false_iff_ne, bne_eq_false_iff_eq, ne_eq] at hq) <;> (first | omega | (conv => whnf)))) | ((with_reducible first | apply at_cond | apply at_ret | apply at_exit | apply at_skip); (conv => whnf)) | (with_reducible apply at_block) | ((with_reducible refine at_regD Θ_ok mixed (by kernel_rfl) ?_); (conv => whnf)) | ((with_reducible refine call_r ?_); (conv => whnf); (first | ((with_reducible refine call_i (hv) ?_); (conv => whnf)))))))
      rw [h4 h6]
      exact ⟨rfl, rfl⟩
  · (repeat (any_goals (first | (with_reducible apply at_seq) | ((with_reducible apply at_regS Θ_ok); (conv => whnf)) | ((refine go ?_); (conv => whnf)) | ((refine go2 (fun xe hxe => ?_)); (conv => whnf)) | ((with_reducible refine cnd_d (fun hq => ?_) (fun hq => ?_)) <;> (conv => whnf)) | ((with_reducible refine cnd_i (fun hq => ?_) (fun hq => ?_)) <;> ((try simp only [decide_eq_true_eq, decide_eq_false_iff_not, Bool.not_eq_true', Bool.not_eq_false', beq_iff_eq, bne_iff_ne, beq_eq_false_iff_ne, bne_eq_false_iff_eq, ne_eq] at hq) <;> (first | omega | (conv => whnf)))) | ((with_reducible first | apply at_cond | apply at_ret | apply at_exit | apply at_skip); (conv => whnf)) | (with_reducible apply at_block) | ((with_reducible refine at_regD Θ_ok mixed (by kernel_rfl) ?_); (conv => whnf)))))
    rw [List.take_of_length_le (by omega)] at hall
    rw [List.findIdx?_eq_none_iff.2 hall]
    exact ⟨rfl, rfl⟩
theorem knw_c (w : Wrl) (v : Vtx) (ps : List Ppl) (hc : comV w.com = true) (hm : ∀ p ∈ ps, mems w.com p.members = true) : ConV Try.prog 93 [.lst .ppl ps, .clo 94 [.ptr 4 0, .ptr 5 0]] (cloB w v)
    (.bool (knw w.com ps v)) (cloB w v) := by
  have hk : knw w.com ps v = (ps.findIdx? (fun p => vEq p.v v && don w.com p)).isSome := by
    rw [List.findIdx?_isSome, knw]
    congr 1
    funext p
    rw [Bool.and_comm]
  refine con_eq Θ_ok Try.func93 rfl rfl false 2 6 rfl rfl rfl rfl fun K hK hb1 hb2 => ?_; simp only [argsV, enc, Nat.reduceAdd]
  (repeat (any_goals (first | (with_reducible apply at_seq) | ((with_reducible apply at_regS Θ_ok); (conv => whnf)) | ((refine go ?_); (conv => whnf)) | ((refine go2 (fun xe hxe => ?_)); (conv => whnf)) | ((with_reducible refine cnd_d (fun hq => ?_) (fun hq => ?_)) <;> (conv => whnf)) | ((with_reducible refine cnd_i (fun hq => ?_) (fun hq => ?_)) <;> ((try simp only [decide_eq_true_eq, decide_eq_false_iff_not, Bool.not_eq_true', Bool.not_eq_false', beq_iff_eq, bne_iff_ne, beq_eq_false_iff_ne, bne_eq_false_iff_eq, ne_eq] at hq) <;> (first | omega | (conv => whnf)))) | ((with_reducible first | apply at_cond | apply at_ret | apply at_exit | apply at_skip); (conv => whnf)) | (with_reducible apply at_block) | ((with_reducible refine at_regD Θ_ok mixed (by kernel_rfl) ?_); (conv => whnf)) | ((with_reducible refine call_r ?_); (conv => whnf); (first | ((with_reducible refine call_i (idxF_c _ _ _ hc hm) ?_); (conv => whnf)))))))
  refine ⟨?_, rfl⟩
  rw [hk]
  cases ps.findIdx? (fun p => vEq p.v v && don w.com p) with
  | none => rfl
  | some i => simp
theorem iviwV_c (w : Wrl) (hc : comV w.com = true) (hp : proS w.com w.bad w.props = true) (hl : ∀ g ∈ w.views, g.length ≤ 2000000) : ConV Try.prog 59 [wrlA w] [] (.bool ((w.views.length == w.com.length) && viwsS w.com w.bad w.props w.views)) [] := by
  have hm : ∀ p ∈ w.props, mems w.com p.members = true := fun p hpp => by
    obtain ⟨i, hi, rfl⟩ := mem_getD (d := p0) hpp
    simp only [proS, Bool.and_eq_true, allTo_iff] at hp
    have := hp.1 i hi
    simp only [proAt, oneP, Bool.and_eq_true] at this
    exact this.1.2
  have h7 := (comV_iff.1 hc).2
  refine con_eq Θ_ok Try.func59 rfl rfl false 0 4 rfl rfl rfl rfl fun K hK hb1 hb2 => ?_; simp only [argsV, enc, Nat.reduceAdd]
  simp [toDL, V.toD, bnd, encD, D.cells] at hb1
  by_cases hlen : w.views.length = w.com.length
  · have hb : (w.views.length == w.com.length) = true := by simpa using hlen
    rw [hb, Bool.true_and]
    (repeat (any_goals (first | (with_reducible apply at_seq) | ((with_reducible apply at_regS Θ_ok); (conv => whnf)) | ((refine go ?_); (conv => whnf)) | ((refine go2 (fun xe hxe => ?_)); (conv => whnf)) | ((with_reducible refine cnd_d (fun hq => ?_) (fun hq => ?_)) <;> (conv => whnf)) | ((with_reducible refine cnd_i (fun hq => ?_) (fun hq => ?_)) <;> ((try simp only [decide_eq_true_eq, decide_eq_false_iff_not, Bool.not_eq_true', Bool.not_eq_false', beq_iff_eq, bne_iff_ne, beq_eq_false_iff_ne, bne_eq_false_iff_eq, ne_eq] at hq) <;> (first | omega | (conv => whnf)))) | ((with_reducible first | apply at_cond | apply at_ret | apply at_exit | apply at_skip); (conv => whnf)) | (with_reducible apply at_block) | ((with_reducible refine at_regD Θ_ok mixed (by kernel_rfl) ?_); (conv => whnf)))))
    refine at_loop hK [] [1, 16, 17, 18] (fun i : Nat => ⟨[(1, .ptr 4 0), (16, .lst (.lst .vtx) w.views), (17, .int .i64 w.views.length), (18, .int .i64 i)], [(4, .var 29 (wrlA w).cells)], 5⟩)
      (fun i => i ≤ w.views.length ∧ ∀ j, j < i → (viwS w.com w.props (w.views.getD j []) && (!((j : Int) == w.bad) || (w.views.getD j []).isEmpty)) = true) (fun i => w.views.length - i) 0 ⟨by simp, by simp⟩ rfl ?_
    rintro i ⟨hi, hall⟩
    by_cases hlt : i < w.views.length
    · have hxe : w.views[i]? = some (w.views.getD i []) := by rw [List.getD_eq_getElem?_getD, List.getElem?_eq_getElem hlt]; rfl
      have hgl := hl _ (List.mem_of_getElem? hxe)
      have hno : (viwS w.com w.props (w.views.getD i []) && (!((i : Int) == w.bad) || (w.views.getD i []).isEmpty)) = false → V.bool false = V.bool (viwsS w.com w.bad w.props w.views) ∧ ([] : VH) = [] := fun h => ⟨by unfold viwsS; rw [allTo_f hlt h], rfl⟩
      have hyes := all_step hall (p := fun j => viwS w.com w.props (w.views.getD j []) && (!((j : Int) == w.bad) || (w.views.getD j []).isEmpty)) (i := i)
      generalize w.views.getD i [] = g at *
      have hvv : viwS w.com w.props g = (g.all (knw w.com w.props) && graS w.com g) := rfl
      cases h1 : graS w.com g
      · (repeat (any_goals (first | (with_reducible apply at_seq) | ((with_reducible apply at_regS Θ_ok); (conv => whnf)) | ((refine go ?_); (conv => whnf)) | ((refine go2 (fun xe hxe => ?_)); (conv => whnf)) | ((with_reducible refine cnd_d (fun hq => ?_) (fun hq => ?_)) <;> (conv => whnf)) | ((with_reducible refine cnd_i (fun hq => ?_) (fun hq => ?_)) <;> ((try simp only [decide_eq_true_eq, decide_eq_false_iff_not, Bool.not_eq_true', Bool.not_eq_false', beq_iff_eq, bne_iff_ne, beq_eq_false_iff_ne, bne_eq_false_iff_eq, ne_eq] at hq) <;> (first | omega | (conv => whnf)))) | ((with_reducible first | apply at_cond | apply at_ret | apply at_exit | apply at_skip); (conv => whnf)) | (with_reducible apply at_block) | ((with_reducible refine at_regD Θ_ok mixed (by kernel_rfl) ?_); (conv => whnf)) | ((with_reducible refine call_r ?_); (conv => whnf); (first | ((with_reducible refine call_i (igv_c _ _ hgl) ?_); (conv => whnf)))))))
        exact hno (by rw [hvv, h1, Bool.and_false, Bool.false_and])
      have hem : g.isEmpty = decide ((g.length : Int) = 0) := by cases g <;> simp; omega
      by_cases h2 : (i : Int) = w.bad ∧ ¬ (g.length : Int) = 0
      · have hb1 : ((i : Int) == w.bad) = true := by simpa using h2.1
        (repeat (any_goals (first | (with_reducible apply at_seq) | ((with_reducible apply at_regS Θ_ok); (conv => whnf)) | ((refine go ?_); (conv => whnf)) | ((refine go2 (fun xe hxe => ?_)); (conv => whnf)) | ((with_reducible refine cnd_d (fun hq => ?_) (fun hq => ?_)) <;> (conv => whnf)) | ((with_reducible refine cnd_i (fun hq => ?_) (fun hq => ?_)) <;> ((try simp only [decide_eq_true_eq, decide_eq_false_iff_not, Bool.not_eq_true', Bool.not_eq_false', beq_iff_eq, bne_iff_ne, beq_eq_false_iff_ne, bne_eq_false_iff_eq, ne_eq] at hq) <;> (first | omega | (conv => whnf)))) | ((with_reducible first | apply at_cond | apply at_ret | apply at_exit | apply at_skip); (conv => whnf)) | (with_reducible apply at_block) | ((with_reducible refine at_regD Θ_ok mixed (by kernel_rfl) ?_); (conv => whnf)) | ((with_reducible refine call_r ?_); (conv => whnf); (first | ((with_reducible refine call_i (igv_c _ _ hgl) ?_); (conv => whnf)))))))
        exact hno (by rw [hb1, hem, decide_eq_false h2.2]; simp)
      have hok2 : (!((i : Int) == w.bad) || g.isEmpty) = true := by
        rw [hem]
        by_cases hb : (i : Int) = w.bad
        · have : (g.length : Int) = 0 := Classical.byContradiction fun h => h2 ⟨hb, h⟩
          simp [this]
        · simp [hb]
      have hkn : ∀ v, ConV Try.prog 93 [.lst .ppl w.props, .clo 94 [.ptr 4 0, .ptr 5 0]] (cloB w v) (.bool (knw w.com w.props v)) (cloB w v) := fun v => knw_c w v _ hc hm
      (repeat (any_goals (first | (with_reducible apply at_seq) | ((with_reducible apply at_regS Θ_ok); (conv => whnf)) | ((refine go ?_); (conv => whnf)) | ((refine go2 (fun xe hxe => ?_)); (conv => whnf)) | ((with_reducible refine cnd_d (fun hq => ?_) (fun hq => ?_)) <;> (conv => whnf)) | ((with_reducible refine cnd_i (fun hq => ?_) (fun hq => ?_)) <;> ((try simp only [decide_eq_true_eq, decide_eq_false_iff_not, Bool.not_eq_true', Bool.not_eq_false', beq_iff_eq, bne_iff_ne, beq_eq_false_iff_ne, bne_eq_false_iff_eq, ne_eq] at hq) <;> (first | omega | (conv => whnf)))) | ((with_reducible first | apply at_cond | apply at_ret | apply at_exit | apply at_skip); (conv => whnf)) | (with_reducible apply at_block) | ((with_reducible refine at_regD Θ_ok mixed (by kernel_rfl) ?_); (conv => whnf)) | ((with_reducible refine call_r ?_); (conv => whnf); (first | ((with_reducible refine call_i (igv_c _ _ hgl) ?_); (conv => whnf)))))))
      all_goals
        refine at_loop hK [] [1, 16, 17, 18, 39, 40, 41] (fun k : Nat => ⟨[(1, .ptr 4 0), (16, .lst (.lst .vtx) w.views), (17, .int .i64 w.views.length), (18, .int .i64 i), (39, .lst .vtx g), (40, .int .i64 g.length), (41, .int .i64 k)], [(4, .var 29 (wrlA w).cells)], 5⟩)
          (fun k => k ≤ g.length ∧ ∀ v ∈ g.take k, knw w.com w.props v = true) (fun k => g.length - k) 0 ⟨by simp, by simp⟩ rfl ?_
        rintro k ⟨hk, hkall⟩
        by_cases hkl : k < g.length
        · have hxk : g[k]? = some g[k] := List.getElem?_eq_getElem hkl
          have hsn : g.take (k + 1) = g.take k ++ [g[k]] := List.take_succ_eq_append_getElem hkl
          have hvm : g[k] ∈ g := List.getElem_mem hkl
          generalize g[k] = v at *
          have hkv := hkn v
          cases h3 : knw w.com w.props v
          · rw [h3] at hkv
            (repeat (any_goals (first | (with_reducible apply at_seq) | ((with_reducible apply at_regS Θ_ok); (conv => whnf)) | ((refine go ?_); (conv => whnf)) | ((refine go2 (fun xe hxe => ?_)); (conv => whnf)) | ((with_reducible refine cnd_d (fun hq => ?_) (fun hq => ?_)) <;> (conv => whnf)) | ((with_reducible refine cnd_i (fun hq => ?_) (fun hq => ?_)) <;> ((try simp only [decide_eq_true_eq, decide_eq_false_iff_not, Bool.not_eq_true', Bool.not_eq_false', beq_iff_eq, bne_iff_ne, beq_eq_false_iff_ne, bne_eq_false_iff_eq, ne_eq] at hq) <;> (first | omega | (conv => whnf)))) | ((with_reducible first | apply at_cond | apply at_ret | apply at_exit | apply at_skip); (conv => whnf)) | (with_reducible apply at_block) | ((with_reducible refine at_regD Θ_ok mixed (by kernel_rfl) ?_); (conv => whnf)) | ((with_reducible refine call_r ?_); (conv => whnf); (first | ((with_reducible refine call_i (hkv) ?_); (conv => whnf)))))))
            have : g.all (knw w.com w.props) = false := by
              rw [Bool.eq_false_iff]
              intro h
              rw [List.all_eq_true.1 h v hvm] at h3
              cases h3
            exact hno (by rw [hvv, this, Bool.false_and, Bool.false_and])
          · rw [h3] at hkv
            (repeat (any_goals (first | (with_reducible apply at_seq) | ((with_reducible apply at_regS Θ_ok); (conv => whnf)) | ((refine go ?_); (conv => whnf)) | ((refine go2 (fun xe hxe => ?_)); (conv => whnf)) | ((with_reducible refine cnd_d (fun hq => ?_) (fun hq => ?_)) <;> (conv => whnf)) | ((with_reducible refine cnd_i (fun hq => ?_) (fun hq => ?_)) <;> ((try simp only [decide_eq_true_eq, decide_eq_false_iff_not, Bool.not_eq_true', Bool.not_eq_false', beq_iff_eq, bne_iff_ne, beq_eq_false_iff_ne, bne_eq_false_iff_eq, ne_eq] at hq) <;> (first | omega | (conv => whnf)))) | ((with_reducible first | apply at_cond | apply at_ret | apply at_exit | apply at_skip); (conv => whnf)) | (with_reducible apply at_block) | ((with_reducible refine at_regD Θ_ok mixed (by kernel_rfl) ?_); (conv => whnf)) | ((with_reducible refine call_r ?_); (conv => whnf); (first | ((with_reducible refine call_i (hkv) ?_); (conv => whnf)))))))
            exact ⟨k + 1, ⟨by omega, by rw [hsn]; exact tk_snoc hkall h3⟩, by omega, rfl⟩
        · rw [List.take_of_length_le (by omega)] at hkall
          (repeat (any_goals (first | (with_reducible apply at_seq) | ((with_reducible apply at_regS Θ_ok); (conv => whnf)) | ((refine go ?_); (conv => whnf)) | ((refine go2 (fun xe hxe => ?_)); (conv => whnf)) | ((with_reducible refine cnd_d (fun hq => ?_) (fun hq => ?_)) <;> (conv => whnf)) | ((with_reducible refine cnd_i (fun hq => ?_) (fun hq => ?_)) <;> ((try simp only [decide_eq_true_eq, decide_eq_false_iff_not, Bool.not_eq_true', Bool.not_eq_false', beq_iff_eq, bne_iff_ne, beq_eq_false_iff_ne, bne_eq_false_iff_eq, ne_eq] at hq) <;> (first | omega | (conv => whnf)))) | ((with_reducible first | apply at_cond | apply at_ret | apply at_exit | apply at_skip); (conv => whnf)) | (with_reducible apply at_block) | ((with_reducible refine at_regD Θ_ok mixed (by kernel_rfl) ?_); (conv => whnf)))))
          exact ⟨i + 1, ⟨by omega, hyes (by rw [hvv, List.all_eq_true.2 hkall, h1, hok2]; rfl)⟩, by omega, rfl⟩
    · (repeat (any_goals (first | (with_reducible apply at_seq) | ((with_reducible apply at_regS Θ_ok); (conv => whnf)) | ((refine go ?_); (conv => whnf)) | ((refine go2 (fun xe hxe => ?_)); (conv => whnf)) | ((with_reducible refine cnd_d (fun hq => ?_) (fun hq => ?_)) <;> (conv => whnf)) | ((with_reducible refine cnd_i (fun hq => ?_) (fun hq => ?_)) <;> ((try simp only [decide_eq_true_eq, decide_eq_false_iff_not, Bool.not_eq_true', Bool.not_eq_false', beq_iff_eq, bne_iff_ne, beq_eq_false_iff_ne, bne_eq_false_iff_eq, ne_eq] at hq) <;> (first | omega | (conv => whnf)))) | ((with_reducible first | apply at_cond | apply at_ret | apply at_exit | apply at_skip); (conv => whnf)) | (with_reducible apply at_block) | ((with_reducible refine at_regD Θ_ok mixed (by kernel_rfl) ?_); (conv => whnf)))))
      unfold viwsS
      rw [allTo_t (fun j hj => hall j (by omega))]
      exact ⟨rfl, rfl⟩
  · have hb : (w.views.length == w.com.length) = false := by simpa using hlen
    rw [hb, Bool.false_and]
    (repeat (any_goals (first | (with_reducible apply at_seq) | ((with_reducible apply at_regS Θ_ok); (conv => whnf)) | ((refine go ?_); (conv => whnf)) | ((refine go2 (fun xe hxe => ?_)); (conv => whnf)) | ((with_reducible refine cnd_d (fun hq => ?_) (fun hq => ?_)) <;> (conv => whnf)) | ((with_reducible refine cnd_i (fun hq => ?_) (fun hq => ?_)) <;> ((try simp only [decide_eq_true_eq, decide_eq_false_iff_not, Bool.not_eq_true', Bool.not_eq_false', beq_iff_eq, bne_iff_ne, beq_eq_false_iff_ne, bne_eq_false_iff_eq, ne_eq] at hq) <;> (first | omega | (conv => whnf)))) | ((with_reducible first | apply at_cond | apply at_ret | apply at_exit | apply at_skip); (conv => whnf)) | (with_reducible apply at_block) | ((with_reducible refine at_regD Θ_ok mixed (by kernel_rfl) ?_); (conv => whnf)))))
    exact ⟨rfl, rfl⟩
theorem icl_c (v : Vtx) (hl : v.parents.length ≤ 1000000) : ConV Try.prog 96 [vtxA v] [] (.agg [.int .i64 v.round, .int .i64 v.author, .ref 4, .int .i64 v.digest]) [(4, .row 3 (.int .i64) v.parents)] := by
  refine con_eq Θ_ok Try.func96 rfl rfl false 0 4 rfl rfl rfl rfl fun K hK hb1 hb2 => ?_; simp only [argsV, enc, Nat.reduceAdd]
  (repeat (any_goals (first | (with_reducible apply at_seq) | ((with_reducible apply at_regS Θ_ok); (conv => whnf)) | ((refine go ?_); (conv => whnf)) | ((refine go2 (fun xe hxe => ?_)); (conv => whnf)) | ((with_reducible refine cnd_d (fun hq => ?_) (fun hq => ?_)) <;> (conv => whnf)) | ((with_reducible refine cnd_i (fun hq => ?_) (fun hq => ?_)) <;> ((try simp only [decide_eq_true_eq, decide_eq_false_iff_not, Bool.not_eq_true', Bool.not_eq_false', beq_iff_eq, bne_iff_ne, beq_eq_false_iff_ne, bne_eq_false_iff_eq, ne_eq] at hq) <;> (first | omega | (conv => whnf)))) | ((with_reducible first | apply at_cond | apply at_ret | apply at_exit | apply at_skip); (conv => whnf)) | (with_reducible apply at_block) | ((with_reducible refine at_regD Θ_ok mixed (by kernel_rfl) ?_); (conv => whnf)))))
  exact ⟨rfl, rfl⟩
theorem vof_c (g : List Vtx) (hg : ∀ v ∈ g, inTab v ∧ v.parents.length ≤ 1000) : ConV Try.prog 61 [.lst .vtx g] [] (.ptr 4 0) [(4, .vari 120 [] 217 (.ob .vtx) (tabV g) [])] := by
  refine con_eq Θ_ok Try.func61 rfl rfl false 0 4 rfl rfl rfl rfl fun K hK hb1 hb2 => ?_; simp only [argsV, enc, Nat.reduceAdd]
  simp [toDL, V.toD, bnd, encD, D.cells] at hb1
  (repeat (any_goals (first | (with_reducible apply at_seq) | ((with_reducible apply at_regS Θ_ok); (conv => whnf)) | ((refine go ?_); (conv => whnf)) | ((refine go2 (fun xe hxe => ?_)); (conv => whnf)) | ((with_reducible refine cnd_d (fun hq => ?_) (fun hq => ?_)) <;> (conv => whnf)) | ((with_reducible refine cnd_i (fun hq => ?_) (fun hq => ?_)) <;> ((try simp only [decide_eq_true_eq, decide_eq_false_iff_not, Bool.not_eq_true', Bool.not_eq_false', beq_iff_eq, bne_iff_ne, beq_eq_false_iff_ne, bne_eq_false_iff_eq, ne_eq] at hq) <;> (first | omega | (conv => whnf)))) | ((with_reducible first | apply at_cond | apply at_ret | apply at_exit | apply at_skip); (conv => whnf)) | (with_reducible apply at_block) | ((with_reducible refine at_regD Θ_ok mixed (by kernel_rfl) ?_); (conv => whnf)))))
  refine at_tab 4 0 217 (.ob .vtx) ?_
  ((conv => whnf); refine mk_i (by kernel_rfl) ?_; (conv => whnf))
  refine at_loop hK [] [3, 9, 10, 11] (fun i : Nat => ⟨[(3, .ptr 4 0), (9, .lst .vtx g), (10, .int .i64 g.length), (11, .int .i64 (i : Int))], [(4, .vari 120 [] 217 (.ob .vtx) (tabV (g.take i)) [])], 5⟩) (fun i => i ≤ g.length) (fun i => g.length - i) 0 (by simp) rfl ?_
  intro i hi
  by_cases hlt : i < g.length
  · have hxe : g[i]? = some g[i] := List.getElem?_eq_getElem hlt
    have hsn : g.take (i + 1) = g.take i ++ [g[i]] := List.take_succ_eq_append_getElem hlt
    obtain ⟨⟨⟨v1, v2⟩, v3, v4⟩, v5⟩ := hg _ (List.getElem_mem hlt)
    have hl2 := tabV_len (g.take i)
    have hst : tabV (g.take (i + 1)) = (tabV (g.take i)).set (g[i].round * 7 + g[i].author).toNat (some g[i]) := by rw [hsn, tabV_snoc]
    generalize g[i] = v at *
    generalize tabV (g.take i) = s at *
    (repeat (any_goals (first | (with_reducible apply at_seq) | ((with_reducible apply at_regS Θ_ok); (conv => whnf)) | ((refine go ?_); (conv => whnf)) | ((refine go2 (fun xe hxe => ?_)); (conv => whnf)) | ((with_reducible refine cnd_d (fun hq => ?_) (fun hq => ?_)) <;> (conv => whnf)) | ((with_reducible refine cnd_i (fun hq => ?_) (fun hq => ?_)) <;> ((try simp only [decide_eq_true_eq, decide_eq_false_iff_not, Bool.not_eq_true', Bool.not_eq_false', beq_iff_eq, bne_iff_ne, beq_eq_false_iff_ne, bne_eq_false_iff_eq, ne_eq] at hq) <;> (first | omega | (conv => whnf)))) | ((with_reducible first | apply at_cond | apply at_ret | apply at_exit | apply at_skip); (conv => whnf)) | (with_reducible apply at_block) | ((with_reducible refine at_regD Θ_ok mixed (by kernel_rfl) ?_); (conv => whnf)) | ((with_reducible refine call_r ?_); (conv => whnf); (first | ((with_reducible refine call_i (icl_c _ (by omega)) ?_); (conv => whnf)))))))
    refine ⟨i + 1, by omega, by omega, ?_⟩
    have hix : (v.round * 7 + v.author).toNat = v.round.toNat * 7 + v.author.toNat := by omega
    rw [hst, hix]
    rfl
  · rw [List.take_of_length_le (by omega)]
    (repeat (any_goals (first | (with_reducible apply at_seq) | ((with_reducible apply at_regS Θ_ok); (conv => whnf)) | ((refine go ?_); (conv => whnf)) | ((refine go2 (fun xe hxe => ?_)); (conv => whnf)) | ((with_reducible refine cnd_d (fun hq => ?_) (fun hq => ?_)) <;> (conv => whnf)) | ((with_reducible refine cnd_i (fun hq => ?_) (fun hq => ?_)) <;> ((try simp only [decide_eq_true_eq, decide_eq_false_iff_not, Bool.not_eq_true', Bool.not_eq_false', beq_iff_eq, bne_iff_ne, beq_eq_false_iff_ne, bne_eq_false_iff_eq, ne_eq] at hq) <;> (first | omega | (conv => whnf)))) | ((with_reducible first | apply at_cond | apply at_ret | apply at_exit | apply at_skip); (conv => whnf)) | (with_reducible apply at_block) | ((with_reducible refine at_regD Θ_ok mixed (by kernel_rfl) ?_); (conv => whnf)))))
    exact ⟨rfl, rfl⟩
end Go.Proofs.Ytfamejohdhkffaa.Am
namespace Go.Proofs.Ytfamejohdhkffaa.Am
set_option linter.unusedSimpArgs false
set_option linter.unusedVariables false
open Go
attribute [local irreducible] Mk Need Ari Get Idx Cnd CallM CallA Opt Unch At ConV
set_option maxRecDepth 10000
/-- the table with own views and proposals -/
def Θw : TT := (94, ⟨.ptr 120, 1, 8, some (.nilp), some (.hp 0), false⟩) :: (65, ⟨.struct [(63, 0, 4), (23, 4, 1)], 5, 72, some (.agg [.int .i64 0, .int .i64 0, .nils, .int .i64 0, .nils]), some (.pplm 1), false⟩) :: Θ
theorem Θw_ok : TT.ok Try.prog Θw := TT.okB_ok (by kernel_rfl)
def pms (ps : List Ppl) : List PplM := ps.zipIdx.map fun x => ⟨x.1.v, some x.2⟩
theorem pms_len (ps : List Ppl) : (pms ps).length = ps.length := by simp [pms]
def pm0 : PplM := ⟨⟨0, 0, [], 0⟩, none⟩
def pmI (ps : List Ppl) (i : Nat) : List PplM := pms (ps.take i) ++ List.replicate (ps.length - i) pm0
theorem pmI_len (ps : List Ppl) (i : Nat) (hi : i ≤ ps.length) : (pmI ps i).length = ps.length := by
  simp only [pmI, List.length_append, pms_len, List.length_take, List.length_replicate]; omega
theorem pmI_set {ps : List Ppl} {i : Nat} (h : i < ps.length) : (pmI ps i).set i ⟨ps[i].v, some i⟩ = pmI ps (i + 1) := by
  have h1 : (pms (ps.take i)).length = i := by rw [pms_len, List.length_take]; omega
  have h2 : ps.length - i = (ps.length - (i + 1)) + 1 := by omega
  unfold pmI
  rw [List.set_append_right _ _ (by omega), h1, Nat.sub_self, h2, List.replicate_succ, List.set_cons_zero]
  have h4 : pms (ps.take (i + 1)) = pms (ps.take i) ++ [⟨ps[i].v, some i⟩] := by
    rw [List.take_succ_eq_append_getElem h]
    simp only [pms, List.zipIdx_append, List.map_append, List.length_take, Nat.min_eq_left (Nat.le_of_lt h), List.zipIdx_cons, List.zipIdx_nil, List.map_cons, List.map_nil, Nat.zero_add]
  rw [h4, List.append_assoc]
  rfl
theorem icps_c (ps : List Ppl) (hv : ∀ p ∈ ps, p.v.parents.length ≤ 1000000 ∧ p.members.length ≤ 1000000) (hl : ps.length ≤ 1000000) : ConV Try.prog 62 [.lst .ppl ps] [] (.ref 4) [(1, .frow 3 (.int .i64) (ps.map (·.members))), (4, .row 65 (.pplm 1) (pms ps))] := by
  refine con_eq Θw_ok Try.func62 rfl rfl false 0 4 rfl rfl rfl rfl fun K hK hb1 hb2 => ?_; simp only [argsV, enc, Nat.reduceAdd]
  clear hb1 hb2
  (repeat (any_goals (first | (with_reducible apply at_seq) | ((with_reducible apply at_regS Θw_ok); (conv => whnf)) | ((refine go ?_); (conv => whnf)) | ((refine go2 (fun xe hxe => ?_)); (conv => whnf)) | ((with_reducible refine cnd_d (fun hq => ?_) (fun hq => ?_)) <;> (conv => whnf)) | ((with_reducible refine cnd_i (fun hq => ?_) (fun hq => ?_)) <;> ((try simp only [decide_eq_true_eq, decide_eq_false_iff_not, Bool.not_eq_true', Bool.not_eq_false', beq_iff_eq, bne_iff_ne, beq_eq_false_iff_ne, bne_eq_false_iff_eq, ne_eq] at hq) <;> (first | omega | (conv => whnf)))) | ((with_reducible first | apply at_cond | apply at_ret | apply at_exit | apply at_skip); (conv => whnf)) | (with_reducible apply at_block) | ((with_reducible refine at_regD Θw_ok mixed (by kernel_rfl) ?_); (conv => whnf)))))
  refine at_fam 1 (.frow 3 (.int .i64) []) rfl ?_
  refine at_loop hK [] [3, 9, 10, 11] (fun i : Nat => ⟨[(3, .ref 4), (9, .lst .ppl ps), (10, .int .i64 ps.length), (11, .int .i64 (i : Int))], [(1, .frow 3 (.int .i64) ((ps.take i).map (·.members))), (4, .row 65 (.pplm 1) (pmI ps i))], 5⟩) (fun i => i ≤ ps.length) (fun i => ps.length - i) 0 (by simp) (by rw [show pmI ps 0 = List.replicate (ps.length : Int).toNat pm0 by simp [pmI, pms]]; rfl) ?_
  intro i hi
  by_cases hlt : i < ps.length
  · have hxe : ps[i]? = some ps[i] := List.getElem?_eq_getElem hlt
    have hsn : ps.take (i + 1) = ps.take i ++ [ps[i]] := List.take_succ_eq_append_getElem hlt
    obtain ⟨v1, v2⟩ := hv _ (List.getElem_mem hlt)
    have hpl := pmI_len ps i hi
    have hst := pmI_set hlt
    have hfl : ((ps.take i).map (·.members)).length = i := by rw [List.length_map, List.length_take]; omega
    generalize ps[i] = p at *
    generalize pmI ps i = s at *
    (repeat (any_goals (first | (with_reducible apply at_seq) | ((with_reducible apply at_regS Θw_ok); (conv => whnf)) | ((refine go ?_); (conv => whnf)) | ((refine go2 (fun xe hxe => ?_)); (conv => whnf)) | ((with_reducible refine cnd_d (fun hq => ?_) (fun hq => ?_)) <;> (conv => whnf)) | ((with_reducible refine cnd_i (fun hq => ?_) (fun hq => ?_)) <;> ((try simp only [decide_eq_true_eq, decide_eq_false_iff_not, Bool.not_eq_true', Bool.not_eq_false', beq_iff_eq, bne_iff_ne, beq_eq_false_iff_ne, bne_eq_false_iff_eq, ne_eq] at hq) <;> (first | omega | (conv => whnf)))) | ((with_reducible first | apply at_cond | apply at_ret | apply at_exit | apply at_skip); (conv => whnf)) | (with_reducible apply at_block) | ((with_reducible refine at_regD Θw_ok mixed (by kernel_rfl) ?_); (conv => whnf)) | ((with_reducible refine call_r ?_); (conv => whnf); (first | ((with_reducible refine call_i (icl_c _ v1) ?_); (conv => whnf)))))))
    refine ⟨i + 1, by omega, by omega, ?_⟩
    rw [← hst, hsn, List.map_append, hfl]
    rfl
  · (repeat (any_goals (first | (with_reducible apply at_seq) | ((with_reducible apply at_regS Θw_ok); (conv => whnf)) | ((refine go ?_); (conv => whnf)) | ((refine go2 (fun xe hxe => ?_)); (conv => whnf)) | ((with_reducible refine cnd_d (fun hq => ?_) (fun hq => ?_)) <;> (conv => whnf)) | ((with_reducible refine cnd_i (fun hq => ?_) (fun hq => ?_)) <;> ((try simp only [decide_eq_true_eq, decide_eq_false_iff_not, Bool.not_eq_true', Bool.not_eq_false', beq_iff_eq, bne_iff_ne, beq_eq_false_iff_ne, bne_eq_false_iff_eq, ne_eq] at hq) <;> (first | omega | (conv => whnf)))) | ((with_reducible first | apply at_cond | apply at_ret | apply at_exit | apply at_skip); (conv => whnf)) | (with_reducible apply at_block) | ((with_reducible refine at_regD Θw_ok mixed (by kernel_rfl) ?_); (conv => whnf)))))
    rw [List.take_of_length_le (by omega), show pmI ps i = pms ps by rw [pmI, List.take_of_length_le (by omega), show ps.length - i = 0 by omega]; simp]
    exact ⟨rfl, rfl⟩
theorem cov_c (tabs : List (List (Option Vtx))) (k : Nat) (tab : List (Option Vtx)) (v : Vtx) (hk : tabs[k]? = some tab) (ht : tab.length = 217) (hr : v.parents ≠ [] → 1 ≤ v.round ∧ v.round ≤ 31) (hp : ∀ p ∈ v.parents, 0 ≤ p ∧ p ≤ 6) : ConV Try.prog 97 [.fptr 0 k 0, vtxA v] [(0, .fvari 120 217 (.ob .vtx) tabs)] (.bool (vcov tab v)) [(0, .fvari 120 217 (.ob .vtx) tabs)] := by
  refine con_eq Θ_ok Try.func97 rfl rfl false 0 4 rfl rfl rfl rfl fun K hK hb1 hb2 => ?_; simp only [argsV, enc, Nat.reduceAdd]
  simp [toDL, V.toD, bnd, encD, D.cells] at hb1
  (repeat (any_goals (first | (with_reducible apply at_seq) | ((with_reducible apply at_regS Θ_ok); (conv => whnf)) | ((refine go ?_); (conv => whnf)) | ((refine go2 (fun xe hxe => ?_)); (conv => whnf)) | ((with_reducible refine cnd_d (fun hq => ?_) (fun hq => ?_)) <;> (conv => whnf)) | ((with_reducible refine cnd_i (fun hq => ?_) (fun hq => ?_)) <;> ((try simp only [decide_eq_true_eq, decide_eq_false_iff_not, Bool.not_eq_true', Bool.not_eq_false', beq_iff_eq, bne_iff_ne, beq_eq_false_iff_ne, bne_eq_false_iff_eq, ne_eq] at hq) <;> (first | omega | (conv => whnf)))) | ((with_reducible first | apply at_cond | apply at_ret | apply at_exit | apply at_skip); (conv => whnf)) | (with_reducible apply at_block) | ((with_reducible refine at_regD Θ_ok mixed (by kernel_rfl) ?_); (conv => whnf)))))
  refine at_loop hK [] [0, 3, 8, 9, 10] (fun i : Nat => ⟨[(0, .fptr 0 k 0), (3, .ptr 4 0), (8, .lst (.int .i64) v.parents), (9, .int .i64 v.parents.length), (10, .int .i64 (i : Int))], [(0, .fvari 120 217 (.ob .vtx) tabs), (4, .var 63 (vtxA v).cells)], 5⟩) (fun i => i ≤ v.parents.length ∧ ∀ p ∈ v.parents.take i, (tab.getD ((v.round - 1) * 7 + p).toNat none).isSome = true) (fun i => v.parents.length - i) 0 (by simp) rfl ?_
  rintro i ⟨hi, hall⟩
  by_cases hlt : i < v.parents.length
  · have hxe : v.parents[i]? = some v.parents[i] := List.getElem?_eq_getElem hlt
    have h3 : v.parents.take (i + 1) = v.parents.take i ++ [v.parents[i]] := List.take_succ_eq_append_getElem hlt
    have h4 : v.parents[i] ∈ v.parents := List.getElem_mem hlt
    have h5 := hr (List.ne_nil_of_mem h4)
    have h6 := hp _ h4
    generalize v.parents[i] = p at *
    have hix : ((v.round - 1) * 7 + p).toNat = (v.round - 1).toNat * 7 + p.toNat := by omega
    (repeat (any_goals (first | (with_reducible apply at_seq) | ((with_reducible apply at_regS Θ_ok); (conv => whnf)) | ((refine go ?_); (conv => whnf)) | ((refine go2 (fun xe hxe => ?_)); (conv => whnf)) | ((with_reducible refine cnd_d (fun hq => ?_) (fun hq => ?_)) <;> (conv => whnf)) | ((with_reducible refine cnd_i (fun hq => ?_) (fun hq => ?_)) <;> ((try simp only [decide_eq_true_eq, decide_eq_false_iff_not, Bool.not_eq_true', Bool.not_eq_false', beq_iff_eq, bne_iff_ne, beq_eq_false_iff_ne, bne_eq_false_iff_eq, ne_eq] at hq) <;> (first | omega | (conv => whnf)))) | ((with_reducible first | apply at_cond | apply at_ret | apply at_exit | apply at_skip); (conv => whnf)) | (with_reducible apply at_block) | ((with_reducible refine at_regD Θ_ok mixed (by kernel_rfl) ?_); (conv => whnf)))))
    · have hxe : tab[(v.round - 1).toNat * 7 + p.toNat]? = some xe := hxe
      have : vcov tab v = false := by
        rw [Bool.eq_false_iff]
        intro h
        have h := List.all_eq_true.1 h p h4
        rw [hix, List.getD_eq_getElem?_getD, hxe, Option.getD_some] at h
        have hq : xe = none := by simpa using hq
        rw [hq] at h
        cases h
      rw [this]
      exact ⟨rfl, rfl⟩
    · have hxe : tab[(v.round - 1).toNat * 7 + p.toNat]? = some xe := hxe
      refine ⟨i + 1, ⟨by omega, ?_⟩, by omega, rfl⟩
      rw [h3]
      refine tk_snoc hall ?_
      rw [hix, List.getD_eq_getElem?_getD, hxe, Option.getD_some]
      have hq : Option.isNone xe = false := hq
      simpa [Option.isNone_iff_eq_none, Option.isSome_iff_ne_none] using hq
  · (repeat (any_goals (first | (with_reducible apply at_seq) | ((with_reducible apply at_regS Θ_ok); (conv => whnf)) | ((refine go ?_); (conv => whnf)) | ((refine go2 (fun xe hxe => ?_)); (conv => whnf)) | ((with_reducible refine cnd_d (fun hq => ?_) (fun hq => ?_)) <;> (conv => whnf)) | ((with_reducible refine cnd_i (fun hq => ?_) (fun hq => ?_)) <;> ((try simp only [decide_eq_true_eq, decide_eq_false_iff_not, Bool.not_eq_true', Bool.not_eq_false', beq_iff_eq, bne_iff_ne, beq_eq_false_iff_ne, bne_eq_false_iff_eq, ne_eq] at hq) <;> (first | omega | (conv => whnf)))) | ((with_reducible first | apply at_cond | apply at_ret | apply at_exit | apply at_skip); (conv => whnf)) | (with_reducible apply at_block) | ((with_reducible refine at_regD Θ_ok mixed (by kernel_rfl) ?_); (conv => whnf)))))
    rw [List.take_of_length_le (by omega)] at hall
    have : vcov tab v = true := List.all_eq_true.2 hall
    rw [this]
    exact ⟨rfl, rfl⟩
end Go.Proofs.Ytfamejohdhkffaa.Am
namespace Go.Proofs.Ytfamejohdhkffaa.Am
set_option linter.unusedSimpArgs false
set_option linter.unusedVariables false
open Go
attribute [local irreducible] Mk Need Ari Get Idx Cnd CallM CallA Opt Unch At ConV
set_option maxRecDepth 10000
/-- a run's blocks -/
abbrev rB (c l : List Int) (b : Int) (tabs : List (List (Option Vtx))) (ps : List Ppl) : VH := [(0, .fvari 120 217 (.ob .vtx) tabs), (1, .frow 3 (.int .i64) (ps.map (·.members))), (4, .var 93 [.int .i32 0, .int .u32 0, .lst (.int .i64) c, .lst (.int .i64) l, .int .i64 b, .ref 5, .ref 6]), (5, .row 94 (.hp 0) ((List.range tabs.length).map some)), (6, .row 65 (.pplm 1) (pms ps))]
theorem pms_at {ps : List Ppl} {i : Nat} {p : Ppl} (h : ps[i]? = some p) : (pms ps)[i]? = some ⟨p.v, some i⟩ := by
  simp [pms, List.getElem?_map, List.getElem?_zipIdx, h]
theorem cov_h (tabs : List (List (Option Vtx))) (k : Nat) (tab : List (Option Vtx)) (v : Vtx) (hk : tabs[k]? = some tab) (ht : tab.length = 217) (hr : v.parents ≠ [] → 1 ≤ v.round ∧ v.round ≤ 31) (hp : ∀ p ∈ v.parents, 0 ≤ p ∧ p ≤ 6) : ConV Try.prog 97 [.hpo 0 (some k), vtxA v] [(0, .fvari 120 217 (.ob .vtx) tabs)] (.bool (vcov tab v)) [(0, .fvari 120 217 (.ob .vtx) tabs)] := by
  have h := cov_c tabs k tab v hk ht hr hp
  unfold ConV at h ⊢
  exact h
set_option maxHeartbeats 1000000 in
theorem ikp_c (c l : List Int) (b : Int) (tabs : List (List (Option Vtx))) (ps : List Ppl) (ht : ∀ t ∈ tabs, t.length = 217) (htl : tabs.length ≤ 7) (hpn : ps.length ≤ 1000000) (hp : ∀ p ∈ ps, pOK tabs.length p) : ConV Try.prog 63 [.ptr 4 0] (rB c l b tabs ps) (.bool (kpIs b tabs ps)) (rB c l b tabs ps) := by
  refine con_eq Θw_ok Try.func63 rfl rfl false 3 7 rfl rfl rfl rfl fun K hK hb1 hb2 => ?_; simp only [argsV, enc, Nat.reduceAdd]
  clear hb1 hb2
  have hpl := pms_len ps
  (repeat (any_goals (first | (with_reducible apply at_seq) | ((with_reducible apply at_regS Θw_ok); (conv => whnf)) | ((refine go ?_); (conv => whnf)) | ((refine go2 (fun xe hxe => ?_)); (conv => whnf)) | ((with_reducible refine cnd_d (fun hq => ?_) (fun hq => ?_)) <;> (conv => whnf)) | ((with_reducible refine cnd_i (fun hq => ?_) (fun hq => ?_)) <;> ((try simp only [decide_eq_true_eq, decide_eq_false_iff_not, Bool.not_eq_true', Bool.not_eq_false', beq_iff_eq, bne_iff_ne, beq_eq_false_iff_ne, bne_eq_false_iff_eq, ne_eq] at hq) <;> (first | omega | (conv => whnf)))) | ((with_reducible first | apply at_cond | apply at_ret | apply at_exit | apply at_skip); (conv => whnf)) | (with_reducible apply at_block) | ((with_reducible refine at_regD Θw_ok mixed (by kernel_rfl) ?_); (conv => whnf)))))
  refine at_loop hK [] [0, 10, 11, 12] (fun i : Nat => ⟨[(0, .ptr 4 0), (10, .ref 6), (11, .int .i64 ps.length), (12, .int .i64 (i : Int))], rB c l b tabs ps, 7⟩) (fun i => i ≤ ps.length ∧ ∀ p ∈ ps.take i, kpI b tabs p.v (p.v.author :: p.members) = true) (fun i => ps.length - i) 0 (by simp) (by simp only [hpl]; rfl) ?_
  rintro i ⟨hi, hall⟩
  by_cases hlt : i < ps.length
  · have hxe : ps[i]? = some ps[i] := List.getElem?_eq_getElem hlt
    have hsn : ps.take (i + 1) = ps.take i ++ [ps[i]] := List.take_succ_eq_append_getElem hlt
    have hpm : ps[i] ∈ ps := List.getElem_mem hlt
    have hno : kpI b tabs ps[i].v (ps[i].v.author :: ps[i].members) = false → kpIs b tabs ps = false := fun h => by
      rw [Bool.eq_false_iff]
      intro h2
      rw [List.all_eq_true.1 h2 _ hpm] at h
      cases h
    obtain ⟨p1, p2, p3, p4, p5⟩ := hp _ hpm
    have hx1 := pms_at hxe
    have hx2 : (ps.map (·.members))[i]? = some ps[i].members := by rw [List.getElem?_map, hxe]; rfl
    have hfl : (ps.map (·.members)).length = ps.length := List.length_map ..
    generalize ps[i] = p at *
    (repeat (any_goals (first | (with_reducible apply at_seq) | ((with_reducible apply at_regS Θw_ok); (conv => whnf)) | ((refine go ?_); (conv => whnf)) | ((refine go2 (fun xe hxe => ?_)); (conv => whnf)) | ((with_reducible refine cnd_d (fun hq => ?_) (fun hq => ?_)) <;> (conv => whnf)) | ((with_reducible refine cnd_i (fun hq => ?_) (fun hq => ?_)) <;> ((try simp only [decide_eq_true_eq, decide_eq_false_iff_not, Bool.not_eq_true', Bool.not_eq_false', beq_iff_eq, bne_iff_ne, beq_eq_false_iff_ne, bne_eq_false_iff_eq, ne_eq] at hq) <;> (first | omega | (conv => whnf)))) | ((with_reducible first | apply at_cond | apply at_ret | apply at_exit | apply at_skip); (conv => whnf)) | (with_reducible apply at_block) | ((with_reducible refine at_regD Θw_ok mixed (by kernel_rfl) ?_); (conv => whnf)))))
    refine at_loop hK [] [0, 4, 10, 11, 12, 22, 23, 24] (fun j : Nat => ⟨[(0, .ptr 4 0), (4, .ptr 7 0), (10, .ref 6), (11, .int .i64 ps.length), (12, .int .i64 (i : Int)), (22, .ref 8), (23, .int .i64 ((p.v.author :: p.members).length : Nat)), (24, .int .i64 (j : Int))], rB c l b tabs ps ++ [(7, VB.var 65 [.int .i64 p.v.round, .int .i64 p.v.author, .lst (.int .i64) p.v.parents, .int .i64 p.v.digest, .hro 1 (some i)]), (8, VB.row 3 (.int .i64) (p.v.author :: p.members))], 9⟩) (fun j => j ≤ (p.v.author :: p.members).length ∧ ∀ m ∈ (p.v.author :: p.members).take j, (m == b || vcov (tabs.getD m.toNat []) p.v) = true) (fun j => (p.v.author :: p.members).length - j) 0 (by simp) (by (conv => whnf); rfl) ?_
    rintro j ⟨hj, hjall⟩
    have hnl : (p.v.author :: p.members).length ≤ 1000001 := by simp only [List.length_cons]; omega
    have hkk : (∀ m ∈ p.v.author :: p.members, (m == b || vcov (tabs.getD m.toNat []) p.v) = true) → kpI b tabs p.v (p.v.author :: p.members) = true := fun h => List.all_eq_true.2 h
    have hkn : ∀ m ∈ p.v.author :: p.members, (m == b || vcov (tabs.getD m.toNat []) p.v) = false → kpI b tabs p.v (p.v.author :: p.members) = false := fun m hm h => by
      rw [Bool.eq_false_iff]
      intro h2
      rw [List.all_eq_true.1 h2 _ hm] at h
      cases h
    generalize hms : p.v.author :: p.members = ms at *
    by_cases hjl : j < ms.length
    · have hye : ms[j]? = some ms[j] := List.getElem?_eq_getElem hjl
      have hjs : ms.take (j + 1) = ms.take j ++ [ms[j]] := List.take_succ_eq_append_getElem hjl
      have hjm : ms[j] ∈ ms := List.getElem_mem hjl
      have hxr := p1 _ hjm
      have hkn := hkn _ hjm
      generalize ms[j] = m at *
      have hxt : tabs[m.toNat]? = some (tabs.getD m.toNat []) := by
        rw [List.getD_eq_getElem?_getD, List.getElem?_eq_getElem (show m.toNat < tabs.length by omega)]; rfl
      have hxv : ((List.range tabs.length).map some)[m.toNat]? = some (some m.toNat) := by
        rw [List.getElem?_map, List.getElem?_range (show m.toNat < tabs.length by omega)]; rfl
      have hvl : ((List.range tabs.length).map some).length = tabs.length := by simp
      have hC := cov_h tabs m.toNat _ p.v hxt (ht _ (List.mem_of_getElem? hxt)) p2 p3
      by_cases hmb : m = b
      · subst hmb
        (repeat (any_goals (first | (with_reducible apply at_seq) | ((with_reducible apply at_regS Θw_ok); (conv => whnf)) | ((refine go ?_); (conv => whnf)) | ((refine go2 (fun xe hxe => ?_)); (conv => whnf)) | ((with_reducible refine cnd_d (fun hq => ?_) (fun hq => ?_)) <;> (conv => whnf)) | ((with_reducible refine cnd_i (fun hq => ?_) (fun hq => ?_)) <;> ((try simp only [decide_eq_true_eq, decide_eq_false_iff_not, Bool.not_eq_true', Bool.not_eq_false', beq_iff_eq, bne_iff_ne, beq_eq_false_iff_ne, bne_eq_false_iff_eq, ne_eq] at hq) <;> (first | omega | (conv => whnf)))) | ((with_reducible first | apply at_cond | apply at_ret | apply at_exit | apply at_skip); (conv => whnf)) | (with_reducible apply at_block) | ((with_reducible refine at_regD Θw_ok mixed (by kernel_rfl) ?_); (conv => whnf)))))
        · exact absurd trivial hq
        · refine ⟨j + 1, ⟨by omega, by rw [hjs]; exact tk_snoc hjall (by simp)⟩, by omega, rfl⟩
      · cases h1 : vcov (tabs.getD m.toNat []) p.v
        · rw [h1] at hC
          (repeat (any_goals (first | (with_reducible apply at_seq) | ((with_reducible apply at_regS Θw_ok); (conv => whnf)) | ((refine go ?_); (conv => whnf)) | ((refine go2 (fun xe hxe => ?_)); (conv => whnf)) | ((with_reducible refine cnd_d (fun hq => ?_) (fun hq => ?_)) <;> (conv => whnf)) | ((with_reducible refine cnd_i (fun hq => ?_) (fun hq => ?_)) <;> ((try simp only [decide_eq_true_eq, decide_eq_false_iff_not, Bool.not_eq_true', Bool.not_eq_false', beq_iff_eq, bne_iff_ne, beq_eq_false_iff_ne, bne_eq_false_iff_eq, ne_eq] at hq) <;> (first | omega | (conv => whnf)))) | ((with_reducible first | apply at_cond | apply at_ret | apply at_exit | apply at_skip); (conv => whnf)) | (with_reducible apply at_block) | ((with_reducible refine at_regD Θw_ok mixed (by kernel_rfl) ?_); (conv => whnf)) | ((with_reducible refine call_o ?_); (conv => whnf); (first | ((with_reducible refine call_i (hC) ?_); (conv => whnf)))))))
          exact ⟨by rw [hno (hkn (by rw [h1, Bool.or_false]; simpa using hmb))], rfl⟩
        · rw [h1] at hC
          (repeat (any_goals (first | (with_reducible apply at_seq) | ((with_reducible apply at_regS Θw_ok); (conv => whnf)) | ((refine go ?_); (conv => whnf)) | ((refine go2 (fun xe hxe => ?_)); (conv => whnf)) | ((with_reducible refine cnd_d (fun hq => ?_) (fun hq => ?_)) <;> (conv => whnf)) | ((with_reducible refine cnd_i (fun hq => ?_) (fun hq => ?_)) <;> ((try simp only [decide_eq_true_eq, decide_eq_false_iff_not, Bool.not_eq_true', Bool.not_eq_false', beq_iff_eq, bne_iff_ne, beq_eq_false_iff_ne, bne_eq_false_iff_eq, ne_eq] at hq) <;> (first | omega | (conv => whnf)))) | ((with_reducible first | apply at_cond | apply at_ret | apply at_exit | apply at_skip); (conv => whnf)) | (with_reducible apply at_block) | ((with_reducible refine at_regD Θw_ok mixed (by kernel_rfl) ?_); (conv => whnf)) | ((with_reducible refine call_o ?_); (conv => whnf); (first | ((with_reducible refine call_i (hC) ?_); (conv => whnf)))))))
          exact ⟨j + 1, ⟨by omega, by rw [hjs]; exact tk_snoc hjall (by rw [h1, Bool.or_true])⟩, by omega, rfl⟩
    · (repeat (any_goals (first | (with_reducible apply at_seq) | ((with_reducible apply at_regS Θw_ok); (conv => whnf)) | ((refine go ?_); (conv => whnf)) | ((refine go2 (fun xe hxe => ?_)); (conv => whnf)) | ((with_reducible refine cnd_d (fun hq => ?_) (fun hq => ?_)) <;> (conv => whnf)) | ((with_reducible refine cnd_i (fun hq => ?_) (fun hq => ?_)) <;> ((try simp only [decide_eq_true_eq, decide_eq_false_iff_not, Bool.not_eq_true', Bool.not_eq_false', beq_iff_eq, bne_iff_ne, beq_eq_false_iff_ne, bne_eq_false_iff_eq, ne_eq] at hq) <;> (first | omega | (conv => whnf)))) | ((with_reducible first | apply at_cond | apply at_ret | apply at_exit | apply at_skip); (conv => whnf)) | (with_reducible apply at_block) | ((with_reducible refine at_regD Θw_ok mixed (by kernel_rfl) ?_); (conv => whnf)))))
      rw [List.take_of_length_le (by omega)] at hjall
      exact ⟨i + 1, ⟨by omega, by rw [hsn]; exact tk_snoc hall (by rw [hms]; exact hkk hjall)⟩, by omega, rfl⟩
  · (repeat (any_goals (first | (with_reducible apply at_seq) | ((with_reducible apply at_regS Θw_ok); (conv => whnf)) | ((refine go ?_); (conv => whnf)) | ((refine go2 (fun xe hxe => ?_)); (conv => whnf)) | ((with_reducible refine cnd_d (fun hq => ?_) (fun hq => ?_)) <;> (conv => whnf)) | ((with_reducible refine cnd_i (fun hq => ?_) (fun hq => ?_)) <;> ((try simp only [decide_eq_true_eq, decide_eq_false_iff_not, Bool.not_eq_true', Bool.not_eq_false', beq_iff_eq, bne_iff_ne, beq_eq_false_iff_ne, bne_eq_false_iff_eq, ne_eq] at hq) <;> (first | omega | (conv => whnf)))) | ((with_reducible first | apply at_cond | apply at_ret | apply at_exit | apply at_skip); (conv => whnf)) | (with_reducible apply at_block) | ((with_reducible refine at_regD Θw_ok mixed (by kernel_rfl) ?_); (conv => whnf)))))
    rw [List.take_of_length_le (by omega)] at hall
    have : kpIs b tabs ps = true := List.all_eq_true.2 hall
    rw [this]
    exact ⟨rfl, rfl⟩
end Go.Proofs.Ytfamejohdhkffaa.Am
namespace Go.Proofs.Ytfamejohdhkffaa.Am
set_option linter.unusedSimpArgs false
set_option linter.unusedVariables false
open Go Go.Shelf Go.RowKit
attribute [local irreducible] Mk Need Ari Get Idx Cnd CallM CallA Opt Unch At ConV
set_option maxRecDepth 10000
/-- a function that is handed no blocks and leaves all as it was below -/
theorem con_below {P : Program} {f : FuncId} {ds : List D} {r : D} (hf : ∃ fn, P.funcs[f]? = some fn ∧ fn.body.isNone = false ∧ (fn.name == "runtime.NumGoroutine") = false)
    (h : ∀ (w : World) (ok : Nat → Prop) (ρ : Id → Pl) (vs : Array Value), ds.length = vs.size → (∀ i, i < ds.length → C ρ (fun _ => False) ok w (ds.getD i .undef) (vs.getD i undef)) →
      Calls P f vs w fun e w' => ∃ u, e = .returned u ∧ Below w.heap.size w w' ∧ ∀ ok', Rep ok' w' r u) : Con P f ds [] r [] := by
  refine ⟨hf, fun w A ρ vs hs hl hc => ?_⟩
  have hno : ∀ b, ¬ Live [] b := fun b h => by cases h
  have hc' : ∀ i, i < ds.length → C ρ (fun _ => False) (okOf A ρ [] w) w (ds.getD i .undef) (vs.getD i undef) := fun i hi => (hc i hi).mono (fun b hb => absurd hb (hno b)) (fun b hb => ⟨hb, rfl⟩)
  refine Calls.mono (h w (okOf A ρ [] w) ρ vs hl hc') ?_
  rintro e w' ⟨u, rfl, hb, hr⟩
  refine ⟨u, ρ, rfl, fun b hb => absurd hb (hno b), ⟨hs.base, hs.inS, ⟨hb.os, hb.tape, hb.output, hb.size, fun i hi _ => hb.block i hi⟩, rfl, rfl, ?_, ?_, ?_, ?_⟩, .pure (hr _)⟩
  · intro k d h; cases h
  · intro k d h; cases h
  · intro k d h; cases h
  · intro b b' x x' h; cases h
theorem fits_ap {nb : Nat} {α β : Type} {xs : List α} {ys : List β} (h1 : xs.length ≤ 1000000) (h2 : ys.length ≤ 1000000) (hb : nb ≤ 100) : fits nb (xs.length + ys.length) := by
  have : (xs.length + ys.length) * nb ≤ 2000000 * 100 := Nat.mul_le_mul (by omega) hb
  unfold fits
  omega
def lays15_ren : Go.Shelf.Ren := ⟨fun | 15 => 60 | n => n, fun | 22 => 23 | 3 => 3 | 4 => 4 | n => n, fun | n => n⟩
theorem lays15 : Go.Proofs.Lays2.n15 Try.prog lays15_ren where
  mixed := by kernel_rfl
  f15 := Try.func60.trans (congrArg some (by kernel_rfl))
  t3 := Try.underlying3
  a3 := Try.isAgg3
  z3 := Try.sizeOf3
  v3 := Try.zeroValue3
  t4 := Try.underlying4
  a4 := Try.isAgg4
  z4 := Try.sizeOf4
  v4 := Try.zeroValue4
  t22 := Try.underlying23
  a22 := Try.isAgg23
  z22 := Try.sizeOf23
  v22 := Try.zeroValue23
  i3 := by kernel_rfl
theorem icln0_c (t : Ty) : ConV Try.prog 60 [.lst t []] [] (.lst t []) [] := by
  unfold ConV
  refine con_below ⟨_, Try.func60, rfl, rfl⟩ fun w ok ρ vs hl hc => ?_
  obtain ⟨v, rfl⟩ : ∃ v, vs = #[v] := by
    have : vs.size = 1 := hl.symm
    exact ⟨vs[0], Array.ext (by simp [this]) fun i h1 h2 => by
      have : i = 0 := by simpa using h2
      subst this; rfl⟩
  have h0 : C ρ (fun _ => False) ok w (.lst []) v := hc 0 (Nat.one_pos)
  have h1 := h0.lst_inv
  have fin : ∀ (w' : World) (a : Option Addr) (cap : Nat), (a = none → cap = 0) → cap ≤ maxLen → ∀ ok', Rep ok' w' ((V.lst t []).toD) (.slice a 0 cap) := fun w' a cap h1 h2 ok' => .none a cap h1 h2
  obtain ⟨a, cap, rfl, ha⟩ : ∃ a cap, v = .slice a 0 cap ∧ (a = none → cap = 0) := by
    cases h1 with
    | none a cap ha hcap => exact ⟨a, cap, rfl, ha⟩
    | lst l n b off cap f hn => exact ⟨_, cap, by rw [← hn]; rfl, fun h => by cases h⟩
  cases a with
  | none =>
    refine Calls.mono (Any.slices_Clone_int_nil lays15 0 cap w) ?_
    rintro e w' ⟨rfl, rfl⟩
    exact ⟨_, rfl, Below.refl _ _, fin _ _ _ (fun _ => rfl) (Nat.zero_le _)⟩
  | some a =>
    refine Calls.mono (Any.slices_Clone_int_zero lays15 a cap w) ?_
    rintro e w' ⟨v', rfl, ho, _, hb⟩
    refine ⟨v', rfl, hb, ?_⟩
    rcases ho.2 with ⟨rfl, _⟩ | ⟨g, cap', cur, rfl, _, _, _, h3, _⟩
    · exact fin _ _ _ (fun _ => rfl) (Nat.zero_le _)
    · exact fin _ _ _ (fun h => by cases h) h3
theorem icln_c (l : List Int) (hb : l.length ≤ 1000000) : ConV Try.prog 60 [.lst (.int .i64) l] [] (.lst (.int .i64) l) [] := by
  cases l with
  | nil => exact icln0_c _
  | cons x l =>
    refine con_eq Θ_ok Try.func60 rfl rfl true 0 4 rfl rfl rfl rfl fun K hK hb1 hb2 => ?_; simp only [argsV, enc, Nat.reduceAdd]
    (repeat (any_goals (first | (with_reducible apply at_seq) | ((with_reducible apply at_regS Θ_ok); (conv => whnf)) | ((refine go ?_); (conv => whnf)) | ((refine go2 (fun xe hxe => ?_)); (conv => whnf)) | ((with_reducible refine cnd_d (fun hq => ?_) (fun hq => ?_)) <;> (conv => whnf)) | ((with_reducible refine cnd_i (fun hq => ?_) (fun hq => ?_)) <;> ((try simp only [decide_eq_true_eq, decide_eq_false_iff_not, Bool.not_eq_true', Bool.not_eq_false', beq_iff_eq, bne_iff_ne, beq_eq_false_iff_ne, bne_eq_false_iff_eq, ne_eq] at hq) <;> (first | omega | (conv => whnf)))) | ((with_reducible first | apply at_cond | apply at_ret | apply at_exit | apply at_skip); (conv => whnf)) | (with_reducible apply at_block) | ((with_reducible refine at_regD Θ_ok mixed (by kernel_rfl) ?_); (conv => whnf)))))
    refine need_i (fits_ap (Nat.zero_le _) hb (by decide)) ?_
    (repeat (any_goals (first | (with_reducible apply at_seq) | ((with_reducible apply at_regS Θ_ok); (conv => whnf)) | ((refine go ?_); (conv => whnf)) | ((refine go2 (fun xe hxe => ?_)); (conv => whnf)) | ((with_reducible refine cnd_d (fun hq => ?_) (fun hq => ?_)) <;> (conv => whnf)) | ((with_reducible refine cnd_i (fun hq => ?_) (fun hq => ?_)) <;> ((try simp only [decide_eq_true_eq, decide_eq_false_iff_not, Bool.not_eq_true', Bool.not_eq_false', beq_iff_eq, bne_iff_ne, beq_eq_false_iff_ne, bne_eq_false_iff_eq, ne_eq] at hq) <;> (first | omega | (conv => whnf)))) | ((with_reducible first | apply at_cond | apply at_ret | apply at_exit | apply at_skip); (conv => whnf)) | (with_reducible apply at_block) | ((with_reducible refine at_regD Θ_ok mixed (by kernel_rfl) ?_); (conv => whnf)))))
    refine at_ret ?_
    (conv => whnf)
    exact ⟨rfl, rfl⟩
theorem iclc_c (l : List Int) (hl : l ≠ []) (hb : l.length ≤ 1000000) : ConV Try.prog 64 [.lst (.int .i64) l] [] (.lst (.int .i64) l) [] := by
  cases l with
  | nil => exact absurd rfl hl
  | cons x l =>
    refine con_eq Θ_ok Try.func64 rfl rfl true 0 4 rfl rfl rfl rfl fun K hK hb1 hb2 => ?_; simp only [argsV, enc, Nat.reduceAdd]
    (repeat (any_goals (first | (with_reducible apply at_seq) | ((with_reducible apply at_regS Θ_ok); (conv => whnf)) | ((refine go ?_); (conv => whnf)) | ((refine go2 (fun xe hxe => ?_)); (conv => whnf)) | ((with_reducible refine cnd_d (fun hq => ?_) (fun hq => ?_)) <;> (conv => whnf)) | ((with_reducible refine cnd_i (fun hq => ?_) (fun hq => ?_)) <;> ((try simp only [decide_eq_true_eq, decide_eq_false_iff_not, Bool.not_eq_true', Bool.not_eq_false', beq_iff_eq, bne_iff_ne, beq_eq_false_iff_ne, bne_eq_false_iff_eq, ne_eq] at hq) <;> (first | omega | (conv => whnf)))) | ((with_reducible first | apply at_cond | apply at_ret | apply at_exit | apply at_skip); (conv => whnf)) | (with_reducible apply at_block) | ((with_reducible refine at_regD Θ_ok mixed (by kernel_rfl) ?_); (conv => whnf)))))
    refine need_i (fits_ap (Nat.zero_le _) hb (by decide)) ?_
    (repeat (any_goals (first | (with_reducible apply at_seq) | ((with_reducible apply at_regS Θ_ok); (conv => whnf)) | ((refine go ?_); (conv => whnf)) | ((refine go2 (fun xe hxe => ?_)); (conv => whnf)) | ((with_reducible refine cnd_d (fun hq => ?_) (fun hq => ?_)) <;> (conv => whnf)) | ((with_reducible refine cnd_i (fun hq => ?_) (fun hq => ?_)) <;> ((try simp only [decide_eq_true_eq, decide_eq_false_iff_not, Bool.not_eq_true', Bool.not_eq_false', beq_iff_eq, bne_iff_ne, beq_eq_false_iff_ne, bne_eq_false_iff_eq, ne_eq] at hq) <;> (first | omega | (conv => whnf)))) | ((with_reducible first | apply at_cond | apply at_ret | apply at_exit | apply at_skip); (conv => whnf)) | (with_reducible apply at_block) | ((with_reducible refine at_regD Θ_ok mixed (by kernel_rfl) ?_); (conv => whnf)))))
    refine at_ret ?_
    (conv => whnf)
    exact ⟨rfl, rfl⟩
end Go.Proofs.Ytfamejohdhkffaa.Am
namespace Go.Proofs.Ytfamejohdhkffaa.Am
set_option linter.unusedSimpArgs false
set_option linter.unusedVariables false
open Go
attribute [local irreducible] Mk Need Ari Get Idx Cnd CallM CallA Opt Unch At ConV
set_option maxRecDepth 10000
def opR (w : Wrl) : V := if preS w then .tup [.ptr 4 0, .bool (kpIs w.bad (w.views.map tabV) w.props)] else .tup [.nilp, .bool false]
def opO (w : Wrl) : VH := if preS w then rB w.com w.lead w.bad (w.views.map tabV) w.props else []
def opS (w : Wrl) : Nat → VSt
  | 0 => ⟨[(1, .ptr 4 0), (4, .ptr 5 0), (42, .lst (.lst .vtx) w.views), (43, .int .i64 w.views.length), (44, .int .i64 0)], [(0, .fvari 120 217 (.ob .vtx) []), (4, .var 29 (wrlA w).cells), (5, .var 93 [.int .i32 0, .int .u32 0, .lst (.int .i64) w.com, .lst (.int .i64) w.lead, .int .i64 w.bad, .nils, .nils])], 6⟩
  | i + 1 => ⟨[(1, .ptr 4 0), (4, .ptr 5 0), (42, .lst (.lst .vtx) w.views), (43, .int .i64 w.views.length), (44, .int .i64 ((i + 1 : Nat) : Int))], [(0, .fvari 120 217 (.ob .vtx) ((w.views.take (i + 1)).map tabV)), (4, .var 29 (wrlA w).cells), (5, .var 93 [.int .i32 0, .int .u32 0, .lst (.int .i64) w.com, .lst (.int .i64) w.lead, .int .i64 w.bad, .ref 6, .nils]), (6, .row 94 (.hp 0) ((List.range (i + 1)).map some))], 7⟩
set_option maxHeartbeats 1000000 in
theorem iop_c (w : Wrl) (hl : ∀ g ∈ w.views, g.length ≤ 2000000) : ConV Try.prog 29 [wrlA w] [] (opR w) (opO w) := by
  have hno : preS w = false → V.tup [.nilp, .bool false] = opR w ∧ ([] : VH) = opO w := fun h => by simp [opR, opO, h]
  refine con_eq Θw_ok Try.func29 rfl rfl false 0 4 rfl rfl rfl rfl fun K hK hb1 hb2 => ?_; simp only [argsV, enc, Nat.reduceAdd]
  clear hb1 hb2
  have hL := ileaV_c w.com w.lead
  cases h1 : comV w.com && leaS w.com w.lead
  · rw [h1] at hL
    (repeat (any_goals (first | (with_reducible apply at_seq) | ((with_reducible apply at_regS Θw_ok); (conv => whnf)) | ((refine go ?_); (conv => whnf)) | ((refine go2 (fun xe hxe => ?_)); (conv => whnf)) | ((with_reducible refine cnd_d (fun hq => ?_) (fun hq => ?_)) <;> (conv => whnf)) | ((with_reducible refine cnd_i (fun hq => ?_) (fun hq => ?_)) <;> ((try simp only [decide_eq_true_eq, decide_eq_false_iff_not, Bool.not_eq_true', Bool.not_eq_false', beq_iff_eq, bne_iff_ne, beq_eq_false_iff_ne, bne_eq_false_iff_eq, ne_eq] at hq) <;> (first | omega | (conv => whnf)))) | ((with_reducible first | apply at_cond | apply at_ret | apply at_exit | apply at_skip); (conv => whnf)) | (with_reducible apply at_block) | ((with_reducible refine at_regD Θw_ok mixed (by kernel_rfl) ?_); (conv => whnf)) | ((with_reducible refine call_r ?_); (conv => whnf); (first | ((with_reducible refine call_i (hL) ?_); (conv => whnf)))))))
    exact hno (by
      rw [Bool.and_eq_false_iff] at h1
      rcases h1 with h1 | h1 <;> simp [preS, newS, h1])
  rw [h1] at hL
  have hc : comV w.com = true := (Bool.and_eq_true_iff.1 h1).1
  have hle : leaS w.com w.lead = true := (Bool.and_eq_true_iff.1 h1).2
  have hB := isBad_c w.com w.bad hc
  cases h2 : badS w.com w.bad
  · rw [h2] at hB
    (repeat (any_goals (first | (with_reducible apply at_seq) | ((with_reducible apply at_regS Θw_ok); (conv => whnf)) | ((refine go ?_); (conv => whnf)) | ((refine go2 (fun xe hxe => ?_)); (conv => whnf)) | ((with_reducible refine cnd_d (fun hq => ?_) (fun hq => ?_)) <;> (conv => whnf)) | ((with_reducible refine cnd_i (fun hq => ?_) (fun hq => ?_)) <;> ((try simp only [decide_eq_true_eq, decide_eq_false_iff_not, Bool.not_eq_true', Bool.not_eq_false', beq_iff_eq, bne_iff_ne, beq_eq_false_iff_ne, bne_eq_false_iff_eq, ne_eq] at hq) <;> (first | omega | (conv => whnf)))) | ((with_reducible first | apply at_cond | apply at_ret | apply at_exit | apply at_skip); (conv => whnf)) | (with_reducible apply at_block) | ((with_reducible refine at_regD Θw_ok mixed (by kernel_rfl) ?_); (conv => whnf)) | ((with_reducible refine call_r ?_); (conv => whnf); (first | ((with_reducible refine call_i (hL) ?_); (conv => whnf)) | ((with_reducible refine call_i (hB) ?_); (conv => whnf)))))))
    exact hno (by simp [preS, newS, h2])
  rw [h2] at hB
  have hP := iproV_c w hc
  cases h3 : proS w.com w.bad w.props
  · rw [h3] at hP
    (repeat (any_goals (first | (with_reducible apply at_seq) | ((with_reducible apply at_regS Θw_ok); (conv => whnf)) | ((refine go ?_); (conv => whnf)) | ((refine go2 (fun xe hxe => ?_)); (conv => whnf)) | ((with_reducible refine cnd_d (fun hq => ?_) (fun hq => ?_)) <;> (conv => whnf)) | ((with_reducible refine cnd_i (fun hq => ?_) (fun hq => ?_)) <;> ((try simp only [decide_eq_true_eq, decide_eq_false_iff_not, Bool.not_eq_true', Bool.not_eq_false', beq_iff_eq, bne_iff_ne, beq_eq_false_iff_ne, bne_eq_false_iff_eq, ne_eq] at hq) <;> (first | omega | (conv => whnf)))) | ((with_reducible first | apply at_cond | apply at_ret | apply at_exit | apply at_skip); (conv => whnf)) | (with_reducible apply at_block) | ((with_reducible refine at_regD Θw_ok mixed (by kernel_rfl) ?_); (conv => whnf)) | ((with_reducible refine call_r ?_); (conv => whnf); (first | ((with_reducible refine call_i (hL) ?_); (conv => whnf)) | ((with_reducible refine call_i (hB) ?_); (conv => whnf)) | ((with_reducible refine call_i (hP) ?_); (conv => whnf)))))))
    exact hno (by simp [preS, newS, h3])
  rw [h3] at hP
  have hV := iviwV_c w hc h3 hl
  cases h4 : (w.views.length == w.com.length) && viwsS w.com w.bad w.props w.views
  · rw [h4] at hV
    (repeat (any_goals (first | (with_reducible apply at_seq) | ((with_reducible apply at_regS Θw_ok); (conv => whnf)) | ((refine go ?_); (conv => whnf)) | ((refine go2 (fun xe hxe => ?_)); (conv => whnf)) | ((with_reducible refine cnd_d (fun hq => ?_) (fun hq => ?_)) <;> (conv => whnf)) | ((with_reducible refine cnd_i (fun hq => ?_) (fun hq => ?_)) <;> ((try simp only [decide_eq_true_eq, decide_eq_false_iff_not, Bool.not_eq_true', Bool.not_eq_false', beq_iff_eq, bne_iff_ne, beq_eq_false_iff_ne, bne_eq_false_iff_eq, ne_eq] at hq) <;> (first | omega | (conv => whnf)))) | ((with_reducible first | apply at_cond | apply at_ret | apply at_exit | apply at_skip); (conv => whnf)) | (with_reducible apply at_block) | ((with_reducible refine at_regD Θw_ok mixed (by kernel_rfl) ?_); (conv => whnf)) | ((with_reducible refine call_r ?_); (conv => whnf); (first | ((with_reducible refine call_i (hL) ?_); (conv => whnf)) | ((with_reducible refine call_i (hB) ?_); (conv => whnf)) | ((with_reducible refine call_i (hP) ?_); (conv => whnf)) | ((with_reducible refine call_i (hV) ?_); (conv => whnf)))))))
    exact hno (by simp only [preS, h4]; simp)
  rw [h4] at hV
  have hpre : preS w = true := by simp [preS, newS, hc, hle, h2, h3]; simpa using h4
  have hR : opR w = .tup [.ptr 4 0, .bool (kpIs w.bad (w.views.map tabV) w.props)] := by simp [opR, hpre]
  have hO : opO w = rB w.com w.lead w.bad (w.views.map tabV) w.props := by simp [opO, hpre]
  rw [hR, hO]
  have h7 := (comV_iff.1 hc).2
  have hll := (leaS_iff.1 hle).2
  have hvl : w.views.length = w.com.length := (pre_ok hpre).2.2.2.2.1
  have hne : w.com ≠ [] := fun h => by rw [h] at h7; simp at h7
  have hCm := icln_c w.com (by omega)
  have hCl := icln_c w.lead (by omega)
  (repeat (any_goals (first | (with_reducible apply at_seq) | ((with_reducible apply at_regS Θw_ok); (conv => whnf)) | ((refine go ?_); (conv => whnf)) | ((refine go2 (fun xe hxe => ?_)); (conv => whnf)) | ((with_reducible refine cnd_d (fun hq => ?_) (fun hq => ?_)) <;> (conv => whnf)) | ((with_reducible refine cnd_i (fun hq => ?_) (fun hq => ?_)) <;> ((try simp only [decide_eq_true_eq, decide_eq_false_iff_not, Bool.not_eq_true', Bool.not_eq_false', beq_iff_eq, bne_iff_ne, beq_eq_false_iff_ne, bne_eq_false_iff_eq, ne_eq] at hq) <;> (first | omega | (conv => whnf)))) | ((with_reducible first | apply at_cond | apply at_ret | apply at_exit | apply at_skip); (conv => whnf)) | (with_reducible apply at_block) | ((with_reducible refine at_regD Θw_ok mixed (by kernel_rfl) ?_); (conv => whnf)) | ((with_reducible refine call_r ?_); (conv => whnf); (first | ((with_reducible refine call_i (hL) ?_); (conv => whnf)) | ((with_reducible refine call_i (hB) ?_); (conv => whnf)) | ((with_reducible refine call_i (hP) ?_); (conv => whnf)) | ((with_reducible refine call_i (hV) ?_); (conv => whnf)) | ((with_reducible refine call_i (hCm) ?_); (conv => whnf)) | ((with_reducible refine call_i (hCl) ?_); (conv => whnf)))))))
  refine at_fam 0 (.fvari 120 217 (.ob .vtx) []) rfl ?_
  refine at_loop hK [] [1, 4, 42, 43, 44] (opS w) (fun i => i ≤ w.views.length) (fun i => w.views.length - i) 0 (by simp) (by (conv => whnf); rfl) ?_
  intro i hi
  have hps := pre_pOK hpre
  have hpl := pro_len h3
  have ht7 : ∀ t ∈ w.views.map tabV, t.length = 217 := fun t h => by
    obtain ⟨g, _, rfl⟩ := List.mem_map.1 h
    exact tabV_len g
  have hml : (w.views.map tabV).length = w.views.length := List.length_map ..
  by_cases hlt : i < w.views.length
  · have hgm : w.views[i] ∈ w.views := List.getElem_mem hlt
    have hxe : w.views[i]? = some w.views[i] := List.getElem?_eq_getElem hlt
    have hsn : w.views.take (i + 1) = w.views.take i ++ [w.views[i]] := List.take_succ_eq_append_getElem hlt
    have hg := pre_tab hpre _ hgm
    generalize w.views[i] = g at *
    cases i with
    | zero =>
      have hx0 : w.views[(0 : Int).toNat]? = some g := hxe
      have hst : opS w (0 + 1) = ⟨[(1, .ptr 4 0), (4, .ptr 5 0), (42, .lst (.lst .vtx) w.views), (43, .int .i64 w.views.length), (44, .int .i64 ((0 + 1 : Nat) : Int))], [(0, .fvari 120 217 (.ob .vtx) [tabV g]), (4, .var 29 (wrlA w).cells), (5, .var 93 [.int .i32 0, .int .u32 0, .lst (.int .i64) w.com, .lst (.int .i64) w.lead, .int .i64 w.bad, .ref 6, .nils]), (6, .row 94 (.hp 0) [some 0])], 7⟩ := by
        rw [opS, hsn]
        rfl
      have hs0 : opS w 0 = ⟨[(1, .ptr 4 0), (4, .ptr 5 0), (42, .lst (.lst .vtx) w.views), (43, .int .i64 w.views.length), (44, .int .i64 0)], [(0, .fvari 120 217 (.ob .vtx) []), (4, .var 29 (wrlA w).cells), (5, .var 93 [.int .i32 0, .int .u32 0, .lst (.int .i64) w.com, .lst (.int .i64) w.lead, .int .i64 w.bad, .nils, .nils])], 6⟩ := rfl
      rw [hs0]
      (repeat (any_goals (first | (with_reducible apply at_seq) | ((with_reducible apply at_regS Θw_ok); (conv => whnf)) | ((refine go ?_); (conv => whnf)) | ((refine go2 (fun xe hxe => ?_)); (conv => whnf)) | ((with_reducible refine cnd_d (fun hq => ?_) (fun hq => ?_)) <;> (conv => whnf)) | ((with_reducible refine cnd_i (fun hq => ?_) (fun hq => ?_)) <;> ((try simp only [decide_eq_true_eq, decide_eq_false_iff_not, Bool.not_eq_true', Bool.not_eq_false', beq_iff_eq, bne_iff_ne, beq_eq_false_iff_ne, bne_eq_false_iff_eq, ne_eq] at hq) <;> (first | omega | (conv => whnf)))) | ((with_reducible first | apply at_cond | apply at_ret | apply at_exit | apply at_skip); (conv => whnf)) | (with_reducible apply at_block) | ((with_reducible refine at_regD Θw_ok mixed (by kernel_rfl) ?_); (conv => whnf)) | ((with_reducible refine call_r ?_); (conv => whnf); (first | ((with_reducible refine call_i (vof_c g hg) ?_); (conv => whnf)))))))
      refine ⟨0 + 1, by omega, by omega, ?_⟩
      rw [hst]
      rfl
    | succ i =>
      have hfl : ((w.views.take (i + 1)).map tabV).length = i + 1 := by rw [List.length_map, List.length_take]; omega
      have hrl : ((List.range (i + 1)).map some).length = i + 1 := by simp
      have hst : opS w (i + 1 + 1) = ⟨[(1, .ptr 4 0), (4, .ptr 5 0), (42, .lst (.lst .vtx) w.views), (43, .int .i64 w.views.length), (44, .int .i64 ((i + 1 + 1 : Nat) : Int))], [(0, .fvari 120 217 (.ob .vtx) ((w.views.take (i + 1)).map tabV ++ [tabV g])), (4, .var 29 (wrlA w).cells), (5, .var 93 [.int .i32 0, .int .u32 0, .lst (.int .i64) w.com, .lst (.int .i64) w.lead, .int .i64 w.bad, .ref 6, .nils]), (6, .row 94 (.hp 0) ((List.range (i + 1)).map some ++ [some (i + 1)]))], 7⟩ := by
        rw [opS, hsn, List.map_append, List.range_succ, List.map_append]
        rfl
      have hs0 : opS w (i + 1) = ⟨[(1, .ptr 4 0), (4, .ptr 5 0), (42, .lst (.lst .vtx) w.views), (43, .int .i64 w.views.length), (44, .int .i64 ((i + 1 : Nat) : Int))], [(0, .fvari 120 217 (.ob .vtx) ((w.views.take (i + 1)).map tabV)), (4, .var 29 (wrlA w).cells), (5, .var 93 [.int .i32 0, .int .u32 0, .lst (.int .i64) w.com, .lst (.int .i64) w.lead, .int .i64 w.bad, .ref 6, .nils]), (6, .row 94 (.hp 0) ((List.range (i + 1)).map some))], 7⟩ := rfl
      rw [hs0]
      clear hs0
      generalize (w.views.take (i + 1)).map tabV = ts at *
      generalize (List.range (i + 1)).map some = rs at *
      (repeat (any_goals (first | (with_reducible apply at_seq) | ((with_reducible apply at_regS Θw_ok); (conv => whnf)) | ((refine go ?_); (conv => whnf)) | ((refine go2 (fun xe hxe => ?_)); (conv => whnf)) | ((with_reducible refine cnd_d (fun hq => ?_) (fun hq => ?_)) <;> (conv => whnf)) | ((with_reducible refine cnd_i (fun hq => ?_) (fun hq => ?_)) <;> ((try simp only [decide_eq_true_eq, decide_eq_false_iff_not, Bool.not_eq_true', Bool.not_eq_false', beq_iff_eq, bne_iff_ne, beq_eq_false_iff_ne, bne_eq_false_iff_eq, ne_eq] at hq) <;> (first | omega | (conv => whnf)))) | ((with_reducible first | apply at_cond | apply at_ret | apply at_exit | apply at_skip); (conv => whnf)) | (with_reducible apply at_block) | ((with_reducible refine at_regD Θw_ok mixed (by kernel_rfl) ?_); (conv => whnf)) | ((with_reducible refine call_r ?_); (conv => whnf); (first | ((with_reducible refine call_i (vof_c g hg) ?_); (conv => whnf)))))))
      refine ⟨i + 1 + 1, by omega, by omega, ?_⟩
      rw [hst, hfl]
      rfl
  · have hi' : i = w.views.length := by omega
    have hK := ikp_c w.com w.lead w.bad (w.views.map tabV) w.props ht7 (by omega) (by omega) (by rw [hml]; exact hps)
    have hCp := icps_c w.props (fun p hp => ⟨by have := (hps p hp).2.2.2.2; omega, by have := (hps p hp).2.2.2.1; omega⟩) (by omega)
    cases i with
    | zero => omega
    | succ i =>
      have hs0 : opS w (i + 1) = ⟨[(1, .ptr 4 0), (4, .ptr 5 0), (42, .lst (.lst .vtx) w.views), (43, .int .i64 w.views.length), (44, .int .i64 ((i + 1 : Nat) : Int))], [(0, .fvari 120 217 (.ob .vtx) (w.views.map tabV)), (4, .var 29 (wrlA w).cells), (5, .var 93 [.int .i32 0, .int .u32 0, .lst (.int .i64) w.com, .lst (.int .i64) w.lead, .int .i64 w.bad, .ref 6, .nils]), (6, .row 94 (.hp 0) ((List.range (w.views.map tabV).length).map some))], 7⟩ := by
        rw [opS, List.take_of_length_le (by omega), hml, ← hi']
      rw [hs0]
      clear hs0
      generalize hts : w.views.map tabV = ts at *
      (repeat (any_goals (first | (with_reducible apply at_seq) | ((with_reducible apply at_regS Θw_ok); (conv => whnf)) | ((refine go ?_); (conv => whnf)) | ((refine go2 (fun xe hxe => ?_)); (conv => whnf)) | ((with_reducible refine cnd_d (fun hq => ?_) (fun hq => ?_)) <;> (conv => whnf)) | ((with_reducible refine cnd_i (fun hq => ?_) (fun hq => ?_)) <;> ((try simp only [decide_eq_true_eq, decide_eq_false_iff_not, Bool.not_eq_true', Bool.not_eq_false', beq_iff_eq, bne_iff_ne, beq_eq_false_iff_ne, bne_eq_false_iff_eq, ne_eq] at hq) <;> (first | omega | (conv => whnf)))) | ((with_reducible first | apply at_cond | apply at_ret | apply at_exit | apply at_skip); (conv => whnf)) | (with_reducible apply at_block) | ((with_reducible refine at_regD Θw_ok mixed (by kernel_rfl) ?_); (conv => whnf)) | ((with_reducible refine call_r ?_); (conv => whnf); (first | ((with_reducible refine call_i (hCp) ?_); (conv => whnf)))) | ((with_reducible refine call_o ?_); (conv => whnf); (first | ((with_reducible refine call_i (hK) ?_); (conv => whnf)))))))
      exact ⟨rfl, rfl⟩
end Go.Proofs.Ytfamejohdhkffaa.Am
namespace Go.Proofs.Ytfamejohdhkffaa.Am
set_option linter.unusedSimpArgs false
set_option linter.unusedVariables false
open Go
attribute [local irreducible] Mk Need Ari Get Idx Cnd CallM CallA Opt Unch At ConV
set_option maxRecDepth 10000

theorem take_snoc_eq {α : Type} {a b : List α} {i : Nat} {x : α} (h : a.take i = b.take i) (ha : a[i]? = some x) (hb : b[i]? = some x) : a.take (i + 1) = b.take (i + 1) := by
  rw [List.take_add_one, List.take_add_one, h, ha, hb]
theorem sameInts_c (a b : List Int) : ConV Try.prog 34 [.lst (.int .i64) a, .lst (.int .i64) b] [] (.bool (decide (a = b))) [] := by
  refine con_eq Θ_ok Try.func34 rfl rfl false 0 4 rfl rfl rfl rfl fun K hK hb1 hb2 => ?_; simp only [argsV, enc, Nat.reduceAdd]
  simp [toDL, V.toD, bnd, encD, D.cells] at hb1
  by_cases hl : a.length = b.length
  · (repeat (any_goals (first | (with_reducible apply at_seq) | ((with_reducible apply at_regS Θ_ok); (conv => whnf)) | ((refine go ?_); (conv => whnf)) | ((refine go2 (fun xe hxe => ?_)); (conv => whnf)) | ((with_reducible refine cnd_d (fun hq => ?_) (fun hq => ?_)) <;> (conv => whnf)) | ((with_reducible refine cnd_i (fun hq => ?_) (fun hq => ?_)) <;> ((try simp only [decide_eq_true_eq, decide_eq_false_iff_not, Bool.not_eq_true', Bool.not_eq_false', beq_iff_eq, bne_iff_ne, beq_eq_false_iff_ne, bne_eq_false_iff_eq, ne_eq] at hq) <;> (first | omega | (conv => whnf)))) | ((with_reducible first | apply at_cond | apply at_ret | apply at_exit | apply at_skip); (conv => whnf)) | (with_reducible apply at_block) | ((with_reducible refine at_regD Θ_ok mixed (by kernel_rfl) ?_); (conv => whnf)))))
    refine at_loop hK [] [0, 1, 4, 5] (fun i : Nat => ⟨[(0, .lst (.int .i64) a), (1, .lst (.int .i64) b), (4, .bool false), (5, .int .i64 i)], [], 4⟩) (fun i => i ≤ a.length ∧ a.take i = b.take i) (fun i => a.length - i) 0 ⟨by simp, by simp⟩ rfl ?_
    rintro i ⟨hi, hall⟩
    by_cases hlt : i < a.length
    · obtain ⟨x, hx⟩ : ∃ x, a[i]? = some x := ⟨_, List.getElem?_eq_getElem hlt⟩
      obtain ⟨y, hy⟩ : ∃ y, b[i]? = some y := ⟨_, List.getElem?_eq_getElem (by omega)⟩
      (repeat (any_goals (first | (with_reducible apply at_seq) | ((with_reducible apply at_regS Θ_ok); (conv => whnf)) | ((refine go ?_); (conv => whnf)) | ((refine go2 (fun xe hxe => ?_)); (conv => whnf)) | ((with_reducible refine cnd_d (fun hq => ?_) (fun hq => ?_)) <;> (conv => whnf)) | ((with_reducible refine cnd_i (fun hq => ?_) (fun hq => ?_)) <;> ((try simp only [decide_eq_true_eq, decide_eq_false_iff_not, Bool.not_eq_true', Bool.not_eq_false', beq_iff_eq, bne_iff_ne, beq_eq_false_iff_ne, bne_eq_false_iff_eq, ne_eq] at hq) <;> (first | omega | (conv => whnf)))) | ((with_reducible first | apply at_cond | apply at_ret | apply at_exit | apply at_skip); (conv => whnf)) | (with_reducible apply at_block) | ((with_reducible refine at_regD Θ_ok mixed (by kernel_rfl) ?_); (conv => whnf)))))
      · have hne : ¬ x = y := hq
        exact ⟨by rw [decide_eq_false]; rintro rfl; rw [hx] at hy; exact hne (Option.some.inj hy), rfl⟩
      · subst hq
        exact ⟨i + 1, ⟨by omega, take_snoc_eq hall hx hy⟩, by omega, rfl⟩
    · (repeat (any_goals (first | (with_reducible apply at_seq) | ((with_reducible apply at_regS Θ_ok); (conv => whnf)) | ((refine go ?_); (conv => whnf)) | ((refine go2 (fun xe hxe => ?_)); (conv => whnf)) | ((with_reducible refine cnd_d (fun hq => ?_) (fun hq => ?_)) <;> (conv => whnf)) | ((with_reducible refine cnd_i (fun hq => ?_) (fun hq => ?_)) <;> ((try simp only [decide_eq_true_eq, decide_eq_false_iff_not, Bool.not_eq_true', Bool.not_eq_false', beq_iff_eq, bne_iff_ne, beq_eq_false_iff_ne, bne_eq_false_iff_eq, ne_eq] at hq) <;> (first | omega | (conv => whnf)))) | ((with_reducible first | apply at_cond | apply at_ret | apply at_exit | apply at_skip); (conv => whnf)) | (with_reducible apply at_block) | ((with_reducible refine at_regD Θ_ok mixed (by kernel_rfl) ?_); (conv => whnf)))))
      have hab : a = b := by rwa [List.take_of_length_le (by omega), List.take_of_length_le (by omega)] at hall
      exact ⟨by rw [decide_eq_true hab], rfl⟩
  · (repeat (any_goals (first | (with_reducible apply at_seq) | ((with_reducible apply at_regS Θ_ok); (conv => whnf)) | ((refine go ?_); (conv => whnf)) | ((refine go2 (fun xe hxe => ?_)); (conv => whnf)) | ((with_reducible refine cnd_d (fun hq => ?_) (fun hq => ?_)) <;> (conv => whnf)) | ((with_reducible refine cnd_i (fun hq => ?_) (fun hq => ?_)) <;> ((try simp only [decide_eq_true_eq, decide_eq_false_iff_not, Bool.not_eq_true', Bool.not_eq_false', beq_iff_eq, bne_iff_ne, beq_eq_false_iff_ne, bne_eq_false_iff_eq, ne_eq] at hq) <;> (first | omega | (conv => whnf)))) | ((with_reducible first | apply at_cond | apply at_ret | apply at_exit | apply at_skip); (conv => whnf)) | (with_reducible apply at_block) | ((with_reducible refine at_regD Θ_ok mixed (by kernel_rfl) ?_); (conv => whnf)))))
    exact ⟨by rw [decide_eq_false]; rintro rfl; exact hl rfl, rfl⟩
theorem eqIntS_c (a b : List Int) : ConV Try.prog 15 [.lst (.int .i64) a, .lst (.int .i64) b] [] (.bool (decide (a = b))) [] := by
  refine con_eq Θ_ok Try.func15 rfl rfl false 0 4 rfl rfl rfl rfl fun K hK hb1 hb2 => ?_; simp only [argsV, enc, Nat.reduceAdd]
  simp [toDL, V.toD, bnd, encD, D.cells] at hb1
  by_cases hl : a.length = b.length
  · (repeat (any_goals (first | (with_reducible apply at_seq) | ((with_reducible apply at_regS Θ_ok); (conv => whnf)) | ((refine go ?_); (conv => whnf)) | ((refine go2 (fun xe hxe => ?_)); (conv => whnf)) | ((with_reducible refine cnd_d (fun hq => ?_) (fun hq => ?_)) <;> (conv => whnf)) | ((with_reducible refine cnd_i (fun hq => ?_) (fun hq => ?_)) <;> ((try simp only [decide_eq_true_eq, decide_eq_false_iff_not, Bool.not_eq_true', Bool.not_eq_false', beq_iff_eq, bne_iff_ne, beq_eq_false_iff_ne, bne_eq_false_iff_eq, ne_eq] at hq) <;> (first | omega | (conv => whnf)))) | ((with_reducible first | apply at_cond | apply at_ret | apply at_exit | apply at_skip); (conv => whnf)) | (with_reducible apply at_block) | ((with_reducible refine at_regD Θ_ok mixed (by kernel_rfl) ?_); (conv => whnf)))))
    refine at_loop hK [] [0, 1, 4, 5] (fun i : Nat => ⟨[(0, .lst (.int .i64) a), (1, .lst (.int .i64) b), (4, .bool false), (5, .int .i64 i)], [], 4⟩) (fun i => i ≤ a.length ∧ a.take i = b.take i) (fun i => a.length - i) 0 ⟨by simp, by simp⟩ rfl ?_
    rintro i ⟨hi, hall⟩
    by_cases hlt : i < a.length
    · obtain ⟨x, hx⟩ : ∃ x, a[i]? = some x := ⟨_, List.getElem?_eq_getElem hlt⟩
      obtain ⟨y, hy⟩ : ∃ y, b[i]? = some y := ⟨_, List.getElem?_eq_getElem (by omega)⟩
      (repeat (any_goals (first | (with_reducible apply at_seq) | ((with_reducible apply at_regS Θ_ok); (conv => whnf)) | ((refine go ?_); (conv => whnf)) | ((refine go2 (fun xe hxe => ?_)); (conv => whnf)) | ((with_reducible refine cnd_d (fun hq => ?_) (fun hq => ?_)) <;> (conv => whnf)) | ((with_reducible refine cnd_i (fun hq => ?_) (fun hq => ?_)) <;> ((try simp only [decide_eq_true_eq, decide_eq_false_iff_not, Bool.not_eq_true', Bool.not_eq_false', beq_iff_eq, bne_iff_ne, beq_eq_false_iff_ne, bne_eq_false_iff_eq, ne_eq] at hq) <;> (first | omega | (conv => whnf)))) | ((with_reducible first | apply at_cond | apply at_ret | apply at_exit | apply at_skip); (conv => whnf)) | (with_reducible apply at_block) | ((with_reducible refine at_regD Θ_ok mixed (by kernel_rfl) ?_); (conv => whnf)))))
      · have hne : ¬ x = y := hq
        exact ⟨by rw [decide_eq_false]; rintro rfl; rw [hx] at hy; exact hne (Option.some.inj hy), rfl⟩
      · subst hq
        exact ⟨i + 1, ⟨by omega, take_snoc_eq hall hx hy⟩, by omega, rfl⟩
    · (repeat (any_goals (first | (with_reducible apply at_seq) | ((with_reducible apply at_regS Θ_ok); (conv => whnf)) | ((refine go ?_); (conv => whnf)) | ((refine go2 (fun xe hxe => ?_)); (conv => whnf)) | ((with_reducible refine cnd_d (fun hq => ?_) (fun hq => ?_)) <;> (conv => whnf)) | ((with_reducible refine cnd_i (fun hq => ?_) (fun hq => ?_)) <;> ((try simp only [decide_eq_true_eq, decide_eq_false_iff_not, Bool.not_eq_true', Bool.not_eq_false', beq_iff_eq, bne_iff_ne, beq_eq_false_iff_ne, bne_eq_false_iff_eq, ne_eq] at hq) <;> (first | omega | (conv => whnf)))) | ((with_reducible first | apply at_cond | apply at_ret | apply at_exit | apply at_skip); (conv => whnf)) | (with_reducible apply at_block) | ((with_reducible refine at_regD Θ_ok mixed (by kernel_rfl) ?_); (conv => whnf)))))
      have hab : a = b := by rwa [List.take_of_length_le (by omega), List.take_of_length_le (by omega)] at hall
      exact ⟨by rw [decide_eq_true hab], rfl⟩
  · (repeat (any_goals (first | (with_reducible apply at_seq) | ((with_reducible apply at_regS Θ_ok); (conv => whnf)) | ((refine go ?_); (conv => whnf)) | ((refine go2 (fun xe hxe => ?_)); (conv => whnf)) | ((with_reducible refine cnd_d (fun hq => ?_) (fun hq => ?_)) <;> (conv => whnf)) | ((with_reducible refine cnd_i (fun hq => ?_) (fun hq => ?_)) <;> ((try simp only [decide_eq_true_eq, decide_eq_false_iff_not, Bool.not_eq_true', Bool.not_eq_false', beq_iff_eq, bne_iff_ne, beq_eq_false_iff_ne, bne_eq_false_iff_eq, ne_eq] at hq) <;> (first | omega | (conv => whnf)))) | ((with_reducible first | apply at_cond | apply at_ret | apply at_exit | apply at_skip); (conv => whnf)) | (with_reducible apply at_block) | ((with_reducible refine at_regD Θ_ok mixed (by kernel_rfl) ?_); (conv => whnf)))))
    exact ⟨by rw [decide_eq_false]; rintro rfl; exact hl rfl, rfl⟩
theorem set_over {α : Type} (c : List α) (a : List α) (x : α) {i : Nat} (hc : c.length = i) (hi : i < a.length) : (c ++ a.drop i).set i x = (c ++ [x]) ++ a.drop (i + 1) := by
  rw [List.set_append_right _ _ (by omega), hc, Nat.sub_self, List.drop_eq_getElem_cons hi]
  simp only [List.set_cons_zero, List.append_assoc, List.singleton_append]
theorem over_get {α : Type} (c : List α) (a : List α) {i : Nat} (hc : c.length = i) (hi : i < a.length) : i < (c ++ a.drop i).length := by simp; omega
theorem szIntS_c (a : List Int) (l : Int) (hl : 0 ≤ l ∧ l ≤ 1048576) : ConV Try.prog 45 [.lst (.int .i64) a, .int .i64 l] [] (.int .i64 (if l - a.length < 0 then -1 else l - a.length)) [] := by
  refine con_eq Θ_ok Try.func45 rfl rfl false 0 4 rfl rfl rfl rfl fun K hK hb1 hb2 => ?_; simp only [argsV, enc, Nat.reduceAdd]
  simp [toDL, V.toD, bnd, encD, D.cells] at hb1
  by_cases h : l - a.length < 0
  · (repeat (any_goals (first | (with_reducible apply at_seq) | ((with_reducible apply at_regS Θ_ok); (conv => whnf)) | ((refine go ?_); (conv => whnf)) | ((refine go2 (fun xe hxe => ?_)); (conv => whnf)) | ((with_reducible refine cnd_d (fun hq => ?_) (fun hq => ?_)) <;> (conv => whnf)) | ((with_reducible refine cnd_i (fun hq => ?_) (fun hq => ?_)) <;> ((try simp only [decide_eq_true_eq, decide_eq_false_iff_not, Bool.not_eq_true', Bool.not_eq_false', beq_iff_eq, bne_iff_ne, beq_eq_false_iff_ne, bne_eq_false_iff_eq, ne_eq] at hq) <;> (first | omega | (conv => whnf)))) | ((with_reducible first | apply at_cond | apply at_ret | apply at_exit | apply at_skip); (conv => whnf)) | (with_reducible apply at_block) | ((with_reducible refine at_regD Θ_ok mixed (by kernel_rfl) ?_); (conv => whnf)))))
    exact ⟨by rw [if_pos h], rfl⟩
  · (repeat (any_goals (first | (with_reducible apply at_seq) | ((with_reducible apply at_regS Θ_ok); (conv => whnf)) | ((refine go ?_); (conv => whnf)) | ((refine go2 (fun xe hxe => ?_)); (conv => whnf)) | ((with_reducible refine cnd_d (fun hq => ?_) (fun hq => ?_)) <;> (conv => whnf)) | ((with_reducible refine cnd_i (fun hq => ?_) (fun hq => ?_)) <;> ((try simp only [decide_eq_true_eq, decide_eq_false_iff_not, Bool.not_eq_true', Bool.not_eq_false', beq_iff_eq, bne_iff_ne, beq_eq_false_iff_ne, bne_eq_false_iff_eq, ne_eq] at hq) <;> (first | omega | (conv => whnf)))) | ((with_reducible first | apply at_cond | apply at_ret | apply at_exit | apply at_skip); (conv => whnf)) | (with_reducible apply at_block) | ((with_reducible refine at_regD Θ_ok mixed (by kernel_rfl) ?_); (conv => whnf)))))
    exact ⟨by rw [if_neg h], rfl⟩
theorem toIntS_c (a : List Int) (ha : a.length ≤ 1048576) : ConV Try.prog 13 [.lst (.int .i64) a] [] (.ref 4) [(4, .row 3 (.int .i64) a)] := by
  refine con_eq Θ_ok Try.func13 rfl rfl false 0 4 rfl rfl rfl rfl fun K hK hb1 hb2 => ?_; simp only [argsV, enc, Nat.reduceAdd]
  (repeat (any_goals (first | (with_reducible apply at_seq) | ((with_reducible apply at_regS Θ_ok); (conv => whnf)) | ((refine go ?_); (conv => whnf)) | ((refine go2 (fun xe hxe => ?_)); (conv => whnf)) | ((with_reducible refine cnd_d (fun hq => ?_) (fun hq => ?_)) <;> (conv => whnf)) | ((with_reducible refine cnd_i (fun hq => ?_) (fun hq => ?_)) <;> ((try simp only [decide_eq_true_eq, decide_eq_false_iff_not, Bool.not_eq_true', Bool.not_eq_false', beq_iff_eq, bne_iff_ne, beq_eq_false_iff_ne, bne_eq_false_iff_eq, ne_eq] at hq) <;> (first | omega | (conv => whnf)))) | ((with_reducible first | apply at_cond | apply at_ret | apply at_exit | apply at_skip); (conv => whnf)) | (with_reducible apply at_block) | ((with_reducible refine at_regD Θ_ok mixed (by kernel_rfl) ?_); (conv => whnf)))))
  refine at_loop hK [] [0, 3, 4] (fun i : Nat => ⟨[(0, .lst (.int .i64) a), (3, .ref 4), (4, .int .i64 i)], [(4, .row 3 (.int .i64) (a.take i ++ (List.replicate a.length 0).drop i))], 5⟩) (fun i => i ≤ a.length) (fun i => a.length - i) 0 (by simp) (by simp; rfl) ?_
  intro i hi
  by_cases hlt : i < a.length
  · have hx : a[i]? = some a[i] := List.getElem?_eq_getElem hlt
    have hg : i < (a.take i ++ (List.replicate a.length (0 : Int)).drop i).length := over_get _ _ (by simp; omega) (by simpa using hlt)
    have hs : (a.take i ++ (List.replicate a.length (0 : Int)).drop i).set i a[i] = a.take (i + 1) ++ (List.replicate a.length 0).drop (i + 1) := by
      rw [set_over _ _ _ (by simp; omega) (by simpa using hlt), List.take_succ_eq_append_getElem hlt]
    generalize hrow : a.take i ++ (List.replicate a.length (0 : Int)).drop i = row at *
    generalize a[i] = x at *
    (repeat (any_goals (first | (with_reducible apply at_seq) | ((with_reducible apply at_regS Θ_ok); (conv => whnf)) | ((refine go ?_); (conv => whnf)) | ((refine go2 (fun xe hxe => ?_)); (conv => whnf)) | ((with_reducible refine cnd_d (fun hq => ?_) (fun hq => ?_)) <;> (conv => whnf)) | ((with_reducible refine cnd_i (fun hq => ?_) (fun hq => ?_)) <;> ((try simp only [decide_eq_true_eq, decide_eq_false_iff_not, Bool.not_eq_true', Bool.not_eq_false', beq_iff_eq, bne_iff_ne, beq_eq_false_iff_ne, bne_eq_false_iff_eq, ne_eq] at hq) <;> (first | omega | (conv => whnf)))) | ((with_reducible first | apply at_cond | apply at_ret | apply at_exit | apply at_skip); (conv => whnf)) | (with_reducible apply at_block) | ((with_reducible refine at_regD Θ_ok mixed (by kernel_rfl) ?_); (conv => whnf)))))
    refine ⟨i + 1, by omega, by omega, ?_⟩
    rw [← hs]
    rfl
  · obtain rfl : i = a.length := by omega
    (repeat (any_goals (first | (with_reducible apply at_seq) | ((with_reducible apply at_regS Θ_ok); (conv => whnf)) | ((refine go ?_); (conv => whnf)) | ((refine go2 (fun xe hxe => ?_)); (conv => whnf)) | ((with_reducible refine cnd_d (fun hq => ?_) (fun hq => ?_)) <;> (conv => whnf)) | ((with_reducible refine cnd_i (fun hq => ?_) (fun hq => ?_)) <;> ((try simp only [decide_eq_true_eq, decide_eq_false_iff_not, Bool.not_eq_true', Bool.not_eq_false', beq_iff_eq, bne_iff_ne, beq_eq_false_iff_ne, bne_eq_false_iff_eq, ne_eq] at hq) <;> (first | omega | (conv => whnf)))) | ((with_reducible first | apply at_cond | apply at_ret | apply at_exit | apply at_skip); (conv => whnf)) | (with_reducible apply at_block) | ((with_reducible refine at_regD Θ_ok mixed (by kernel_rfl) ?_); (conv => whnf)))))
    simp
theorem eqIntS_e (a : List Int) : ConV Try.prog 15 [.lst (.int .i64) a, .lst (.int .i64) a] [] (.bool true) [] := by
  have := eqIntS_c a a
  simpa using this
/-- what is left of l for n -/
def lft (l : Int) (n : Nat) : Int := if l - n < 0 then -1 else l - n
theorem szVertex_c (v : Vtx) (l : Int) (hl : 0 ≤ l ∧ l ≤ 1048576) : ConV Try.prog 99 [vtxA v, .int .i64 l] [] (.int .i64 (lft l v.parents.length)) [] := by
  have hc := szIntS_c v.parents l hl
  refine con_eq Θ_ok Try.func99 rfl rfl false 0 4 rfl rfl rfl rfl fun K hK hb1 hb2 => ?_; simp only [argsV, enc, Nat.reduceAdd]
  unfold lft
  by_cases h : l - v.parents.length < 0
  · rw [if_pos h] at hc
    (repeat (any_goals (first | (with_reducible apply at_seq) | ((with_reducible apply at_regS Θ_ok); (conv => whnf)) | ((refine go ?_); (conv => whnf)) | ((refine go2 (fun xe hxe => ?_)); (conv => whnf)) | ((with_reducible refine cnd_d (fun hq => ?_) (fun hq => ?_)) <;> (conv => whnf)) | ((with_reducible refine cnd_i (fun hq => ?_) (fun hq => ?_)) <;> ((try simp only [decide_eq_true_eq, decide_eq_false_iff_not, Bool.not_eq_true', Bool.not_eq_false', beq_iff_eq, bne_iff_ne, beq_eq_false_iff_ne, bne_eq_false_iff_eq, ne_eq] at hq) <;> (first | omega | (conv => whnf)))) | ((with_reducible first | apply at_cond | apply at_ret | apply at_exit | apply at_skip); (conv => whnf)) | (with_reducible apply at_block) | ((with_reducible refine at_regD Θ_ok mixed (by kernel_rfl) ?_); (conv => whnf)) | ((with_reducible refine call_r ?_); (conv => whnf); (first | ((with_reducible refine call_i (hc) ?_); (conv => whnf)))))))
    exact ⟨by rw [if_pos h], rfl⟩
  · rw [if_neg h] at hc
    (repeat (any_goals (first | (with_reducible apply at_seq) | ((with_reducible apply at_regS Θ_ok); (conv => whnf)) | ((refine go ?_); (conv => whnf)) | ((refine go2 (fun xe hxe => ?_)); (conv => whnf)) | ((with_reducible refine cnd_d (fun hq => ?_) (fun hq => ?_)) <;> (conv => whnf)) | ((with_reducible refine cnd_i (fun hq => ?_) (fun hq => ?_)) <;> ((try simp only [decide_eq_true_eq, decide_eq_false_iff_not, Bool.not_eq_true', Bool.not_eq_false', beq_iff_eq, bne_iff_ne, beq_eq_false_iff_ne, bne_eq_false_iff_eq, ne_eq] at hq) <;> (first | omega | (conv => whnf)))) | ((with_reducible first | apply at_cond | apply at_ret | apply at_exit | apply at_skip); (conv => whnf)) | (with_reducible apply at_block) | ((with_reducible refine at_regD Θ_ok mixed (by kernel_rfl) ?_); (conv => whnf)) | ((with_reducible refine call_r ?_); (conv => whnf); (first | ((with_reducible refine call_i (hc) ?_); (conv => whnf)))))))
    exact ⟨by rw [if_neg h], rfl⟩
/-- how many parents -/
def pars (g : List Vtx) : Nat := (g.map fun v => v.parents.length).sum
theorem pars_snoc {g : List Vtx} {i : Nat} {v : Vtx} (h : g[i]? = some v) : pars (g.take (i + 1)) = pars (g.take i) + v.parents.length := by
  obtain ⟨hl, rfl⟩ := List.getElem?_eq_some_iff.1 h
  rw [List.take_succ_eq_append_getElem hl]
  unfold pars
  rw [List.map_append, List.sum_append]
  simp
theorem pars_app (a b : List Vtx) : pars (a ++ b) = pars a + pars b := by unfold pars; rw [List.map_append, List.sum_append]
theorem pars_tk (g : List Vtx) (i : Nat) : pars (g.take i) ≤ pars g := by
  have := pars_app (g.take i) (g.drop i)
  rw [List.take_append_drop] at this
  omega
theorem szVertexS_c (g : List Vtx) (l : Int) (hl : 0 ≤ l ∧ l ≤ 1048576) : ConV Try.prog 73 [.lst .vtx g, .int .i64 l] [] (.int .i64 (lft l (g.length + pars g))) [] := by
  refine con_eq Θ_ok Try.func73 rfl rfl false 0 4 rfl rfl rfl rfl fun K hK hb1 hb2 => ?_; simp only [argsV, enc, Nat.reduceAdd]
  simp [toDL, V.toD, bnd, encD, D.cells] at hb1
  have hno : l - g.length - pars g < 0 → V.int .i64 (-1) = V.int .i64 (lft l (g.length + pars g)) ∧ ([] : VH) = [] := fun h => ⟨by rw [lft, if_pos (by omega)], rfl⟩
  by_cases h0 : l - g.length < 0
  · (repeat (any_goals (first | (with_reducible apply at_seq) | ((with_reducible apply at_regS Θ_ok); (conv => whnf)) | ((refine go ?_); (conv => whnf)) | ((refine go2 (fun xe hxe => ?_)); (conv => whnf)) | ((with_reducible refine cnd_d (fun hq => ?_) (fun hq => ?_)) <;> (conv => whnf)) | ((with_reducible refine cnd_i (fun hq => ?_) (fun hq => ?_)) <;> ((try simp only [decide_eq_true_eq, decide_eq_false_iff_not, Bool.not_eq_true', Bool.not_eq_false', beq_iff_eq, bne_iff_ne, beq_eq_false_iff_ne, bne_eq_false_iff_eq, ne_eq] at hq) <;> (first | omega | (conv => whnf)))) | ((with_reducible first | apply at_cond | apply at_ret | apply at_exit | apply at_skip); (conv => whnf)) | (with_reducible apply at_block) | ((with_reducible refine at_regD Θ_ok mixed (by kernel_rfl) ?_); (conv => whnf)))))
    exact hno (by omega)
  (repeat (any_goals (first | (with_reducible apply at_seq) | ((with_reducible apply at_regS Θ_ok); (conv => whnf)) | ((refine go ?_); (conv => whnf)) | ((refine go2 (fun xe hxe => ?_)); (conv => whnf)) | ((with_reducible refine cnd_d (fun hq => ?_) (fun hq => ?_)) <;> (conv => whnf)) | ((with_reducible refine cnd_i (fun hq => ?_) (fun hq => ?_)) <;> ((try simp only [decide_eq_true_eq, decide_eq_false_iff_not, Bool.not_eq_true', Bool.not_eq_false', beq_iff_eq, bne_iff_ne, beq_eq_false_iff_ne, bne_eq_false_iff_eq, ne_eq] at hq) <;> (first | omega | (conv => whnf)))) | ((with_reducible first | apply at_cond | apply at_ret | apply at_exit | apply at_skip); (conv => whnf)) | (with_reducible apply at_block) | ((with_reducible refine at_regD Θ_ok mixed (by kernel_rfl) ?_); (conv => whnf)))))
  refine at_loop hK [] [0, 1, 5] (fun i : Nat => ⟨[(0, .lst .vtx g), (1, .int .i64 (l - g.length - pars (g.take i))), (5, .int .i64 i)], [], 4⟩) (fun i => i ≤ g.length ∧ 0 ≤ l - g.length - pars (g.take i)) (fun i => g.length - i) 0 ⟨by simp, by simp [pars]; omega⟩ (by simp [pars]; rfl) ?_
  rintro i ⟨hi, hp⟩
  by_cases hlt : i < g.length
  · have hxe : g[i]? = some g[i] := List.getElem?_eq_getElem hlt
    have h3 := pars_snoc hxe
    have h4 := pars_tk g (i + 1)
    generalize g[i] = v at *
    have hc := szVertex_c v (l - g.length - pars (g.take i)) (by omega)
    unfold lft at hc
    by_cases h5 : l - g.length - pars (g.take i) - v.parents.length < 0
    · rw [if_pos h5] at hc
      (repeat (any_goals (first | (with_reducible apply at_seq) | ((with_reducible apply at_regS Θ_ok); (conv => whnf)) | ((refine go ?_); (conv => whnf)) | ((refine go2 (fun xe hxe => ?_)); (conv => whnf)) | ((with_reducible refine cnd_d (fun hq => ?_) (fun hq => ?_)) <;> (conv => whnf)) | ((with_reducible refine cnd_i (fun hq => ?_) (fun hq => ?_)) <;> ((try simp only [decide_eq_true_eq, decide_eq_false_iff_not, Bool.not_eq_true', Bool.not_eq_false', beq_iff_eq, bne_iff_ne, beq_eq_false_iff_ne, bne_eq_false_iff_eq, ne_eq] at hq) <;> (first | omega | (conv => whnf)))) | ((with_reducible first | apply at_cond | apply at_ret | apply at_exit | apply at_skip); (conv => whnf)) | (with_reducible apply at_block) | ((with_reducible refine at_regD Θ_ok mixed (by kernel_rfl) ?_); (conv => whnf)) | ((with_reducible refine call_r ?_); (conv => whnf); (first | ((with_reducible refine call_i (hc) ?_); (conv => whnf)))))))
      exact hno (by omega)
    · rw [if_neg h5] at hc
      (repeat (any_goals (first | (with_reducible apply at_seq) | ((with_reducible apply at_regS Θ_ok); (conv => whnf)) | ((refine go ?_); (conv => whnf)) | ((refine go2 (fun xe hxe => ?_)); (conv => whnf)) | ((with_reducible refine cnd_d (fun hq => ?_) (fun hq => ?_)) <;> (conv => whnf)) | ((with_reducible refine cnd_i (fun hq => ?_) (fun hq => ?_)) <;> ((try simp only [decide_eq_true_eq, decide_eq_false_iff_not, Bool.not_eq_true', Bool.not_eq_false', beq_iff_eq, bne_iff_ne, beq_eq_false_iff_ne, bne_eq_false_iff_eq, ne_eq] at hq) <;> (first | omega | (conv => whnf)))) | ((with_reducible first | apply at_cond | apply at_ret | apply at_exit | apply at_skip); (conv => whnf)) | (with_reducible apply at_block) | ((with_reducible refine at_regD Θ_ok mixed (by kernel_rfl) ?_); (conv => whnf)) | ((with_reducible refine call_r ?_); (conv => whnf); (first | ((with_reducible refine call_i (hc) ?_); (conv => whnf)))))))
      refine ⟨i + 1, by omega, by omega, ?_⟩
      rw [h3, show l - (g.length : Int) - ((pars (g.take i) + v.parents.length : Nat) : Int) = l - g.length - pars (g.take i) - v.parents.length by omega]
      rfl
  · rw [List.take_of_length_le (by omega)] at *
    (repeat (any_goals (first | (with_reducible apply at_seq) | ((with_reducible apply at_regS Θ_ok); (conv => whnf)) | ((refine go ?_); (conv => whnf)) | ((refine go2 (fun xe hxe => ?_)); (conv => whnf)) | ((with_reducible refine cnd_d (fun hq => ?_) (fun hq => ?_)) <;> (conv => whnf)) | ((with_reducible refine cnd_i (fun hq => ?_) (fun hq => ?_)) <;> ((try simp only [decide_eq_true_eq, decide_eq_false_iff_not, Bool.not_eq_true', Bool.not_eq_false', beq_iff_eq, bne_iff_ne, beq_eq_false_iff_ne, bne_eq_false_iff_eq, ne_eq] at hq) <;> (first | omega | (conv => whnf)))) | ((with_reducible first | apply at_cond | apply at_ret | apply at_exit | apply at_skip); (conv => whnf)) | (with_reducible apply at_block) | ((with_reducible refine at_regD Θ_ok mixed (by kernel_rfl) ?_); (conv => whnf)))))
    exact ⟨by rw [lft, if_neg (by omega)]; congr 1; omega, rfl⟩
theorem toVertex_c (v : Vtx) (hv : v.parents.length ≤ 1048576) : ConV Try.prog 102 [vtxA v] [] (vtxA v) [] := by
  refine con_eq Θ_ok Try.func102 rfl rfl true 0 4 rfl rfl rfl rfl fun K hK hb1 hb2 => ?_; simp only [argsV, enc, Nat.reduceAdd]
  (repeat (any_goals (first | (with_reducible apply at_seq) | ((with_reducible apply at_regS Θ_ok); (conv => whnf)) | ((refine go ?_); (conv => whnf)) | ((refine go2 (fun xe hxe => ?_)); (conv => whnf)) | ((with_reducible refine cnd_d (fun hq => ?_) (fun hq => ?_)) <;> (conv => whnf)) | ((with_reducible refine cnd_i (fun hq => ?_) (fun hq => ?_)) <;> ((try simp only [decide_eq_true_eq, decide_eq_false_iff_not, Bool.not_eq_true', Bool.not_eq_false', beq_iff_eq, bne_iff_ne, beq_eq_false_iff_ne, bne_eq_false_iff_eq, ne_eq] at hq) <;> (first | omega | (conv => whnf)))) | ((with_reducible first | apply at_cond | apply at_ret | apply at_exit | apply at_skip); (conv => whnf)) | (with_reducible apply at_block) | ((with_reducible refine at_regD Θ_ok mixed (by kernel_rfl) ?_); (conv => whnf)) | ((with_reducible refine call_r ?_); (conv => whnf); (first | ((with_reducible refine call_i (toIntS_c _ hv) ?_); (conv => whnf)))))))
  exact ⟨rfl, rfl⟩
theorem toVertexS_c (g : List Vtx) (hg : g.length ≤ 1048576) (hv : ∀ v ∈ g, v.parents.length ≤ 1048576) : ConV Try.prog 81 [.lst .vtx g] [] (.lst .vtx g) [] := by
  refine con_eq Θ_ok Try.func81 rfl rfl true 0 4 rfl rfl rfl rfl fun K hK hb1 hb2 => ?_; simp only [argsV, enc, Nat.reduceAdd]
  clear hb1 hb2
  (repeat (any_goals (first | (with_reducible apply at_seq) | ((with_reducible apply at_regS Θ_ok); (conv => whnf)) | ((refine go ?_); (conv => whnf)) | ((refine go2 (fun xe hxe => ?_)); (conv => whnf)) | ((with_reducible refine cnd_d (fun hq => ?_) (fun hq => ?_)) <;> (conv => whnf)) | ((with_reducible refine cnd_i (fun hq => ?_) (fun hq => ?_)) <;> ((try simp only [decide_eq_true_eq, decide_eq_false_iff_not, Bool.not_eq_true', Bool.not_eq_false', beq_iff_eq, bne_iff_ne, beq_eq_false_iff_ne, bne_eq_false_iff_eq, ne_eq] at hq) <;> (first | omega | (conv => whnf)))) | ((with_reducible first | apply at_cond | apply at_ret | apply at_exit | apply at_skip); (conv => whnf)) | (with_reducible apply at_block) | ((with_reducible refine at_regD Θ_ok mixed (by kernel_rfl) ?_); (conv => whnf)))))
  refine at_loop hK [] [0, 3, 4] (fun i : Nat => ⟨[(0, .lst .vtx g), (3, .ref 4), (4, .int .i64 i)], [(4, .row 63 .vtx (g.take i ++ (List.replicate g.length v0).drop i))], 5⟩) (fun i => i ≤ g.length) (fun i => g.length - i) 0 (by simp) (by simp; rfl) ?_
  intro i hi
  by_cases hlt : i < g.length
  · have hx : g[i]? = some g[i] := List.getElem?_eq_getElem hlt
    have hgt : i < (g.take i ++ (List.replicate g.length v0).drop i).length := over_get _ _ (by simp; omega) (by simpa using hlt)
    have hs : (g.take i ++ (List.replicate g.length v0).drop i).set i g[i] = g.take (i + 1) ++ (List.replicate g.length v0).drop (i + 1) := by
      rw [set_over _ _ _ (by simp; omega) (by simpa using hlt), List.take_succ_eq_append_getElem hlt]
    have hvl := hv _ (List.getElem_mem hlt)
    generalize hrow : g.take i ++ (List.replicate g.length v0).drop i = row at *
    generalize g[i] = x at *
    (repeat (any_goals (first | (with_reducible apply at_seq) | ((with_reducible apply at_regS Θ_ok); (conv => whnf)) | ((refine go ?_); (conv => whnf)) | ((refine go2 (fun xe hxe => ?_)); (conv => whnf)) | ((with_reducible refine cnd_d (fun hq => ?_) (fun hq => ?_)) <;> (conv => whnf)) | ((with_reducible refine cnd_i (fun hq => ?_) (fun hq => ?_)) <;> ((try simp only [decide_eq_true_eq, decide_eq_false_iff_not, Bool.not_eq_true', Bool.not_eq_false', beq_iff_eq, bne_iff_ne, beq_eq_false_iff_ne, bne_eq_false_iff_eq, ne_eq] at hq) <;> (first | omega | (conv => whnf)))) | ((with_reducible first | apply at_cond | apply at_ret | apply at_exit | apply at_skip); (conv => whnf)) | (with_reducible apply at_block) | ((with_reducible refine at_regD Θ_ok mixed (by kernel_rfl) ?_); (conv => whnf)) | ((with_reducible refine call_r ?_); (conv => whnf); (first | ((with_reducible refine call_i (toVertex_c _ hvl) ?_); (conv => whnf)))))))
    refine ⟨i + 1, by omega, by omega, ?_⟩
    rw [← hs]
    rfl
  · obtain rfl : i = g.length := by omega
    (repeat (any_goals (first | (with_reducible apply at_seq) | ((with_reducible apply at_regS Θ_ok); (conv => whnf)) | ((refine go ?_); (conv => whnf)) | ((refine go2 (fun xe hxe => ?_)); (conv => whnf)) | ((with_reducible refine cnd_d (fun hq => ?_) (fun hq => ?_)) <;> (conv => whnf)) | ((with_reducible refine cnd_i (fun hq => ?_) (fun hq => ?_)) <;> ((try simp only [decide_eq_true_eq, decide_eq_false_iff_not, Bool.not_eq_true', Bool.not_eq_false', beq_iff_eq, bne_iff_ne, beq_eq_false_iff_ne, bne_eq_false_iff_eq, ne_eq] at hq) <;> (first | omega | (conv => whnf)))) | ((with_reducible first | apply at_cond | apply at_ret | apply at_exit | apply at_skip); (conv => whnf)) | (with_reducible apply at_block) | ((with_reducible refine at_regD Θ_ok mixed (by kernel_rfl) ?_); (conv => whnf)))))
    simp
theorem eqVertex_e (v : Vtx) : ConV Try.prog 98 [vtxA v, vtxA v] [] (.bool true) [] := by
  refine con_eq Θ_ok Try.func98 rfl rfl false 0 4 rfl rfl rfl rfl fun K hK hb1 hb2 => ?_; simp only [argsV, enc, Nat.reduceAdd]
  (repeat (any_goals (first | (with_reducible apply at_seq) | ((with_reducible apply at_regS Θ_ok); (conv => whnf)) | ((refine go ?_); (conv => whnf)) | ((refine go2 (fun xe hxe => ?_)); (conv => whnf)) | ((with_reducible refine cnd_d (fun hq => ?_) (fun hq => ?_)) <;> (conv => whnf)) | ((with_reducible refine cnd_i (fun hq => ?_) (fun hq => ?_)) <;> ((try simp only [decide_eq_true_eq, decide_eq_false_iff_not, Bool.not_eq_true', Bool.not_eq_false', beq_iff_eq, bne_iff_ne, beq_eq_false_iff_ne, bne_eq_false_iff_eq, ne_eq] at hq) <;> (first | omega | (conv => whnf)))) | ((with_reducible first | apply at_cond | apply at_ret | apply at_exit | apply at_skip); (conv => whnf)) | (with_reducible apply at_block) | ((with_reducible refine at_regD Θ_ok mixed (by kernel_rfl) ?_); (conv => whnf)) | ((with_reducible refine call_r ?_); (conv => whnf); (first | ((with_reducible refine call_i (eqIntS_e _) ?_); (conv => whnf)))))))
  all_goals first | (exact ⟨rfl, rfl⟩) | exact absurd rfl hq | exact absurd trivial hq | cases hq
theorem eqVertexS_e (g : List Vtx) : ConV Try.prog 69 [.lst .vtx g, .lst .vtx g] [] (.bool true) [] := by
  refine con_eq Θ_ok Try.func69 rfl rfl false 0 4 rfl rfl rfl rfl fun K hK hb1 hb2 => ?_; simp only [argsV, enc, Nat.reduceAdd]
  simp [toDL, V.toD, bnd, encD, D.cells] at hb1
  (repeat (any_goals (first | (with_reducible apply at_seq) | ((with_reducible apply at_regS Θ_ok); (conv => whnf)) | ((refine go ?_); (conv => whnf)) | ((refine go2 (fun xe hxe => ?_)); (conv => whnf)) | ((with_reducible refine cnd_d (fun hq => ?_) (fun hq => ?_)) <;> (conv => whnf)) | ((with_reducible refine cnd_i (fun hq => ?_) (fun hq => ?_)) <;> ((try simp only [decide_eq_true_eq, decide_eq_false_iff_not, Bool.not_eq_true', Bool.not_eq_false', beq_iff_eq, bne_iff_ne, beq_eq_false_iff_ne, bne_eq_false_iff_eq, ne_eq] at hq) <;> (first | omega | (conv => whnf)))) | ((with_reducible first | apply at_cond | apply at_ret | apply at_exit | apply at_skip); (conv => whnf)) | (with_reducible apply at_block) | ((with_reducible refine at_regD Θ_ok mixed (by kernel_rfl) ?_); (conv => whnf)))))
  · exact absurd trivial hq
  refine at_loop hK [] [0, 1, 5] (fun i : Nat => ⟨[(0, .lst .vtx g), (1, .lst .vtx g), (5, .int .i64 i)], [], 4⟩) (fun i => i ≤ g.length) (fun i => g.length - i) 0 (by simp) rfl ?_
  intro i hi
  by_cases hlt : i < g.length
  · have hx : g[i]? = some g[i] := List.getElem?_eq_getElem hlt
    generalize g[i] = x at *
    (repeat (any_goals (first | (with_reducible apply at_seq) | ((with_reducible apply at_regS Θ_ok); (conv => whnf)) | ((refine go ?_); (conv => whnf)) | ((refine go2 (fun xe hxe => ?_)); (conv => whnf)) | ((with_reducible refine cnd_d (fun hq => ?_) (fun hq => ?_)) <;> (conv => whnf)) | ((with_reducible refine cnd_i (fun hq => ?_) (fun hq => ?_)) <;> ((try simp only [decide_eq_true_eq, decide_eq_false_iff_not, Bool.not_eq_true', Bool.not_eq_false', beq_iff_eq, bne_iff_ne, beq_eq_false_iff_ne, bne_eq_false_iff_eq, ne_eq] at hq) <;> (first | omega | (conv => whnf)))) | ((with_reducible first | apply at_cond | apply at_ret | apply at_exit | apply at_skip); (conv => whnf)) | (with_reducible apply at_block) | ((with_reducible refine at_regD Θ_ok mixed (by kernel_rfl) ?_); (conv => whnf)) | ((with_reducible refine call_r ?_); (conv => whnf); (first | ((with_reducible refine call_i (eqVertex_e _) ?_); (conv => whnf)))))))
    exact ⟨i + 1, by omega, by omega, rfl⟩
  · (repeat (any_goals (first | (with_reducible apply at_seq) | ((with_reducible apply at_regS Θ_ok); (conv => whnf)) | ((refine go ?_); (conv => whnf)) | ((refine go2 (fun xe hxe => ?_)); (conv => whnf)) | ((with_reducible refine cnd_d (fun hq => ?_) (fun hq => ?_)) <;> (conv => whnf)) | ((with_reducible refine cnd_i (fun hq => ?_) (fun hq => ?_)) <;> ((try simp only [decide_eq_true_eq, decide_eq_false_iff_not, Bool.not_eq_true', Bool.not_eq_false', beq_iff_eq, bne_iff_ne, beq_eq_false_iff_ne, bne_eq_false_iff_eq, ne_eq] at hq) <;> (first | omega | (conv => whnf)))) | ((with_reducible first | apply at_cond | apply at_ret | apply at_exit | apply at_skip); (conv => whnf)) | (with_reducible apply at_block) | ((with_reducible refine at_regD Θ_ok mixed (by kernel_rfl) ?_); (conv => whnf)))))
    exact ⟨rfl, rfl⟩
theorem par_le {g : List Vtx} {v : Vtx} (h : v ∈ g) : v.parents.length ≤ pars g := by
  obtain ⟨i, hi⟩ := List.getElem?_of_mem h
  have h1 := pars_snoc hi
  have h2 := pars_tk g (i + 1)
  omega
end Go.Proofs.Ytfamejohdhkffaa.Am
namespace Go.Proofs.Ytfamejohdhkffaa.Am
set_option linter.unusedSimpArgs false
set_option linter.unusedVariables false
open Go
attribute [local irreducible] Mk Need Ari Get Idx Cnd CallM CallA Opt Unch At ConV
set_option maxRecDepth 10000
theorem vts_take {tab : List (Option Vtx)} {n : Nat} {o : Option Vtx} (h : tab[n]? = some o) : vtsV (tab.take (n + 1)) = vtsV (tab.take n) ++ o.toList := by
  obtain ⟨hl, rfl⟩ := List.getElem?_eq_some_iff.1 h
  rw [List.take_succ_eq_append_getElem hl]
  simp only [vtsV, List.filterMap_append]
  cases tab[n] <;> rfl
theorem vts_len (tab : List (Option Vtx)) : (vtsV tab).length ≤ tab.length := List.length_filterMap_le ..
set_option maxHeartbeats 1000000 in
theorem ivts_c (tabs : List (List (Option Vtx))) (k : Nat) (tab : List (Option Vtx)) (hk : tabs[k]? = some tab) (ht : tab.length = 217) (hv : ∀ v, some v ∈ tab → v.parents.length ≤ 1000000) : ConV Try.prog 65 [.fptr 0 k 0] [(0, .fvari 120 217 (.ob .vtx) tabs)] (.lst .vtx (vtsV tab)) [(0, .fvari 120 217 (.ob .vtx) tabs)] := by
  refine con_eq Θ_ok Try.func65 rfl rfl true 0 4 rfl rfl rfl rfl fun K hK hb1 hb2 => ?_; simp only [argsV, enc, Nat.reduceAdd]
  clear hb1 hb2
  have hat : ∀ n, n < 217 → tab[n]? = some (tab.getD n none) := fun n hn => by rw [List.getD_eq_getElem?_getD, List.getElem?_eq_getElem (by omega)]; rfl
  (repeat (any_goals (first | (with_reducible apply at_seq) | ((with_reducible apply at_regS Θ_ok); (conv => whnf)) | ((refine go ?_); (conv => whnf)) | ((refine go2 (fun xe hxe => ?_)); (conv => whnf)) | ((with_reducible refine cnd_d (fun hq => ?_) (fun hq => ?_)) <;> (conv => whnf)) | ((with_reducible refine cnd_i (fun hq => ?_) (fun hq => ?_)) <;> ((try simp only [decide_eq_true_eq, decide_eq_false_iff_not, Bool.not_eq_true', Bool.not_eq_false', beq_iff_eq, bne_iff_ne, beq_eq_false_iff_ne, bne_eq_false_iff_eq, ne_eq] at hq) <;> (first | omega | (conv => whnf)))) | ((with_reducible first | apply at_cond | apply at_ret | apply at_exit | apply at_skip); (conv => whnf)) | (with_reducible apply at_block) | ((with_reducible refine at_regD Θ_ok mixed (by kernel_rfl) ?_); (conv => whnf)))))
  refine at_loop hK [] [3, 9, 11] (fun r : Nat => ⟨[(3, .ref 4), (9, .fptr 0 k 0), (11, .int .i64 (r : Int))], [(0, .fvari 120 217 (.ob .vtx) tabs), (4, .row 63 .vtx (vtsV (tab.take (r * 7))))], 5⟩) (fun r => r ≤ 31) (fun r => 31 - r) 0 (by omega) rfl ?_
  intro r hr
  by_cases hlt : r < 31
  · obtain ⟨e, he⟩ : ∃ e : Nat → Option Vtx, ∀ j, e j = tab.getD (r * 7 + j) none := ⟨_, fun _ => rfl⟩
    have hg : ∀ j, j < 7 → tab[r * 7 + j]? = some (e j) := fun j hj => by rw [he]; exact hat _ (by omega)
    (repeat (any_goals (first | (with_reducible apply at_seq) | ((with_reducible apply at_regS Θ_ok); (conv => whnf)) | ((refine go ?_); (conv => whnf)) | ((refine go2 (fun xe hxe => ?_)); (conv => whnf)) | ((with_reducible refine cnd_d (fun hq => ?_) (fun hq => ?_)) <;> (conv => whnf)) | ((with_reducible refine cnd_i (fun hq => ?_) (fun hq => ?_)) <;> ((try simp only [decide_eq_true_eq, decide_eq_false_iff_not, Bool.not_eq_true', Bool.not_eq_false', beq_iff_eq, bne_iff_ne, beq_eq_false_iff_ne, bne_eq_false_iff_eq, ne_eq] at hq) <;> (first | omega | (conv => whnf)))) | ((with_reducible first | apply at_cond | apply at_ret | apply at_exit | apply at_skip); (conv => whnf)) | (with_reducible apply at_block) | ((with_reducible refine at_regD Θ_ok mixed (by kernel_rfl) ?_); (conv => whnf)))))
    rename_i e0 h0 e1 h1 e2 h2 e3 h3 e4 h4 e5 h5
    obtain rfl : e0 = e 0 := Option.some.inj (h0.symm.trans (hg 0 (by omega)))
    obtain rfl : e1 = e 1 := Option.some.inj (h1.symm.trans (hg 1 (by omega)))
    obtain rfl : e2 = e 2 := Option.some.inj (h2.symm.trans (hg 2 (by omega)))
    obtain rfl : e3 = e 3 := Option.some.inj (h3.symm.trans (hg 3 (by omega)))
    obtain rfl : e4 = e 4 := Option.some.inj (h4.symm.trans (hg 4 (by omega)))
    obtain rfl : e5 = e 5 := Option.some.inj (h5.symm.trans (hg 5 (by omega)))
    obtain rfl : xe = e 6 := Option.some.inj (hxe.symm.trans (hg 6 (by omega)))
    clear h0 h1 h2 h3 h4 h5 hxe
    refine at_loop hK [] [3, 9, 11, 16, 17] (fun j : Nat => ⟨[(3, .ref 4), (9, .fptr 0 k 0), (11, .int .i64 (r : Int)), (16, .agg [.obo .vtx (e 0), .obo .vtx (e 1), .obo .vtx (e 2), .obo .vtx (e 3), .obo .vtx (e 4), .obo .vtx (e 5), .obo .vtx (e 6)]), (17, .int .i64 (j : Int))], [(0, .fvari 120 217 (.ob .vtx) tabs), (4, .row 63 .vtx (vtsV (tab.take (r * 7 + j))))], 5⟩) (fun j => j ≤ 7) (fun j => 7 - j) 0 (by omega) rfl ?_
    intro j hj
    by_cases hjl : j < 7
    · have hs := vts_take (hg j hjl)
      have hvj : ∀ v, e j = some v → v.parents.length ≤ 1000000 := fun v h => hv v (List.mem_of_getElem? (by rw [hg j hjl, h]))
      have hll := vts_len (tab.take (r * 7 + j))
      rw [List.length_take] at hll
      obtain ⟨j1, hj1⟩ : ∃ j1, j1 = j + 1 := ⟨_, rfl⟩
      have hji : ((j1 : Nat) : Int) = (j : Int) + 1 := by omega
      rw [Nat.add_assoc, ← hj1] at hs
      obtain ⟨o, ho⟩ : ∃ o, o = e j := ⟨_, rfl⟩
      rw [← ho] at hs hvj
      generalize vtsV (tab.take (r * 7 + j)) = l at *
      obtain rfl | rfl | rfl | rfl | rfl | rfl | rfl : j = 0 ∨ j = 1 ∨ j = 2 ∨ j = 3 ∨ j = 4 ∨ j = 5 ∨ j = 6 := by omega
      all_goals
        rw [← ho]
        cases o with
        | none =>
          (repeat (any_goals (first | (with_reducible apply at_seq) | ((with_reducible apply at_regS Θ_ok); (conv => whnf)) | ((refine go ?_); (conv => whnf)) | ((refine go2 (fun xe hxe => ?_)); (conv => whnf)) | ((with_reducible refine cnd_d (fun hq => ?_) (fun hq => ?_)) <;> (conv => whnf)) | ((with_reducible refine cnd_i (fun hq => ?_) (fun hq => ?_)) <;> ((try simp only [decide_eq_true_eq, decide_eq_false_iff_not, Bool.not_eq_true', Bool.not_eq_false', beq_iff_eq, bne_iff_ne, beq_eq_false_iff_ne, bne_eq_false_iff_eq, ne_eq] at hq) <;> (first | omega | (conv => whnf)))) | ((with_reducible first | apply at_cond | apply at_ret | apply at_exit | apply at_skip); (conv => whnf)) | (with_reducible apply at_block) | ((with_reducible refine at_regD Θ_ok mixed (by kernel_rfl) ?_); (conv => whnf)))))
          refine ⟨j1, by omega, by omega, ?_⟩
          rw [hs, hji, Option.toList_none, List.append_nil]
          try rfl
        | some v =>
          have hvv := hvj v rfl
          (repeat (any_goals (first | (with_reducible apply at_seq) | ((with_reducible apply at_regS Θ_ok); (conv => whnf)) | ((refine go ?_); (conv => whnf)) | ((refine go2 (fun xe hxe => ?_)); (conv => whnf)) | ((with_reducible refine cnd_d (fun hq => ?_) (fun hq => ?_)) <;> (conv => whnf)) | ((with_reducible refine cnd_i (fun hq => ?_) (fun hq => ?_)) <;> ((try simp only [decide_eq_true_eq, decide_eq_false_iff_not, Bool.not_eq_true', Bool.not_eq_false', beq_iff_eq, bne_iff_ne, beq_eq_false_iff_ne, bne_eq_false_iff_eq, ne_eq] at hq) <;> (first | omega | (conv => whnf)))) | ((with_reducible first | apply at_cond | apply at_ret | apply at_exit | apply at_skip); (conv => whnf)) | (with_reducible apply at_block) | ((with_reducible refine at_regD Θ_ok mixed (by kernel_rfl) ?_); (conv => whnf)) | ((with_reducible refine call_r ?_); (conv => whnf); (first | ((with_reducible refine call_i (icl_c _ hvv) ?_); (conv => whnf)))))))
          refine ⟨j1, by omega, by omega, ?_⟩
          rw [hs, hji]
          rfl
    · obtain rfl : j = 7 := by omega
      (repeat (any_goals (first | (with_reducible apply at_seq) | ((with_reducible apply at_regS Θ_ok); (conv => whnf)) | ((refine go ?_); (conv => whnf)) | ((refine go2 (fun xe hxe => ?_)); (conv => whnf)) | ((with_reducible refine cnd_d (fun hq => ?_) (fun hq => ?_)) <;> (conv => whnf)) | ((with_reducible refine cnd_i (fun hq => ?_) (fun hq => ?_)) <;> ((try simp only [decide_eq_true_eq, decide_eq_false_iff_not, Bool.not_eq_true', Bool.not_eq_false', beq_iff_eq, bne_iff_ne, beq_eq_false_iff_ne, bne_eq_false_iff_eq, ne_eq] at hq) <;> (first | omega | (conv => whnf)))) | ((with_reducible first | apply at_cond | apply at_ret | apply at_exit | apply at_skip); (conv => whnf)) | (with_reducible apply at_block) | ((with_reducible refine at_regD Θ_ok mixed (by kernel_rfl) ?_); (conv => whnf)))))
      exact ⟨r + 1, by omega, by omega, by rw [show (r + 1) * 7 = r * 7 + 7 by omega]; rfl⟩
  · obtain rfl : r = 31 := by omega
    (repeat (any_goals (first | (with_reducible apply at_seq) | ((with_reducible apply at_regS Θ_ok); (conv => whnf)) | ((refine go ?_); (conv => whnf)) | ((refine go2 (fun xe hxe => ?_)); (conv => whnf)) | ((with_reducible refine cnd_d (fun hq => ?_) (fun hq => ?_)) <;> (conv => whnf)) | ((with_reducible refine cnd_i (fun hq => ?_) (fun hq => ?_)) <;> ((try simp only [decide_eq_true_eq, decide_eq_false_iff_not, Bool.not_eq_true', Bool.not_eq_false', beq_iff_eq, bne_iff_ne, beq_eq_false_iff_ne, bne_eq_false_iff_eq, ne_eq] at hq) <;> (first | omega | (conv => whnf)))) | ((with_reducible first | apply at_cond | apply at_ret | apply at_exit | apply at_skip); (conv => whnf)) | (with_reducible apply at_block) | ((with_reducible refine at_regD Θ_ok mixed (by kernel_rfl) ?_); (conv => whnf)))))
    rw [List.take_of_length_le (by omega)]
    exact ⟨rfl, rfl⟩
theorem ivts_h (tabs : List (List (Option Vtx))) (k : Nat) (tab : List (Option Vtx)) (hk : tabs[k]? = some tab) (ht : tab.length = 217) (hv : ∀ v, some v ∈ tab → v.parents.length ≤ 1000000) : ConV Try.prog 65 [.hpo 0 (some k)] [(0, .fvari 120 217 (.ob .vtx) tabs)] (.lst .vtx (vtsV tab)) [(0, .fvari 120 217 (.ob .vtx) tabs)] := by
  have h := ivts_c tabs k tab hk ht hv
  unfold ConV at h ⊢
  exact h
/-- cloneProposals of proposals of the call's own -/
theorem icpo_c (ps : List Ppl) (hv : ∀ p ∈ ps, p.v.parents.length ≤ 1000000 ∧ p.members.length ≤ 1000000) (hl : ps.length ≤ 1000000) : ConV Try.prog 62 [.ref 4] [(1, .frow 3 (.int .i64) (ps.map (·.members))), (4, .row 65 (.pplm 1) (pms ps))] (.lst .ppl ps) [(1, .frow 3 (.int .i64) (ps.map (·.members))), (4, .row 65 (.pplm 1) (pms ps))] := by
  refine con_eq Θ_ok Try.func62 rfl rfl true 1 5 rfl rfl rfl rfl fun K hK hb1 hb2 => ?_; simp only [argsV, enc, Nat.reduceAdd]
  clear hb1 hb2
  have hpl := pms_len ps
  (repeat (any_goals (first | (with_reducible apply at_seq) | ((with_reducible apply at_regS Θ_ok); (conv => whnf)) | ((refine go ?_); (conv => whnf)) | ((refine go2 (fun xe hxe => ?_)); (conv => whnf)) | ((with_reducible refine cnd_d (fun hq => ?_) (fun hq => ?_)) <;> (conv => whnf)) | ((with_reducible refine cnd_i (fun hq => ?_) (fun hq => ?_)) <;> ((try simp only [decide_eq_true_eq, decide_eq_false_iff_not, Bool.not_eq_true', Bool.not_eq_false', beq_iff_eq, bne_iff_ne, beq_eq_false_iff_ne, bne_eq_false_iff_eq, ne_eq] at hq) <;> (first | omega | (conv => whnf)))) | ((with_reducible first | apply at_cond | apply at_ret | apply at_exit | apply at_skip); (conv => whnf)) | (with_reducible apply at_block) | ((with_reducible refine at_regD Θ_ok mixed (by kernel_rfl) ?_); (conv => whnf)))))
  refine at_loop hK [] [3, 9, 10, 11] (fun i : Nat => ⟨[(3, .ref 5), (9, .ref 4), (10, .int .i64 ps.length), (11, .int .i64 (i : Int))], [(1, .frow 3 (.int .i64) (ps.map (·.members))), (4, .row 65 (.pplm 1) (pms ps)), (5, .row 65 .ppl (ps.take i ++ (List.replicate ps.length p0).drop i))], 6⟩) (fun i => i ≤ ps.length) (fun i => ps.length - i) 0 (by simp) (by simp only [hpl]; simp; rfl) ?_
  intro i hi
  by_cases hlt : i < ps.length
  · have hxe : ps[i]? = some ps[i] := List.getElem?_eq_getElem hlt
    have hg : i < (ps.take i ++ (List.replicate ps.length p0).drop i).length := over_get _ _ (by simp; omega) (by simpa using hlt)
    have hs : (ps.take i ++ (List.replicate ps.length p0).drop i).set i ps[i] = ps.take (i + 1) ++ (List.replicate ps.length p0).drop (i + 1) := by
      rw [set_over _ _ _ (by simp; omega) (by simpa using hlt), List.take_succ_eq_append_getElem hlt]
    obtain ⟨v1, v2⟩ := hv _ (List.getElem_mem hlt)
    have hx1 := pms_at hxe
    have hx2 : (ps.map (·.members))[i]? = some ps[i].members := by rw [List.getElem?_map, hxe]; rfl
    generalize hrow : ps.take i ++ (List.replicate ps.length p0).drop i = row at *
    generalize ps[i] = p at *
    (repeat (any_goals (first | (with_reducible apply at_seq) | ((with_reducible apply at_regS Θ_ok); (conv => whnf)) | ((refine go ?_); (conv => whnf)) | ((refine go2 (fun xe hxe => ?_)); (conv => whnf)) | ((with_reducible refine cnd_d (fun hq => ?_) (fun hq => ?_)) <;> (conv => whnf)) | ((with_reducible refine cnd_i (fun hq => ?_) (fun hq => ?_)) <;> ((try simp only [decide_eq_true_eq, decide_eq_false_iff_not, Bool.not_eq_true', Bool.not_eq_false', beq_iff_eq, bne_iff_ne, beq_eq_false_iff_ne, bne_eq_false_iff_eq, ne_eq] at hq) <;> (first | omega | (conv => whnf)))) | ((with_reducible first | apply at_cond | apply at_ret | apply at_exit | apply at_skip); (conv => whnf)) | (with_reducible apply at_block) | ((with_reducible refine at_regD Θ_ok mixed (by kernel_rfl) ?_); (conv => whnf)) | ((with_reducible refine call_r ?_); (conv => whnf); (first | ((with_reducible refine call_i (icl_c _ v1) ?_); (conv => whnf)))))))
    refine ⟨i + 1, by omega, by omega, ?_⟩
    rw [← hs]
    rfl
  · obtain rfl : i = ps.length := by omega
    (repeat (any_goals (first | (with_reducible apply at_seq) | ((with_reducible apply at_regS Θ_ok); (conv => whnf)) | ((refine go ?_); (conv => whnf)) | ((refine go2 (fun xe hxe => ?_)); (conv => whnf)) | ((with_reducible refine cnd_d (fun hq => ?_) (fun hq => ?_)) <;> (conv => whnf)) | ((with_reducible refine cnd_i (fun hq => ?_) (fun hq => ?_)) <;> ((try simp only [decide_eq_true_eq, decide_eq_false_iff_not, Bool.not_eq_true', Bool.not_eq_false', beq_iff_eq, bne_iff_ne, beq_eq_false_iff_ne, bne_eq_false_iff_eq, ne_eq] at hq) <;> (first | omega | (conv => whnf)))) | ((with_reducible first | apply at_cond | apply at_ret | apply at_exit | apply at_skip); (conv => whnf)) | (with_reducible apply at_block) | ((with_reducible refine at_regD Θ_ok mixed (by kernel_rfl) ?_); (conv => whnf)))))
    simp
end Go.Proofs.Ytfamejohdhkffaa.Am
namespace Go.Proofs.Ytfamejohdhkffaa.Am
set_option linter.unusedSimpArgs false
set_option linter.unusedVariables false
open Go
attribute [local irreducible] Mk Need Ari Get Idx Cnd CallM CallA Opt Unch At ConV
set_option maxRecDepth 10000
theorem iwV_c (w : Wrl) (hl : ∀ g ∈ w.views, g.length ≤ 2000000) : ConV Try.prog 11 [wrlA w] [] (.bool (wrlS w)) [] := by
  have h := iop_c w hl
  have he := wrlS_eq w
  refine con_eq Θ_ok Try.func11 rfl rfl false 0 4 rfl rfl rfl rfl fun K hK hb1 hb2 => ?_; simp only [argsV, enc, Nat.reduceAdd]
  clear hb1 hb2
  cases hp : preS w
  · simp only [opR, opO, hp, Bool.false_eq_true, if_false] at h
    (repeat (any_goals (first | (with_reducible apply at_seq) | ((with_reducible apply at_regS Θ_ok); (conv => whnf)) | ((refine go ?_); (conv => whnf)) | ((refine go2 (fun xe hxe => ?_)); (conv => whnf)) | ((with_reducible refine cnd_d (fun hq => ?_) (fun hq => ?_)) <;> (conv => whnf)) | ((with_reducible refine cnd_i (fun hq => ?_) (fun hq => ?_)) <;> ((try simp only [decide_eq_true_eq, decide_eq_false_iff_not, Bool.not_eq_true', Bool.not_eq_false', beq_iff_eq, bne_iff_ne, beq_eq_false_iff_ne, bne_eq_false_iff_eq, ne_eq] at hq) <;> (first | omega | (conv => whnf)))) | ((with_reducible first | apply at_cond | apply at_ret | apply at_exit | apply at_skip); (conv => whnf)) | (with_reducible apply at_block) | ((with_reducible refine at_regD Θ_ok mixed (by kernel_rfl) ?_); (conv => whnf)) | ((with_reducible refine call_r ?_); (conv => whnf); (first | ((with_reducible refine call_i (h) ?_); (conv => whnf)))))))
    exact ⟨by rw [he, hp, Bool.false_and], rfl⟩
  · simp only [opR, opO, hp, if_true] at h
    have hk := pre_kp hp
    rw [hk] at h
    (repeat (any_goals (first | (with_reducible apply at_seq) | ((with_reducible apply at_regS Θ_ok); (conv => whnf)) | ((refine go ?_); (conv => whnf)) | ((refine go2 (fun xe hxe => ?_)); (conv => whnf)) | ((with_reducible refine cnd_d (fun hq => ?_) (fun hq => ?_)) <;> (conv => whnf)) | ((with_reducible refine cnd_i (fun hq => ?_) (fun hq => ?_)) <;> ((try simp only [decide_eq_true_eq, decide_eq_false_iff_not, Bool.not_eq_true', Bool.not_eq_false', beq_iff_eq, bne_iff_ne, beq_eq_false_iff_ne, bne_eq_false_iff_eq, ne_eq] at hq) <;> (first | omega | (conv => whnf)))) | ((with_reducible first | apply at_cond | apply at_ret | apply at_exit | apply at_skip); (conv => whnf)) | (with_reducible apply at_block) | ((with_reducible refine at_regD Θ_ok mixed (by kernel_rfl) ?_); (conv => whnf)) | ((with_reducible refine call_r ?_); (conv => whnf); (first | ((with_reducible refine call_i (h) ?_); (conv => whnf)))))))
    exact ⟨by rw [he, hp, Bool.true_and], rfl⟩
def wldS (c l : List Int) (b : Int) (tabs : List (List (Option Vtx))) (ps : List Ppl) : Nat → VSt
  | 0 => ⟨[(2, .ptr 7 0), (3, .ptr 8 0), (30, .ref 5), (31, .int .i64 tabs.length), (32, .int .i64 0)], rB c l b tabs ps ++ [(7, VB.var 29 [.nils, .nils, .int .i64 0, .nils, .nils]), (8, VB.var 29 [.lst (.int .i64) c, .ref 9, .int .i64 b, .nils, .lst .ppl ps]), (9, VB.row 3 (.int .i64) l)], 10⟩
  | i + 1 => ⟨[(2, .ptr 7 0), (3, .ptr 8 0), (30, .ref 5), (31, .int .i64 tabs.length), (32, .int .i64 ((i + 1 : Nat) : Int))], rB c l b tabs ps ++ [(7, VB.var 29 [.nils, .nils, .int .i64 0, .nils, .nils]), (8, VB.var 29 [.lst (.int .i64) c, .ref 9, .int .i64 b, .ref 10, .lst .ppl ps]), (9, VB.row 3 (.int .i64) l), (10, VB.row 33 (.lst .vtx) ((tabs.take (i + 1)).map vtsV))], 11⟩
set_option maxHeartbeats 1000000 in
theorem iwld_c (c l : List Int) (b : Int) (tabs : List (List (Option Vtx))) (ps : List Ppl) (hc : c ≠ []) (hcl : c.length ≤ 1000000) (hll : l.length ≤ 1000000) (ht : ∀ t ∈ tabs, t.length = 217 ∧ ∀ v, some v ∈ t → v.parents.length ≤ 1000000) (htl : tabs.length ≤ 7) (htl1 : 1 ≤ tabs.length)
    (hv : ∀ p ∈ ps, p.v.parents.length ≤ 1000000 ∧ p.members.length ≤ 1000000) (hpn : ps.length ≤ 1000000) : ConV Try.prog 30 [.ptr 4 0] (rB c l b tabs ps) (wrlA ⟨c, l, b, tabs.map vtsV, ps⟩) (rB c l b tabs ps) := by
  have hC := iclc_c c hc hcl
  have hP := icpo_c ps hv hpn
  have hrl : ((List.range tabs.length).map some).length = tabs.length := by simp
  refine con_eq Θ_ok Try.func30 rfl rfl true 3 7 rfl rfl rfl rfl fun K hK hb1 hb2 => ?_; simp only [argsV, enc, Nat.reduceAdd]
  clear hb1 hb2
  (repeat (any_goals (first | (with_reducible apply at_seq) | ((with_reducible apply at_regS Θ_ok); (conv => whnf)) | ((refine go ?_); (conv => whnf)) | ((refine go2 (fun xe hxe => ?_)); (conv => whnf)) | ((with_reducible refine cnd_d (fun hq => ?_) (fun hq => ?_)) <;> (conv => whnf)) | ((with_reducible refine cnd_i (fun hq => ?_) (fun hq => ?_)) <;> ((try simp only [decide_eq_true_eq, decide_eq_false_iff_not, Bool.not_eq_true', Bool.not_eq_false', beq_iff_eq, bne_iff_ne, beq_eq_false_iff_ne, bne_eq_false_iff_eq, ne_eq] at hq) <;> (first | omega | (conv => whnf)))) | ((with_reducible first | apply at_cond | apply at_ret | apply at_exit | apply at_skip); (conv => whnf)) | (with_reducible apply at_block) | ((with_reducible refine at_regD Θ_ok mixed (by kernel_rfl) ?_); (conv => whnf)) | ((with_reducible refine call_r ?_); (conv => whnf); (first | ((with_reducible refine call_i (hC) ?_); (conv => whnf)))) | ((with_reducible refine call_o ?_); (conv => whnf); (first | ((with_reducible refine call_i (hP) ?_); (conv => whnf)))))))
  refine at_loop hK [] [2, 3, 30, 31, 32] (wldS c l b tabs ps) (fun i => i ≤ tabs.length) (fun i => tabs.length - i) 0 (by simp) (by simp only [hrl]; (conv => whnf); rfl) ?_
  intro i hi
  by_cases hlt : i < tabs.length
  · have hxe : tabs[i]? = some tabs[i] := List.getElem?_eq_getElem hlt
    have hsn : tabs.take (i + 1) = tabs.take i ++ [tabs[i]] := List.take_succ_eq_append_getElem hlt
    obtain ⟨t1, t2⟩ := ht _ (List.getElem_mem hlt)
    have hxv : ((List.range tabs.length).map some)[i]? = some (some i) := by rw [List.getElem?_map, List.getElem?_range hlt]; rfl
    have hV := ivts_h tabs i _ hxe t1 t2
    generalize tabs[i] = tab at *
    cases i with
    | zero =>
      have hst : wldS c l b tabs ps (0 + 1) = ⟨[(2, .ptr 7 0), (3, .ptr 8 0), (30, .ref 5), (31, .int .i64 tabs.length), (32, .int .i64 ((0 + 1 : Nat) : Int))], rB c l b tabs ps ++ [(7, VB.var 29 [.nils, .nils, .int .i64 0, .nils, .nils]), (8, VB.var 29 [.lst (.int .i64) c, .ref 9, .int .i64 b, .ref 10, .lst .ppl ps]), (9, VB.row 3 (.int .i64) l), (10, VB.row 33 (.lst .vtx) [vtsV tab])], 11⟩ := by
        rw [wldS, hsn]
        rfl
      have hs0 : wldS c l b tabs ps 0 = ⟨[(2, .ptr 7 0), (3, .ptr 8 0), (30, .ref 5), (31, .int .i64 tabs.length), (32, .int .i64 0)], rB c l b tabs ps ++ [(7, VB.var 29 [.nils, .nils, .int .i64 0, .nils, .nils]), (8, VB.var 29 [.lst (.int .i64) c, .ref 9, .int .i64 b, .nils, .lst .ppl ps]), (9, VB.row 3 (.int .i64) l)], 10⟩ := rfl
      have hx0 : ((List.range tabs.length).map some)[(0 : Int).toNat]? = some (some 0) := hxv
      rw [hs0]
      (repeat (any_goals (first | (with_reducible apply at_seq) | ((with_reducible apply at_regS Θ_ok); (conv => whnf)) | ((refine go ?_); (conv => whnf)) | ((refine go2 (fun xe hxe => ?_)); (conv => whnf)) | ((with_reducible refine cnd_d (fun hq => ?_) (fun hq => ?_)) <;> (conv => whnf)) | ((with_reducible refine cnd_i (fun hq => ?_) (fun hq => ?_)) <;> ((try simp only [decide_eq_true_eq, decide_eq_false_iff_not, Bool.not_eq_true', Bool.not_eq_false', beq_iff_eq, bne_iff_ne, beq_eq_false_iff_ne, bne_eq_false_iff_eq, ne_eq] at hq) <;> (first | omega | (conv => whnf)))) | ((with_reducible first | apply at_cond | apply at_ret | apply at_exit | apply at_skip); (conv => whnf)) | (with_reducible apply at_block) | ((with_reducible refine at_regD Θ_ok mixed (by kernel_rfl) ?_); (conv => whnf)) | ((with_reducible refine call_o ?_); (conv => whnf); (first | ((with_reducible refine call_i (hV) ?_); (conv => whnf)))))))
      refine ⟨0 + 1, by omega, by omega, ?_⟩
      rw [hst]
      rfl
    | succ i =>
      have hfl : ((tabs.take (i + 1)).map vtsV).length = i + 1 := by rw [List.length_map, List.length_take]; omega
      have hst : wldS c l b tabs ps (i + 1 + 1) = ⟨[(2, .ptr 7 0), (3, .ptr 8 0), (30, .ref 5), (31, .int .i64 tabs.length), (32, .int .i64 ((i + 1 + 1 : Nat) : Int))], rB c l b tabs ps ++ [(7, VB.var 29 [.nils, .nils, .int .i64 0, .nils, .nils]), (8, VB.var 29 [.lst (.int .i64) c, .ref 9, .int .i64 b, .ref 10, .lst .ppl ps]), (9, VB.row 3 (.int .i64) l), (10, VB.row 33 (.lst .vtx) ((tabs.take (i + 1)).map vtsV ++ [vtsV tab]))], 11⟩ := by
        rw [wldS, hsn, List.map_append]
        rfl
      have hs0 : wldS c l b tabs ps (i + 1) = ⟨[(2, .ptr 7 0), (3, .ptr 8 0), (30, .ref 5), (31, .int .i64 tabs.length), (32, .int .i64 ((i + 1 : Nat) : Int))], rB c l b tabs ps ++ [(7, VB.var 29 [.nils, .nils, .int .i64 0, .nils, .nils]), (8, VB.var 29 [.lst (.int .i64) c, .ref 9, .int .i64 b, .ref 10, .lst .ppl ps]), (9, VB.row 3 (.int .i64) l), (10, VB.row 33 (.lst .vtx) ((tabs.take (i + 1)).map vtsV))], 11⟩ := rfl
      rw [hs0]
      clear hs0
      generalize (tabs.take (i + 1)).map vtsV = ts at *
      (repeat (any_goals (first | (with_reducible apply at_seq) | ((with_reducible apply at_regS Θ_ok); (conv => whnf)) | ((refine go ?_); (conv => whnf)) | ((refine go2 (fun xe hxe => ?_)); (conv => whnf)) | ((with_reducible refine cnd_d (fun hq => ?_) (fun hq => ?_)) <;> (conv => whnf)) | ((with_reducible refine cnd_i (fun hq => ?_) (fun hq => ?_)) <;> ((try simp only [decide_eq_true_eq, decide_eq_false_iff_not, Bool.not_eq_true', Bool.not_eq_false', beq_iff_eq, bne_iff_ne, beq_eq_false_iff_ne, bne_eq_false_iff_eq, ne_eq] at hq) <;> (first | omega | (conv => whnf)))) | ((with_reducible first | apply at_cond | apply at_ret | apply at_exit | apply at_skip); (conv => whnf)) | (with_reducible apply at_block) | ((with_reducible refine at_regD Θ_ok mixed (by kernel_rfl) ?_); (conv => whnf)) | ((with_reducible refine call_o ?_); (conv => whnf); (first | ((with_reducible refine call_i (hV) ?_); (conv => whnf)))))))
      refine ⟨i + 1 + 1, by omega, by omega, ?_⟩
      rw [hst]
      rfl
  · cases i with
    | zero => omega
    | succ i =>
      have hs0 : wldS c l b tabs ps (i + 1) = ⟨[(2, .ptr 7 0), (3, .ptr 8 0), (30, .ref 5), (31, .int .i64 tabs.length), (32, .int .i64 ((i + 1 : Nat) : Int))], rB c l b tabs ps ++ [(7, VB.var 29 [.nils, .nils, .int .i64 0, .nils, .nils]), (8, VB.var 29 [.lst (.int .i64) c, .ref 9, .int .i64 b, .ref 10, .lst .ppl ps]), (9, VB.row 3 (.int .i64) l), (10, VB.row 33 (.lst .vtx) (tabs.map vtsV))], 11⟩ := by
        rw [wldS, List.take_of_length_le (by omega)]
      rw [hs0]
      clear hs0
      (repeat (any_goals (first | (with_reducible apply at_seq) | ((with_reducible apply at_regS Θ_ok); (conv => whnf)) | ((refine go ?_); (conv => whnf)) | ((refine go2 (fun xe hxe => ?_)); (conv => whnf)) | ((with_reducible refine cnd_d (fun hq => ?_) (fun hq => ?_)) <;> (conv => whnf)) | ((with_reducible refine cnd_i (fun hq => ?_) (fun hq => ?_)) <;> ((try simp only [decide_eq_true_eq, decide_eq_false_iff_not, Bool.not_eq_true', Bool.not_eq_false', beq_iff_eq, bne_iff_ne, beq_eq_false_iff_ne, bne_eq_false_iff_eq, ne_eq] at hq) <;> (first | omega | (conv => whnf)))) | ((with_reducible first | apply at_cond | apply at_ret | apply at_exit | apply at_skip); (conv => whnf)) | (with_reducible apply at_block) | ((with_reducible refine at_regD Θ_ok mixed (by kernel_rfl) ?_); (conv => whnf)))))
      exact ⟨rfl, rfl⟩
end Go.Proofs.Ytfamejohdhkffaa.Am
namespace Go.Proofs.Ytfamejohdhkffaa.Am
set_option linter.unusedSimpArgs false
set_option linter.unusedVariables false
open Go
attribute [local irreducible] Mk Need Ari Get Idx Cnd CallM CallA Opt Unch At ConV
set_option maxRecDepth 10000
theorem has_c (l : List Int) (n : Int) : ConV Try.prog 50 [.lst (.int .i64) l, .int .i64 n] [] (.bool (l.contains n)) [] := by
  refine con_eq Θ_ok Try.func50 rfl rfl false 0 4 rfl rfl rfl rfl fun K hK hb1 hb2 => ?_; simp only [argsV, enc, Nat.reduceAdd]
  simp [toDL, V.toD, bnd, encD, D.cells] at hb1
  (repeat (any_goals (first | (with_reducible apply at_seq) | ((with_reducible apply at_regS Θ_ok); (conv => whnf)) | ((refine go ?_); (conv => whnf)) | ((refine go2 (fun xe hxe => ?_)); (conv => whnf)) | ((with_reducible refine cnd_d (fun hq => ?_) (fun hq => ?_)) <;> (conv => whnf)) | ((with_reducible refine cnd_i (fun hq => ?_) (fun hq => ?_)) <;> ((try simp only [decide_eq_true_eq, decide_eq_false_iff_not, Bool.not_eq_true', Bool.not_eq_false', beq_iff_eq, bne_iff_ne, beq_eq_false_iff_ne, bne_eq_false_iff_eq, ne_eq] at hq) <;> (first | omega | (conv => whnf)))) | ((with_reducible first | apply at_cond | apply at_ret | apply at_exit | apply at_skip); (conv => whnf)) | (with_reducible apply at_block) | ((with_reducible refine at_regD Θ_ok mixed (by kernel_rfl) ?_); (conv => whnf)))))
  refine at_loop hK [] [0, 1, 5] (fun i : Nat => ⟨[(0, .lst (.int .i64) l), (1, .int .i64 n), (5, .int .i64 i)], [], 4⟩) (fun i => i ≤ l.length ∧ ∀ y ∈ l.take i, (y == n) = false) (fun i => l.length - i) 0 ⟨by simp, by simp⟩ rfl ?_
  rintro i ⟨hi, hall⟩
  by_cases hlt : i < l.length
  · have hxe : l[i]? = some l[i] := List.getElem?_eq_getElem hlt
    have hsn : l.take (i + 1) = l.take i ++ [l[i]] := List.take_succ_eq_append_getElem hlt
    have hm : l[i] ∈ l := List.getElem_mem hlt
    generalize l[i] = x at *
    by_cases h : x = n
    · subst h
      (repeat (any_goals (first | (with_reducible apply at_seq) | ((with_reducible apply at_regS Θ_ok); (conv => whnf)) | ((refine go ?_); (conv => whnf)) | ((refine go2 (fun xe hxe => ?_)); (conv => whnf)) | ((with_reducible refine cnd_d (fun hq => ?_) (fun hq => ?_)) <;> (conv => whnf)) | ((with_reducible refine cnd_i (fun hq => ?_) (fun hq => ?_)) <;> ((try simp only [decide_eq_true_eq, decide_eq_false_iff_not, Bool.not_eq_true', Bool.not_eq_false', beq_iff_eq, bne_iff_ne, beq_eq_false_iff_ne, bne_eq_false_iff_eq, ne_eq] at hq) <;> (first | omega | (conv => whnf)))) | ((with_reducible first | apply at_cond | apply at_ret | apply at_exit | apply at_skip); (conv => whnf)) | (with_reducible apply at_block) | ((with_reducible refine at_regD Θ_ok mixed (by kernel_rfl) ?_); (conv => whnf)))))
      · rw [List.contains_iff_mem.2 hm]
        exact ⟨rfl, rfl⟩
      · exact absurd trivial hq
    · (repeat (any_goals (first | (with_reducible apply at_seq) | ((with_reducible apply at_regS Θ_ok); (conv => whnf)) | ((refine go ?_); (conv => whnf)) | ((refine go2 (fun xe hxe => ?_)); (conv => whnf)) | ((with_reducible refine cnd_d (fun hq => ?_) (fun hq => ?_)) <;> (conv => whnf)) | ((with_reducible refine cnd_i (fun hq => ?_) (fun hq => ?_)) <;> ((try simp only [decide_eq_true_eq, decide_eq_false_iff_not, Bool.not_eq_true', Bool.not_eq_false', beq_iff_eq, bne_iff_ne, beq_eq_false_iff_ne, bne_eq_false_iff_eq, ne_eq] at hq) <;> (first | omega | (conv => whnf)))) | ((with_reducible first | apply at_cond | apply at_ret | apply at_exit | apply at_skip); (conv => whnf)) | (with_reducible apply at_block) | ((with_reducible refine at_regD Θ_ok mixed (by kernel_rfl) ?_); (conv => whnf)))))
      exact ⟨i + 1, ⟨by omega, by rw [hsn]; exact tk_snoc hall (by simpa using h)⟩, by omega, rfl⟩
  · (repeat (any_goals (first | (with_reducible apply at_seq) | ((with_reducible apply at_regS Θ_ok); (conv => whnf)) | ((refine go ?_); (conv => whnf)) | ((refine go2 (fun xe hxe => ?_)); (conv => whnf)) | ((with_reducible refine cnd_d (fun hq => ?_) (fun hq => ?_)) <;> (conv => whnf)) | ((with_reducible refine cnd_i (fun hq => ?_) (fun hq => ?_)) <;> ((try simp only [decide_eq_true_eq, decide_eq_false_iff_not, Bool.not_eq_true', Bool.not_eq_false', beq_iff_eq, bne_iff_ne, beq_eq_false_iff_ne, bne_eq_false_iff_eq, ne_eq] at hq) <;> (first | omega | (conv => whnf)))) | ((with_reducible first | apply at_cond | apply at_ret | apply at_exit | apply at_skip); (conv => whnf)) | (with_reducible apply at_block) | ((with_reducible refine at_regD Θ_ok mixed (by kernel_rfl) ?_); (conv => whnf)))))
    rw [List.take_of_length_le (by omega)] at hall
    have : l.contains n = false := by
      rw [Bool.eq_false_iff]
      intro h
      have := hall _ (List.contains_iff_mem.1 h)
      simp at this
    rw [this]
    exact ⟨rfl, rfl⟩
theorem lEq_ne {a b : List Int} {i : Nat} {x y : Int} (hx : a[i]? = some x) (hy : b[i]? = some y) (h : x ≠ y) : (a == b) = false := by
  rw [beq_eq_false_iff_ne]
  rintro rfl
  rw [hx] at hy
  exact h (Option.some.inj hy)
theorem same_c (v u : Vtx) : ConV Try.prog 78 [vtxA v, vtxA u] [] (.bool (vEq v u)) [] := by
  have hno : ∀ b, vEq v u = b → V.bool b = V.bool (vEq v u) ∧ ([] : VH) = [] := fun b h => ⟨by rw [h], rfl⟩
  refine con_eq Θ_ok Try.func78 rfl rfl false 0 4 rfl rfl rfl rfl fun K hK hb1 hb2 => ?_; simp only [argsV, enc, Nat.reduceAdd]
  simp [toDL, V.toD, bnd, encD, D.cells, intsD] at hb1
  by_cases h1 : v.round = u.round
  rotate_left
  · (repeat (any_goals (first | (with_reducible apply at_seq) | ((with_reducible apply at_regS Θ_ok); (conv => whnf)) | ((refine go ?_); (conv => whnf)) | ((refine go2 (fun xe hxe => ?_)); (conv => whnf)) | ((with_reducible refine cnd_d (fun hq => ?_) (fun hq => ?_)) <;> (conv => whnf)) | ((with_reducible refine cnd_i (fun hq => ?_) (fun hq => ?_)) <;> ((try simp only [decide_eq_true_eq, decide_eq_false_iff_not, Bool.not_eq_true', Bool.not_eq_false', beq_iff_eq, bne_iff_ne, beq_eq_false_iff_ne, bne_eq_false_iff_eq, ne_eq] at hq) <;> (first | omega | (conv => whnf)))) | ((with_reducible first | apply at_cond | apply at_ret | apply at_exit | apply at_skip); (conv => whnf)) | (with_reducible apply at_block) | ((with_reducible refine at_regD Θ_ok mixed (by kernel_rfl) ?_); (conv => whnf)))))
    exact hno _ (by simp [vEq, h1])
  by_cases h2 : v.author = u.author
  rotate_left
  · (repeat (any_goals (first | (with_reducible apply at_seq) | ((with_reducible apply at_regS Θ_ok); (conv => whnf)) | ((refine go ?_); (conv => whnf)) | ((refine go2 (fun xe hxe => ?_)); (conv => whnf)) | ((with_reducible refine cnd_d (fun hq => ?_) (fun hq => ?_)) <;> (conv => whnf)) | ((with_reducible refine cnd_i (fun hq => ?_) (fun hq => ?_)) <;> ((try simp only [decide_eq_true_eq, decide_eq_false_iff_not, Bool.not_eq_true', Bool.not_eq_false', beq_iff_eq, bne_iff_ne, beq_eq_false_iff_ne, bne_eq_false_iff_eq, ne_eq] at hq) <;> (first | omega | (conv => whnf)))) | ((with_reducible first | apply at_cond | apply at_ret | apply at_exit | apply at_skip); (conv => whnf)) | (with_reducible apply at_block) | ((with_reducible refine at_regD Θ_ok mixed (by kernel_rfl) ?_); (conv => whnf)))))
    exact hno _ (by simp [vEq, h2])
  by_cases h3 : v.digest = u.digest
  rotate_left
  · (repeat (any_goals (first | (with_reducible apply at_seq) | ((with_reducible apply at_regS Θ_ok); (conv => whnf)) | ((refine go ?_); (conv => whnf)) | ((refine go2 (fun xe hxe => ?_)); (conv => whnf)) | ((with_reducible refine cnd_d (fun hq => ?_) (fun hq => ?_)) <;> (conv => whnf)) | ((with_reducible refine cnd_i (fun hq => ?_) (fun hq => ?_)) <;> ((try simp only [decide_eq_true_eq, decide_eq_false_iff_not, Bool.not_eq_true', Bool.not_eq_false', beq_iff_eq, bne_iff_ne, beq_eq_false_iff_ne, bne_eq_false_iff_eq, ne_eq] at hq) <;> (first | omega | (conv => whnf)))) | ((with_reducible first | apply at_cond | apply at_ret | apply at_exit | apply at_skip); (conv => whnf)) | (with_reducible apply at_block) | ((with_reducible refine at_regD Θ_ok mixed (by kernel_rfl) ?_); (conv => whnf)))))
    exact hno _ (by simp [vEq, h3])
  have he : vEq v u = (v.parents == u.parents) := by simp [vEq, h1, h2, h3]
  by_cases h4 : v.parents.length = u.parents.length
  rotate_left
  · (repeat (any_goals (first | (with_reducible apply at_seq) | ((with_reducible apply at_regS Θ_ok); (conv => whnf)) | ((refine go ?_); (conv => whnf)) | ((refine go2 (fun xe hxe => ?_)); (conv => whnf)) | ((with_reducible refine cnd_d (fun hq => ?_) (fun hq => ?_)) <;> (conv => whnf)) | ((with_reducible refine cnd_i (fun hq => ?_) (fun hq => ?_)) <;> ((try simp only [decide_eq_true_eq, decide_eq_false_iff_not, Bool.not_eq_true', Bool.not_eq_false', beq_iff_eq, bne_iff_ne, beq_eq_false_iff_ne, bne_eq_false_iff_eq, ne_eq] at hq) <;> (first | omega | (conv => whnf)))) | ((with_reducible first | apply at_cond | apply at_ret | apply at_exit | apply at_skip); (conv => whnf)) | (with_reducible apply at_block) | ((with_reducible refine at_regD Θ_ok mixed (by kernel_rfl) ?_); (conv => whnf)))))
    exact hno _ (by rw [he, beq_eq_false_iff_ne]; intro h; exact h4 (by rw [h]))
  (repeat (any_goals (first | (with_reducible apply at_seq) | ((with_reducible apply at_regS Θ_ok); (conv => whnf)) | ((refine go ?_); (conv => whnf)) | ((refine go2 (fun xe hxe => ?_)); (conv => whnf)) | ((with_reducible refine cnd_d (fun hq => ?_) (fun hq => ?_)) <;> (conv => whnf)) | ((with_reducible refine cnd_i (fun hq => ?_) (fun hq => ?_)) <;> ((try simp only [decide_eq_true_eq, decide_eq_false_iff_not, Bool.not_eq_true', Bool.not_eq_false', beq_iff_eq, bne_iff_ne, beq_eq_false_iff_ne, bne_eq_false_iff_eq, ne_eq] at hq) <;> (first | omega | (conv => whnf)))) | ((with_reducible first | apply at_cond | apply at_ret | apply at_exit | apply at_skip); (conv => whnf)) | (with_reducible apply at_block) | ((with_reducible refine at_regD Θ_ok mixed (by kernel_rfl) ?_); (conv => whnf)))))
  refine at_loop hK [] [2, 3, 5] (fun i : Nat => ⟨[(2, .ptr 4 0), (3, .ptr 5 0), (5, .int .i64 i)], [(4, .var 63 (vtxA v).cells), (5, .var 63 (vtxA u).cells)], 6⟩) (fun i => i ≤ v.parents.length ∧ v.parents.take i = u.parents.take i) (fun i => v.parents.length - i) 0 ⟨by simp, by simp⟩ rfl ?_
  rintro i ⟨hi, hall⟩
  by_cases hlt : i < v.parents.length
  · have hxe : v.parents[i]? = some v.parents[i] := List.getElem?_eq_getElem hlt
    have hye : u.parents[i]? = some (u.parents[i]'(by omega)) := List.getElem?_eq_getElem (by omega)
    have hsn : v.parents.take (i + 1) = v.parents.take i ++ [v.parents[i]] := List.take_succ_eq_append_getElem hlt
    have hsu : u.parents.take (i + 1) = u.parents.take i ++ [u.parents[i]'(by omega)] := List.take_succ_eq_append_getElem (by omega)
    generalize v.parents[i] = x at *
    generalize u.parents[i]'(by omega) = y at *
    by_cases h : x = y
    · subst h
      (repeat (any_goals (first | (with_reducible apply at_seq) | ((with_reducible apply at_regS Θ_ok); (conv => whnf)) | ((refine go ?_); (conv => whnf)) | ((refine go2 (fun xe hxe => ?_)); (conv => whnf)) | ((with_reducible refine cnd_d (fun hq => ?_) (fun hq => ?_)) <;> (conv => whnf)) | ((with_reducible refine cnd_i (fun hq => ?_) (fun hq => ?_)) <;> ((try simp only [decide_eq_true_eq, decide_eq_false_iff_not, Bool.not_eq_true', Bool.not_eq_false', beq_iff_eq, bne_iff_ne, beq_eq_false_iff_ne, bne_eq_false_iff_eq, ne_eq] at hq) <;> (first | omega | (conv => whnf)))) | ((with_reducible first | apply at_cond | apply at_ret | apply at_exit | apply at_skip); (conv => whnf)) | (with_reducible apply at_block) | ((with_reducible refine at_regD Θ_ok mixed (by kernel_rfl) ?_); (conv => whnf)))))
      · exact absurd trivial hq
      · exact ⟨i + 1, ⟨by omega, by rw [hsn, hsu, hall]⟩, by omega, rfl⟩
    · (repeat (any_goals (first | (with_reducible apply at_seq) | ((with_reducible apply at_regS Θ_ok); (conv => whnf)) | ((refine go ?_); (conv => whnf)) | ((refine go2 (fun xe hxe => ?_)); (conv => whnf)) | ((with_reducible refine cnd_d (fun hq => ?_) (fun hq => ?_)) <;> (conv => whnf)) | ((with_reducible refine cnd_i (fun hq => ?_) (fun hq => ?_)) <;> ((try simp only [decide_eq_true_eq, decide_eq_false_iff_not, Bool.not_eq_true', Bool.not_eq_false', beq_iff_eq, bne_iff_ne, beq_eq_false_iff_ne, bne_eq_false_iff_eq, ne_eq] at hq) <;> (first | omega | (conv => whnf)))) | ((with_reducible first | apply at_cond | apply at_ret | apply at_exit | apply at_skip); (conv => whnf)) | (with_reducible apply at_block) | ((with_reducible refine at_regD Θ_ok mixed (by kernel_rfl) ?_); (conv => whnf)))))
      exact hno _ (by rw [he]; exact lEq_ne hxe hye h)
  · (repeat (any_goals (first | (with_reducible apply at_seq) | ((with_reducible apply at_regS Θ_ok); (conv => whnf)) | ((refine go ?_); (conv => whnf)) | ((refine go2 (fun xe hxe => ?_)); (conv => whnf)) | ((with_reducible refine cnd_d (fun hq => ?_) (fun hq => ?_)) <;> (conv => whnf)) | ((with_reducible refine cnd_i (fun hq => ?_) (fun hq => ?_)) <;> ((try simp only [decide_eq_true_eq, decide_eq_false_iff_not, Bool.not_eq_true', Bool.not_eq_false', beq_iff_eq, bne_iff_ne, beq_eq_false_iff_ne, bne_eq_false_iff_eq, ne_eq] at hq) <;> (first | omega | (conv => whnf)))) | ((with_reducible first | apply at_cond | apply at_ret | apply at_exit | apply at_skip); (conv => whnf)) | (with_reducible apply at_block) | ((with_reducible refine at_regD Θ_ok mixed (by kernel_rfl) ?_); (conv => whnf)))))
    rw [List.take_of_length_le (by omega), List.take_of_length_le (by omega)] at hall
    exact hno _ (by rw [he, hall]; simp)
theorem sslt_c (v u : Vtx) : ConV Try.prog 77 [vtxA v, vtxA u] [] (.bool (slt v u)) [] := by
  refine con_eq Θ_ok Try.func77 rfl rfl false 0 4 rfl rfl rfl rfl fun K hK hb1 hb2 => ?_; simp only [argsV, enc, Nat.reduceAdd]
  (repeat (any_goals (first | (with_reducible apply at_seq) | ((with_reducible apply at_regS Θ_ok); (conv => whnf)) | ((refine go ?_); (conv => whnf)) | ((refine go2 (fun xe hxe => ?_)); (conv => whnf)) | ((with_reducible refine cnd_d (fun hq => ?_) (fun hq => ?_)) <;> (conv => whnf)) | ((with_reducible refine cnd_i (fun hq => ?_) (fun hq => ?_)) <;> ((try simp only [decide_eq_true_eq, decide_eq_false_iff_not, Bool.not_eq_true', Bool.not_eq_false', beq_iff_eq, bne_iff_ne, beq_eq_false_iff_ne, bne_eq_false_iff_eq, ne_eq] at hq) <;> (first | omega | (conv => whnf)))) | ((with_reducible first | apply at_cond | apply at_ret | apply at_exit | apply at_skip); (conv => whnf)) | (with_reducible apply at_block) | ((with_reducible refine at_regD Θ_ok mixed (by kernel_rfl) ?_); (conv => whnf)))))
  all_goals (refine ⟨?_, rfl⟩; simp_all [slt])
theorem sdone_c (w : Wrl) (p : Ppl) (hc : comV w.com = true) (hm : mems w.com p.members = true) : ConV Try.prog 54 [wrlA w, pplA p] [] (.bool (don w.com p)) [] := by
  have h1 := mems_in hm
  have h2 := mems_len7 hm
  have h3 := (comV_iff.1 hc).2
  refine con_eq Θ_ok Try.func54 rfl rfl false 0 4 rfl rfl rfl rfl fun K hK hb1 hb2 => ?_; simp only [argsV, enc, Nat.reduceAdd]
  (repeat (any_goals (first | (with_reducible apply at_seq) | ((with_reducible apply at_regS Θ_ok); (conv => whnf)) | ((refine go ?_); (conv => whnf)) | ((refine go2 (fun xe hxe => ?_)); (conv => whnf)) | ((with_reducible refine cnd_d (fun hq => ?_) (fun hq => ?_)) <;> (conv => whnf)) | ((with_reducible refine cnd_i (fun hq => ?_) (fun hq => ?_)) <;> ((try simp only [decide_eq_true_eq, decide_eq_false_iff_not, Bool.not_eq_true', Bool.not_eq_false', beq_iff_eq, bne_iff_ne, beq_eq_false_iff_ne, bne_eq_false_iff_eq, ne_eq] at hq) <;> (first | omega | (conv => whnf)))) | ((with_reducible first | apply at_cond | apply at_ret | apply at_exit | apply at_skip); (conv => whnf)) | (with_reducible apply at_block) | ((with_reducible refine at_regD Θ_ok mixed (by kernel_rfl) ?_); (conv => whnf)) | ((with_reducible refine call_r ?_); (conv => whnf); (first | ((with_reducible refine call_i (wei_c _ _ hc h1 (by omega)) ?_); (conv => whnf)) | ((with_reducible refine call_i (quo_c _ hc) ?_); (conv => whnf)))))))
  exact ⟨rfl, rfl⟩
theorem spro_c (w : Wrl) (hc : comV w.com = true) : ConV Try.prog 48 [wrlA w] [] (.bool (proS w.com w.bad w.props)) [] := by
  refine con_eq Θ_ok Try.func48 rfl rfl false 0 4 rfl rfl rfl rfl fun K hK hb1 hb2 => ?_; simp only [argsV, enc, Nat.reduceAdd]
  simp [toDL, V.toD, bnd, encD, D.cells] at hb1
  (repeat (any_goals (first | (with_reducible apply at_seq) | ((with_reducible apply at_regS Θ_ok); (conv => whnf)) | ((refine go ?_); (conv => whnf)) | ((refine go2 (fun xe hxe => ?_)); (conv => whnf)) | ((with_reducible refine cnd_d (fun hq => ?_) (fun hq => ?_)) <;> (conv => whnf)) | ((with_reducible refine cnd_i (fun hq => ?_) (fun hq => ?_)) <;> ((try simp only [decide_eq_true_eq, decide_eq_false_iff_not, Bool.not_eq_true', Bool.not_eq_false', beq_iff_eq, bne_iff_ne, beq_eq_false_iff_ne, bne_eq_false_iff_eq, ne_eq] at hq) <;> (first | omega | (conv => whnf)))) | ((with_reducible first | apply at_cond | apply at_ret | apply at_exit | apply at_skip); (conv => whnf)) | (with_reducible apply at_block) | ((with_reducible refine at_regD Θ_ok mixed (by kernel_rfl) ?_); (conv => whnf)))))
  refine at_loop hK [] [1, 3] (fun i : Nat => ⟨[(1, .ptr 4 0), (3, .int .i64 i)], [(4, .var 29 (wrlA w).cells)], 5⟩) (fun i => i ≤ w.props.length ∧ ∀ j, j < i → proAt w.com w.bad w.props j = true) (fun i => w.props.length - i) 0 ⟨by simp, by simp⟩ rfl ?_
  rintro i ⟨hi, hall⟩
  by_cases hlt : i < w.props.length
  · have hxe : w.props[i]? = some w.props[i] := List.getElem?_eq_getElem hlt
    have hno : proAt w.com w.bad w.props i = false → V.bool false = V.bool (proS w.com w.bad w.props) ∧ ([] : VH) = [] := fun h => ⟨by rw [proS, allTo_f hlt h, Bool.false_and], rfl⟩
    have hA : proAt w.com w.bad w.props i = (oneP w.com w.props[i] && allTo i (fun k => fitP w.bad w.props[i] (w.props.getD k p0))) := by simp only [proAt, getD_of hxe]
    generalize w.props[i] = p at *
    have hvc := vtx_c w.com p.v hc
    have hmc := mems_c w.com p.members
    cases h1 : vtxS w.com p.v
    · rw [h1] at hvc
      (repeat (any_goals (first | (with_reducible apply at_seq) | ((with_reducible apply at_regS Θ_ok); (conv => whnf)) | ((refine go ?_); (conv => whnf)) | ((refine go2 (fun xe hxe => ?_)); (conv => whnf)) | ((with_reducible refine cnd_d (fun hq => ?_) (fun hq => ?_)) <;> (conv => whnf)) | ((with_reducible refine cnd_i (fun hq => ?_) (fun hq => ?_)) <;> ((try simp only [decide_eq_true_eq, decide_eq_false_iff_not, Bool.not_eq_true', Bool.not_eq_false', beq_iff_eq, bne_iff_ne, beq_eq_false_iff_ne, bne_eq_false_iff_eq, ne_eq] at hq) <;> (first | omega | (conv => whnf)))) | ((with_reducible first | apply at_cond | apply at_ret | apply at_exit | apply at_skip); (conv => whnf)) | (with_reducible apply at_block) | ((with_reducible refine at_regD Θ_ok mixed (by kernel_rfl) ?_); (conv => whnf)) | ((with_reducible refine call_r ?_); (conv => whnf); (first | ((with_reducible refine call_i (hvc) ?_); (conv => whnf)) | ((with_reducible refine call_i (hmc) ?_); (conv => whnf)))))))
      exact hno (by simp [hA, oneP, h1])
    rw [h1] at hvc
    cases h2 : mems w.com p.members
    · rw [h2] at hmc
      (repeat (any_goals (first | (with_reducible apply at_seq) | ((with_reducible apply at_regS Θ_ok); (conv => whnf)) | ((refine go ?_); (conv => whnf)) | ((refine go2 (fun xe hxe => ?_)); (conv => whnf)) | ((with_reducible refine cnd_d (fun hq => ?_) (fun hq => ?_)) <;> (conv => whnf)) | ((with_reducible refine cnd_i (fun hq => ?_) (fun hq => ?_)) <;> ((try simp only [decide_eq_true_eq, decide_eq_false_iff_not, Bool.not_eq_true', Bool.not_eq_false', beq_iff_eq, bne_iff_ne, beq_eq_false_iff_ne, bne_eq_false_iff_eq, ne_eq] at hq) <;> (first | omega | (conv => whnf)))) | ((with_reducible first | apply at_cond | apply at_ret | apply at_exit | apply at_skip); (conv => whnf)) | (with_reducible apply at_block) | ((with_reducible refine at_regD Θ_ok mixed (by kernel_rfl) ?_); (conv => whnf)) | ((with_reducible refine call_r ?_); (conv => whnf); (first | ((with_reducible refine call_i (hvc) ?_); (conv => whnf)) | ((with_reducible refine call_i (hmc) ?_); (conv => whnf)))))))
      exact hno (by simp [hA, oneP, h2])
    rw [h2] at hmc
    (repeat (any_goals (first | (with_reducible apply at_seq) | ((with_reducible apply at_regS Θ_ok); (conv => whnf)) | ((refine go ?_); (conv => whnf)) | ((refine go2 (fun xe hxe => ?_)); (conv => whnf)) | ((with_reducible refine cnd_d (fun hq => ?_) (fun hq => ?_)) <;> (conv => whnf)) | ((with_reducible refine cnd_i (fun hq => ?_) (fun hq => ?_)) <;> ((try simp only [decide_eq_true_eq, decide_eq_false_iff_not, Bool.not_eq_true', Bool.not_eq_false', beq_iff_eq, bne_iff_ne, beq_eq_false_iff_ne, bne_eq_false_iff_eq, ne_eq] at hq) <;> (first | omega | (conv => whnf)))) | ((with_reducible first | apply at_cond | apply at_ret | apply at_exit | apply at_skip); (conv => whnf)) | (with_reducible apply at_block) | ((with_reducible refine at_regD Θ_ok mixed (by kernel_rfl) ?_); (conv => whnf)) | ((with_reducible refine call_r ?_); (conv => whnf); (first | ((with_reducible refine call_i (hvc) ?_); (conv => whnf)) | ((with_reducible refine call_i (hmc) ?_); (conv => whnf)))))))
    refine at_loop hK [] [1, 3, 4, 5] (fun k : Nat => ⟨[(1, .ptr 4 0), (3, .int .i64 i), (4, .ptr 5 0), (5, .int .i64 k)], [(4, .var 29 (wrlA w).cells), (5, .var 65 (pplA p).cells)], 6⟩) (fun k => k ≤ i ∧ ∀ j, j < k → fitP w.bad p (w.props.getD j p0) = true) (fun k => i - k) 0 ⟨by simp, by simp⟩ rfl ?_
    rintro k ⟨hk, hkall⟩
    by_cases hkl : k < i
    · have hxk : w.props[k]? = some (w.props.getD k p0) := by rw [List.getD_eq_getElem?_getD, List.getElem?_eq_getElem (show k < w.props.length by omega)]; rfl
      have hyes := all_step hkall (p := fun j => fitP w.bad p (w.props.getD j p0)) (i := k)
      have hnk : fitP w.bad p (w.props.getD k p0) = false → V.bool false = V.bool (proS w.com w.bad w.props) ∧ ([] : VH) = [] := fun h => hno (by rw [hA, allTo_f hkl h, Bool.and_false])
      generalize w.props.getD k p0 = q at *
      have hsc := sslt_c p.v q.v
      have hqc := same_c p.v q.v
      cases h3 : slt p.v q.v
      · rw [h3] at hsc
        (repeat (any_goals (first | (with_reducible apply at_seq) | ((with_reducible apply at_regS Θ_ok); (conv => whnf)) | ((refine go ?_); (conv => whnf)) | ((refine go2 (fun xe hxe => ?_)); (conv => whnf)) | ((with_reducible refine cnd_d (fun hq => ?_) (fun hq => ?_)) <;> (conv => whnf)) | ((with_reducible refine cnd_i (fun hq => ?_) (fun hq => ?_)) <;> ((try simp only [decide_eq_true_eq, decide_eq_false_iff_not, Bool.not_eq_true', Bool.not_eq_false', beq_iff_eq, bne_iff_ne, beq_eq_false_iff_ne, bne_eq_false_iff_eq, ne_eq] at hq) <;> (first | omega | (conv => whnf)))) | ((with_reducible first | apply at_cond | apply at_ret | apply at_exit | apply at_skip); (conv => whnf)) | (with_reducible apply at_block) | ((with_reducible refine at_regD Θ_ok mixed (by kernel_rfl) ?_); (conv => whnf)) | ((with_reducible refine call_r ?_); (conv => whnf); (first | ((with_reducible refine call_i (hsc) ?_); (conv => whnf)) | ((with_reducible refine call_i (hqc) ?_); (conv => whnf)))))))
        exact ⟨k + 1, ⟨by omega, hyes (by simp [fitP, h3])⟩, by omega, rfl⟩
      rw [h3] at hsc
      cases h4 : vEq p.v q.v
      rotate_left
      · rw [h4] at hqc
        (repeat (any_goals (first | (with_reducible apply at_seq) | ((with_reducible apply at_regS Θ_ok); (conv => whnf)) | ((refine go ?_); (conv => whnf)) | ((refine go2 (fun xe hxe => ?_)); (conv => whnf)) | ((with_reducible refine cnd_d (fun hq => ?_) (fun hq => ?_)) <;> (conv => whnf)) | ((with_reducible refine cnd_i (fun hq => ?_) (fun hq => ?_)) <;> ((try simp only [decide_eq_true_eq, decide_eq_false_iff_not, Bool.not_eq_true', Bool.not_eq_false', beq_iff_eq, bne_iff_ne, beq_eq_false_iff_ne, bne_eq_false_iff_eq, ne_eq] at hq) <;> (first | omega | (conv => whnf)))) | ((with_reducible first | apply at_cond | apply at_ret | apply at_exit | apply at_skip); (conv => whnf)) | (with_reducible apply at_block) | ((with_reducible refine at_regD Θ_ok mixed (by kernel_rfl) ?_); (conv => whnf)) | ((with_reducible refine call_r ?_); (conv => whnf); (first | ((with_reducible refine call_i (hsc) ?_); (conv => whnf)) | ((with_reducible refine call_i (hqc) ?_); (conv => whnf)))))))
        exact hnk (by simp [fitP, h3, h4])
      rw [h4] at hqc
      by_cases h5 : p.v.author = w.bad
      rotate_left
      · (repeat (any_goals (first | (with_reducible apply at_seq) | ((with_reducible apply at_regS Θ_ok); (conv => whnf)) | ((refine go ?_); (conv => whnf)) | ((refine go2 (fun xe hxe => ?_)); (conv => whnf)) | ((with_reducible refine cnd_d (fun hq => ?_) (fun hq => ?_)) <;> (conv => whnf)) | ((with_reducible refine cnd_i (fun hq => ?_) (fun hq => ?_)) <;> ((try simp only [decide_eq_true_eq, decide_eq_false_iff_not, Bool.not_eq_true', Bool.not_eq_false', beq_iff_eq, bne_iff_ne, beq_eq_false_iff_ne, bne_eq_false_iff_eq, ne_eq] at hq) <;> (first | omega | (conv => whnf)))) | ((with_reducible first | apply at_cond | apply at_ret | apply at_exit | apply at_skip); (conv => whnf)) | (with_reducible apply at_block) | ((with_reducible refine at_regD Θ_ok mixed (by kernel_rfl) ?_); (conv => whnf)) | ((with_reducible refine call_r ?_); (conv => whnf); (first | ((with_reducible refine call_i (hsc) ?_); (conv => whnf)) | ((with_reducible refine call_i (hqc) ?_); (conv => whnf)))))))
        exact hnk (by simp [fitP, h3, h5])
      have hfe : fitP w.bad p q = !both w.bad p.members q.members := by simp [fitP, h3, h4, h5]
      (repeat (any_goals (first | (with_reducible apply at_seq) | ((with_reducible apply at_regS Θ_ok); (conv => whnf)) | ((refine go ?_); (conv => whnf)) | ((refine go2 (fun xe hxe => ?_)); (conv => whnf)) | ((with_reducible refine cnd_d (fun hq => ?_) (fun hq => ?_)) <;> (conv => whnf)) | ((with_reducible refine cnd_i (fun hq => ?_) (fun hq => ?_)) <;> ((try simp only [decide_eq_true_eq, decide_eq_false_iff_not, Bool.not_eq_true', Bool.not_eq_false', beq_iff_eq, bne_iff_ne, beq_eq_false_iff_ne, bne_eq_false_iff_eq, ne_eq] at hq) <;> (first | omega | (conv => whnf)))) | ((with_reducible first | apply at_cond | apply at_ret | apply at_exit | apply at_skip); (conv => whnf)) | (with_reducible apply at_block) | ((with_reducible refine at_regD Θ_ok mixed (by kernel_rfl) ?_); (conv => whnf)) | ((with_reducible refine call_r ?_); (conv => whnf); (first | ((with_reducible refine call_i (hsc) ?_); (conv => whnf)) | ((with_reducible refine call_i (hqc) ?_); (conv => whnf)))))))
      refine at_loop hK [] [1, 3, 4, 5, 6, 7] (fun n : Nat => ⟨[(1, .ptr 4 0), (3, .int .i64 i), (4, .ptr 5 0), (5, .int .i64 k), (6, .ptr 6 0), (7, .int .i64 n)], [(4, .var 29 (wrlA w).cells), (5, .var 65 (pplA p).cells), (6, .var 65 (pplA q).cells)], 7⟩) (fun n => n ≤ p.members.length ∧ ∀ m ∈ p.members.take n, (m != w.bad && q.members.contains m) = false) (fun n => p.members.length - n) 0 ⟨by simp, by simp⟩ rfl ?_
      rintro n ⟨hn, hnall⟩
      by_cases hnl : n < p.members.length
      · have hxm : p.members[n]? = some p.members[n] := List.getElem?_eq_getElem hnl
        have hsn : p.members.take (n + 1) = p.members.take n ++ [p.members[n]] := List.take_succ_eq_append_getElem hnl
        have hmm : p.members[n] ∈ p.members := List.getElem_mem hnl
        have hml : p.members.length ≤ 7 := by have := mems_len7 h2; have := (comV_iff.1 hc).2; omega
        generalize p.members[n] = m at *
        have hhc := has_c q.members m
        by_cases h6 : m = w.bad
        · (repeat (any_goals (first | (with_reducible apply at_seq) | ((with_reducible apply at_regS Θ_ok); (conv => whnf)) | ((refine go ?_); (conv => whnf)) | ((refine go2 (fun xe hxe => ?_)); (conv => whnf)) | ((with_reducible refine cnd_d (fun hq => ?_) (fun hq => ?_)) <;> (conv => whnf)) | ((with_reducible refine cnd_i (fun hq => ?_) (fun hq => ?_)) <;> ((try simp only [decide_eq_true_eq, decide_eq_false_iff_not, Bool.not_eq_true', Bool.not_eq_false', beq_iff_eq, bne_iff_ne, beq_eq_false_iff_ne, bne_eq_false_iff_eq, ne_eq] at hq) <;> (first | omega | (conv => whnf)))) | ((with_reducible first | apply at_cond | apply at_ret | apply at_exit | apply at_skip); (conv => whnf)) | (with_reducible apply at_block) | ((with_reducible refine at_regD Θ_ok mixed (by kernel_rfl) ?_); (conv => whnf)) | ((with_reducible refine call_r ?_); (conv => whnf); (first | ((with_reducible refine call_i (hhc) ?_); (conv => whnf)))))))
          exact ⟨n + 1, ⟨by omega, by rw [hsn]; exact tk_snoc hnall (by simp [h6])⟩, by omega, rfl⟩
        · cases h7 : q.members.contains m
          · rw [h7] at hhc
            (repeat (any_goals (first | (with_reducible apply at_seq) | ((with_reducible apply at_regS Θ_ok); (conv => whnf)) | ((refine go ?_); (conv => whnf)) | ((refine go2 (fun xe hxe => ?_)); (conv => whnf)) | ((with_reducible refine cnd_d (fun hq => ?_) (fun hq => ?_)) <;> (conv => whnf)) | ((with_reducible refine cnd_i (fun hq => ?_) (fun hq => ?_)) <;> ((try simp only [decide_eq_true_eq, decide_eq_false_iff_not, Bool.not_eq_true', Bool.not_eq_false', beq_iff_eq, bne_iff_ne, beq_eq_false_iff_ne, bne_eq_false_iff_eq, ne_eq] at hq) <;> (first | omega | (conv => whnf)))) | ((with_reducible first | apply at_cond | apply at_ret | apply at_exit | apply at_skip); (conv => whnf)) | (with_reducible apply at_block) | ((with_reducible refine at_regD Θ_ok mixed (by kernel_rfl) ?_); (conv => whnf)) | ((with_reducible refine call_r ?_); (conv => whnf); (first | ((with_reducible refine call_i (hhc) ?_); (conv => whnf)))))))
            exact ⟨n + 1, ⟨by omega, by rw [hsn]; exact tk_snoc hnall (by rw [h7, Bool.and_false])⟩, by omega, rfl⟩
          · rw [h7] at hhc
            (repeat (any_goals (first | (with_reducible apply at_seq) | ((with_reducible apply at_regS Θ_ok); (conv => whnf)) | ((refine go ?_); (conv => whnf)) | ((refine go2 (fun xe hxe => ?_)); (conv => whnf)) | ((with_reducible refine cnd_d (fun hq => ?_) (fun hq => ?_)) <;> (conv => whnf)) | ((with_reducible refine cnd_i (fun hq => ?_) (fun hq => ?_)) <;> ((try simp only [decide_eq_true_eq, decide_eq_false_iff_not, Bool.not_eq_true', Bool.not_eq_false', beq_iff_eq, bne_iff_ne, beq_eq_false_iff_ne, bne_eq_false_iff_eq, ne_eq] at hq) <;> (first | omega | (conv => whnf)))) | ((with_reducible first | apply at_cond | apply at_ret | apply at_exit | apply at_skip); (conv => whnf)) | (with_reducible apply at_block) | ((with_reducible refine at_regD Θ_ok mixed (by kernel_rfl) ?_); (conv => whnf)) | ((with_reducible refine call_r ?_); (conv => whnf); (first | ((with_reducible refine call_i (hhc) ?_); (conv => whnf)))))))
            refine hnk ?_
            have : both w.bad p.members q.members = true := List.any_eq_true.2 ⟨m, hmm, by rw [h7]; simpa using h6⟩
            rw [hfe, this]
            rfl
      · (repeat (any_goals (first | (with_reducible apply at_seq) | ((with_reducible apply at_regS Θ_ok); (conv => whnf)) | ((refine go ?_); (conv => whnf)) | ((refine go2 (fun xe hxe => ?_)); (conv => whnf)) | ((with_reducible refine cnd_d (fun hq => ?_) (fun hq => ?_)) <;> (conv => whnf)) | ((with_reducible refine cnd_i (fun hq => ?_) (fun hq => ?_)) <;> ((try simp only [decide_eq_true_eq, decide_eq_false_iff_not, Bool.not_eq_true', Bool.not_eq_false', beq_iff_eq, bne_iff_ne, beq_eq_false_iff_ne, bne_eq_false_iff_eq, ne_eq] at hq) <;> (first | omega | (conv => whnf)))) | ((with_reducible first | apply at_cond | apply at_ret | apply at_exit | apply at_skip); (conv => whnf)) | (with_reducible apply at_block) | ((with_reducible refine at_regD Θ_ok mixed (by kernel_rfl) ?_); (conv => whnf)))))
        rw [List.take_of_length_le (by omega)] at hnall
        have : both w.bad p.members q.members = false := by
          rw [Bool.eq_false_iff]
          intro h
          obtain ⟨m, hm, h⟩ := List.any_eq_true.1 h
          rw [hnall m hm] at h
          cases h
        exact ⟨k + 1, ⟨by omega, hyes (by rw [hfe, this]; rfl)⟩, by omega, rfl⟩
    · have hAt : proAt w.com w.bad w.props i = true := by
        rw [hA, allTo_t (fun j hj => hkall j (by omega)), oneP, h1, h2]
        rfl
      (repeat (any_goals (first | (with_reducible apply at_seq) | ((with_reducible apply at_regS Θ_ok); (conv => whnf)) | ((refine go ?_); (conv => whnf)) | ((refine go2 (fun xe hxe => ?_)); (conv => whnf)) | ((with_reducible refine cnd_d (fun hq => ?_) (fun hq => ?_)) <;> (conv => whnf)) | ((with_reducible refine cnd_i (fun hq => ?_) (fun hq => ?_)) <;> ((try simp only [decide_eq_true_eq, decide_eq_false_iff_not, Bool.not_eq_true', Bool.not_eq_false', beq_iff_eq, bne_iff_ne, beq_eq_false_iff_ne, bne_eq_false_iff_eq, ne_eq] at hq) <;> (first | omega | (conv => whnf)))) | ((with_reducible first | apply at_cond | apply at_ret | apply at_exit | apply at_skip); (conv => whnf)) | (with_reducible apply at_block) | ((with_reducible refine at_regD Θ_ok mixed (by kernel_rfl) ?_); (conv => whnf)))))
      exact ⟨i + 1, ⟨by omega, all_step hall hAt⟩, by omega, rfl⟩
  · (repeat (any_goals (first | (with_reducible apply at_seq) | ((with_reducible apply at_regS Θ_ok); (conv => whnf)) | ((refine go ?_); (conv => whnf)) | ((refine go2 (fun xe hxe => ?_)); (conv => whnf)) | ((with_reducible refine cnd_d (fun hq => ?_) (fun hq => ?_)) <;> (conv => whnf)) | ((with_reducible refine cnd_i (fun hq => ?_) (fun hq => ?_)) <;> ((try simp only [decide_eq_true_eq, decide_eq_false_iff_not, Bool.not_eq_true', Bool.not_eq_false', beq_iff_eq, bne_iff_ne, beq_eq_false_iff_ne, bne_eq_false_iff_eq, ne_eq] at hq) <;> (first | omega | (conv => whnf)))) | ((with_reducible first | apply at_cond | apply at_ret | apply at_exit | apply at_skip); (conv => whnf)) | (with_reducible apply at_block) | ((with_reducible refine at_regD Θ_ok mixed (by kernel_rfl) ?_); (conv => whnf)))))
    rw [proS, allTo_t (fun j hj => hall j (by omega)), Bool.true_and]
    exact ⟨rfl, rfl⟩
theorem sview_c (w : Wrl) (g : List Vtx) (hc : comV w.com = true) (hp : proS w.com w.bad w.props = true) : ConV Try.prog 49 [wrlA w, .lst .vtx g] [] (.bool (viwS w.com w.props g)) [] := by
  have hpl := pro_len hp
  have hv : viwS w.com w.props g = (g.all (knw w.com w.props) && graS w.com g) := rfl
  refine con_eq Θ_ok Try.func49 rfl rfl false 0 4 rfl rfl rfl rfl fun K hK hb1 hb2 => ?_; simp only [argsV, enc, Nat.reduceAdd]
  simp [toDL, V.toD, bnd, encD, D.cells] at hb1
  (repeat (any_goals (first | (with_reducible apply at_seq) | ((with_reducible apply at_regS Θ_ok); (conv => whnf)) | ((refine go ?_); (conv => whnf)) | ((refine go2 (fun xe hxe => ?_)); (conv => whnf)) | ((with_reducible refine cnd_d (fun hq => ?_) (fun hq => ?_)) <;> (conv => whnf)) | ((with_reducible refine cnd_i (fun hq => ?_) (fun hq => ?_)) <;> ((try simp only [decide_eq_true_eq, decide_eq_false_iff_not, Bool.not_eq_true', Bool.not_eq_false', beq_iff_eq, bne_iff_ne, beq_eq_false_iff_ne, bne_eq_false_iff_eq, ne_eq] at hq) <;> (first | omega | (conv => whnf)))) | ((with_reducible first | apply at_cond | apply at_ret | apply at_exit | apply at_skip); (conv => whnf)) | (with_reducible apply at_block) | ((with_reducible refine at_regD Θ_ok mixed (by kernel_rfl) ?_); (conv => whnf)))))
  refine at_loop hK [] [1, 2, 5] (fun i : Nat => ⟨[(1, .lst .vtx g), (2, .ptr 4 0), (5, .int .i64 i)], [(4, .var 29 (wrlA w).cells)], 5⟩) (fun i => i ≤ g.length ∧ ∀ v ∈ g.take i, knw w.com w.props v = true) (fun i => g.length - i) 0 ⟨by simp, by simp⟩ rfl ?_
  rintro i ⟨hi, hall⟩
  by_cases hlt : i < g.length
  · have hxe : g[i]? = some g[i] := List.getElem?_eq_getElem hlt
    have hsn : g.take (i + 1) = g.take i ++ [g[i]] := List.take_succ_eq_append_getElem hlt
    have hvm : g[i] ∈ g := List.getElem_mem hlt
    generalize g[i] = v at *
    (repeat (any_goals (first | (with_reducible apply at_seq) | ((with_reducible apply at_regS Θ_ok); (conv => whnf)) | ((refine go ?_); (conv => whnf)) | ((refine go2 (fun xe hxe => ?_)); (conv => whnf)) | ((with_reducible refine cnd_d (fun hq => ?_) (fun hq => ?_)) <;> (conv => whnf)) | ((with_reducible refine cnd_i (fun hq => ?_) (fun hq => ?_)) <;> ((try simp only [decide_eq_true_eq, decide_eq_false_iff_not, Bool.not_eq_true', Bool.not_eq_false', beq_iff_eq, bne_iff_ne, beq_eq_false_iff_ne, bne_eq_false_iff_eq, ne_eq] at hq) <;> (first | omega | (conv => whnf)))) | ((with_reducible first | apply at_cond | apply at_ret | apply at_exit | apply at_skip); (conv => whnf)) | (with_reducible apply at_block) | ((with_reducible refine at_regD Θ_ok mixed (by kernel_rfl) ?_); (conv => whnf)))))
    refine at_loop hK [] [1, 2, 5, 6, 7] (fun k : Nat => ⟨[(1, .lst .vtx g), (2, .ptr 4 0), (5, .int .i64 i), (6, .bool (knw w.com (w.props.take k) v)), (7, .int .i64 k)], [(4, .var 29 (wrlA w).cells)], 5⟩) (fun k => k ≤ w.props.length) (fun k => w.props.length - k) 0 (by simp) rfl ?_
    intro k hk
    by_cases hkl : k < w.props.length
    · have hxk : w.props[k]? = some w.props[k] := List.getElem?_eq_getElem hkl
      have hks : w.props.take (k + 1) = w.props.take k ++ [w.props[k]] := List.take_succ_eq_append_getElem hkl
      have hom := pro_one hp _ (List.getElem_mem hkl)
      generalize w.props[k] = p at *
      simp only [oneP, Bool.and_eq_true] at hom
      have hks2 : knw w.com (w.props.take (k + 1)) v = (knw w.com (w.props.take k) v || (don w.com p && vEq p.v v)) := by rw [hks]; simp [knw]
      have hdc := sdone_c w p hc hom.2
      have hqc := same_c p.v v
      cases h1 : knw w.com (w.props.take k) v
      · cases h2 : don w.com p
        · rw [h2] at hdc
          (repeat (any_goals (first | (with_reducible apply at_seq) | ((with_reducible apply at_regS Θ_ok); (conv => whnf)) | ((refine go ?_); (conv => whnf)) | ((refine go2 (fun xe hxe => ?_)); (conv => whnf)) | ((with_reducible refine cnd_d (fun hq => ?_) (fun hq => ?_)) <;> (conv => whnf)) | ((with_reducible refine cnd_i (fun hq => ?_) (fun hq => ?_)) <;> ((try simp only [decide_eq_true_eq, decide_eq_false_iff_not, Bool.not_eq_true', Bool.not_eq_false', beq_iff_eq, bne_iff_ne, beq_eq_false_iff_ne, bne_eq_false_iff_eq, ne_eq] at hq) <;> (first | omega | (conv => whnf)))) | ((with_reducible first | apply at_cond | apply at_ret | apply at_exit | apply at_skip); (conv => whnf)) | (with_reducible apply at_block) | ((with_reducible refine at_regD Θ_ok mixed (by kernel_rfl) ?_); (conv => whnf)) | ((with_reducible refine call_r ?_); (conv => whnf); (first | ((with_reducible refine call_i (hdc) ?_); (conv => whnf)) | ((with_reducible refine call_i (hqc) ?_); (conv => whnf)))))))
          exact ⟨k + 1, by omega, by omega, by rw [hks2, h1, h2]; rfl⟩
        · rw [h2] at hdc
          (repeat (any_goals (first | (with_reducible apply at_seq) | ((with_reducible apply at_regS Θ_ok); (conv => whnf)) | ((refine go ?_); (conv => whnf)) | ((refine go2 (fun xe hxe => ?_)); (conv => whnf)) | ((with_reducible refine cnd_d (fun hq => ?_) (fun hq => ?_)) <;> (conv => whnf)) | ((with_reducible refine cnd_i (fun hq => ?_) (fun hq => ?_)) <;> ((try simp only [decide_eq_true_eq, decide_eq_false_iff_not, Bool.not_eq_true', Bool.not_eq_false', beq_iff_eq, bne_iff_ne, beq_eq_false_iff_ne, bne_eq_false_iff_eq, ne_eq] at hq) <;> (first | omega | (conv => whnf)))) | ((with_reducible first | apply at_cond | apply at_ret | apply at_exit | apply at_skip); (conv => whnf)) | (with_reducible apply at_block) | ((with_reducible refine at_regD Θ_ok mixed (by kernel_rfl) ?_); (conv => whnf)) | ((with_reducible refine call_r ?_); (conv => whnf); (first | ((with_reducible refine call_i (hdc) ?_); (conv => whnf)) | ((with_reducible refine call_i (hqc) ?_); (conv => whnf)))))))
          exact ⟨k + 1, by omega, by omega, by rw [hks2, h1, h2]; rfl⟩
      · (repeat (any_goals (first | (with_reducible apply at_seq) | ((with_reducible apply at_regS Θ_ok); (conv => whnf)) | ((refine go ?_); (conv => whnf)) | ((refine go2 (fun xe hxe => ?_)); (conv => whnf)) | ((with_reducible refine cnd_d (fun hq => ?_) (fun hq => ?_)) <;> (conv => whnf)) | ((with_reducible refine cnd_i (fun hq => ?_) (fun hq => ?_)) <;> ((try simp only [decide_eq_true_eq, decide_eq_false_iff_not, Bool.not_eq_true', Bool.not_eq_false', beq_iff_eq, bne_iff_ne, beq_eq_false_iff_ne, bne_eq_false_iff_eq, ne_eq] at hq) <;> (first | omega | (conv => whnf)))) | ((with_reducible first | apply at_cond | apply at_ret | apply at_exit | apply at_skip); (conv => whnf)) | (with_reducible apply at_block) | ((with_reducible refine at_regD Θ_ok mixed (by kernel_rfl) ?_); (conv => whnf)) | ((with_reducible refine call_r ?_); (conv => whnf); (first | ((with_reducible refine call_i (hdc) ?_); (conv => whnf)) | ((with_reducible refine call_i (hqc) ?_); (conv => whnf)))))))
        exact ⟨k + 1, by omega, by omega, by rw [hks2, h1]; rfl⟩
    · rw [List.take_of_length_le (by omega)]
      cases h1 : knw w.com w.props v
      · (repeat (any_goals (first | (with_reducible apply at_seq) | ((with_reducible apply at_regS Θ_ok); (conv => whnf)) | ((refine go ?_); (conv => whnf)) | ((refine go2 (fun xe hxe => ?_)); (conv => whnf)) | ((with_reducible refine cnd_d (fun hq => ?_) (fun hq => ?_)) <;> (conv => whnf)) | ((with_reducible refine cnd_i (fun hq => ?_) (fun hq => ?_)) <;> ((try simp only [decide_eq_true_eq, decide_eq_false_iff_not, Bool.not_eq_true', Bool.not_eq_false', beq_iff_eq, bne_iff_ne, beq_eq_false_iff_ne, bne_eq_false_iff_eq, ne_eq] at hq) <;> (first | omega | (conv => whnf)))) | ((with_reducible first | apply at_cond | apply at_ret | apply at_exit | apply at_skip); (conv => whnf)) | (with_reducible apply at_block) | ((with_reducible refine at_regD Θ_ok mixed (by kernel_rfl) ?_); (conv => whnf)))))
        have : g.all (knw w.com w.props) = false := by
          rw [Bool.eq_false_iff]
          intro h
          rw [List.all_eq_true.1 h v hvm] at h1
          cases h1
        exact ⟨by rw [hv, this, Bool.false_and], rfl⟩
      · (repeat (any_goals (first | (with_reducible apply at_seq) | ((with_reducible apply at_regS Θ_ok); (conv => whnf)) | ((refine go ?_); (conv => whnf)) | ((refine go2 (fun xe hxe => ?_)); (conv => whnf)) | ((with_reducible refine cnd_d (fun hq => ?_) (fun hq => ?_)) <;> (conv => whnf)) | ((with_reducible refine cnd_i (fun hq => ?_) (fun hq => ?_)) <;> ((try simp only [decide_eq_true_eq, decide_eq_false_iff_not, Bool.not_eq_true', Bool.not_eq_false', beq_iff_eq, bne_iff_ne, beq_eq_false_iff_ne, bne_eq_false_iff_eq, ne_eq] at hq) <;> (first | omega | (conv => whnf)))) | ((with_reducible first | apply at_cond | apply at_ret | apply at_exit | apply at_skip); (conv => whnf)) | (with_reducible apply at_block) | ((with_reducible refine at_regD Θ_ok mixed (by kernel_rfl) ?_); (conv => whnf)))))
        exact ⟨i + 1, ⟨by omega, by rw [hsn]; exact tk_snoc hall h1⟩, by omega, rfl⟩
  · rw [List.take_of_length_le (by omega)] at hall
    (repeat (any_goals (first | (with_reducible apply at_seq) | ((with_reducible apply at_regS Θ_ok); (conv => whnf)) | ((refine go ?_); (conv => whnf)) | ((refine go2 (fun xe hxe => ?_)); (conv => whnf)) | ((with_reducible refine cnd_d (fun hq => ?_) (fun hq => ?_)) <;> (conv => whnf)) | ((with_reducible refine cnd_i (fun hq => ?_) (fun hq => ?_)) <;> ((try simp only [decide_eq_true_eq, decide_eq_false_iff_not, Bool.not_eq_true', Bool.not_eq_false', beq_iff_eq, bne_iff_ne, beq_eq_false_iff_ne, bne_eq_false_iff_eq, ne_eq] at hq) <;> (first | omega | (conv => whnf)))) | ((with_reducible first | apply at_cond | apply at_ret | apply at_exit | apply at_skip); (conv => whnf)) | (with_reducible apply at_block) | ((with_reducible refine at_regD Θ_ok mixed (by kernel_rfl) ?_); (conv => whnf)) | ((with_reducible refine call_r ?_); (conv => whnf); (first | ((with_reducible refine call_i (graS_c _ _) ?_); (conv => whnf)))))))
    exact ⟨by rw [hv, List.all_eq_true.2 hall, Bool.true_and], rfl⟩
end Go.Proofs.Ytfamejohdhkffaa.Am
