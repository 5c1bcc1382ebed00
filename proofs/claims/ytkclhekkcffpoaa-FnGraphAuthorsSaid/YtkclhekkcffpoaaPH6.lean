/- Graphs: a vertex is linked. Graphs: all vertices are linked. Graphs: heights, authors, places. What is drawn: the reader of bytes. What is drawn for graphs. The exact laws' own functions on lists of numbers and vertices. The laws FnGraphHeight and FnGraphAuthors. -/
import Derived.Test.YtkclhekkcffpoaaPH5
namespace Go.Proofs.Ytkclhekkcffpoaa.Am
set_option linter.unusedSimpArgs false
set_option linter.unusedVariables false
open Go
attribute [local irreducible] Mk Need Ari Get Idx Cnd CallM CallA Opt Unch At ConV
set_option maxRecDepth 10000

/-- a linked graph, its nodes' row as it is after a link -/
abbrev gO (c : List Int) (s : GS) : VH := [(0, .fvar 84 (.nod 1) s.nodes), (1, .frow 80 (.hp 0) s.rows), (4, .vari 101 [.lst (.int .i64) c, .ref 6] 217 (.hp 0) s.plc []), (5, .gone), (6, .row 80 (.hp 0) ((List.range s.nodes.length).map some))]
theorem nodes_row (s : GS) (v : Vtx) : (List.range s.nodes.length).map some ++ [some s.nodes.length] = (List.range (gstep s v).nodes.length).map some := by
  simp [gstep, List.range_succ]
theorem gstep_plc (s : GS) (v : Vtx) (h : 0 ≤ v.round ∧ 0 ≤ v.author) : s.plc.set (v.round.toNat * 7 + v.author.toNat) (some s.nodes.length) = (gstep s v).plc := by
  have e : (v.round * 7 + v.author).toNat = v.round.toNat * 7 + v.author.toNat := by omega
  simp only [gstep, e]
/-- all parents are there -/
def parG (s : GS) (v : Vtx) : Bool := v.parents.all fun p => (s.at (v.round - 1) p).isSome
abbrev nodV (v : Vtx) (n : Int) (p : V) : VB := .var 84 [.int .i64 v.round, .int .i64 v.author, .lst (.int .i64) v.parents, .int .i64 v.digest, .int .i64 n, p]
abbrev parB (s : GS) (v : Vtx) (i : Nat) : VB := .row 80 (.hp 0) ((v.parents.take i).map fun p => s.at (v.round - 1) p)
def lnkS (c : List Int) (s : GS) (v : Vtx) : Nat → VSt
  | 0 => ⟨[(0, .ptr 4 0), (3, .ptr 6 0), (5, .ptr 7 0), (18, .lst (.int .i64) v.parents), (19, .int .i64 v.parents.length), (20, .int .i64 0)], gR c s ++ [(6, .var 62 (vtxA v).cells), (7, nodV v s.nodes.length .nils)], 8⟩
  | i + 1 => ⟨[(0, .ptr 4 0), (3, .ptr 6 0), (5, .ptr 7 0), (18, .lst (.int .i64) v.parents), (19, .int .i64 v.parents.length), (20, .int .i64 ((i + 1 : Nat) : Int))], gR c s ++ [(6, .var 62 (vtxA v).cells), (7, nodV v s.nodes.length (.ref 8)), (8, parB s v (i + 1))], 9⟩
theorem linkR_c (c : List Int) (s : GS) (v : Vtx) (hs : s.plc.length = 217) (hc : comV c = true) (hv : vtxS c v = true) (hn : s.nodes.length ≤ 2000000) : ConV Try.prog 82 [.ptr 4 0, vtxA v] (gR c s) (.bool (parG s v)) (if parG s v then gO c (gstep s v) else gR c s) := by
  have h7 := (comV_iff.1 hc).2
  obtain ⟨v1, v2, v3, v4, v5, v6⟩ := vtxS_ok hv
  have hml := mems_len v3
  have hmi := mems_in v3
  have hrl : ((List.range s.nodes.length).map some).length = s.nodes.length := by simp
  refine con_eq Θg_ok Try.func82 rfl rfl false 2 6 rfl rfl rfl rfl fun K hK hb1 hb2 => ?_; simp only [argsV, enc, Nat.reduceAdd]
  clear hb1 hb2
  (repeat (any_goals (first | (with_reducible apply at_seq) | ((with_reducible apply at_regS Θg_ok); (conv => whnf)) | ((refine go ?_); (conv => whnf)) | ((refine go2 (fun xe hxe => ?_)); (conv => whnf)) | ((with_reducible refine cnd_d (fun hq => ?_) (fun hq => ?_)) <;> (conv => whnf)) | ((with_reducible refine cnd_i (fun hq => ?_) (fun hq => ?_)) <;> ((try simp only [decide_eq_true_eq, decide_eq_false_iff_not, Bool.not_eq_true', Bool.not_eq_false', beq_iff_eq, bne_iff_ne, beq_eq_false_iff_ne, bne_eq_false_iff_eq, ne_eq] at hq) <;> (first | omega | (conv => whnf)))) | ((with_reducible first | apply at_cond | apply at_ret | apply at_exit | apply at_skip); (conv => whnf)) | (with_reducible apply at_block) | ((with_reducible refine at_regD Θg_ok mixed (by kernel_rfl) ?_); (conv => whnf)))))
  refine at_loop hK [] [0, 3, 5, 18, 19, 20] (lnkS c s v) (fun i => i ≤ v.parents.length ∧ ∀ p ∈ v.parents.take i, (s.at (v.round - 1) p).isSome = true) (fun i => v.parents.length - i) 0 ⟨by simp, by simp⟩ (by simp only [hrl]; rfl) ?_
  rintro i ⟨hi, hall⟩
  have hno : ∀ p ∈ v.parents, s.at (v.round - 1) p = none → parG s v = false := fun p hp h => by
    rw [Bool.eq_false_iff]
    intro h2
    have := List.all_eq_true.1 h2 p hp
    rw [h] at this
    cases this
  by_cases hlt : i < v.parents.length
  · have hxe : v.parents[i]? = some v.parents[i] := List.getElem?_eq_getElem hlt
    have h3 : v.parents.take (i + 1) = v.parents.take i ++ [v.parents[i]] := List.take_succ_eq_append_getElem hlt
    have h4 : v.parents[i] ∈ v.parents := List.getElem_mem hlt
    have hr0 : v.round ≠ 0 := fun h => by rw [v5 h] at hlt; simp at hlt
    have h1 : vIn (v.round - 1) 0 30 = true := vIn_iff.2 (by omega)
    have hlk : lnkS c s v (i + 1) = ⟨[(0, .ptr 4 0), (3, .ptr 6 0), (5, .ptr 7 0), (18, .lst (.int .i64) v.parents), (19, .int .i64 v.parents.length), (20, .int .i64 ((i + 1 : Nat) : Int))], gR c s ++ [(6, .var 62 (vtxA v).cells), (7, nodV v s.nodes.length (.ref 8)), (8, .row 80 (.hp 0) (((v.parents.take i).map fun p => s.at (v.round - 1) p) ++ [s.at (v.round - 1) v.parents[i]]))], 9⟩ := by
      rw [lnkS, parB, h3, List.map_append]; rfl
    generalize v.parents[i] = p at *
    have h2 : hasM c p = true := vIn_iff.2 (by have := hmi p h4; omega)
    have hl2 : ((v.parents.take i).map fun p => s.at (v.round - 1) p).length = i := by rw [List.length_map, List.length_take]; omega
    cases h5 : s.at (v.round - 1) p with
    | none =>
      have hin : (s.at (v.round - 1) p).isNone = true := by rw [h5]; rfl
      have hnn := hno p h4 h5
      cases i with
      | zero =>
        have hx0 : v.parents[(0 : Int).toNat]? = some p := hxe
        unfold lnkS
        (repeat (any_goals (first | (with_reducible apply at_seq) | ((with_reducible apply at_regS Θg_ok); (conv => whnf)) | ((refine go ?_); (conv => whnf)) | ((refine go2 (fun xe hxe => ?_)); (conv => whnf)) | ((with_reducible refine cnd_d (fun hq => ?_) (fun hq => ?_)) <;> (conv => whnf)) | ((with_reducible refine cnd_i (fun hq => ?_) (fun hq => ?_)) <;> ((try simp only [decide_eq_true_eq, decide_eq_false_iff_not, Bool.not_eq_true', Bool.not_eq_false', beq_iff_eq, bne_iff_ne, beq_eq_false_iff_ne, bne_eq_false_iff_eq, ne_eq] at hq) <;> (first | omega | (conv => whnf)))) | ((with_reducible first | apply at_cond | apply at_ret | apply at_exit | apply at_skip); (conv => whnf)) | (with_reducible apply at_block) | ((with_reducible refine at_regD Θg_ok mixed (by kernel_rfl) ?_); (conv => whnf)) | ((with_reducible refine call_o ?_); (conv => whnf); (first | ((with_reducible refine call_i (aty_cR c s (v.round - 1) p hs h7.2 h1 h2) ?_); (conv => whnf)))))))
        exact ⟨by rw [hnn], by rw [hnn]; rfl⟩
      | succ i =>
        unfold lnkS
        (repeat (any_goals (first | (with_reducible apply at_seq) | ((with_reducible apply at_regS Θg_ok); (conv => whnf)) | ((refine go ?_); (conv => whnf)) | ((refine go2 (fun xe hxe => ?_)); (conv => whnf)) | ((with_reducible refine cnd_d (fun hq => ?_) (fun hq => ?_)) <;> (conv => whnf)) | ((with_reducible refine cnd_i (fun hq => ?_) (fun hq => ?_)) <;> ((try simp only [decide_eq_true_eq, decide_eq_false_iff_not, Bool.not_eq_true', Bool.not_eq_false', beq_iff_eq, bne_iff_ne, beq_eq_false_iff_ne, bne_eq_false_iff_eq, ne_eq] at hq) <;> (first | omega | (conv => whnf)))) | ((with_reducible first | apply at_cond | apply at_ret | apply at_exit | apply at_skip); (conv => whnf)) | (with_reducible apply at_block) | ((with_reducible refine at_regD Θg_ok mixed (by kernel_rfl) ?_); (conv => whnf)) | ((with_reducible refine call_o ?_); (conv => whnf); (first | ((with_reducible refine call_i (aty_cR c s (v.round - 1) p hs h7.2 h1 h2) ?_); (conv => whnf)))))))
        exact ⟨by rw [hnn], by rw [hnn]; rfl⟩
    | some k =>
      have hin : (s.at (v.round - 1) p).isNone = false := by rw [h5]; rfl
      cases i with
      | zero =>
        have hx0 : v.parents[(0 : Int).toNat]? = some p := hxe
        unfold lnkS
        (repeat (any_goals (first | (with_reducible apply at_seq) | ((with_reducible apply at_regS Θg_ok); (conv => whnf)) | ((refine go ?_); (conv => whnf)) | ((refine go2 (fun xe hxe => ?_)); (conv => whnf)) | ((with_reducible refine cnd_d (fun hq => ?_) (fun hq => ?_)) <;> (conv => whnf)) | ((with_reducible refine cnd_i (fun hq => ?_) (fun hq => ?_)) <;> ((try simp only [decide_eq_true_eq, decide_eq_false_iff_not, Bool.not_eq_true', Bool.not_eq_false', beq_iff_eq, bne_iff_ne, beq_eq_false_iff_ne, bne_eq_false_iff_eq, ne_eq] at hq) <;> (first | omega | (conv => whnf)))) | ((with_reducible first | apply at_cond | apply at_ret | apply at_exit | apply at_skip); (conv => whnf)) | (with_reducible apply at_block) | ((with_reducible refine at_regD Θg_ok mixed (by kernel_rfl) ?_); (conv => whnf)) | ((with_reducible refine call_o ?_); (conv => whnf); (first | ((with_reducible refine call_i (aty_cR c s (v.round - 1) p hs h7.2 h1 h2) ?_); (conv => whnf)))))))
        refine ⟨0 + 1, ⟨by omega, by rw [h3]; exact tk_snoc hall (by rw [h5]; rfl)⟩, by omega, ?_⟩
        refine Eq.trans ?_ hlk.symm
        rfl
      | succ i =>
        unfold lnkS
        simp only [parB]
        generalize (List.map (fun p => s.at (v.round - 1) p) (List.take (i + 1) v.parents)) = ps at *
        (repeat (any_goals (first | (with_reducible apply at_seq) | ((with_reducible apply at_regS Θg_ok); (conv => whnf)) | ((refine go ?_); (conv => whnf)) | ((refine go2 (fun xe hxe => ?_)); (conv => whnf)) | ((with_reducible refine cnd_d (fun hq => ?_) (fun hq => ?_)) <;> (conv => whnf)) | ((with_reducible refine cnd_i (fun hq => ?_) (fun hq => ?_)) <;> ((try simp only [decide_eq_true_eq, decide_eq_false_iff_not, Bool.not_eq_true', Bool.not_eq_false', beq_iff_eq, bne_iff_ne, beq_eq_false_iff_ne, bne_eq_false_iff_eq, ne_eq] at hq) <;> (first | omega | (conv => whnf)))) | ((with_reducible first | apply at_cond | apply at_ret | apply at_exit | apply at_skip); (conv => whnf)) | (with_reducible apply at_block) | ((with_reducible refine at_regD Θg_ok mixed (by kernel_rfl) ?_); (conv => whnf)) | ((with_reducible refine call_o ?_); (conv => whnf); (first | ((with_reducible refine call_i (aty_cR c s (v.round - 1) p hs h7.2 h1 h2) ?_); (conv => whnf)))))))
        refine ⟨i + 1 + 1, ⟨by omega, by rw [h3]; exact tk_snoc hall (by rw [h5]; rfl)⟩, by omega, ?_⟩
        refine Eq.trans ?_ hlk.symm
        rfl
  · rw [List.take_of_length_le (by omega)] at hall
    have hy : parG s v = true := List.all_eq_true.2 hall
    have hpl := plc_get hs (vIn_iff.2 v1) (a := v.author) (by omega)
    cases i with
    | zero =>
      unfold lnkS
      simp only [gR]
      generalize hnr : (List.map some (List.range s.nodes.length)) = nr at *
      (repeat (any_goals (first | (with_reducible apply at_seq) | ((with_reducible apply at_regS Θg_ok); (conv => whnf)) | ((refine go ?_); (conv => whnf)) | ((refine go2 (fun xe hxe => ?_)); (conv => whnf)) | ((with_reducible refine cnd_d (fun hq => ?_) (fun hq => ?_)) <;> (conv => whnf)) | ((with_reducible refine cnd_i (fun hq => ?_) (fun hq => ?_)) <;> ((try simp only [decide_eq_true_eq, decide_eq_false_iff_not, Bool.not_eq_true', Bool.not_eq_false', beq_iff_eq, bne_iff_ne, beq_eq_false_iff_ne, bne_eq_false_iff_eq, ne_eq] at hq) <;> (first | omega | (conv => whnf)))) | ((with_reducible first | apply at_cond | apply at_ret | apply at_exit | apply at_skip); (conv => whnf)) | (with_reducible apply at_block) | ((with_reducible refine at_regD Θg_ok mixed (by kernel_rfl) ?_); (conv => whnf)))))
      rw [hy]
      refine ⟨rfl, ?_⟩
      have e1 := nodes_row s v
      have e2 := gstep_plc s v ⟨v1.1, v2.1⟩
      simp only [if_true, gO]
      rw [← e1, ← e2, hnr]
      have e3 : v.parents = [] := List.length_eq_zero_iff.1 (by omega)
      have e4 : (gstep s v).nodes = s.nodes ++ [⟨v, s.nodes.length, none⟩] := by simp [gstep, e3]
      have e5 : (gstep s v).rows = s.rows := by simp [gstep, e3]
      rw [e4, e5]
    | succ i =>
      unfold lnkS
      simp only [parB]
      generalize hps : (List.map (fun p => s.at (v.round - 1) p) (List.take (i + 1) v.parents)) = ps at *
      simp only [gR]
      generalize hnr : (List.map some (List.range s.nodes.length)) = nr at *
      (repeat (any_goals (first | (with_reducible apply at_seq) | ((with_reducible apply at_regS Θg_ok); (conv => whnf)) | ((refine go ?_); (conv => whnf)) | ((refine go2 (fun xe hxe => ?_)); (conv => whnf)) | ((with_reducible refine cnd_d (fun hq => ?_) (fun hq => ?_)) <;> (conv => whnf)) | ((with_reducible refine cnd_i (fun hq => ?_) (fun hq => ?_)) <;> ((try simp only [decide_eq_true_eq, decide_eq_false_iff_not, Bool.not_eq_true', Bool.not_eq_false', beq_iff_eq, bne_iff_ne, beq_eq_false_iff_ne, bne_eq_false_iff_eq, ne_eq] at hq) <;> (first | omega | (conv => whnf)))) | ((with_reducible first | apply at_cond | apply at_ret | apply at_exit | apply at_skip); (conv => whnf)) | (with_reducible apply at_block) | ((with_reducible refine at_regD Θg_ok mixed (by kernel_rfl) ?_); (conv => whnf)))))
      rw [hy]
      refine ⟨rfl, ?_⟩
      have e1 := nodes_row s v
      have e2 := gstep_plc s v ⟨v1.1, v2.1⟩
      simp only [if_true, gO]
      rw [← e1, ← e2, hnr]
      have e3 : v.parents ≠ [] := fun h => by rw [h] at hi; simp at hi
      rw [List.take_of_length_le (by omega)] at hps
      simp only [gstep, e3, if_false, hps]
theorem gs0_at (r a : Int) : gs0.at r a = none := by
  simp only [gs0, GS.at, List.getD_eq_getElem?_getD, List.getElem?_replicate]
  split <;> rfl
theorem parG0 (v : Vtx) : parG gs0 v = v.parents.isEmpty := by
  unfold parG
  cases v.parents with
  | nil => rfl
  | cons p l => simp [gs0_at]
theorem linkZ_c (c : List Int) (v : Vtx) (hc : comV c = true) (hv : vtxS c v = true) : ConV Try.prog 82 [.ptr 4 0, vtxA v] (gZ c gs0) (.bool (parG gs0 v)) (if parG gs0 v then gR c (gstep gs0 v) else gZ c gs0) := by
  have h7 := (comV_iff.1 hc).2
  have hs : gs0.plc.length = 217 := List.length_replicate
  obtain ⟨v1, v2, v3, v4, v5, v6⟩ := vtxS_ok hv
  have hmi := mems_in v3
  refine con_eq Θg_ok Try.func82 rfl rfl false 1 5 rfl rfl rfl rfl fun K hK hb1 hb2 => ?_; simp only [argsV, enc, Nat.reduceAdd]
  clear hb1 hb2
  (repeat (any_goals (first | (with_reducible apply at_seq) | ((with_reducible apply at_regS Θg_ok); (conv => whnf)) | ((refine go ?_); (conv => whnf)) | ((refine go2 (fun xe hxe => ?_)); (conv => whnf)) | ((with_reducible refine cnd_d (fun hq => ?_) (fun hq => ?_)) <;> (conv => whnf)) | ((with_reducible refine cnd_i (fun hq => ?_) (fun hq => ?_)) <;> ((try simp only [decide_eq_true_eq, decide_eq_false_iff_not, Bool.not_eq_true', Bool.not_eq_false', beq_iff_eq, bne_iff_ne, beq_eq_false_iff_ne, bne_eq_false_iff_eq, ne_eq] at hq) <;> (first | omega | (conv => whnf)))) | ((with_reducible first | apply at_cond | apply at_ret | apply at_exit | apply at_skip); (conv => whnf)) | (with_reducible apply at_block) | ((with_reducible refine at_regD Θg_ok mixed (by kernel_rfl) ?_); (conv => whnf)))))
  refine at_loop hK [] [0, 3, 5, 18, 19, 20] (fun i : Nat => ⟨[(0, .ptr 4 0), (3, .ptr 5 0), (5, .ptr 6 0), (18, .lst (.int .i64) v.parents), (19, .int .i64 v.parents.length), (20, .int .i64 0)], gZ c gs0 ++ [(5, .var 62 (vtxA v).cells), (6, nodV v 0 .nils)], 7⟩) (fun i => i = 0) (fun i => i) 0 rfl (by simp only [List.length_nil]; rfl) ?_
  rintro i rfl
  have hy := parG0 v
  by_cases hlt : 0 < v.parents.length
  · have hxe : v.parents[0]? = some v.parents[0] := List.getElem?_eq_getElem hlt
    have h4 : v.parents[0] ∈ v.parents := List.getElem_mem hlt
    have hr0 : v.round ≠ 0 := fun h => by rw [v5 h] at hlt; simp at hlt
    have h1 : vIn (v.round - 1) 0 30 = true := vIn_iff.2 (by omega)
    have hne : v.parents.isEmpty = false := by cases h : v.parents with | nil => rw [h] at hlt; simp at hlt | cons _ _ => rfl
    rw [hne] at hy
    rw [hy]
    generalize v.parents[0] = p at *
    have h2 : hasM c p = true := vIn_iff.2 (by have := hmi p h4; omega)
    have hx0 : v.parents[(0 : Int).toNat]? = some p := hxe
    have hin : (gs0.at (v.round - 1) p).isNone = true := by rw [gs0_at]; rfl
    (repeat (any_goals (first | (with_reducible apply at_seq) | ((with_reducible apply at_regS Θg_ok); (conv => whnf)) | ((refine go ?_); (conv => whnf)) | ((refine go2 (fun xe hxe => ?_)); (conv => whnf)) | ((with_reducible refine cnd_d (fun hq => ?_) (fun hq => ?_)) <;> (conv => whnf)) | ((with_reducible refine cnd_i (fun hq => ?_) (fun hq => ?_)) <;> ((try simp only [decide_eq_true_eq, decide_eq_false_iff_not, Bool.not_eq_true', Bool.not_eq_false', beq_iff_eq, bne_iff_ne, beq_eq_false_iff_ne, bne_eq_false_iff_eq, ne_eq] at hq) <;> (first | omega | (conv => whnf)))) | ((with_reducible first | apply at_cond | apply at_ret | apply at_exit | apply at_skip); (conv => whnf)) | (with_reducible apply at_block) | ((with_reducible refine at_regD Θg_ok mixed (by kernel_rfl) ?_); (conv => whnf)) | ((with_reducible refine call_o ?_); (conv => whnf); (first | ((with_reducible refine call_i (aty_cZ c gs0 (v.round - 1) p hs h7.2 h1 h2) ?_); (conv => whnf)))))))
    exact ⟨rfl, rfl⟩
  · have e3 : v.parents = [] := List.length_eq_zero_iff.1 (by omega)
    have hem : v.parents.isEmpty = true := by rw [e3]; rfl
    rw [hem] at hy
    rw [hy]
    have hpl := plc_get hs (vIn_iff.2 v1) (a := v.author) (by omega)
    have e2 := gstep_plc gs0 v ⟨v1.1, v2.1⟩
    have e4 : (gstep gs0 v).nodes = [⟨v, 0, none⟩] := by simp [gstep, e3, gs0]
    have e5 : (gstep gs0 v).rows = [] := by simp [gstep, e3, gs0]
    simp only [if_true, gR]
    rw [← e2, e4, e5]
    (repeat (any_goals (first | (with_reducible apply at_seq) | ((with_reducible apply at_regS Θg_ok); (conv => whnf)) | ((refine go ?_); (conv => whnf)) | ((refine go2 (fun xe hxe => ?_)); (conv => whnf)) | ((with_reducible refine cnd_d (fun hq => ?_) (fun hq => ?_)) <;> (conv => whnf)) | ((with_reducible refine cnd_i (fun hq => ?_) (fun hq => ?_)) <;> ((try simp only [decide_eq_true_eq, decide_eq_false_iff_not, Bool.not_eq_true', Bool.not_eq_false', beq_iff_eq, bne_iff_ne, beq_eq_false_iff_ne, bne_eq_false_iff_eq, ne_eq] at hq) <;> (first | omega | (conv => whnf)))) | ((with_reducible first | apply at_cond | apply at_ret | apply at_exit | apply at_skip); (conv => whnf)) | (with_reducible apply at_block) | ((with_reducible refine at_regD Θg_ok mixed (by kernel_rfl) ?_); (conv => whnf)))))
    exact ⟨rfl, rfl⟩
end Go.Proofs.Ytkclhekkcffpoaa.Am
namespace Go.Proofs.Ytkclhekkcffpoaa.Am
set_option linter.unusedSimpArgs false
set_option linter.unusedVariables false
open Go
attribute [local irreducible] Mk Need Ari Get Idx Cnd CallM CallA Opt Unch At ConV
set_option maxRecDepth 10000

theorem parG_eq {c : List Int} {g : List Vtx} {v : Vtx} (hc : comV c = true) (hg : ∀ u ∈ g, vtxS c u = true) (hv : vtxS c v = true) : parG (gst g) v = parOK g v := by
  obtain ⟨v1, v2, v3, v4, v5, v6⟩ := vtxS_ok hv
  have h7 := (comV_iff.1 hc).2
  unfold parG parOK
  rw [Bool.eq_iff_iff, List.all_eq_true, List.all_eq_true]
  have key : ∀ p ∈ v.parents, ((gst g).at (v.round - 1) p).isSome = hasV g (v.round - 1) p := by
    intro p hp
    have hr0 : v.round ≠ 0 := fun h => by rw [v5 h] at hp; cases hp
    have := mems_in v3 p hp
    exact (gst_at (fun u hu => vtxS_tab hc (hg u hu)) (by omega) (by omega)).1
  constructor
  · intro h p hp; rw [← key p hp]; exact h p hp
  · intro h p hp; rw [key p hp]; exact h p hp
def lgS (c : List Int) (g : List Vtx) : Nat → VSt
  | 0 => ⟨[(0, .lst (.int .i64) c), (1, .lst .vtx g), (6, .ptr 4 0), (15, .lst .vtx g), (16, .int .i64 g.length), (17, .int .i64 0)], gZ c gs0, 5⟩
  | i + 1 => ⟨[(0, .lst (.int .i64) c), (1, .lst .vtx g), (6, .ptr 4 0), (15, .lst .vtx g), (16, .int .i64 g.length), (17, .int .i64 ((i + 1 : Nat) : Int))], gR c (gst (g.take (i + 1))), 6⟩
/-- a graph, linked -/
def gF (c : List Int) (g : List Vtx) : VH := match g with | [] => gZ c gs0 | v :: l => gR c (gst (v :: l))
def lgR (c : List Int) (g : List Vtx) : V := if graS c g then .tup [.ptr 4 0, .bool true] else .tup [.nilp, .bool false]
def lgO (c : List Int) (g : List Vtx) : VH := if graS c g then gF c g else []
theorem graI_no {c : List Int} {g : List Vtx} {i : Nat} (hi : i < g.length) (h : graAtI c g i = false) : graS c g = false := by
  unfold graS
  rw [← graI_eq, allTo_f hi h, Bool.and_false]
theorem graI_vtx {c : List Int} {g : List Vtx} {i : Nat} (h : ∀ j, j < i → graAtI c g j = true) : ∀ u ∈ g.take i, vtxS c u = true := by
  intro u hu
  obtain ⟨j, hj, rfl⟩ := mem_getD (d := v0) hu
  rw [List.length_take] at hj
  have := h j (by omega)
  simp only [graAtI, Bool.and_eq_true] at this
  rw [show (g.take i).getD j v0 = g.getD j v0 by simp only [List.getD_eq_getElem?_getD, List.getElem?_take, if_pos (show j < i by omega)]]
  exact this.1
theorem link_c (c : List Int) (g : List Vtx) (hl : g.length ≤ 2000000) : ConV Try.prog 42 [.lst (.int .i64) c, .lst .vtx g] [] (lgR c g) (lgO c g) := by
  have hbad : graS c g = false → V.tup [.nilp, .bool false] = lgR c g ∧ ([] : VH) = lgO c g := fun h => by simp [lgR, lgO, h]
  refine con_eq Θg_ok Try.func42 rfl rfl false 0 4 rfl rfl rfl rfl fun K hK hb1 hb2 => ?_; simp only [argsV, enc, Nat.reduceAdd]
  clear hb1 hb2
  cases hc : comV c
  · (repeat (any_goals (first | (with_reducible apply at_seq) | ((with_reducible apply at_regS Θg_ok); (conv => whnf)) | ((refine go ?_); (conv => whnf)) | ((refine go2 (fun xe hxe => ?_)); (conv => whnf)) | ((with_reducible refine cnd_d (fun hq => ?_) (fun hq => ?_)) <;> (conv => whnf)) | ((with_reducible refine cnd_i (fun hq => ?_) (fun hq => ?_)) <;> ((try simp only [decide_eq_true_eq, decide_eq_false_iff_not, Bool.not_eq_true', Bool.not_eq_false', beq_iff_eq, bne_iff_ne, beq_eq_false_iff_ne, bne_eq_false_iff_eq, ne_eq] at hq) <;> (first | omega | (conv => whnf)))) | ((with_reducible first | apply at_cond | apply at_ret | apply at_exit | apply at_skip); (conv => whnf)) | (with_reducible apply at_block) | ((with_reducible refine at_regD Θg_ok mixed (by kernel_rfl) ?_); (conv => whnf)) | ((with_reducible refine call_r ?_); (conv => whnf); (first | ((with_reducible refine call_i (icomV_c _) ?_); (conv => whnf)))))))
    exact hbad (by simp [graS, hc])
  (repeat (any_goals (first | (with_reducible apply at_seq) | ((with_reducible apply at_regS Θg_ok); (conv => whnf)) | ((refine go ?_); (conv => whnf)) | ((refine go2 (fun xe hxe => ?_)); (conv => whnf)) | ((with_reducible refine cnd_d (fun hq => ?_) (fun hq => ?_)) <;> (conv => whnf)) | ((with_reducible refine cnd_i (fun hq => ?_) (fun hq => ?_)) <;> ((try simp only [decide_eq_true_eq, decide_eq_false_iff_not, Bool.not_eq_true', Bool.not_eq_false', beq_iff_eq, bne_iff_ne, beq_eq_false_iff_ne, bne_eq_false_iff_eq, ne_eq] at hq) <;> (first | omega | (conv => whnf)))) | ((with_reducible first | apply at_cond | apply at_ret | apply at_exit | apply at_skip); (conv => whnf)) | (with_reducible apply at_block) | ((with_reducible refine at_regD Θg_ok mixed (by kernel_rfl) ?_); (conv => whnf)) | ((with_reducible refine call_r ?_); (conv => whnf); (first | ((with_reducible refine call_i (icomV_c _) ?_); (conv => whnf)))))))
  refine at_tab 4 2 217 0 ?_
  ((conv => whnf); refine mk_i (by kernel_rfl) ?_; (conv => whnf))
  refine at_fam 0 (.fvar 84 (.nod 1) []) rfl ?_
  refine at_fam 1 (.frow 80 (.hp 0) []) rfl ?_
  refine at_loop hK [] [0, 1, 6, 15, 16, 17] (lgS c g) (fun i => i ≤ g.length ∧ ∀ j, j < i → graAtI c g j = true) (fun i => g.length - i) 0 ⟨by simp, by simp⟩ rfl ?_
  rintro i ⟨hi, hall⟩
  by_cases hlt : i < g.length
  · have hxe : g[i]? = some g[i] := List.getElem?_eq_getElem hlt
    have hA : graAtI c g i = (vtxS c g[i] && ((i == 0 || bef (g.getD (i - 1) v0) g[i]) && parOK (g.take i) g[i])) := by simp only [graAtI, getD_of hxe]
    have hno : graAtI c g i = false → V.tup [.nilp, .bool false] = lgR c g ∧ ([] : VH) = lgO c g := fun h => hbad (graI_no hlt h)
    have hgs : gst (g.take (i + 1)) = gstep (gst (g.take i)) g[i] := by rw [List.take_succ_eq_append_getElem hlt, gst_snoc]
    have hgv := graI_vtx hall
    have hys : graAtI c g i = true → ∀ j, j < i + 1 → graAtI c g j = true := fun h => all_step hall h
    generalize g[i] = v at *
    cases h1 : vtxS c v
    · have h2 : (comV c && vtxS c v) = false := by simp [h1]
      cases i with
      | zero =>
        have hx0 : g[(0 : Int).toNat]? = some v := hxe
        unfold lgS
        (repeat (any_goals (first | (with_reducible apply at_seq) | ((with_reducible apply at_regS Θg_ok); (conv => whnf)) | ((refine go ?_); (conv => whnf)) | ((refine go2 (fun xe hxe => ?_)); (conv => whnf)) | ((with_reducible refine cnd_d (fun hq => ?_) (fun hq => ?_)) <;> (conv => whnf)) | ((with_reducible refine cnd_i (fun hq => ?_) (fun hq => ?_)) <;> ((try simp only [decide_eq_true_eq, decide_eq_false_iff_not, Bool.not_eq_true', Bool.not_eq_false', beq_iff_eq, bne_iff_ne, beq_eq_false_iff_ne, bne_eq_false_iff_eq, ne_eq] at hq) <;> (first | omega | (conv => whnf)))) | ((with_reducible first | apply at_cond | apply at_ret | apply at_exit | apply at_skip); (conv => whnf)) | (with_reducible apply at_block) | ((with_reducible refine at_regD Θg_ok mixed (by kernel_rfl) ?_); (conv => whnf)) | ((with_reducible refine call_r ?_); (conv => whnf); (first | ((with_reducible refine call_i (ivtx_c _ _) ?_); (conv => whnf)))))))
        exact hno (by simp [hA, h1])
      | succ i =>
        unfold lgS
        (repeat (any_goals (first | (with_reducible apply at_seq) | ((with_reducible apply at_regS Θg_ok); (conv => whnf)) | ((refine go ?_); (conv => whnf)) | ((refine go2 (fun xe hxe => ?_)); (conv => whnf)) | ((with_reducible refine cnd_d (fun hq => ?_) (fun hq => ?_)) <;> (conv => whnf)) | ((with_reducible refine cnd_i (fun hq => ?_) (fun hq => ?_)) <;> ((try simp only [decide_eq_true_eq, decide_eq_false_iff_not, Bool.not_eq_true', Bool.not_eq_false', beq_iff_eq, bne_iff_ne, beq_eq_false_iff_ne, bne_eq_false_iff_eq, ne_eq] at hq) <;> (first | omega | (conv => whnf)))) | ((with_reducible first | apply at_cond | apply at_ret | apply at_exit | apply at_skip); (conv => whnf)) | (with_reducible apply at_block) | ((with_reducible refine at_regD Θg_ok mixed (by kernel_rfl) ?_); (conv => whnf)) | ((with_reducible refine call_r ?_); (conv => whnf); (first | ((with_reducible refine call_i (ivtx_c _ _) ?_); (conv => whnf)))))))
        exact hno (by simp [hA, h1])
    have h2 : (comV c && vtxS c v) = true := by simp [h1, hc]
    have hpe := parG_eq hc hgv h1
    cases i with
    | zero =>
      have hx0 : g[(0 : Int).toNat]? = some v := hxe
      have hL := linkZ_c c v hc h1
      have hpe : parG gs0 v = parOK (g.take 0) v := hpe
      have hf1 : famLen (VB.fvar 84 (.nod 1) gs0.nodes) ≤ famLen (VB.fvar 84 (.nod 1) (gstep gs0 v).nodes) := Nat.zero_le _
      have hf2 : famLen (VB.frow 80 (.hp 0) gs0.rows) ≤ famLen (VB.frow 80 (.hp 0) (gstep gs0 v).rows) := Nat.zero_le _
      cases h3 : parG gs0 v
      · rw [h3] at hL
        simp only [Bool.false_eq_true, if_false] at hL
        unfold lgS
        (repeat (any_goals (first | (with_reducible apply at_seq) | ((with_reducible apply at_regS Θg_ok); (conv => whnf)) | ((refine go ?_); (conv => whnf)) | ((refine go2 (fun xe hxe => ?_)); (conv => whnf)) | ((with_reducible refine cnd_d (fun hq => ?_) (fun hq => ?_)) <;> (conv => whnf)) | ((with_reducible refine cnd_i (fun hq => ?_) (fun hq => ?_)) <;> ((try simp only [decide_eq_true_eq, decide_eq_false_iff_not, Bool.not_eq_true', Bool.not_eq_false', beq_iff_eq, bne_iff_ne, beq_eq_false_iff_ne, bne_eq_false_iff_eq, ne_eq] at hq) <;> (first | omega | (conv => whnf)))) | ((with_reducible first | apply at_cond | apply at_ret | apply at_exit | apply at_skip); (conv => whnf)) | (with_reducible apply at_block) | ((with_reducible refine at_regD Θg_ok mixed (by kernel_rfl) ?_); (conv => whnf)) | ((with_reducible refine call_r ?_); (conv => whnf); (first | ((with_reducible refine call_i (ivtx_c _ _) ?_); (conv => whnf)))) | ((with_reducible refine call_o ?_); (conv => whnf); (first | ((with_reducible refine call_i (hL) ?_); (conv => whnf)))))))
        exact hno (by rw [hA, ← hpe, h3]; simp)
      · rw [h3] at hL
        simp only [if_true] at hL
        unfold lgS
        (repeat (any_goals (first | (with_reducible apply at_seq) | ((with_reducible apply at_regS Θg_ok); (conv => whnf)) | ((refine go ?_); (conv => whnf)) | ((refine go2 (fun xe hxe => ?_)); (conv => whnf)) | ((with_reducible refine cnd_d (fun hq => ?_) (fun hq => ?_)) <;> (conv => whnf)) | ((with_reducible refine cnd_i (fun hq => ?_) (fun hq => ?_)) <;> ((try simp only [decide_eq_true_eq, decide_eq_false_iff_not, Bool.not_eq_true', Bool.not_eq_false', beq_iff_eq, bne_iff_ne, beq_eq_false_iff_ne, bne_eq_false_iff_eq, ne_eq] at hq) <;> (first | omega | (conv => whnf)))) | ((with_reducible first | apply at_cond | apply at_ret | apply at_exit | apply at_skip); (conv => whnf)) | (with_reducible apply at_block) | ((with_reducible refine at_regD Θg_ok mixed (by kernel_rfl) ?_); (conv => whnf)) | ((with_reducible refine call_r ?_); (conv => whnf); (first | ((with_reducible refine call_i (ivtx_c _ _) ?_); (conv => whnf)))) | ((with_reducible refine call_o ?_); (conv => whnf); (first | ((with_reducible refine call_i (hL) ?_); (conv => whnf)))))))
        refine ⟨0 + 1, ⟨by omega, hys (by rw [hA, ← hpe, h3, h1]; simp)⟩, by omega, ?_⟩
        show _ = VSt.mk _ (gR c (gst (g.take (0 + 1)))) _
        rw [hgs]
        rfl
    | succ i =>
      have hgl : (gst (g.take (i + 1))).nodes.length ≤ 2000000 := by rw [(gst_len _).1, List.length_take]; omega
      have hL := linkR_c c (gst (g.take (i + 1))) v (gst_len _).2 hc h1 hgl
      have hye : g[(((i + 1 : Nat) : Int) - 1).toNat]? = some (g.getD (i + 1 - 1) v0) := by rw [show (((i + 1 : Nat) : Int) - 1).toNat = i by omega, List.getD_eq_getElem?_getD, List.getElem?_eq_getElem (show i < g.length by omega)]; simp only [Nat.add_sub_cancel, List.getElem?_eq_getElem (show i < g.length by omega)]; rfl
      generalize g.getD (i + 1 - 1) v0 = u at *
      have hst : lgS c g (i + 1) = ⟨[(0, .lst (.int .i64) c), (1, .lst .vtx g), (6, .ptr 4 0), (15, .lst .vtx g), (16, .int .i64 g.length), (17, .int .i64 ((i + 1 : Nat) : Int))], gR c (gst (g.take (i + 1))), 6⟩ := rfl
      rw [hst]
      clear hst
      generalize gst (g.take (i + 1)) = s at *
      have hf1 : famLen (VB.fvar 84 (.nod 1) s.nodes) ≤ famLen (VB.fvar 84 (.nod 1) (gstep s v).nodes) := by simp [famLen, gstep]
      have hf2 : famLen (VB.frow 80 (.hp 0) s.rows) ≤ famLen (VB.frow 80 (.hp 0) (gstep s v).rows) := by simp only [famLen, gstep]; split <;> simp
      cases h4 : bef u v
      · (repeat (any_goals (first | (with_reducible apply at_seq) | ((with_reducible apply at_regS Θg_ok); (conv => whnf)) | ((refine go ?_); (conv => whnf)) | ((refine go2 (fun xe hxe => ?_)); (conv => whnf)) | ((with_reducible refine cnd_d (fun hq => ?_) (fun hq => ?_)) <;> (conv => whnf)) | ((with_reducible refine cnd_i (fun hq => ?_) (fun hq => ?_)) <;> ((try simp only [decide_eq_true_eq, decide_eq_false_iff_not, Bool.not_eq_true', Bool.not_eq_false', beq_iff_eq, bne_iff_ne, beq_eq_false_iff_ne, bne_eq_false_iff_eq, ne_eq] at hq) <;> (first | omega | (conv => whnf)))) | ((with_reducible first | apply at_cond | apply at_ret | apply at_exit | apply at_skip); (conv => whnf)) | (with_reducible apply at_block) | ((with_reducible refine at_regD Θg_ok mixed (by kernel_rfl) ?_); (conv => whnf)) | ((with_reducible refine call_r ?_); (conv => whnf); (first | ((with_reducible refine call_i (ivtx_c _ _) ?_); (conv => whnf)) | ((with_reducible refine call_i (ibef_c _ _) ?_); (conv => whnf)))))))
        exact hno (by simp [hA, h1, h4])
      cases h3 : parG s v
      · rw [h3] at hL
        simp only [Bool.false_eq_true, if_false] at hL
        (repeat (any_goals (first | (with_reducible apply at_seq) | ((with_reducible apply at_regS Θg_ok); (conv => whnf)) | ((refine go ?_); (conv => whnf)) | ((refine go2 (fun xe hxe => ?_)); (conv => whnf)) | ((with_reducible refine cnd_d (fun hq => ?_) (fun hq => ?_)) <;> (conv => whnf)) | ((with_reducible refine cnd_i (fun hq => ?_) (fun hq => ?_)) <;> ((try simp only [decide_eq_true_eq, decide_eq_false_iff_not, Bool.not_eq_true', Bool.not_eq_false', beq_iff_eq, bne_iff_ne, beq_eq_false_iff_ne, bne_eq_false_iff_eq, ne_eq] at hq) <;> (first | omega | (conv => whnf)))) | ((with_reducible first | apply at_cond | apply at_ret | apply at_exit | apply at_skip); (conv => whnf)) | (with_reducible apply at_block) | ((with_reducible refine at_regD Θg_ok mixed (by kernel_rfl) ?_); (conv => whnf)) | ((with_reducible refine call_r ?_); (conv => whnf); (first | ((with_reducible refine call_i (ivtx_c _ _) ?_); (conv => whnf)) | ((with_reducible refine call_i (ibef_c _ _) ?_); (conv => whnf)))) | ((with_reducible refine call_o ?_); (conv => whnf); (first | ((with_reducible refine call_i (hL) ?_); (conv => whnf)))))))
        exact hno (by rw [hA, ← hpe, h3]; simp)
      · rw [h3] at hL
        simp only [if_true] at hL
        (repeat (any_goals (first | (with_reducible apply at_seq) | ((with_reducible apply at_regS Θg_ok); (conv => whnf)) | ((refine go ?_); (conv => whnf)) | ((refine go2 (fun xe hxe => ?_)); (conv => whnf)) | ((with_reducible refine cnd_d (fun hq => ?_) (fun hq => ?_)) <;> (conv => whnf)) | ((with_reducible refine cnd_i (fun hq => ?_) (fun hq => ?_)) <;> ((try simp only [decide_eq_true_eq, decide_eq_false_iff_not, Bool.not_eq_true', Bool.not_eq_false', beq_iff_eq, bne_iff_ne, beq_eq_false_iff_ne, bne_eq_false_iff_eq, ne_eq] at hq) <;> (first | omega | (conv => whnf)))) | ((with_reducible first | apply at_cond | apply at_ret | apply at_exit | apply at_skip); (conv => whnf)) | (with_reducible apply at_block) | ((with_reducible refine at_regD Θg_ok mixed (by kernel_rfl) ?_); (conv => whnf)) | ((with_reducible refine call_r ?_); (conv => whnf); (first | ((with_reducible refine call_i (ivtx_c _ _) ?_); (conv => whnf)) | ((with_reducible refine call_i (ibef_c _ _) ?_); (conv => whnf)))) | ((with_reducible refine call_o ?_); (conv => whnf); (first | ((with_reducible refine call_i (hL) ?_); (conv => whnf)))))))
        refine ⟨i + 1 + 1, ⟨by omega, hys (by rw [hA, ← hpe, h3, h1, h4]; simp)⟩, by omega, ?_⟩
        show _ = VSt.mk _ (gR c (gst (g.take (i + 1 + 1)))) _
        rw [hgs]
        rfl
  · have hg : graS c g = true := by
      unfold graS
      rw [hc, ← graI_eq, allTo_t (fun j hj => hall j (by omega))]
      rfl
    have e1 : lgR c g = .tup [.ptr 4 0, .bool true] := by simp [lgR, hg]
    have e2 : lgO c g = gF c g := by simp [lgO, hg]
    rw [e1, e2]
    cases i with
    | zero =>
      have e3 : g = [] := List.length_eq_zero_iff.1 (by omega)
      subst e3
      unfold lgS
      (repeat (any_goals (first | (with_reducible apply at_seq) | ((with_reducible apply at_regS Θg_ok); (conv => whnf)) | ((refine go ?_); (conv => whnf)) | ((refine go2 (fun xe hxe => ?_)); (conv => whnf)) | ((with_reducible refine cnd_d (fun hq => ?_) (fun hq => ?_)) <;> (conv => whnf)) | ((with_reducible refine cnd_i (fun hq => ?_) (fun hq => ?_)) <;> ((try simp only [decide_eq_true_eq, decide_eq_false_iff_not, Bool.not_eq_true', Bool.not_eq_false', beq_iff_eq, bne_iff_ne, beq_eq_false_iff_ne, bne_eq_false_iff_eq, ne_eq] at hq) <;> (first | omega | (conv => whnf)))) | ((with_reducible first | apply at_cond | apply at_ret | apply at_exit | apply at_skip); (conv => whnf)) | (with_reducible apply at_block) | ((with_reducible refine at_regD Θg_ok mixed (by kernel_rfl) ?_); (conv => whnf)))))
      exact ⟨rfl, rfl⟩
    | succ i =>
      have hst : lgS c g (i + 1) = ⟨[(0, .lst (.int .i64) c), (1, .lst .vtx g), (6, .ptr 4 0), (15, .lst .vtx g), (16, .int .i64 g.length), (17, .int .i64 ((i + 1 : Nat) : Int))], gR c (gst g), 6⟩ := by rw [lgS, List.take_of_length_le (by omega)]
      rw [hst]
      cases g with
      | nil => simp at hi
      | cons w g =>
        (repeat (any_goals (first | (with_reducible apply at_seq) | ((with_reducible apply at_regS Θg_ok); (conv => whnf)) | ((refine go ?_); (conv => whnf)) | ((refine go2 (fun xe hxe => ?_)); (conv => whnf)) | ((with_reducible refine cnd_d (fun hq => ?_) (fun hq => ?_)) <;> (conv => whnf)) | ((with_reducible refine cnd_i (fun hq => ?_) (fun hq => ?_)) <;> ((try simp only [decide_eq_true_eq, decide_eq_false_iff_not, Bool.not_eq_true', Bool.not_eq_false', beq_iff_eq, bne_iff_ne, beq_eq_false_iff_ne, bne_eq_false_iff_eq, ne_eq] at hq) <;> (first | omega | (conv => whnf)))) | ((with_reducible first | apply at_cond | apply at_ret | apply at_exit | apply at_skip); (conv => whnf)) | (with_reducible apply at_block) | ((with_reducible refine at_regD Θg_ok mixed (by kernel_rfl) ?_); (conv => whnf)))))
        exact ⟨rfl, rfl⟩
end Go.Proofs.Ytkclhekkcffpoaa.Am
namespace Go.Proofs.Ytkclhekkcffpoaa.Am
set_option linter.unusedSimpArgs false
set_option linter.unusedVariables false
open Go
attribute [local irreducible] Mk Need Ari Get Idx Cnd CallM CallA Opt Unch At ConV
set_option maxRecDepth 10000

theorem authG_eq {c : List Int} {g : List Vtx} (h : GraOK c g) (r : Int) : authG (gst g) r c.length = auth g r := by
  rw [← authI_eq h r]
  unfold authG authI
  congr 1
  refine List.filter_congr fun a ha => ?_
  have h7 := (comV_iff.1 h.com).2
  have ha := List.mem_range.1 ha
  cases h1 : vIn r 0 30
  · rw [Bool.false_and]
    symm
    rw [Bool.eq_false_iff]
    intro h2
    obtain ⟨v, hv, hr, -⟩ := hasV_iff.1 h2
    have := (vtxS_ok (h.vtx v hv)).1
    rw [hr] at this
    rw [vIn_iff.2 this] at h1
    cases h1
  · rw [Bool.true_and]
    exact (gst_at (fun u hu => vtxS_tab h.com (h.vtx u hu)) (vIn_iff.1 h1) (by omega)).1
theorem ihgt_cR (c : List Int) (g : List Vtx) (h : GraOK c g) : ConV Try.prog 43 [.ptr 4 0] (gR c (gst g)) (.int .i64 (hgt c g)) (gR c (gst g)) := by
  have h7 := (comV_iff.1 h.com).2
  have hs := (gst_len g).2
  refine con_eq Θg_ok Try.func43 rfl rfl false 2 6 rfl rfl rfl rfl fun K hK hb1 hb2 => ?_; simp only [argsV, enc, Nat.reduceAdd]
  clear hb1 hb2
  (repeat (any_goals (first | (with_reducible apply at_seq) | ((with_reducible apply at_regS Θg_ok); (conv => whnf)) | ((refine go ?_); (conv => whnf)) | ((refine go2 (fun xe hxe => ?_)); (conv => whnf)) | ((with_reducible refine cnd_d (fun hq => ?_) (fun hq => ?_)) <;> (conv => whnf)) | ((with_reducible refine cnd_i (fun hq => ?_) (fun hq => ?_)) <;> ((try simp only [decide_eq_true_eq, decide_eq_false_iff_not, Bool.not_eq_true', Bool.not_eq_false', beq_iff_eq, bne_iff_ne, beq_eq_false_iff_ne, bne_eq_false_iff_eq, ne_eq] at hq) <;> (first | omega | (conv => whnf)))) | ((with_reducible first | apply at_cond | apply at_ret | apply at_exit | apply at_skip); (conv => whnf)) | (with_reducible apply at_block) | ((with_reducible refine at_regD Θg_ok mixed (by kernel_rfl) ?_); (conv => whnf)))))
  refine at_loop hK [] [0, 3] (fun k : Int => ⟨[(0, .ptr 4 0), (3, .int .i64 k)], gR c (gst g), 6⟩) (fun k => (-1 ≤ k ∧ k ≤ 30) ∧ hgt c g = hgtTo c g (k + 1).toNat) (fun k => (k + 1).toNat) 30 ⟨by simp, rfl⟩ rfl ?_
  rintro k ⟨hi, hh⟩
  by_cases hk : k < 0
  · (repeat (any_goals (first | (with_reducible apply at_seq) | ((with_reducible apply at_regS Θg_ok); (conv => whnf)) | ((refine go ?_); (conv => whnf)) | ((refine go2 (fun xe hxe => ?_)); (conv => whnf)) | ((with_reducible refine cnd_d (fun hq => ?_) (fun hq => ?_)) <;> (conv => whnf)) | ((with_reducible refine cnd_i (fun hq => ?_) (fun hq => ?_)) <;> ((try simp only [decide_eq_true_eq, decide_eq_false_iff_not, Bool.not_eq_true', Bool.not_eq_false', beq_iff_eq, bne_iff_ne, beq_eq_false_iff_ne, bne_eq_false_iff_eq, ne_eq] at hq) <;> (first | omega | (conv => whnf)))) | ((with_reducible first | apply at_cond | apply at_ret | apply at_exit | apply at_skip); (conv => whnf)) | (with_reducible apply at_block) | ((with_reducible refine at_regD Θg_ok mixed (by kernel_rfl) ?_); (conv => whnf)))))
    rw [show (k + 1).toNat = 0 by omega] at hh
    exact ⟨by rw [hh]; rfl, rfl⟩
  · have h1 := auth_mems h k
    have h2 := mems_len h1
    have ha := iauth_cR c (gst g) k hs h7.2
    rw [authG_eq h k] at ha
    have h4 : hgtTo c g (k.toNat + 1) = if quo c ≤ wei c (auth g k.toNat) then (k.toNat : Int) else hgtTo c g k.toNat := rfl
    rw [show ((k.toNat : Nat) : Int) = k by omega] at h4
    rw [show (k + 1).toNat = k.toNat + 1 by omega, h4] at hh
    by_cases h5 : quo c ≤ wei c (auth g k)
    · rw [if_pos h5] at hh
      (repeat (any_goals (first | (with_reducible apply at_seq) | ((with_reducible apply at_regS Θg_ok); (conv => whnf)) | ((refine go ?_); (conv => whnf)) | ((refine go2 (fun xe hxe => ?_)); (conv => whnf)) | ((with_reducible refine cnd_d (fun hq => ?_) (fun hq => ?_)) <;> (conv => whnf)) | ((with_reducible refine cnd_i (fun hq => ?_) (fun hq => ?_)) <;> ((try simp only [decide_eq_true_eq, decide_eq_false_iff_not, Bool.not_eq_true', Bool.not_eq_false', beq_iff_eq, bne_iff_ne, beq_eq_false_iff_ne, bne_eq_false_iff_eq, ne_eq] at hq) <;> (first | omega | (conv => whnf)))) | ((with_reducible first | apply at_cond | apply at_ret | apply at_exit | apply at_skip); (conv => whnf)) | (with_reducible apply at_block) | ((with_reducible refine at_regD Θg_ok mixed (by kernel_rfl) ?_); (conv => whnf)) | ((with_reducible refine call_r ?_); (conv => whnf); (first | ((with_reducible refine call_i (iwei_c _ _ h.com (mems_in h1) (by omega)) ?_); (conv => whnf)) | ((with_reducible refine call_i (iquo_c _ h.com) ?_); (conv => whnf)))) | ((with_reducible refine call_o ?_); (conv => whnf); (first | ((with_reducible refine call_i (ha) ?_); (conv => whnf)))))))
      exact ⟨by rw [hh], rfl⟩
    · rw [if_neg h5] at hh
      (repeat (any_goals (first | (with_reducible apply at_seq) | ((with_reducible apply at_regS Θg_ok); (conv => whnf)) | ((refine go ?_); (conv => whnf)) | ((refine go2 (fun xe hxe => ?_)); (conv => whnf)) | ((with_reducible refine cnd_d (fun hq => ?_) (fun hq => ?_)) <;> (conv => whnf)) | ((with_reducible refine cnd_i (fun hq => ?_) (fun hq => ?_)) <;> ((try simp only [decide_eq_true_eq, decide_eq_false_iff_not, Bool.not_eq_true', Bool.not_eq_false', beq_iff_eq, bne_iff_ne, beq_eq_false_iff_ne, bne_eq_false_iff_eq, ne_eq] at hq) <;> (first | omega | (conv => whnf)))) | ((with_reducible first | apply at_cond | apply at_ret | apply at_exit | apply at_skip); (conv => whnf)) | (with_reducible apply at_block) | ((with_reducible refine at_regD Θg_ok mixed (by kernel_rfl) ?_); (conv => whnf)) | ((with_reducible refine call_r ?_); (conv => whnf); (first | ((with_reducible refine call_i (iwei_c _ _ h.com (mems_in h1) (by omega)) ?_); (conv => whnf)) | ((with_reducible refine call_i (iquo_c _ h.com) ?_); (conv => whnf)))) | ((with_reducible refine call_o ?_); (conv => whnf); (first | ((with_reducible refine call_i (ha) ?_); (conv => whnf)))))))
      exact ⟨k - 1, ⟨by omega, by rw [hh]; congr 1; omega⟩, by omega, rfl⟩
theorem ihgt_cZ (c : List Int) (g : List Vtx) (h : GraOK c g) : ConV Try.prog 43 [.ptr 4 0] (gZ c (gst g)) (.int .i64 (hgt c g)) (gZ c (gst g)) := by
  have h7 := (comV_iff.1 h.com).2
  have hs := (gst_len g).2
  refine con_eq Θg_ok Try.func43 rfl rfl false 1 5 rfl rfl rfl rfl fun K hK hb1 hb2 => ?_; simp only [argsV, enc, Nat.reduceAdd]
  clear hb1 hb2
  (repeat (any_goals (first | (with_reducible apply at_seq) | ((with_reducible apply at_regS Θg_ok); (conv => whnf)) | ((refine go ?_); (conv => whnf)) | ((refine go2 (fun xe hxe => ?_)); (conv => whnf)) | ((with_reducible refine cnd_d (fun hq => ?_) (fun hq => ?_)) <;> (conv => whnf)) | ((with_reducible refine cnd_i (fun hq => ?_) (fun hq => ?_)) <;> ((try simp only [decide_eq_true_eq, decide_eq_false_iff_not, Bool.not_eq_true', Bool.not_eq_false', beq_iff_eq, bne_iff_ne, beq_eq_false_iff_ne, bne_eq_false_iff_eq, ne_eq] at hq) <;> (first | omega | (conv => whnf)))) | ((with_reducible first | apply at_cond | apply at_ret | apply at_exit | apply at_skip); (conv => whnf)) | (with_reducible apply at_block) | ((with_reducible refine at_regD Θg_ok mixed (by kernel_rfl) ?_); (conv => whnf)))))
  refine at_loop hK [] [0, 3] (fun k : Int => ⟨[(0, .ptr 4 0), (3, .int .i64 k)], gZ c (gst g), 5⟩) (fun k => (-1 ≤ k ∧ k ≤ 30) ∧ hgt c g = hgtTo c g (k + 1).toNat) (fun k => (k + 1).toNat) 30 ⟨by simp, rfl⟩ rfl ?_
  rintro k ⟨hi, hh⟩
  by_cases hk : k < 0
  · (repeat (any_goals (first | (with_reducible apply at_seq) | ((with_reducible apply at_regS Θg_ok); (conv => whnf)) | ((refine go ?_); (conv => whnf)) | ((refine go2 (fun xe hxe => ?_)); (conv => whnf)) | ((with_reducible refine cnd_d (fun hq => ?_) (fun hq => ?_)) <;> (conv => whnf)) | ((with_reducible refine cnd_i (fun hq => ?_) (fun hq => ?_)) <;> ((try simp only [decide_eq_true_eq, decide_eq_false_iff_not, Bool.not_eq_true', Bool.not_eq_false', beq_iff_eq, bne_iff_ne, beq_eq_false_iff_ne, bne_eq_false_iff_eq, ne_eq] at hq) <;> (first | omega | (conv => whnf)))) | ((with_reducible first | apply at_cond | apply at_ret | apply at_exit | apply at_skip); (conv => whnf)) | (with_reducible apply at_block) | ((with_reducible refine at_regD Θg_ok mixed (by kernel_rfl) ?_); (conv => whnf)))))
    rw [show (k + 1).toNat = 0 by omega] at hh
    exact ⟨by rw [hh]; rfl, rfl⟩
  · have h1 := auth_mems h k
    have h2 := mems_len h1
    have ha := iauth_cZ c (gst g) k hs h7.2
    rw [authG_eq h k] at ha
    have h4 : hgtTo c g (k.toNat + 1) = if quo c ≤ wei c (auth g k.toNat) then (k.toNat : Int) else hgtTo c g k.toNat := rfl
    rw [show ((k.toNat : Nat) : Int) = k by omega] at h4
    rw [show (k + 1).toNat = k.toNat + 1 by omega, h4] at hh
    by_cases h5 : quo c ≤ wei c (auth g k)
    · rw [if_pos h5] at hh
      (repeat (any_goals (first | (with_reducible apply at_seq) | ((with_reducible apply at_regS Θg_ok); (conv => whnf)) | ((refine go ?_); (conv => whnf)) | ((refine go2 (fun xe hxe => ?_)); (conv => whnf)) | ((with_reducible refine cnd_d (fun hq => ?_) (fun hq => ?_)) <;> (conv => whnf)) | ((with_reducible refine cnd_i (fun hq => ?_) (fun hq => ?_)) <;> ((try simp only [decide_eq_true_eq, decide_eq_false_iff_not, Bool.not_eq_true', Bool.not_eq_false', beq_iff_eq, bne_iff_ne, beq_eq_false_iff_ne, bne_eq_false_iff_eq, ne_eq] at hq) <;> (first | omega | (conv => whnf)))) | ((with_reducible first | apply at_cond | apply at_ret | apply at_exit | apply at_skip); (conv => whnf)) | (with_reducible apply at_block) | ((with_reducible refine at_regD Θg_ok mixed (by kernel_rfl) ?_); (conv => whnf)) | ((with_reducible refine call_r ?_); (conv => whnf); (first | ((with_reducible refine call_i (iwei_c _ _ h.com (mems_in h1) (by omega)) ?_); (conv => whnf)) | ((with_reducible refine call_i (iquo_c _ h.com) ?_); (conv => whnf)))) | ((with_reducible refine call_o ?_); (conv => whnf); (first | ((with_reducible refine call_i (ha) ?_); (conv => whnf)))))))
      exact ⟨by rw [hh], rfl⟩
    · rw [if_neg h5] at hh
      (repeat (any_goals (first | (with_reducible apply at_seq) | ((with_reducible apply at_regS Θg_ok); (conv => whnf)) | ((refine go ?_); (conv => whnf)) | ((refine go2 (fun xe hxe => ?_)); (conv => whnf)) | ((with_reducible refine cnd_d (fun hq => ?_) (fun hq => ?_)) <;> (conv => whnf)) | ((with_reducible refine cnd_i (fun hq => ?_) (fun hq => ?_)) <;> ((try simp only [decide_eq_true_eq, decide_eq_false_iff_not, Bool.not_eq_true', Bool.not_eq_false', beq_iff_eq, bne_iff_ne, beq_eq_false_iff_ne, bne_eq_false_iff_eq, ne_eq] at hq) <;> (first | omega | (conv => whnf)))) | ((with_reducible first | apply at_cond | apply at_ret | apply at_exit | apply at_skip); (conv => whnf)) | (with_reducible apply at_block) | ((with_reducible refine at_regD Θg_ok mixed (by kernel_rfl) ?_); (conv => whnf)) | ((with_reducible refine call_r ?_); (conv => whnf); (first | ((with_reducible refine call_i (iwei_c _ _ h.com (mems_in h1) (by omega)) ?_); (conv => whnf)) | ((with_reducible refine call_i (iquo_c _ h.com) ?_); (conv => whnf)))) | ((with_reducible refine call_o ?_); (conv => whnf); (first | ((with_reducible refine call_i (ha) ?_); (conv => whnf)))))))
      exact ⟨k - 1, ⟨by omega, by rw [hh]; congr 1; omega⟩, by omega, rfl⟩
theorem igh_c (c : List Int) (g : List Vtx) (hl : g.length ≤ 2000000) : ConV Try.prog 13 [.lst (.int .i64) c, .lst .vtx g] [] (.int .i64 (ghV c g)) [] := by
  have hL := link_c c g hl
  refine con_eq Θg_ok Try.func13 rfl rfl false 0 4 rfl rfl rfl rfl fun K hK hb1 hb2 => ?_; simp only [argsV, enc, Nat.reduceAdd]
  clear hb1 hb2
  cases hg : graS c g
  · simp only [lgR, lgO, hg, Bool.false_eq_true, if_false] at hL
    (repeat (any_goals (first | (with_reducible apply at_seq) | ((with_reducible apply at_regS Θg_ok); (conv => whnf)) | ((refine go ?_); (conv => whnf)) | ((refine go2 (fun xe hxe => ?_)); (conv => whnf)) | ((with_reducible refine cnd_d (fun hq => ?_) (fun hq => ?_)) <;> (conv => whnf)) | ((with_reducible refine cnd_i (fun hq => ?_) (fun hq => ?_)) <;> ((try simp only [decide_eq_true_eq, decide_eq_false_iff_not, Bool.not_eq_true', Bool.not_eq_false', beq_iff_eq, bne_iff_ne, beq_eq_false_iff_ne, bne_eq_false_iff_eq, ne_eq] at hq) <;> (first | omega | (conv => whnf)))) | ((with_reducible first | apply at_cond | apply at_ret | apply at_exit | apply at_skip); (conv => whnf)) | (with_reducible apply at_block) | ((with_reducible refine at_regD Θg_ok mixed (by kernel_rfl) ?_); (conv => whnf)) | ((with_reducible refine call_r ?_); (conv => whnf); (first | ((with_reducible refine call_i (hL) ?_); (conv => whnf)))))))
    exact ⟨by simp [ghV, hg], rfl⟩
  · have hok := graS_ok hg
    simp only [lgR, lgO, hg, if_true] at hL
    have e : ghV c g = hgt c g := by simp [ghV, hg]
    rw [e]
    cases g with
    | nil =>
      have hz : ConV Try.prog 43 [.ptr 4 0] (gZ c gs0) (.int .i64 (hgt c [])) (gZ c gs0) := ihgt_cZ c [] hok
      (repeat (any_goals (first | (with_reducible apply at_seq) | ((with_reducible apply at_regS Θg_ok); (conv => whnf)) | ((refine go ?_); (conv => whnf)) | ((refine go2 (fun xe hxe => ?_)); (conv => whnf)) | ((with_reducible refine cnd_d (fun hq => ?_) (fun hq => ?_)) <;> (conv => whnf)) | ((with_reducible refine cnd_i (fun hq => ?_) (fun hq => ?_)) <;> ((try simp only [decide_eq_true_eq, decide_eq_false_iff_not, Bool.not_eq_true', Bool.not_eq_false', beq_iff_eq, bne_iff_ne, beq_eq_false_iff_ne, bne_eq_false_iff_eq, ne_eq] at hq) <;> (first | omega | (conv => whnf)))) | ((with_reducible first | apply at_cond | apply at_ret | apply at_exit | apply at_skip); (conv => whnf)) | (with_reducible apply at_block) | ((with_reducible refine at_regD Θg_ok mixed (by kernel_rfl) ?_); (conv => whnf)) | ((with_reducible refine call_r ?_); (conv => whnf); (first | ((with_reducible refine call_i (hL) ?_); (conv => whnf)))) | ((with_reducible refine call_o ?_); (conv => whnf); (first | ((with_reducible refine call_i (hz) ?_); (conv => whnf)))))))
      exact ⟨rfl, rfl⟩
    | cons v g =>
      (repeat (any_goals (first | (with_reducible apply at_seq) | ((with_reducible apply at_regS Θg_ok); (conv => whnf)) | ((refine go ?_); (conv => whnf)) | ((refine go2 (fun xe hxe => ?_)); (conv => whnf)) | ((with_reducible refine cnd_d (fun hq => ?_) (fun hq => ?_)) <;> (conv => whnf)) | ((with_reducible refine cnd_i (fun hq => ?_) (fun hq => ?_)) <;> ((try simp only [decide_eq_true_eq, decide_eq_false_iff_not, Bool.not_eq_true', Bool.not_eq_false', beq_iff_eq, bne_iff_ne, beq_eq_false_iff_ne, bne_eq_false_iff_eq, ne_eq] at hq) <;> (first | omega | (conv => whnf)))) | ((with_reducible first | apply at_cond | apply at_ret | apply at_exit | apply at_skip); (conv => whnf)) | (with_reducible apply at_block) | ((with_reducible refine at_regD Θg_ok mixed (by kernel_rfl) ?_); (conv => whnf)) | ((with_reducible refine call_r ?_); (conv => whnf); (first | ((with_reducible refine call_i (hL) ?_); (conv => whnf)))) | ((with_reducible refine call_o ?_); (conv => whnf); (first | ((with_reducible refine call_i (ihgt_cR c (v :: g) hok) ?_); (conv => whnf)))))))
      exact ⟨rfl, rfl⟩
theorem iga_c (c : List Int) (g : List Vtx) (r : Int) (hl : g.length ≤ 2000000) : ConV Try.prog 17 [.lst (.int .i64) c, .lst .vtx g, .int .i64 r] [] (.ref 4) [(4, .row 3 (.int .i64) (gaV c g r))] := by
  have hL := link_c c g hl
  refine con_eq Θg_ok Try.func17 rfl rfl false 0 4 rfl rfl rfl rfl fun K hK hb1 hb2 => ?_; simp only [argsV, enc, Nat.reduceAdd]
  clear hb1 hb2
  cases hg : graS c g
  · simp only [lgR, lgO, hg, Bool.false_eq_true, if_false] at hL
    (repeat (any_goals (first | (with_reducible apply at_seq) | ((with_reducible apply at_regS Θg_ok); (conv => whnf)) | ((refine go ?_); (conv => whnf)) | ((refine go2 (fun xe hxe => ?_)); (conv => whnf)) | ((with_reducible refine cnd_d (fun hq => ?_) (fun hq => ?_)) <;> (conv => whnf)) | ((with_reducible refine cnd_i (fun hq => ?_) (fun hq => ?_)) <;> ((try simp only [decide_eq_true_eq, decide_eq_false_iff_not, Bool.not_eq_true', Bool.not_eq_false', beq_iff_eq, bne_iff_ne, beq_eq_false_iff_ne, bne_eq_false_iff_eq, ne_eq] at hq) <;> (first | omega | (conv => whnf)))) | ((with_reducible first | apply at_cond | apply at_ret | apply at_exit | apply at_skip); (conv => whnf)) | (with_reducible apply at_block) | ((with_reducible refine at_regD Θg_ok mixed (by kernel_rfl) ?_); (conv => whnf)) | ((with_reducible refine call_r ?_); (conv => whnf); (first | ((with_reducible refine call_i (hL) ?_); (conv => whnf)))))))
    exact ⟨rfl, by simp [gaV, hg]⟩
  · have hok := graS_ok hg
    have h7 := (comV_iff.1 hok.com).2
    simp only [lgR, lgO, hg, if_true] at hL
    have e : gaV c g r = auth g r := by simp [gaV, hg]
    rw [e, ← authG_eq hok r]
    cases g with
    | nil =>
      have hz : ConV Try.prog 46 [.ptr 4 0, .int .i64 r] (gZ c gs0) (.ref 5) (gZx c gs0 (.row 3 (.int .i64) (authG (gst []) r c.length))) := iauth_cZ c gs0 r List.length_replicate h7.2
      (repeat (any_goals (first | (with_reducible apply at_seq) | ((with_reducible apply at_regS Θg_ok); (conv => whnf)) | ((refine go ?_); (conv => whnf)) | ((refine go2 (fun xe hxe => ?_)); (conv => whnf)) | ((with_reducible refine cnd_d (fun hq => ?_) (fun hq => ?_)) <;> (conv => whnf)) | ((with_reducible refine cnd_i (fun hq => ?_) (fun hq => ?_)) <;> ((try simp only [decide_eq_true_eq, decide_eq_false_iff_not, Bool.not_eq_true', Bool.not_eq_false', beq_iff_eq, bne_iff_ne, beq_eq_false_iff_ne, bne_eq_false_iff_eq, ne_eq] at hq) <;> (first | omega | (conv => whnf)))) | ((with_reducible first | apply at_cond | apply at_ret | apply at_exit | apply at_skip); (conv => whnf)) | (with_reducible apply at_block) | ((with_reducible refine at_regD Θg_ok mixed (by kernel_rfl) ?_); (conv => whnf)) | ((with_reducible refine call_r ?_); (conv => whnf); (first | ((with_reducible refine call_i (hL) ?_); (conv => whnf)))) | ((with_reducible refine call_o ?_); (conv => whnf); (first | ((with_reducible refine call_i (hz) ?_); (conv => whnf)))))))
      exact ⟨rfl, rfl⟩
    | cons v g =>
      (repeat (any_goals (first | (with_reducible apply at_seq) | ((with_reducible apply at_regS Θg_ok); (conv => whnf)) | ((refine go ?_); (conv => whnf)) | ((refine go2 (fun xe hxe => ?_)); (conv => whnf)) | ((with_reducible refine cnd_d (fun hq => ?_) (fun hq => ?_)) <;> (conv => whnf)) | ((with_reducible refine cnd_i (fun hq => ?_) (fun hq => ?_)) <;> ((try simp only [decide_eq_true_eq, decide_eq_false_iff_not, Bool.not_eq_true', Bool.not_eq_false', beq_iff_eq, bne_iff_ne, beq_eq_false_iff_ne, bne_eq_false_iff_eq, ne_eq] at hq) <;> (first | omega | (conv => whnf)))) | ((with_reducible first | apply at_cond | apply at_ret | apply at_exit | apply at_skip); (conv => whnf)) | (with_reducible apply at_block) | ((with_reducible refine at_regD Θg_ok mixed (by kernel_rfl) ?_); (conv => whnf)) | ((with_reducible refine call_r ?_); (conv => whnf); (first | ((with_reducible refine call_i (hL) ?_); (conv => whnf)))) | ((with_reducible refine call_o ?_); (conv => whnf); (first | ((with_reducible refine call_i (iauth_cR c (gst (v :: g)) r (gst_len _).2 h7.2) ?_); (conv => whnf)))))))
      exact ⟨rfl, rfl⟩
/-- the place of a vertex, or -1 -/
def gfV (c : List Int) (g : List Vtx) (r a : Int) : Int := if graS c g then fndI g r a else -1
theorem gst_node {g : List Vtx} : ∀ {i : Nat} {v : Vtx}, g[i]? = some v → ∃ p, (gst g).nodes[i]? = some ⟨v, i, p⟩ := by
  induction g using snoc_ind with
  | h0 => intro i v h; simp at h
  | h l x ih =>
    intro i v h
    rw [gst_snoc]
    have hl := (gst_len l).1
    rcases Nat.lt_or_ge i l.length with hlt | hge
    · rw [List.getElem?_append_left hlt] at h
      obtain ⟨p, hp⟩ := ih h
      refine ⟨p, ?_⟩
      simp only [gstep]
      rw [List.getElem?_append_left (by omega)]
      exact hp
    · have he : i = l.length := by have := (List.getElem?_eq_some_iff.1 h).1; simp at this; omega
      subst he
      rw [List.getElem?_append_right (Nat.le_refl _)] at h
      simp at h
      subst h
      simp only [gstep]
      rw [← hl, List.getElem?_append_right (Nat.le_refl _)]
      simp
theorem fnd_out {c : List Int} {g : List Vtx} (h : GraOK c g) {r a : Int} (hn : (vIn r 0 30 && hasM c a) = false) : fndI g r a = -1 := by
  unfold fndI
  cases e : g.findIdx? (isAt r a) with
  | none => rfl
  | some i =>
    exfalso
    rw [List.findIdx?_eq_some_iff_getElem] at e
    obtain ⟨hi, e1, -⟩ := e
    have e2 := isAt_iff.1 e1
    have e3 := vtxS_ok (h.vtx _ (List.getElem_mem hi))
    rw [e2.1, e2.2] at e3
    have h1 : vIn r 0 30 = true := vIn_iff.2 e3.1
    have h2 : hasM c a = true := vIn_iff.2 (by omega)
    rw [h1, h2] at hn
    cases hn
theorem igf_c (c : List Int) (g : List Vtx) (r a : Int) (hl : g.length ≤ 2000000) : ConV Try.prog 28 [.lst (.int .i64) c, .lst .vtx g, .int .i64 r, .int .i64 a] [] (.int .i64 (gfV c g r a)) [] := by
  have hL := link_c c g hl
  refine con_eq Θg_ok Try.func28 rfl rfl false 0 4 rfl rfl rfl rfl fun K hK hb1 hb2 => ?_; simp only [argsV, enc, Nat.reduceAdd]
  clear hb1 hb2
  cases hg : graS c g
  · simp only [lgR, lgO, hg, Bool.false_eq_true, if_false] at hL
    (repeat (any_goals (first | (with_reducible apply at_seq) | ((with_reducible apply at_regS Θg_ok); (conv => whnf)) | ((refine go ?_); (conv => whnf)) | ((refine go2 (fun xe hxe => ?_)); (conv => whnf)) | ((with_reducible refine cnd_d (fun hq => ?_) (fun hq => ?_)) <;> (conv => whnf)) | ((with_reducible refine cnd_i (fun hq => ?_) (fun hq => ?_)) <;> ((try simp only [decide_eq_true_eq, decide_eq_false_iff_not, Bool.not_eq_true', Bool.not_eq_false', beq_iff_eq, bne_iff_ne, beq_eq_false_iff_ne, bne_eq_false_iff_eq, ne_eq] at hq) <;> (first | omega | (conv => whnf)))) | ((with_reducible first | apply at_cond | apply at_ret | apply at_exit | apply at_skip); (conv => whnf)) | (with_reducible apply at_block) | ((with_reducible refine at_regD Θg_ok mixed (by kernel_rfl) ?_); (conv => whnf)) | ((with_reducible refine call_r ?_); (conv => whnf); (first | ((with_reducible refine call_i (hL) ?_); (conv => whnf)))))))
    exact ⟨by simp [gfV, hg], rfl⟩
  · have hok := graS_ok hg
    have h7 := (comV_iff.1 hok.com).2
    simp only [lgR, lgO, hg, if_true] at hL
    have e : gfV c g r a = fndI g r a := by simp [gfV, hg]
    rw [e]
    cases hn : vIn r 0 30 && hasM c a
    · rw [fnd_out hok hn]
      cases g with
      | nil =>
        have hz := atn_cZ c gs0 r a hn
        (repeat (any_goals (first | (with_reducible apply at_seq) | ((with_reducible apply at_regS Θg_ok); (conv => whnf)) | ((refine go ?_); (conv => whnf)) | ((refine go2 (fun xe hxe => ?_)); (conv => whnf)) | ((with_reducible refine cnd_d (fun hq => ?_) (fun hq => ?_)) <;> (conv => whnf)) | ((with_reducible refine cnd_i (fun hq => ?_) (fun hq => ?_)) <;> ((try simp only [decide_eq_true_eq, decide_eq_false_iff_not, Bool.not_eq_true', Bool.not_eq_false', beq_iff_eq, bne_iff_ne, beq_eq_false_iff_ne, bne_eq_false_iff_eq, ne_eq] at hq) <;> (first | omega | (conv => whnf)))) | ((with_reducible first | apply at_cond | apply at_ret | apply at_exit | apply at_skip); (conv => whnf)) | (with_reducible apply at_block) | ((with_reducible refine at_regD Θg_ok mixed (by kernel_rfl) ?_); (conv => whnf)) | ((with_reducible refine call_r ?_); (conv => whnf); (first | ((with_reducible refine call_i (hL) ?_); (conv => whnf)))) | ((with_reducible refine call_o ?_); (conv => whnf); (first | ((with_reducible refine call_i (hz) ?_); (conv => whnf)))))))
        exact ⟨rfl, rfl⟩
      | cons v g =>
        (repeat (any_goals (first | (with_reducible apply at_seq) | ((with_reducible apply at_regS Θg_ok); (conv => whnf)) | ((refine go ?_); (conv => whnf)) | ((refine go2 (fun xe hxe => ?_)); (conv => whnf)) | ((with_reducible refine cnd_d (fun hq => ?_) (fun hq => ?_)) <;> (conv => whnf)) | ((with_reducible refine cnd_i (fun hq => ?_) (fun hq => ?_)) <;> ((try simp only [decide_eq_true_eq, decide_eq_false_iff_not, Bool.not_eq_true', Bool.not_eq_false', beq_iff_eq, bne_iff_ne, beq_eq_false_iff_ne, bne_eq_false_iff_eq, ne_eq] at hq) <;> (first | omega | (conv => whnf)))) | ((with_reducible first | apply at_cond | apply at_ret | apply at_exit | apply at_skip); (conv => whnf)) | (with_reducible apply at_block) | ((with_reducible refine at_regD Θg_ok mixed (by kernel_rfl) ?_); (conv => whnf)) | ((with_reducible refine call_r ?_); (conv => whnf); (first | ((with_reducible refine call_i (hL) ?_); (conv => whnf)))) | ((with_reducible refine call_o ?_); (conv => whnf); (first | ((with_reducible refine call_i (atn_cR c (gst (v :: g)) r a hn) ?_); (conv => whnf)))))))
        exact ⟨rfl, rfl⟩
    · have h1 : vIn r 0 30 = true := by simp_all
      have h2 : hasM c a = true := by simp_all
      have hf := gst_find hok (vIn_iff.1 h1) (a := a) (by have := vIn_iff.1 h2; omega)
      have hx : fndI g r a = match (gst g).at r a with | some i => (i : Int) | none => -1 := by rw [hf]; rfl
      cases g with
      | nil =>
        have hz := aty_cZ c gs0 r a List.length_replicate h7.2 h1 h2
        have hi : (gs0.at r a).isNone = true := by rw [gs0_at]; rfl
        (repeat (any_goals (first | (with_reducible apply at_seq) | ((with_reducible apply at_regS Θg_ok); (conv => whnf)) | ((refine go ?_); (conv => whnf)) | ((refine go2 (fun xe hxe => ?_)); (conv => whnf)) | ((with_reducible refine cnd_d (fun hq => ?_) (fun hq => ?_)) <;> (conv => whnf)) | ((with_reducible refine cnd_i (fun hq => ?_) (fun hq => ?_)) <;> ((try simp only [decide_eq_true_eq, decide_eq_false_iff_not, Bool.not_eq_true', Bool.not_eq_false', beq_iff_eq, bne_iff_ne, beq_eq_false_iff_ne, bne_eq_false_iff_eq, ne_eq] at hq) <;> (first | omega | (conv => whnf)))) | ((with_reducible first | apply at_cond | apply at_ret | apply at_exit | apply at_skip); (conv => whnf)) | (with_reducible apply at_block) | ((with_reducible refine at_regD Θg_ok mixed (by kernel_rfl) ?_); (conv => whnf)) | ((with_reducible refine call_r ?_); (conv => whnf); (first | ((with_reducible refine call_i (hL) ?_); (conv => whnf)))) | ((with_reducible refine call_o ?_); (conv => whnf); (first | ((with_reducible refine call_i (hz) ?_); (conv => whnf)))))))
        exact ⟨rfl, rfl⟩
      | cons v g =>
        cases h3 : (gst (v :: g)).at r a with
        | none =>
          have hi : ((gst (v :: g)).at r a).isNone = true := by rw [h3]; rfl
          (repeat (any_goals (first | (with_reducible apply at_seq) | ((with_reducible apply at_regS Θg_ok); (conv => whnf)) | ((refine go ?_); (conv => whnf)) | ((refine go2 (fun xe hxe => ?_)); (conv => whnf)) | ((with_reducible refine cnd_d (fun hq => ?_) (fun hq => ?_)) <;> (conv => whnf)) | ((with_reducible refine cnd_i (fun hq => ?_) (fun hq => ?_)) <;> ((try simp only [decide_eq_true_eq, decide_eq_false_iff_not, Bool.not_eq_true', Bool.not_eq_false', beq_iff_eq, bne_iff_ne, beq_eq_false_iff_ne, bne_eq_false_iff_eq, ne_eq] at hq) <;> (first | omega | (conv => whnf)))) | ((with_reducible first | apply at_cond | apply at_ret | apply at_exit | apply at_skip); (conv => whnf)) | (with_reducible apply at_block) | ((with_reducible refine at_regD Θg_ok mixed (by kernel_rfl) ?_); (conv => whnf)) | ((with_reducible refine call_r ?_); (conv => whnf); (first | ((with_reducible refine call_i (hL) ?_); (conv => whnf)))) | ((with_reducible refine call_o ?_); (conv => whnf); (first | ((with_reducible refine call_i (aty_cR c (gst (v :: g)) r a (gst_len _).2 h7.2 h1 h2) ?_); (conv => whnf)))))))
          exact ⟨by rw [hx, h3], rfl⟩
        | some i =>
          have hi : ((gst (v :: g)).at r a).isNone = false := by rw [h3]; rfl
          obtain ⟨u, hu, -⟩ := (gst_at (fun u hu => vtxS_tab hok.com (hok.vtx u hu)) (vIn_iff.1 h1) (a := a) (by have := vIn_iff.1 h2; omega)).2 i h3
          obtain ⟨p, hp⟩ := gst_node hu
          (repeat (any_goals (first | (with_reducible apply at_seq) | ((with_reducible apply at_regS Θg_ok); (conv => whnf)) | ((refine go ?_); (conv => whnf)) | ((refine go2 (fun xe hxe => ?_)); (conv => whnf)) | ((with_reducible refine cnd_d (fun hq => ?_) (fun hq => ?_)) <;> (conv => whnf)) | ((with_reducible refine cnd_i (fun hq => ?_) (fun hq => ?_)) <;> ((try simp only [decide_eq_true_eq, decide_eq_false_iff_not, Bool.not_eq_true', Bool.not_eq_false', beq_iff_eq, bne_iff_ne, beq_eq_false_iff_ne, bne_eq_false_iff_eq, ne_eq] at hq) <;> (first | omega | (conv => whnf)))) | ((with_reducible first | apply at_cond | apply at_ret | apply at_exit | apply at_skip); (conv => whnf)) | (with_reducible apply at_block) | ((with_reducible refine at_regD Θg_ok mixed (by kernel_rfl) ?_); (conv => whnf)) | ((with_reducible refine call_r ?_); (conv => whnf); (first | ((with_reducible refine call_i (hL) ?_); (conv => whnf)))) | ((with_reducible refine call_o ?_); (conv => whnf); (first | ((with_reducible refine call_i (aty_cR c (gst (v :: g)) r a (gst_len _).2 h7.2 h1 h2) ?_); (conv => whnf)))))))
          exact ⟨by rw [hx, h3], rfl⟩
end Go.Proofs.Ytkclhekkcffpoaa.Am
namespace Go.Proofs.Ytkclhekkcffpoaa.Am
set_option linter.unusedSimpArgs false
set_option linter.unusedVariables false
open Go
attribute [local irreducible] Mk Need Ari Get Idx Cnd CallM CallA Opt Unch At ConV
set_option maxRecDepth 10000

/-- bytes, and a place that is not too far -/
def rdOK (c : List Int) (p : Int) : Prop := c.length ≤ 2000 ∧ (∀ x ∈ c, 0 ≤ x ∧ x ≤ 255) ∧ 0 ≤ p ∧ p ≤ 1000000000
theorem open_c (c : List Int) : ConV Try.prog 55 [.lst (.int .u8) c] [] (.ptr 4 0) [(4, .var 106 [.lst (.int .u8) (c.take 2000), .int .i64 0])] := by
  refine con_eq Θ_ok Try.func55 rfl rfl false 0 4 rfl rfl rfl rfl fun K hK hb1 hb2 => ?_; simp only [argsV, enc, Nat.reduceAdd]
  (repeat (any_goals (first | (with_reducible apply at_seq) | ((with_reducible apply at_regS Θ_ok); (conv => whnf)) | ((refine go ?_); (conv => whnf)) | ((refine go2 (fun xe hxe => ?_)); (conv => whnf)) | ((with_reducible refine cnd_d (fun hq => ?_) (fun hq => ?_)) <;> (conv => whnf)) | ((with_reducible refine cnd_i (fun hq => ?_) (fun hq => ?_)) <;> ((try simp only [decide_eq_true_eq, decide_eq_false_iff_not, Bool.not_eq_true', Bool.not_eq_false', beq_iff_eq, bne_iff_ne, beq_eq_false_iff_ne, bne_eq_false_iff_eq, ne_eq] at hq) <;> (first | omega | (conv => whnf)))) | ((with_reducible first | apply at_cond | apply at_ret | apply at_exit | apply at_skip); (conv => whnf)) | (with_reducible apply at_block) | ((with_reducible refine at_regD Θ_ok mixed (by kernel_rfl) ?_); (conv => whnf)))))
  · exact ⟨rfl, rfl⟩
  · exact ⟨rfl, by rw [List.take_of_length_le (by omega)]⟩
theorem rd_ok {c : List Int} (h : ∀ x ∈ c, 0 ≤ x ∧ x ≤ 255) : rdOK (c.take 2000) 0 := ⟨by rw [List.length_take]; omega, fun x hx => h x (List.mem_of_mem_take hx), by omega, by omega⟩
theorem pick_c (c : List Int) (p n : Int) (T : TypeId) (h : rdOK c p) (hn : 1 ≤ n ∧ n ≤ 1000000) : ∃ v, (0 ≤ v ∧ v < n) ∧ ConV Try.prog 57 [.ptr 4 0, .int .i64 n] [(4, .var T [.lst (.int .u8) c, .int .i64 p])] (.int .i64 v) [(4, .var T [.lst (.int .u8) c, .int .i64 (p + 1)])] := by
  obtain ⟨h1, h2, h3, h4⟩ := h
  suffices hs : ∃ r hout, (∃ v, (0 ≤ v ∧ v < n) ∧ r = .int .i64 v ∧ hout = [(4, VB.var T [.lst (.int .u8) c, .int .i64 (p + 1)])]) ∧ ConV Try.prog 57 [.ptr 4 0, .int .i64 n] [(4, .var T [.lst (.int .u8) c, .int .i64 p])] r hout by
    obtain ⟨r, hout, ⟨v, hv, rfl, rfl⟩, h⟩ := hs
    exact ⟨v, hv, h⟩
  refine con_ex Θ_ok Try.func57 rfl rfl false 1 5 rfl rfl rfl rfl (R := fun r hout => ∃ v, (0 ≤ v ∧ v < n) ∧ r = .int .i64 v ∧ hout = [(4, VB.var T [.lst (.int .u8) c, .int .i64 (p + 1)])]) (r0 := .int .i64 0) (hout0 := [(4, VB.var T [.lst (.int .u8) c, .int .i64 (p + 1)])]) (⟨0, by omega, rfl, rfl⟩) fun K hK hb1 hb2 => ?_; simp only [argsV, enc, Nat.reduceAdd]
  clear hb1 hb2
  have hat : ∀ k : Int, 0 ≤ k → k < c.length → ∃ v, c[k.toNat]? = some v ∧ 0 ≤ v ∧ v ≤ 255 := fun k ha hb => by
    have hl : k.toNat < c.length := by omega
    exact ⟨c[k.toNat], List.getElem?_eq_getElem hl, h2 _ (List.getElem_mem hl)⟩
  by_cases h0 : c.length = 0
  · (repeat (any_goals (first | (with_reducible apply at_seq) | ((with_reducible apply at_regS Θ_ok); (conv => whnf)) | ((refine go ?_); (conv => whnf)) | ((refine go2 (fun xe hxe => ?_)); (conv => whnf)) | ((with_reducible refine cnd_d (fun hq => ?_) (fun hq => ?_)) <;> (conv => whnf)) | ((with_reducible refine cnd_i (fun hq => ?_) (fun hq => ?_)) <;> ((try simp only [decide_eq_true_eq, decide_eq_false_iff_not, Bool.not_eq_true', Bool.not_eq_false', beq_iff_eq, bne_iff_ne, beq_eq_false_iff_ne, bne_eq_false_iff_eq, ne_eq] at hq) <;> (first | omega | (conv => whnf)))) | ((with_reducible first | apply at_cond | apply at_ret | apply at_exit | apply at_skip); (conv => whnf)) | (with_reducible apply at_block) | ((with_reducible refine at_regD Θ_ok mixed (by kernel_rfl) ?_); (conv => whnf)))))
    exact ⟨0, by omega, rfl, rfl⟩
  have hcl : 0 ≤ p.tmod c.length ∧ p.tmod c.length < c.length := ⟨Int.tmod_nonneg _ h3, Int.tmod_lt_of_pos _ (by omega)⟩
  have hcl2 : 0 ≤ (p * 7 + 3).tmod c.length ∧ (p * 7 + 3).tmod c.length < c.length := ⟨Int.tmod_nonneg _ (by omega), Int.tmod_lt_of_pos _ (by omega)⟩
  have hdv : 0 ≤ p.tdiv c.length ∧ p.tdiv c.length ≤ p := ⟨Int.tdiv_nonneg h3 (by omega), by rw [Int.tdiv_eq_ediv_of_nonneg h3]; exact Int.ediv_le_self _ h3⟩
  have hp : p + 1 - 1 = p := by omega
  by_cases h6 : p < c.length
  · obtain ⟨v, hv, hv1, hv2⟩ := hat p h3 h6
    rw [← hp] at hv
    have hm : 0 ≤ v.tmod n ∧ v.tmod n < n := ⟨Int.tmod_nonneg _ hv1, Int.tmod_lt_of_pos _ (by omega)⟩
    (repeat (any_goals (first | (with_reducible apply at_seq) | ((with_reducible apply at_regS Θ_ok); (conv => whnf)) | ((refine go ?_); (conv => whnf)) | ((refine go2 (fun xe hxe => ?_)); (conv => whnf)) | ((with_reducible refine cnd_d (fun hq => ?_) (fun hq => ?_)) <;> (conv => whnf)) | ((with_reducible refine cnd_i (fun hq => ?_) (fun hq => ?_)) <;> ((try simp only [decide_eq_true_eq, decide_eq_false_iff_not, Bool.not_eq_true', Bool.not_eq_false', beq_iff_eq, bne_iff_ne, beq_eq_false_iff_ne, bne_eq_false_iff_eq, ne_eq] at hq) <;> (first | omega | (conv => whnf)))) | ((with_reducible first | apply at_cond | apply at_ret | apply at_exit | apply at_skip); (conv => whnf)) | (with_reducible apply at_block) | ((with_reducible refine at_regD Θ_ok mixed (by kernel_rfl) ?_); (conv => whnf)))))
    exact ⟨_, hm, rfl, rfl⟩
  · obtain ⟨v, hv, hv1, hv2⟩ := hat _ hcl.1 hcl.2
    obtain ⟨w, hw, hw1, hw2⟩ := hat _ hcl2.1 hcl2.2
    rw [← hp] at hv hw hdv hcl hcl2
    have hS : 0 ≤ v * 131 + w * 1117 + (p + 1 - 1) * 29 + (p + 1 - 1).tdiv ↑c.length * 53 ∧ v * 131 + w * 1117 + (p + 1 - 1) * 29 + (p + 1 - 1).tdiv ↑c.length * 53 < 4611686018427387904 := by omega
    have hD : 0 ≤ (v * 131 + w * 1117 + (p + 1 - 1) * 29 + (p + 1 - 1).tdiv ↑c.length * 53).tdiv 64 ∧ (v * 131 + w * 1117 + (p + 1 - 1) * 29 + (p + 1 - 1).tdiv ↑c.length * 53).tdiv 64 < 4611686018427387904 :=
      ⟨Int.tdiv_nonneg hS.1 (by omega), by rw [Int.tdiv_eq_ediv_of_nonneg hS.1]; omega⟩
    have hX := xor_bd hS hD
    (repeat (any_goals (first | (with_reducible apply at_seq) | ((with_reducible apply at_regS Θ_ok); (conv => whnf)) | ((refine go ?_); (conv => whnf)) | ((refine go2 (fun xe hxe => ?_)); (conv => whnf)) | ((with_reducible refine cnd_d (fun hq => ?_) (fun hq => ?_)) <;> (conv => whnf)) | ((with_reducible refine cnd_i (fun hq => ?_) (fun hq => ?_)) <;> ((try simp only [decide_eq_true_eq, decide_eq_false_iff_not, Bool.not_eq_true', Bool.not_eq_false', beq_iff_eq, bne_iff_ne, beq_eq_false_iff_ne, bne_eq_false_iff_eq, ne_eq] at hq) <;> (first | omega | (conv => whnf)))) | ((with_reducible first | apply at_cond | apply at_ret | apply at_exit | apply at_skip); (conv => whnf)) | (with_reducible apply at_block) | ((with_reducible refine at_regD Θ_ok mixed (by kernel_rfl) ?_); (conv => whnf)))))
    refine ⟨_, ⟨Int.tmod_nonneg _ hX, Int.tmod_lt_of_pos _ (by omega)⟩, rfl, rfl⟩
end Go.Proofs.Ytkclhekkcffpoaa.Am
namespace Go.Proofs.Ytkclhekkcffpoaa.Am
set_option linter.unusedSimpArgs false
set_option linter.unusedVariables false
open Go
attribute [local irreducible] Mk Need Ari Get Idx Cnd CallM CallA Opt Unch At ConV
set_option maxRecDepth 10000

/-- the reader of bytes at place p -/
abbrev rdB (b : List Int) (p : Int) : VB := .var 106 [.lst (.int .u8) b, .int .i64 p]
theorem pk_c (b : List Int) (p n : Int) (h : rdOK b 0) (hp : 0 ≤ p ∧ p ≤ 100000000) (hn : 1 ≤ n ∧ n ≤ 1000000) : ∃ v, (0 ≤ v ∧ v < n) ∧ ConV Try.prog 57 [.ptr 4 0, .int .i64 n] [(4, rdB b p)] (.int .i64 v) [(4, rdB b (p + 1))] :=
  pick_c b p n _ ⟨h.1, h.2.1, by omega, by omega⟩ hn
theorem fits_app {nb : Nat} {α β : Type} {xs : List α} {ys : List β} (h1 : xs.length ≤ 1000) (h2 : ys.length ≤ 1000) (hb : nb ≤ 100) : fits nb (xs.length + ys.length) := by
  have : (xs.length + ys.length) * nb ≤ 2000 * 100 := Nat.mul_le_mul (by omega) hb
  unfold fits
  omega
theorem all_get {l : List Int} {P : Int → Prop} {i : Nat} {x : Int} (hx : l[i]? = some x) (h : ∀ y ∈ l, P y) : P x := h x (List.mem_of_getElem? hx)
theorem dcom_c (b : List Int) (p : Int) (h : rdOK b 0) (hp : 0 ≤ p ∧ p ≤ 1000000) : ∃ x : List Int × Int, (p ≤ x.2 ∧ x.2 ≤ p + 20 ∧ x.1.length ≤ 11) ∧ ConV Try.prog 60 [.ptr 4 0] [(4, rdB b p)] (.lst (.int .i64) x.1) [(4, rdB b x.2)] := by
  suffices hs : ∃ r hout, (∃ x : List Int × Int, (p ≤ x.2 ∧ x.2 ≤ p + 20 ∧ x.1.length ≤ 11) ∧ r = .lst (.int .i64) x.1 ∧ hout = [(4, rdB b x.2)]) ∧ ConV Try.prog 60 [.ptr 4 0] [(4, rdB b p)] r hout by
    obtain ⟨r, hout, ⟨v, hv, rfl, rfl⟩, h⟩ := hs
    exact ⟨v, hv, h⟩
  refine con_ex Θ_ok Try.func60 rfl rfl true 1 5 rfl rfl rfl rfl (R := fun r hout => ∃ x : List Int × Int, (p ≤ x.2 ∧ x.2 ≤ p + 20 ∧ x.1.length ≤ 11) ∧ r = .lst (.int .i64) x.1 ∧ hout = [(4, rdB b x.2)]) (r0 := .lst (.int .i64) []) (hout0 := [(4, rdB b p)]) (⟨([], p), by simp; omega, rfl, rfl⟩) fun K hK hb1 hb2 => ?_; simp only [argsV, enc, Nat.reduceAdd]
  clear hb1 hb2
  (repeat (any_goals (first | (with_reducible apply at_seq) | ((with_reducible apply at_regS Θ_ok); (conv => whnf)) | ((refine go ?_); (conv => whnf)) | ((refine go2 (fun xe hxe => ?_)); (conv => whnf)) | ((with_reducible refine cnd_d (fun hq => ?_) (fun hq => ?_)) <;> (conv => whnf)) | ((with_reducible refine cnd_i (fun hq => ?_) (fun hq => ?_)) <;> ((try simp only [decide_eq_true_eq, decide_eq_false_iff_not, Bool.not_eq_true', Bool.not_eq_false', beq_iff_eq, bne_iff_ne, beq_eq_false_iff_ne, bne_eq_false_iff_eq, ne_eq] at hq) <;> (first | omega | (conv => whnf)))) | ((with_reducible first | apply at_cond | apply at_ret | apply at_exit | apply at_skip); (conv => whnf)) | (with_reducible apply at_block) | ((with_reducible refine at_regD Θ_ok mixed (by kernel_rfl) ?_); (conv => whnf)) | ((with_reducible refine call_r ?_); (conv => whnf); (first | ((refine call_ex (pk_c b _ _ h (by omega) (by omega)) (fun xv hxv => ?_)); (conv => whnf)))))))
  obtain ⟨n, hn, hnx⟩ : ∃ n : Int, (1 ≤ n ∧ n ≤ 7) ∧ n = xe := ⟨xe, all_get (P := fun y => 1 ≤ y ∧ y ≤ 7) hxe (by decide), rfl⟩
  clear hxe
  subst hnx
  refine at_loop hK [] [0, 3, 4, 5] (fun i : Nat × List Int × Int => ⟨[(0, .ptr 4 0), (3, .ref 5), (4, .int .i64 n), (5, .int .i64 i.1)], [(4, rdB b i.2.2), (5, .row 3 (.int .i64) i.2.1)], 6⟩)
    (fun i => (i.1 : Int) ≤ n ∧ i.2.1.length = i.1 ∧ p + 1 ≤ i.2.2 ∧ i.2.2 ≤ p + 1 + 2 * i.1) (fun i => 8 - i.1) (0, [], p + 1) (by simp; omega) rfl ?_
  rintro ⟨i, l, q⟩ ⟨hi1, hi2, hi3, hi4⟩
  dsimp only at hi1 hi2 hi3 hi4 ⊢
  by_cases hlt : (i : Int) < n
  · (repeat (any_goals (first | (with_reducible apply at_seq) | ((with_reducible apply at_regS Θ_ok); (conv => whnf)) | ((refine go ?_); (conv => whnf)) | ((refine go2 (fun xe hxe => ?_)); (conv => whnf)) | ((with_reducible refine cnd_d (fun hq => ?_) (fun hq => ?_)) <;> (conv => whnf)) | ((with_reducible refine cnd_i (fun hq => ?_) (fun hq => ?_)) <;> ((try simp only [decide_eq_true_eq, decide_eq_false_iff_not, Bool.not_eq_true', Bool.not_eq_false', beq_iff_eq, bne_iff_ne, beq_eq_false_iff_ne, bne_eq_false_iff_eq, ne_eq] at hq) <;> (first | omega | (conv => whnf)))) | ((with_reducible first | apply at_cond | apply at_ret | apply at_exit | apply at_skip); (conv => whnf)) | (with_reducible apply at_block) | ((with_reducible refine at_regD Θ_ok mixed (by kernel_rfl) ?_); (conv => whnf)) | ((with_reducible refine call_r ?_); (conv => whnf); (first | ((refine call_ex (pk_c b _ _ h (by omega) (by omega)) (fun xv hxv => ?_)); (conv => whnf)))))))
    rename_i y hy
    have hm : 0 ≤ y * xv ∧ y * xv ≤ 3 * 2 := ⟨Int.mul_nonneg (by omega) (by omega), Int.mul_le_mul (by omega) (by omega) (by omega) (by omega)⟩
    generalize y * xv = z at *
    have hd : 0 ≤ z.tdiv 2 ∧ z.tdiv 2 ≤ 3 := by rw [Int.tdiv_eq_ediv_of_nonneg (by omega)]; omega
    (repeat (any_goals (first | (with_reducible apply at_seq) | ((with_reducible apply at_regS Θ_ok); (conv => whnf)) | ((refine go ?_); (conv => whnf)) | ((refine go2 (fun xe hxe => ?_)); (conv => whnf)) | ((with_reducible refine cnd_d (fun hq => ?_) (fun hq => ?_)) <;> (conv => whnf)) | ((with_reducible refine cnd_i (fun hq => ?_) (fun hq => ?_)) <;> ((try simp only [decide_eq_true_eq, decide_eq_false_iff_not, Bool.not_eq_true', Bool.not_eq_false', beq_iff_eq, bne_iff_ne, beq_eq_false_iff_ne, bne_eq_false_iff_eq, ne_eq] at hq) <;> (first | omega | (conv => whnf)))) | ((with_reducible first | apply at_cond | apply at_ret | apply at_exit | apply at_skip); (conv => whnf)) | (with_reducible apply at_block) | ((with_reducible refine at_regD Θ_ok mixed (by kernel_rfl) ?_); (conv => whnf)))))
    refine ⟨(i + 1, l ++ [1 + z.tdiv 2], q + 1 + 1), ⟨by omega, by simp; omega, by dsimp only; omega, by dsimp only; omega⟩, by dsimp only; omega, rfl⟩
  · (repeat (any_goals (first | (with_reducible apply at_seq) | ((with_reducible apply at_regS Θ_ok); (conv => whnf)) | ((refine go ?_); (conv => whnf)) | ((refine go2 (fun xe hxe => ?_)); (conv => whnf)) | ((with_reducible refine cnd_d (fun hq => ?_) (fun hq => ?_)) <;> (conv => whnf)) | ((with_reducible refine cnd_i (fun hq => ?_) (fun hq => ?_)) <;> ((try simp only [decide_eq_true_eq, decide_eq_false_iff_not, Bool.not_eq_true', Bool.not_eq_false', beq_iff_eq, bne_iff_ne, beq_eq_false_iff_ne, bne_eq_false_iff_eq, ne_eq] at hq) <;> (first | omega | (conv => whnf)))) | ((with_reducible first | apply at_cond | apply at_ret | apply at_exit | apply at_skip); (conv => whnf)) | (with_reducible apply at_block) | ((with_reducible refine at_regD Θ_ok mixed (by kernel_rfl) ?_); (conv => whnf)) | ((with_reducible refine call_r ?_); (conv => whnf); (first | ((refine call_ex (pk_c b _ _ h (by omega) (by omega)) (fun xv hxv => ?_)); (conv => whnf)))))))
    · exact ⟨(l ++ [1, 1, 1, 1], q + 1), ⟨by dsimp only; omega, by dsimp only; omega, by simp; omega⟩, rfl, rfl⟩
    · exact ⟨(l.set _ _, q + 1 + 1 + 1), ⟨by dsimp only; omega, by dsimp only; omega, by simp; omega⟩, rfl, rfl⟩
    · exact ⟨([], q + 1), ⟨by dsimp only; omega, by dsimp only; omega, by simp⟩, rfl, rfl⟩
    · exact ⟨(l, q + 1), ⟨by dsimp only; omega, by dsimp only; omega, by dsimp only; omega⟩, rfl, rfl⟩
theorem dgood_c (b : List Int) (p : Int) (h : rdOK b 0) (hp : 0 ≤ p ∧ p ≤ 1000000) : ∃ x : List Int × Int, (p ≤ x.2 ∧ x.2 ≤ p + 20 ∧ comV x.1 = true) ∧ ConV Try.prog 87 [.ptr 4 0] [(4, rdB b p)] (.lst (.int .i64) x.1) [(4, rdB b x.2)] := by
  suffices hs : ∃ r hout, (∃ x : List Int × Int, (p ≤ x.2 ∧ x.2 ≤ p + 20 ∧ comV x.1 = true) ∧ r = .lst (.int .i64) x.1 ∧ hout = [(4, rdB b x.2)]) ∧ ConV Try.prog 87 [.ptr 4 0] [(4, rdB b p)] r hout by
    obtain ⟨r, hout, ⟨v, hv, rfl, rfl⟩, h⟩ := hs
    exact ⟨v, hv, h⟩
  refine con_ex Θ_ok Try.func87 rfl rfl true 1 5 rfl rfl rfl rfl (R := fun r hout => ∃ x : List Int × Int, (p ≤ x.2 ∧ x.2 ≤ p + 20 ∧ comV x.1 = true) ∧ r = .lst (.int .i64) x.1 ∧ hout = [(4, rdB b x.2)]) (r0 := .lst (.int .i64) [1, 1, 1, 1]) (hout0 := [(4, rdB b p)]) (⟨([1, 1, 1, 1], p), ⟨by dsimp only; omega, by dsimp only; omega, rfl⟩, rfl, rfl⟩) fun K hK hb1 hb2 => ?_; simp only [argsV, enc, Nat.reduceAdd]
  clear hb1 hb2
  obtain ⟨⟨c, q⟩, ⟨h1, h2, h3⟩, hc⟩ := dcom_c b p h hp
  dsimp only at h1 h2 h3 hc
  cases hv : comV c
  · (repeat (any_goals (first | (with_reducible apply at_seq) | ((with_reducible apply at_regS Θ_ok); (conv => whnf)) | ((refine go ?_); (conv => whnf)) | ((refine go2 (fun xe hxe => ?_)); (conv => whnf)) | ((with_reducible refine cnd_d (fun hq => ?_) (fun hq => ?_)) <;> (conv => whnf)) | ((with_reducible refine cnd_i (fun hq => ?_) (fun hq => ?_)) <;> ((try simp only [decide_eq_true_eq, decide_eq_false_iff_not, Bool.not_eq_true', Bool.not_eq_false', beq_iff_eq, bne_iff_ne, beq_eq_false_iff_ne, bne_eq_false_iff_eq, ne_eq] at hq) <;> (first | omega | (conv => whnf)))) | ((with_reducible first | apply at_cond | apply at_ret | apply at_exit | apply at_skip); (conv => whnf)) | (with_reducible apply at_block) | ((with_reducible refine at_regD Θ_ok mixed (by kernel_rfl) ?_); (conv => whnf)) | ((with_reducible refine call_r ?_); (conv => whnf); (first | ((with_reducible refine call_i (comV_c _) ?_); (conv => whnf)))) | ((with_reducible refine call_o ?_); (conv => whnf); (first | ((with_reducible refine call_i (hc) ?_); (conv => whnf)))))))
    exact ⟨([1, 1, 1, 1], q), ⟨h1, h2, rfl⟩, rfl, rfl⟩
  · (repeat (any_goals (first | (with_reducible apply at_seq) | ((with_reducible apply at_regS Θ_ok); (conv => whnf)) | ((refine go ?_); (conv => whnf)) | ((refine go2 (fun xe hxe => ?_)); (conv => whnf)) | ((with_reducible refine cnd_d (fun hq => ?_) (fun hq => ?_)) <;> (conv => whnf)) | ((with_reducible refine cnd_i (fun hq => ?_) (fun hq => ?_)) <;> ((try simp only [decide_eq_true_eq, decide_eq_false_iff_not, Bool.not_eq_true', Bool.not_eq_false', beq_iff_eq, bne_iff_ne, beq_eq_false_iff_ne, bne_eq_false_iff_eq, ne_eq] at hq) <;> (first | omega | (conv => whnf)))) | ((with_reducible first | apply at_cond | apply at_ret | apply at_exit | apply at_skip); (conv => whnf)) | (with_reducible apply at_block) | ((with_reducible refine at_regD Θ_ok mixed (by kernel_rfl) ?_); (conv => whnf)) | ((with_reducible refine call_r ?_); (conv => whnf); (first | ((with_reducible refine call_i (comV_c _) ?_); (conv => whnf)))) | ((with_reducible refine call_o ?_); (conv => whnf); (first | ((with_reducible refine call_i (hc) ?_); (conv => whnf)))))))
    exact ⟨(c, q), ⟨h1, h2, hv⟩, rfl, rfl⟩
theorem ddig_c (b : List Int) (p : Int) (h : rdOK b 0) (hp : 0 ≤ p ∧ p ≤ 1000000) : ∃ x : Int × Int, (p ≤ x.2 ∧ x.2 ≤ p + 3) ∧ ConV Try.prog 89 [.ptr 4 0] [(4, rdB b p)] (.int .i64 x.1) [(4, rdB b x.2)] := by
  suffices hs : ∃ r hout, (∃ x : Int × Int, (p ≤ x.2 ∧ x.2 ≤ p + 3) ∧ r = .int .i64 x.1 ∧ hout = [(4, rdB b x.2)]) ∧ ConV Try.prog 89 [.ptr 4 0] [(4, rdB b p)] r hout by
    obtain ⟨r, hout, ⟨v, hv, rfl, rfl⟩, h⟩ := hs
    exact ⟨v, hv, h⟩
  refine con_ex Θ_ok Try.func89 rfl rfl true 1 5 rfl rfl rfl rfl (R := fun r hout => ∃ x : Int × Int, (p ≤ x.2 ∧ x.2 ≤ p + 3) ∧ r = .int .i64 x.1 ∧ hout = [(4, rdB b x.2)]) (r0 := .int .i64 0) (hout0 := [(4, rdB b p)]) (⟨(0, p), by simp; omega, rfl, rfl⟩) fun K hK hb1 hb2 => ?_; simp only [argsV, enc, Nat.reduceAdd]
  clear hb1 hb2
  (repeat (any_goals (first | (with_reducible apply at_seq) | ((with_reducible apply at_regS Θ_ok); (conv => whnf)) | ((refine go ?_); (conv => whnf)) | ((refine go2 (fun xe hxe => ?_)); (conv => whnf)) | ((with_reducible refine cnd_d (fun hq => ?_) (fun hq => ?_)) <;> (conv => whnf)) | ((with_reducible refine cnd_i (fun hq => ?_) (fun hq => ?_)) <;> ((try simp only [decide_eq_true_eq, decide_eq_false_iff_not, Bool.not_eq_true', Bool.not_eq_false', beq_iff_eq, bne_iff_ne, beq_eq_false_iff_ne, bne_eq_false_iff_eq, ne_eq] at hq) <;> (first | omega | (conv => whnf)))) | ((with_reducible first | apply at_cond | apply at_ret | apply at_exit | apply at_skip); (conv => whnf)) | (with_reducible apply at_block) | ((with_reducible refine at_regD Θ_ok mixed (by kernel_rfl) ?_); (conv => whnf)) | ((with_reducible refine call_r ?_); (conv => whnf); (first | ((refine call_ex (pk_c b _ _ h (by omega) (by omega)) (fun xv hxv => ?_)); (conv => whnf)))))))
  all_goals exact ⟨(_, _), by dsimp only; omega, rfl, rfl⟩
theorem dmem_c (b : List Int) (p : Int) (n : Int) (h : rdOK b 0) (hp : 0 ≤ p ∧ p ≤ 1000000) (hn : n ≤ 20) : ∃ x : List Int × Int, (p ≤ x.2 ∧ x.2 ≤ p + 30 ∧ x.1.length ≤ 30) ∧ ConV Try.prog 90 [.ptr 4 0, .int .i64 n] [(4, rdB b p)] (.lst (.int .i64) x.1) [(4, rdB b x.2)] := by
  suffices hs : ∃ r hout, (∃ x : List Int × Int, (p ≤ x.2 ∧ x.2 ≤ p + 30 ∧ x.1.length ≤ 30) ∧ r = .lst (.int .i64) x.1 ∧ hout = [(4, rdB b x.2)]) ∧ ConV Try.prog 90 [.ptr 4 0, .int .i64 n] [(4, rdB b p)] r hout by
    obtain ⟨r, hout, ⟨v, hv, rfl, rfl⟩, h⟩ := hs
    exact ⟨v, hv, h⟩
  refine con_ex Θ_ok Try.func90 rfl rfl true 1 5 rfl rfl rfl rfl (R := fun r hout => ∃ x : List Int × Int, (p ≤ x.2 ∧ x.2 ≤ p + 30 ∧ x.1.length ≤ 30) ∧ r = .lst (.int .i64) x.1 ∧ hout = [(4, rdB b x.2)]) (r0 := .lst (.int .i64) []) (hout0 := [(4, rdB b p)]) (⟨([], p), by simp; omega, rfl, rfl⟩) fun K hK hb1 hb2 => ?_; simp only [argsV, enc, Nat.reduceAdd]
  clear hb1 hb2
  (repeat (any_goals (first | (with_reducible apply at_seq) | ((with_reducible apply at_regS Θ_ok); (conv => whnf)) | ((refine go ?_); (conv => whnf)) | ((refine go2 (fun xe hxe => ?_)); (conv => whnf)) | ((with_reducible refine cnd_d (fun hq => ?_) (fun hq => ?_)) <;> (conv => whnf)) | ((with_reducible refine cnd_i (fun hq => ?_) (fun hq => ?_)) <;> ((try simp only [decide_eq_true_eq, decide_eq_false_iff_not, Bool.not_eq_true', Bool.not_eq_false', beq_iff_eq, bne_iff_ne, beq_eq_false_iff_ne, bne_eq_false_iff_eq, ne_eq] at hq) <;> (first | omega | (conv => whnf)))) | ((with_reducible first | apply at_cond | apply at_ret | apply at_exit | apply at_skip); (conv => whnf)) | (with_reducible apply at_block) | ((with_reducible refine at_regD Θ_ok mixed (by kernel_rfl) ?_); (conv => whnf)))))
  refine at_loop hK [] [0, 1, 5, 6] (fun i : Nat × List Int × Int => ⟨[(0, .ptr 4 0), (1, .int .i64 n), (5, .ref 5), (6, .int .i64 i.1)], [(4, rdB b i.2.2), (5, .row 3 (.int .i64) i.2.1)], 6⟩)
    (fun i => (i.1 : Int) ≤ max n 0 ∧ i.2.1.length ≤ i.1 ∧ i.2.2 = p + i.1) (fun i => 20 - i.1) (0, [], p) (by simp; omega) rfl ?_
  rintro ⟨i, l, q⟩ ⟨hi1, hi2, hi3⟩
  dsimp only at hi1 hi2 hi3 ⊢
  by_cases hlt : (i : Int) < n
  · (repeat (any_goals (first | (with_reducible apply at_seq) | ((with_reducible apply at_regS Θ_ok); (conv => whnf)) | ((refine go ?_); (conv => whnf)) | ((refine go2 (fun xe hxe => ?_)); (conv => whnf)) | ((with_reducible refine cnd_d (fun hq => ?_) (fun hq => ?_)) <;> (conv => whnf)) | ((with_reducible refine cnd_i (fun hq => ?_) (fun hq => ?_)) <;> ((try simp only [decide_eq_true_eq, decide_eq_false_iff_not, Bool.not_eq_true', Bool.not_eq_false', beq_iff_eq, bne_iff_ne, beq_eq_false_iff_ne, bne_eq_false_iff_eq, ne_eq] at hq) <;> (first | omega | (conv => whnf)))) | ((with_reducible first | apply at_cond | apply at_ret | apply at_exit | apply at_skip); (conv => whnf)) | (with_reducible apply at_block) | ((with_reducible refine at_regD Θ_ok mixed (by kernel_rfl) ?_); (conv => whnf)) | ((with_reducible refine call_r ?_); (conv => whnf); (first | ((refine call_ex (pk_c b _ _ h (by omega) (by omega)) (fun xv hxv => ?_)); (conv => whnf)))))))
    · exact ⟨(i + 1, l ++ [(i : Int)], q + 1), ⟨by dsimp only; omega, by simp; omega, by dsimp only; omega⟩, by dsimp only; omega, rfl⟩
    · exact ⟨(i + 1, l, q + 1), ⟨by dsimp only; omega, by simp; omega, by dsimp only; omega⟩, by dsimp only; omega, rfl⟩
  · (repeat (any_goals (first | (with_reducible apply at_seq) | ((with_reducible apply at_regS Θ_ok); (conv => whnf)) | ((refine go ?_); (conv => whnf)) | ((refine go2 (fun xe hxe => ?_)); (conv => whnf)) | ((with_reducible refine cnd_d (fun hq => ?_) (fun hq => ?_)) <;> (conv => whnf)) | ((with_reducible refine cnd_i (fun hq => ?_) (fun hq => ?_)) <;> ((try simp only [decide_eq_true_eq, decide_eq_false_iff_not, Bool.not_eq_true', Bool.not_eq_false', beq_iff_eq, bne_iff_ne, beq_eq_false_iff_ne, bne_eq_false_iff_eq, ne_eq] at hq) <;> (first | omega | (conv => whnf)))) | ((with_reducible first | apply at_cond | apply at_ret | apply at_exit | apply at_skip); (conv => whnf)) | (with_reducible apply at_block) | ((with_reducible refine at_regD Θ_ok mixed (by kernel_rfl) ?_); (conv => whnf)) | ((with_reducible refine call_r ?_); (conv => whnf); (first | ((refine call_ex (pk_c b _ _ h (by omega) (by omega)) (fun xv hxv => ?_)); (conv => whnf)))))))
    · exact ⟨(l ++ [n], q + 1), ⟨by dsimp only; omega, by dsimp only; omega, by simp; omega⟩, rfl, rfl⟩
    · exact ⟨(l ++ [_], q + 1 + 1), ⟨by dsimp only; omega, by dsimp only; omega, by simp; omega⟩, rfl, rfl⟩
    · exact ⟨(l, q + 1), ⟨by dsimp only; omega, by dsimp only; omega, by dsimp only; omega⟩, rfl, rfl⟩
/-- vertices of a committee, drawn -/
def graD (c : List Int) (m : Int) (g : List Vtx) : Prop := (∀ v ∈ g, vtxS c v = true) ∧ (g.length : Int) ≤ m
theorem graD_auth {c : List Int} {m : Int} {g : List Vtx} (h : graD c m g) (r : Int) : (∀ a ∈ auth g r, 0 ≤ a ∧ a < c.length) ∧ (auth g r).length ≤ g.length := by
  refine ⟨fun a ha => ?_, ?_⟩
  · obtain ⟨v, hv, -, rfl⟩ := hasV_iff.1 (auth_mem.1 ha)
    exact (vtxS_ok (h.1 v hv)).2.1
  · unfold auth; rw [List.length_map]; exact List.length_filter_le _ _
set_option maxHeartbeats 4000000 in
theorem dgra_c (b : List Int) (p : Int) (c : List Int) (m : Int) (h : rdOK b 0) (hp : 0 ≤ p ∧ p ≤ 1000000) (hc : comV c = true) (hm : 0 ≤ m ∧ m ≤ 20) : ∃ x : List Vtx × Int, (p ≤ x.2 ∧ x.2 ≤ p + 1200 * m ∧ graD c (7 * m) x.1) ∧ ConV Try.prog 88 [.ptr 4 0, .lst (.int .i64) c, .int .i64 m] [(4, rdB b p)] (.ref 5) [(4, rdB b x.2), (5, .row 62 .vtx x.1)] := by
  suffices hs : ∃ r hout, (∃ x : List Vtx × Int, (p ≤ x.2 ∧ x.2 ≤ p + 1200 * m ∧ graD c (7 * m) x.1) ∧ r = .ref 5 ∧ hout = [(4, rdB b x.2), (5, .row 62 .vtx x.1)]) ∧ ConV Try.prog 88 [.ptr 4 0, .lst (.int .i64) c, .int .i64 m] [(4, rdB b p)] r hout by
    obtain ⟨r, hout, ⟨v, hv, rfl, rfl⟩, h⟩ := hs
    exact ⟨v, hv, h⟩
  refine con_ex Θ_ok Try.func88 rfl rfl false 1 5 rfl rfl rfl rfl (R := fun r hout => ∃ x : List Vtx × Int, (p ≤ x.2 ∧ x.2 ≤ p + 1200 * m ∧ graD c (7 * m) x.1) ∧ r = .ref 5 ∧ hout = [(4, rdB b x.2), (5, .row 62 .vtx x.1)]) (r0 := .ref 5) (hout0 := [(4, rdB b p), (5, .row 62 .vtx [])]) (⟨([], p), ⟨by dsimp only; omega, by dsimp only; omega, by simp, by simp; omega⟩, rfl, rfl⟩) fun K hK hb1 hb2 => ?_; simp only [argsV, enc, Nat.reduceAdd]
  clear hb1 hb2
  have h7 := (comV_iff.1 hc).2
  have hq := quo_bd hc
  (repeat (any_goals (first | (with_reducible apply at_seq) | ((with_reducible apply at_regS Θ_ok); (conv => whnf)) | ((refine go ?_); (conv => whnf)) | ((refine go2 (fun xe hxe => ?_)); (conv => whnf)) | ((with_reducible refine cnd_d (fun hq => ?_) (fun hq => ?_)) <;> (conv => whnf)) | ((with_reducible refine cnd_i (fun hq => ?_) (fun hq => ?_)) <;> ((try simp only [decide_eq_true_eq, decide_eq_false_iff_not, Bool.not_eq_true', Bool.not_eq_false', beq_iff_eq, bne_iff_ne, beq_eq_false_iff_ne, bne_eq_false_iff_eq, ne_eq] at hq) <;> (first | omega | (conv => whnf)))) | ((with_reducible first | apply at_cond | apply at_ret | apply at_exit | apply at_skip); (conv => whnf)) | (with_reducible apply at_block) | ((with_reducible refine at_regD Θ_ok mixed (by kernel_rfl) ?_); (conv => whnf)))))
  refine at_loop hK [] [0, 1, 2, 7, 8] (fun i : Nat × List Vtx × Int => ⟨[(0, .ptr 4 0), (1, .lst (.int .i64) c), (2, .int .i64 m), (7, .ref 5), (8, .int .i64 i.1)], [(4, rdB b i.2.2), (5, .row 62 .vtx i.2.1)], 6⟩)
    (fun i => (i.1 : Int) ≤ m ∧ graD c (7 * i.1) i.2.1 ∧ p ≤ i.2.2 ∧ i.2.2 ≤ p + 1200 * i.1) (fun i => 20 - i.1) (0, [], p) ⟨by dsimp only; omega, ⟨by simp, by simp⟩, by dsimp only; omega, by dsimp only; omega⟩ rfl ?_
  rintro ⟨n, g, q⟩ ⟨hi1, hi2, hi3, hi4⟩
  dsimp only at hi1 hi2 hi3 hi4 ⊢
  have hgl := hi2.2
  by_cases hlt : (n : Int) < m
  · have hau := graD_auth hi2 (n - 1)
    have hac := auth_c g ((n : Int) - 1) (by omega)
    generalize auth g ((n : Int) - 1) = hv at *
    (repeat (any_goals (first | (with_reducible apply at_seq) | ((with_reducible apply at_regS Θ_ok); (conv => whnf)) | ((refine go ?_); (conv => whnf)) | ((refine go2 (fun xe hxe => ?_)); (conv => whnf)) | ((with_reducible refine cnd_d (fun hq => ?_) (fun hq => ?_)) <;> (conv => whnf)) | ((with_reducible refine cnd_i (fun hq => ?_) (fun hq => ?_)) <;> ((try simp only [decide_eq_true_eq, decide_eq_false_iff_not, Bool.not_eq_true', Bool.not_eq_false', beq_iff_eq, bne_iff_ne, beq_eq_false_iff_ne, bne_eq_false_iff_eq, ne_eq] at hq) <;> (first | omega | (conv => whnf)))) | ((with_reducible first | apply at_cond | apply at_ret | apply at_exit | apply at_skip); (conv => whnf)) | (with_reducible apply at_block) | ((with_reducible refine at_regD Θ_ok mixed (by kernel_rfl) ?_); (conv => whnf)) | ((with_reducible refine call_r ?_); (conv => whnf); (first | ((with_reducible refine call_i (hac) ?_); (conv => whnf)))))))
    refine at_loop hK [] [0, 1, 2, 7, 8, 9, 10] (fun i : Nat × List Vtx × Int => ⟨[(0, .ptr 4 0), (1, .lst (.int .i64) c), (2, .int .i64 m), (7, .ref 5), (8, .int .i64 n), (9, .ref 6), (10, .int .i64 i.1)], [(4, rdB b i.2.2), (5, .row 62 .vtx i.2.1), (6, .row 3 (.int .i64) hv)], 7⟩)
      (fun i => i.1 ≤ c.length ∧ graD c (7 * n + i.1) i.2.1 ∧ q ≤ i.2.2 ∧ i.2.2 ≤ q + 150 * i.1) (fun i => c.length - i.1) (0, g, q) ⟨by dsimp only; omega, ⟨hi2.1, by dsimp only; omega⟩, by dsimp only; omega, by dsimp only; omega⟩ rfl ?_
    rintro ⟨a, g1, q1⟩ ⟨ha1, ha2, ha3, ha4⟩
    dsimp only at ha1 ha2 ha3 ha4 ⊢
    by_cases hal : a < c.length
    · have hgl1 := ha2.2
      (repeat (any_goals (first | (with_reducible apply at_seq) | ((with_reducible apply at_regS Θ_ok); (conv => whnf)) | ((refine go ?_); (conv => whnf)) | ((refine go2 (fun xe hxe => ?_)); (conv => whnf)) | ((with_reducible refine cnd_d (fun hq => ?_) (fun hq => ?_)) <;> (conv => whnf)) | ((with_reducible refine cnd_i (fun hq => ?_) (fun hq => ?_)) <;> ((try simp only [decide_eq_true_eq, decide_eq_false_iff_not, Bool.not_eq_true', Bool.not_eq_false', beq_iff_eq, bne_iff_ne, beq_eq_false_iff_ne, bne_eq_false_iff_eq, ne_eq] at hq) <;> (first | omega | (conv => whnf)))) | ((with_reducible first | apply at_cond | apply at_ret | apply at_exit | apply at_skip); (conv => whnf)) | (with_reducible apply at_block) | ((with_reducible refine at_regD Θ_ok mixed (by kernel_rfl) ?_); (conv => whnf)) | ((with_reducible refine call_r ?_); (conv => whnf); (first | ((refine call_ex (pk_c b _ _ h (by omega) (by omega)) (fun xv hxv => ?_)); (conv => whnf)))))))
      · exact ⟨(a + 1, g1, q1 + 1), ⟨by dsimp only; omega, ⟨ha2.1, by dsimp only; omega⟩, by dsimp only; omega, by dsimp only; omega⟩, by dsimp only; omega, rfl⟩
      refine at_loop hK [] [0, 1, 2, 7, 8, 9, 10, 11, 12] (fun i : Nat × List Int × Int × Int => ⟨[(0, .ptr 4 0), (1, .lst (.int .i64) c), (2, .int .i64 m), (7, .ref 5), (8, .int .i64 n), (9, .ref 6), (10, .int .i64 a), (11, .ptr 7 0), (12, .int .i64 i.1)],
          [(4, rdB b i.2.2.1), (5, .row 62 .vtx g1), (6, .row 3 (.int .i64) hv), (7, .var 62 [.int .i64 n, .int .i64 a, .ref 8, .int .i64 i.2.2.2]), (8, .row 3 (.int .i64) i.2.1)], 9⟩)
        (fun i => i.1 ≤ hv.length ∧ ((∀ x ∈ i.2.1, 0 ≤ x ∧ x < c.length) ∧ i.2.1.length ≤ i.1) ∧ q1 + 2 ≤ i.2.2.1 ∧ i.2.2.1 ≤ q1 + 2 + i.1) (fun i => hv.length - i.1) (0, [], q1 + 1 + 1, _) ⟨by dsimp only; omega, ⟨by simp, by simp⟩, by dsimp only; omega, by dsimp only; omega⟩ rfl ?_
      rintro ⟨k, ps, q2, dg⟩ ⟨hk1, ⟨hk2, hk3⟩, hk4, hk5⟩
      dsimp only at hk1 hk2 hk3 hk4 hk5 ⊢
      by_cases hkl : k < hv.length
      · have hxe : hv[k]? = some hv[k] := List.getElem?_eq_getElem hkl
        have hxi := hau.1 _ (List.getElem_mem hkl)
        generalize hv[k] = y at *
        (repeat (any_goals (first | (with_reducible apply at_seq) | ((with_reducible apply at_regS Θ_ok); (conv => whnf)) | ((refine go ?_); (conv => whnf)) | ((refine go2 (fun xe hxe => ?_)); (conv => whnf)) | ((with_reducible refine cnd_d (fun hq => ?_) (fun hq => ?_)) <;> (conv => whnf)) | ((with_reducible refine cnd_i (fun hq => ?_) (fun hq => ?_)) <;> ((try simp only [decide_eq_true_eq, decide_eq_false_iff_not, Bool.not_eq_true', Bool.not_eq_false', beq_iff_eq, bne_iff_ne, beq_eq_false_iff_ne, bne_eq_false_iff_eq, ne_eq] at hq) <;> (first | omega | (conv => whnf)))) | ((with_reducible first | apply at_cond | apply at_ret | apply at_exit | apply at_skip); (conv => whnf)) | (with_reducible apply at_block) | ((with_reducible refine at_regD Θ_ok mixed (by kernel_rfl) ?_); (conv => whnf)) | ((with_reducible refine call_r ?_); (conv => whnf); (first | ((refine call_ex (pk_c b _ _ h (by omega) (by omega)) (fun xv hxv => ?_)); (conv => whnf)))))))
        · exact ⟨(k + 1, ps ++ [y], q2 + 1, dg), ⟨by dsimp only; omega, ⟨tk_snoc hk2 hxi, by simp; omega⟩, by dsimp only; omega, by dsimp only; omega⟩, by dsimp only; omega, rfl⟩
        · exact ⟨(k + 1, ps, q2 + 1, dg), ⟨by dsimp only; omega, ⟨hk2, by dsimp only; omega⟩, by dsimp only; omega, by dsimp only; omega⟩, by dsimp only; omega, rfl⟩
      · have hw := wei_bd (ms := ps) hc
        have fin : ∀ (u : Vtx) (hu : vtxS c u = true), graD c (7 * n + (a + 1 : Nat)) (g1 ++ [u]) := fun u hu => ⟨tk_snoc ha2.1 hu, by simp; omega⟩
        have hwc := wei_c c ps hc hk2 (by omega)
        (repeat (any_goals (first | (with_reducible apply at_seq) | ((with_reducible apply at_regS Θ_ok); (conv => whnf)) | ((refine go ?_); (conv => whnf)) | ((refine go2 (fun xe hxe => ?_)); (conv => whnf)) | ((with_reducible refine cnd_d (fun hq => ?_) (fun hq => ?_)) <;> (conv => whnf)) | ((with_reducible refine cnd_i (fun hq => ?_) (fun hq => ?_)) <;> ((try simp only [decide_eq_true_eq, decide_eq_false_iff_not, Bool.not_eq_true', Bool.not_eq_false', beq_iff_eq, bne_iff_ne, beq_eq_false_iff_ne, bne_eq_false_iff_eq, ne_eq] at hq) <;> (first | omega | (conv => whnf)))) | ((with_reducible first | apply at_cond | apply at_ret | apply at_exit | apply at_skip); (conv => whnf)) | (with_reducible apply at_block) | ((with_reducible refine at_regD Θ_ok mixed (by kernel_rfl) ?_); (conv => whnf)) | ((with_reducible refine call_r ?_); (conv => whnf); (first | ((with_reducible refine call_i (hwc) ?_); (conv => whnf)) | ((with_reducible refine call_i (quo_c _ hc) ?_); (conv => whnf)) | ((with_reducible refine call_i (vtx_c c ⟨n, a, _, dg⟩ hc) ?_); (conv => whnf)))))))
        all_goals first
          | exact ⟨(a + 1, g1 ++ [_], q2), ⟨by dsimp only; omega, fin _ hq, by dsimp only; omega, by dsimp only; omega⟩, by dsimp only; omega, rfl⟩
          | exact ⟨(a + 1, g1, q2), ⟨by dsimp only; omega, ⟨ha2.1, by dsimp only; omega⟩, by dsimp only; omega, by dsimp only; omega⟩, by dsimp only; omega, rfl⟩
    · (repeat (any_goals (first | (with_reducible apply at_seq) | ((with_reducible apply at_regS Θ_ok); (conv => whnf)) | ((refine go ?_); (conv => whnf)) | ((refine go2 (fun xe hxe => ?_)); (conv => whnf)) | ((with_reducible refine cnd_d (fun hq => ?_) (fun hq => ?_)) <;> (conv => whnf)) | ((with_reducible refine cnd_i (fun hq => ?_) (fun hq => ?_)) <;> ((try simp only [decide_eq_true_eq, decide_eq_false_iff_not, Bool.not_eq_true', Bool.not_eq_false', beq_iff_eq, bne_iff_ne, beq_eq_false_iff_ne, bne_eq_false_iff_eq, ne_eq] at hq) <;> (first | omega | (conv => whnf)))) | ((with_reducible first | apply at_cond | apply at_ret | apply at_exit | apply at_skip); (conv => whnf)) | (with_reducible apply at_block) | ((with_reducible refine at_regD Θ_ok mixed (by kernel_rfl) ?_); (conv => whnf)))))
      exact ⟨(n + 1, g1, q1), ⟨by dsimp only; omega, ⟨ha2.1, by have := ha2.2; dsimp only; omega⟩, by dsimp only; omega, by dsimp only; omega⟩, by dsimp only; omega, rfl⟩
  · (repeat (any_goals (first | (with_reducible apply at_seq) | ((with_reducible apply at_regS Θ_ok); (conv => whnf)) | ((refine go ?_); (conv => whnf)) | ((refine go2 (fun xe hxe => ?_)); (conv => whnf)) | ((with_reducible refine cnd_d (fun hq => ?_) (fun hq => ?_)) <;> (conv => whnf)) | ((with_reducible refine cnd_i (fun hq => ?_) (fun hq => ?_)) <;> ((try simp only [decide_eq_true_eq, decide_eq_false_iff_not, Bool.not_eq_true', Bool.not_eq_false', beq_iff_eq, bne_iff_ne, beq_eq_false_iff_ne, bne_eq_false_iff_eq, ne_eq] at hq) <;> (first | omega | (conv => whnf)))) | ((with_reducible first | apply at_cond | apply at_ret | apply at_exit | apply at_skip); (conv => whnf)) | (with_reducible apply at_block) | ((with_reducible refine at_regD Θ_ok mixed (by kernel_rfl) ?_); (conv => whnf)))))
    exact ⟨(g, q), ⟨by dsimp only; omega, by dsimp only; omega, hi2.1, by dsimp only; omega⟩, rfl, rfl⟩
set_option maxHeartbeats 8000000 in
theorem dspo_c (b : List Int) (p : Int) (m : Int) (h : rdOK b 0) (hp : 0 ≤ p ∧ p ≤ 100000) (hm : 0 ≤ m ∧ m ≤ 20) : ∃ x : (List Int × List Vtx) × Int, (p ≤ x.2 ∧ x.2 ≤ p + 30000 ∧ x.1.1.length ≤ 11 ∧ x.1.2.length ≤ 200) ∧ ConV Try.prog 56 [.ptr 4 0, .int .i64 m] [(4, rdB b p)] (.tup [.lst (.int .i64) x.1.1, .lst .vtx x.1.2]) [(4, rdB b x.2)] := by
  suffices hs : ∃ r hout, (∃ x : (List Int × List Vtx) × Int, (p ≤ x.2 ∧ x.2 ≤ p + 30000 ∧ x.1.1.length ≤ 11 ∧ x.1.2.length ≤ 200) ∧ r = .tup [.lst (.int .i64) x.1.1, .lst .vtx x.1.2] ∧ hout = [(4, rdB b x.2)]) ∧ ConV Try.prog 56 [.ptr 4 0, .int .i64 m] [(4, rdB b p)] r hout by
    obtain ⟨r, hout, ⟨v, hv, rfl, rfl⟩, h⟩ := hs
    exact ⟨v, hv, h⟩
  refine con_ex Θ_ok Try.func56 rfl rfl true 1 5 rfl rfl rfl rfl (R := fun r hout => ∃ x : (List Int × List Vtx) × Int, (p ≤ x.2 ∧ x.2 ≤ p + 30000 ∧ x.1.1.length ≤ 11 ∧ x.1.2.length ≤ 200) ∧ r = .tup [.lst (.int .i64) x.1.1, .lst .vtx x.1.2] ∧ hout = [(4, rdB b x.2)]) (r0 := .tup [.lst (.int .i64) [], .lst .vtx []]) (hout0 := [(4, rdB b p)]) (⟨(([], []), p), by simp; omega, rfl, rfl⟩) fun K hK hb1 hb2 => ?_; simp only [argsV, enc, Nat.reduceAdd]
  clear hb1 hb2
  obtain ⟨⟨c, q⟩, ⟨h1, h2, h3⟩, hgood⟩ := dgood_c b p h (by omega)
  dsimp only at h1 h2 h3 hgood
  have h7 := (comV_iff.1 h3).2
  obtain ⟨⟨g, q2⟩, ⟨h4, h5, h6⟩, hgra⟩ := dgra_c b q c m h (by omega) h3 hm
  dsimp only at h4 h5 h6 hgra
  have hgl := h6.2
  by_cases h0 : (g.length : Int) = 0
  · have hg : g = [] := List.length_eq_zero_iff.1 (by omega)
    (repeat (any_goals (first | (with_reducible apply at_seq) | ((with_reducible apply at_regS Θ_ok); (conv => whnf)) | ((refine go ?_); (conv => whnf)) | ((refine go2 (fun xe hxe => ?_)); (conv => whnf)) | ((with_reducible refine cnd_d (fun hq => ?_) (fun hq => ?_)) <;> (conv => whnf)) | ((with_reducible refine cnd_i (fun hq => ?_) (fun hq => ?_)) <;> ((try simp only [decide_eq_true_eq, decide_eq_false_iff_not, Bool.not_eq_true', Bool.not_eq_false', beq_iff_eq, bne_iff_ne, beq_eq_false_iff_ne, bne_eq_false_iff_eq, ne_eq] at hq) <;> (first | omega | (conv => whnf)))) | ((with_reducible first | apply at_cond | apply at_ret | apply at_exit | apply at_skip); (conv => whnf)) | (with_reducible apply at_block) | ((with_reducible refine at_regD Θ_ok mixed (by kernel_rfl) ?_); (conv => whnf)) | ((with_reducible refine call_o ?_); (conv => whnf); (first | ((with_reducible refine call_i (hgood) ?_); (conv => whnf)) | ((with_reducible refine call_i (hgra) ?_); (conv => whnf)))))))
    exact ⟨((c, g), q2), ⟨by dsimp only; omega, by dsimp only; omega, by dsimp only; omega, by dsimp only; omega⟩, rfl, rfl⟩
  obtain ⟨k, hk, hkc⟩ := pk_c b q2 g.length h (by omega) (by omega)
  obtain ⟨z, hz, hzc⟩ := pk_c b (q2 + 1) 20 h (by omega) (by omega)
  have hg0 : ((g.length : Int) == 0) = false := by rw [beq_eq_false_iff_ne]; exact h0
  by_cases hz4 : z = 4
  · have f0 : (z == 0) = false := by rw [hz4]; rfl
    have f1 : (z == 1) = false := by rw [hz4]; rfl
    have f2 : (z == 2) = false := by rw [hz4]; rfl
    have f3 : (z == 3) = false := by rw [hz4]; rfl
    have f4 : (z == 4) = true := by rw [hz4]; rfl
    have e1 : cutL g none (some (.int .i64 k)) 0 k.toNat = g.take k.toNat := by simp [cutL]
    have e2 : cutL g (some (.int .i64 (k + 1))) none (k + 1).toNat g.length = g.drop (k + 1).toNat := by simp [cutL]
    (repeat (any_goals (first | (with_reducible apply at_seq) | ((with_reducible apply at_regS Θ_ok); (conv => whnf)) | ((refine go ?_); (conv => whnf)) | ((refine go2 (fun xe hxe => ?_)); (conv => whnf)) | ((with_reducible refine cnd_d (fun hq => ?_) (fun hq => ?_)) <;> (conv => whnf)) | ((with_reducible refine cnd_i (fun hq => ?_) (fun hq => ?_)) <;> ((try simp only [decide_eq_true_eq, decide_eq_false_iff_not, Bool.not_eq_true', Bool.not_eq_false', beq_iff_eq, bne_iff_ne, beq_eq_false_iff_ne, bne_eq_false_iff_eq, ne_eq] at hq) <;> (first | omega | (conv => whnf)))) | ((with_reducible first | apply at_cond | apply at_ret | apply at_exit | apply at_skip); (conv => whnf)) | (with_reducible apply at_block) | ((with_reducible refine at_regD Θ_ok mixed (by kernel_rfl) ?_); (conv => whnf)) | ((with_reducible refine call_o ?_); (conv => whnf); (first | ((with_reducible refine call_i (hgood) ?_); (conv => whnf)))))))
    (with_reducible refine call_o ?_)
    conv => whnf
    refine call_i hgra ?_
    conv => whnf
    refine at_fz [7] ?_
    conv => whnf
    (repeat (any_goals (first | (with_reducible apply at_seq) | ((with_reducible apply at_regS Θ_ok); (conv => whnf)) | ((refine go ?_); (conv => whnf)) | ((refine go2 (fun xe hxe => ?_)); (conv => whnf)) | ((with_reducible refine cnd_d (fun hq => ?_) (fun hq => ?_)) <;> (conv => whnf)) | ((with_reducible refine cnd_i (fun hq => ?_) (fun hq => ?_)) <;> ((try simp only [decide_eq_true_eq, decide_eq_false_iff_not, Bool.not_eq_true', Bool.not_eq_false', beq_iff_eq, bne_iff_ne, beq_eq_false_iff_ne, bne_eq_false_iff_eq, ne_eq] at hq) <;> (first | omega | (conv => whnf)))) | ((with_reducible first | apply at_cond | apply at_ret | apply at_exit | apply at_skip); (conv => whnf)) | (with_reducible apply at_block) | ((with_reducible refine at_regD Θ_ok mixed (by kernel_rfl) ?_); (conv => whnf)) | ((with_reducible refine call_r ?_); (conv => whnf); (first | ((with_reducible refine call_i (hkc) ?_); (conv => whnf)) | ((with_reducible refine call_i (hzc) ?_); (conv => whnf)))))))
    rw [e1]
    refine need_i (show fits 48 (0 + (g.take k.toNat).length) by unfold fits; rw [List.length_take]; omega) ?_
    conv => whnf
    (repeat (any_goals (first | (with_reducible apply at_seq) | ((with_reducible apply at_regS Θ_ok); (conv => whnf)) | ((refine go ?_); (conv => whnf)) | ((refine go2 (fun xe hxe => ?_)); (conv => whnf)) | ((with_reducible refine cnd_d (fun hq => ?_) (fun hq => ?_)) <;> (conv => whnf)) | ((with_reducible refine cnd_i (fun hq => ?_) (fun hq => ?_)) <;> ((try simp only [decide_eq_true_eq, decide_eq_false_iff_not, Bool.not_eq_true', Bool.not_eq_false', beq_iff_eq, bne_iff_ne, beq_eq_false_iff_ne, bne_eq_false_iff_eq, ne_eq] at hq) <;> (first | omega | (conv => whnf)))) | ((with_reducible first | apply at_cond | apply at_ret | apply at_exit | apply at_skip); (conv => whnf)) | (with_reducible apply at_block) | ((with_reducible refine at_regD Θ_ok mixed (by kernel_rfl) ?_); (conv => whnf)))))
    rw [e2]
    refine need_i (fits_app ?_ ?_ (by decide)) ?_
    · rw [List.length_append]
      show 0 + (g.take k.toNat).length ≤ 1000
      rw [List.length_take]
      omega
    · show (g.drop (k + 1).toNat).length ≤ 1000
      rw [List.length_drop]
      omega
    conv => whnf
    (repeat (any_goals (first | (with_reducible apply at_seq) | ((with_reducible apply at_regS Θ_ok); (conv => whnf)) | ((refine go ?_); (conv => whnf)) | ((refine go2 (fun xe hxe => ?_)); (conv => whnf)) | ((with_reducible refine cnd_d (fun hq => ?_) (fun hq => ?_)) <;> (conv => whnf)) | ((with_reducible refine cnd_i (fun hq => ?_) (fun hq => ?_)) <;> ((try simp only [decide_eq_true_eq, decide_eq_false_iff_not, Bool.not_eq_true', Bool.not_eq_false', beq_iff_eq, bne_iff_ne, beq_eq_false_iff_ne, bne_eq_false_iff_eq, ne_eq] at hq) <;> (first | omega | (conv => whnf)))) | ((with_reducible first | apply at_cond | apply at_ret | apply at_exit | apply at_skip); (conv => whnf)) | (with_reducible apply at_block) | ((with_reducible refine at_regD Θ_ok mixed (by kernel_rfl) ?_); (conv => whnf)))))
    refine ⟨((c, g.take k.toNat ++ g.drop (k + 1).toNat), _), ?_, rfl, rfl⟩
    dsimp only
    exact ⟨by omega, by omega, by omega, by simp; omega⟩
  have hz4' : (z == 4) = false := by rw [beq_eq_false_iff_ne]; exact hz4
  (repeat (any_goals (first | (with_reducible apply at_seq) | ((with_reducible apply at_regS Θ_ok); (conv => whnf)) | ((refine go ?_); (conv => whnf)) | ((refine go2 (fun xe hxe => ?_)); (conv => whnf)) | ((with_reducible refine cnd_d (fun hq => ?_) (fun hq => ?_)) <;> (conv => whnf)) | ((with_reducible refine cnd_i (fun hq => ?_) (fun hq => ?_)) <;> ((try simp only [decide_eq_true_eq, decide_eq_false_iff_not, Bool.not_eq_true', Bool.not_eq_false', beq_iff_eq, bne_iff_ne, beq_eq_false_iff_ne, bne_eq_false_iff_eq, ne_eq] at hq) <;> (first | omega | (conv => whnf)))) | ((with_reducible first | apply at_cond | apply at_ret | apply at_exit | apply at_skip); (conv => whnf)) | (with_reducible apply at_block) | ((with_reducible refine at_regD Θ_ok mixed (by kernel_rfl) ?_); (conv => whnf)) | ((with_reducible refine call_r ?_); (conv => whnf); (first | ((with_reducible refine call_i (hkc) ?_); (conv => whnf)) | ((with_reducible refine call_i (hzc) ?_); (conv => whnf)) | ((refine call_ex (pk_c b _ _ h (by omega) (by omega)) (fun xv hxv => ?_)); (conv => whnf)) | ((refine call_ex (ddig_c b _ h (by omega)) (fun xv hxv => ?_)); (conv => whnf)) | ((refine call_ex (dmem_c b _ _ h (by omega) (by omega)) (fun xv hxv => ?_)); (conv => whnf)) | ((refine call_ex (dcom_c b _ h (by omega)) (fun xv hxv => ?_)); (conv => whnf)))) | ((with_reducible refine call_o ?_); (conv => whnf); (first | ((with_reducible refine call_i (hgood) ?_); (conv => whnf)) | ((with_reducible refine call_i (hgra) ?_); (conv => whnf)))))))
  all_goals
    try
      obtain ⟨y1, y2⟩ := xv
      dsimp only at hxv
  all_goals
    try
      refine ⟨((_, _), _), ?_, rfl, rfl⟩
      dsimp only
      refine ⟨by omega, by omega, by omega, ?_⟩
      first | omega | (simp only [List.length_set]; omega)
  refine ⟨((c, g ++ [_]), _), ?_, rfl, rfl⟩
  dsimp only
  exact ⟨by omega, by omega, by omega, by simp; omega⟩
end Go.Proofs.Ytkclhekkcffpoaa.Am
namespace Go.Proofs.Ytkclhekkcffpoaa.Am
set_option linter.unusedSimpArgs false
set_option linter.unusedVariables false
open Go
attribute [local irreducible] Mk Need Ari Get Idx Cnd CallM CallA Opt Unch At ConV
set_option maxRecDepth 10000

theorem take_snoc_eq {α : Type} {a b : List α} {i : Nat} {x : α} (h : a.take i = b.take i) (ha : a[i]? = some x) (hb : b[i]? = some x) : a.take (i + 1) = b.take (i + 1) := by
  rw [List.take_add_one, List.take_add_one, h, ha, hb]
theorem sameInts_c (a b : List Int) : ConV Try.prog 26 [.lst (.int .i64) a, .lst (.int .i64) b] [] (.bool (decide (a = b))) [] := by
  refine con_eq Θ_ok Try.func26 rfl rfl false 0 4 rfl rfl rfl rfl fun K hK hb1 hb2 => ?_; simp only [argsV, enc, Nat.reduceAdd]
  simp [toDL, V.toD, bnd, encD, D.cells] at hb1
  by_cases hl : a.length = b.length
  · (repeat (any_goals (first | (with_reducible apply at_seq) | ((with_reducible apply at_regS Θ_ok); (conv => whnf)) | ((refine go ?_); (conv => whnf)) | ((refine go2 (fun xe hxe => ?_)); (conv => whnf)) | ((with_reducible refine cnd_d (fun hq => ?_) (fun hq => ?_)) <;> (conv => whnf)) | ((with_reducible refine cnd_i (fun hq => ?_) (fun hq => ?_)) <;> ((try simp only [decide_eq_true_eq, decide_eq_false_iff_not, Bool.not_eq_true', Bool.not_eq_false', beq_iff_eq, bne_iff_ne, beq_eq_false_iff_ne, bne_eq_false_iff_eq, ne_eq] at hq) <;> (first | omega | (conv => whnf)))) | ((with_reducible first | apply at_cond | apply at_ret | apply at_exit | apply at_skip); (conv => whnf)) | (with_reducible apply at_block) | ((with_reducible refine at_regD Θ_ok mixed (by kernel_rfl) ?_); (conv => whnf)))))
    refine at_loop hK [] [0, 1, 4, 5] (fun i : Nat => ⟨[(0, .lst (.int .i64) a), (1, .lst (.int .i64) b), (4, .bool false), (5, .int .i64 i)], [], 4⟩) (fun i => i ≤ a.length ∧ a.take i = b.take i) (fun i => a.length - i) 0 ⟨by simp, by simp⟩ rfl ?_
    rintro i ⟨hi, hall⟩
    by_cases hlt : i < a.length
    · obtain ⟨x, hx⟩ : ∃ x, a[i]? = some x := ⟨_, List.getElem?_eq_getElem hlt⟩
      obtain ⟨y, hy⟩ : ∃ y, b[i]? = some y := ⟨_, List.getElem?_eq_getElem (by omega)⟩
      (repeat (any_goals (first | (with_reducible apply at_seq) | ((with_reducible apply at_regS Θ_ok); (conv => whnf)) | ((refine go ?_); (conv => whnf)) | ((refine go2 (fun xe hxe => ?_)); (conv => whnf)) | ((with_reducible refine cnd_d (fun hq => ?_) (fun hq => ?_)) <;> (conv => whnf)) | ((with_reducible refine cnd_i (fun hq => ?_) (fun hq => ?_)) <;> ((try simp only [decide_eq_true_eq, decide_eq_false_iff_not, Bool.not_eq_true', Bool.not_eq_false', beq_iff_eq, bne_iff_ne, beq_eq_false_iff_ne, bne_eq_false_iff_eq, ne_eq] at hq) <;> (first | omega | (conv => whnf)))) | ((with_reducible first | apply at_cond | apply at_ret | apply at_exit | apply at_skip); (conv => whnf)) | (with_reducible apply at_block) | ((with_reducible refine at_regD Θ_ok mixed (by kernel_rfl) ?_); (conv => whnf)))))
      · have hne : ¬ x = y := hq
        exact ⟨by rw [decide_eq_false]; rintro rfl; rw [hx] at hy; exact hne (Option.some.inj hy), rfl⟩
      · subst hq
        exact ⟨i + 1, ⟨by omega, take_snoc_eq hall hx hy⟩, by omega, rfl⟩
    · (repeat (any_goals (first | (with_reducible apply at_seq) | ((with_reducible apply at_regS Θ_ok); (conv => whnf)) | ((refine go ?_); (conv => whnf)) | ((refine go2 (fun xe hxe => ?_)); (conv => whnf)) | ((with_reducible refine cnd_d (fun hq => ?_) (fun hq => ?_)) <;> (conv => whnf)) | ((with_reducible refine cnd_i (fun hq => ?_) (fun hq => ?_)) <;> ((try simp only [decide_eq_true_eq, decide_eq_false_iff_not, Bool.not_eq_true', Bool.not_eq_false', beq_iff_eq, bne_iff_ne, beq_eq_false_iff_ne, bne_eq_false_iff_eq, ne_eq] at hq) <;> (first | omega | (conv => whnf)))) | ((with_reducible first | apply at_cond | apply at_ret | apply at_exit | apply at_skip); (conv => whnf)) | (with_reducible apply at_block) | ((with_reducible refine at_regD Θ_ok mixed (by kernel_rfl) ?_); (conv => whnf)))))
      have hab : a = b := by rwa [List.take_of_length_le (by omega), List.take_of_length_le (by omega)] at hall
      exact ⟨by rw [decide_eq_true hab], rfl⟩
  · (repeat (any_goals (first | (with_reducible apply at_seq) | ((with_reducible apply at_regS Θ_ok); (conv => whnf)) | ((refine go ?_); (conv => whnf)) | ((refine go2 (fun xe hxe => ?_)); (conv => whnf)) | ((with_reducible refine cnd_d (fun hq => ?_) (fun hq => ?_)) <;> (conv => whnf)) | ((with_reducible refine cnd_i (fun hq => ?_) (fun hq => ?_)) <;> ((try simp only [decide_eq_true_eq, decide_eq_false_iff_not, Bool.not_eq_true', Bool.not_eq_false', beq_iff_eq, bne_iff_ne, beq_eq_false_iff_ne, bne_eq_false_iff_eq, ne_eq] at hq) <;> (first | omega | (conv => whnf)))) | ((with_reducible first | apply at_cond | apply at_ret | apply at_exit | apply at_skip); (conv => whnf)) | (with_reducible apply at_block) | ((with_reducible refine at_regD Θ_ok mixed (by kernel_rfl) ?_); (conv => whnf)))))
    exact ⟨by rw [decide_eq_false]; rintro rfl; exact hl rfl, rfl⟩
theorem eqIntS_c (a b : List Int) : ConV Try.prog 14 [.lst (.int .i64) a, .lst (.int .i64) b] [] (.bool (decide (a = b))) [] := by
  refine con_eq Θ_ok Try.func14 rfl rfl false 0 4 rfl rfl rfl rfl fun K hK hb1 hb2 => ?_; simp only [argsV, enc, Nat.reduceAdd]
  simp [toDL, V.toD, bnd, encD, D.cells] at hb1
  by_cases hl : a.length = b.length
  · (repeat (any_goals (first | (with_reducible apply at_seq) | ((with_reducible apply at_regS Θ_ok); (conv => whnf)) | ((refine go ?_); (conv => whnf)) | ((refine go2 (fun xe hxe => ?_)); (conv => whnf)) | ((with_reducible refine cnd_d (fun hq => ?_) (fun hq => ?_)) <;> (conv => whnf)) | ((with_reducible refine cnd_i (fun hq => ?_) (fun hq => ?_)) <;> ((try simp only [decide_eq_true_eq, decide_eq_false_iff_not, Bool.not_eq_true', Bool.not_eq_false', beq_iff_eq, bne_iff_ne, beq_eq_false_iff_ne, bne_eq_false_iff_eq, ne_eq] at hq) <;> (first | omega | (conv => whnf)))) | ((with_reducible first | apply at_cond | apply at_ret | apply at_exit | apply at_skip); (conv => whnf)) | (with_reducible apply at_block) | ((with_reducible refine at_regD Θ_ok mixed (by kernel_rfl) ?_); (conv => whnf)))))
    refine at_loop hK [] [0, 1, 4, 5] (fun i : Nat => ⟨[(0, .lst (.int .i64) a), (1, .lst (.int .i64) b), (4, .bool false), (5, .int .i64 i)], [], 4⟩) (fun i => i ≤ a.length ∧ a.take i = b.take i) (fun i => a.length - i) 0 ⟨by simp, by simp⟩ rfl ?_
    rintro i ⟨hi, hall⟩
    by_cases hlt : i < a.length
    · obtain ⟨x, hx⟩ : ∃ x, a[i]? = some x := ⟨_, List.getElem?_eq_getElem hlt⟩
      obtain ⟨y, hy⟩ : ∃ y, b[i]? = some y := ⟨_, List.getElem?_eq_getElem (by omega)⟩
      (repeat (any_goals (first | (with_reducible apply at_seq) | ((with_reducible apply at_regS Θ_ok); (conv => whnf)) | ((refine go ?_); (conv => whnf)) | ((refine go2 (fun xe hxe => ?_)); (conv => whnf)) | ((with_reducible refine cnd_d (fun hq => ?_) (fun hq => ?_)) <;> (conv => whnf)) | ((with_reducible refine cnd_i (fun hq => ?_) (fun hq => ?_)) <;> ((try simp only [decide_eq_true_eq, decide_eq_false_iff_not, Bool.not_eq_true', Bool.not_eq_false', beq_iff_eq, bne_iff_ne, beq_eq_false_iff_ne, bne_eq_false_iff_eq, ne_eq] at hq) <;> (first | omega | (conv => whnf)))) | ((with_reducible first | apply at_cond | apply at_ret | apply at_exit | apply at_skip); (conv => whnf)) | (with_reducible apply at_block) | ((with_reducible refine at_regD Θ_ok mixed (by kernel_rfl) ?_); (conv => whnf)))))
      · have hne : ¬ x = y := hq
        exact ⟨by rw [decide_eq_false]; rintro rfl; rw [hx] at hy; exact hne (Option.some.inj hy), rfl⟩
      · subst hq
        exact ⟨i + 1, ⟨by omega, take_snoc_eq hall hx hy⟩, by omega, rfl⟩
    · (repeat (any_goals (first | (with_reducible apply at_seq) | ((with_reducible apply at_regS Θ_ok); (conv => whnf)) | ((refine go ?_); (conv => whnf)) | ((refine go2 (fun xe hxe => ?_)); (conv => whnf)) | ((with_reducible refine cnd_d (fun hq => ?_) (fun hq => ?_)) <;> (conv => whnf)) | ((with_reducible refine cnd_i (fun hq => ?_) (fun hq => ?_)) <;> ((try simp only [decide_eq_true_eq, decide_eq_false_iff_not, Bool.not_eq_true', Bool.not_eq_false', beq_iff_eq, bne_iff_ne, beq_eq_false_iff_ne, bne_eq_false_iff_eq, ne_eq] at hq) <;> (first | omega | (conv => whnf)))) | ((with_reducible first | apply at_cond | apply at_ret | apply at_exit | apply at_skip); (conv => whnf)) | (with_reducible apply at_block) | ((with_reducible refine at_regD Θ_ok mixed (by kernel_rfl) ?_); (conv => whnf)))))
      have hab : a = b := by rwa [List.take_of_length_le (by omega), List.take_of_length_le (by omega)] at hall
      exact ⟨by rw [decide_eq_true hab], rfl⟩
  · (repeat (any_goals (first | (with_reducible apply at_seq) | ((with_reducible apply at_regS Θ_ok); (conv => whnf)) | ((refine go ?_); (conv => whnf)) | ((refine go2 (fun xe hxe => ?_)); (conv => whnf)) | ((with_reducible refine cnd_d (fun hq => ?_) (fun hq => ?_)) <;> (conv => whnf)) | ((with_reducible refine cnd_i (fun hq => ?_) (fun hq => ?_)) <;> ((try simp only [decide_eq_true_eq, decide_eq_false_iff_not, Bool.not_eq_true', Bool.not_eq_false', beq_iff_eq, bne_iff_ne, beq_eq_false_iff_ne, bne_eq_false_iff_eq, ne_eq] at hq) <;> (first | omega | (conv => whnf)))) | ((with_reducible first | apply at_cond | apply at_ret | apply at_exit | apply at_skip); (conv => whnf)) | (with_reducible apply at_block) | ((with_reducible refine at_regD Θ_ok mixed (by kernel_rfl) ?_); (conv => whnf)))))
    exact ⟨by rw [decide_eq_false]; rintro rfl; exact hl rfl, rfl⟩
theorem set_over {α : Type} (c : List α) (a : List α) (x : α) {i : Nat} (hc : c.length = i) (hi : i < a.length) : (c ++ a.drop i).set i x = (c ++ [x]) ++ a.drop (i + 1) := by
  rw [List.set_append_right _ _ (by omega), hc, Nat.sub_self, List.drop_eq_getElem_cons hi]
  simp only [List.set_cons_zero, List.append_assoc, List.singleton_append]
theorem over_get {α : Type} (c : List α) (a : List α) {i : Nat} (hc : c.length = i) (hi : i < a.length) : i < (c ++ a.drop i).length := by simp; omega
theorem szIntS_c (a : List Int) (l : Int) (hl : 0 ≤ l ∧ l ≤ 1048576) : ConV Try.prog 76 [.lst (.int .i64) a, .int .i64 l] [] (.int .i64 (if l - a.length < 0 then -1 else l - a.length)) [] := by
  refine con_eq Θ_ok Try.func76 rfl rfl false 0 4 rfl rfl rfl rfl fun K hK hb1 hb2 => ?_; simp only [argsV, enc, Nat.reduceAdd]
  simp [toDL, V.toD, bnd, encD, D.cells] at hb1
  by_cases h : l - a.length < 0
  · (repeat (any_goals (first | (with_reducible apply at_seq) | ((with_reducible apply at_regS Θ_ok); (conv => whnf)) | ((refine go ?_); (conv => whnf)) | ((refine go2 (fun xe hxe => ?_)); (conv => whnf)) | ((with_reducible refine cnd_d (fun hq => ?_) (fun hq => ?_)) <;> (conv => whnf)) | ((with_reducible refine cnd_i (fun hq => ?_) (fun hq => ?_)) <;> ((try simp only [decide_eq_true_eq, decide_eq_false_iff_not, Bool.not_eq_true', Bool.not_eq_false', beq_iff_eq, bne_iff_ne, beq_eq_false_iff_ne, bne_eq_false_iff_eq, ne_eq] at hq) <;> (first | omega | (conv => whnf)))) | ((with_reducible first | apply at_cond | apply at_ret | apply at_exit | apply at_skip); (conv => whnf)) | (with_reducible apply at_block) | ((with_reducible refine at_regD Θ_ok mixed (by kernel_rfl) ?_); (conv => whnf)))))
    exact ⟨by rw [if_pos h], rfl⟩
  · (repeat (any_goals (first | (with_reducible apply at_seq) | ((with_reducible apply at_regS Θ_ok); (conv => whnf)) | ((refine go ?_); (conv => whnf)) | ((refine go2 (fun xe hxe => ?_)); (conv => whnf)) | ((with_reducible refine cnd_d (fun hq => ?_) (fun hq => ?_)) <;> (conv => whnf)) | ((with_reducible refine cnd_i (fun hq => ?_) (fun hq => ?_)) <;> ((try simp only [decide_eq_true_eq, decide_eq_false_iff_not, Bool.not_eq_true', Bool.not_eq_false', beq_iff_eq, bne_iff_ne, beq_eq_false_iff_ne, bne_eq_false_iff_eq, ne_eq] at hq) <;> (first | omega | (conv => whnf)))) | ((with_reducible first | apply at_cond | apply at_ret | apply at_exit | apply at_skip); (conv => whnf)) | (with_reducible apply at_block) | ((with_reducible refine at_regD Θ_ok mixed (by kernel_rfl) ?_); (conv => whnf)))))
    exact ⟨by rw [if_neg h], rfl⟩
theorem toIntS_c (a : List Int) (ha : a.length ≤ 1048576) : ConV Try.prog 11 [.lst (.int .i64) a] [] (.ref 4) [(4, .row 3 (.int .i64) a)] := by
  refine con_eq Θ_ok Try.func11 rfl rfl false 0 4 rfl rfl rfl rfl fun K hK hb1 hb2 => ?_; simp only [argsV, enc, Nat.reduceAdd]
  (repeat (any_goals (first | (with_reducible apply at_seq) | ((with_reducible apply at_regS Θ_ok); (conv => whnf)) | ((refine go ?_); (conv => whnf)) | ((refine go2 (fun xe hxe => ?_)); (conv => whnf)) | ((with_reducible refine cnd_d (fun hq => ?_) (fun hq => ?_)) <;> (conv => whnf)) | ((with_reducible refine cnd_i (fun hq => ?_) (fun hq => ?_)) <;> ((try simp only [decide_eq_true_eq, decide_eq_false_iff_not, Bool.not_eq_true', Bool.not_eq_false', beq_iff_eq, bne_iff_ne, beq_eq_false_iff_ne, bne_eq_false_iff_eq, ne_eq] at hq) <;> (first | omega | (conv => whnf)))) | ((with_reducible first | apply at_cond | apply at_ret | apply at_exit | apply at_skip); (conv => whnf)) | (with_reducible apply at_block) | ((with_reducible refine at_regD Θ_ok mixed (by kernel_rfl) ?_); (conv => whnf)))))
  refine at_loop hK [] [0, 3, 4] (fun i : Nat => ⟨[(0, .lst (.int .i64) a), (3, .ref 4), (4, .int .i64 i)], [(4, .row 3 (.int .i64) (a.take i ++ (List.replicate a.length 0).drop i))], 5⟩) (fun i => i ≤ a.length) (fun i => a.length - i) 0 (by simp) (by simp; rfl) ?_
  intro i hi
  by_cases hlt : i < a.length
  · have hx : a[i]? = some a[i] := List.getElem?_eq_getElem hlt
    have hg : i < (a.take i ++ (List.replicate a.length (0 : Int)).drop i).length := over_get _ _ (by simp; omega) (by simpa using hlt)
    have hs : (a.take i ++ (List.replicate a.length (0 : Int)).drop i).set i a[i] = a.take (i + 1) ++ (List.replicate a.length 0).drop (i + 1) := by
      rw [set_over _ _ _ (by simp; omega) (by simpa using hlt), List.take_succ_eq_append_getElem hlt]
    generalize hrow : a.take i ++ (List.replicate a.length (0 : Int)).drop i = row at *
    generalize a[i] = x at *
    (repeat (any_goals (first | (with_reducible apply at_seq) | ((with_reducible apply at_regS Θ_ok); (conv => whnf)) | ((refine go ?_); (conv => whnf)) | ((refine go2 (fun xe hxe => ?_)); (conv => whnf)) | ((with_reducible refine cnd_d (fun hq => ?_) (fun hq => ?_)) <;> (conv => whnf)) | ((with_reducible refine cnd_i (fun hq => ?_) (fun hq => ?_)) <;> ((try simp only [decide_eq_true_eq, decide_eq_false_iff_not, Bool.not_eq_true', Bool.not_eq_false', beq_iff_eq, bne_iff_ne, beq_eq_false_iff_ne, bne_eq_false_iff_eq, ne_eq] at hq) <;> (first | omega | (conv => whnf)))) | ((with_reducible first | apply at_cond | apply at_ret | apply at_exit | apply at_skip); (conv => whnf)) | (with_reducible apply at_block) | ((with_reducible refine at_regD Θ_ok mixed (by kernel_rfl) ?_); (conv => whnf)))))
    refine ⟨i + 1, by omega, by omega, ?_⟩
    rw [← hs]
    rfl
  · obtain rfl : i = a.length := by omega
    (repeat (any_goals (first | (with_reducible apply at_seq) | ((with_reducible apply at_regS Θ_ok); (conv => whnf)) | ((refine go ?_); (conv => whnf)) | ((refine go2 (fun xe hxe => ?_)); (conv => whnf)) | ((with_reducible refine cnd_d (fun hq => ?_) (fun hq => ?_)) <;> (conv => whnf)) | ((with_reducible refine cnd_i (fun hq => ?_) (fun hq => ?_)) <;> ((try simp only [decide_eq_true_eq, decide_eq_false_iff_not, Bool.not_eq_true', Bool.not_eq_false', beq_iff_eq, bne_iff_ne, beq_eq_false_iff_ne, bne_eq_false_iff_eq, ne_eq] at hq) <;> (first | omega | (conv => whnf)))) | ((with_reducible first | apply at_cond | apply at_ret | apply at_exit | apply at_skip); (conv => whnf)) | (with_reducible apply at_block) | ((with_reducible refine at_regD Θ_ok mixed (by kernel_rfl) ?_); (conv => whnf)))))
    simp
theorem eqIntS_e (a : List Int) : ConV Try.prog 14 [.lst (.int .i64) a, .lst (.int .i64) a] [] (.bool true) [] := by
  have := eqIntS_c a a
  simpa using this
/-- what is left of l for n -/
def lft (l : Int) (n : Nat) : Int := if l - n < 0 then -1 else l - n
theorem szVertex_c (v : Vtx) (l : Int) (hl : 0 ≤ l ∧ l ≤ 1048576) : ConV Try.prog 39 [vtxA v, .int .i64 l] [] (.int .i64 (lft l v.parents.length)) [] := by
  have hc := szIntS_c v.parents l hl
  refine con_eq Θ_ok Try.func39 rfl rfl false 0 4 rfl rfl rfl rfl fun K hK hb1 hb2 => ?_; simp only [argsV, enc, Nat.reduceAdd]
  unfold lft
  by_cases h : l - v.parents.length < 0
  · rw [if_pos h] at hc
    (repeat (any_goals (first | (with_reducible apply at_seq) | ((with_reducible apply at_regS Θ_ok); (conv => whnf)) | ((refine go ?_); (conv => whnf)) | ((refine go2 (fun xe hxe => ?_)); (conv => whnf)) | ((with_reducible refine cnd_d (fun hq => ?_) (fun hq => ?_)) <;> (conv => whnf)) | ((with_reducible refine cnd_i (fun hq => ?_) (fun hq => ?_)) <;> ((try simp only [decide_eq_true_eq, decide_eq_false_iff_not, Bool.not_eq_true', Bool.not_eq_false', beq_iff_eq, bne_iff_ne, beq_eq_false_iff_ne, bne_eq_false_iff_eq, ne_eq] at hq) <;> (first | omega | (conv => whnf)))) | ((with_reducible first | apply at_cond | apply at_ret | apply at_exit | apply at_skip); (conv => whnf)) | (with_reducible apply at_block) | ((with_reducible refine at_regD Θ_ok mixed (by kernel_rfl) ?_); (conv => whnf)) | ((with_reducible refine call_r ?_); (conv => whnf); (first | ((with_reducible refine call_i (hc) ?_); (conv => whnf)))))))
    exact ⟨by rw [if_pos h], rfl⟩
  · rw [if_neg h] at hc
    (repeat (any_goals (first | (with_reducible apply at_seq) | ((with_reducible apply at_regS Θ_ok); (conv => whnf)) | ((refine go ?_); (conv => whnf)) | ((refine go2 (fun xe hxe => ?_)); (conv => whnf)) | ((with_reducible refine cnd_d (fun hq => ?_) (fun hq => ?_)) <;> (conv => whnf)) | ((with_reducible refine cnd_i (fun hq => ?_) (fun hq => ?_)) <;> ((try simp only [decide_eq_true_eq, decide_eq_false_iff_not, Bool.not_eq_true', Bool.not_eq_false', beq_iff_eq, bne_iff_ne, beq_eq_false_iff_ne, bne_eq_false_iff_eq, ne_eq] at hq) <;> (first | omega | (conv => whnf)))) | ((with_reducible first | apply at_cond | apply at_ret | apply at_exit | apply at_skip); (conv => whnf)) | (with_reducible apply at_block) | ((with_reducible refine at_regD Θ_ok mixed (by kernel_rfl) ?_); (conv => whnf)) | ((with_reducible refine call_r ?_); (conv => whnf); (first | ((with_reducible refine call_i (hc) ?_); (conv => whnf)))))))
    exact ⟨by rw [if_neg h], rfl⟩
/-- how many parents -/
def pars (g : List Vtx) : Nat := (g.map fun v => v.parents.length).sum
theorem pars_snoc {g : List Vtx} {i : Nat} {v : Vtx} (h : g[i]? = some v) : pars (g.take (i + 1)) = pars (g.take i) + v.parents.length := by
  obtain ⟨hl, rfl⟩ := List.getElem?_eq_some_iff.1 h
  rw [List.take_succ_eq_append_getElem hl]
  unfold pars
  rw [List.map_append, List.sum_append]
  simp
theorem pars_app (a b : List Vtx) : pars (a ++ b) = pars a + pars b := by unfold pars; rw [List.map_append, List.sum_append]
theorem pars_tk (g : List Vtx) (i : Nat) : pars (g.take i) ≤ pars g := by
  have := pars_app (g.take i) (g.drop i)
  rw [List.take_append_drop] at this
  omega
theorem szVertexS_c (g : List Vtx) (l : Int) (hl : 0 ≤ l ∧ l ≤ 1048576) : ConV Try.prog 9 [.lst .vtx g, .int .i64 l] [] (.int .i64 (lft l (g.length + pars g))) [] := by
  refine con_eq Θ_ok Try.func9 rfl rfl false 0 4 rfl rfl rfl rfl fun K hK hb1 hb2 => ?_; simp only [argsV, enc, Nat.reduceAdd]
  simp [toDL, V.toD, bnd, encD, D.cells] at hb1
  have hno : l - g.length - pars g < 0 → V.int .i64 (-1) = V.int .i64 (lft l (g.length + pars g)) ∧ ([] : VH) = [] := fun h => ⟨by rw [lft, if_pos (by omega)], rfl⟩
  by_cases h0 : l - g.length < 0
  · (repeat (any_goals (first | (with_reducible apply at_seq) | ((with_reducible apply at_regS Θ_ok); (conv => whnf)) | ((refine go ?_); (conv => whnf)) | ((refine go2 (fun xe hxe => ?_)); (conv => whnf)) | ((with_reducible refine cnd_d (fun hq => ?_) (fun hq => ?_)) <;> (conv => whnf)) | ((with_reducible refine cnd_i (fun hq => ?_) (fun hq => ?_)) <;> ((try simp only [decide_eq_true_eq, decide_eq_false_iff_not, Bool.not_eq_true', Bool.not_eq_false', beq_iff_eq, bne_iff_ne, beq_eq_false_iff_ne, bne_eq_false_iff_eq, ne_eq] at hq) <;> (first | omega | (conv => whnf)))) | ((with_reducible first | apply at_cond | apply at_ret | apply at_exit | apply at_skip); (conv => whnf)) | (with_reducible apply at_block) | ((with_reducible refine at_regD Θ_ok mixed (by kernel_rfl) ?_); (conv => whnf)))))
    exact hno (by omega)
  (repeat (any_goals (first | (with_reducible apply at_seq) | ((with_reducible apply at_regS Θ_ok); (conv => whnf)) | ((refine go ?_); (conv => whnf)) | ((refine go2 (fun xe hxe => ?_)); (conv => whnf)) | ((with_reducible refine cnd_d (fun hq => ?_) (fun hq => ?_)) <;> (conv => whnf)) | ((with_reducible refine cnd_i (fun hq => ?_) (fun hq => ?_)) <;> ((try simp only [decide_eq_true_eq, decide_eq_false_iff_not, Bool.not_eq_true', Bool.not_eq_false', beq_iff_eq, bne_iff_ne, beq_eq_false_iff_ne, bne_eq_false_iff_eq, ne_eq] at hq) <;> (first | omega | (conv => whnf)))) | ((with_reducible first | apply at_cond | apply at_ret | apply at_exit | apply at_skip); (conv => whnf)) | (with_reducible apply at_block) | ((with_reducible refine at_regD Θ_ok mixed (by kernel_rfl) ?_); (conv => whnf)))))
  refine at_loop hK [] [0, 1, 5] (fun i : Nat => ⟨[(0, .lst .vtx g), (1, .int .i64 (l - g.length - pars (g.take i))), (5, .int .i64 i)], [], 4⟩) (fun i => i ≤ g.length ∧ 0 ≤ l - g.length - pars (g.take i)) (fun i => g.length - i) 0 ⟨by simp, by simp [pars]; omega⟩ (by simp [pars]; rfl) ?_
  rintro i ⟨hi, hp⟩
  by_cases hlt : i < g.length
  · have hxe : g[i]? = some g[i] := List.getElem?_eq_getElem hlt
    have h3 := pars_snoc hxe
    have h4 := pars_tk g (i + 1)
    generalize g[i] = v at *
    have hc := szVertex_c v (l - g.length - pars (g.take i)) (by omega)
    unfold lft at hc
    by_cases h5 : l - g.length - pars (g.take i) - v.parents.length < 0
    · rw [if_pos h5] at hc
      (repeat (any_goals (first | (with_reducible apply at_seq) | ((with_reducible apply at_regS Θ_ok); (conv => whnf)) | ((refine go ?_); (conv => whnf)) | ((refine go2 (fun xe hxe => ?_)); (conv => whnf)) | ((with_reducible refine cnd_d (fun hq => ?_) (fun hq => ?_)) <;> (conv => whnf)) | ((with_reducible refine cnd_i (fun hq => ?_) (fun hq => ?_)) <;> ((try simp only [decide_eq_true_eq, decide_eq_false_iff_not, Bool.not_eq_true', Bool.not_eq_false', beq_iff_eq, bne_iff_ne, beq_eq_false_iff_ne, bne_eq_false_iff_eq, ne_eq] at hq) <;> (first | omega | (conv => whnf)))) | ((with_reducible first | apply at_cond | apply at_ret | apply at_exit | apply at_skip); (conv => whnf)) | (with_reducible apply at_block) | ((with_reducible refine at_regD Θ_ok mixed (by kernel_rfl) ?_); (conv => whnf)) | ((with_reducible refine call_r ?_); (conv => whnf); (first | ((with_reducible refine call_i (hc) ?_); (conv => whnf)))))))
      exact hno (by omega)
    · rw [if_neg h5] at hc
      (repeat (any_goals (first | (with_reducible apply at_seq) | ((with_reducible apply at_regS Θ_ok); (conv => whnf)) | ((refine go ?_); (conv => whnf)) | ((refine go2 (fun xe hxe => ?_)); (conv => whnf)) | ((with_reducible refine cnd_d (fun hq => ?_) (fun hq => ?_)) <;> (conv => whnf)) | ((with_reducible refine cnd_i (fun hq => ?_) (fun hq => ?_)) <;> ((try simp only [decide_eq_true_eq, decide_eq_false_iff_not, Bool.not_eq_true', Bool.not_eq_false', beq_iff_eq, bne_iff_ne, beq_eq_false_iff_ne, bne_eq_false_iff_eq, ne_eq] at hq) <;> (first | omega | (conv => whnf)))) | ((with_reducible first | apply at_cond | apply at_ret | apply at_exit | apply at_skip); (conv => whnf)) | (with_reducible apply at_block) | ((with_reducible refine at_regD Θ_ok mixed (by kernel_rfl) ?_); (conv => whnf)) | ((with_reducible refine call_r ?_); (conv => whnf); (first | ((with_reducible refine call_i (hc) ?_); (conv => whnf)))))))
      refine ⟨i + 1, by omega, by omega, ?_⟩
      rw [h3, show l - (g.length : Int) - ((pars (g.take i) + v.parents.length : Nat) : Int) = l - g.length - pars (g.take i) - v.parents.length by omega]
      rfl
  · rw [List.take_of_length_le (by omega)] at *
    (repeat (any_goals (first | (with_reducible apply at_seq) | ((with_reducible apply at_regS Θ_ok); (conv => whnf)) | ((refine go ?_); (conv => whnf)) | ((refine go2 (fun xe hxe => ?_)); (conv => whnf)) | ((with_reducible refine cnd_d (fun hq => ?_) (fun hq => ?_)) <;> (conv => whnf)) | ((with_reducible refine cnd_i (fun hq => ?_) (fun hq => ?_)) <;> ((try simp only [decide_eq_true_eq, decide_eq_false_iff_not, Bool.not_eq_true', Bool.not_eq_false', beq_iff_eq, bne_iff_ne, beq_eq_false_iff_ne, bne_eq_false_iff_eq, ne_eq] at hq) <;> (first | omega | (conv => whnf)))) | ((with_reducible first | apply at_cond | apply at_ret | apply at_exit | apply at_skip); (conv => whnf)) | (with_reducible apply at_block) | ((with_reducible refine at_regD Θ_ok mixed (by kernel_rfl) ?_); (conv => whnf)))))
    exact ⟨by rw [lft, if_neg (by omega)]; congr 1; omega, rfl⟩
theorem toVertex_c (v : Vtx) (hv : v.parents.length ≤ 1048576) : ConV Try.prog 41 [vtxA v] [] (vtxA v) [] := by
  refine con_eq Θ_ok Try.func41 rfl rfl true 0 4 rfl rfl rfl rfl fun K hK hb1 hb2 => ?_; simp only [argsV, enc, Nat.reduceAdd]
  (repeat (any_goals (first | (with_reducible apply at_seq) | ((with_reducible apply at_regS Θ_ok); (conv => whnf)) | ((refine go ?_); (conv => whnf)) | ((refine go2 (fun xe hxe => ?_)); (conv => whnf)) | ((with_reducible refine cnd_d (fun hq => ?_) (fun hq => ?_)) <;> (conv => whnf)) | ((with_reducible refine cnd_i (fun hq => ?_) (fun hq => ?_)) <;> ((try simp only [decide_eq_true_eq, decide_eq_false_iff_not, Bool.not_eq_true', Bool.not_eq_false', beq_iff_eq, bne_iff_ne, beq_eq_false_iff_ne, bne_eq_false_iff_eq, ne_eq] at hq) <;> (first | omega | (conv => whnf)))) | ((with_reducible first | apply at_cond | apply at_ret | apply at_exit | apply at_skip); (conv => whnf)) | (with_reducible apply at_block) | ((with_reducible refine at_regD Θ_ok mixed (by kernel_rfl) ?_); (conv => whnf)) | ((with_reducible refine call_r ?_); (conv => whnf); (first | ((with_reducible refine call_i (toIntS_c _ hv) ?_); (conv => whnf)))))))
  exact ⟨rfl, rfl⟩
theorem toVertexS_c (g : List Vtx) (hg : g.length ≤ 1048576) (hv : ∀ v ∈ g, v.parents.length ≤ 1048576) : ConV Try.prog 12 [.lst .vtx g] [] (.lst .vtx g) [] := by
  refine con_eq Θ_ok Try.func12 rfl rfl true 0 4 rfl rfl rfl rfl fun K hK hb1 hb2 => ?_; simp only [argsV, enc, Nat.reduceAdd]
  clear hb1 hb2
  (repeat (any_goals (first | (with_reducible apply at_seq) | ((with_reducible apply at_regS Θ_ok); (conv => whnf)) | ((refine go ?_); (conv => whnf)) | ((refine go2 (fun xe hxe => ?_)); (conv => whnf)) | ((with_reducible refine cnd_d (fun hq => ?_) (fun hq => ?_)) <;> (conv => whnf)) | ((with_reducible refine cnd_i (fun hq => ?_) (fun hq => ?_)) <;> ((try simp only [decide_eq_true_eq, decide_eq_false_iff_not, Bool.not_eq_true', Bool.not_eq_false', beq_iff_eq, bne_iff_ne, beq_eq_false_iff_ne, bne_eq_false_iff_eq, ne_eq] at hq) <;> (first | omega | (conv => whnf)))) | ((with_reducible first | apply at_cond | apply at_ret | apply at_exit | apply at_skip); (conv => whnf)) | (with_reducible apply at_block) | ((with_reducible refine at_regD Θ_ok mixed (by kernel_rfl) ?_); (conv => whnf)))))
  refine at_loop hK [] [0, 3, 4] (fun i : Nat => ⟨[(0, .lst .vtx g), (3, .ref 4), (4, .int .i64 i)], [(4, .row 62 .vtx (g.take i ++ (List.replicate g.length v0).drop i))], 5⟩) (fun i => i ≤ g.length) (fun i => g.length - i) 0 (by simp) (by simp; rfl) ?_
  intro i hi
  by_cases hlt : i < g.length
  · have hx : g[i]? = some g[i] := List.getElem?_eq_getElem hlt
    have hgt : i < (g.take i ++ (List.replicate g.length v0).drop i).length := over_get _ _ (by simp; omega) (by simpa using hlt)
    have hs : (g.take i ++ (List.replicate g.length v0).drop i).set i g[i] = g.take (i + 1) ++ (List.replicate g.length v0).drop (i + 1) := by
      rw [set_over _ _ _ (by simp; omega) (by simpa using hlt), List.take_succ_eq_append_getElem hlt]
    have hvl := hv _ (List.getElem_mem hlt)
    generalize hrow : g.take i ++ (List.replicate g.length v0).drop i = row at *
    generalize g[i] = x at *
    (repeat (any_goals (first | (with_reducible apply at_seq) | ((with_reducible apply at_regS Θ_ok); (conv => whnf)) | ((refine go ?_); (conv => whnf)) | ((refine go2 (fun xe hxe => ?_)); (conv => whnf)) | ((with_reducible refine cnd_d (fun hq => ?_) (fun hq => ?_)) <;> (conv => whnf)) | ((with_reducible refine cnd_i (fun hq => ?_) (fun hq => ?_)) <;> ((try simp only [decide_eq_true_eq, decide_eq_false_iff_not, Bool.not_eq_true', Bool.not_eq_false', beq_iff_eq, bne_iff_ne, beq_eq_false_iff_ne, bne_eq_false_iff_eq, ne_eq] at hq) <;> (first | omega | (conv => whnf)))) | ((with_reducible first | apply at_cond | apply at_ret | apply at_exit | apply at_skip); (conv => whnf)) | (with_reducible apply at_block) | ((with_reducible refine at_regD Θ_ok mixed (by kernel_rfl) ?_); (conv => whnf)) | ((with_reducible refine call_r ?_); (conv => whnf); (first | ((with_reducible refine call_i (toVertex_c _ hvl) ?_); (conv => whnf)))))))
    refine ⟨i + 1, by omega, by omega, ?_⟩
    rw [← hs]
    rfl
  · obtain rfl : i = g.length := by omega
    (repeat (any_goals (first | (with_reducible apply at_seq) | ((with_reducible apply at_regS Θ_ok); (conv => whnf)) | ((refine go ?_); (conv => whnf)) | ((refine go2 (fun xe hxe => ?_)); (conv => whnf)) | ((with_reducible refine cnd_d (fun hq => ?_) (fun hq => ?_)) <;> (conv => whnf)) | ((with_reducible refine cnd_i (fun hq => ?_) (fun hq => ?_)) <;> ((try simp only [decide_eq_true_eq, decide_eq_false_iff_not, Bool.not_eq_true', Bool.not_eq_false', beq_iff_eq, bne_iff_ne, beq_eq_false_iff_ne, bne_eq_false_iff_eq, ne_eq] at hq) <;> (first | omega | (conv => whnf)))) | ((with_reducible first | apply at_cond | apply at_ret | apply at_exit | apply at_skip); (conv => whnf)) | (with_reducible apply at_block) | ((with_reducible refine at_regD Θ_ok mixed (by kernel_rfl) ?_); (conv => whnf)))))
    simp
theorem eqVertex_e (v : Vtx) : ConV Try.prog 44 [vtxA v, vtxA v] [] (.bool true) [] := by
  refine con_eq Θ_ok Try.func44 rfl rfl false 0 4 rfl rfl rfl rfl fun K hK hb1 hb2 => ?_; simp only [argsV, enc, Nat.reduceAdd]
  (repeat (any_goals (first | (with_reducible apply at_seq) | ((with_reducible apply at_regS Θ_ok); (conv => whnf)) | ((refine go ?_); (conv => whnf)) | ((refine go2 (fun xe hxe => ?_)); (conv => whnf)) | ((with_reducible refine cnd_d (fun hq => ?_) (fun hq => ?_)) <;> (conv => whnf)) | ((with_reducible refine cnd_i (fun hq => ?_) (fun hq => ?_)) <;> ((try simp only [decide_eq_true_eq, decide_eq_false_iff_not, Bool.not_eq_true', Bool.not_eq_false', beq_iff_eq, bne_iff_ne, beq_eq_false_iff_ne, bne_eq_false_iff_eq, ne_eq] at hq) <;> (first | omega | (conv => whnf)))) | ((with_reducible first | apply at_cond | apply at_ret | apply at_exit | apply at_skip); (conv => whnf)) | (with_reducible apply at_block) | ((with_reducible refine at_regD Θ_ok mixed (by kernel_rfl) ?_); (conv => whnf)) | ((with_reducible refine call_r ?_); (conv => whnf); (first | ((with_reducible refine call_i (eqIntS_e _) ?_); (conv => whnf)))))))
  all_goals first | (exact ⟨rfl, rfl⟩) | exact absurd rfl hq | exact absurd trivial hq | cases hq
theorem eqVertexS_e (g : List Vtx) : ConV Try.prog 15 [.lst .vtx g, .lst .vtx g] [] (.bool true) [] := by
  refine con_eq Θ_ok Try.func15 rfl rfl false 0 4 rfl rfl rfl rfl fun K hK hb1 hb2 => ?_; simp only [argsV, enc, Nat.reduceAdd]
  simp [toDL, V.toD, bnd, encD, D.cells] at hb1
  (repeat (any_goals (first | (with_reducible apply at_seq) | ((with_reducible apply at_regS Θ_ok); (conv => whnf)) | ((refine go ?_); (conv => whnf)) | ((refine go2 (fun xe hxe => ?_)); (conv => whnf)) | ((with_reducible refine cnd_d (fun hq => ?_) (fun hq => ?_)) <;> (conv => whnf)) | ((with_reducible refine cnd_i (fun hq => ?_) (fun hq => ?_)) <;> ((try simp only [decide_eq_true_eq, decide_eq_false_iff_not, Bool.not_eq_true', Bool.not_eq_false', beq_iff_eq, bne_iff_ne, beq_eq_false_iff_ne, bne_eq_false_iff_eq, ne_eq] at hq) <;> (first | omega | (conv => whnf)))) | ((with_reducible first | apply at_cond | apply at_ret | apply at_exit | apply at_skip); (conv => whnf)) | (with_reducible apply at_block) | ((with_reducible refine at_regD Θ_ok mixed (by kernel_rfl) ?_); (conv => whnf)))))
  · exact absurd trivial hq
  refine at_loop hK [] [0, 1, 5] (fun i : Nat => ⟨[(0, .lst .vtx g), (1, .lst .vtx g), (5, .int .i64 i)], [], 4⟩) (fun i => i ≤ g.length) (fun i => g.length - i) 0 (by simp) rfl ?_
  intro i hi
  by_cases hlt : i < g.length
  · have hx : g[i]? = some g[i] := List.getElem?_eq_getElem hlt
    generalize g[i] = x at *
    (repeat (any_goals (first | (with_reducible apply at_seq) | ((with_reducible apply at_regS Θ_ok); (conv => whnf)) | ((refine go ?_); (conv => whnf)) | ((refine go2 (fun xe hxe => ?_)); (conv => whnf)) | ((with_reducible refine cnd_d (fun hq => ?_) (fun hq => ?_)) <;> (conv => whnf)) | ((with_reducible refine cnd_i (fun hq => ?_) (fun hq => ?_)) <;> ((try simp only [decide_eq_true_eq, decide_eq_false_iff_not, Bool.not_eq_true', Bool.not_eq_false', beq_iff_eq, bne_iff_ne, beq_eq_false_iff_ne, bne_eq_false_iff_eq, ne_eq] at hq) <;> (first | omega | (conv => whnf)))) | ((with_reducible first | apply at_cond | apply at_ret | apply at_exit | apply at_skip); (conv => whnf)) | (with_reducible apply at_block) | ((with_reducible refine at_regD Θ_ok mixed (by kernel_rfl) ?_); (conv => whnf)) | ((with_reducible refine call_r ?_); (conv => whnf); (first | ((with_reducible refine call_i (eqVertex_e _) ?_); (conv => whnf)))))))
    exact ⟨i + 1, by omega, by omega, rfl⟩
  · (repeat (any_goals (first | (with_reducible apply at_seq) | ((with_reducible apply at_regS Θ_ok); (conv => whnf)) | ((refine go ?_); (conv => whnf)) | ((refine go2 (fun xe hxe => ?_)); (conv => whnf)) | ((with_reducible refine cnd_d (fun hq => ?_) (fun hq => ?_)) <;> (conv => whnf)) | ((with_reducible refine cnd_i (fun hq => ?_) (fun hq => ?_)) <;> ((try simp only [decide_eq_true_eq, decide_eq_false_iff_not, Bool.not_eq_true', Bool.not_eq_false', beq_iff_eq, bne_iff_ne, beq_eq_false_iff_ne, bne_eq_false_iff_eq, ne_eq] at hq) <;> (first | omega | (conv => whnf)))) | ((with_reducible first | apply at_cond | apply at_ret | apply at_exit | apply at_skip); (conv => whnf)) | (with_reducible apply at_block) | ((with_reducible refine at_regD Θ_ok mixed (by kernel_rfl) ?_); (conv => whnf)))))
    exact ⟨rfl, rfl⟩
theorem par_le {g : List Vtx} {v : Vtx} (h : v ∈ g) : v.parents.length ≤ pars g := by
  obtain ⟨i, hi⟩ := List.getElem?_of_mem h
  have h1 := pars_snoc hi
  have h2 := pars_tk g (i + 1)
  omega
theorem lawExHgt_c (c : List Int) (g : List Vtx) : ConV Try.prog 3 [.lst (.int .i64) c, .lst .vtx g] [] (.bool true) [] := by
  have hsz := szVertexS_c g 1048576 (by omega)
  unfold lft at hsz
  refine con_eq Θ_ok Try.func3 rfl rfl false 0 4 rfl rfl rfl rfl fun K hK hb1 hb2 => ?_; simp only [argsV, enc, Nat.reduceAdd]
  clear hb1 hb2
  by_cases hc : 1048576 < (c.length : Int)
  · (repeat (any_goals (first | (with_reducible apply at_seq) | ((with_reducible apply at_regS Θ_ok); (conv => whnf)) | ((refine go ?_); (conv => whnf)) | ((refine go2 (fun xe hxe => ?_)); (conv => whnf)) | ((with_reducible refine cnd_d (fun hq => ?_) (fun hq => ?_)) <;> (conv => whnf)) | ((with_reducible refine cnd_i (fun hq => ?_) (fun hq => ?_)) <;> ((try simp only [decide_eq_true_eq, decide_eq_false_iff_not, Bool.not_eq_true', Bool.not_eq_false', beq_iff_eq, bne_iff_ne, beq_eq_false_iff_ne, bne_eq_false_iff_eq, ne_eq] at hq) <;> (first | omega | (conv => whnf)))) | ((with_reducible first | apply at_cond | apply at_ret | apply at_exit | apply at_skip); (conv => whnf)) | (with_reducible apply at_block) | ((with_reducible refine at_regD Θ_ok mixed (by kernel_rfl) ?_); (conv => whnf)))))
    exact ⟨rfl, rfl⟩
  by_cases hl : (1048576 : Int) - (g.length + pars g : Nat) < 0
  · rw [if_pos hl] at hsz
    (repeat (any_goals (first | (with_reducible apply at_seq) | ((with_reducible apply at_regS Θ_ok); (conv => whnf)) | ((refine go ?_); (conv => whnf)) | ((refine go2 (fun xe hxe => ?_)); (conv => whnf)) | ((with_reducible refine cnd_d (fun hq => ?_) (fun hq => ?_)) <;> (conv => whnf)) | ((with_reducible refine cnd_i (fun hq => ?_) (fun hq => ?_)) <;> ((try simp only [decide_eq_true_eq, decide_eq_false_iff_not, Bool.not_eq_true', Bool.not_eq_false', beq_iff_eq, bne_iff_ne, beq_eq_false_iff_ne, bne_eq_false_iff_eq, ne_eq] at hq) <;> (first | omega | (conv => whnf)))) | ((with_reducible first | apply at_cond | apply at_ret | apply at_exit | apply at_skip); (conv => whnf)) | (with_reducible apply at_block) | ((with_reducible refine at_regD Θ_ok mixed (by kernel_rfl) ?_); (conv => whnf)) | ((with_reducible refine call_r ?_); (conv => whnf); (first | ((with_reducible refine call_i (hsz) ?_); (conv => whnf)))))))
    exact ⟨rfl, rfl⟩
  rw [if_neg hl] at hsz
  have hv : ∀ v ∈ g, v.parents.length ≤ 1048576 := fun v hv => by have := par_le hv; omega
  (repeat (any_goals (first | (with_reducible apply at_seq) | ((with_reducible apply at_regS Θ_ok); (conv => whnf)) | ((refine go ?_); (conv => whnf)) | ((refine go2 (fun xe hxe => ?_)); (conv => whnf)) | ((with_reducible refine cnd_d (fun hq => ?_) (fun hq => ?_)) <;> (conv => whnf)) | ((with_reducible refine cnd_i (fun hq => ?_) (fun hq => ?_)) <;> ((try simp only [decide_eq_true_eq, decide_eq_false_iff_not, Bool.not_eq_true', Bool.not_eq_false', beq_iff_eq, bne_iff_ne, beq_eq_false_iff_ne, bne_eq_false_iff_eq, ne_eq] at hq) <;> (first | omega | (conv => whnf)))) | ((with_reducible first | apply at_cond | apply at_ret | apply at_exit | apply at_skip); (conv => whnf)) | (with_reducible apply at_block) | ((with_reducible refine at_regD Θ_ok mixed (by kernel_rfl) ?_); (conv => whnf)) | ((with_reducible refine call_r ?_); (conv => whnf); (first | ((with_reducible refine call_i (hsz) ?_); (conv => whnf)) | ((with_reducible refine call_i (toIntS_c _ (by omega)) ?_); (conv => whnf)) | ((with_reducible refine call_i (toVertexS_c _ (by omega) hv) ?_); (conv => whnf)) | ((with_reducible refine call_i (ghS_c _ _ (by omega)) ?_); (conv => whnf)) | ((with_reducible refine call_i (igh_c _ _ (by omega)) ?_); (conv => whnf)) | ((with_reducible refine call_i (eqIntS_e _) ?_); (conv => whnf)) | ((with_reducible refine call_i (eqVertexS_e _) ?_); (conv => whnf)))))))
  all_goals first | (exact ⟨rfl, rfl⟩) | exact absurd rfl hq | exact absurd trivial hq | cases hq
end Go.Proofs.Ytkclhekkcffpoaa.Am
namespace Go.Proofs.Ytkclhekkcffpoaa.Am
set_option linter.unusedSimpArgs false
set_option linter.unusedVariables false
open Go
attribute [local irreducible] Mk Need Ari Get Idx Cnd CallM CallA Opt Unch At ConV
set_option maxRecDepth 10000

theorem rd0 {c : List Int} (h : ∀ x ∈ c, 0 ≤ x ∧ x ≤ 255) : rdOK (c.take 2000) 0 := ⟨by rw [List.length_take]; omega, fun x hx => h x (List.mem_of_mem_take hx), by omega, by omega⟩
theorem dgv_c (c : List Int) (hc : ∀ x ∈ c, 0 ≤ x ∧ x ≤ 255) : ∃ x : List Int × List Vtx, (x.1.length ≤ 11 ∧ x.2.length ≤ 200) ∧ ConV Try.prog 47 [.lst (.int .u8) c] [] (.tup [.lst (.int .i64) x.1, .lst .vtx x.2]) [] := by
  have h := rd0 hc
  obtain ⟨m, hm, hmc⟩ := pk_c _ 0 9 h (by omega) (by omega)
  obtain ⟨⟨⟨cm, g⟩, q⟩, ⟨h1, h2, h3, h4⟩, hs⟩ := dspo_c _ (0 + 1) m h (by omega) (by omega)
  dsimp only at h1 h2 h3 h4 hs
  refine ⟨(cm, g), ⟨h3, h4⟩, ?_⟩
  refine con_eq Θ_ok Try.func47 rfl rfl true 0 4 rfl rfl rfl rfl fun K hK hb1 hb2 => ?_; simp only [argsV, enc, Nat.reduceAdd]
  clear hb1 hb2
  (repeat (any_goals (first | (with_reducible apply at_seq) | ((with_reducible apply at_regS Θ_ok); (conv => whnf)) | ((refine go ?_); (conv => whnf)) | ((refine go2 (fun xe hxe => ?_)); (conv => whnf)) | ((with_reducible refine cnd_d (fun hq => ?_) (fun hq => ?_)) <;> (conv => whnf)) | ((with_reducible refine cnd_i (fun hq => ?_) (fun hq => ?_)) <;> ((try simp only [decide_eq_true_eq, decide_eq_false_iff_not, Bool.not_eq_true', Bool.not_eq_false', beq_iff_eq, bne_iff_ne, beq_eq_false_iff_ne, bne_eq_false_iff_eq, ne_eq] at hq) <;> (first | omega | (conv => whnf)))) | ((with_reducible first | apply at_cond | apply at_ret | apply at_exit | apply at_skip); (conv => whnf)) | (with_reducible apply at_block) | ((with_reducible refine at_regD Θ_ok mixed (by kernel_rfl) ?_); (conv => whnf)) | ((with_reducible refine call_r ?_); (conv => whnf); (first | ((with_reducible refine call_i (open_c _) ?_); (conv => whnf)) | ((with_reducible refine call_i (hmc) ?_); (conv => whnf)) | ((with_reducible refine call_i (hs) ?_); (conv => whnf)))))))
  exact ⟨rfl, rfl⟩
theorem dgh_c (c : List Int) (hc : ∀ x ∈ c, 0 ≤ x ∧ x ≤ 255) : ∃ x : List Int × List Vtx, (x.1.length ≤ 11 ∧ x.2.length ≤ 200) ∧ ConV Try.prog 21 [.lst (.int .u8) c] [] (.tup [.lst (.int .i64) x.1, .lst .vtx x.2]) [] := by
  obtain ⟨x, hx, hs⟩ := dgv_c c hc
  refine ⟨x, hx, ?_⟩
  refine con_eq Θ_ok Try.func21 rfl rfl true 0 4 rfl rfl rfl rfl fun K hK hb1 hb2 => ?_; simp only [argsV, enc, Nat.reduceAdd]
  clear hb1 hb2
  (repeat (any_goals (first | (with_reducible apply at_seq) | ((with_reducible apply at_regS Θ_ok); (conv => whnf)) | ((refine go ?_); (conv => whnf)) | ((refine go2 (fun xe hxe => ?_)); (conv => whnf)) | ((with_reducible refine cnd_d (fun hq => ?_) (fun hq => ?_)) <;> (conv => whnf)) | ((with_reducible refine cnd_i (fun hq => ?_) (fun hq => ?_)) <;> ((try simp only [decide_eq_true_eq, decide_eq_false_iff_not, Bool.not_eq_true', Bool.not_eq_false', beq_iff_eq, bne_iff_ne, beq_eq_false_iff_ne, bne_eq_false_iff_eq, ne_eq] at hq) <;> (first | omega | (conv => whnf)))) | ((with_reducible first | apply at_cond | apply at_ret | apply at_exit | apply at_skip); (conv => whnf)) | (with_reducible apply at_block) | ((with_reducible refine at_regD Θ_ok mixed (by kernel_rfl) ?_); (conv => whnf)) | ((with_reducible refine call_r ?_); (conv => whnf); (first | ((with_reducible refine call_i (hs) ?_); (conv => whnf)))))))
  exact ⟨rfl, rfl⟩
theorem dga_c (c : List Int) (hc : ∀ x ∈ c, 0 ≤ x ∧ x ≤ 255) : ∃ x : (List Int × List Vtx) × Int, (x.1.1.length ≤ 11 ∧ x.1.2.length ≤ 200) ∧ ConV Try.prog 25 [.lst (.int .u8) c] [] (.tup [.lst (.int .i64) x.1.1, .lst .vtx x.1.2, .int .i64 x.2]) [] := by
  have h := rd0 hc
  obtain ⟨m, hm, hmc⟩ := pk_c _ 0 7 h (by omega) (by omega)
  obtain ⟨⟨⟨cm, g⟩, q⟩, ⟨h1, h2, h3, h4⟩, hs⟩ := dspo_c _ (0 + 1) m h (by omega) (by omega)
  dsimp only at h1 h2 h3 h4 hs
  obtain ⟨z, hz, hzc⟩ := pk_c _ q 9 h (by omega) (by omega)
  refine ⟨((cm, g), z - 1), ⟨h3, h4⟩, ?_⟩
  refine con_eq Θ_ok Try.func25 rfl rfl true 0 4 rfl rfl rfl rfl fun K hK hb1 hb2 => ?_; simp only [argsV, enc, Nat.reduceAdd]
  clear hb1 hb2
  (repeat (any_goals (first | (with_reducible apply at_seq) | ((with_reducible apply at_regS Θ_ok); (conv => whnf)) | ((refine go ?_); (conv => whnf)) | ((refine go2 (fun xe hxe => ?_)); (conv => whnf)) | ((with_reducible refine cnd_d (fun hq => ?_) (fun hq => ?_)) <;> (conv => whnf)) | ((with_reducible refine cnd_i (fun hq => ?_) (fun hq => ?_)) <;> ((try simp only [decide_eq_true_eq, decide_eq_false_iff_not, Bool.not_eq_true', Bool.not_eq_false', beq_iff_eq, bne_iff_ne, beq_eq_false_iff_ne, bne_eq_false_iff_eq, ne_eq] at hq) <;> (first | omega | (conv => whnf)))) | ((with_reducible first | apply at_cond | apply at_ret | apply at_exit | apply at_skip); (conv => whnf)) | (with_reducible apply at_block) | ((with_reducible refine at_regD Θ_ok mixed (by kernel_rfl) ?_); (conv => whnf)) | ((with_reducible refine call_r ?_); (conv => whnf); (first | ((with_reducible refine call_i (open_c _) ?_); (conv => whnf)) | ((with_reducible refine call_i (hmc) ?_); (conv => whnf)) | ((with_reducible refine call_i (hs) ?_); (conv => whnf)) | ((with_reducible refine call_i (hzc) ?_); (conv => whnf)))))))
  exact ⟨rfl, rfl⟩
theorem lawHgt_c (c : List Int) (hc : ∀ x ∈ c, 0 ≤ x ∧ x ≤ 255) : ConV Try.prog 5 [.lst (.int .u8) c] [] (.bool true) [] := by
  obtain ⟨⟨cm, g⟩, ⟨h1, h2⟩, hd⟩ := dgh_c c hc
  dsimp only at h1 h2 hd
  refine con_eq Θ_ok Try.func5 rfl rfl false 0 4 rfl rfl rfl rfl fun K hK hb1 hb2 => ?_; simp only [argsV, enc, Nat.reduceAdd]
  clear hb1 hb2
  by_cases hl : 1048576 < (c.length : Int)
  · (repeat (any_goals (first | (with_reducible apply at_seq) | ((with_reducible apply at_regS Θ_ok); (conv => whnf)) | ((refine go ?_); (conv => whnf)) | ((refine go2 (fun xe hxe => ?_)); (conv => whnf)) | ((with_reducible refine cnd_d (fun hq => ?_) (fun hq => ?_)) <;> (conv => whnf)) | ((with_reducible refine cnd_i (fun hq => ?_) (fun hq => ?_)) <;> ((try simp only [decide_eq_true_eq, decide_eq_false_iff_not, Bool.not_eq_true', Bool.not_eq_false', beq_iff_eq, bne_iff_ne, beq_eq_false_iff_ne, bne_eq_false_iff_eq, ne_eq] at hq) <;> (first | omega | (conv => whnf)))) | ((with_reducible first | apply at_cond | apply at_ret | apply at_exit | apply at_skip); (conv => whnf)) | (with_reducible apply at_block) | ((with_reducible refine at_regD Θ_ok mixed (by kernel_rfl) ?_); (conv => whnf)))))
    exact ⟨rfl, rfl⟩
  cases hg : graS cm g
  · (repeat (any_goals (first | (with_reducible apply at_seq) | ((with_reducible apply at_regS Θ_ok); (conv => whnf)) | ((refine go ?_); (conv => whnf)) | ((refine go2 (fun xe hxe => ?_)); (conv => whnf)) | ((with_reducible refine cnd_d (fun hq => ?_) (fun hq => ?_)) <;> (conv => whnf)) | ((with_reducible refine cnd_i (fun hq => ?_) (fun hq => ?_)) <;> ((try simp only [decide_eq_true_eq, decide_eq_false_iff_not, Bool.not_eq_true', Bool.not_eq_false', beq_iff_eq, bne_iff_ne, beq_eq_false_iff_ne, bne_eq_false_iff_eq, ne_eq] at hq) <;> (first | omega | (conv => whnf)))) | ((with_reducible first | apply at_cond | apply at_ret | apply at_exit | apply at_skip); (conv => whnf)) | (with_reducible apply at_block) | ((with_reducible refine at_regD Θ_ok mixed (by kernel_rfl) ?_); (conv => whnf)) | ((with_reducible refine call_r ?_); (conv => whnf); (first | ((with_reducible refine call_i (hd) ?_); (conv => whnf)) | ((with_reducible refine call_i (ghS_c _ _ (by omega)) ?_); (conv => whnf)) | ((with_reducible refine call_i (igh_c _ _ (by omega)) ?_); (conv => whnf)) | ((with_reducible refine call_i (graS_c _ _) ?_); (conv => whnf)))))))
    · exact absurd trivial hq
    · exact ⟨by rw [beq_self_eq_true], rfl⟩
  · have hok := graS_ok hg
    have hh : ghV cm g = hgt cm g := by simp [ghV, hg]
    have hga : ∀ r, gaV cm g r = auth g r := fun r => by simp [gaV, hg]
    have hw : ∀ r, weiV cm (auth g r) = wei cm (auth g r) := fun r => by simp [weiV, hok.com, auth_mems hok r]
    have hcq : (if comV cm then quo cm else -1) = quo cm := by rw [hok.com]; rfl
    (repeat (any_goals (first | (with_reducible apply at_seq) | ((with_reducible apply at_regS Θ_ok); (conv => whnf)) | ((refine go ?_); (conv => whnf)) | ((refine go2 (fun xe hxe => ?_)); (conv => whnf)) | ((with_reducible refine cnd_d (fun hq => ?_) (fun hq => ?_)) <;> (conv => whnf)) | ((with_reducible refine cnd_i (fun hq => ?_) (fun hq => ?_)) <;> ((try simp only [decide_eq_true_eq, decide_eq_false_iff_not, Bool.not_eq_true', Bool.not_eq_false', beq_iff_eq, bne_iff_ne, beq_eq_false_iff_ne, bne_eq_false_iff_eq, ne_eq] at hq) <;> (first | omega | (conv => whnf)))) | ((with_reducible first | apply at_cond | apply at_ret | apply at_exit | apply at_skip); (conv => whnf)) | (with_reducible apply at_block) | ((with_reducible refine at_regD Θ_ok mixed (by kernel_rfl) ?_); (conv => whnf)) | ((with_reducible refine call_r ?_); (conv => whnf); (first | ((with_reducible refine call_i (hd) ?_); (conv => whnf)) | ((with_reducible refine call_i (ghS_c _ _ (by omega)) ?_); (conv => whnf)) | ((with_reducible refine call_i (igh_c _ _ (by omega)) ?_); (conv => whnf)) | ((with_reducible refine call_i (graS_c _ _) ?_); (conv => whnf)))))))
    · exact absurd trivial hq
    refine at_loop hK [] [3, 4, 5, 7] (fun i : Nat => ⟨[(3, .lst (.int .i64) cm), (4, .lst .vtx g), (5, .int .i64 (ghV cm g)), (7, .int .i64 i)], [], 4⟩) (fun i => i ≤ 31) (fun i => 31 - i) 0 (by omega) rfl ?_
    intro r hr
    by_cases hlt : r ≤ 30
    · have hi := hgt_iff hok hlt
      have hq2 := icquo_c cm
      have hw2 := iweiV_c cm (gaV cm g r)
      rw [hcq] at hq2
      rw [hga, hw] at hw2
      have hga2 := iga_c cm g r (by omega)
      rw [hga] at hga2
      rw [hh]
      (repeat (any_goals (first | (with_reducible apply at_seq) | ((with_reducible apply at_regS Θ_ok); (conv => whnf)) | ((refine go ?_); (conv => whnf)) | ((refine go2 (fun xe hxe => ?_)); (conv => whnf)) | ((with_reducible refine cnd_d (fun hq => ?_) (fun hq => ?_)) <;> (conv => whnf)) | ((with_reducible refine cnd_i (fun hq => ?_) (fun hq => ?_)) <;> ((try simp only [decide_eq_true_eq, decide_eq_false_iff_not, Bool.not_eq_true', Bool.not_eq_false', beq_iff_eq, bne_iff_ne, beq_eq_false_iff_ne, bne_eq_false_iff_eq, ne_eq] at hq) <;> (first | omega | (conv => whnf)))) | ((with_reducible first | apply at_cond | apply at_ret | apply at_exit | apply at_skip); (conv => whnf)) | (with_reducible apply at_block) | ((with_reducible refine at_regD Θ_ok mixed (by kernel_rfl) ?_); (conv => whnf)) | ((with_reducible refine call_r ?_); (conv => whnf); (first | ((with_reducible refine call_i (hga2) ?_); (conv => whnf)) | ((with_reducible refine call_i (hw2) ?_); (conv => whnf)) | ((with_reducible refine call_i (hq2) ?_); (conv => whnf)))))))
      · exact absurd (by rw [decide_eq_decide]; exact hi) hq
      · exact ⟨r + 1, by omega, by omega, rfl⟩
    · (repeat (any_goals (first | (with_reducible apply at_seq) | ((with_reducible apply at_regS Θ_ok); (conv => whnf)) | ((refine go ?_); (conv => whnf)) | ((refine go2 (fun xe hxe => ?_)); (conv => whnf)) | ((with_reducible refine cnd_d (fun hq => ?_) (fun hq => ?_)) <;> (conv => whnf)) | ((with_reducible refine cnd_i (fun hq => ?_) (fun hq => ?_)) <;> ((try simp only [decide_eq_true_eq, decide_eq_false_iff_not, Bool.not_eq_true', Bool.not_eq_false', beq_iff_eq, bne_iff_ne, beq_eq_false_iff_ne, bne_eq_false_iff_eq, ne_eq] at hq) <;> (first | omega | (conv => whnf)))) | ((with_reducible first | apply at_cond | apply at_ret | apply at_exit | apply at_skip); (conv => whnf)) | (with_reducible apply at_block) | ((with_reducible refine at_regD Θ_ok mixed (by kernel_rfl) ?_); (conv => whnf)))))
      exact ⟨rfl, rfl⟩
theorem hasInt_c (l : List Int) (n : Int) : ConV Try.prog 27 [.lst (.int .i64) l, .int .i64 n] [] (.bool (l.contains n)) [] := by
  refine con_eq Θ_ok Try.func27 rfl rfl false 0 4 rfl rfl rfl rfl fun K hK hb1 hb2 => ?_; simp only [argsV, enc, Nat.reduceAdd]
  simp [toDL, V.toD, bnd, encD, D.cells] at hb1
  (repeat (any_goals (first | (with_reducible apply at_seq) | ((with_reducible apply at_regS Θ_ok); (conv => whnf)) | ((refine go ?_); (conv => whnf)) | ((refine go2 (fun xe hxe => ?_)); (conv => whnf)) | ((with_reducible refine cnd_d (fun hq => ?_) (fun hq => ?_)) <;> (conv => whnf)) | ((with_reducible refine cnd_i (fun hq => ?_) (fun hq => ?_)) <;> ((try simp only [decide_eq_true_eq, decide_eq_false_iff_not, Bool.not_eq_true', Bool.not_eq_false', beq_iff_eq, bne_iff_ne, beq_eq_false_iff_ne, bne_eq_false_iff_eq, ne_eq] at hq) <;> (first | omega | (conv => whnf)))) | ((with_reducible first | apply at_cond | apply at_ret | apply at_exit | apply at_skip); (conv => whnf)) | (with_reducible apply at_block) | ((with_reducible refine at_regD Θ_ok mixed (by kernel_rfl) ?_); (conv => whnf)))))
  refine at_loop hK [] [0, 1, 5] (fun i : Nat => ⟨[(0, .lst (.int .i64) l), (1, .int .i64 n), (5, .int .i64 i)], [], 4⟩) (fun i => i ≤ l.length ∧ ∀ y ∈ l.take i, y ≠ n) (fun i => l.length - i) 0 ⟨by simp, by simp⟩ rfl ?_
  rintro i ⟨hi, hall⟩
  by_cases hlt : i < l.length
  · have hxe : l[i]? = some l[i] := List.getElem?_eq_getElem hlt
    have h3 : l.take (i + 1) = l.take i ++ [l[i]] := List.take_succ_eq_append_getElem hlt
    have h4 : l[i] ∈ l := List.getElem_mem hlt
    generalize l[i] = y at *
    (repeat (any_goals (first | (with_reducible apply at_seq) | ((with_reducible apply at_regS Θ_ok); (conv => whnf)) | ((refine go ?_); (conv => whnf)) | ((refine go2 (fun xe hxe => ?_)); (conv => whnf)) | ((with_reducible refine cnd_d (fun hq => ?_) (fun hq => ?_)) <;> (conv => whnf)) | ((with_reducible refine cnd_i (fun hq => ?_) (fun hq => ?_)) <;> ((try simp only [decide_eq_true_eq, decide_eq_false_iff_not, Bool.not_eq_true', Bool.not_eq_false', beq_iff_eq, bne_iff_ne, beq_eq_false_iff_ne, bne_eq_false_iff_eq, ne_eq] at hq) <;> (first | omega | (conv => whnf)))) | ((with_reducible first | apply at_cond | apply at_ret | apply at_exit | apply at_skip); (conv => whnf)) | (with_reducible apply at_block) | ((with_reducible refine at_regD Θ_ok mixed (by kernel_rfl) ?_); (conv => whnf)))))
    · have : l.contains n = true := by rw [List.contains_iff_mem, ← hq]; exact h4
      rw [this]
      exact ⟨rfl, rfl⟩
    · exact ⟨i + 1, ⟨by omega, by rw [h3]; exact tk_snoc hall hq⟩, by omega, rfl⟩
  · (repeat (any_goals (first | (with_reducible apply at_seq) | ((with_reducible apply at_regS Θ_ok); (conv => whnf)) | ((refine go ?_); (conv => whnf)) | ((refine go2 (fun xe hxe => ?_)); (conv => whnf)) | ((with_reducible refine cnd_d (fun hq => ?_) (fun hq => ?_)) <;> (conv => whnf)) | ((with_reducible refine cnd_i (fun hq => ?_) (fun hq => ?_)) <;> ((try simp only [decide_eq_true_eq, decide_eq_false_iff_not, Bool.not_eq_true', Bool.not_eq_false', beq_iff_eq, bne_iff_ne, beq_eq_false_iff_ne, bne_eq_false_iff_eq, ne_eq] at hq) <;> (first | omega | (conv => whnf)))) | ((with_reducible first | apply at_cond | apply at_ret | apply at_exit | apply at_skip); (conv => whnf)) | (with_reducible apply at_block) | ((with_reducible refine at_regD Θ_ok mixed (by kernel_rfl) ?_); (conv => whnf)))))
    rw [List.take_of_length_le (by omega)] at hall
    have : l.contains n = false := by rw [Bool.eq_false_iff]; intro h; exact hall n (List.contains_iff_mem.1 h) rfl
    rw [this]
    exact ⟨rfl, rfl⟩
theorem lawAut_c (c : List Int) (hc : ∀ x ∈ c, 0 ≤ x ∧ x ≤ 255) : ConV Try.prog 6 [.lst (.int .u8) c] [] (.bool true) [] := by
  obtain ⟨⟨⟨cm, g⟩, r⟩, ⟨h1, h2⟩, hd⟩ := dga_c c hc
  dsimp only at h1 h2 hd
  have hss : ∀ l, ConV Try.prog 26 [.lst (.int .i64) l, .lst (.int .i64) l] [] (.bool true) [] := fun l => by
    have := sameInts_c l l
    rwa [decide_eq_true rfl] at this
  refine con_eq Θ_ok Try.func6 rfl rfl false 0 4 rfl rfl rfl rfl fun K hK hb1 hb2 => ?_; simp only [argsV, enc, Nat.reduceAdd]
  clear hb1 hb2
  by_cases hl : 1048576 < (c.length : Int)
  · (repeat (any_goals (first | (with_reducible apply at_seq) | ((with_reducible apply at_regS Θ_ok); (conv => whnf)) | ((refine go ?_); (conv => whnf)) | ((refine go2 (fun xe hxe => ?_)); (conv => whnf)) | ((with_reducible refine cnd_d (fun hq => ?_) (fun hq => ?_)) <;> (conv => whnf)) | ((with_reducible refine cnd_i (fun hq => ?_) (fun hq => ?_)) <;> ((try simp only [decide_eq_true_eq, decide_eq_false_iff_not, Bool.not_eq_true', Bool.not_eq_false', beq_iff_eq, bne_iff_ne, beq_eq_false_iff_ne, bne_eq_false_iff_eq, ne_eq] at hq) <;> (first | omega | (conv => whnf)))) | ((with_reducible first | apply at_cond | apply at_ret | apply at_exit | apply at_skip); (conv => whnf)) | (with_reducible apply at_block) | ((with_reducible refine at_regD Θ_ok mixed (by kernel_rfl) ?_); (conv => whnf)))))
    exact ⟨rfl, rfl⟩
  cases hg : graS cm g
  · (repeat (any_goals (first | (with_reducible apply at_seq) | ((with_reducible apply at_regS Θ_ok); (conv => whnf)) | ((refine go ?_); (conv => whnf)) | ((refine go2 (fun xe hxe => ?_)); (conv => whnf)) | ((with_reducible refine cnd_d (fun hq => ?_) (fun hq => ?_)) <;> (conv => whnf)) | ((with_reducible refine cnd_i (fun hq => ?_) (fun hq => ?_)) <;> ((try simp only [decide_eq_true_eq, decide_eq_false_iff_not, Bool.not_eq_true', Bool.not_eq_false', beq_iff_eq, bne_iff_ne, beq_eq_false_iff_ne, bne_eq_false_iff_eq, ne_eq] at hq) <;> (first | omega | (conv => whnf)))) | ((with_reducible first | apply at_cond | apply at_ret | apply at_exit | apply at_skip); (conv => whnf)) | (with_reducible apply at_block) | ((with_reducible refine at_regD Θ_ok mixed (by kernel_rfl) ?_); (conv => whnf)) | ((with_reducible refine call_r ?_); (conv => whnf); (first | ((with_reducible refine call_i (hd) ?_); (conv => whnf)) | ((with_reducible refine call_i (gaS_c _ _ _ (by omega)) ?_); (conv => whnf)) | ((with_reducible refine call_i (iga_c _ _ _ (by omega)) ?_); (conv => whnf)) | ((with_reducible refine call_i (graS_c _ _) ?_); (conv => whnf)) | ((with_reducible refine call_i (hss _) ?_); (conv => whnf)))))))
    exact ⟨rfl, rfl⟩
  · have hok := graS_ok hg
    have hga : gaV cm g r = auth g r := by simp [gaV, hg]
    (repeat (any_goals (first | (with_reducible apply at_seq) | ((with_reducible apply at_regS Θ_ok); (conv => whnf)) | ((refine go ?_); (conv => whnf)) | ((refine go2 (fun xe hxe => ?_)); (conv => whnf)) | ((with_reducible refine cnd_d (fun hq => ?_) (fun hq => ?_)) <;> (conv => whnf)) | ((with_reducible refine cnd_i (fun hq => ?_) (fun hq => ?_)) <;> ((try simp only [decide_eq_true_eq, decide_eq_false_iff_not, Bool.not_eq_true', Bool.not_eq_false', beq_iff_eq, bne_iff_ne, beq_eq_false_iff_ne, bne_eq_false_iff_eq, ne_eq] at hq) <;> (first | omega | (conv => whnf)))) | ((with_reducible first | apply at_cond | apply at_ret | apply at_exit | apply at_skip); (conv => whnf)) | (with_reducible apply at_block) | ((with_reducible refine at_regD Θ_ok mixed (by kernel_rfl) ?_); (conv => whnf)) | ((with_reducible refine call_r ?_); (conv => whnf); (first | ((with_reducible refine call_i (hd) ?_); (conv => whnf)) | ((with_reducible refine call_i (gaS_c _ _ _ (by omega)) ?_); (conv => whnf)) | ((with_reducible refine call_i (iga_c _ _ _ (by omega)) ?_); (conv => whnf)) | ((with_reducible refine call_i (graS_c _ _) ?_); (conv => whnf)) | ((with_reducible refine call_i (hss _) ?_); (conv => whnf)))))))
    rw [hga]
    refine at_loop hK [6] [3, 4, 5, 6, 8] (fun i : Nat => ⟨[(3, .lst (.int .i64) cm), (4, .lst .vtx g), (5, .int .i64 r), (6, .lst (.int .i64) (auth g r)), (8, .int .i64 i)], [], 4⟩) (fun i => i ≤ cm.length) (fun i => cm.length - i) 0 (by omega) rfl ?_
    intro a ha
    by_cases hlt : a < cm.length
    · have hgf : gfV cm g r a = fndI g r a := by simp [gfV, hg]
      have hco : (auth g r).contains (a : Int) = decide (0 ≤ fndI g r a) := by
        rw [Bool.eq_iff_iff, List.contains_iff_mem, auth_mem, decide_eq_true_eq]
        have := fnd_lt g r a
        cases h : hasV g r a <;> rw [h] at this <;> simp at this <;> simp <;> omega
      have hh := hasInt_c (auth g r) a
      have hf := igf_c cm g r a (by omega)
      rw [hgf] at hf
      rw [hco] at hh
      (repeat (any_goals (first | (with_reducible apply at_seq) | ((with_reducible apply at_regS Θ_ok); (conv => whnf)) | ((refine go ?_); (conv => whnf)) | ((refine go2 (fun xe hxe => ?_)); (conv => whnf)) | ((with_reducible refine cnd_d (fun hq => ?_) (fun hq => ?_)) <;> (conv => whnf)) | ((with_reducible refine cnd_i (fun hq => ?_) (fun hq => ?_)) <;> ((try simp only [decide_eq_true_eq, decide_eq_false_iff_not, Bool.not_eq_true', Bool.not_eq_false', beq_iff_eq, bne_iff_ne, beq_eq_false_iff_ne, bne_eq_false_iff_eq, ne_eq] at hq) <;> (first | omega | (conv => whnf)))) | ((with_reducible first | apply at_cond | apply at_ret | apply at_exit | apply at_skip); (conv => whnf)) | (with_reducible apply at_block) | ((with_reducible refine at_regD Θ_ok mixed (by kernel_rfl) ?_); (conv => whnf)) | ((with_reducible refine call_r ?_); (conv => whnf); (first | ((with_reducible refine call_i (hh) ?_); (conv => whnf)) | ((with_reducible refine call_i (hf) ?_); (conv => whnf)))))))
      · exact absurd trivial hq
      · exact ⟨a + 1, by omega, by omega, rfl⟩
    · have hm := imemV_c cm (auth g r)
      rw [hok.com, auth_mems hok r] at hm
      (repeat (any_goals (first | (with_reducible apply at_seq) | ((with_reducible apply at_regS Θ_ok); (conv => whnf)) | ((refine go ?_); (conv => whnf)) | ((refine go2 (fun xe hxe => ?_)); (conv => whnf)) | ((with_reducible refine cnd_d (fun hq => ?_) (fun hq => ?_)) <;> (conv => whnf)) | ((with_reducible refine cnd_i (fun hq => ?_) (fun hq => ?_)) <;> ((try simp only [decide_eq_true_eq, decide_eq_false_iff_not, Bool.not_eq_true', Bool.not_eq_false', beq_iff_eq, bne_iff_ne, beq_eq_false_iff_ne, bne_eq_false_iff_eq, ne_eq] at hq) <;> (first | omega | (conv => whnf)))) | ((with_reducible first | apply at_cond | apply at_ret | apply at_exit | apply at_skip); (conv => whnf)) | (with_reducible apply at_block) | ((with_reducible refine at_regD Θ_ok mixed (by kernel_rfl) ?_); (conv => whnf)) | ((with_reducible refine call_r ?_); (conv => whnf); (first | ((with_reducible refine call_i (hm) ?_); (conv => whnf)))))))
      exact ⟨rfl, rfl⟩
end Go.Proofs.Ytkclhekkcffpoaa.Am
