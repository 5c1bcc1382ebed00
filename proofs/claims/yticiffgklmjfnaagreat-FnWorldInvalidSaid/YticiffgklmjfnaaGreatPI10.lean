/- Runs: quiet rounds, copies, whole events: what the specification gives. What is drawn for new runs; the law FnWorldNew. What is drawn for runs. What is drawn for runs: whole runs, runs that are often invalid. Certified proposals: the law FnWorldCertified. Runs: the reference's WorldDo and WorldPlay; what is drawn for them. -/
import Derived.Test.YticiffgklmjfnaaGreatPI9
set_option linter.unusedSimpArgs false
set_option linter.unusedVariables false
namespace Go.Proofs.YticiffgklmjfnaaGreat.Am
open Go
attribute [local irreducible] Mk Need Ari Get Idx Cnd CallM CallA Opt Unch At ConV
set_option maxRecDepth 10000
theorem delTo_le {w : Wrl} (h : WOK w) (i : Int) : ∀ n, tsz w ≤ tsz (delTo w i n)
  | 0 => Nat.le_refl _
  | n + 1 => by
    have h1 := delTo_le h i n
    rcases sDel_cases (delTo_ok h i n) n i with ⟨-, h2⟩ | ⟨-, h2⟩
    · simp only [delTo, h2]; exact h1
    · simp only [delTo, h2]; omega
theorem passTo_le {w : Wrl} (h : WOK w) : ∀ k, tsz w ≤ tsz (passTo w k)
  | 0 => Nat.le_refl _
  | k + 1 => Nat.le_trans (passTo_le h k) (delTo_le (passTo_ok h k) _ _)
theorem sDel_view {w : Wrl} (h : WOK w) {m i : Int} (hb : delB w m i = true) : (sDel w m i).views[m.toNat]? = some (insV (view w m) (prop w i).v) := by
  have hg : good w m = true := by
    simp only [delB, Bool.and_eq_true] at hb
    exact hb.1
  have hl := (h.view hg).2.2
  simp [sDel, hb, List.getElem?_set, hl]
abbrev wZv : List V := [.nils, .nils, .int .i64 0, .nils, .nils]
set_option maxHeartbeats 1000000 in
theorem sspr_c (w : Wrl) (h : WOK w) : ConV Tryz.prog 67 [wrlA w] [] (wrlA (sSpr w)) [] := by
  refine con_eq Θ_ok Tryz.func67 rfl rfl true 0 4 rfl rfl rfl rfl fun K hK hb1 hb2 => ?_; simp only [argsV, enc, Nat.reduceAdd]
  clear hb1 hb2
  (repeat (any_goals (first | refine st ?_ | ((first | refine go2 fun xe hxe => ?_ | with_reducible refine cnd_d (fun hq => ?_) fun hq => ?_) <;> conv => whnf) | ((with_reducible refine cnd_i (fun hq => ?_) fun hq => ?_) <;> ((try simp only [hqs] at hq) <;> (first | omega | conv => whnf))))))
  refine at_loop hK [] [1, 2, 3] (fun x : Bool × Wrl => ⟨[(1, .ptr 4 0), (2, .ptr 5 0), (3, .bool x.1)], [(4, .var 27 (wrlA x.2).cells), (5, .var 27 wZv)], 6⟩) (fun x => WOK x.2 ∧ (x.1 = true → sSpr x.2 = sSpr w) ∧ (x.1 = false → x.2 = sSpr w)) (fun x => if x.1 = true then 1520 - tsz x.2 else 0) (true, w) ⟨h, fun _ => rfl, fun h => by cases h⟩ rfl ?_
  rintro ⟨b, x⟩ ⟨hx, hbt, hbf⟩
  dsimp only at hx hbt hbf ⊢
  cases b
  · have := hbf rfl
    rw [← this]
    (repeat (any_goals (first | refine st ?_ | ((first | refine go2 fun xe hxe => ?_ | with_reducible refine cnd_d (fun hq => ?_) fun hq => ?_) <;> conv => whnf) | ((with_reducible refine cnd_i (fun hq => ?_) fun hq => ?_) <;> ((try simp only [hqs] at hq) <;> (first | omega | conv => whnf))))))
    exact ⟨rfl, rfl⟩
  have hbt := hbt rfl
  have hx7 := hx.len
  have hxp := hx.plen
  (repeat (any_goals (first | refine st ?_ | ((first | refine go2 fun xe hxe => ?_ | with_reducible refine cnd_d (fun hq => ?_) fun hq => ?_) <;> conv => whnf) | ((with_reducible refine cnd_i (fun hq => ?_) fun hq => ?_) <;> ((try simp only [hqs] at hq) <;> (first | omega | conv => whnf))))))
  refine at_loop hK [] [1, 2, 3, 4] (fun k : Nat => ⟨[(1, .ptr 4 0), (2, .ptr 5 0), (3, .bool (decide (tsz x < tsz (passTo x k)))), (4, .int .i64 (k : Int))], [(4, .var 27 (wrlA (passTo x k)).cells), (5, .var 27 wZv)], 6⟩) (fun k => k ≤ x.props.length) (fun k => x.props.length - k) 0 (by omega) (by simp only [passTo, Nat.lt_irrefl, decide_false]; rfl) ?_
  intro k hk
  have hpc := passTo_com x k
  have hpo := passTo_ok hx k
  have hple := passTo_le hx k
  have hps : passTo x (k + 1) = delTo (passTo x k) k (passTo x k).com.length := rfl
  by_cases hlt : k < x.props.length
  · generalize passTo x k = y at *
    have hyl : y.props.length = x.props.length := by rw [hpc.2]
    have hyc : y.com.length = x.com.length := by rw [hpc.1]
    (repeat (any_goals (first | refine st ?_ | ((first | refine go2 fun xe hxe => ?_ | with_reducible refine cnd_d (fun hq => ?_) fun hq => ?_) <;> conv => whnf) | ((with_reducible refine cnd_i (fun hq => ?_) fun hq => ?_) <;> ((try simp only [hqs] at hq) <;> (first | omega | conv => whnf))))))
    refine at_loop hK [] [1, 2, 3, 4, 5] (fun m : Nat => ⟨[(1, .ptr 4 0), (2, .ptr 5 0), (3, .bool (decide (tsz x < tsz (delTo y k m)))), (4, .int .i64 (k : Int)), (5, .int .i64 (m : Int))], [(4, .var 27 (wrlA (delTo y k m)).cells), (5, .var 27 wZv)], 6⟩) (fun m => m ≤ y.com.length) (fun m => y.com.length - m) 0 (by omega) rfl ?_
    intro m hm
    have hdc := delTo_com y k m
    have hdo := delTo_ok hpo k m
    have hdle := delTo_le hpo k m
    have hds : delTo y k (m + 1) = sDel (delTo y k m) m k := rfl
    by_cases hml : m < y.com.length
    · generalize delTo y k m = z at *
      have hzc : z.com.length = y.com.length := by rw [hdc.1]
      have hzv := hdo.vlen
      have hS := sdel_c z m k hdo
      have hxv : z.views[m]? = some (view z m) := by
        unfold view
        rw [Int.toNat_natCast, List.getD_eq_getElem?_getD, List.getElem?_eq_getElem (show m < z.views.length by omega)]
        rfl
      have hgl := hdo.vl _ (List.mem_of_getElem? hxv)
      have hso := sDel_ok hdo m k
      have hsc := sDel_com z m k
      have hsv := hso.vlen
      rcases sDel_cases hdo m k with ⟨e1, e2⟩ | ⟨e1, e2⟩
      · rw [e2] at hS hds
        generalize view z m = g at *
        by_cases hmo : tsz x < tsz z
        · rw [decide_eq_true hmo]
          (repeat (any_goals (first | refine st ?_ | ((first | refine go2 fun xe hxe => ?_ | with_reducible refine cnd_d (fun hq => ?_) fun hq => ?_) <;> conv => whnf) | ((with_reducible refine cnd_i (fun hq => ?_) fun hq => ?_) <;> ((try simp only [hqs] at hq) <;> (first | omega | conv => whnf))) | refine cr (hS) ?_)))
          exact ⟨m + 1, by omega, by omega, by rw [hds, decide_eq_true hmo]; rfl⟩
        · rw [decide_eq_false hmo]
          (repeat (any_goals (first | refine st ?_ | ((first | refine go2 fun xe hxe => ?_ | with_reducible refine cnd_d (fun hq => ?_) fun hq => ?_) <;> conv => whnf) | ((with_reducible refine cnd_i (fun hq => ?_) fun hq => ?_) <;> ((try simp only [hqs] at hq) <;> (first | omega | conv => whnf))) | refine cr (hS) ?_)))
          exact ⟨m + 1, by omega, by omega, by rw [hds, decide_eq_false hmo, decide_eq_false (Int.lt_irrefl _)]; rfl⟩
      · have hxv2 := sDel_view hdo e1
        rw [Int.toNat_natCast] at hxv2
        have hil := insV_len (view z m) (prop z k).v
        have hmo2 : tsz x < tsz (sDel z m k) := by omega
        generalize sDel z m k = z2 at *
        generalize insV (view z m) (prop z k).v = g2 at *
        generalize view z m = g at *
        by_cases hmo : tsz x < tsz z
        · rw [decide_eq_true hmo]
          (repeat (any_goals (first | refine st ?_ | ((first | refine go2 fun xe hxe => ?_ | with_reducible refine cnd_d (fun hq => ?_) fun hq => ?_) <;> conv => whnf) | ((with_reducible refine cnd_i (fun hq => ?_) fun hq => ?_) <;> ((try simp only [hqs] at hq) <;> (first | omega | conv => whnf))) | refine cr (hS) ?_)))
          exact ⟨m + 1, by omega, by omega, by rw [hds, decide_eq_true hmo2]; rfl⟩
        · rw [decide_eq_false hmo]
          have hlt2 : (g.length : Int) < g2.length := by omega
          (repeat (any_goals (first | refine st ?_ | ((first | refine go2 fun xe hxe => ?_ | with_reducible refine cnd_d (fun hq => ?_) fun hq => ?_) <;> conv => whnf) | ((with_reducible refine cnd_i (fun hq => ?_) fun hq => ?_) <;> ((try simp only [hqs] at hq) <;> (first | omega | conv => whnf))) | refine cr (hS) ?_)))
          exact ⟨m + 1, by omega, by omega, by rw [hds, decide_eq_true hmo2, decide_eq_true hlt2]; rfl⟩
    · obtain rfl : m = y.com.length := by omega
      rw [← hps]
      have hc2 : (passTo x (k + 1)).com.length = y.com.length := by rw [hps, hdc.1]
      generalize hz : passTo x (k + 1) = z at *
      (repeat (any_goals (first | refine st ?_ | ((first | refine go2 fun xe hxe => ?_ | with_reducible refine cnd_d (fun hq => ?_) fun hq => ?_) <;> conv => whnf) | ((with_reducible refine cnd_i (fun hq => ?_) fun hq => ?_) <;> ((try simp only [hqs] at hq) <;> (first | omega | conv => whnf))))))
      exact ⟨k + 1, by omega, by omega, by rw [hz]; rfl⟩
  · obtain rfl : k = x.props.length := by omega
    have hpa : passTo x x.props.length = pass x := rfl
    rw [hpa] at hpc hpo hple
    rw [hpa]
    clear hpa hps
    have hyl : (pass x).props.length = x.props.length := by rw [hpc.2]
    have htl := tsz_le hpo
    have htx := tsz_le hx
    have e1 : tsz x < tsz (pass x) → sSpr x = sSpr (pass x) := fun hh => by
      rw [sSpr]
      exact dif_pos ⟨hh, htl⟩
    have e2 : ¬ tsz x < tsz (pass x) → sSpr x = pass x := fun hh => by
      rw [sSpr]
      exact dif_neg fun h9 => hh h9.1
    generalize pass x = z at *
    (repeat (any_goals (first | refine st ?_ | ((first | refine go2 fun xe hxe => ?_ | with_reducible refine cnd_d (fun hq => ?_) fun hq => ?_) <;> conv => whnf) | ((with_reducible refine cnd_i (fun hq => ?_) fun hq => ?_) <;> ((try simp only [hqs] at hq) <;> (first | omega | conv => whnf))))))
    refine ⟨(decide (tsz x < tsz z), z), ⟨hpo, fun hh => ?_, fun hh => ?_⟩, ?_, rfl⟩
    · rw [← hbt, e1 (of_decide_eq_true hh)]
    · rw [← hbt, e2 (of_decide_eq_false hh)]
    · dsimp only
      split
      · rename_i hh
        have := of_decide_eq_true hh
        simp only [if_true]
        omega
      · simp only [if_true]
        omega
theorem svts_c (w : Wrl) (h : WOK w) : ConV Tryz.prog 68 [wrlA w] [] (wrlA (sVts w)) [] := by
  have h7 := h.len
  have hpl := h.plen
  refine con_eq Θ_ok Tryz.func68 rfl rfl true 0 4 rfl rfl rfl rfl fun K hK hb1 hb2 => ?_; simp only [argsV, enc, Nat.reduceAdd]
  clear hb1 hb2
  (repeat (any_goals (first | refine st ?_ | ((first | refine go2 fun xe hxe => ?_ | with_reducible refine cnd_d (fun hq => ?_) fun hq => ?_) <;> conv => whnf) | ((with_reducible refine cnd_i (fun hq => ?_) fun hq => ?_) <;> ((try simp only [hqs] at hq) <;> (first | omega | conv => whnf))))))
  refine at_loop hK [] [1, 2, 3] (fun k : Nat => ⟨[(1, .ptr 4 0), (2, .ptr 5 0), (3, .int .i64 (k : Int))], [(4, .var 27 (wrlA (votsTo w k)).cells), (5, .var 27 wZv)], 6⟩) (fun k => k ≤ w.props.length) (fun k => w.props.length - k) 0 (by omega) rfl ?_
  intro k hk
  have hpc := votsTo_com w k
  have hpo := votsTo_ok h k
  have hps : votsTo w (k + 1) = votTo (votsTo w k) k (votsTo w k).com.length := rfl
  by_cases hlt : k < w.props.length
  · generalize votsTo w k = y at *
    have hyc : y.com.length = w.com.length := by rw [hpc.1]
    (repeat (any_goals (first | refine st ?_ | ((first | refine go2 fun xe hxe => ?_ | with_reducible refine cnd_d (fun hq => ?_) fun hq => ?_) <;> conv => whnf) | ((with_reducible refine cnd_i (fun hq => ?_) fun hq => ?_) <;> ((try simp only [hqs] at hq) <;> (first | omega | conv => whnf))))))
    refine at_loop hK [] [1, 2, 3, 4] (fun m : Nat => ⟨[(1, .ptr 4 0), (2, .ptr 5 0), (3, .int .i64 (k : Int)), (4, .int .i64 (m : Int))], [(4, .var 27 (wrlA (votTo y k m)).cells), (5, .var 27 wZv)], 6⟩) (fun m => m ≤ y.com.length) (fun m => y.com.length - m) 0 (by omega) rfl ?_
    intro m hm
    have hdc := votTo_com y k m
    have hdo := votTo_ok hpo k m
    have hds : votTo y k (m + 1) = sVot (votTo y k m) m k := rfl
    by_cases hml : m < y.com.length
    · generalize votTo y k m = z at *
      have hzc : z.com.length = y.com.length := by rw [hdc.1]
      have hS := svot_c z m k hdo
      generalize sVot z m k = z2 at *
      (repeat (any_goals (first | refine st ?_ | ((first | refine go2 fun xe hxe => ?_ | with_reducible refine cnd_d (fun hq => ?_) fun hq => ?_) <;> conv => whnf) | ((with_reducible refine cnd_i (fun hq => ?_) fun hq => ?_) <;> ((try simp only [hqs] at hq) <;> (first | omega | conv => whnf))) | refine cr (hS) ?_)))
      exact ⟨m + 1, by omega, by omega, by rw [hds]; rfl⟩
    · obtain rfl : m = y.com.length := by omega
      rw [← hps]
      have hc2 : (votsTo w (k + 1)).com.length = y.com.length := by rw [hps, hdc.1]
      generalize hz : votsTo w (k + 1) = z at *
      (repeat (any_goals (first | refine st ?_ | ((first | refine go2 fun xe hxe => ?_ | with_reducible refine cnd_d (fun hq => ?_) fun hq => ?_) <;> conv => whnf) | ((with_reducible refine cnd_i (fun hq => ?_) fun hq => ?_) <;> ((try simp only [hqs] at hq) <;> (first | omega | conv => whnf))))))
      exact ⟨k + 1, by omega, by omega, by rw [hz]; rfl⟩
  · obtain rfl : k = w.props.length := by omega
    have hpa : votsTo w w.props.length = sVts w := rfl
    rw [hpa] at hpc hpo
    rw [hpa]
    clear hpa hps
    have hyl := hpc.2
    generalize sVts w = z at *
    (repeat (any_goals (first | refine st ?_ | ((first | refine go2 fun xe hxe => ?_ | with_reducible refine cnd_d (fun hq => ?_) fun hq => ?_) <;> conv => whnf) | ((with_reducible refine cnd_i (fun hq => ?_) fun hq => ?_) <;> ((try simp only [hqs] at hq) <;> (first | omega | conv => whnf))))))
    exact ⟨rfl, rfl⟩
theorem scpy_c (w : Wrl) (h : WOK w) : ConV Tryz.prog 42 [wrlA w] [] (wrlA w) [] := by
  have h7 := h.len
  have hvl := h.vlen
  have hpl := h.plen
  have hll := (leaS_iff.1 h.lead).2
  refine con_eq Θ_ok Tryz.func42 rfl rfl true 0 4 rfl rfl rfl rfl fun K hK hb1 hb2 => ?_; simp only [argsV, enc, Nat.reduceAdd]
  clear hb1 hb2
  (repeat (any_goals (first | refine st ?_ | ((first | refine go2 fun xe hxe => ?_ | with_reducible refine cnd_d (fun hq => ?_) fun hq => ?_) <;> conv => whnf) | ((with_reducible refine cnd_i (fun hq => ?_) fun hq => ?_) <;> ((try simp only [hqs] at hq) <;> (first | omega | conv => whnf))))))
  refine at_loop hK [] [1, 2, 3, 4] (fun i : Nat => ⟨[(1, .ptr 4 0), (2, .ptr 5 0), (3, .ptr 6 0), (4, .int .i64 (i : Int))], [(4, .var 27 (wrlA w).cells), (5, .var 27 wZv), (6, .var 27 [.ref 7, .ref 8, .int .i64 w.bad, .ref 9, .ref 10]), (7, .row 3 (.int .i64) w.com), (8, .row 3 (.int .i64) w.lead), (9, .row 40 (.lst .vtx) (w.views.take i)), (10, .row 38 .ppl [])], 11⟩) (fun i => i ≤ w.views.length) (fun i => w.views.length - i) 0 (by omega) rfl ?_
  intro i hi
  by_cases hlt : i < w.views.length
  · have hxe : w.views[i]? = some w.views[i] := List.getElem?_eq_getElem hlt
    have hsn : w.views.take (i + 1) = w.views.take i ++ [w.views[i]] := List.take_succ_eq_append_getElem hlt
    have hgm := List.getElem_mem hlt
    have hC := scopy_c w.views[i] (by have := h.vl _ hgm; omega) fun v hv => by have := h.par (h.vv _ hgm v hv); omega
    have hl1 : (w.views.take i).length = i := by rw [List.length_take]; omega
    generalize w.views[i] = g at *
    generalize w.views.take i = l at *
    (repeat (any_goals (first | refine st ?_ | ((first | refine go2 fun xe hxe => ?_ | with_reducible refine cnd_d (fun hq => ?_) fun hq => ?_) <;> conv => whnf) | ((with_reducible refine cnd_i (fun hq => ?_) fun hq => ?_) <;> ((try simp only [hqs] at hq) <;> (first | omega | conv => whnf))) | refine cr (hC) ?_)))
    exact ⟨i + 1, by omega, by omega, by rw [hsn]; rfl⟩
  rw [List.take_of_length_le (by omega)]
  (repeat (any_goals (first | refine st ?_ | ((first | refine go2 fun xe hxe => ?_ | with_reducible refine cnd_d (fun hq => ?_) fun hq => ?_) <;> conv => whnf) | ((with_reducible refine cnd_i (fun hq => ?_) fun hq => ?_) <;> ((try simp only [hqs] at hq) <;> (first | omega | conv => whnf))))))
  refine at_loop hK [] [1, 2, 3, 5] (fun i : Nat => ⟨[(1, .ptr 4 0), (2, .ptr 5 0), (3, .ptr 6 0), (5, .int .i64 (i : Int))], [(4, .var 27 (wrlA w).cells), (5, .var 27 wZv), (6, .var 27 [.ref 7, .ref 8, .int .i64 w.bad, .ref 9, .ref 10]), (7, .row 3 (.int .i64) w.com), (8, .row 3 (.int .i64) w.lead), (9, .row 40 (.lst .vtx) w.views), (10, .row 38 .ppl (w.props.take i))], 11⟩) (fun i => i ≤ w.props.length) (fun i => w.props.length - i) 0 (by omega) rfl ?_
  intro k hk
  by_cases hkl : k < w.props.length
  · have hxe : w.props[k]? = some w.props[k] := List.getElem?_eq_getElem hkl
    have hsn : w.props.take (k + 1) = w.props.take k ++ [w.props[k]] := List.take_succ_eq_append_getElem hkl
    have hpm := List.getElem_mem hkl
    have hC := sone_c w.props[k].v (by have := h.par (h.pv _ hpm).1; omega)
    have hm := h.mem _ hpm
    have hl1 : (w.props.take k).length = k := by rw [List.length_take]; omega
    generalize w.props[k] = p at *
    generalize w.props.take k = l at *
    (repeat (any_goals (first | refine st ?_ | ((first | refine go2 fun xe hxe => ?_ | with_reducible refine cnd_d (fun hq => ?_) fun hq => ?_) <;> conv => whnf) | ((with_reducible refine cnd_i (fun hq => ?_) fun hq => ?_) <;> ((try simp only [hqs] at hq) <;> (first | omega | conv => whnf))) | refine cr (hC) ?_)))
    exact ⟨k + 1, by omega, by omega, by rw [hsn]; rfl⟩
  · (repeat (any_goals (first | refine st ?_ | ((first | refine go2 fun xe hxe => ?_ | with_reducible refine cnd_d (fun hq => ?_) fun hq => ?_) <;> conv => whnf) | ((with_reducible refine cnd_i (fun hq => ?_) fun hq => ?_) <;> ((try simp only [hqs] at hq) <;> (first | omega | conv => whnf))))))
    rw [List.take_of_length_le (by omega)]
    exact ⟨rfl, rfl⟩
theorem wrl_com {w : Wrl} (h : WOK w) : w.com.length ≤ 2000000 := by have := h.len; omega
theorem scalm_c (w : Wrl) (r : Nat) (h : WOK w) (hr : r ≤ 12) : ConV Tryz.prog 36 [wrlA w, .int .i64 (r : Int)] [] (wrlA (calmTo w r)) [] := by
  have hV := swV_c w (wrl_com h)
  rw [wok_iff.2 h] at hV
  have hI := in_c (r : Int) 0 12
  rw [vIn_iff.2 (by omega)] at hI
  have hS := sspr_c w h
  refine con_eq Θ_ok Tryz.func36 rfl rfl true 0 4 rfl rfl rfl rfl fun K hK hb1 hb2 => ?_; simp only [argsV, enc, Nat.reduceAdd]
  clear hb1 hb2
  (repeat (any_goals (first | refine st ?_ | ((first | refine go2 fun xe hxe => ?_ | with_reducible refine cnd_d (fun hq => ?_) fun hq => ?_) <;> conv => whnf) | ((with_reducible refine cnd_i (fun hq => ?_) fun hq => ?_) <;> ((try simp only [hqs] at hq) <;> (first | omega | conv => whnf))) | refine cr (hV) ?_ | refine cr (hI) ?_ | refine cr (hS) ?_)))
  refine at_loop hK [] [1, 2, 4, 5] (fun k : Nat => ⟨[(1, .int .i64 (r : Int)), (2, .ptr 4 0), (4, .ptr 5 0), (5, .int .i64 (k : Int))], [(4, .var 27 (wrlA (calmTo w k)).cells), (5, .var 27 wZv)], 6⟩) (fun k => k ≤ r) (fun k => r - k) 0 (by omega) rfl ?_
  intro k hk
  have hco := calmTo_ok h k
  have hcs : calmTo w (k + 1) = rnd1 (prpTo (rnd1 (calmTo w k)) k (rnd1 (calmTo w k)).com.length) := rfl
  by_cases hlt : k < r
  · generalize calmTo w k = x at *
    have h1 := svts_c x hco
    have h2 := sspr_c (sVts x) (votsTo_ok hco _)
    have hr1 : sSpr (sVts x) = rnd1 x := rfl
    have hro := rnd1_ok hco
    rw [hr1] at h2
    generalize sVts x = x1 at *
    generalize rnd1 x = y at *
    (repeat (any_goals (first | refine st ?_ | ((first | refine go2 fun xe hxe => ?_ | with_reducible refine cnd_d (fun hq => ?_) fun hq => ?_) <;> conv => whnf) | ((with_reducible refine cnd_i (fun hq => ?_) fun hq => ?_) <;> ((try simp only [hqs] at hq) <;> (first | omega | conv => whnf))) | refine cr (h1) ?_ | refine cr (h2) ?_)))
    refine at_loop hK [] [1, 2, 4, 5, 6] (fun m : Nat => ⟨[(1, .int .i64 (r : Int)), (2, .ptr 4 0), (4, .ptr 5 0), (5, .int .i64 (k : Int)), (6, .int .i64 (m : Int))], [(4, .var 27 (wrlA (prpTo y k m)).cells), (5, .var 27 wZv)], 6⟩) (fun m => m ≤ y.com.length) (fun m => y.com.length - m) 0 (by omega) rfl ?_
    intro m hm
    have hdc := prpTo_com y k m
    have hdo := prpTo_ok hro k m
    have hyl := hro.len
    have hds : prpTo y k (m + 1) = sPrp (prpTo y k m) m (7 * k + m) := rfl
    by_cases hml : m < y.com.length
    · generalize prpTo y k m = z at *
      have hzc : z.com.length = y.com.length := by rw [hdc]
      have hP := sprp_c z m (7 * k + m) hdo
      generalize sPrp z m (7 * k + m) = z2 at *
      (repeat (any_goals (first | refine st ?_ | ((first | refine go2 fun xe hxe => ?_ | with_reducible refine cnd_d (fun hq => ?_) fun hq => ?_) <;> conv => whnf) | ((with_reducible refine cnd_i (fun hq => ?_) fun hq => ?_) <;> ((try simp only [hqs] at hq) <;> (first | omega | conv => whnf))) | refine cr (hP) ?_)))
      exact ⟨m + 1, by omega, by omega, by rw [hds]; rfl⟩
    · obtain rfl : m = y.com.length := by omega
      have hzc : (prpTo y k y.com.length).com.length = y.com.length := by rw [hdc]
      generalize prpTo y k y.com.length = z at *
      have h3 := svts_c z hdo
      have h4 := sspr_c (sVts z) (votsTo_ok hdo _)
      have hr2 : sSpr (sVts z) = rnd1 z := rfl
      rw [hr2] at h4
      generalize sVts z = z1 at *
      generalize rnd1 z = z2 at *
      (repeat (any_goals (first | refine st ?_ | ((first | refine go2 fun xe hxe => ?_ | with_reducible refine cnd_d (fun hq => ?_) fun hq => ?_) <;> conv => whnf) | ((with_reducible refine cnd_i (fun hq => ?_) fun hq => ?_) <;> ((try simp only [hqs] at hq) <;> (first | omega | conv => whnf))) | refine cr (h3) ?_ | refine cr (h4) ?_)))
      exact ⟨k + 1, by omega, by omega, by rw [hcs]; rfl⟩
  · obtain rfl : k = r := by omega
    have hC := scpy_c (calmTo w k) hco
    generalize calmTo w k = x at *
    (repeat (any_goals (first | refine st ?_ | ((first | refine go2 fun xe hxe => ?_ | with_reducible refine cnd_d (fun hq => ?_) fun hq => ?_) <;> conv => whnf) | ((with_reducible refine cnd_i (fun hq => ?_) fun hq => ?_) <;> ((try simp only [hqs] at hq) <;> (first | omega | conv => whnf))) | refine cr (hC) ?_)))
    exact ⟨rfl, rfl⟩
end Go.Proofs.YticiffgklmjfnaaGreat.Am
namespace Go.Proofs.YticiffgklmjfnaaGreat.Am
open Go
attribute [local irreducible] Mk Need Ari Get Idx Cnd CallM CallA Opt Unch At ConV
set_option maxRecDepth 10000
theorem rd0w {c : List Int} (h : ∀ x ∈ c, 0 ≤ x ∧ x ≤ 255) : rdOK (c.take 2000) 0 := ⟨by rw [List.length_take]; omega, fun x hx => h x (List.mem_of_mem_take hx), by omega, by omega⟩
end Go.Proofs.YticiffgklmjfnaaGreat.Am
namespace Go.Proofs.YticiffgklmjfnaaGreat.Am
open Go
attribute [local irreducible] Mk Need Ari Get Idx Cnd CallM CallA Opt Unch At ConV
set_option maxRecDepth 10000
theorem newS_bad {c l : List Int} (hc : comV c = true) (hl : leaS c l = true) : newS c l (-1) = true := by
  have : badS c (-1) = true := badS_iff.2 (.inl rfl)
  simp [newS, hc, hl, this]
theorem new_ok {c l : List Int} {b : Int} (h : newS c l b = true) : WOK (newW c l b) := wok_iff.1 (wrl_new h)
theorem dbeg_c (b : List Int) (p : Int) (h : rdOK b 0) (hp : 0 ≤ p ∧ p ≤ 900000) : ∃ x : Wrl × Int, (p ≤ x.2 ∧ x.2 ≤ p + 60 ∧ WOK x.1) ∧ ConV Tryz.prog 34 [.ptr 4 0] [(4, rdB b p)] (wrlA x.1) [(4, rdB b x.2)] := by
  obtain ⟨⟨c, q⟩, ⟨h1, h2, h3⟩, hg⟩ := dgood_c b p h (by omega)
  dsimp only at h1 h2 h3 hg
  have h7 := (comV_iff.1 h3).2
  suffices hs : ∃ r hout, (∃ x : Wrl × Int, (p ≤ x.2 ∧ x.2 ≤ p + 60 ∧ WOK x.1) ∧ r = wrlA x.1 ∧ hout = [(4, rdB b x.2)]) ∧ ConV Tryz.prog 34 [.ptr 4 0] [(4, rdB b p)] r hout by
    obtain ⟨r, hout, ⟨v, hv, rfl, rfl⟩, h⟩ := hs
    exact ⟨v, hv, h⟩
  have h0 : WOK (newW c [] (-1)) := new_ok (newS_bad h3 rfl)
  refine con_ex Θ_ok Tryz.func34 rfl rfl true 1 5 rfl rfl rfl rfl (R := fun r hout => ∃ x : Wrl × Int, (p ≤ x.2 ∧ x.2 ≤ p + 60 ∧ WOK x.1) ∧ r = wrlA x.1 ∧ hout = [(4, rdB b x.2)]) (r0 := wrlA (newW c [] (-1))) (hout0 := [(4, rdB b p)]) (⟨(newW c [] (-1), p), ⟨by dsimp only; omega, by dsimp only; omega, h0⟩, rfl, rfl⟩) fun K hK hb1 hb2 => ?_; simp only [argsV, enc, Nat.reduceAdd]
  clear hb1 hb2
  (repeat (any_goals (first | refine st ?_ | ((first | refine go2 fun xe hxe => ?_ | with_reducible refine cnd_d (fun hq => ?_) fun hq => ?_) <;> conv => whnf) | ((with_reducible refine cnd_i (fun hq => ?_) fun hq => ?_) <;> ((try simp only [hqs] at hq) <;> (first | omega | conv => whnf))) | refine co (hg) ?_)))
  refine at_loop hK [] [0, 2, 3, 4, 5] (fun i : Nat × List Int × Int => ⟨[(0, .ptr 4 0), (2, .ptr 5 0), (3, .lst (.int .i64) c), (4, .ref 6), (5, .int .i64 i.1)], [(4, rdB b i.2.2), (5, .var 27 wZv), (6, .row 3 (.int .i64) i.2.1)], 7⟩)
    (fun i => i.1 ≤ 11 ∧ i.2.1.length = i.1 ∧ i.2.2 = q + 2 * i.1 ∧ ∀ x ∈ i.2.1, 0 ≤ x ∧ x < c.length) (fun i => 12 - i.1) (0, [], q) (by simp) rfl ?_
  rintro ⟨i, l, q2⟩ ⟨hi1, hi2, hi3, hi4⟩
  dsimp only at hi1 hi2 hi3 hi4 ⊢
  have hle : leaS c l = true := leaS_iff.2 ⟨hi4, by omega⟩
  (repeat (any_goals (first | refine st ?_ | ((first | refine go2 fun xe hxe => ?_ | with_reducible refine cnd_d (fun hq => ?_) fun hq => ?_) <;> conv => whnf) | ((with_reducible refine cnd_i (fun hq => ?_) fun hq => ?_) <;> ((try simp only [hqs] at hq) <;> (first | omega | conv => whnf))) | ((with_reducible refine call_r ?_); (conv => whnf); (first | refine call_ex (pk_c b _ _ h (by omega) (by omega)) fun xv hxv => ?_); conv => whnf))))
  · exact ⟨(i + 1, l ++ [xv], q2 + 1 + 1), ⟨by dsimp only; omega, by simp; omega, by dsimp only; omega, fun x hx => by
      rcases List.mem_append.1 hx with hx | hx
      · exact hi4 x hx
      · rw [List.mem_singleton.1 hx]; omega⟩, by dsimp only; omega, rfl⟩
  · have hN := snew_c c l (xv - 1) (by omega)
    cases hn : newS c l (xv - 1)
    · rw [hn] at hN
      simp only [Bool.false_eq_true, if_false] at hN
      have hN2 := snew_c c l (-1) (by omega)
      rw [newS_bad h3 hle] at hN2
      simp only [if_true] at hN2
      (repeat (any_goals (first | refine st ?_ | ((first | refine go2 fun xe hxe => ?_ | with_reducible refine cnd_d (fun hq => ?_) fun hq => ?_) <;> conv => whnf) | ((with_reducible refine cnd_i (fun hq => ?_) fun hq => ?_) <;> ((try simp only [hqs] at hq) <;> (first | omega | conv => whnf))) | refine cr (hN) ?_ | refine cr (hN2) ?_)))
      exact ⟨(newW c l (-1), q2 + 1 + 1), ⟨by dsimp only; omega, by dsimp only; omega, new_ok (newS_bad h3 hle)⟩, rfl, rfl⟩
    · rw [hn] at hN
      simp only [if_true] at hN
      (repeat (any_goals (first | refine st ?_ | ((first | refine go2 fun xe hxe => ?_ | with_reducible refine cnd_d (fun hq => ?_) fun hq => ?_) <;> conv => whnf) | ((with_reducible refine cnd_i (fun hq => ?_) fun hq => ?_) <;> ((try simp only [hqs] at hq) <;> (first | omega | conv => whnf))) | refine cr (hN) ?_)))
      exact ⟨(newW c l (xv - 1), q2 + 1 + 1), ⟨by dsimp only; omega, by dsimp only; omega, new_ok hn⟩, rfl, rfl⟩
def e0 : Evt := ⟨0, 0, 0, v0⟩
abbrev evtZ (z : Bool) (e : Evt) : V := if z then .agg [.int .i64 e.kind, .int .i64 e.a, .int .i64 e.b, .int .i64 e.v.round, .int .i64 e.v.author, .nils, .int .i64 e.v.digest] else evtA e
def evtS (b : List Int) (q : Int) (k a c r u d : Int) (l : List Int) : Nat → VSt
  | 0 => ⟨[(0, .ptr 4 0), (4, .ptr 5 0), (7, .ptr 6 0)], [(4, rdB b q), (5, .var 47 [.int .i64 0, .int .i64 0, .int .i64 0, .int .i64 0, .int .i64 0, .nils, .int .i64 0]), (6, .var 47 [.int .i64 k, .int .i64 a, .int .i64 c, .int .i64 r, .int .i64 u, .nils, .int .i64 d])], 7⟩
  | 1 => ⟨[(0, .ptr 4 0), (4, .ptr 5 0), (7, .ptr 6 0)], [(4, rdB b q), (5, .var 47 [.int .i64 0, .int .i64 0, .int .i64 0, .int .i64 0, .int .i64 0, .nils, .int .i64 0]), (6, .var 47 [.int .i64 k, .int .i64 a, .int .i64 c, .int .i64 r, .int .i64 u, .lst (.int .i64) l, .int .i64 d])], 7⟩
  | _ => ⟨[(0, .ptr 4 0), (4, .ptr 5 0), (7, .ptr 6 0)], [(4, rdB b q), (5, .var 47 [.int .i64 0, .int .i64 0, .int .i64 0, .int .i64 0, .int .i64 0, .nils, .int .i64 0]), (6, .var 47 [.int .i64 k, .int .i64 a, .int .i64 c, .int .i64 r, .int .i64 u, .ref 7, .int .i64 d]), (7, .row 3 (.int .i64) l)], 8⟩
def evtF (b : List Int) (x : (Int × Int × Int × Int) × Int × Int × Int × List Int × Nat) : VSt := evtS b x.2.1 x.1.1 x.1.2.1 x.1.2.2.1 x.1.2.2.2 x.2.2.1 x.2.2.2.1 x.2.2.2.2.1 x.2.2.2.2.2
theorem evt_k0 {b : List Int} {q k a c r u d : Int} {p : (Int × Int × Int × Int) × Int × Int × Int × List Int × Nat → Prop} (hp : p ((k, a, c, r), q, u, d, [], 0)) : ∃ x, p x ∧ (⟨[(0, .ptr 4 0), (4, .ptr 5 0), (7, .ptr 6 0)], [(4, rdB b q), (5, .var 47 [.int .i64 0, .int .i64 0, .int .i64 0, .int .i64 0, .int .i64 0, .nils, .int .i64 0]), (6, .var 47 [.int .i64 k, .int .i64 a, .int .i64 c, .int .i64 r, .int .i64 u, .nils, .int .i64 d])], 7⟩ : VSt) = evtF b x := ⟨_, hp, rfl⟩
theorem evt_k1 {b : List Int} {q k a c r u d : Int} {l : List Int} {p : (Int × Int × Int × Int) × Int × Int × Int × List Int × Nat → Prop} (hp : p ((k, a, c, r), q, u, d, l, 1)) : ∃ x, p x ∧ (⟨[(0, .ptr 4 0), (4, .ptr 5 0), (7, .ptr 6 0)], [(4, rdB b q), (5, .var 47 [.int .i64 0, .int .i64 0, .int .i64 0, .int .i64 0, .int .i64 0, .nils, .int .i64 0]), (6, .var 47 [.int .i64 k, .int .i64 a, .int .i64 c, .int .i64 r, .int .i64 u, .lst (.int .i64) l, .int .i64 d])], 7⟩ : VSt) = evtF b x := ⟨_, hp, rfl⟩
theorem evt_k2 {b : List Int} {q k a c r u d : Int} {l : List Int} {p : (Int × Int × Int × Int) × Int × Int × Int × List Int × Nat → Prop} (hp : p ((k, a, c, r), q, u, d, l, 2)) : ∃ x, p x ∧ (⟨[(0, .ptr 4 0), (4, .ptr 5 0), (7, .ptr 6 0)], [(4, rdB b q), (5, .var 47 [.int .i64 0, .int .i64 0, .int .i64 0, .int .i64 0, .int .i64 0, .nils, .int .i64 0]), (6, .var 47 [.int .i64 k, .int .i64 a, .int .i64 c, .int .i64 r, .int .i64 u, .ref 7, .int .i64 d]), (7, .row 3 (.int .i64) l)], 8⟩ : VSt) = evtF b x := ⟨_, hp, rfl⟩
set_option maxHeartbeats 4000000 in
theorem devt_c (b : List Int) (p : Int) (w : Wrl) (h : rdOK b 0) (hp : 0 ≤ p ∧ p ≤ 900000) (hw : WOK w) : ∃ x : (Bool × Evt) × Int, (p ≤ x.2 ∧ x.2 ≤ p + 60 ∧ x.1.2.v.parents.length ≤ 30 ∧ (x.1.1 = true → x.1.2.v.parents = [])) ∧ ConV Tryz.prog 37 [.ptr 4 0, wrlA w] [(4, rdB b p)] (evtZ x.1.1 x.1.2) [(4, rdB b x.2)] := by
  have h7 := hw.len
  have hpl := hw.plen
  have hbd := badS_iff.1 hw.bad
  suffices hs : ∃ r hout, (∃ x : (Bool × Evt) × Int, (p ≤ x.2 ∧ x.2 ≤ p + 60 ∧ x.1.2.v.parents.length ≤ 30 ∧ (x.1.1 = true → x.1.2.v.parents = [])) ∧ r = evtZ x.1.1 x.1.2 ∧ hout = [(4, rdB b x.2)]) ∧ ConV Tryz.prog 37 [.ptr 4 0, wrlA w] [(4, rdB b p)] r hout by
    obtain ⟨r, hout, ⟨v, hv, rfl, rfl⟩, h⟩ := hs
    exact ⟨v, hv, h⟩
  refine con_ex Θ_ok Tryz.func37 rfl rfl true 1 5 rfl rfl rfl rfl (R := fun r hout => ∃ x : (Bool × Evt) × Int, (p ≤ x.2 ∧ x.2 ≤ p + 60 ∧ x.1.2.v.parents.length ≤ 30 ∧ (x.1.1 = true → x.1.2.v.parents = [])) ∧ r = evtZ x.1.1 x.1.2 ∧ hout = [(4, rdB b x.2)]) (r0 := evtZ true e0) (hout0 := [(4, rdB b p)]) (⟨((true, e0), p), ⟨by dsimp only; omega, by dsimp only; omega, by simp [e0, v0], fun _ => rfl⟩, rfl, rfl⟩) fun K hK hb1 hb2 => ?_; simp only [argsV, enc, Nat.reduceAdd]
  clear hb1 hb2
  (repeat (any_goals (first | refine stn ?_ | ((first | refine go2 fun xe hxe => ?_ | with_reducible refine cnd_d (fun hq => ?_) fun hq => ?_) <;> conv => whnf) | ((with_reducible refine cnd_i (fun hq => ?_) fun hq => ?_) <;> ((try simp only [hqs] at hq) <;> (first | omega | conv => whnf))) | ((with_reducible refine call_r ?_); (conv => whnf); (first | refine call_ex (pk_c b _ _ h (by omega) (by omega)) fun xv hxv => ?_); conv => whnf))))
  refine at_then hK [] [0, 4, 7] (evtF b) (fun x => (p ≤ x.2.1 ∧ x.2.1 ≤ p + 50 ∧ x.2.2.2.2.1.length ≤ 30)) ?_ ?_
  · (repeat (any_goals (first | refine st ?_ | ((first | refine go2 fun xe hxe => ?_ | with_reducible refine cnd_d (fun hq => ?_) fun hq => ?_) <;> conv => whnf) | ((with_reducible refine cnd_i (fun hq => ?_) fun hq => ?_) <;> ((try simp only [hqs] at hq) <;> (first | omega | conv => whnf))) | ((with_reducible refine call_r ?_); (conv => whnf); (first | refine call_ex (pk_c b _ _ h (by omega) (by omega)) fun xv hxv => ?_ | refine call_ex (ddig_c b _ h (by omega)) fun xv hxv => ?_ | refine call_ex (dmem_c b _ _ h (by omega) (by omega)) fun xv hxv => ?_); conv => whnf))))
    all_goals first
      | (refine evt_k0 ⟨?_, ?_, ?_⟩ <;> first | (dsimp only; omega) | simp; done)
      | (refine evt_k1 ⟨?_, ?_, ?_⟩ <;> first | (dsimp only; omega) | simp; done)
      | (refine evt_k2 ⟨?_, ?_, ?_⟩ <;> first | (dsimp only; omega) | simp; done)
  · rintro ⟨⟨k, a, c, r⟩, q, u, d, l, z⟩ ⟨hq1, hq2, hq3⟩
    dsimp only [evtF] at hq1 hq2 hq3 ⊢
    match z with
    | 0 =>
      have hs0 : evtS b q k a c r u d l 0 = ⟨[(0, .ptr 4 0), (4, .ptr 5 0), (7, .ptr 6 0)], [(4, rdB b q), (5, .var 47 [.int .i64 0, .int .i64 0, .int .i64 0, .int .i64 0, .int .i64 0, .nils, .int .i64 0]), (6, .var 47 [.int .i64 k, .int .i64 a, .int .i64 c, .int .i64 r, .int .i64 u, .nils, .int .i64 d])], 7⟩ := rfl
      rw [hs0]
      (repeat (any_goals (first | refine st ?_ | ((first | refine go2 fun xe hxe => ?_ | with_reducible refine cnd_d (fun hq => ?_) fun hq => ?_) <;> conv => whnf) | ((with_reducible refine cnd_i (fun hq => ?_) fun hq => ?_) <;> ((try simp only [hqs] at hq) <;> (first | omega | conv => whnf))) | ((with_reducible refine call_r ?_); (conv => whnf); (first | refine call_ex (pk_c b _ _ h (by omega) (by omega)) fun xv hxv => ?_); conv => whnf))))
      all_goals exact ⟨((true, ⟨_, _, _, ⟨_, _, [], _⟩⟩), _), ⟨by dsimp only; omega, by dsimp only; omega, by simp, fun h => by rfl⟩, rfl, rfl⟩
    | 1 =>
      have hs0 : evtS b q k a c r u d l 1 = ⟨[(0, .ptr 4 0), (4, .ptr 5 0), (7, .ptr 6 0)], [(4, rdB b q), (5, .var 47 [.int .i64 0, .int .i64 0, .int .i64 0, .int .i64 0, .int .i64 0, .nils, .int .i64 0]), (6, .var 47 [.int .i64 k, .int .i64 a, .int .i64 c, .int .i64 r, .int .i64 u, .lst (.int .i64) l, .int .i64 d])], 7⟩ := rfl
      rw [hs0]
      (repeat (any_goals (first | refine st ?_ | ((first | refine go2 fun xe hxe => ?_ | with_reducible refine cnd_d (fun hq => ?_) fun hq => ?_) <;> conv => whnf) | ((with_reducible refine cnd_i (fun hq => ?_) fun hq => ?_) <;> ((try simp only [hqs] at hq) <;> (first | omega | conv => whnf))) | ((with_reducible refine call_r ?_); (conv => whnf); (first | refine call_ex (pk_c b _ _ h (by omega) (by omega)) fun xv hxv => ?_); conv => whnf))))
      all_goals exact ⟨((false, ⟨_, _, _, ⟨_, _, l, _⟩⟩), _), ⟨by dsimp only; omega, by dsimp only; omega, by dsimp only; omega, fun h => by cases h⟩, rfl, rfl⟩
    | n + 2 =>
      have hs0 : evtS b q k a c r u d l (n + 2) = ⟨[(0, .ptr 4 0), (4, .ptr 5 0), (7, .ptr 6 0)], [(4, rdB b q), (5, .var 47 [.int .i64 0, .int .i64 0, .int .i64 0, .int .i64 0, .int .i64 0, .nils, .int .i64 0]), (6, .var 47 [.int .i64 k, .int .i64 a, .int .i64 c, .int .i64 r, .int .i64 u, .ref 7, .int .i64 d]), (7, .row 3 (.int .i64) l)], 8⟩ := rfl
      rw [hs0]
      (repeat (any_goals (first | refine st ?_ | ((first | refine go2 fun xe hxe => ?_ | with_reducible refine cnd_d (fun hq => ?_) fun hq => ?_) <;> conv => whnf) | ((with_reducible refine cnd_i (fun hq => ?_) fun hq => ?_) <;> ((try simp only [hqs] at hq) <;> (first | omega | conv => whnf))) | ((with_reducible refine call_r ?_); (conv => whnf); (first | refine call_ex (pk_c b _ _ h (by omega) (by omega)) fun xv hxv => ?_); conv => whnf))))
      all_goals exact ⟨((false, ⟨_, _, _, ⟨_, _, l, _⟩⟩), _), ⟨by dsimp only; omega, by dsimp only; omega, by dsimp only; omega, fun h => by cases h⟩, rfl, rfl⟩
end Go.Proofs.YticiffgklmjfnaaGreat.Am
namespace Go.Proofs.YticiffgklmjfnaaGreat.Am
open Go
attribute [local irreducible] Mk Need Ari Get Idx Cnd CallM CallA Opt Unch At ConV
set_option maxRecDepth 10000
theorem scpo_c (w : Wrl) (h : WOK w) : ConV Tryz.prog 42 [wrlA w] [] (.agg [.ref 4, .ref 5, .int .i64 w.bad, .ref 6, .ref 7]) [(4, .row 3 (.int .i64) w.com), (5, .row 3 (.int .i64) w.lead), (6, .row 40 (.lst .vtx) w.views), (7, .row 38 .ppl w.props)] := by
  have h7 := h.len
  have hvl := h.vlen
  have hpl := h.plen
  have hll := (leaS_iff.1 h.lead).2
  refine con_eq Θ_ok Tryz.func42 rfl rfl false 0 4 rfl rfl rfl rfl fun K hK hb1 hb2 => ?_; simp only [argsV, enc, Nat.reduceAdd]
  clear hb1 hb2
  (repeat (any_goals (first | refine st ?_ | ((first | refine go2 fun xe hxe => ?_ | with_reducible refine cnd_d (fun hq => ?_) fun hq => ?_) <;> conv => whnf) | ((with_reducible refine cnd_i (fun hq => ?_) fun hq => ?_) <;> ((try simp only [hqs] at hq) <;> (first | omega | conv => whnf))))))
  refine at_loop hK [] [1, 2, 3, 4] (fun i : Nat => ⟨[(1, .ptr 4 0), (2, .ptr 5 0), (3, .ptr 6 0), (4, .int .i64 (i : Int))], [(4, .var 27 (wrlA w).cells), (5, .var 27 wZv), (6, .var 27 [.ref 7, .ref 8, .int .i64 w.bad, .ref 9, .ref 10]), (7, .row 3 (.int .i64) w.com), (8, .row 3 (.int .i64) w.lead), (9, .row 40 (.lst .vtx) (w.views.take i)), (10, .row 38 .ppl [])], 11⟩) (fun i => i ≤ w.views.length) (fun i => w.views.length - i) 0 (by omega) rfl ?_
  intro i hi
  by_cases hlt : i < w.views.length
  · have hxe : w.views[i]? = some w.views[i] := List.getElem?_eq_getElem hlt
    have hsn : w.views.take (i + 1) = w.views.take i ++ [w.views[i]] := List.take_succ_eq_append_getElem hlt
    have hgm := List.getElem_mem hlt
    have hC := scopy_c w.views[i] (by have := h.vl _ hgm; omega) fun v hv => by have := h.par (h.vv _ hgm v hv); omega
    have hl1 : (w.views.take i).length = i := by rw [List.length_take]; omega
    generalize w.views[i] = g at *
    generalize w.views.take i = l at *
    (repeat (any_goals (first | refine st ?_ | ((first | refine go2 fun xe hxe => ?_ | with_reducible refine cnd_d (fun hq => ?_) fun hq => ?_) <;> conv => whnf) | ((with_reducible refine cnd_i (fun hq => ?_) fun hq => ?_) <;> ((try simp only [hqs] at hq) <;> (first | omega | conv => whnf))) | refine cr (hC) ?_)))
    exact ⟨i + 1, by omega, by omega, by rw [hsn]; rfl⟩
  rw [List.take_of_length_le (by omega)]
  (repeat (any_goals (first | refine st ?_ | ((first | refine go2 fun xe hxe => ?_ | with_reducible refine cnd_d (fun hq => ?_) fun hq => ?_) <;> conv => whnf) | ((with_reducible refine cnd_i (fun hq => ?_) fun hq => ?_) <;> ((try simp only [hqs] at hq) <;> (first | omega | conv => whnf))))))
  refine at_loop hK [] [1, 2, 3, 5] (fun i : Nat => ⟨[(1, .ptr 4 0), (2, .ptr 5 0), (3, .ptr 6 0), (5, .int .i64 (i : Int))], [(4, .var 27 (wrlA w).cells), (5, .var 27 wZv), (6, .var 27 [.ref 7, .ref 8, .int .i64 w.bad, .ref 9, .ref 10]), (7, .row 3 (.int .i64) w.com), (8, .row 3 (.int .i64) w.lead), (9, .row 40 (.lst .vtx) w.views), (10, .row 38 .ppl (w.props.take i))], 11⟩) (fun i => i ≤ w.props.length) (fun i => w.props.length - i) 0 (by omega) rfl ?_
  intro k hk
  by_cases hkl : k < w.props.length
  · have hxe : w.props[k]? = some w.props[k] := List.getElem?_eq_getElem hkl
    have hsn : w.props.take (k + 1) = w.props.take k ++ [w.props[k]] := List.take_succ_eq_append_getElem hkl
    have hpm := List.getElem_mem hkl
    have hC := sone_c w.props[k].v (by have := h.par (h.pv _ hpm).1; omega)
    have hm := h.mem _ hpm
    have hl1 : (w.props.take k).length = k := by rw [List.length_take]; omega
    generalize w.props[k] = p at *
    generalize w.props.take k = l at *
    (repeat (any_goals (first | refine st ?_ | ((first | refine go2 fun xe hxe => ?_ | with_reducible refine cnd_d (fun hq => ?_) fun hq => ?_) <;> conv => whnf) | ((with_reducible refine cnd_i (fun hq => ?_) fun hq => ?_) <;> ((try simp only [hqs] at hq) <;> (first | omega | conv => whnf))) | refine cr (hC) ?_)))
    exact ⟨k + 1, by omega, by omega, by rw [hsn]; rfl⟩
  · (repeat (any_goals (first | refine st ?_ | ((first | refine go2 fun xe hxe => ?_ | with_reducible refine cnd_d (fun hq => ?_) fun hq => ?_) <;> conv => whnf) | ((with_reducible refine cnd_i (fun hq => ?_) fun hq => ?_) <;> ((try simp only [hqs] at hq) <;> (first | omega | conv => whnf))))))
    rw [List.take_of_length_le (by omega)]
    exact ⟨rfl, rfl⟩
theorem evtZ_do (w : Wrl) (z : Bool) (e : Evt) (h : WOK w) (hvl : e.v.parents.length ≤ 30) (hz : z = true → e.v.parents = []) : ConV Tryz.prog 38 [wrlA w, .agg [.int .i64 e.kind, .int .i64 e.a, .int .i64 e.b, .int .i64 e.v.round, .int .i64 e.v.author, .lst (.int .i64) e.v.parents, .int .i64 e.v.digest]] [] (wrlA (sDo w e)) [] :=
  sdo_c w e h (by omega)
set_option maxHeartbeats 1000000 in
theorem dwld_c (b : List Int) (p : Int) (h : rdOK b 0) (hp : 0 ≤ p ∧ p ≤ 500000) : ∃ x : Wrl × Int, (p ≤ x.2 ∧ x.2 ≤ p + 6000 ∧ WOK x.1) ∧ ConV Tryz.prog 50 [.ptr 4 0] [(4, rdB b p)] (wrlA x.1) [(4, rdB b x.2)] := by
  obtain ⟨⟨w0, q⟩, ⟨h1, h2, h3⟩, hB⟩ := dbeg_c b p h (by omega)
  dsimp only at h1 h2 h3 hB
  obtain ⟨m, hm, hmc⟩ := pk_c b q 3 h (by omega) (by omega)
  obtain ⟨r, hr, hrc⟩ := pk_c b (q + 1) 5 h (by omega) (by omega)
  obtain ⟨r, rfl⟩ : ∃ k : Nat, (k : Int) = r := ⟨r.toNat, by omega⟩
  have hC := scalm_c w0 r h3 (by omega)
  have hco := calmTo_ok h3 r
  suffices hs : ∃ r hout, (∃ x : Wrl × Int, (p ≤ x.2 ∧ x.2 ≤ p + 6000 ∧ WOK x.1) ∧ r = wrlA x.1 ∧ hout = [(4, rdB b x.2)]) ∧ ConV Tryz.prog 50 [.ptr 4 0] [(4, rdB b p)] r hout by
    obtain ⟨r, hout, ⟨v, hv, rfl, rfl⟩, h⟩ := hs
    exact ⟨v, hv, h⟩
  refine con_ex Θ_ok Tryz.func50 rfl rfl true 1 5 rfl rfl rfl rfl (R := fun r hout => ∃ x : Wrl × Int, (p ≤ x.2 ∧ x.2 ≤ p + 6000 ∧ WOK x.1) ∧ r = wrlA x.1 ∧ hout = [(4, rdB b x.2)]) (r0 := wrlA w0) (hout0 := [(4, rdB b p)]) (⟨(w0, p), ⟨by dsimp only; omega, by dsimp only; omega, h3⟩, rfl, rfl⟩) fun K hK hb1 hb2 => ?_; simp only [argsV, enc, Nat.reduceAdd]
  clear hb1 hb2
  generalize calmTo w0 r = w1 at *
  have body : ∀ (K : Id → Prop) (c : Code) (i : Nat) (w : Wrl) (q2 : Int), True := fun _ _ _ _ _ => trivial
  by_cases hm0 : 0 < m
  · (repeat (any_goals (first | refine st ?_ | ((first | refine go2 fun xe hxe => ?_ | with_reducible refine cnd_d (fun hq => ?_) fun hq => ?_) <;> conv => whnf) | ((with_reducible refine cnd_i (fun hq => ?_) fun hq => ?_) <;> ((try simp only [hqs] at hq) <;> (first | omega | conv => whnf))) | refine cr (hmc) ?_ | refine cr (hrc) ?_ | refine cr (hC) ?_ | refine co (hB) ?_)))
    refine at_loop hK [] [0, 2, 3, 4] (fun x : Nat × Wrl × Int => ⟨[(0, .ptr 4 0), (2, .ptr 5 0), (3, .ptr 6 0), (4, .int .i64 x.1)], [(4, rdB b x.2.2), (5, .var 27 wZv), (6, .var 27 (wrlA x.2.1).cells)], 7⟩)
      (fun x => x.1 ≤ 69 ∧ WOK x.2.1 ∧ p ≤ x.2.2 ∧ x.2.2 ≤ p + 100 + 61 * x.1) (fun x => 70 - x.1) (0, w1, q + 1 + 1) ⟨by dsimp only; omega, hco, by dsimp only; omega, by dsimp only; omega⟩ rfl ?_
    rintro ⟨i, w, q2⟩ ⟨hi1, hi2, hi3, hi4⟩
    dsimp only at hi1 hi2 hi3 hi4 ⊢
    obtain ⟨n, hn, hnc⟩ := pk_c b q2 70 h (by omega) (by omega)
    obtain ⟨⟨⟨z, e⟩, q3⟩, ⟨e1, e2, e3, e4⟩, hE⟩ := devt_c b (q2 + 1) w h (by omega) hi2
    dsimp only at e1 e2 e3 e4 hE
    have hD := evtZ_do w z e hi2 e3 e4
    have hdo := sDo_ok hi2 e
    by_cases hlt : (i : Int) < n
    · cases z with
      | false =>
        have hE : ConV Tryz.prog 37 [.ptr 4 0, wrlA w] [(4, rdB b (q2 + 1))] (evtA e) [(4, rdB b q3)] := hE
        generalize sDo w e = w2 at *
        (repeat (any_goals (first | refine st ?_ | ((first | refine go2 fun xe hxe => ?_ | with_reducible refine cnd_d (fun hq => ?_) fun hq => ?_) <;> conv => whnf) | ((with_reducible refine cnd_i (fun hq => ?_) fun hq => ?_) <;> ((try simp only [hqs] at hq) <;> (first | omega | conv => whnf))) | refine cr (hnc) ?_ | refine cr (hD) ?_ | refine co (hE) ?_)))
        exact ⟨(i + 1, w2, q3), ⟨by dsimp only; omega, hdo, by dsimp only; omega, by dsimp only; omega⟩, by dsimp only; omega, rfl⟩
      | true =>
        have hE : ConV Tryz.prog 37 [.ptr 4 0, wrlA w] [(4, rdB b (q2 + 1))] (.agg [.int .i64 e.kind, .int .i64 e.a, .int .i64 e.b, .int .i64 e.v.round, .int .i64 e.v.author, .nils, .int .i64 e.v.digest]) [(4, rdB b q3)] := hE
        rw [e4 rfl] at hD
        generalize sDo w e = w2 at *
        (repeat (any_goals (first | refine st ?_ | ((first | refine go2 fun xe hxe => ?_ | with_reducible refine cnd_d (fun hq => ?_) fun hq => ?_) <;> conv => whnf) | ((with_reducible refine cnd_i (fun hq => ?_) fun hq => ?_) <;> ((try simp only [hqs] at hq) <;> (first | omega | conv => whnf))) | refine cr (hnc) ?_ | refine cr (hD) ?_ | refine co (hE) ?_)))
        exact ⟨(i + 1, w2, q3), ⟨by dsimp only; omega, hdo, by dsimp only; omega, by dsimp only; omega⟩, by dsimp only; omega, rfl⟩
    · (repeat (any_goals (first | refine st ?_ | ((first | refine go2 fun xe hxe => ?_ | with_reducible refine cnd_d (fun hq => ?_) fun hq => ?_) <;> conv => whnf) | ((with_reducible refine cnd_i (fun hq => ?_) fun hq => ?_) <;> ((try simp only [hqs] at hq) <;> (first | omega | conv => whnf))) | refine cr (hnc) ?_)))
      exact ⟨(w, q2 + 1), ⟨by dsimp only; omega, by dsimp only; omega, hi2⟩, rfl, rfl⟩
  · (repeat (any_goals (first | refine st ?_ | ((first | refine go2 fun xe hxe => ?_ | with_reducible refine cnd_d (fun hq => ?_) fun hq => ?_) <;> conv => whnf) | ((with_reducible refine cnd_i (fun hq => ?_) fun hq => ?_) <;> ((try simp only [hqs] at hq) <;> (first | omega | conv => whnf))) | refine cr (hmc) ?_ | refine co (hB) ?_)))
    refine at_loop hK [] [0, 2, 3, 4] (fun x : Nat × Wrl × Int => ⟨[(0, .ptr 4 0), (2, .ptr 5 0), (3, .ptr 6 0), (4, .int .i64 x.1)], [(4, rdB b x.2.2), (5, .var 27 wZv), (6, .var 27 (wrlA x.2.1).cells)], 7⟩)
      (fun x => x.1 ≤ 69 ∧ WOK x.2.1 ∧ p ≤ x.2.2 ∧ x.2.2 ≤ p + 100 + 61 * x.1) (fun x => 70 - x.1) (0, w0, q + 1) ⟨by dsimp only; omega, h3, by dsimp only; omega, by dsimp only; omega⟩ rfl ?_
    rintro ⟨i, w, q2⟩ ⟨hi1, hi2, hi3, hi4⟩
    dsimp only at hi1 hi2 hi3 hi4 ⊢
    obtain ⟨n, hn, hnc⟩ := pk_c b q2 70 h (by omega) (by omega)
    obtain ⟨⟨⟨z, e⟩, q3⟩, ⟨e1, e2, e3, e4⟩, hE⟩ := devt_c b (q2 + 1) w h (by omega) hi2
    dsimp only at e1 e2 e3 e4 hE
    have hD := evtZ_do w z e hi2 e3 e4
    have hdo := sDo_ok hi2 e
    by_cases hlt : (i : Int) < n
    · cases z with
      | false =>
        have hE : ConV Tryz.prog 37 [.ptr 4 0, wrlA w] [(4, rdB b (q2 + 1))] (evtA e) [(4, rdB b q3)] := hE
        generalize sDo w e = w2 at *
        (repeat (any_goals (first | refine st ?_ | ((first | refine go2 fun xe hxe => ?_ | with_reducible refine cnd_d (fun hq => ?_) fun hq => ?_) <;> conv => whnf) | ((with_reducible refine cnd_i (fun hq => ?_) fun hq => ?_) <;> ((try simp only [hqs] at hq) <;> (first | omega | conv => whnf))) | refine cr (hnc) ?_ | refine cr (hD) ?_ | refine co (hE) ?_)))
        exact ⟨(i + 1, w2, q3), ⟨by dsimp only; omega, hdo, by dsimp only; omega, by dsimp only; omega⟩, by dsimp only; omega, rfl⟩
      | true =>
        have hE : ConV Tryz.prog 37 [.ptr 4 0, wrlA w] [(4, rdB b (q2 + 1))] (.agg [.int .i64 e.kind, .int .i64 e.a, .int .i64 e.b, .int .i64 e.v.round, .int .i64 e.v.author, .nils, .int .i64 e.v.digest]) [(4, rdB b q3)] := hE
        rw [e4 rfl] at hD
        generalize sDo w e = w2 at *
        (repeat (any_goals (first | refine st ?_ | ((first | refine go2 fun xe hxe => ?_ | with_reducible refine cnd_d (fun hq => ?_) fun hq => ?_) <;> conv => whnf) | ((with_reducible refine cnd_i (fun hq => ?_) fun hq => ?_) <;> ((try simp only [hqs] at hq) <;> (first | omega | conv => whnf))) | refine cr (hnc) ?_ | refine cr (hD) ?_ | refine co (hE) ?_)))
        exact ⟨(i + 1, w2, q3), ⟨by dsimp only; omega, hdo, by dsimp only; omega, by dsimp only; omega⟩, by dsimp only; omega, rfl⟩
    · (repeat (any_goals (first | refine st ?_ | ((first | refine go2 fun xe hxe => ?_ | with_reducible refine cnd_d (fun hq => ?_) fun hq => ?_) <;> conv => whnf) | ((with_reducible refine cnd_i (fun hq => ?_) fun hq => ?_) <;> ((try simp only [hqs] at hq) <;> (first | omega | conv => whnf))) | refine cr (hnc) ?_)))
      exact ⟨(w, q2 + 1), ⟨by dsimp only; omega, by dsimp only; omega, hi2⟩, rfl, rfl⟩
def WSm (w : Wrl) : Prop := w.com.length ≤ 1000 ∧ ∀ g ∈ w.views, g.length ≤ 1000
theorem WOK.sm {w : Wrl} (h : WOK w) : WSm w := ⟨by have := h.len; omega, fun g hg => by have := h.vl g hg; omega⟩
theorem cut_mem {α : Type} {xs : List α} {lo hi : Option V} {a b : Nat} {x : α} (h : x ∈ cutL xs lo hi a b) : x ∈ xs := by
  unfold cutL at h
  split at h
  · exact h
  · exact List.mem_of_mem_take h
  · exact List.mem_of_mem_drop h
  · exact List.mem_of_mem_take (List.mem_of_mem_drop h)
theorem cut_len {α : Type} (xs : List α) (lo hi : Option V) (a b : Nat) : (cutL xs lo hi a b).length ≤ xs.length := by
  unfold cutL
  split
  · omega
  · rw [List.length_take]; omega
  · rw [List.length_drop]; omega
  · rw [List.length_drop, List.length_take]; omega
theorem wsm_cut {vs : List (List Vtx)} {lo hi : Option V} {a b : Nat} (h : ∀ g ∈ vs, g.length ≤ 1000) : ∀ g ∈ cutL vs lo hi a b, g.length ≤ 1000 := fun g hg => h g (cut_mem hg)
theorem wsm_set {vs : List (List Vtx)} {k k2 : Nat} {g0 : List Vtx} {lo hi : Option V} {a b : Nat} (h : ∀ g ∈ vs, g.length ≤ 1000) (hx : vs[k2]? = some g0) : ∀ g ∈ vs.set k (cutL g0 lo hi a b), g.length ≤ 1000 := fun g hg => by
  rcases mem_set hg with rfl | hg
  · have h1 := cut_len g0 lo hi a b
    have h2 := h g0 (List.mem_of_getElem? hx)
    omega
  · exact h g hg
theorem wrg_i {b : List Int} {p q : Int} {c l : List Int} {bd : Int} {vs : List (List Vtx)} {ps : List Ppl} (h1 : p ≤ q ∧ q ≤ p + 6100) (h2 : c.length ≤ 1000) (h3 : ∀ g ∈ vs, g.length ≤ 1000) : ∃ x : Wrl × Int, (p ≤ x.2 ∧ x.2 ≤ p + 6100 ∧ WSm x.1) ∧ V.agg [.lst (.int .i64) c, .lst (.int .i64) l, .int .i64 bd, .lst (.lst .vtx) vs, .lst .ppl ps] = wrlA x.1 ∧ ([(4, rdB b q)] : VH) = [(4, rdB b x.2)] := ⟨(⟨c, l, bd, vs, ps⟩, q), ⟨h1.1, h1.2, h2, h3⟩, rfl, rfl⟩
set_option maxHeartbeats 1000000 in
theorem dwrg_c (b : List Int) (p : Int) (h : rdOK b 0) (hp : 0 ≤ p ∧ p ≤ 400000) : ∃ x : Wrl × Int, (p ≤ x.2 ∧ x.2 ≤ p + 6100 ∧ WSm x.1) ∧ ConV Tryz.prog 51 [.ptr 4 0] [(4, rdB b p)] (wrlA x.1) [(4, rdB b x.2)] := by
  obtain ⟨⟨w, q⟩, ⟨h1, h2, h3⟩, hB⟩ := dwld_c b p h (by omega)
  dsimp only at h1 h2 h3 hB
  have hC := scpo_c w h3
  have h7 := h3.len
  have hvl := h3.vlen
  have hpl := h3.plen
  have hll := (leaS_iff.1 h3.lead).2
  have hsm := h3.sm
  suffices hs : ∃ r hout, (∃ x : Wrl × Int, (p ≤ x.2 ∧ x.2 ≤ p + 6100 ∧ WSm x.1) ∧ r = wrlA x.1 ∧ hout = [(4, rdB b x.2)]) ∧ ConV Tryz.prog 51 [.ptr 4 0] [(4, rdB b p)] r hout by
    obtain ⟨r, hout, ⟨v, hv, rfl, rfl⟩, h⟩ := hs
    exact ⟨v, hv, h⟩
  refine con_ex Θ_ok Tryz.func51 rfl rfl true 1 5 rfl rfl rfl rfl (R := fun r hout => ∃ x : Wrl × Int, (p ≤ x.2 ∧ x.2 ≤ p + 6100 ∧ WSm x.1) ∧ r = wrlA x.1 ∧ hout = [(4, rdB b x.2)]) (r0 := wrlA w) (hout0 := [(4, rdB b p)]) (⟨(w, p), ⟨by dsimp only; omega, by dsimp only; omega, hsm⟩, rfl, rfl⟩) fun K hK hb1 hb2 => ?_; simp only [argsV, enc, Nat.reduceAdd]
  clear hb1 hb2
  (repeat (any_goals (first | refine st ?_ | ((first | refine go2 fun xe hxe => ?_ | with_reducible refine cnd_d (fun hq => ?_) fun hq => ?_) <;> conv => whnf) | ((with_reducible refine cnd_i (fun hq => ?_) fun hq => ?_) <;> ((try simp only [hqs] at hq) <;> (first | omega | conv => whnf))) | refine cr (hC) ?_ | ((with_reducible refine call_r ?_); (conv => whnf); (first | refine call_ex (pk_c b _ _ h (by omega) (by omega)) fun xv hxv => ?_ | refine call_ex (ddig_c b _ h (by omega)) fun xv hxv => ?_ | refine call_ex (dmem_c b _ _ h (by omega) (by omega)) fun xv hxv => ?_); conv => whnf) | refine co (hB) ?_)))
  all_goals refine wrg_i ?_ ?_ ?_
  all_goals first | omega | (rw [List.length_set]; omega) | omega | exact hsm.2 | exact wsm_cut hsm.2 | exact wsm_set hsm.2 hxe | (exact wsm_set hsm.2 (by assumption))
end Go.Proofs.YticiffgklmjfnaaGreat.Am
namespace Go.Proofs.YticiffgklmjfnaaGreat.Am
open Go
attribute [local irreducible] Mk Need Ari Get Idx Cnd CallM CallA Opt Unch At ConV
set_option maxRecDepth 10000
def cerL (c : List Int) (ps : List Ppl) : Nat → List Int
  | 0 => []
  | n + 1 => if don c (ps.getD n p0) then cerL c ps n ++ [(n : Int)] else cerL c ps n
def cert (w : Wrl) : List Int := if wrlS w then cerL w.com w.props w.props.length else []
theorem cerL_len (c : List Int) (ps : List Ppl) : ∀ n, (cerL c ps n).length ≤ n
  | 0 => Nat.le_refl _
  | n + 1 => by
    have ih := cerL_len c ps n
    unfold cerL
    split
    · simp; omega
    · omega
theorem icer_c (w : Wrl) (hw : WSm w) : ConV Tryz.prog 19 [wrlA w] [] (.lst (.int .i64) (cert w)) [] := by
  have hV := iwV_c w fun g hg => by have := hw.2 g hg; omega
  refine con_eq Θ_ok Tryz.func19 rfl rfl true 0 4 rfl rfl rfl rfl fun K hK hb1 hb2 => ?_; simp only [argsV, enc, Nat.reduceAdd]
  clear hb1 hb2
  cases hv : wrlS w
  · have : cert w = [] := by simp [cert, hv]
    rw [this]
    rw [hv] at hV
    (repeat (any_goals (first | refine st ?_ | ((first | refine go2 fun xe hxe => ?_ | with_reducible refine cnd_d (fun hq => ?_) fun hq => ?_) <;> conv => whnf) | ((with_reducible refine cnd_i (fun hq => ?_) fun hq => ?_) <;> ((try simp only [hqs] at hq) <;> (first | omega | conv => whnf))) | refine cr (hV) ?_)))
    exact ⟨rfl, rfl⟩
  · have hok := wok_iff.1 hv
    have hce : cert w = cerL w.com w.props w.props.length := by simp [cert, hv]
    have hpl := hok.plen
    rw [hce]
    rw [hv] at hV
    (repeat (any_goals (first | refine st ?_ | ((first | refine go2 fun xe hxe => ?_ | with_reducible refine cnd_d (fun hq => ?_) fun hq => ?_) <;> conv => whnf) | ((with_reducible refine cnd_i (fun hq => ?_) fun hq => ?_) <;> ((try simp only [hqs] at hq) <;> (first | omega | conv => whnf))) | refine cr (hV) ?_)))
    refine at_loop hK [] [1, 3, 12, 13, 14] (fun i : Nat => ⟨[(1, .ptr 4 0), (3, .ref 5), (12, .lst .ppl w.props), (13, .int .i64 w.props.length), (14, .int .i64 (i : Int))], [(4, .var 27 (wrlA w).cells), (5, .row 3 (.int .i64) (cerL w.com w.props i))], 6⟩) (fun i => i ≤ w.props.length) (fun i => w.props.length - i) 0 (by simp) rfl ?_
    intro i hi
    have hll := cerL_len w.com w.props i
    have hs : cerL w.com w.props (i + 1) = if don w.com (w.props.getD i p0) then cerL w.com w.props i ++ [(i : Int)] else cerL w.com w.props i := rfl
    by_cases hlt : i < w.props.length
    · have hxe : w.props[i]? = some (w.props.getD i p0) := by rw [List.getD_eq_getElem?_getD, List.getElem?_eq_getElem hlt]; rfl
      have hC := icert_c w.com (w.props.getD i p0) hok.com (hok.pv _ (gd_mem hlt)).2
      generalize w.props.getD i p0 = p at *
      generalize cerL w.com w.props i = l at *
      cases hd : don w.com p
      · rw [hd] at hC hs
        (repeat (any_goals (first | refine st ?_ | ((first | refine go2 fun xe hxe => ?_ | with_reducible refine cnd_d (fun hq => ?_) fun hq => ?_) <;> conv => whnf) | ((with_reducible refine cnd_i (fun hq => ?_) fun hq => ?_) <;> ((try simp only [hqs] at hq) <;> (first | omega | conv => whnf))) | refine cr (hC) ?_)))
        exact ⟨i + 1, by omega, by omega, by rw [hs]; rfl⟩
      · rw [hd] at hC hs
        (repeat (any_goals (first | refine st ?_ | ((first | refine go2 fun xe hxe => ?_ | with_reducible refine cnd_d (fun hq => ?_) fun hq => ?_) <;> conv => whnf) | ((with_reducible refine cnd_i (fun hq => ?_) fun hq => ?_) <;> ((try simp only [hqs] at hq) <;> (first | omega | conv => whnf))) | refine cr (hC) ?_)))
        exact ⟨i + 1, by omega, by omega, by rw [hs]; rfl⟩
    · obtain rfl : i = w.props.length := by omega
      (repeat (any_goals (first | refine st ?_ | ((first | refine go2 fun xe hxe => ?_ | with_reducible refine cnd_d (fun hq => ?_) fun hq => ?_) <;> conv => whnf) | ((with_reducible refine cnd_i (fun hq => ?_) fun hq => ?_) <;> ((try simp only [hqs] at hq) <;> (first | omega | conv => whnf))))))
      exact ⟨rfl, rfl⟩
end Go.Proofs.YticiffgklmjfnaaGreat.Am
namespace Go.Proofs.YticiffgklmjfnaaGreat.Am
open Go
attribute [local irreducible] Mk Need Ari Get Idx Cnd CallM CallA Opt Unch At ConV
set_option maxRecDepth 10000
end Go.Proofs.YticiffgklmjfnaaGreat.Am
