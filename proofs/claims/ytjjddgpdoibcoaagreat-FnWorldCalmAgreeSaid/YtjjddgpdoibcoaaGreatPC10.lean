/- Runs: quiet rounds, copies, whole events: what the specification gives. What is drawn for new runs; the law FnWorldNew. What is drawn for runs. What is drawn for runs: whole runs, runs that are often invalid. Certified proposals: the law FnWorldCertified. Runs: the reference's WorldDo and WorldPlay; what is drawn for them. Runs: quorums meet; what is held of valid runs. Runs: what quiet periods lead to (plain laws): nothing is left to deliver, so all correct members have all that is certified. Runs: what single events leave (plain laws). Runs: events and quiet periods only add (plain laws); ev -/
import Derived.Test.YtjjddgpdoibcoaaGreatPC9
set_option linter.unusedSimpArgs false
set_option linter.unusedVariables false
namespace Go.Proofs.YtjjddgpdoibcoaaGreat.Am
open Go
attribute [local irreducible] Mk Need Ari Get Idx Cnd CallM CallA Opt Unch At ConV
set_option maxRecDepth 10000
theorem delTo_le {w : Wrl} (h : WOK w) (i : Int) : ∀ n, tsz w ≤ tsz (delTo w i n)
 | 0 => Nat.le_refl _
 | n + 1 => by
  have h1 := delTo_le h i n
  rcases sDel_cases (delTo_ok h i n) n i with ⟨-, h2⟩ | ⟨-, h2⟩
  ·simp only [delTo, h2]; exact h1
  ·simp only [delTo, h2]; omega
theorem passTo_le {w : Wrl} (h : WOK w) : ∀ k, tsz w ≤ tsz (passTo w k)
 | 0 => Nat.le_refl _
 | k + 1 => Nat.le_trans (passTo_le h k) (delTo_le (passTo_ok h k) _ _)
theorem sDel_view {w : Wrl} (h : WOK w) {m i : Int} (hb : delB w m i = true) : (sDel w m i).views[m.toNat]? = some (insV (view w m) (prop w i).v) := by
 have hg : good w m = true := by
  simp only [delB, Bool.and_eq_true] at hb
  exact hb.1
 have hl := (h.view hg).2.2
 simp [sDel, hb, List.getElem?_set, hl]
abbrev wZv : List V := [.nils, .nils, .int .i64 0, .nils, .nils]
set_option maxHeartbeats 1000000 in
theorem sspr_c (w : Wrl) (h : WOK w) : ConV Tryz.prog 23 [wrlA w] [] (wrlA (sSpr w)) [] := by
 refine con_eq Θ_ok Tryz.func23 rfl rfl true 0 4 rfl rfl rfl rfl fun K hK hb1 hb2 => ?_; simp only [argsV, enc, Nat.reduceAdd]
 clear hb1 hb2
 (repeat (any_goals (first | refine st ?_ | ((first | refine go2 fun xe hxe => ?_ | with_reducible refine cnd_d (fun hq => ?_) fun hq => ?_) <;> conv => whnf) | ((with_reducible refine cnd_i (fun hq => ?_) fun hq => ?_) <;> ((try simp only [hqs] at hq) <;> (first | omega | conv => whnf))))))
 refine at_loop hK [] [1, 2, 3] (fun x : Bool × Wrl => ⟨[(1, .ptr 4 0), (2, .ptr 5 0), (3, .bool x.1)], [(4, .var 27 (wrlA x.2).cells), (5, .var 27 wZv)], 6⟩) (fun x => WOK x.2 ∧ (x.1 = true → sSpr x.2 = sSpr w) ∧ (x.1 = false → x.2 = sSpr w)) (fun x => if x.1 = true then 1520 - tsz x.2 else 0) (true, w) ⟨h, fun _ => rfl, fun h => by cases h⟩ rfl ?_
 rintro ⟨b, x⟩ ⟨hx, hbt, hbf⟩
 dsimp only at hx hbt hbf ⊢
 cases b
 ·have := hbf rfl
  rw [← this]
  (repeat (any_goals (first | refine st ?_ | ((first | refine go2 fun xe hxe => ?_ | with_reducible refine cnd_d (fun hq => ?_) fun hq => ?_) <;> conv => whnf) | ((with_reducible refine cnd_i (fun hq => ?_) fun hq => ?_) <;> ((try simp only [hqs] at hq) <;> (first | omega | conv => whnf))))))
  exact ⟨rfl, rfl⟩
 have hbt := hbt rfl
 have hx7 := hx.len
 have hxp := hx.plen
 (repeat (any_goals (first | refine st ?_ | ((first | refine go2 fun xe hxe => ?_ | with_reducible refine cnd_d (fun hq => ?_) fun hq => ?_) <;> conv => whnf) | ((with_reducible refine cnd_i (fun hq => ?_) fun hq => ?_) <;> ((try simp only [hqs] at hq) <;> (first | omega | conv => whnf))))))
 refine at_loop hK [] [1, 2, 3, 4] (fun k : Nat => ⟨[(1, .ptr 4 0), (2, .ptr 5 0), (3, .bool (decide (tsz x < tsz (passTo x k)))), (4, .int .i64 (k : Int))], [(4, .var 27 (wrlA (passTo x k)).cells), (5, .var 27 wZv)], 6⟩) (fun k => k ≤ x.props.length) (fun k => x.props.length - k) 0 (by omega) (by simp only [passTo, Nat.lt_irrefl, decide_false]; rfl) ?_
 intro k hk
 have hpc := passTo_com x k
 have hpo := passTo_ok hx k
 have hple := passTo_le hx k
 have hps : passTo x (k + 1) = delTo (passTo x k) k (passTo x k).com.length := rfl
 by_cases hlt : k < x.props.length
 ·generalize passTo x k = y at *
  have hyl : y.props.length = x.props.length := by rw [hpc.2]
  have hyc : y.com.length = x.com.length := by rw [hpc.1]
  (repeat (any_goals (first | refine st ?_ | ((first | refine go2 fun xe hxe => ?_ | with_reducible refine cnd_d (fun hq => ?_) fun hq => ?_) <;> conv => whnf) | ((with_reducible refine cnd_i (fun hq => ?_) fun hq => ?_) <;> ((try simp only [hqs] at hq) <;> (first | omega | conv => whnf))))))
  refine at_loop hK [] [1, 2, 3, 4, 5] (fun m : Nat => ⟨[(1, .ptr 4 0), (2, .ptr 5 0), (3, .bool (decide (tsz x < tsz (delTo y k m)))), (4, .int .i64 (k : Int)), (5, .int .i64 (m : Int))], [(4, .var 27 (wrlA (delTo y k m)).cells), (5, .var 27 wZv)], 6⟩) (fun m => m ≤ y.com.length) (fun m => y.com.length - m) 0 (by omega) rfl ?_
  intro m hm
  have hdc := delTo_com y k m
  have hdo := delTo_ok hpo k m
  have hdle := delTo_le hpo k m
  have hds : delTo y k (m + 1) = sDel (delTo y k m) m k := rfl
  by_cases hml : m < y.com.length
  ·generalize delTo y k m = z at *
   have hzc : z.com.length = y.com.length := by rw [hdc.1]
   have hzv := hdo.vlen
   have hS := sdel_c z m k hdo
   have hxv : z.views[m]? = some (view z m) := by
    unfold view
    rw [Int.toNat_natCast, List.getD_eq_getElem?_getD, List.getElem?_eq_getElem (show m < z.views.length by omega)]
    rfl
   have hgl := hdo.vl _ (List.mem_of_getElem? hxv)
   have hso := sDel_ok hdo m k
   have hsc := sDel_com z m k
   have hsv := hso.vlen
   rcases sDel_cases hdo m k with ⟨e1, e2⟩ | ⟨e1, e2⟩
   ·rw [e2] at hS hds
    generalize view z m = g at *
    by_cases hmo : tsz x < tsz z
    ·rw [decide_eq_true hmo]
     (repeat (any_goals (first | refine st ?_ | ((first | refine go2 fun xe hxe => ?_ | with_reducible refine cnd_d (fun hq => ?_) fun hq => ?_) <;> conv => whnf) | ((with_reducible refine cnd_i (fun hq => ?_) fun hq => ?_) <;> ((try simp only [hqs] at hq) <;> (first | omega | conv => whnf))) | refine cr (hS) ?_)))
     exact ⟨m + 1, by omega, by omega, by rw [hds, decide_eq_true hmo]; rfl⟩
    ·rw [decide_eq_false hmo]
     (repeat (any_goals (first | refine st ?_ | ((first | refine go2 fun xe hxe => ?_ | with_reducible refine cnd_d (fun hq => ?_) fun hq => ?_) <;> conv => whnf) | ((with_reducible refine cnd_i (fun hq => ?_) fun hq => ?_) <;> ((try simp only [hqs] at hq) <;> (first | omega | conv => whnf))) | refine cr (hS) ?_)))
     exact ⟨m + 1, by omega, by omega, by rw [hds, decide_eq_false hmo, decide_eq_false (Int.lt_irrefl _)]; rfl⟩
   ·have hxv2 := sDel_view hdo e1
    rw [Int.toNat_natCast] at hxv2
    have hil := insV_len (view z m) (prop z k).v
    have hmo2 : tsz x < tsz (sDel z m k) := by omega
    generalize sDel z m k = z2 at *
    generalize insV (view z m) (prop z k).v = g2 at *
    generalize view z m = g at *
    by_cases hmo : tsz x < tsz z
    ·rw [decide_eq_true hmo]
     (repeat (any_goals (first | refine st ?_ | ((first | refine go2 fun xe hxe => ?_ | with_reducible refine cnd_d (fun hq => ?_) fun hq => ?_) <;> conv => whnf) | ((with_reducible refine cnd_i (fun hq => ?_) fun hq => ?_) <;> ((try simp only [hqs] at hq) <;> (first | omega | conv => whnf))) | refine cr (hS) ?_)))
     exact ⟨m + 1, by omega, by omega, by rw [hds, decide_eq_true hmo2]; rfl⟩
    ·rw [decide_eq_false hmo]
     have hlt2 : (g.length : Int) < g2.length := by omega
     (repeat (any_goals (first | refine st ?_ | ((first | refine go2 fun xe hxe => ?_ | with_reducible refine cnd_d (fun hq => ?_) fun hq => ?_) <;> conv => whnf) | ((with_reducible refine cnd_i (fun hq => ?_) fun hq => ?_) <;> ((try simp only [hqs] at hq) <;> (first | omega | conv => whnf))) | refine cr (hS) ?_)))
     exact ⟨m + 1, by omega, by omega, by rw [hds, decide_eq_true hmo2, decide_eq_true hlt2]; rfl⟩
  ·obtain rfl : m = y.com.length := by omega
   rw [← hps]
   have hc2 : (passTo x (k + 1)).com.length = y.com.length := by rw [hps, hdc.1]
   generalize hz : passTo x (k + 1) = z at *
   (repeat (any_goals (first | refine st ?_ | ((first | refine go2 fun xe hxe => ?_ | with_reducible refine cnd_d (fun hq => ?_) fun hq => ?_) <;> conv => whnf) | ((with_reducible refine cnd_i (fun hq => ?_) fun hq => ?_) <;> ((try simp only [hqs] at hq) <;> (first | omega | conv => whnf))))))
   exact ⟨k + 1, by omega, by omega, by rw [hz]; rfl⟩
 ·obtain rfl : k = x.props.length := by omega
  have hpa : passTo x x.props.length = pass x := rfl
  rw [hpa] at hpc hpo hple
  rw [hpa]
  clear hpa hps
  have hyl : (pass x).props.length = x.props.length := by rw [hpc.2]
  have htl := tsz_le hpo
  have htx := tsz_le hx
  have e1 : tsz x < tsz (pass x) → sSpr x = sSpr (pass x) := fun hh => by
   rw [sSpr]
   exact dif_pos ⟨hh, htl⟩
  have e2 : ¬ tsz x < tsz (pass x) → sSpr x = pass x := fun hh => by
   rw [sSpr]
   exact dif_neg fun h9 => hh h9.1
  generalize pass x = z at *
  (repeat (any_goals (first | refine st ?_ | ((first | refine go2 fun xe hxe => ?_ | with_reducible refine cnd_d (fun hq => ?_) fun hq => ?_) <;> conv => whnf) | ((with_reducible refine cnd_i (fun hq => ?_) fun hq => ?_) <;> ((try simp only [hqs] at hq) <;> (first | omega | conv => whnf))))))
  refine ⟨(decide (tsz x < tsz z), z), ⟨hpo, fun hh => ?_, fun hh => ?_⟩, ?_, rfl⟩
  ·rw [← hbt, e1 (of_decide_eq_true hh)]
  ·rw [← hbt, e2 (of_decide_eq_false hh)]
  ·dsimp only
   split
   ·rename_i hh
    have := of_decide_eq_true hh
    simp only [if_true]
    omega
   ·simp only [if_true]
    omega
theorem svts_c (w : Wrl) (h : WOK w) : ConV Tryz.prog 24 [wrlA w] [] (wrlA (sVts w)) [] := by
 have h7 := h.len
 have hpl := h.plen
 refine con_eq Θ_ok Tryz.func24 rfl rfl true 0 4 rfl rfl rfl rfl fun K hK hb1 hb2 => ?_; simp only [argsV, enc, Nat.reduceAdd]
 clear hb1 hb2
 (repeat (any_goals (first | refine st ?_ | ((first | refine go2 fun xe hxe => ?_ | with_reducible refine cnd_d (fun hq => ?_) fun hq => ?_) <;> conv => whnf) | ((with_reducible refine cnd_i (fun hq => ?_) fun hq => ?_) <;> ((try simp only [hqs] at hq) <;> (first | omega | conv => whnf))))))
 refine at_loop hK [] [1, 2, 3] (fun k : Nat => ⟨[(1, .ptr 4 0), (2, .ptr 5 0), (3, .int .i64 (k : Int))], [(4, .var 27 (wrlA (votsTo w k)).cells), (5, .var 27 wZv)], 6⟩) (fun k => k ≤ w.props.length) (fun k => w.props.length - k) 0 (by omega) rfl ?_
 intro k hk
 have hpc := votsTo_com w k
 have hpo := votsTo_ok h k
 have hps : votsTo w (k + 1) = votTo (votsTo w k) k (votsTo w k).com.length := rfl
 by_cases hlt : k < w.props.length
 ·generalize votsTo w k = y at *
  have hyc : y.com.length = w.com.length := by rw [hpc.1]
  (repeat (any_goals (first | refine st ?_ | ((first | refine go2 fun xe hxe => ?_ | with_reducible refine cnd_d (fun hq => ?_) fun hq => ?_) <;> conv => whnf) | ((with_reducible refine cnd_i (fun hq => ?_) fun hq => ?_) <;> ((try simp only [hqs] at hq) <;> (first | omega | conv => whnf))))))
  refine at_loop hK [] [1, 2, 3, 4] (fun m : Nat => ⟨[(1, .ptr 4 0), (2, .ptr 5 0), (3, .int .i64 (k : Int)), (4, .int .i64 (m : Int))], [(4, .var 27 (wrlA (votTo y k m)).cells), (5, .var 27 wZv)], 6⟩) (fun m => m ≤ y.com.length) (fun m => y.com.length - m) 0 (by omega) rfl ?_
  intro m hm
  have hdc := votTo_com y k m
  have hdo := votTo_ok hpo k m
  have hds : votTo y k (m + 1) = sVot (votTo y k m) m k := rfl
  by_cases hml : m < y.com.length
  ·generalize votTo y k m = z at *
   have hzc : z.com.length = y.com.length := by rw [hdc.1]
   have hS := svot_c z m k hdo
   generalize sVot z m k = z2 at *
   (repeat (any_goals (first | refine st ?_ | ((first | refine go2 fun xe hxe => ?_ | with_reducible refine cnd_d (fun hq => ?_) fun hq => ?_) <;> conv => whnf) | ((with_reducible refine cnd_i (fun hq => ?_) fun hq => ?_) <;> ((try simp only [hqs] at hq) <;> (first | omega | conv => whnf))) | refine cr (hS) ?_)))
   exact ⟨m + 1, by omega, by omega, by rw [hds]; rfl⟩
  ·obtain rfl : m = y.com.length := by omega
   rw [← hps]
   have hc2 : (votsTo w (k + 1)).com.length = y.com.length := by rw [hps, hdc.1]
   generalize hz : votsTo w (k + 1) = z at *
   (repeat (any_goals (first | refine st ?_ | ((first | refine go2 fun xe hxe => ?_ | with_reducible refine cnd_d (fun hq => ?_) fun hq => ?_) <;> conv => whnf) | ((with_reducible refine cnd_i (fun hq => ?_) fun hq => ?_) <;> ((try simp only [hqs] at hq) <;> (first | omega | conv => whnf))))))
   exact ⟨k + 1, by omega, by omega, by rw [hz]; rfl⟩
 ·obtain rfl : k = w.props.length := by omega
  have hpa : votsTo w w.props.length = sVts w := rfl
  rw [hpa] at hpc hpo
  rw [hpa]
  clear hpa hps
  have hyl := hpc.2
  generalize sVts w = z at *
  (repeat (any_goals (first | refine st ?_ | ((first | refine go2 fun xe hxe => ?_ | with_reducible refine cnd_d (fun hq => ?_) fun hq => ?_) <;> conv => whnf) | ((with_reducible refine cnd_i (fun hq => ?_) fun hq => ?_) <;> ((try simp only [hqs] at hq) <;> (first | omega | conv => whnf))))))
  exact ⟨rfl, rfl⟩
theorem scpy_c (w : Wrl) (h : WOK w) : ConV Tryz.prog 26 [wrlA w] [] (wrlA w) [] := by
 have h7 := h.len
 have hvl := h.vlen
 have hpl := h.plen
 have hll := (leaS_iff.1 h.lead).2
 refine con_eq Θ_ok Tryz.func26 rfl rfl true 0 4 rfl rfl rfl rfl fun K hK hb1 hb2 => ?_; simp only [argsV, enc, Nat.reduceAdd]
 clear hb1 hb2
 (repeat (any_goals (first | refine st ?_ | ((first | refine go2 fun xe hxe => ?_ | with_reducible refine cnd_d (fun hq => ?_) fun hq => ?_) <;> conv => whnf) | ((with_reducible refine cnd_i (fun hq => ?_) fun hq => ?_) <;> ((try simp only [hqs] at hq) <;> (first | omega | conv => whnf))))))
 refine at_loop hK [] [1, 2, 3, 4] (fun i : Nat => ⟨[(1, .ptr 4 0), (2, .ptr 5 0), (3, .ptr 6 0), (4, .int .i64 (i : Int))], [(4, .var 27 (wrlA w).cells), (5, .var 27 wZv), (6, .var 27 [.ref 7, .ref 8, .int .i64 w.bad, .ref 9, .ref 10]), (7, .row 3 (.int .i64) w.com), (8, .row 3 (.int .i64) w.lead), (9, .row 34 (.lst .vtx) (w.views.take i)), (10, .row 38 .ppl [])], 11⟩) (fun i => i ≤ w.views.length) (fun i => w.views.length - i) 0 (by omega) rfl ?_
 intro i hi
 by_cases hlt : i < w.views.length
 ·have hxe : w.views[i]? = some w.views[i] := List.getElem?_eq_getElem hlt
  have hsn : w.views.take (i + 1) = w.views.take i ++ [w.views[i]] := List.take_succ_eq_append_getElem hlt
  have hgm := List.getElem_mem hlt
  have hC := scopy_c w.views[i] (by have := h.vl _ hgm; omega) fun v hv => by have := h.par (h.vv _ hgm v hv); omega
  have hl1 : (w.views.take i).length = i := by rw [List.length_take]; omega
  generalize w.views[i] = g at *
  generalize w.views.take i = l at *
  (repeat (any_goals (first | refine st ?_ | ((first | refine go2 fun xe hxe => ?_ | with_reducible refine cnd_d (fun hq => ?_) fun hq => ?_) <;> conv => whnf) | ((with_reducible refine cnd_i (fun hq => ?_) fun hq => ?_) <;> ((try simp only [hqs] at hq) <;> (first | omega | conv => whnf))) | refine cr (hC) ?_)))
  exact ⟨i + 1, by omega, by omega, by rw [hsn]; rfl⟩
 rw [List.take_of_length_le (by omega)]
 (repeat (any_goals (first | refine st ?_ | ((first | refine go2 fun xe hxe => ?_ | with_reducible refine cnd_d (fun hq => ?_) fun hq => ?_) <;> conv => whnf) | ((with_reducible refine cnd_i (fun hq => ?_) fun hq => ?_) <;> ((try simp only [hqs] at hq) <;> (first | omega | conv => whnf))))))
 refine at_loop hK [] [1, 2, 3, 5] (fun i : Nat => ⟨[(1, .ptr 4 0), (2, .ptr 5 0), (3, .ptr 6 0), (5, .int .i64 (i : Int))], [(4, .var 27 (wrlA w).cells), (5, .var 27 wZv), (6, .var 27 [.ref 7, .ref 8, .int .i64 w.bad, .ref 9, .ref 10]), (7, .row 3 (.int .i64) w.com), (8, .row 3 (.int .i64) w.lead), (9, .row 34 (.lst .vtx) w.views), (10, .row 38 .ppl (w.props.take i))], 11⟩) (fun i => i ≤ w.props.length) (fun i => w.props.length - i) 0 (by omega) rfl ?_
 intro k hk
 by_cases hkl : k < w.props.length
 ·have hxe : w.props[k]? = some w.props[k] := List.getElem?_eq_getElem hkl
  have hsn : w.props.take (k + 1) = w.props.take k ++ [w.props[k]] := List.take_succ_eq_append_getElem hkl
  have hpm := List.getElem_mem hkl
  have hC := sone_c w.props[k].v (by have := h.par (h.pv _ hpm).1; omega)
  have hm := h.mem _ hpm
  have hl1 : (w.props.take k).length = k := by rw [List.length_take]; omega
  generalize w.props[k] = p at *
  generalize w.props.take k = l at *
  (repeat (any_goals (first | refine st ?_ | ((first | refine go2 fun xe hxe => ?_ | with_reducible refine cnd_d (fun hq => ?_) fun hq => ?_) <;> conv => whnf) | ((with_reducible refine cnd_i (fun hq => ?_) fun hq => ?_) <;> ((try simp only [hqs] at hq) <;> (first | omega | conv => whnf))) | refine cr (hC) ?_)))
  exact ⟨k + 1, by omega, by omega, by rw [hsn]; rfl⟩
 ·(repeat (any_goals (first | refine st ?_ | ((first | refine go2 fun xe hxe => ?_ | with_reducible refine cnd_d (fun hq => ?_) fun hq => ?_) <;> conv => whnf) | ((with_reducible refine cnd_i (fun hq => ?_) fun hq => ?_) <;> ((try simp only [hqs] at hq) <;> (first | omega | conv => whnf))))))
  rw [List.take_of_length_le (by omega)]
  exact ⟨rfl, rfl⟩
theorem wrl_com {w : Wrl} (h : WOK w) : w.com.length ≤ 2000000 := by have := h.len; omega
theorem scalm_c (w : Wrl) (r : Nat) (h : WOK w) (hr : r ≤ 12) : ConV Tryz.prog 7 [wrlA w, .int .i64 (r : Int)] [] (wrlA (calmTo w r)) [] := by
 have hV := swV_c w (wrl_com h)
 rw [wok_iff.2 h] at hV
 have hI := in_c (r : Int) 0 12
 rw [vIn_iff.2 (by omega)] at hI
 have hS := sspr_c w h
 refine con_eq Θ_ok Tryz.func7 rfl rfl true 0 4 rfl rfl rfl rfl fun K hK hb1 hb2 => ?_; simp only [argsV, enc, Nat.reduceAdd]
 clear hb1 hb2
 (repeat (any_goals (first | refine st ?_ | ((first | refine go2 fun xe hxe => ?_ | with_reducible refine cnd_d (fun hq => ?_) fun hq => ?_) <;> conv => whnf) | ((with_reducible refine cnd_i (fun hq => ?_) fun hq => ?_) <;> ((try simp only [hqs] at hq) <;> (first | omega | conv => whnf))) | refine cr (hV) ?_ | refine cr (hI) ?_ | refine cr (hS) ?_)))
 refine at_loop hK [] [1, 2, 4, 5] (fun k : Nat => ⟨[(1, .int .i64 (r : Int)), (2, .ptr 4 0), (4, .ptr 5 0), (5, .int .i64 (k : Int))], [(4, .var 27 (wrlA (calmTo w k)).cells), (5, .var 27 wZv)], 6⟩) (fun k => k ≤ r) (fun k => r - k) 0 (by omega) rfl ?_
 intro k hk
 have hco := calmTo_ok h k
 have hcs : calmTo w (k + 1) = rnd1 (prpTo (rnd1 (calmTo w k)) k (rnd1 (calmTo w k)).com.length) := rfl
 by_cases hlt : k < r
 ·generalize calmTo w k = x at *
  have h1 := svts_c x hco
  have h2 := sspr_c (sVts x) (votsTo_ok hco _)
  have hr1 : sSpr (sVts x) = rnd1 x := rfl
  have hro := rnd1_ok hco
  rw [hr1] at h2
  generalize sVts x = x1 at *
  generalize rnd1 x = y at *
  (repeat (any_goals (first | refine st ?_ | ((first | refine go2 fun xe hxe => ?_ | with_reducible refine cnd_d (fun hq => ?_) fun hq => ?_) <;> conv => whnf) | ((with_reducible refine cnd_i (fun hq => ?_) fun hq => ?_) <;> ((try simp only [hqs] at hq) <;> (first | omega | conv => whnf))) | refine cr (h1) ?_ | refine cr (h2) ?_)))
  refine at_loop hK [] [1, 2, 4, 5, 6] (fun m : Nat => ⟨[(1, .int .i64 (r : Int)), (2, .ptr 4 0), (4, .ptr 5 0), (5, .int .i64 (k : Int)), (6, .int .i64 (m : Int))], [(4, .var 27 (wrlA (prpTo y k m)).cells), (5, .var 27 wZv)], 6⟩) (fun m => m ≤ y.com.length) (fun m => y.com.length - m) 0 (by omega) rfl ?_
  intro m hm
  have hdc := prpTo_com y k m
  have hdo := prpTo_ok hro k m
  have hyl := hro.len
  have hds : prpTo y k (m + 1) = sPrp (prpTo y k m) m (7 * k + m) := rfl
  by_cases hml : m < y.com.length
  ·generalize prpTo y k m = z at *
   have hzc : z.com.length = y.com.length := by rw [hdc]
   have hP := sprp_c z m (7 * k + m) hdo
   generalize sPrp z m (7 * k + m) = z2 at *
   (repeat (any_goals (first | refine st ?_ | ((first | refine go2 fun xe hxe => ?_ | with_reducible refine cnd_d (fun hq => ?_) fun hq => ?_) <;> conv => whnf) | ((with_reducible refine cnd_i (fun hq => ?_) fun hq => ?_) <;> ((try simp only [hqs] at hq) <;> (first | omega | conv => whnf))) | refine cr (hP) ?_)))
   exact ⟨m + 1, by omega, by omega, by rw [hds]; rfl⟩
  ·obtain rfl : m = y.com.length := by omega
   have hzc : (prpTo y k y.com.length).com.length = y.com.length := by rw [hdc]
   generalize prpTo y k y.com.length = z at *
   have h3 := svts_c z hdo
   have h4 := sspr_c (sVts z) (votsTo_ok hdo _)
   have hr2 : sSpr (sVts z) = rnd1 z := rfl
   rw [hr2] at h4
   generalize sVts z = z1 at *
   generalize rnd1 z = z2 at *
   (repeat (any_goals (first | refine st ?_ | ((first | refine go2 fun xe hxe => ?_ | with_reducible refine cnd_d (fun hq => ?_) fun hq => ?_) <;> conv => whnf) | ((with_reducible refine cnd_i (fun hq => ?_) fun hq => ?_) <;> ((try simp only [hqs] at hq) <;> (first | omega | conv => whnf))) | refine cr (h3) ?_ | refine cr (h4) ?_)))
   exact ⟨k + 1, by omega, by omega, by rw [hcs]; rfl⟩
 ·obtain rfl : k = r := by omega
  have hC := scpy_c (calmTo w k) hco
  generalize calmTo w k = x at *
  (repeat (any_goals (first | refine st ?_ | ((first | refine go2 fun xe hxe => ?_ | with_reducible refine cnd_d (fun hq => ?_) fun hq => ?_) <;> conv => whnf) | ((with_reducible refine cnd_i (fun hq => ?_) fun hq => ?_) <;> ((try simp only [hqs] at hq) <;> (first | omega | conv => whnf))) | refine cr (hC) ?_)))
  exact ⟨rfl, rfl⟩
end Go.Proofs.YtjjddgpdoibcoaaGreat.Am
namespace Go.Proofs.YtjjddgpdoibcoaaGreat.Am
open Go
attribute [local irreducible] Mk Need Ari Get Idx Cnd CallM CallA Opt Unch At ConV
set_option maxRecDepth 10000
theorem rd0w {c : List Int} (h : ∀ x ∈ c, 0 ≤ x ∧ x ≤ 255) : rdOK (c.take 2000) 0 := ⟨by rw [List.length_take]; omega, fun x hx => h x (List.mem_of_mem_take hx), by omega, by omega⟩
end Go.Proofs.YtjjddgpdoibcoaaGreat.Am
namespace Go.Proofs.YtjjddgpdoibcoaaGreat.Am
open Go
attribute [local irreducible] Mk Need Ari Get Idx Cnd CallM CallA Opt Unch At ConV
set_option maxRecDepth 10000
theorem newS_bad {c l : List Int} (hc : comV c = true) (hl : leaS c l = true) : newS c l (-1) = true := by
 have : badS c (-1) = true := badS_iff.2 (.inl rfl)
 simp [newS, hc, hl, this]
theorem new_ok {c l : List Int} {b : Int} (h : newS c l b = true) : WOK (newW c l b) := wok_iff.1 (wrl_new h)
theorem dbeg_c (b : List Int) (p : Int) (h : rdOK b 0) (hp : 0 ≤ p ∧ p ≤ 900000) : ∃ x : Wrl × Int, (p ≤ x.2 ∧ x.2 ≤ p + 60 ∧ WOK x.1) ∧ ConV Tryz.prog 34 [.ptr 4 0] [(4, rdB b p)] (wrlA x.1) [(4, rdB b x.2)] := by
 obtain ⟨⟨c, q⟩, ⟨h1, h2, h3⟩, hg⟩ := dgood_c b p h (by omega)
 dsimp only at h1 h2 h3 hg
 have h7 := (comV_iff.1 h3).2
 suffices hs : ∃ r hout, (∃ x : Wrl × Int, (p ≤ x.2 ∧ x.2 ≤ p + 60 ∧ WOK x.1) ∧ r = wrlA x.1 ∧ hout = [(4, rdB b x.2)]) ∧ ConV Tryz.prog 34 [.ptr 4 0] [(4, rdB b p)] r hout by
  obtain ⟨r, hout, ⟨v, hv, rfl, rfl⟩, h⟩ := hs
  exact ⟨v, hv, h⟩
 have h0 : WOK (newW c [] (-1)) := new_ok (newS_bad h3 rfl)
 refine con_ex Θ_ok Tryz.func34 rfl rfl true 1 5 rfl rfl rfl rfl (R := fun r hout => ∃ x : Wrl × Int, (p ≤ x.2 ∧ x.2 ≤ p + 60 ∧ WOK x.1) ∧ r = wrlA x.1 ∧ hout = [(4, rdB b x.2)]) (r0 := wrlA (newW c [] (-1))) (hout0 := [(4, rdB b p)]) (⟨(newW c [] (-1), p), ⟨by dsimp only; omega, by dsimp only; omega, h0⟩, rfl, rfl⟩) fun K hK hb1 hb2 => ?_; simp only [argsV, enc, Nat.reduceAdd]
 clear hb1 hb2
 (repeat (any_goals (first | refine st ?_ | ((first | refine go2 fun xe hxe => ?_ | with_reducible refine cnd_d (fun hq => ?_) fun hq => ?_) <;> conv => whnf) | ((with_reducible refine cnd_i (fun hq => ?_) fun hq => ?_) <;> ((try simp only [hqs] at hq) <;> (first | omega | conv => whnf))) | refine co (hg) ?_)))
 refine at_loop hK [] [0, 2, 3, 4, 5] (fun i : Nat × List Int × Int => ⟨[(0, .ptr 4 0), (2, .ptr 5 0), (3, .lst (.int .i64) c), (4, .ref 6), (5, .int .i64 i.1)], [(4, rdB b i.2.2), (5, .var 27 wZv), (6, .row 3 (.int .i64) i.2.1)], 7⟩)
  (fun i => i.1 ≤ 11 ∧ i.2.1.length = i.1 ∧ i.2.2 = q + 2 * i.1 ∧ ∀ x ∈ i.2.1, 0 ≤ x ∧ x < c.length) (fun i => 12 - i.1) (0, [], q) (by simp) rfl ?_
 rintro ⟨i, l, q2⟩ ⟨hi1, hi2, hi3, hi4⟩
 dsimp only at hi1 hi2 hi3 hi4 ⊢
 have hle : leaS c l = true := leaS_iff.2 ⟨hi4, by omega⟩
 (repeat (any_goals (first | refine st ?_ | ((first | refine go2 fun xe hxe => ?_ | with_reducible refine cnd_d (fun hq => ?_) fun hq => ?_) <;> conv => whnf) | ((with_reducible refine cnd_i (fun hq => ?_) fun hq => ?_) <;> ((try simp only [hqs] at hq) <;> (first | omega | conv => whnf))) | ((with_reducible refine call_r ?_); (conv => whnf); (first | refine call_ex (pk_c b _ _ h (by omega) (by omega)) fun xv hxv => ?_); conv => whnf))))
 ·exact ⟨(i + 1, l ++ [xv], q2 + 1 + 1), ⟨by dsimp only; omega, by simp; omega, by dsimp only; omega, fun x hx => by
   rcases List.mem_append.1 hx with hx | hx
   ·exact hi4 x hx
   ·rw [List.mem_singleton.1 hx]; omega⟩, by dsimp only; omega, rfl⟩
 ·have hN := snew_c c l (xv - 1) (by omega)
  cases hn : newS c l (xv - 1)
  ·rw [hn] at hN
   simp only [Bool.false_eq_true, if_false] at hN
   have hN2 := snew_c c l (-1) (by omega)
   rw [newS_bad h3 hle] at hN2
   simp only [if_true] at hN2
   (repeat (any_goals (first | refine st ?_ | ((first | refine go2 fun xe hxe => ?_ | with_reducible refine cnd_d (fun hq => ?_) fun hq => ?_) <;> conv => whnf) | ((with_reducible refine cnd_i (fun hq => ?_) fun hq => ?_) <;> ((try simp only [hqs] at hq) <;> (first | omega | conv => whnf))) | refine cr (hN) ?_ | refine cr (hN2) ?_)))
   exact ⟨(newW c l (-1), q2 + 1 + 1), ⟨by dsimp only; omega, by dsimp only; omega, new_ok (newS_bad h3 hle)⟩, rfl, rfl⟩
  ·rw [hn] at hN
   simp only [if_true] at hN
   (repeat (any_goals (first | refine st ?_ | ((first | refine go2 fun xe hxe => ?_ | with_reducible refine cnd_d (fun hq => ?_) fun hq => ?_) <;> conv => whnf) | ((with_reducible refine cnd_i (fun hq => ?_) fun hq => ?_) <;> ((try simp only [hqs] at hq) <;> (first | omega | conv => whnf))) | refine cr (hN) ?_)))
   exact ⟨(newW c l (xv - 1), q2 + 1 + 1), ⟨by dsimp only; omega, by dsimp only; omega, new_ok hn⟩, rfl, rfl⟩
def e0 : Evt := ⟨0, 0, 0, v0⟩
abbrev evtZ (z : Bool) (e : Evt) : V := if z then .agg [.int .i64 e.kind, .int .i64 e.a, .int .i64 e.b, .int .i64 e.v.round, .int .i64 e.v.author, .nils, .int .i64 e.v.digest] else evtA e
def evtS (b : List Int) (q : Int) (k a c r u d : Int) (l : List Int) : Nat → VSt
 | 0 => ⟨[(0, .ptr 4 0), (4, .ptr 5 0), (7, .ptr 6 0)], [(4, rdB b q), (5, .var 62 [.int .i64 0, .int .i64 0, .int .i64 0, .int .i64 0, .int .i64 0, .nils, .int .i64 0]), (6, .var 62 [.int .i64 k, .int .i64 a, .int .i64 c, .int .i64 r, .int .i64 u, .nils, .int .i64 d])], 7⟩
 | 1 => ⟨[(0, .ptr 4 0), (4, .ptr 5 0), (7, .ptr 6 0)], [(4, rdB b q), (5, .var 62 [.int .i64 0, .int .i64 0, .int .i64 0, .int .i64 0, .int .i64 0, .nils, .int .i64 0]), (6, .var 62 [.int .i64 k, .int .i64 a, .int .i64 c, .int .i64 r, .int .i64 u, .lst (.int .i64) l, .int .i64 d])], 7⟩
 | _ => ⟨[(0, .ptr 4 0), (4, .ptr 5 0), (7, .ptr 6 0)], [(4, rdB b q), (5, .var 62 [.int .i64 0, .int .i64 0, .int .i64 0, .int .i64 0, .int .i64 0, .nils, .int .i64 0]), (6, .var 62 [.int .i64 k, .int .i64 a, .int .i64 c, .int .i64 r, .int .i64 u, .ref 7, .int .i64 d]), (7, .row 3 (.int .i64) l)], 8⟩
def evtF (b : List Int) (x : (Int × Int × Int × Int) × Int × Int × Int × List Int × Nat) : VSt := evtS b x.2.1 x.1.1 x.1.2.1 x.1.2.2.1 x.1.2.2.2 x.2.2.1 x.2.2.2.1 x.2.2.2.2.1 x.2.2.2.2.2
theorem evt_k0 {b : List Int} {q k a c r u d : Int} {p : (Int × Int × Int × Int) × Int × Int × Int × List Int × Nat → Prop} (hp : p ((k, a, c, r), q, u, d, [], 0)) : ∃ x, p x ∧ (⟨[(0, .ptr 4 0), (4, .ptr 5 0), (7, .ptr 6 0)], [(4, rdB b q), (5, .var 62 [.int .i64 0, .int .i64 0, .int .i64 0, .int .i64 0, .int .i64 0, .nils, .int .i64 0]), (6, .var 62 [.int .i64 k, .int .i64 a, .int .i64 c, .int .i64 r, .int .i64 u, .nils, .int .i64 d])], 7⟩ : VSt) = evtF b x := ⟨_, hp, rfl⟩
theorem evt_k1 {b : List Int} {q k a c r u d : Int} {l : List Int} {p : (Int × Int × Int × Int) × Int × Int × Int × List Int × Nat → Prop} (hp : p ((k, a, c, r), q, u, d, l, 1)) : ∃ x, p x ∧ (⟨[(0, .ptr 4 0), (4, .ptr 5 0), (7, .ptr 6 0)], [(4, rdB b q), (5, .var 62 [.int .i64 0, .int .i64 0, .int .i64 0, .int .i64 0, .int .i64 0, .nils, .int .i64 0]), (6, .var 62 [.int .i64 k, .int .i64 a, .int .i64 c, .int .i64 r, .int .i64 u, .lst (.int .i64) l, .int .i64 d])], 7⟩ : VSt) = evtF b x := ⟨_, hp, rfl⟩
theorem evt_k2 {b : List Int} {q k a c r u d : Int} {l : List Int} {p : (Int × Int × Int × Int) × Int × Int × Int × List Int × Nat → Prop} (hp : p ((k, a, c, r), q, u, d, l, 2)) : ∃ x, p x ∧ (⟨[(0, .ptr 4 0), (4, .ptr 5 0), (7, .ptr 6 0)], [(4, rdB b q), (5, .var 62 [.int .i64 0, .int .i64 0, .int .i64 0, .int .i64 0, .int .i64 0, .nils, .int .i64 0]), (6, .var 62 [.int .i64 k, .int .i64 a, .int .i64 c, .int .i64 r, .int .i64 u, .ref 7, .int .i64 d]), (7, .row 3 (.int .i64) l)], 8⟩ : VSt) = evtF b x := ⟨_, hp, rfl⟩
set_option maxHeartbeats 4000000 in
theorem devt_c (b : List Int) (p : Int) (w : Wrl) (h : rdOK b 0) (hp : 0 ≤ p ∧ p ≤ 900000) (hw : WOK w) : ∃ x : (Bool × Evt) × Int, (p ≤ x.2 ∧ x.2 ≤ p + 60 ∧ x.1.2.v.parents.length ≤ 30 ∧ (x.1.1 = true → x.1.2.v.parents = [])) ∧ ConV Tryz.prog 36 [.ptr 4 0, wrlA w] [(4, rdB b p)] (evtZ x.1.1 x.1.2) [(4, rdB b x.2)] := by
 have h7 := hw.len
 have hpl := hw.plen
 have hbd := badS_iff.1 hw.bad
 suffices hs : ∃ r hout, (∃ x : (Bool × Evt) × Int, (p ≤ x.2 ∧ x.2 ≤ p + 60 ∧ x.1.2.v.parents.length ≤ 30 ∧ (x.1.1 = true → x.1.2.v.parents = [])) ∧ r = evtZ x.1.1 x.1.2 ∧ hout = [(4, rdB b x.2)]) ∧ ConV Tryz.prog 36 [.ptr 4 0, wrlA w] [(4, rdB b p)] r hout by
  obtain ⟨r, hout, ⟨v, hv, rfl, rfl⟩, h⟩ := hs
  exact ⟨v, hv, h⟩
 refine con_ex Θ_ok Tryz.func36 rfl rfl true 1 5 rfl rfl rfl rfl (R := fun r hout => ∃ x : (Bool × Evt) × Int, (p ≤ x.2 ∧ x.2 ≤ p + 60 ∧ x.1.2.v.parents.length ≤ 30 ∧ (x.1.1 = true → x.1.2.v.parents = [])) ∧ r = evtZ x.1.1 x.1.2 ∧ hout = [(4, rdB b x.2)]) (r0 := evtZ true e0) (hout0 := [(4, rdB b p)]) (⟨((true, e0), p), ⟨by dsimp only; omega, by dsimp only; omega, by simp [e0, v0], fun _ => rfl⟩, rfl, rfl⟩) fun K hK hb1 hb2 => ?_; simp only [argsV, enc, Nat.reduceAdd]
 clear hb1 hb2
 (repeat (any_goals (first | refine stn ?_ | ((first | refine go2 fun xe hxe => ?_ | with_reducible refine cnd_d (fun hq => ?_) fun hq => ?_) <;> conv => whnf) | ((with_reducible refine cnd_i (fun hq => ?_) fun hq => ?_) <;> ((try simp only [hqs] at hq) <;> (first | omega | conv => whnf))) | ((with_reducible refine call_r ?_); (conv => whnf); (first | refine call_ex (pk_c b _ _ h (by omega) (by omega)) fun xv hxv => ?_); conv => whnf))))
 refine at_then hK [] [0, 4, 7] (evtF b) (fun x => (p ≤ x.2.1 ∧ x.2.1 ≤ p + 50 ∧ x.2.2.2.2.1.length ≤ 30)) ?_ ?_
 ·(repeat (any_goals (first | refine st ?_ | ((first | refine go2 fun xe hxe => ?_ | with_reducible refine cnd_d (fun hq => ?_) fun hq => ?_) <;> conv => whnf) | ((with_reducible refine cnd_i (fun hq => ?_) fun hq => ?_) <;> ((try simp only [hqs] at hq) <;> (first | omega | conv => whnf))) | ((with_reducible refine call_r ?_); (conv => whnf); (first | refine call_ex (pk_c b _ _ h (by omega) (by omega)) fun xv hxv => ?_ | refine call_ex (ddig_c b _ h (by omega)) fun xv hxv => ?_ | refine call_ex (dmem_c b _ _ h (by omega) (by omega)) fun xv hxv => ?_); conv => whnf))))
  all_goals first
   | (refine evt_k0 ⟨?_, ?_, ?_⟩ <;> first | (dsimp only; omega) | simp; done)
   | (refine evt_k1 ⟨?_, ?_, ?_⟩ <;> first | (dsimp only; omega) | simp; done)
   | (refine evt_k2 ⟨?_, ?_, ?_⟩ <;> first | (dsimp only; omega) | simp; done)
 ·rintro ⟨⟨k, a, c, r⟩, q, u, d, l, z⟩ ⟨hq1, hq2, hq3⟩
  dsimp only [evtF] at hq1 hq2 hq3 ⊢
  match z with
  | 0 =>
   have hs0 : evtS b q k a c r u d l 0 = ⟨[(0, .ptr 4 0), (4, .ptr 5 0), (7, .ptr 6 0)], [(4, rdB b q), (5, .var 62 [.int .i64 0, .int .i64 0, .int .i64 0, .int .i64 0, .int .i64 0, .nils, .int .i64 0]), (6, .var 62 [.int .i64 k, .int .i64 a, .int .i64 c, .int .i64 r, .int .i64 u, .nils, .int .i64 d])], 7⟩ := rfl
   rw [hs0]
   (repeat (any_goals (first | refine st ?_ | ((first | refine go2 fun xe hxe => ?_ | with_reducible refine cnd_d (fun hq => ?_) fun hq => ?_) <;> conv => whnf) | ((with_reducible refine cnd_i (fun hq => ?_) fun hq => ?_) <;> ((try simp only [hqs] at hq) <;> (first | omega | conv => whnf))) | ((with_reducible refine call_r ?_); (conv => whnf); (first | refine call_ex (pk_c b _ _ h (by omega) (by omega)) fun xv hxv => ?_); conv => whnf))))
   all_goals exact ⟨((true, ⟨_, _, _, ⟨_, _, [], _⟩⟩), _), ⟨by dsimp only; omega, by dsimp only; omega, by simp, fun h => by rfl⟩, rfl, rfl⟩
  | 1 =>
   have hs0 : evtS b q k a c r u d l 1 = ⟨[(0, .ptr 4 0), (4, .ptr 5 0), (7, .ptr 6 0)], [(4, rdB b q), (5, .var 62 [.int .i64 0, .int .i64 0, .int .i64 0, .int .i64 0, .int .i64 0, .nils, .int .i64 0]), (6, .var 62 [.int .i64 k, .int .i64 a, .int .i64 c, .int .i64 r, .int .i64 u, .lst (.int .i64) l, .int .i64 d])], 7⟩ := rfl
   rw [hs0]
   (repeat (any_goals (first | refine st ?_ | ((first | refine go2 fun xe hxe => ?_ | with_reducible refine cnd_d (fun hq => ?_) fun hq => ?_) <;> conv => whnf) | ((with_reducible refine cnd_i (fun hq => ?_) fun hq => ?_) <;> ((try simp only [hqs] at hq) <;> (first | omega | conv => whnf))) | ((with_reducible refine call_r ?_); (conv => whnf); (first | refine call_ex (pk_c b _ _ h (by omega) (by omega)) fun xv hxv => ?_); conv => whnf))))
   all_goals exact ⟨((false, ⟨_, _, _, ⟨_, _, l, _⟩⟩), _), ⟨by dsimp only; omega, by dsimp only; omega, by dsimp only; omega, fun h => by cases h⟩, rfl, rfl⟩
  | n + 2 =>
   have hs0 : evtS b q k a c r u d l (n + 2) = ⟨[(0, .ptr 4 0), (4, .ptr 5 0), (7, .ptr 6 0)], [(4, rdB b q), (5, .var 62 [.int .i64 0, .int .i64 0, .int .i64 0, .int .i64 0, .int .i64 0, .nils, .int .i64 0]), (6, .var 62 [.int .i64 k, .int .i64 a, .int .i64 c, .int .i64 r, .int .i64 u, .ref 7, .int .i64 d]), (7, .row 3 (.int .i64) l)], 8⟩ := rfl
   rw [hs0]
   (repeat (any_goals (first | refine st ?_ | ((first | refine go2 fun xe hxe => ?_ | with_reducible refine cnd_d (fun hq => ?_) fun hq => ?_) <;> conv => whnf) | ((with_reducible refine cnd_i (fun hq => ?_) fun hq => ?_) <;> ((try simp only [hqs] at hq) <;> (first | omega | conv => whnf))) | ((with_reducible refine call_r ?_); (conv => whnf); (first | refine call_ex (pk_c b _ _ h (by omega) (by omega)) fun xv hxv => ?_); conv => whnf))))
   all_goals exact ⟨((false, ⟨_, _, _, ⟨_, _, l, _⟩⟩), _), ⟨by dsimp only; omega, by dsimp only; omega, by dsimp only; omega, fun h => by cases h⟩, rfl, rfl⟩
end Go.Proofs.YtjjddgpdoibcoaaGreat.Am
namespace Go.Proofs.YtjjddgpdoibcoaaGreat.Am
open Go
attribute [local irreducible] Mk Need Ari Get Idx Cnd CallM CallA Opt Unch At ConV
set_option maxRecDepth 10000
theorem scpo_c (w : Wrl) (h : WOK w) : ConV Tryz.prog 26 [wrlA w] [] (.agg [.ref 4, .ref 5, .int .i64 w.bad, .ref 6, .ref 7]) [(4, .row 3 (.int .i64) w.com), (5, .row 3 (.int .i64) w.lead), (6, .row 34 (.lst .vtx) w.views), (7, .row 38 .ppl w.props)] := by
 have h7 := h.len
 have hvl := h.vlen
 have hpl := h.plen
 have hll := (leaS_iff.1 h.lead).2
 refine con_eq Θ_ok Tryz.func26 rfl rfl false 0 4 rfl rfl rfl rfl fun K hK hb1 hb2 => ?_; simp only [argsV, enc, Nat.reduceAdd]
 clear hb1 hb2
 (repeat (any_goals (first | refine st ?_ | ((first | refine go2 fun xe hxe => ?_ | with_reducible refine cnd_d (fun hq => ?_) fun hq => ?_) <;> conv => whnf) | ((with_reducible refine cnd_i (fun hq => ?_) fun hq => ?_) <;> ((try simp only [hqs] at hq) <;> (first | omega | conv => whnf))))))
 refine at_loop hK [] [1, 2, 3, 4] (fun i : Nat => ⟨[(1, .ptr 4 0), (2, .ptr 5 0), (3, .ptr 6 0), (4, .int .i64 (i : Int))], [(4, .var 27 (wrlA w).cells), (5, .var 27 wZv), (6, .var 27 [.ref 7, .ref 8, .int .i64 w.bad, .ref 9, .ref 10]), (7, .row 3 (.int .i64) w.com), (8, .row 3 (.int .i64) w.lead), (9, .row 34 (.lst .vtx) (w.views.take i)), (10, .row 38 .ppl [])], 11⟩) (fun i => i ≤ w.views.length) (fun i => w.views.length - i) 0 (by omega) rfl ?_
 intro i hi
 by_cases hlt : i < w.views.length
 ·have hxe : w.views[i]? = some w.views[i] := List.getElem?_eq_getElem hlt
  have hsn : w.views.take (i + 1) = w.views.take i ++ [w.views[i]] := List.take_succ_eq_append_getElem hlt
  have hgm := List.getElem_mem hlt
  have hC := scopy_c w.views[i] (by have := h.vl _ hgm; omega) fun v hv => by have := h.par (h.vv _ hgm v hv); omega
  have hl1 : (w.views.take i).length = i := by rw [List.length_take]; omega
  generalize w.views[i] = g at *
  generalize w.views.take i = l at *
  (repeat (any_goals (first | refine st ?_ | ((first | refine go2 fun xe hxe => ?_ | with_reducible refine cnd_d (fun hq => ?_) fun hq => ?_) <;> conv => whnf) | ((with_reducible refine cnd_i (fun hq => ?_) fun hq => ?_) <;> ((try simp only [hqs] at hq) <;> (first | omega | conv => whnf))) | refine cr (hC) ?_)))
  exact ⟨i + 1, by omega, by omega, by rw [hsn]; rfl⟩
 rw [List.take_of_length_le (by omega)]
 (repeat (any_goals (first | refine st ?_ | ((first | refine go2 fun xe hxe => ?_ | with_reducible refine cnd_d (fun hq => ?_) fun hq => ?_) <;> conv => whnf) | ((with_reducible refine cnd_i (fun hq => ?_) fun hq => ?_) <;> ((try simp only [hqs] at hq) <;> (first | omega | conv => whnf))))))
 refine at_loop hK [] [1, 2, 3, 5] (fun i : Nat => ⟨[(1, .ptr 4 0), (2, .ptr 5 0), (3, .ptr 6 0), (5, .int .i64 (i : Int))], [(4, .var 27 (wrlA w).cells), (5, .var 27 wZv), (6, .var 27 [.ref 7, .ref 8, .int .i64 w.bad, .ref 9, .ref 10]), (7, .row 3 (.int .i64) w.com), (8, .row 3 (.int .i64) w.lead), (9, .row 34 (.lst .vtx) w.views), (10, .row 38 .ppl (w.props.take i))], 11⟩) (fun i => i ≤ w.props.length) (fun i => w.props.length - i) 0 (by omega) rfl ?_
 intro k hk
 by_cases hkl : k < w.props.length
 ·have hxe : w.props[k]? = some w.props[k] := List.getElem?_eq_getElem hkl
  have hsn : w.props.take (k + 1) = w.props.take k ++ [w.props[k]] := List.take_succ_eq_append_getElem hkl
  have hpm := List.getElem_mem hkl
  have hC := sone_c w.props[k].v (by have := h.par (h.pv _ hpm).1; omega)
  have hm := h.mem _ hpm
  have hl1 : (w.props.take k).length = k := by rw [List.length_take]; omega
  generalize w.props[k] = p at *
  generalize w.props.take k = l at *
  (repeat (any_goals (first | refine st ?_ | ((first | refine go2 fun xe hxe => ?_ | with_reducible refine cnd_d (fun hq => ?_) fun hq => ?_) <;> conv => whnf) | ((with_reducible refine cnd_i (fun hq => ?_) fun hq => ?_) <;> ((try simp only [hqs] at hq) <;> (first | omega | conv => whnf))) | refine cr (hC) ?_)))
  exact ⟨k + 1, by omega, by omega, by rw [hsn]; rfl⟩
 ·(repeat (any_goals (first | refine st ?_ | ((first | refine go2 fun xe hxe => ?_ | with_reducible refine cnd_d (fun hq => ?_) fun hq => ?_) <;> conv => whnf) | ((with_reducible refine cnd_i (fun hq => ?_) fun hq => ?_) <;> ((try simp only [hqs] at hq) <;> (first | omega | conv => whnf))))))
  rw [List.take_of_length_le (by omega)]
  exact ⟨rfl, rfl⟩
theorem evtZ_do (w : Wrl) (z : Bool) (e : Evt) (h : WOK w) (hvl : e.v.parents.length ≤ 30) (hz : z = true → e.v.parents = []) : ConV Tryz.prog 35 [wrlA w, .agg [.int .i64 e.kind, .int .i64 e.a, .int .i64 e.b, .int .i64 e.v.round, .int .i64 e.v.author, .lst (.int .i64) e.v.parents, .int .i64 e.v.digest]] [] (wrlA (sDo w e)) [] :=
 sdo_c w e h (by omega)
set_option maxHeartbeats 1000000 in
theorem dwld_c (b : List Int) (p : Int) (h : rdOK b 0) (hp : 0 ≤ p ∧ p ≤ 500000) : ∃ x : Wrl × Int, (p ≤ x.2 ∧ x.2 ≤ p + 6000 ∧ WOK x.1) ∧ ConV Tryz.prog 13 [.ptr 4 0] [(4, rdB b p)] (wrlA x.1) [(4, rdB b x.2)] := by
 obtain ⟨⟨w0, q⟩, ⟨h1, h2, h3⟩, hB⟩ := dbeg_c b p h (by omega)
 dsimp only at h1 h2 h3 hB
 obtain ⟨m, hm, hmc⟩ := pk_c b q 3 h (by omega) (by omega)
 obtain ⟨r, hr, hrc⟩ := pk_c b (q + 1) 5 h (by omega) (by omega)
 obtain ⟨r, rfl⟩ : ∃ k : Nat, (k : Int) = r := ⟨r.toNat, by omega⟩
 have hC := scalm_c w0 r h3 (by omega)
 have hco := calmTo_ok h3 r
 suffices hs : ∃ r hout, (∃ x : Wrl × Int, (p ≤ x.2 ∧ x.2 ≤ p + 6000 ∧ WOK x.1) ∧ r = wrlA x.1 ∧ hout = [(4, rdB b x.2)]) ∧ ConV Tryz.prog 13 [.ptr 4 0] [(4, rdB b p)] r hout by
  obtain ⟨r, hout, ⟨v, hv, rfl, rfl⟩, h⟩ := hs
  exact ⟨v, hv, h⟩
 refine con_ex Θ_ok Tryz.func13 rfl rfl true 1 5 rfl rfl rfl rfl (R := fun r hout => ∃ x : Wrl × Int, (p ≤ x.2 ∧ x.2 ≤ p + 6000 ∧ WOK x.1) ∧ r = wrlA x.1 ∧ hout = [(4, rdB b x.2)]) (r0 := wrlA w0) (hout0 := [(4, rdB b p)]) (⟨(w0, p), ⟨by dsimp only; omega, by dsimp only; omega, h3⟩, rfl, rfl⟩) fun K hK hb1 hb2 => ?_; simp only [argsV, enc, Nat.reduceAdd]
 clear hb1 hb2
 generalize calmTo w0 r = w1 at *
 have body : ∀ (K : Id → Prop) (c : Code) (i : Nat) (w : Wrl) (q2 : Int), True := fun _ _ _ _ _ => trivial
 by_cases hm0 : 0 < m
 ·(repeat (any_goals (first | refine st ?_ | ((first | refine go2 fun xe hxe => ?_ | with_reducible refine cnd_d (fun hq => ?_) fun hq => ?_) <;> conv => whnf) | ((with_reducible refine cnd_i (fun hq => ?_) fun hq => ?_) <;> ((try simp only [hqs] at hq) <;> (first | omega | conv => whnf))) | refine cr (hmc) ?_ | refine cr (hrc) ?_ | refine cr (hC) ?_ | refine co (hB) ?_)))
  refine at_loop hK [] [0, 2, 3, 4] (fun x : Nat × Wrl × Int => ⟨[(0, .ptr 4 0), (2, .ptr 5 0), (3, .ptr 6 0), (4, .int .i64 x.1)], [(4, rdB b x.2.2), (5, .var 27 wZv), (6, .var 27 (wrlA x.2.1).cells)], 7⟩)
   (fun x => x.1 ≤ 69 ∧ WOK x.2.1 ∧ p ≤ x.2.2 ∧ x.2.2 ≤ p + 100 + 61 * x.1) (fun x => 70 - x.1) (0, w1, q + 1 + 1) ⟨by dsimp only; omega, hco, by dsimp only; omega, by dsimp only; omega⟩ rfl ?_
  rintro ⟨i, w, q2⟩ ⟨hi1, hi2, hi3, hi4⟩
  dsimp only at hi1 hi2 hi3 hi4 ⊢
  obtain ⟨n, hn, hnc⟩ := pk_c b q2 70 h (by omega) (by omega)
  obtain ⟨⟨⟨z, e⟩, q3⟩, ⟨e1, e2, e3, e4⟩, hE⟩ := devt_c b (q2 + 1) w h (by omega) hi2
  dsimp only at e1 e2 e3 e4 hE
  have hD := evtZ_do w z e hi2 e3 e4
  have hdo := sDo_ok hi2 e
  by_cases hlt : (i : Int) < n
  ·cases z with
   | false =>
    have hE : ConV Tryz.prog 36 [.ptr 4 0, wrlA w] [(4, rdB b (q2 + 1))] (evtA e) [(4, rdB b q3)] := hE
    generalize sDo w e = w2 at *
    (repeat (any_goals (first | refine st ?_ | ((first | refine go2 fun xe hxe => ?_ | with_reducible refine cnd_d (fun hq => ?_) fun hq => ?_) <;> conv => whnf) | ((with_reducible refine cnd_i (fun hq => ?_) fun hq => ?_) <;> ((try simp only [hqs] at hq) <;> (first | omega | conv => whnf))) | refine cr (hnc) ?_ | refine cr (hD) ?_ | refine co (hE) ?_)))
    exact ⟨(i + 1, w2, q3), ⟨by dsimp only; omega, hdo, by dsimp only; omega, by dsimp only; omega⟩, by dsimp only; omega, rfl⟩
   | true =>
    have hE : ConV Tryz.prog 36 [.ptr 4 0, wrlA w] [(4, rdB b (q2 + 1))] (.agg [.int .i64 e.kind, .int .i64 e.a, .int .i64 e.b, .int .i64 e.v.round, .int .i64 e.v.author, .nils, .int .i64 e.v.digest]) [(4, rdB b q3)] := hE
    rw [e4 rfl] at hD
    generalize sDo w e = w2 at *
    (repeat (any_goals (first | refine st ?_ | ((first | refine go2 fun xe hxe => ?_ | with_reducible refine cnd_d (fun hq => ?_) fun hq => ?_) <;> conv => whnf) | ((with_reducible refine cnd_i (fun hq => ?_) fun hq => ?_) <;> ((try simp only [hqs] at hq) <;> (first | omega | conv => whnf))) | refine cr (hnc) ?_ | refine cr (hD) ?_ | refine co (hE) ?_)))
    exact ⟨(i + 1, w2, q3), ⟨by dsimp only; omega, hdo, by dsimp only; omega, by dsimp only; omega⟩, by dsimp only; omega, rfl⟩
  ·(repeat (any_goals (first | refine st ?_ | ((first | refine go2 fun xe hxe => ?_ | with_reducible refine cnd_d (fun hq => ?_) fun hq => ?_) <;> conv => whnf) | ((with_reducible refine cnd_i (fun hq => ?_) fun hq => ?_) <;> ((try simp only [hqs] at hq) <;> (first | omega | conv => whnf))) | refine cr (hnc) ?_)))
   exact ⟨(w, q2 + 1), ⟨by dsimp only; omega, by dsimp only; omega, hi2⟩, rfl, rfl⟩
 ·(repeat (any_goals (first | refine st ?_ | ((first | refine go2 fun xe hxe => ?_ | with_reducible refine cnd_d (fun hq => ?_) fun hq => ?_) <;> conv => whnf) | ((with_reducible refine cnd_i (fun hq => ?_) fun hq => ?_) <;> ((try simp only [hqs] at hq) <;> (first | omega | conv => whnf))) | refine cr (hmc) ?_ | refine co (hB) ?_)))
  refine at_loop hK [] [0, 2, 3, 4] (fun x : Nat × Wrl × Int => ⟨[(0, .ptr 4 0), (2, .ptr 5 0), (3, .ptr 6 0), (4, .int .i64 x.1)], [(4, rdB b x.2.2), (5, .var 27 wZv), (6, .var 27 (wrlA x.2.1).cells)], 7⟩)
   (fun x => x.1 ≤ 69 ∧ WOK x.2.1 ∧ p ≤ x.2.2 ∧ x.2.2 ≤ p + 100 + 61 * x.1) (fun x => 70 - x.1) (0, w0, q + 1) ⟨by dsimp only; omega, h3, by dsimp only; omega, by dsimp only; omega⟩ rfl ?_
  rintro ⟨i, w, q2⟩ ⟨hi1, hi2, hi3, hi4⟩
  dsimp only at hi1 hi2 hi3 hi4 ⊢
  obtain ⟨n, hn, hnc⟩ := pk_c b q2 70 h (by omega) (by omega)
  obtain ⟨⟨⟨z, e⟩, q3⟩, ⟨e1, e2, e3, e4⟩, hE⟩ := devt_c b (q2 + 1) w h (by omega) hi2
  dsimp only at e1 e2 e3 e4 hE
  have hD := evtZ_do w z e hi2 e3 e4
  have hdo := sDo_ok hi2 e
  by_cases hlt : (i : Int) < n
  ·cases z with
   | false =>
    have hE : ConV Tryz.prog 36 [.ptr 4 0, wrlA w] [(4, rdB b (q2 + 1))] (evtA e) [(4, rdB b q3)] := hE
    generalize sDo w e = w2 at *
    (repeat (any_goals (first | refine st ?_ | ((first | refine go2 fun xe hxe => ?_ | with_reducible refine cnd_d (fun hq => ?_) fun hq => ?_) <;> conv => whnf) | ((with_reducible refine cnd_i (fun hq => ?_) fun hq => ?_) <;> ((try simp only [hqs] at hq) <;> (first | omega | conv => whnf))) | refine cr (hnc) ?_ | refine cr (hD) ?_ | refine co (hE) ?_)))
    exact ⟨(i + 1, w2, q3), ⟨by dsimp only; omega, hdo, by dsimp only; omega, by dsimp only; omega⟩, by dsimp only; omega, rfl⟩
   | true =>
    have hE : ConV Tryz.prog 36 [.ptr 4 0, wrlA w] [(4, rdB b (q2 + 1))] (.agg [.int .i64 e.kind, .int .i64 e.a, .int .i64 e.b, .int .i64 e.v.round, .int .i64 e.v.author, .nils, .int .i64 e.v.digest]) [(4, rdB b q3)] := hE
    rw [e4 rfl] at hD
    generalize sDo w e = w2 at *
    (repeat (any_goals (first | refine st ?_ | ((first | refine go2 fun xe hxe => ?_ | with_reducible refine cnd_d (fun hq => ?_) fun hq => ?_) <;> conv => whnf) | ((with_reducible refine cnd_i (fun hq => ?_) fun hq => ?_) <;> ((try simp only [hqs] at hq) <;> (first | omega | conv => whnf))) | refine cr (hnc) ?_ | refine cr (hD) ?_ | refine co (hE) ?_)))
    exact ⟨(i + 1, w2, q3), ⟨by dsimp only; omega, hdo, by dsimp only; omega, by dsimp only; omega⟩, by dsimp only; omega, rfl⟩
  ·(repeat (any_goals (first | refine st ?_ | ((first | refine go2 fun xe hxe => ?_ | with_reducible refine cnd_d (fun hq => ?_) fun hq => ?_) <;> conv => whnf) | ((with_reducible refine cnd_i (fun hq => ?_) fun hq => ?_) <;> ((try simp only [hqs] at hq) <;> (first | omega | conv => whnf))) | refine cr (hnc) ?_)))
   exact ⟨(w, q2 + 1), ⟨by dsimp only; omega, by dsimp only; omega, hi2⟩, rfl, rfl⟩
def WSm (w : Wrl) : Prop := w.com.length ≤ 1000 ∧ ∀ g ∈ w.views, g.length ≤ 1000
theorem WOK.sm {w : Wrl} (h : WOK w) : WSm w := ⟨by have := h.len; omega, fun g hg => by have := h.vl g hg; omega⟩
theorem cut_mem {α : Type} {xs : List α} {lo hi : Option V} {a b : Nat} {x : α} (h : x ∈ cutL xs lo hi a b) : x ∈ xs := by
 unfold cutL at h
 split at h
 ·exact h
 ·exact List.mem_of_mem_take h
 ·exact List.mem_of_mem_drop h
 ·exact List.mem_of_mem_take (List.mem_of_mem_drop h)
theorem cut_len {α : Type} (xs : List α) (lo hi : Option V) (a b : Nat) : (cutL xs lo hi a b).length ≤ xs.length := by
 unfold cutL
 split
 ·omega
 ·rw [List.length_take]; omega
 ·rw [List.length_drop]; omega
 ·rw [List.length_drop, List.length_take]; omega
theorem wsm_cut {vs : List (List Vtx)} {lo hi : Option V} {a b : Nat} (h : ∀ g ∈ vs, g.length ≤ 1000) : ∀ g ∈ cutL vs lo hi a b, g.length ≤ 1000 := fun g hg => h g (cut_mem hg)
theorem wsm_set {vs : List (List Vtx)} {k k2 : Nat} {g0 : List Vtx} {lo hi : Option V} {a b : Nat} (h : ∀ g ∈ vs, g.length ≤ 1000) (hx : vs[k2]? = some g0) : ∀ g ∈ vs.set k (cutL g0 lo hi a b), g.length ≤ 1000 := fun g hg => by
 rcases mem_set hg with rfl | hg
 ·have h1 := cut_len g0 lo hi a b
  have h2 := h g0 (List.mem_of_getElem? hx)
  omega
 ·exact h g hg
theorem wrg_i {b : List Int} {p q : Int} {c l : List Int} {bd : Int} {vs : List (List Vtx)} {ps : List Ppl} (h1 : p ≤ q ∧ q ≤ p + 6100) (h2 : c.length ≤ 1000) (h3 : ∀ g ∈ vs, g.length ≤ 1000) : ∃ x : Wrl × Int, (p ≤ x.2 ∧ x.2 ≤ p + 6100 ∧ WSm x.1) ∧ V.agg [.lst (.int .i64) c, .lst (.int .i64) l, .int .i64 bd, .lst (.lst .vtx) vs, .lst .ppl ps] = wrlA x.1 ∧ ([(4, rdB b q)] : VH) = [(4, rdB b x.2)] := ⟨(⟨c, l, bd, vs, ps⟩, q), ⟨h1.1, h1.2, h2, h3⟩, rfl, rfl⟩
set_option maxHeartbeats 1000000 in
theorem dwrg_c (b : List Int) (p : Int) (h : rdOK b 0) (hp : 0 ≤ p ∧ p ≤ 400000) : ∃ x : Wrl × Int, (p ≤ x.2 ∧ x.2 ≤ p + 6100 ∧ WSm x.1) ∧ ConV Tryz.prog 15 [.ptr 4 0] [(4, rdB b p)] (wrlA x.1) [(4, rdB b x.2)] := by
 obtain ⟨⟨w, q⟩, ⟨h1, h2, h3⟩, hB⟩ := dwld_c b p h (by omega)
 dsimp only at h1 h2 h3 hB
 have hC := scpo_c w h3
 have h7 := h3.len
 have hvl := h3.vlen
 have hpl := h3.plen
 have hll := (leaS_iff.1 h3.lead).2
 have hsm := h3.sm
 suffices hs : ∃ r hout, (∃ x : Wrl × Int, (p ≤ x.2 ∧ x.2 ≤ p + 6100 ∧ WSm x.1) ∧ r = wrlA x.1 ∧ hout = [(4, rdB b x.2)]) ∧ ConV Tryz.prog 15 [.ptr 4 0] [(4, rdB b p)] r hout by
  obtain ⟨r, hout, ⟨v, hv, rfl, rfl⟩, h⟩ := hs
  exact ⟨v, hv, h⟩
 refine con_ex Θ_ok Tryz.func15 rfl rfl true 1 5 rfl rfl rfl rfl (R := fun r hout => ∃ x : Wrl × Int, (p ≤ x.2 ∧ x.2 ≤ p + 6100 ∧ WSm x.1) ∧ r = wrlA x.1 ∧ hout = [(4, rdB b x.2)]) (r0 := wrlA w) (hout0 := [(4, rdB b p)]) (⟨(w, p), ⟨by dsimp only; omega, by dsimp only; omega, hsm⟩, rfl, rfl⟩) fun K hK hb1 hb2 => ?_; simp only [argsV, enc, Nat.reduceAdd]
 clear hb1 hb2
 (repeat (any_goals (first | refine st ?_ | ((first | refine go2 fun xe hxe => ?_ | with_reducible refine cnd_d (fun hq => ?_) fun hq => ?_) <;> conv => whnf) | ((with_reducible refine cnd_i (fun hq => ?_) fun hq => ?_) <;> ((try simp only [hqs] at hq) <;> (first | omega | conv => whnf))) | refine cr (hC) ?_ | ((with_reducible refine call_r ?_); (conv => whnf); (first | refine call_ex (pk_c b _ _ h (by omega) (by omega)) fun xv hxv => ?_ | refine call_ex (ddig_c b _ h (by omega)) fun xv hxv => ?_ | refine call_ex (dmem_c b _ _ h (by omega) (by omega)) fun xv hxv => ?_); conv => whnf) | refine co (hB) ?_)))
 all_goals refine wrg_i ?_ ?_ ?_
 all_goals first | omega | (rw [List.length_set]; omega) | omega | exact hsm.2 | exact wsm_cut hsm.2 | exact wsm_set hsm.2 hxe | (exact wsm_set hsm.2 (by assumption))
end Go.Proofs.YtjjddgpdoibcoaaGreat.Am
namespace Go.Proofs.YtjjddgpdoibcoaaGreat.Am
open Go
attribute [local irreducible] Mk Need Ari Get Idx Cnd CallM CallA Opt Unch At ConV
set_option maxRecDepth 10000
def cerL (c : List Int) (ps : List Ppl) : Nat → List Int
 | 0 => []
 | n + 1 => if don c (ps.getD n p0) then cerL c ps n ++ [(n : Int)] else cerL c ps n
def cert (w : Wrl) : List Int := if wrlS w then cerL w.com w.props w.props.length else []
theorem cerL_mem {c : List Int} {ps : List Ppl} : ∀ {n : Nat} {x : Int}, x ∈ cerL c ps n ↔ 0 ≤ x ∧ x < n ∧ don c (ps.getD x.toNat p0) = true
 | 0, x => by simp [cerL]; omega
 | n + 1, x => by
  have ih := cerL_mem (c := c) (ps := ps) (n := n) (x := x)
  unfold cerL
  split
  ·rename_i h
   rw [List.mem_append, List.mem_singleton, ih]
   constructor
   ·rintro (⟨h1, h2, h3⟩ | rfl)
    ·exact ⟨h1, by omega, h3⟩
    ·exact ⟨by omega, by omega, by rw [Int.toNat_natCast]; exact h⟩
   ·rintro ⟨h1, h2, h3⟩
    by_cases e : x = n
    ·exact .inr e
    ·exact .inl ⟨h1, by omega, h3⟩
  ·rename_i h
   rw [ih]
   constructor
   ·rintro ⟨h1, h2, h3⟩
    exact ⟨h1, by omega, h3⟩
   ·rintro ⟨h1, h2, h3⟩
    refine ⟨h1, ?_, h3⟩
    by_cases e : x = n
    ·subst e
     rw [Int.toNat_natCast] at h3
     exact absurd h3 h
    ·omega
theorem cerL_asc (c : List Int) (ps : List Ppl) : ∀ n, (cerL c ps n).Pairwise (· < ·)
 | 0 => List.Pairwise.nil
 | n + 1 => by
  have ih := cerL_asc c ps n
  unfold cerL
  split
  ·refine List.pairwise_append.2 ⟨ih, by simp, fun a ha b hb => ?_⟩
   obtain rfl := List.mem_singleton.1 hb
   exact (cerL_mem.1 ha).2.1
  ·exact ih
theorem cerL_len (c : List Int) (ps : List Ppl) : ∀ n, (cerL c ps n).length ≤ n
 | 0 => Nat.le_refl _
 | n + 1 => by
  have ih := cerL_len c ps n
  unfold cerL
  split
  ·simp; omega
  ·omega
theorem icer_c (w : Wrl) (hw : WSm w) : ConV Tryz.prog 9 [wrlA w] [] (.lst (.int .i64) (cert w)) [] := by
 have hV := iwV_c w fun g hg => by have := hw.2 g hg; omega
 refine con_eq Θ_ok Tryz.func9 rfl rfl true 0 4 rfl rfl rfl rfl fun K hK hb1 hb2 => ?_; simp only [argsV, enc, Nat.reduceAdd]
 clear hb1 hb2
 cases hv : wrlS w
 ·have : cert w = [] := by simp [cert, hv]
  rw [this]
  rw [hv] at hV
  (repeat (any_goals (first | refine st ?_ | ((first | refine go2 fun xe hxe => ?_ | with_reducible refine cnd_d (fun hq => ?_) fun hq => ?_) <;> conv => whnf) | ((with_reducible refine cnd_i (fun hq => ?_) fun hq => ?_) <;> ((try simp only [hqs] at hq) <;> (first | omega | conv => whnf))) | refine cr (hV) ?_)))
  exact ⟨rfl, rfl⟩
 ·have hok := wok_iff.1 hv
  have hce : cert w = cerL w.com w.props w.props.length := by simp [cert, hv]
  have hpl := hok.plen
  rw [hce]
  rw [hv] at hV
  (repeat (any_goals (first | refine st ?_ | ((first | refine go2 fun xe hxe => ?_ | with_reducible refine cnd_d (fun hq => ?_) fun hq => ?_) <;> conv => whnf) | ((with_reducible refine cnd_i (fun hq => ?_) fun hq => ?_) <;> ((try simp only [hqs] at hq) <;> (first | omega | conv => whnf))) | refine cr (hV) ?_)))
  refine at_loop hK [] [1, 3, 12, 13, 14] (fun i : Nat => ⟨[(1, .ptr 4 0), (3, .ref 5), (12, .lst .ppl w.props), (13, .int .i64 w.props.length), (14, .int .i64 (i : Int))], [(4, .var 27 (wrlA w).cells), (5, .row 3 (.int .i64) (cerL w.com w.props i))], 6⟩) (fun i => i ≤ w.props.length) (fun i => w.props.length - i) 0 (by simp) rfl ?_
  intro i hi
  have hll := cerL_len w.com w.props i
  have hs : cerL w.com w.props (i + 1) = if don w.com (w.props.getD i p0) then cerL w.com w.props i ++ [(i : Int)] else cerL w.com w.props i := rfl
  by_cases hlt : i < w.props.length
  ·have hxe : w.props[i]? = some (w.props.getD i p0) := by rw [List.getD_eq_getElem?_getD, List.getElem?_eq_getElem hlt]; rfl
   have hC := icert_c w.com (w.props.getD i p0) hok.com (hok.pv _ (gd_mem hlt)).2
   generalize w.props.getD i p0 = p at *
   generalize cerL w.com w.props i = l at *
   cases hd : don w.com p
   ·rw [hd] at hC hs
    (repeat (any_goals (first | refine st ?_ | ((first | refine go2 fun xe hxe => ?_ | with_reducible refine cnd_d (fun hq => ?_) fun hq => ?_) <;> conv => whnf) | ((with_reducible refine cnd_i (fun hq => ?_) fun hq => ?_) <;> ((try simp only [hqs] at hq) <;> (first | omega | conv => whnf))) | refine cr (hC) ?_)))
    exact ⟨i + 1, by omega, by omega, by rw [hs]; rfl⟩
   ·rw [hd] at hC hs
    (repeat (any_goals (first | refine st ?_ | ((first | refine go2 fun xe hxe => ?_ | with_reducible refine cnd_d (fun hq => ?_) fun hq => ?_) <;> conv => whnf) | ((with_reducible refine cnd_i (fun hq => ?_) fun hq => ?_) <;> ((try simp only [hqs] at hq) <;> (first | omega | conv => whnf))) | refine cr (hC) ?_)))
    exact ⟨i + 1, by omega, by omega, by rw [hs]; rfl⟩
  ·obtain rfl : i = w.props.length := by omega
   (repeat (any_goals (first | refine st ?_ | ((first | refine go2 fun xe hxe => ?_ | with_reducible refine cnd_d (fun hq => ?_) fun hq => ?_) <;> conv => whnf) | ((with_reducible refine cnd_i (fun hq => ?_) fun hq => ?_) <;> ((try simp only [hqs] at hq) <;> (first | omega | conv => whnf))))))
   exact ⟨rfl, rfl⟩
end Go.Proofs.YtjjddgpdoibcoaaGreat.Am
namespace Go.Proofs.YtjjddgpdoibcoaaGreat.Am
open Go
attribute [local irreducible] Mk Need Ari Get Idx Cnd CallM CallA Opt Unch At ConV
set_option maxRecDepth 10000
end Go.Proofs.YtjjddgpdoibcoaaGreat.Am
namespace Go.Proofs.YtjjddgpdoibcoaaGreat.Am
open Go
theorem fit_two {w : Wrl} (hw : WOK w) {i k : Nat} {p q : Ppl} (hk : k < i) (hp : w.props[i]? = some p) (hq : w.props[k]? = some q) (h1 : p.v.round = q.v.round) (h2 : p.v.author = q.v.author) : p.v.author = w.bad ∧ both w.bad p.members q.members = false := by
 have h := pw_get hw.fit hk hq hp
 unfold fitP at h
 rw [slt_iff.2 ⟨h1, h2⟩] at h
 have h : vEq p.v q.v = false ∧ p.v.author = w.bad ∧ both w.bad p.members q.members = false := by simpa using h
 exact h.2
theorem ins_wei {c : List Int} : ∀ {ms : List Int} {m : Int}, m ∉ ms → wei c (insM ms m) = wei c ms + c.getD m.toNat 0
 | [], m, _ => by simp [insM, wei]
 | x :: l, m, h => by
  simp only [List.mem_cons, not_or] at h
  unfold insM
  split
  ·have := ins_wei (c := c) h.2
   simp only [wei, List.map_cons, List.sum_cons] at this ⊢
   omega
  ·rw [if_neg fun e => h.1 e.symm]
   simp only [wei, List.map_cons, List.sum_cons]
   omega
theorem all_wei (c : List Int) : wei c ((List.range c.length).map fun i : Nat => (i : Int)) = tot c := by
 have : ((List.range c.length).map fun i : Nat => (i : Int)).map (fun m => c.getD m.toNat 0) = c := by
  apply List.ext_getElem?
  intro i
  simp only [List.map_map, List.getElem?_map]
  rcases Nat.lt_or_ge i c.length with h | h
  ·rw [List.getElem?_range h, List.getElem?_eq_getElem h]
   simp [List.getD_eq_getElem?_getD, List.getElem?_eq_getElem h]
  ·rw [List.getElem?_eq_none (by simpa using h), List.getElem?_eq_none h]
   rfl
 unfold wei tot
 rw [this]
theorem asc_nodup {l : List Int} (h : l.Pairwise (· < ·)) : l.Nodup := h.imp fun h => by omega
theorem two_wei {c a b : List Int} (hc : ∀ x ∈ c, 0 ≤ x) (ha : a.Pairwise (· < ·)) (hb : b.Pairwise (· < ·)) (ha1 : ∀ x ∈ a, 0 ≤ x ∧ x < c.length) (hb1 : ∀ x ∈ b, 0 ≤ x ∧ x < c.length) (hd : ∀ x ∈ a, x ∉ b) : wei c a + wei c b ≤ tot c := by
 have key : ∀ b : List Int, b.Nodup → (∀ x ∈ b, 0 ≤ x ∧ x < c.length) → (∀ x ∈ a, x ∉ b) → ∃ l : List Int, l.Pairwise (· < ·) ∧ (∀ x, x ∈ l ↔ x ∈ a ∨ x ∈ b) ∧ wei c l = wei c a + wei c b := by
  intro b
  induction b with
  | nil => exact fun _ _ _ => ⟨a, ha, fun x => by simp, by simp [wei]⟩
  | cons y b ih =>
   intro h1 h2 h3
   obtain ⟨n1, n2⟩ := List.nodup_cons.1 h1
   obtain ⟨l, l1, l2, l3⟩ := ih n2 (fun x hx => h2 x (by simp [hx])) fun x hx hb => h3 x hx (by simp [hb])
   refine ⟨insM l y, insM_asc l1, fun x => ?_, ?_⟩
   ·rw [insM_mem, l2, List.mem_cons]
    constructor
    ·rintro (h | h | h)
     ·exact .inr (.inl h)
     ·exact .inl h
     ·exact .inr (.inr h)
    ·rintro (h | h | h)
     ·exact .inr (.inl h)
     ·exact .inl h
     ·exact .inr (.inr h)
   ·rw [ins_wei (fun h => (l2 y).1 h |>.elim (fun ha => h3 y ha (by simp)) n1), l3]
    simp only [wei, List.map_cons, List.sum_cons]
    omega
 obtain ⟨l, l1, l2, l3⟩ := key b (asc_nodup hb) hb1 hd
 rw [← l3, ← all_wei]
 refine wei_le hc l1 ?_ fun x hx => ?_
 ·rw [List.pairwise_map]
  exact List.pairwise_lt_range.imp fun h => by omega
 ·have : 0 ≤ x ∧ x < c.length := ((l2 x).1 hx).elim (ha1 x) (hb1 x)
  exact List.mem_map.2 ⟨x.toNat, List.mem_range.2 (by omega), by omega⟩
theorem wei_but {c : List Int} {b : Int} : ∀ {a : List Int}, a.Nodup → wei c a = wei c (a.filter fun m => m != b) + if b ∈ a then c.getD b.toNat 0 else 0
 | [], _ => by simp [wei]
 | x :: l, h => by
  obtain ⟨h1, h2⟩ := List.nodup_cons.1 h
  have ih := wei_but (c := c) (b := b) h2
  by_cases e : x = b
  ·subst e
   rw [if_neg h1] at ih
   rw [if_pos (by simp), List.filter_cons, if_neg (by simp)]
   simp only [wei, List.map_cons, List.sum_cons] at ih ⊢
   omega
  ·rw [List.filter_cons, if_pos (by simpa using e)]
   have : (b ∈ x :: l) = (b ∈ l) := by simp [Ne.symm e]
   simp only [this]
   simp only [wei, List.map_cons, List.sum_cons] at ih ⊢
   omega
theorem quo_meet {c a b : List Int} {bad : Int} (hc : comV c = true) (hbad : badS c bad = true) (ha : mems c a = true) (hb : mems c b = true) (h1 : quo c ≤ wei c a) (h2 : quo c ≤ wei c b) : both bad a b = true := by
 cases hbo : both bad a b with
 | true => rfl
 | false =>
  exfalso
  have hno : ∀ m ∈ a, m ≠ bad → m ∉ b := fun m hm hne hmb => by
   have := both_iff.2 ⟨m, hne, hm, hmb⟩
   rw [hbo] at this
   cases this
  have a1 := mems_asc ha
  have a2 := mems_in ha
  have hp := (comV_iff.1 hc).1
  have hw := wei_but (c := c) (b := bad) (asc_nodup a1)
  have ht := two_wei (c := c) (a := a.filter fun m => m != bad) (b := b) (fun x hx => by have := hp x hx; omega) (a1.filter _) (mems_asc hb) (fun x hx => a2 x ((List.mem_filter.1 hx).1)) (mems_in hb) fun x hx => hno x ((List.mem_filter.1 hx).1) (by simpa using (List.mem_filter.1 hx).2)
  have hf := fau_bd hc
  have hle : (if bad ∈ a then c.getD bad.toNat 0 else 0) ≤ fau c := by
   split
   ·rename_i hm
    rcases badS_iff.1 hbad with h | ⟨-, h⟩
    ·have := a2 _ hm; omega
    ·exact h
   ·exact hf.1
  have hq : quo c = 2 * tot c / 3 + 1 := by
   have := tot_bd hc
   unfold quo
   rw [Int.tdiv_eq_ediv_of_nonneg (by omega)]
  omega
theorem done_slot {w : Wrl} (hw : WOK w) {i k : Nat} {p q : Ppl} (hk : k < i) (hp : w.props[i]? = some p) (hq : w.props[k]? = some q) (d1 : don w.com p = true) (d2 : don w.com q = true) (h1 : p.v.round = q.v.round) (h2 : p.v.author = q.v.author) : False := by
 have h := (fit_two hw hk hp hq h1 h2).2
 have m1 := (one_of hw (List.mem_of_getElem? hp)).2
 have m2 := (one_of hw (List.mem_of_getElem? hq)).2
 rw [quo_meet hw.com hw.bad m1 m2 (by simpa [don] using d1) (by simpa [don] using d2)] at h
 cases h
end Go.Proofs.YtjjddgpdoibcoaaGreat.Am
namespace Go.Proofs.YtjjddgpdoibcoaaGreat.Am
open Go
def still (w : Wrl) : Prop := ∀ m i : Nat, m < w.com.length → i < w.props.length → delB w m i = false
theorem sDel_le {w : Wrl} (h : WOK w) (m i : Int) : tsz w ≤ tsz (sDel w m i) := by
 rcases sDel_cases h m i with ⟨-, e⟩ | ⟨-, e⟩
 ·rw [e]; exact Nat.le_refl _
 ·omega
theorem delTo_eq {w : Wrl} (h : WOK w) (i : Int) : ∀ n : Nat, tsz (delTo w i n) ≤ tsz w → delTo w i n = w ∧ ∀ m : Nat, m < n → delB w m i = false
 | 0, _ => ⟨rfl, fun m hm => absurd hm (Nat.not_lt_zero m)⟩
 | n + 1, ht => by
  have ho := delTo_ok h i n
  have h1 := sDel_le ho n i
  have ht : tsz (sDel (delTo w i n) n i) ≤ tsz w := ht
  obtain ⟨e1, e2⟩ := delTo_eq h i n (by omega)
  show sDel (delTo w i n) n i = w ∧ _
  rw [e1] at ht ⊢
  rcases sDel_cases h n i with ⟨d1, d2⟩ | ⟨d1, d2⟩
  ·refine ⟨d2, fun m hm => ?_⟩
   rcases Nat.lt_or_ge m n with hlt | hge
   ·exact e2 m hlt
   ·obtain rfl : m = n := by omega
    exact d1
  ·omega
theorem passTo_eq {w : Wrl} (h : WOK w) : ∀ k : Nat, tsz (passTo w k) ≤ tsz w → passTo w k = w ∧ ∀ i m : Nat, i < k → m < w.com.length → delB w m i = false
 | 0, _ => ⟨rfl, fun i _ hi _ => absurd hi (Nat.not_lt_zero i)⟩
 | k + 1, ht => by
  have ho := passTo_ok h k
  have h1 := delTo_le ho k (passTo w k).com.length
  have ht : tsz (delTo (passTo w k) k (passTo w k).com.length) ≤ tsz w := ht
  obtain ⟨e1, e2⟩ := passTo_eq h k (by omega)
  show delTo (passTo w k) k (passTo w k).com.length = w ∧ _
  rw [e1] at ht ⊢
  obtain ⟨d1, d2⟩ := delTo_eq h k _ ht
  refine ⟨d1, fun i m hi hm => ?_⟩
  rcases Nat.lt_or_ge i k with hlt | hge
  ·exact e2 i m hlt hm
  ·obtain rfl : i = k := by omega
   exact d2 m hm
theorem sSpr_still : ∀ (n : Nat) {w : Wrl}, 1519 - tsz w ≤ n → WOK w → still (sSpr w) := by
 have fin : ∀ {w : Wrl}, WOK w → ¬ (tsz w < tsz (pass w) ∧ tsz (pass w) ≤ 1519) → still (pass w) := fun {w} h hn => by
  have := tsz_le (pass_ok h)
  obtain ⟨e1, e2⟩ := passTo_eq h w.props.length (show tsz (pass w) ≤ tsz w by omega)
  have e1 : pass w = w := e1
  rw [e1]
  exact fun m i hm hi => e2 i m hi hm
 intro n
 induction n with
 | zero =>
  intro w hn h
  rw [sSpr]
  split
  ·omega
  ·rename_i hh
   exact fin h hh
 | succ n ih =>
  intro w hn h
  rw [sSpr]
  split
  ·exact ih (by omega) (pass_ok h)
  ·rename_i hh
   exact fin h hh
theorem calmTo_still {w : Wrl} (h : WOK w) : ∀ r, still (calmTo w r)
 | 0 => sSpr_still _ (Nat.le_refl _) h
 | r + 1 => sSpr_still _ (Nat.le_refl _) (votsTo_ok (prpTo_ok (rnd1_ok (calmTo_ok h r)) _ _) _)
theorem vot_good {w : Wrl} (hw : WOK w) {p : Ppl} (hp : p ∈ w.props) (hd : don w.com p = true) : ∃ m : Nat, (m : Int) ∈ p.members ∧ (m : Int) ≠ w.bad ∧ m < w.com.length := by
 have hm := (one_of hw hp).2
 have hq : quo w.com ≤ wei w.com p.members := by simpa [don] using hd
 by_cases hx : ∃ m ∈ p.members, m ≠ w.bad
 ·obtain ⟨m, h1, h2⟩ := hx
  have := mems_in hm m h1
  exact ⟨m.toNat, by rw [Int.toNat_of_nonneg this.1]; exact h1, by rw [Int.toNat_of_nonneg this.1]; exact h2, by omega⟩
 ·exfalso
  have hf : p.members.filter (fun m => m != w.bad) = [] := List.filter_eq_nil_iff.2 fun m h1 h2 => hx ⟨m, h1, by simpa using h2⟩
  have h1 := wei_but (c := w.com) (b := w.bad) (asc_nodup (mems_asc hm))
  rw [hf] at h1
  have hle : (if w.bad ∈ p.members then w.com.getD w.bad.toNat 0 else 0) ≤ fau w.com := by
   have hb := fau_bd hw.com
   split
   ·rename_i h2
    rcases badS_iff.1 hw.bad with h | ⟨-, h⟩
    ·have := mems_in hm _ h2; omega
    ·exact h
   ·exact hb.1
  have hb := fau_bd hw.com
  have ht := tot_bd hw.com
  have : quo w.com = 2 * tot w.com / 3 + 1 := by
   unfold quo
   rw [Int.tdiv_eq_ediv_of_nonneg (by omega)]
  have h0 : wei w.com [] = 0 := rfl
  omega
theorem done_eq {w : Wrl} (hw : WOK w) {p q : Ppl} (hp : p ∈ w.props) (hq : q ∈ w.props) (dp : don w.com p = true) (dq : don w.com q = true) (h1 : p.v.round = q.v.round) (h2 : p.v.author = q.v.author) : p = q := by
 obtain ⟨i, hi⟩ := List.getElem?_of_mem hp
 obtain ⟨k, hk⟩ := List.getElem?_of_mem hq
 rcases Nat.lt_trichotomy i k with h | h | h
 ·exact (done_slot hw h hk hi dq dp h1.symm h2.symm).elim
 ·subst h
  rw [hi] at hk
  exact Option.some.inj hk
 ·exact (done_slot hw h hi hk dp dq h1 h2).elim
theorem view_gd {w : Wrl} (hw : WOK w) {m : Nat} (hm : m < w.com.length) : w.views.getD m [] ∈ w.views := gd_mem (by rw [hw.vlen]; exact hm)
theorem still_all {w : Wrl} (hw : WOK w) (hs : still w) : ∀ (n : Nat) (p : Ppl), p ∈ w.props → don w.com p = true → p.v.round.toNat = n → ∀ m : Nat, m < w.com.length → (m : Int) ≠ w.bad → p.v ∈ w.views.getD m [] := by
 intro n
 induction n using Nat.strongRecOn with
 | ind n ih =>
  intro p hp hd hn m hm hb
  obtain ⟨i, hi⟩ := List.getElem?_of_mem hp
  have hil := (List.getElem?_eq_some_iff.1 hi).1
  have hdel := hs m i hm hil
  have hgood : good w m = true := good_iff.2 ⟨⟨by omega, by omega⟩, hb⟩
  have hin : inP w i = true := vIn_iff.2 ⟨by omega, by omega⟩
  have hpr : prop w i = p := by unfold prop; rw [Int.toNat_natCast]; exact getD_of hi
  have hvw : view w m = w.views.getD m [] := by unfold view; rw [Int.toNat_natCast]
  unfold delB at hdel
  rw [hgood, hin, hpr, hd, hvw] at hdel
  simp only [Bool.true_and] at hdel
  obtain ⟨k, k1, k2, k3⟩ := vot_good hw hp hd
  have hkp := hw.kp p hp k (by rw [hw.vlen]; exact k3) k2 (.inr k1)
  have hpar : parOK (w.views.getD m []) p.v = true := by
   rw [parOK_iff] at hkp ⊢
   intro q hq
   obtain ⟨u, u1, u2, u3⟩ := hasV_iff.1 (hkp q hq)
   obtain ⟨p', q1, q2, rfl⟩ := hw.knw _ (view_gd hw k3) u u1
   have h0 := (vtxS_ok (one_of hw q1).1).1.1
   exact hasV_iff.2 ⟨_, ih _ (by omega) p' q1 q2 rfl m hm hb, u2, u3⟩
  rw [hpar] at hdel
  have hh : hasV (w.views.getD m []) p.v.round p.v.author = true := by
   cases h : hasV (w.views.getD m []) p.v.round p.v.author with
   | true => rfl
   | false => rw [h] at hdel; cases hdel
  obtain ⟨u, u1, u2, u3⟩ := hasV_iff.1 hh
  obtain ⟨p', q1, q2, rfl⟩ := hw.knw _ (view_gd hw hm) u u1
  rw [done_eq hw hp q1 hd q2 u2.symm u3.symm]
  exact u1
theorem gra_nodup {c : List Int} {g : List Vtx} (h : graS c g = true) : g.Nodup := by
 refine (graS_ok h).pw.imp fun {a b} hab e => ?_
 subst e
 simp only [bef, Bool.or_eq_true, Bool.and_eq_true, decide_eq_true_eq] at hab
 omega
theorem still_len {w : Wrl} (hw : WOK w) (hs : still w) {m : Nat} (hm : m < w.com.length) (hb : (m : Int) ≠ w.bad) : (w.views.getD m []).length = (cert w).length := by
 classical
 have hce : cert w = cerL w.com w.props w.props.length := by simp [cert, wok_iff.2 hw]
 have hmem := fun x => (cerL_mem (c := w.com) (ps := w.props) (n := w.props.length) (x := x))
 have hasc := cerL_asc w.com w.props w.props.length
 rw [← hce] at hmem hasc
 have hg := view_gd hw hm
 have hget : ∀ x ∈ cert w, w.props[x.toNat]? = some (w.props.getD x.toNat p0) ∧ don w.com (w.props.getD x.toNat p0) = true := fun x hx => by
  obtain ⟨a1, a2, a3⟩ := (hmem x).1 hx
  exact ⟨by rw [List.getD_eq_getElem?_getD, List.getElem?_eq_getElem (by omega)]; rfl, a3⟩
 have n1 : ((cert w).map fun x => (w.props.getD x.toNat p0).v).Nodup := by
  rw [List.Nodup, List.pairwise_map]
  refine hasc.imp_of_mem fun {x y} hx hy hxy e => ?_
  obtain ⟨x1, x2⟩ := hget x hx
  obtain ⟨y1, y2⟩ := hget y hy
  have := ((hmem x).1 hx).1
  exact done_slot hw (show x.toNat < y.toNat by omega) y1 x1 y2 x2 (by rw [e]) (by rw [e])
 have s1 : ((cert w).map fun x => (w.props.getD x.toNat p0).v) ⊆ w.views.getD m [] := fun v hv => by
  obtain ⟨x, hx, rfl⟩ := List.mem_map.1 hv
  obtain ⟨x1, x2⟩ := hget x hx
  exact still_all hw hs _ _ (List.mem_of_getElem? x1) x2 rfl m hm hb
 have s2 : w.views.getD m [] ⊆ ((cert w).map fun x => (w.props.getD x.toNat p0).v) := fun v hv => by
  obtain ⟨p, p1, p2, rfl⟩ := hw.knw _ hg v hv
  obtain ⟨i, hi⟩ := List.getElem?_of_mem p1
  have hil := (List.getElem?_eq_some_iff.1 hi).1
  have hgd : w.props.getD (i : Int).toNat p0 = p := by rw [Int.toNat_natCast]; exact getD_of hi
  exact List.mem_map.2 ⟨i, (hmem i).2 ⟨by omega, by omega, by rw [hgd]; exact p2⟩, by rw [hgd]⟩
 have l1 := nodup_len7 n1 s1
 have l2 := nodup_len7 (gra_nodup (hw.gra _ hg)) s2
 rw [List.length_map] at l1 l2
 omega
end Go.Proofs.YtjjddgpdoibcoaaGreat.Am
namespace Go.Proofs.YtjjddgpdoibcoaaGreat.Am
open Go
end Go.Proofs.YtjjddgpdoibcoaaGreat.Am
namespace Go.Proofs.YtjjddgpdoibcoaaGreat.Am
open Go
structure Grw (w u : Wrl) : Prop where
 com : u.com = w.com
 lead : u.lead = w.lead
 bad : u.bad = w.bad
 vlen : u.views.length = w.views.length
 views : ∀ m : Nat, ∀ v ∈ w.views.getD m [], v ∈ u.views.getD m []
 props : ∀ (k : Nat) (p : Ppl), w.props[k]? = some p → ∃ l, u.props[k]? = some ⟨p.v, l⟩ ∧ ∀ m ∈ p.members, m ∈ l
theorem Grw.refl (w : Wrl) : Grw w w := ⟨rfl, rfl, rfl, rfl, fun _ _ h => h, fun _ p h => ⟨p.members, h, fun _ h => h⟩⟩
theorem Grw.trans {w u x : Wrl} (h1 : Grw w u) (h2 : Grw u x) : Grw w x := by
 refine ⟨h2.com.trans h1.com, h2.lead.trans h1.lead, h2.bad.trans h1.bad, h2.vlen.trans h1.vlen, fun m v h => h2.views m v (h1.views m v h), fun k p h => ?_⟩
 obtain ⟨l, a1, a2⟩ := h1.props k p h
 obtain ⟨l2, b1, b2⟩ := h2.props k _ a1
 exact ⟨l2, b1, fun m hm => b2 m (a2 m hm)⟩
theorem Grw.plen {w u : Wrl} (h : Grw w u) : w.props.length ≤ u.props.length := by
 rcases Nat.lt_or_ge u.props.length w.props.length with hlt | hge
 ·obtain ⟨l, a1, -⟩ := h.props u.props.length _ (List.getElem?_eq_getElem hlt)
  have := (List.getElem?_eq_some_iff.1 a1).1
  omega
 ·exact hge
end Go.Proofs.YtjjddgpdoibcoaaGreat.Am
