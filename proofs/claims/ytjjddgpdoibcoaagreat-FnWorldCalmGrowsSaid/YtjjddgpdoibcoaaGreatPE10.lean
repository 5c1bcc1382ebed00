/- Runs: quiet rounds, copies, whole events: what the specification gives. What is drawn for new runs; the law FnWorldNew. What is drawn for runs. What is drawn for runs: whole runs, runs that are often invalid. Certified proposals: the law FnWorldCertified. Runs: the reference's WorldDo and WorldPlay; what is drawn for them. Runs: quorums meet; what is held of valid runs. Runs: what quiet periods lead to (plain laws): nothing is left to deliver, so all correct members have all that is certified. Runs: what single events leave (plain laws). Runs: events and quiet periods only add (plain laws); ev -/
import Derived.Test.YtjjddgpdoibcoaaGreatPE9
set_option linter.unusedSimpArgs false
set_option linter.unusedVariables false
namespace Go.Proofs.YtjjddgpdoibcoaaGreat.Am
open Go
attribute [local irreducible] Mk Need Ari Get Idx Cnd CallM CallA Opt Unch At ConV
set_option maxRecDepth 10000
theorem delTo_le {w : Wrl} (h : WOK w) (i : Int) : ∀ n, tsz w ≤ tsz (delTo w i n)
 | 0 => Nat.le_refl _
 | n + 1 => by
  have h1 := delTo_le h i n
  rcases sDel_cases (delTo_ok h i n) n i with ⟨-, h2⟩ | ⟨-, h2⟩
  ·simp only [delTo, h2]; exact h1
  ·simp only [delTo, h2]; omega
theorem passTo_le {w : Wrl} (h : WOK w) : ∀ k, tsz w ≤ tsz (passTo w k)
 | 0 => Nat.le_refl _
 | k + 1 => Nat.le_trans (passTo_le h k) (delTo_le (passTo_ok h k) _ _)
theorem sDel_view {w : Wrl} (h : WOK w) {m i : Int} (hb : delB w m i = true) : (sDel w m i).views[m.toNat]? = some (insV (view w m) (prop w i).v) := by
 have hg : good w m = true := by
  simp only [delB, Bool.and_eq_true] at hb
  exact hb.1
 have hl := (h.view hg).2.2
 simp [sDel, hb, List.getElem?_set, hl]
abbrev wZv : List V := [.nils, .nils, .int .i64 0, .nils, .nils]
set_option maxHeartbeats 1000000 in
theorem sspr_c (w : Wrl) (h : WOK w) : ConV Tryz.prog 23 [wrlA w] [] (wrlA (sSpr w)) [] := by
 refine con_eq Θ_ok Tryz.func23 rfl rfl true 0 4 rfl rfl rfl rfl fun K hK hb1 hb2 => ?_; simp only [argsV, enc, Nat.reduceAdd]
 clear hb1 hb2
 (repeat (any_goals (first | refine st ?_ | ((first | refine go2 fun xe hxe => ?_ | with_reducible refine cnd_d (fun hq => ?_) fun hq => ?_) <;> conv => whnf) | ((with_reducible refine cnd_i (fun hq => ?_) fun hq => ?_) <;> ((try simp only [hqs] at hq) <;> (first | omega | conv => whnf))))))
 refine at_loop hK [] [1, 2, 3] (fun x : Bool × Wrl => ⟨[(1, .ptr 4 0), (2, .ptr 5 0), (3, .bool x.1)], [(4, .var 27 (wrlA x.2).cells), (5, .var 27 wZv)], 6⟩) (fun x => WOK x.2 ∧ (x.1 = true → sSpr x.2 = sSpr w) ∧ (x.1 = false → x.2 = sSpr w)) (fun x => if x.1 = true then 1520 - tsz x.2 else 0) (true, w) ⟨h, fun _ => rfl, fun h => by cases h⟩ rfl ?_
 rintro ⟨b, x⟩ ⟨hx, hbt, hbf⟩
 dsimp only at hx hbt hbf ⊢
 cases b
 ·have := hbf rfl
  rw [← this]
  (repeat (any_goals (first | refine st ?_ | ((first | refine go2 fun xe hxe => ?_ | with_reducible refine cnd_d (fun hq => ?_) fun hq => ?_) <;> conv => whnf) | ((with_reducible refine cnd_i (fun hq => ?_) fun hq => ?_) <;> ((try simp only [hqs] at hq) <;> (first | omega | conv => whnf))))))
  exact ⟨rfl, rfl⟩
 have hbt := hbt rfl
 have hx7 := hx.len
 have hxp := hx.plen
 (repeat (any_goals (first | refine st ?_ | ((first | refine go2 fun xe hxe => ?_ | with_reducible refine cnd_d (fun hq => ?_) fun hq => ?_) <;> conv => whnf) | ((with_reducible refine cnd_i (fun hq => ?_) fun hq => ?_) <;> ((try simp only [hqs] at hq) <;> (first | omega | conv => whnf))))))
 refine at_loop hK [] [1, 2, 3, 4] (fun k : Nat => ⟨[(1, .ptr 4 0), (2, .ptr 5 0), (3, .bool (decide (tsz x < tsz (passTo x k)))), (4, .int .i64 (k : Int))], [(4, .var 27 (wrlA (passTo x k)).cells), (5, .var 27 wZv)], 6⟩) (fun k => k ≤ x.props.length) (fun k => x.props.length - k) 0 (by omega) (by simp only [passTo, Nat.lt_irrefl, decide_false]; rfl) ?_
 intro k hk
 have hpc := passTo_com x k
 have hpo := passTo_ok hx k
 have hple := passTo_le hx k
 have hps : passTo x (k + 1) = delTo (passTo x k) k (passTo x k).com.length := rfl
 by_cases hlt : k < x.props.length
 ·generalize passTo x k = y at *
  have hyl : y.props.length = x.props.length := by rw [hpc.2]
  have hyc : y.com.length = x.com.length := by rw [hpc.1]
  (repeat (any_goals (first | refine st ?_ | ((first | refine go2 fun xe hxe => ?_ | with_reducible refine cnd_d (fun hq => ?_) fun hq => ?_) <;> conv => whnf) | ((with_reducible refine cnd_i (fun hq => ?_) fun hq => ?_) <;> ((try simp only [hqs] at hq) <;> (first | omega | conv => whnf))))))
  refine at_loop hK [] [1, 2, 3, 4, 5] (fun m : Nat => ⟨[(1, .ptr 4 0), (2, .ptr 5 0), (3, .bool (decide (tsz x < tsz (delTo y k m)))), (4, .int .i64 (k : Int)), (5, .int .i64 (m : Int))], [(4, .var 27 (wrlA (delTo y k m)).cells), (5, .var 27 wZv)], 6⟩) (fun m => m ≤ y.com.length) (fun m => y.com.length - m) 0 (by omega) rfl ?_
  intro m hm
  have hdc := delTo_com y k m
  have hdo := delTo_ok hpo k m
  have hdle := delTo_le hpo k m
  have hds : delTo y k (m + 1) = sDel (delTo y k m) m k := rfl
  by_cases hml : m < y.com.length
  ·generalize delTo y k m = z at *
   have hzc : z.com.length = y.com.length := by rw [hdc.1]
   have hzv := hdo.vlen
   have hS := sdel_c z m k hdo
   have hxv : z.views[m]? = some (view z m) := by
    unfold view
    rw [Int.toNat_natCast, List.getD_eq_getElem?_getD, List.getElem?_eq_getElem (show m < z.views.length by omega)]
    rfl
   have hgl := hdo.vl _ (List.mem_of_getElem? hxv)
   have hso := sDel_ok hdo m k
   have hsc := sDel_com z m k
   have hsv := hso.vlen
   rcases sDel_cases hdo m k with ⟨e1, e2⟩ | ⟨e1, e2⟩
   ·rw [e2] at hS hds
    generalize view z m = g at *
    by_cases hmo : tsz x < tsz z
    ·rw [decide_eq_true hmo]
     (repeat (any_goals (first | refine st ?_ | ((first | refine go2 fun xe hxe => ?_ | with_reducible refine cnd_d (fun hq => ?_) fun hq => ?_) <;> conv => whnf) | ((with_reducible refine cnd_i (fun hq => ?_) fun hq => ?_) <;> ((try simp only [hqs] at hq) <;> (first | omega | conv => whnf))) | refine cr (hS) ?_)))
     exact ⟨m + 1, by omega, by omega, by rw [hds, decide_eq_true hmo]; rfl⟩
    ·rw [decide_eq_false hmo]
     (repeat (any_goals (first | refine st ?_ | ((first | refine go2 fun xe hxe => ?_ | with_reducible refine cnd_d (fun hq => ?_) fun hq => ?_) <;> conv => whnf) | ((with_reducible refine cnd_i (fun hq => ?_) fun hq => ?_) <;> ((try simp only [hqs] at hq) <;> (first | omega | conv => whnf))) | refine cr (hS) ?_)))
     exact ⟨m + 1, by omega, by omega, by rw [hds, decide_eq_false hmo, decide_eq_false (Int.lt_irrefl _)]; rfl⟩
   ·have hxv2 := sDel_view hdo e1
    rw [Int.toNat_natCast] at hxv2
    have hil := insV_len (view z m) (prop z k).v
    have hmo2 : tsz x < tsz (sDel z m k) := by omega
    generalize sDel z m k = z2 at *
    generalize insV (view z m) (prop z k).v = g2 at *
    generalize view z m = g at *
    by_cases hmo : tsz x < tsz z
    ·rw [decide_eq_true hmo]
     (repeat (any_goals (first | refine st ?_ | ((first | refine go2 fun xe hxe => ?_ | with_reducible refine cnd_d (fun hq => ?_) fun hq => ?_) <;> conv => whnf) | ((with_reducible refine cnd_i (fun hq => ?_) fun hq => ?_) <;> ((try simp only [hqs] at hq) <;> (first | omega | conv => whnf))) | refine cr (hS) ?_)))
     exact ⟨m + 1, by omega, by omega, by rw [hds, decide_eq_true hmo2]; rfl⟩
    ·rw [decide_eq_false hmo]
     have hlt2 : (g.length : Int) < g2.length := by omega
     (repeat (any_goals (first | refine st ?_ | ((first | refine go2 fun xe hxe => ?_ | with_reducible refine cnd_d (fun hq => ?_) fun hq => ?_) <;> conv => whnf) | ((with_reducible refine cnd_i (fun hq => ?_) fun hq => ?_) <;> ((try simp only [hqs] at hq) <;> (first | omega | conv => whnf))) | refine cr (hS) ?_)))
     exact ⟨m + 1, by omega, by omega, by rw [hds, decide_eq_true hmo2, decide_eq_true hlt2]; rfl⟩
  ·obtain rfl : m = y.com.length := by omega
   rw [← hps]
   have hc2 : (passTo x (k + 1)).com.length = y.com.length := by rw [hps, hdc.1]
   generalize hz : passTo x (k + 1) = z at *
   (repeat (any_goals (first | refine st ?_ | ((first | refine go2 fun xe hxe => ?_ | with_reducible refine cnd_d (fun hq => ?_) fun hq => ?_) <;> conv => whnf) | ((with_reducible refine cnd_i (fun hq => ?_) fun hq => ?_) <;> ((try simp only [hqs] at hq) <;> (first | omega | conv => whnf))))))
   exact ⟨k + 1, by omega, by omega, by rw [hz]; rfl⟩
 ·obtain rfl : k = x.props.length := by omega
  have hpa : passTo x x.props.length = pass x := rfl
  rw [hpa] at hpc hpo hple
  rw [hpa]
  clear hpa hps
  have hyl : (pass x).props.length = x.props.length := by rw [hpc.2]
  have htl := tsz_le hpo
  have htx := tsz_le hx
  have e1 : tsz x < tsz (pass x) → sSpr x = sSpr (pass x) := fun hh => by
   rw [sSpr]
   exact dif_pos ⟨hh, htl⟩
  have e2 : ¬ tsz x < tsz (pass x) → sSpr x = pass x := fun hh => by
   rw [sSpr]
   exact dif_neg fun h9 => hh h9.1
  generalize pass x = z at *
  (repeat (any_goals (first | refine st ?_ | ((first | refine go2 fun xe hxe => ?_ | with_reducible refine cnd_d (fun hq => ?_) fun hq => ?_) <;> conv => whnf) | ((with_reducible refine cnd_i (fun hq => ?_) fun hq => ?_) <;> ((try simp only [hqs] at hq) <;> (first | omega | conv => whnf))))))
  refine ⟨(decide (tsz x < tsz z), z), ⟨hpo, fun hh => ?_, fun hh => ?_⟩, ?_, rfl⟩
  ·rw [← hbt, e1 (of_decide_eq_true hh)]
  ·rw [← hbt, e2 (of_decide_eq_false hh)]
  ·dsimp only
   split
   ·rename_i hh
    have := of_decide_eq_true hh
    simp only [if_true]
    omega
   ·simp only [if_true]
    omega
theorem svts_c (w : Wrl) (h : WOK w) : ConV Tryz.prog 24 [wrlA w] [] (wrlA (sVts w)) [] := by
 have h7 := h.len
 have hpl := h.plen
 refine con_eq Θ_ok Tryz.func24 rfl rfl true 0 4 rfl rfl rfl rfl fun K hK hb1 hb2 => ?_; simp only [argsV, enc, Nat.reduceAdd]
 clear hb1 hb2
 (repeat (any_goals (first | refine st ?_ | ((first | refine go2 fun xe hxe => ?_ | with_reducible refine cnd_d (fun hq => ?_) fun hq => ?_) <;> conv => whnf) | ((with_reducible refine cnd_i (fun hq => ?_) fun hq => ?_) <;> ((try simp only [hqs] at hq) <;> (first | omega | conv => whnf))))))
 refine at_loop hK [] [1, 2, 3] (fun k : Nat => ⟨[(1, .ptr 4 0), (2, .ptr 5 0), (3, .int .i64 (k : Int))], [(4, .var 27 (wrlA (votsTo w k)).cells), (5, .var 27 wZv)], 6⟩) (fun k => k ≤ w.props.length) (fun k => w.props.length - k) 0 (by omega) rfl ?_
 intro k hk
 have hpc := votsTo_com w k
 have hpo := votsTo_ok h k
 have hps : votsTo w (k + 1) = votTo (votsTo w k) k (votsTo w k).com.length := rfl
 by_cases hlt : k < w.props.length
 ·generalize votsTo w k = y at *
  have hyc : y.com.length = w.com.length := by rw [hpc.1]
  (repeat (any_goals (first | refine st ?_ | ((first | refine go2 fun xe hxe => ?_ | with_reducible refine cnd_d (fun hq => ?_) fun hq => ?_) <;> conv => whnf) | ((with_reducible refine cnd_i (fun hq => ?_) fun hq => ?_) <;> ((try simp only [hqs] at hq) <;> (first | omega | conv => whnf))))))
  refine at_loop hK [] [1, 2, 3, 4] (fun m : Nat => ⟨[(1, .ptr 4 0), (2, .ptr 5 0), (3, .int .i64 (k : Int)), (4, .int .i64 (m : Int))], [(4, .var 27 (wrlA (votTo y k m)).cells), (5, .var 27 wZv)], 6⟩) (fun m => m ≤ y.com.length) (fun m => y.com.length - m) 0 (by omega) rfl ?_
  intro m hm
  have hdc := votTo_com y k m
  have hdo := votTo_ok hpo k m
  have hds : votTo y k (m + 1) = sVot (votTo y k m) m k := rfl
  by_cases hml : m < y.com.length
  ·generalize votTo y k m = z at *
   have hzc : z.com.length = y.com.length := by rw [hdc.1]
   have hS := svot_c z m k hdo
   generalize sVot z m k = z2 at *
   (repeat (any_goals (first | refine st ?_ | ((first | refine go2 fun xe hxe => ?_ | with_reducible refine cnd_d (fun hq => ?_) fun hq => ?_) <;> conv => whnf) | ((with_reducible refine cnd_i (fun hq => ?_) fun hq => ?_) <;> ((try simp only [hqs] at hq) <;> (first | omega | conv => whnf))) | refine cr (hS) ?_)))
   exact ⟨m + 1, by omega, by omega, by rw [hds]; rfl⟩
  ·obtain rfl : m = y.com.length := by omega
   rw [← hps]
   have hc2 : (votsTo w (k + 1)).com.length = y.com.length := by rw [hps, hdc.1]
   generalize hz : votsTo w (k + 1) = z at *
   (repeat (any_goals (first | refine st ?_ | ((first | refine go2 fun xe hxe => ?_ | with_reducible refine cnd_d (fun hq => ?_) fun hq => ?_) <;> conv => whnf) | ((with_reducible refine cnd_i (fun hq => ?_) fun hq => ?_) <;> ((try simp only [hqs] at hq) <;> (first | omega | conv => whnf))))))
   exact ⟨k + 1, by omega, by omega, by rw [hz]; rfl⟩
 ·obtain rfl : k = w.props.length := by omega
  have hpa : votsTo w w.props.length = sVts w := rfl
  rw [hpa] at hpc hpo
  rw [hpa]
  clear hpa hps
  have hyl := hpc.2
  generalize sVts w = z at *
  (repeat (any_goals (first | refine st ?_ | ((first | refine go2 fun xe hxe => ?_ | with_reducible refine cnd_d (fun hq => ?_) fun hq => ?_) <;> conv => whnf) | ((with_reducible refine cnd_i (fun hq => ?_) fun hq => ?_) <;> ((try simp only [hqs] at hq) <;> (first | omega | conv => whnf))))))
  exact ⟨rfl, rfl⟩
theorem scpy_c (w : Wrl) (h : WOK w) : ConV Tryz.prog 26 [wrlA w] [] (wrlA w) [] := by
 have h7 := h.len
 have hvl := h.vlen
 have hpl := h.plen
 have hll := (leaS_iff.1 h.lead).2
 refine con_eq Θ_ok Tryz.func26 rfl rfl true 0 4 rfl rfl rfl rfl fun K hK hb1 hb2 => ?_; simp only [argsV, enc, Nat.reduceAdd]
 clear hb1 hb2
 (repeat (any_goals (first | refine st ?_ | ((first | refine go2 fun xe hxe => ?_ | with_reducible refine cnd_d (fun hq => ?_) fun hq => ?_) <;> conv => whnf) | ((with_reducible refine cnd_i (fun hq => ?_) fun hq => ?_) <;> ((try simp only [hqs] at hq) <;> (first | omega | conv => whnf))))))
 refine at_loop hK [] [1, 2, 3, 4] (fun i : Nat => ⟨[(1, .ptr 4 0), (2, .ptr 5 0), (3, .ptr 6 0), (4, .int .i64 (i : Int))], [(4, .var 27 (wrlA w).cells), (5, .var 27 wZv), (6, .var 27 [.ref 7, .ref 8, .int .i64 w.bad, .ref 9, .ref 10]), (7, .row 3 (.int .i64) w.com), (8, .row 3 (.int .i64) w.lead), (9, .row 34 (.lst .vtx) (w.views.take i)), (10, .row 38 .ppl [])], 11⟩) (fun i => i ≤ w.views.length) (fun i => w.views.length - i) 0 (by omega) rfl ?_
 intro i hi
 by_cases hlt : i < w.views.length
 ·have hxe : w.views[i]? = some w.views[i] := List.getElem?_eq_getElem hlt
  have hsn : w.views.take (i + 1) = w.views.take i ++ [w.views[i]] := List.take_succ_eq_append_getElem hlt
  have hgm := List.getElem_mem hlt
  have hC := scopy_c w.views[i] (by have := h.vl _ hgm; omega) fun v hv => by have := h.par (h.vv _ hgm v hv); omega
  have hl1 : (w.views.take i).length = i := by rw [List.length_take]; omega
  generalize w.views[i] = g at *
  generalize w.views.take i = l at *
  (repeat (any_goals (first | refine st ?_ | ((first | refine go2 fun xe hxe => ?_ | with_reducible refine cnd_d (fun hq => ?_) fun hq => ?_) <;> conv => whnf) | ((with_reducible refine cnd_i (fun hq => ?_) fun hq => ?_) <;> ((try simp only [hqs] at hq) <;> (first | omega | conv => whnf))) | refine cr (hC) ?_)))
  exact ⟨i + 1, by omega, by omega, by rw [hsn]; rfl⟩
 rw [List.take_of_length_le (by omega)]
 (repeat (any_goals (first | refine st ?_ | ((first | refine go2 fun xe hxe => ?_ | with_reducible refine cnd_d (fun hq => ?_) fun hq => ?_) <;> conv => whnf) | ((with_reducible refine cnd_i (fun hq => ?_) fun hq => ?_) <;> ((try simp only [hqs] at hq) <;> (first | omega | conv => whnf))))))
 refine at_loop hK [] [1, 2, 3, 5] (fun i : Nat => ⟨[(1, .ptr 4 0), (2, .ptr 5 0), (3, .ptr 6 0), (5, .int .i64 (i : Int))], [(4, .var 27 (wrlA w).cells), (5, .var 27 wZv), (6, .var 27 [.ref 7, .ref 8, .int .i64 w.bad, .ref 9, .ref 10]), (7, .row 3 (.int .i64) w.com), (8, .row 3 (.int .i64) w.lead), (9, .row 34 (.lst .vtx) w.views), (10, .row 38 .ppl (w.props.take i))], 11⟩) (fun i => i ≤ w.props.length) (fun i => w.props.length - i) 0 (by omega) rfl ?_
 intro k hk
 by_cases hkl : k < w.props.length
 ·have hxe : w.props[k]? = some w.props[k] := List.getElem?_eq_getElem hkl
  have hsn : w.props.take (k + 1) = w.props.take k ++ [w.props[k]] := List.take_succ_eq_append_getElem hkl
  have hpm := List.getElem_mem hkl
  have hC := sone_c w.props[k].v (by have := h.par (h.pv _ hpm).1; omega)
  have hm := h.mem _ hpm
  have hl1 : (w.props.take k).length = k := by rw [List.length_take]; omega
  generalize w.props[k] = p at *
  generalize w.props.take k = l at *
  (repeat (any_goals (first | refine st ?_ | ((first | refine go2 fun xe hxe => ?_ | with_reducible refine cnd_d (fun hq => ?_) fun hq => ?_) <;> conv => whnf) | ((with_reducible refine cnd_i (fun hq => ?_) fun hq => ?_) <;> ((try simp only [hqs] at hq) <;> (first | omega | conv => whnf))) | refine cr (hC) ?_)))
  exact ⟨k + 1, by omega, by omega, by rw [hsn]; rfl⟩
 ·(repeat (any_goals (first | refine st ?_ | ((first | refine go2 fun xe hxe => ?_ | with_reducible refine cnd_d (fun hq => ?_) fun hq => ?_) <;> conv => whnf) | ((with_reducible refine cnd_i (fun hq => ?_) fun hq => ?_) <;> ((try simp only [hqs] at hq) <;> (first | omega | conv => whnf))))))
  rw [List.take_of_length_le (by omega)]
  exact ⟨rfl, rfl⟩
theorem wrl_com {w : Wrl} (h : WOK w) : w.com.length ≤ 2000000 := by have := h.len; omega
theorem scalm_c (w : Wrl) (r : Nat) (h : WOK w) (hr : r ≤ 12) : ConV Tryz.prog 7 [wrlA w, .int .i64 (r : Int)] [] (wrlA (calmTo w r)) [] := by
 have hV := swV_c w (wrl_com h)
 rw [wok_iff.2 h] at hV
 have hI := in_c (r : Int) 0 12
 rw [vIn_iff.2 (by omega)] at hI
 have hS := sspr_c w h
 refine con_eq Θ_ok Tryz.func7 rfl rfl true 0 4 rfl rfl rfl rfl fun K hK hb1 hb2 => ?_; simp only [argsV, enc, Nat.reduceAdd]
 clear hb1 hb2
 (repeat (any_goals (first | refine st ?_ | ((first | refine go2 fun xe hxe => ?_ | with_reducible refine cnd_d (fun hq => ?_) fun hq => ?_) <;> conv => whnf) | ((with_reducible refine cnd_i (fun hq => ?_) fun hq => ?_) <;> ((try simp only [hqs] at hq) <;> (first | omega | conv => whnf))) | refine cr (hV) ?_ | refine cr (hI) ?_ | refine cr (hS) ?_)))
 refine at_loop hK [] [1, 2, 4, 5] (fun k : Nat => ⟨[(1, .int .i64 (r : Int)), (2, .ptr 4 0), (4, .ptr 5 0), (5, .int .i64 (k : Int))], [(4, .var 27 (wrlA (calmTo w k)).cells), (5, .var 27 wZv)], 6⟩) (fun k => k ≤ r) (fun k => r - k) 0 (by omega) rfl ?_
 intro k hk
 have hco := calmTo_ok h k
 have hcs : calmTo w (k + 1) = rnd1 (prpTo (rnd1 (calmTo w k)) k (rnd1 (calmTo w k)).com.length) := rfl
 by_cases hlt : k < r
 ·generalize calmTo w k = x at *
  have h1 := svts_c x hco
  have h2 := sspr_c (sVts x) (votsTo_ok hco _)
  have hr1 : sSpr (sVts x) = rnd1 x := rfl
  have hro := rnd1_ok hco
  rw [hr1] at h2
  generalize sVts x = x1 at *
  generalize rnd1 x = y at *
  (repeat (any_goals (first | refine st ?_ | ((first | refine go2 fun xe hxe => ?_ | with_reducible refine cnd_d (fun hq => ?_) fun hq => ?_) <;> conv => whnf) | ((with_reducible refine cnd_i (fun hq => ?_) fun hq => ?_) <;> ((try simp only [hqs] at hq) <;> (first | omega | conv => whnf))) | refine cr (h1) ?_ | refine cr (h2) ?_)))
  refine at_loop hK [] [1, 2, 4, 5, 6] (fun m : Nat => ⟨[(1, .int .i64 (r : Int)), (2, .ptr 4 0), (4, .ptr 5 0), (5, .int .i64 (k : Int)), (6, .int .i64 (m : Int))], [(4, .var 27 (wrlA (prpTo y k m)).cells), (5, .var 27 wZv)], 6⟩) (fun m => m ≤ y.com.length) (fun m => y.com.length - m) 0 (by omega) rfl ?_
  intro m hm
  have hdc := prpTo_com y k m
  have hdo := prpTo_ok hro k m
  have hyl := hro.len
  have hds : prpTo y k (m + 1) = sPrp (prpTo y k m) m (7 * k + m) := rfl
  by_cases hml : m < y.com.length
  ·generalize prpTo y k m = z at *
   have hzc : z.com.length = y.com.length := by rw [hdc]
   have hP := sprp_c z m (7 * k + m) hdo
   generalize sPrp z m (7 * k + m) = z2 at *
   (repeat (any_goals (first | refine st ?_ | ((first | refine go2 fun xe hxe => ?_ | with_reducible refine cnd_d (fun hq => ?_) fun hq => ?_) <;> conv => whnf) | ((with_reducible refine cnd_i (fun hq => ?_) fun hq => ?_) <;> ((try simp only [hqs] at hq) <;> (first | omega | conv => whnf))) | refine cr (hP) ?_)))
   exact ⟨m + 1, by omega, by omega, by rw [hds]; rfl⟩
  ·obtain rfl : m = y.com.length := by omega
   have hzc : (prpTo y k y.com.length).com.length = y.com.length := by rw [hdc]
   generalize prpTo y k y.com.length = z at *
   have h3 := svts_c z hdo
   have h4 := sspr_c (sVts z) (votsTo_ok hdo _)
   have hr2 : sSpr (sVts z) = rnd1 z := rfl
   rw [hr2] at h4
   generalize sVts z = z1 at *
   generalize rnd1 z = z2 at *
   (repeat (any_goals (first | refine st ?_ | ((first | refine go2 fun xe hxe => ?_ | with_reducible refine cnd_d (fun hq => ?_) fun hq => ?_) <;> conv => whnf) | ((with_reducible refine cnd_i (fun hq => ?_) fun hq => ?_) <;> ((try simp only [hqs] at hq) <;> (first | omega | conv => whnf))) | refine cr (h3) ?_ | refine cr (h4) ?_)))
   exact ⟨k + 1, by omega, by omega, by rw [hcs]; rfl⟩
 ·obtain rfl : k = r := by omega
  have hC := scpy_c (calmTo w k) hco
  generalize calmTo w k = x at *
  (repeat (any_goals (first | refine st ?_ | ((first | refine go2 fun xe hxe => ?_ | with_reducible refine cnd_d (fun hq => ?_) fun hq => ?_) <;> conv => whnf) | ((with_reducible refine cnd_i (fun hq => ?_) fun hq => ?_) <;> ((try simp only [hqs] at hq) <;> (first | omega | conv => whnf))) | refine cr (hC) ?_)))
  exact ⟨rfl, rfl⟩
end Go.Proofs.YtjjddgpdoibcoaaGreat.Am
namespace Go.Proofs.YtjjddgpdoibcoaaGreat.Am
open Go
attribute [local irreducible] Mk Need Ari Get Idx Cnd CallM CallA Opt Unch At ConV
set_option maxRecDepth 10000
theorem rd0w {c : List Int} (h : ∀ x ∈ c, 0 ≤ x ∧ x ≤ 255) : rdOK (c.take 2000) 0 := ⟨by rw [List.length_take]; omega, fun x hx => h x (List.mem_of_mem_take hx), by omega, by omega⟩
end Go.Proofs.YtjjddgpdoibcoaaGreat.Am
namespace Go.Proofs.YtjjddgpdoibcoaaGreat.Am
open Go
attribute [local irreducible] Mk Need Ari Get Idx Cnd CallM CallA Opt Unch At ConV
set_option maxRecDepth 10000
theorem newS_bad {c l : List Int} (hc : comV c = true) (hl : leaS c l = true) : newS c l (-1) = true := by
 have : badS c (-1) = true := badS_iff.2 (.inl rfl)
 simp [newS, hc, hl, this]
theorem new_ok {c l : List Int} {b : Int} (h : newS c l b = true) : WOK (newW c l b) := wok_iff.1 (wrl_new h)
theorem dbeg_c (b : List Int) (p : Int) (h : rdOK b 0) (hp : 0 ≤ p ∧ p ≤ 900000) : ∃ x : Wrl × Int, (p ≤ x.2 ∧ x.2 ≤ p + 60 ∧ WOK x.1) ∧ ConV Tryz.prog 34 [.ptr 4 0] [(4, rdB b p)] (wrlA x.1) [(4, rdB b x.2)] := by
 obtain ⟨⟨c, q⟩, ⟨h1, h2, h3⟩, hg⟩ := dgood_c b p h (by omega)
 dsimp only at h1 h2 h3 hg
 have h7 := (comV_iff.1 h3).2
 suffices hs : ∃ r hout, (∃ x : Wrl × Int, (p ≤ x.2 ∧ x.2 ≤ p + 60 ∧ WOK x.1) ∧ r = wrlA x.1 ∧ hout = [(4, rdB b x.2)]) ∧ ConV Tryz.prog 34 [.ptr 4 0] [(4, rdB b p)] r hout by
  obtain ⟨r, hout, ⟨v, hv, rfl, rfl⟩, h⟩ := hs
  exact ⟨v, hv, h⟩
 have h0 : WOK (newW c [] (-1)) := new_ok (newS_bad h3 rfl)
 refine con_ex Θ_ok Tryz.func34 rfl rfl true 1 5 rfl rfl rfl rfl (R := fun r hout => ∃ x : Wrl × Int, (p ≤ x.2 ∧ x.2 ≤ p + 60 ∧ WOK x.1) ∧ r = wrlA x.1 ∧ hout = [(4, rdB b x.2)]) (r0 := wrlA (newW c [] (-1))) (hout0 := [(4, rdB b p)]) (⟨(newW c [] (-1), p), ⟨by dsimp only; omega, by dsimp only; omega, h0⟩, rfl, rfl⟩) fun K hK hb1 hb2 => ?_; simp only [argsV, enc, Nat.reduceAdd]
 clear hb1 hb2
 (repeat (any_goals (first | refine st ?_ | ((first | refine go2 fun xe hxe => ?_ | with_reducible refine cnd_d (fun hq => ?_) fun hq => ?_) <;> conv => whnf) | ((with_reducible refine cnd_i (fun hq => ?_) fun hq => ?_) <;> ((try simp only [hqs] at hq) <;> (first | omega | conv => whnf))) | refine co (hg) ?_)))
 refine at_loop hK [] [0, 2, 3, 4, 5] (fun i : Nat × List Int × Int => ⟨[(0, .ptr 4 0), (2, .ptr 5 0), (3, .lst (.int .i64) c), (4, .ref 6), (5, .int .i64 i.1)], [(4, rdB b i.2.2), (5, .var 27 wZv), (6, .row 3 (.int .i64) i.2.1)], 7⟩)
  (fun i => i.1 ≤ 11 ∧ i.2.1.length = i.1 ∧ i.2.2 = q + 2 * i.1 ∧ ∀ x ∈ i.2.1, 0 ≤ x ∧ x < c.length) (fun i => 12 - i.1) (0, [], q) (by simp) rfl ?_
 rintro ⟨i, l, q2⟩ ⟨hi1, hi2, hi3, hi4⟩
 dsimp only at hi1 hi2 hi3 hi4 ⊢
 have hle : leaS c l = true := leaS_iff.2 ⟨hi4, by omega⟩
 (repeat (any_goals (first | refine st ?_ | ((first | refine go2 fun xe hxe => ?_ | with_reducible refine cnd_d (fun hq => ?_) fun hq => ?_) <;> conv => whnf) | ((with_reducible refine cnd_i (fun hq => ?_) fun hq => ?_) <;> ((try simp only [hqs] at hq) <;> (first | omega | conv => whnf))) | ((with_reducible refine call_r ?_); (conv => whnf); (first | refine call_ex (pk_c b _ _ h (by omega) (by omega)) fun xv hxv => ?_); conv => whnf))))
 ·exact ⟨(i + 1, l ++ [xv], q2 + 1 + 1), ⟨by dsimp only; omega, by simp; omega, by dsimp only; omega, fun x hx => by
   rcases List.mem_append.1 hx with hx | hx
   ·exact hi4 x hx
   ·rw [List.mem_singleton.1 hx]; omega⟩, by dsimp only; omega, rfl⟩
 ·have hN := snew_c c l (xv - 1) (by omega)
  cases hn : newS c l (xv - 1)
  ·rw [hn] at hN
   simp only [Bool.false_eq_true, if_false] at hN
   have hN2 := snew_c c l (-1) (by omega)
   rw [newS_bad h3 hle] at hN2
   simp only [if_true] at hN2
   (repeat (any_goals (first | refine st ?_ | ((first | refine go2 fun xe hxe => ?_ | with_reducible refine cnd_d (fun hq => ?_) fun hq => ?_) <;> conv => whnf) | ((with_reducible refine cnd_i (fun hq => ?_) fun hq => ?_) <;> ((try simp only [hqs] at hq) <;> (first | omega | conv => whnf))) | refine cr (hN) ?_ | refine cr (hN2) ?_)))
   exact ⟨(newW c l (-1), q2 + 1 + 1), ⟨by dsimp only; omega, by dsimp only; omega, new_ok (newS_bad h3 hle)⟩, rfl, rfl⟩
  ·rw [hn] at hN
   simp only [if_true] at hN
   (repeat (any_goals (first | refine st ?_ | ((first | refine go2 fun xe hxe => ?_ | with_reducible refine cnd_d (fun hq => ?_) fun hq => ?_) <;> conv => whnf) | ((with_reducible refine cnd_i (fun hq => ?_) fun hq => ?_) <;> ((try simp only [hqs] at hq) <;> (first | omega | conv => whnf))) | refine cr (hN) ?_)))
   exact ⟨(newW c l (xv - 1), q2 + 1 + 1), ⟨by dsimp only; omega, by dsimp only; omega, new_ok hn⟩, rfl, rfl⟩
def e0 : Evt := ⟨0, 0, 0, v0⟩
abbrev evtZ (z : Bool) (e : Evt) : V := if z then .agg [.int .i64 e.kind, .int .i64 e.a, .int .i64 e.b, .int .i64 e.v.round, .int .i64 e.v.author, .nils, .int .i64 e.v.digest] else evtA e
def evtS (b : List Int) (q : Int) (k a c r u d : Int) (l : List Int) : Nat → VSt
 | 0 => ⟨[(0, .ptr 4 0), (4, .ptr 5 0), (7, .ptr 6 0)], [(4, rdB b q), (5, .var 62 [.int .i64 0, .int .i64 0, .int .i64 0, .int .i64 0, .int .i64 0, .nils, .int .i64 0]), (6, .var 62 [.int .i64 k, .int .i64 a, .int .i64 c, .int .i64 r, .int .i64 u, .nils, .int .i64 d])], 7⟩
 | 1 => ⟨[(0, .ptr 4 0), (4, .ptr 5 0), (7, .ptr 6 0)], [(4, rdB b q), (5, .var 62 [.int .i64 0, .int .i64 0, .int .i64 0, .int .i64 0, .int .i64 0, .nils, .int .i64 0]), (6, .var 62 [.int .i64 k, .int .i64 a, .int .i64 c, .int .i64 r, .int .i64 u, .lst (.int .i64) l, .int .i64 d])], 7⟩
 | _ => ⟨[(0, .ptr 4 0), (4, .ptr 5 0), (7, .ptr 6 0)], [(4, rdB b q), (5, .var 62 [.int .i64 0, .int .i64 0, .int .i64 0, .int .i64 0, .int .i64 0, .nils, .int .i64 0]), (6, .var 62 [.int .i64 k, .int .i64 a, .int .i64 c, .int .i64 r, .int .i64 u, .ref 7, .int .i64 d]), (7, .row 3 (.int .i64) l)], 8⟩
def evtF (b : List Int) (x : (Int × Int × Int × Int) × Int × Int × Int × List Int × Nat) : VSt := evtS b x.2.1 x.1.1 x.1.2.1 x.1.2.2.1 x.1.2.2.2 x.2.2.1 x.2.2.2.1 x.2.2.2.2.1 x.2.2.2.2.2
theorem evt_k0 {b : List Int} {q k a c r u d : Int} {p : (Int × Int × Int × Int) × Int × Int × Int × List Int × Nat → Prop} (hp : p ((k, a, c, r), q, u, d, [], 0)) : ∃ x, p x ∧ (⟨[(0, .ptr 4 0), (4, .ptr 5 0), (7, .ptr 6 0)], [(4, rdB b q), (5, .var 62 [.int .i64 0, .int .i64 0, .int .i64 0, .int .i64 0, .int .i64 0, .nils, .int .i64 0]), (6, .var 62 [.int .i64 k, .int .i64 a, .int .i64 c, .int .i64 r, .int .i64 u, .nils, .int .i64 d])], 7⟩ : VSt) = evtF b x := ⟨_, hp, rfl⟩
theorem evt_k1 {b : List Int} {q k a c r u d : Int} {l : List Int} {p : (Int × Int × Int × Int) × Int × Int × Int × List Int × Nat → Prop} (hp : p ((k, a, c, r), q, u, d, l, 1)) : ∃ x, p x ∧ (⟨[(0, .ptr 4 0), (4, .ptr 5 0), (7, .ptr 6 0)], [(4, rdB b q), (5, .var 62 [.int .i64 0, .int .i64 0, .int .i64 0, .int .i64 0, .int .i64 0, .nils, .int .i64 0]), (6, .var 62 [.int .i64 k, .int .i64 a, .int .i64 c, .int .i64 r, .int .i64 u, .lst (.int .i64) l, .int .i64 d])], 7⟩ : VSt) = evtF b x := ⟨_, hp, rfl⟩
theorem evt_k2 {b : List Int} {q k a c r u d : Int} {l : List Int} {p : (Int × Int × Int × Int) × Int × Int × Int × List Int × Nat → Prop} (hp : p ((k, a, c, r), q, u, d, l, 2)) : ∃ x, p x ∧ (⟨[(0, .ptr 4 0), (4, .ptr 5 0), (7, .ptr 6 0)], [(4, rdB b q), (5, .var 62 [.int .i64 0, .int .i64 0, .int .i64 0, .int .i64 0, .int .i64 0, .nils, .int .i64 0]), (6, .var 62 [.int .i64 k, .int .i64 a, .int .i64 c, .int .i64 r, .int .i64 u, .ref 7, .int .i64 d]), (7, .row 3 (.int .i64) l)], 8⟩ : VSt) = evtF b x := ⟨_, hp, rfl⟩
set_option maxHeartbeats 4000000 in
theorem devt_c (b : List Int) (p : Int) (w : Wrl) (h : rdOK b 0) (hp : 0 ≤ p ∧ p ≤ 900000) (hw : WOK w) : ∃ x : (Bool × Evt) × Int, (p ≤ x.2 ∧ x.2 ≤ p + 60 ∧ x.1.2.v.parents.length ≤ 30 ∧ (x.1.1 = true → x.1.2.v.parents = [])) ∧ ConV Tryz.prog 36 [.ptr 4 0, wrlA w] [(4, rdB b p)] (evtZ x.1.1 x.1.2) [(4, rdB b x.2)] := by
 have h7 := hw.len
 have hpl := hw.plen
 have hbd := badS_iff.1 hw.bad
 suffices hs : ∃ r hout, (∃ x : (Bool × Evt) × Int, (p ≤ x.2 ∧ x.2 ≤ p + 60 ∧ x.1.2.v.parents.length ≤ 30 ∧ (x.1.1 = true → x.1.2.v.parents = [])) ∧ r = evtZ x.1.1 x.1.2 ∧ hout = [(4, rdB b x.2)]) ∧ ConV Tryz.prog 36 [.ptr 4 0, wrlA w] [(4, rdB b p)] r hout by
  obtain ⟨r, hout, ⟨v, hv, rfl, rfl⟩, h⟩ := hs
  exact ⟨v, hv, h⟩
 refine con_ex Θ_ok Tryz.func36 rfl rfl true 1 5 rfl rfl rfl rfl (R := fun r hout => ∃ x : (Bool × Evt) × Int, (p ≤ x.2 ∧ x.2 ≤ p + 60 ∧ x.1.2.v.parents.length ≤ 30 ∧ (x.1.1 = true → x.1.2.v.parents = [])) ∧ r = evtZ x.1.1 x.1.2 ∧ hout = [(4, rdB b x.2)]) (r0 := evtZ true e0) (hout0 := [(4, rdB b p)]) (⟨((true, e0), p), ⟨by dsimp only; omega, by dsimp only; omega, by simp [e0, v0], fun _ => rfl⟩, rfl, rfl⟩) fun K hK hb1 hb2 => ?_; simp only [argsV, enc, Nat.reduceAdd]
 clear hb1 hb2
 (repeat (any_goals (first | refine stn ?_ | ((first | refine go2 fun xe hxe => ?_ | with_reducible refine cnd_d (fun hq => ?_) fun hq => ?_) <;> conv => whnf) | ((with_reducible refine cnd_i (fun hq => ?_) fun hq => ?_) <;> ((try simp only [hqs] at hq) <;> (first | omega | conv => whnf))) | ((with_reducible refine call_r ?_); (conv => whnf); (first | refine call_ex (pk_c b _ _ h (by omega) (by omega)) fun xv hxv => ?_); conv => whnf))))
 refine at_then hK [] [0, 4, 7] (evtF b) (fun x => (p ≤ x.2.1 ∧ x.2.1 ≤ p + 50 ∧ x.2.2.2.2.1.length ≤ 30)) ?_ ?_
 ·(repeat (any_goals (first | refine st ?_ | ((first | refine go2 fun xe hxe => ?_ | with_reducible refine cnd_d (fun hq => ?_) fun hq => ?_) <;> conv => whnf) | ((with_reducible refine cnd_i (fun hq => ?_) fun hq => ?_) <;> ((try simp only [hqs] at hq) <;> (first | omega | conv => whnf))) | ((with_reducible refine call_r ?_); (conv => whnf); (first | refine call_ex (pk_c b _ _ h (by omega) (by omega)) fun xv hxv => ?_ | refine call_ex (ddig_c b _ h (by omega)) fun xv hxv => ?_ | refine call_ex (dmem_c b _ _ h (by omega) (by omega)) fun xv hxv => ?_); conv => whnf))))
  all_goals first
   | (refine evt_k0 ⟨?_, ?_, ?_⟩ <;> first | (dsimp only; omega) | simp; done)
   | (refine evt_k1 ⟨?_, ?_, ?_⟩ <;> first | (dsimp only; omega) | simp; done)
   | (refine evt_k2 ⟨?_, ?_, ?_⟩ <;> first | (dsimp only; omega) | simp; done)
 ·rintro ⟨⟨k, a, c, r⟩, q, u, d, l, z⟩ ⟨hq1, hq2, hq3⟩
  dsimp only [evtF] at hq1 hq2 hq3 ⊢
  match z with
  | 0 =>
   have hs0 : evtS b q k a c r u d l 0 = ⟨[(0, .ptr 4 0), (4, .ptr 5 0), (7, .ptr 6 0)], [(4, rdB b q), (5, .var 62 [.int .i64 0, .int .i64 0, .int .i64 0, .int .i64 0, .int .i64 0, .nils, .int .i64 0]), (6, .var 62 [.int .i64 k, .int .i64 a, .int .i64 c, .int .i64 r, .int .i64 u, .nils, .int .i64 d])], 7⟩ := rfl
   rw [hs0]
   (repeat (any_goals (first | refine st ?_ | ((first | refine go2 fun xe hxe => ?_ | with_reducible refine cnd_d (fun hq => ?_) fun hq => ?_) <;> conv => whnf) | ((with_reducible refine cnd_i (fun hq => ?_) fun hq => ?_) <;> ((try simp only [hqs] at hq) <;> (first | omega | conv => whnf))) | ((with_reducible refine call_r ?_); (conv => whnf); (first | refine call_ex (pk_c b _ _ h (by omega) (by omega)) fun xv hxv => ?_); conv => whnf))))
   all_goals exact ⟨((true, ⟨_, _, _, ⟨_, _, [], _⟩⟩), _), ⟨by dsimp only; omega, by dsimp only; omega, by simp, fun h => by rfl⟩, rfl, rfl⟩
  | 1 =>
   have hs0 : evtS b q k a c r u d l 1 = ⟨[(0, .ptr 4 0), (4, .ptr 5 0), (7, .ptr 6 0)], [(4, rdB b q), (5, .var 62 [.int .i64 0, .int .i64 0, .int .i64 0, .int .i64 0, .int .i64 0, .nils, .int .i64 0]), (6, .var 62 [.int .i64 k, .int .i64 a, .int .i64 c, .int .i64 r, .int .i64 u, .lst (.int .i64) l, .int .i64 d])], 7⟩ := rfl
   rw [hs0]
   (repeat (any_goals (first | refine st ?_ | ((first | refine go2 fun xe hxe => ?_ | with_reducible refine cnd_d (fun hq => ?_) fun hq => ?_) <;> conv => whnf) | ((with_reducible refine cnd_i (fun hq => ?_) fun hq => ?_) <;> ((try simp only [hqs] at hq) <;> (first | omega | conv => whnf))) | ((with_reducible refine call_r ?_); (conv => whnf); (first | refine call_ex (pk_c b _ _ h (by omega) (by omega)) fun xv hxv => ?_); conv => whnf))))
   all_goals exact ⟨((false, ⟨_, _, _, ⟨_, _, l, _⟩⟩), _), ⟨by dsimp only; omega, by dsimp only; omega, by dsimp only; omega, fun h => by cases h⟩, rfl, rfl⟩
  | n + 2 =>
   have hs0 : evtS b q k a c r u d l (n + 2) = ⟨[(0, .ptr 4 0), (4, .ptr 5 0), (7, .ptr 6 0)], [(4, rdB b q), (5, .var 62 [.int .i64 0, .int .i64 0, .int .i64 0, .int .i64 0, .int .i64 0, .nils, .int .i64 0]), (6, .var 62 [.int .i64 k, .int .i64 a, .int .i64 c, .int .i64 r, .int .i64 u, .ref 7, .int .i64 d]), (7, .row 3 (.int .i64) l)], 8⟩ := rfl
   rw [hs0]
   (repeat (any_goals (first | refine st ?_ | ((first | refine go2 fun xe hxe => ?_ | with_reducible refine cnd_d (fun hq => ?_) fun hq => ?_) <;> conv => whnf) | ((with_reducible refine cnd_i (fun hq => ?_) fun hq => ?_) <;> ((try simp only [hqs] at hq) <;> (first | omega | conv => whnf))) | ((with_reducible refine call_r ?_); (conv => whnf); (first | refine call_ex (pk_c b _ _ h (by omega) (by omega)) fun xv hxv => ?_); conv => whnf))))
   all_goals exact ⟨((false, ⟨_, _, _, ⟨_, _, l, _⟩⟩), _), ⟨by dsimp only; omega, by dsimp only; omega, by dsimp only; omega, fun h => by cases h⟩, rfl, rfl⟩
end Go.Proofs.YtjjddgpdoibcoaaGreat.Am
namespace Go.Proofs.YtjjddgpdoibcoaaGreat.Am
open Go
attribute [local irreducible] Mk Need Ari Get Idx Cnd CallM CallA Opt Unch At ConV
set_option maxRecDepth 10000
theorem scpo_c (w : Wrl) (h : WOK w) : ConV Tryz.prog 26 [wrlA w] [] (.agg [.ref 4, .ref 5, .int .i64 w.bad, .ref 6, .ref 7]) [(4, .row 3 (.int .i64) w.com), (5, .row 3 (.int .i64) w.lead), (6, .row 34 (.lst .vtx) w.views), (7, .row 38 .ppl w.props)] := by
 have h7 := h.len
 have hvl := h.vlen
 have hpl := h.plen
 have hll := (leaS_iff.1 h.lead).2
 refine con_eq Θ_ok Tryz.func26 rfl rfl false 0 4 rfl rfl rfl rfl fun K hK hb1 hb2 => ?_; simp only [argsV, enc, Nat.reduceAdd]
 clear hb1 hb2
 (repeat (any_goals (first | refine st ?_ | ((first | refine go2 fun xe hxe => ?_ | with_reducible refine cnd_d (fun hq => ?_) fun hq => ?_) <;> conv => whnf) | ((with_reducible refine cnd_i (fun hq => ?_) fun hq => ?_) <;> ((try simp only [hqs] at hq) <;> (first | omega | conv => whnf))))))
 refine at_loop hK [] [1, 2, 3, 4] (fun i : Nat => ⟨[(1, .ptr 4 0), (2, .ptr 5 0), (3, .ptr 6 0), (4, .int .i64 (i : Int))], [(4, .var 27 (wrlA w).cells), (5, .var 27 wZv), (6, .var 27 [.ref 7, .ref 8, .int .i64 w.bad, .ref 9, .ref 10]), (7, .row 3 (.int .i64) w.com), (8, .row 3 (.int .i64) w.lead), (9, .row 34 (.lst .vtx) (w.views.take i)), (10, .row 38 .ppl [])], 11⟩) (fun i => i ≤ w.views.length) (fun i => w.views.length - i) 0 (by omega) rfl ?_
 intro i hi
 by_cases hlt : i < w.views.length
 ·have hxe : w.views[i]? = some w.views[i] := List.getElem?_eq_getElem hlt
  have hsn : w.views.take (i + 1) = w.views.take i ++ [w.views[i]] := List.take_succ_eq_append_getElem hlt
  have hgm := List.getElem_mem hlt
  have hC := scopy_c w.views[i] (by have := h.vl _ hgm; omega) fun v hv => by have := h.par (h.vv _ hgm v hv); omega
  have hl1 : (w.views.take i).length = i := by rw [List.length_take]; omega
  generalize w.views[i] = g at *
  generalize w.views.take i = l at *
  (repeat (any_goals (first | refine st ?_ | ((first | refine go2 fun xe hxe => ?_ | with_reducible refine cnd_d (fun hq => ?_) fun hq => ?_) <;> conv => whnf) | ((with_reducible refine cnd_i (fun hq => ?_) fun hq => ?_) <;> ((try simp only [hqs] at hq) <;> (first | omega | conv => whnf))) | refine cr (hC) ?_)))
  exact ⟨i + 1, by omega, by omega, by rw [hsn]; rfl⟩
 rw [List.take_of_length_le (by omega)]
 (repeat (any_goals (first | refine st ?_ | ((first | refine go2 fun xe hxe => ?_ | with_reducible refine cnd_d (fun hq => ?_) fun hq => ?_) <;> conv => whnf) | ((with_reducible refine cnd_i (fun hq => ?_) fun hq => ?_) <;> ((try simp only [hqs] at hq) <;> (first | omega | conv => whnf))))))
 refine at_loop hK [] [1, 2, 3, 5] (fun i : Nat => ⟨[(1, .ptr 4 0), (2, .ptr 5 0), (3, .ptr 6 0), (5, .int .i64 (i : Int))], [(4, .var 27 (wrlA w).cells), (5, .var 27 wZv), (6, .var 27 [.ref 7, .ref 8, .int .i64 w.bad, .ref 9, .ref 10]), (7, .row 3 (.int .i64) w.com), (8, .row 3 (.int .i64) w.lead), (9, .row 34 (.lst .vtx) w.views), (10, .row 38 .ppl (w.props.take i))], 11⟩) (fun i => i ≤ w.props.length) (fun i => w.props.length - i) 0 (by omega) rfl ?_
 intro k hk
 by_cases hkl : k < w.props.length
 ·have hxe : w.props[k]? = some w.props[k] := List.getElem?_eq_getElem hkl
  have hsn : w.props.take (k + 1) = w.props.take k ++ [w.props[k]] := List.take_succ_eq_append_getElem hkl
  have hpm := List.getElem_mem hkl
  have hC := sone_c w.props[k].v (by have := h.par (h.pv _ hpm).1; omega)
  have hm := h.mem _ hpm
  have hl1 : (w.props.take k).length = k := by rw [List.length_take]; omega
  generalize w.props[k] = p at *
  generalize w.props.take k = l at *
  (repeat (any_goals (first | refine st ?_ | ((first | refine go2 fun xe hxe => ?_ | with_reducible refine cnd_d (fun hq => ?_) fun hq => ?_) <;> conv => whnf) | ((with_reducible refine cnd_i (fun hq => ?_) fun hq => ?_) <;> ((try simp only [hqs] at hq) <;> (first | omega | conv => whnf))) | refine cr (hC) ?_)))
  exact ⟨k + 1, by omega, by omega, by rw [hsn]; rfl⟩
 ·(repeat (any_goals (first | refine st ?_ | ((first | refine go2 fun xe hxe => ?_ | with_reducible refine cnd_d (fun hq => ?_) fun hq => ?_) <;> conv => whnf) | ((with_reducible refine cnd_i (fun hq => ?_) fun hq => ?_) <;> ((try simp only [hqs] at hq) <;> (first | omega | conv => whnf))))))
  rw [List.take_of_length_le (by omega)]
  exact ⟨rfl, rfl⟩
theorem evtZ_do (w : Wrl) (z : Bool) (e : Evt) (h : WOK w) (hvl : e.v.parents.length ≤ 30) (hz : z = true → e.v.parents = []) : ConV Tryz.prog 35 [wrlA w, .agg [.int .i64 e.kind, .int .i64 e.a, .int .i64 e.b, .int .i64 e.v.round, .int .i64 e.v.author, .lst (.int .i64) e.v.parents, .int .i64 e.v.digest]] [] (wrlA (sDo w e)) [] :=
 sdo_c w e h (by omega)
set_option maxHeartbeats 1000000 in
theorem dwld_c (b : List Int) (p : Int) (h : rdOK b 0) (hp : 0 ≤ p ∧ p ≤ 500000) : ∃ x : Wrl × Int, (p ≤ x.2 ∧ x.2 ≤ p + 6000 ∧ WOK x.1) ∧ ConV Tryz.prog 13 [.ptr 4 0] [(4, rdB b p)] (wrlA x.1) [(4, rdB b x.2)] := by
 obtain ⟨⟨w0, q⟩, ⟨h1, h2, h3⟩, hB⟩ := dbeg_c b p h (by omega)
 dsimp only at h1 h2 h3 hB
 obtain ⟨m, hm, hmc⟩ := pk_c b q 3 h (by omega) (by omega)
 obtain ⟨r, hr, hrc⟩ := pk_c b (q + 1) 5 h (by omega) (by omega)
 obtain ⟨r, rfl⟩ : ∃ k : Nat, (k : Int) = r := ⟨r.toNat, by omega⟩
 have hC := scalm_c w0 r h3 (by omega)
 have hco := calmTo_ok h3 r
 suffices hs : ∃ r hout, (∃ x : Wrl × Int, (p ≤ x.2 ∧ x.2 ≤ p + 6000 ∧ WOK x.1) ∧ r = wrlA x.1 ∧ hout = [(4, rdB b x.2)]) ∧ ConV Tryz.prog 13 [.ptr 4 0] [(4, rdB b p)] r hout by
  obtain ⟨r, hout, ⟨v, hv, rfl, rfl⟩, h⟩ := hs
  exact ⟨v, hv, h⟩
 refine con_ex Θ_ok Tryz.func13 rfl rfl true 1 5 rfl rfl rfl rfl (R := fun r hout => ∃ x : Wrl × Int, (p ≤ x.2 ∧ x.2 ≤ p + 6000 ∧ WOK x.1) ∧ r = wrlA x.1 ∧ hout = [(4, rdB b x.2)]) (r0 := wrlA w0) (hout0 := [(4, rdB b p)]) (⟨(w0, p), ⟨by dsimp only; omega, by dsimp only; omega, h3⟩, rfl, rfl⟩) fun K hK hb1 hb2 => ?_; simp only [argsV, enc, Nat.reduceAdd]
 clear hb1 hb2
 generalize calmTo w0 r = w1 at *
 have body : ∀ (K : Id → Prop) (c : Code) (i : Nat) (w : Wrl) (q2 : Int), True := fun _ _ _ _ _ => trivial
 by_cases hm0 : 0 < m
 ·(repeat (any_goals (first | refine st ?_ | ((first | refine go2 fun xe hxe => ?_ | with_reducible refine cnd_d (fun hq => ?_) fun hq => ?_) <;> conv => whnf) | ((with_reducible refine cnd_i (fun hq => ?_) fun hq => ?_) <;> ((try simp only [hqs] at hq) <;> (first | omega | conv => whnf))) | refine cr (hmc) ?_ | refine cr (hrc) ?_ | refine cr (hC) ?_ | refine co (hB) ?_)))
  refine at_loop hK [] [0, 2, 3, 4] (fun x : Nat × Wrl × Int => ⟨[(0, .ptr 4 0), (2, .ptr 5 0), (3, .ptr 6 0), (4, .int .i64 x.1)], [(4, rdB b x.2.2), (5, .var 27 wZv), (6, .var 27 (wrlA x.2.1).cells)], 7⟩)
   (fun x => x.1 ≤ 69 ∧ WOK x.2.1 ∧ p ≤ x.2.2 ∧ x.2.2 ≤ p + 100 + 61 * x.1) (fun x => 70 - x.1) (0, w1, q + 1 + 1) ⟨by dsimp only; omega, hco, by dsimp only; omega, by dsimp only; omega⟩ rfl ?_
  rintro ⟨i, w, q2⟩ ⟨hi1, hi2, hi3, hi4⟩
  dsimp only at hi1 hi2 hi3 hi4 ⊢
  obtain ⟨n, hn, hnc⟩ := pk_c b q2 70 h (by omega) (by omega)
  obtain ⟨⟨⟨z, e⟩, q3⟩, ⟨e1, e2, e3, e4⟩, hE⟩ := devt_c b (q2 + 1) w h (by omega) hi2
  dsimp only at e1 e2 e3 e4 hE
  have hD := evtZ_do w z e hi2 e3 e4
  have hdo := sDo_ok hi2 e
  by_cases hlt : (i : Int) < n
  ·cases z with
   | false =>
    have hE : ConV Tryz.prog 36 [.ptr 4 0, wrlA w] [(4, rdB b (q2 + 1))] (evtA e) [(4, rdB b q3)] := hE
    generalize sDo w e = w2 at *
    (repeat (any_goals (first | refine st ?_ | ((first | refine go2 fun xe hxe => ?_ | with_reducible refine cnd_d (fun hq => ?_) fun hq => ?_) <;> conv => whnf) | ((with_reducible refine cnd_i (fun hq => ?_) fun hq => ?_) <;> ((try simp only [hqs] at hq) <;> (first | omega | conv => whnf))) | refine cr (hnc) ?_ | refine cr (hD) ?_ | refine co (hE) ?_)))
    exact ⟨(i + 1, w2, q3), ⟨by dsimp only; omega, hdo, by dsimp only; omega, by dsimp only; omega⟩, by dsimp only; omega, rfl⟩
   | true =>
    have hE : ConV Tryz.prog 36 [.ptr 4 0, wrlA w] [(4, rdB b (q2 + 1))] (.agg [.int .i64 e.kind, .int .i64 e.a, .int .i64 e.b, .int .i64 e.v.round, .int .i64 e.v.author, .nils, .int .i64 e.v.digest]) [(4, rdB b q3)] := hE
    rw [e4 rfl] at hD
    generalize sDo w e = w2 at *
    (repeat (any_goals (first | refine st ?_ | ((first | refine go2 fun xe hxe => ?_ | with_reducible refine cnd_d (fun hq => ?_) fun hq => ?_) <;> conv => whnf) | ((with_reducible refine cnd_i (fun hq => ?_) fun hq => ?_) <;> ((try simp only [hqs] at hq) <;> (first | omega | conv => whnf))) | refine cr (hnc) ?_ | refine cr (hD) ?_ | refine co (hE) ?_)))
    exact ⟨(i + 1, w2, q3), ⟨by dsimp only; omega, hdo, by dsimp only; omega, by dsimp only; omega⟩, by dsimp only; omega, rfl⟩
  ·(repeat (any_goals (first | refine st ?_ | ((first | refine go2 fun xe hxe => ?_ | with_reducible refine cnd_d (fun hq => ?_) fun hq => ?_) <;> conv => whnf) | ((with_reducible refine cnd_i (fun hq => ?_) fun hq => ?_) <;> ((try simp only [hqs] at hq) <;> (first | omega | conv => whnf))) | refine cr (hnc) ?_)))
   exact ⟨(w, q2 + 1), ⟨by dsimp only; omega, by dsimp only; omega, hi2⟩, rfl, rfl⟩
 ·(repeat (any_goals (first | refine st ?_ | ((first | refine go2 fun xe hxe => ?_ | with_reducible refine cnd_d (fun hq => ?_) fun hq => ?_) <;> conv => whnf) | ((with_reducible refine cnd_i (fun hq => ?_) fun hq => ?_) <;> ((try simp only [hqs] at hq) <;> (first | omega | conv => whnf))) | refine cr (hmc) ?_ | refine co (hB) ?_)))
  refine at_loop hK [] [0, 2, 3, 4] (fun x : Nat × Wrl × Int => ⟨[(0, .ptr 4 0), (2, .ptr 5 0), (3, .ptr 6 0), (4, .int .i64 x.1)], [(4, rdB b x.2.2), (5, .var 27 wZv), (6, .var 27 (wrlA x.2.1).cells)], 7⟩)
   (fun x => x.1 ≤ 69 ∧ WOK x.2.1 ∧ p ≤ x.2.2 ∧ x.2.2 ≤ p + 100 + 61 * x.1) (fun x => 70 - x.1) (0, w0, q + 1) ⟨by dsimp only; omega, h3, by dsimp only; omega, by dsimp only; omega⟩ rfl ?_
  rintro ⟨i, w, q2⟩ ⟨hi1, hi2, hi3, hi4⟩
  dsimp only at hi1 hi2 hi3 hi4 ⊢
  obtain ⟨n, hn, hnc⟩ := pk_c b q2 70 h (by omega) (by omega)
  obtain ⟨⟨⟨z, e⟩, q3⟩, ⟨e1, e2, e3, e4⟩, hE⟩ := devt_c b (q2 + 1) w h (by omega) hi2
  dsimp only at e1 e2 e3 e4 hE
  have hD := evtZ_do w z e hi2 e3 e4
  have hdo := sDo_ok hi2 e
  by_cases hlt : (i : Int) < n
  ·cases z with
   | false =>
    have hE : ConV Tryz.prog 36 [.ptr 4 0, wrlA w] [(4, rdB b (q2 + 1))] (evtA e) [(4, rdB b q3)] := hE
    generalize sDo w e = w2 at *
    (repeat (any_goals (first | refine st ?_ | ((first | refine go2 fun xe hxe => ?_ | with_reducible refine cnd_d (fun hq => ?_) fun hq => ?_) <;> conv => whnf) | ((with_reducible refine cnd_i (fun hq => ?_) fun hq => ?_) <;> ((try simp only [hqs] at hq) <;> (first | omega | conv => whnf))) | refine cr (hnc) ?_ | refine cr (hD) ?_ | refine co (hE) ?_)))
    exact ⟨(i + 1, w2, q3), ⟨by dsimp only; omega, hdo, by dsimp only; omega, by dsimp only; omega⟩, by dsimp only; omega, rfl⟩
   | true =>
    have hE : ConV Tryz.prog 36 [.ptr 4 0, wrlA w] [(4, rdB b (q2 + 1))] (.agg [.int .i64 e.kind, .int .i64 e.a, .int .i64 e.b, .int .i64 e.v.round, .int .i64 e.v.author, .nils, .int .i64 e.v.digest]) [(4, rdB b q3)] := hE
    rw [e4 rfl] at hD
    generalize sDo w e = w2 at *
    (repeat (any_goals (first | refine st ?_ | ((first | refine go2 fun xe hxe => ?_ | with_reducible refine cnd_d (fun hq => ?_) fun hq => ?_) <;> conv => whnf) | ((with_reducible refine cnd_i (fun hq => ?_) fun hq => ?_) <;> ((try simp only [hqs] at hq) <;> (first | omega | conv => whnf))) | refine cr (hnc) ?_ | refine cr (hD) ?_ | refine co (hE) ?_)))
    exact ⟨(i + 1, w2, q3), ⟨by dsimp only; omega, hdo, by dsimp only; omega, by dsimp only; omega⟩, by dsimp only; omega, rfl⟩
  ·(repeat (any_goals (first | refine st ?_ | ((first | refine go2 fun xe hxe => ?_ | with_reducible refine cnd_d (fun hq => ?_) fun hq => ?_) <;> conv => whnf) | ((with_reducible refine cnd_i (fun hq => ?_) fun hq => ?_) <;> ((try simp only [hqs] at hq) <;> (first | omega | conv => whnf))) | refine cr (hnc) ?_)))
   exact ⟨(w, q2 + 1), ⟨by dsimp only; omega, by dsimp only; omega, hi2⟩, rfl, rfl⟩
def WSm (w : Wrl) : Prop := w.com.length ≤ 1000 ∧ ∀ g ∈ w.views, g.length ≤ 1000
theorem WOK.sm {w : Wrl} (h : WOK w) : WSm w := ⟨by have := h.len; omega, fun g hg => by have := h.vl g hg; omega⟩
theorem cut_mem {α : Type} {xs : List α} {lo hi : Option V} {a b : Nat} {x : α} (h : x ∈ cutL xs lo hi a b) : x ∈ xs := by
 unfold cutL at h
 split at h
 ·exact h
 ·exact List.mem_of_mem_take h
 ·exact List.mem_of_mem_drop h
 ·exact List.mem_of_mem_take (List.mem_of_mem_drop h)
theorem cut_len {α : Type} (xs : List α) (lo hi : Option V) (a b : Nat) : (cutL xs lo hi a b).length ≤ xs.length := by
 unfold cutL
 split
 ·omega
 ·rw [List.length_take]; omega
 ·rw [List.length_drop]; omega
 ·rw [List.length_drop, List.length_take]; omega
theorem wsm_cut {vs : List (List Vtx)} {lo hi : Option V} {a b : Nat} (h : ∀ g ∈ vs, g.length ≤ 1000) : ∀ g ∈ cutL vs lo hi a b, g.length ≤ 1000 := fun g hg => h g (cut_mem hg)
theorem wsm_set {vs : List (List Vtx)} {k k2 : Nat} {g0 : List Vtx} {lo hi : Option V} {a b : Nat} (h : ∀ g ∈ vs, g.length ≤ 1000) (hx : vs[k2]? = some g0) : ∀ g ∈ vs.set k (cutL g0 lo hi a b), g.length ≤ 1000 := fun g hg => by
 rcases mem_set hg with rfl | hg
 ·have h1 := cut_len g0 lo hi a b
  have h2 := h g0 (List.mem_of_getElem? hx)
  omega
 ·exact h g hg
theorem wrg_i {b : List Int} {p q : Int} {c l : List Int} {bd : Int} {vs : List (List Vtx)} {ps : List Ppl} (h1 : p ≤ q ∧ q ≤ p + 6100) (h2 : c.length ≤ 1000) (h3 : ∀ g ∈ vs, g.length ≤ 1000) : ∃ x : Wrl × Int, (p ≤ x.2 ∧ x.2 ≤ p + 6100 ∧ WSm x.1) ∧ V.agg [.lst (.int .i64) c, .lst (.int .i64) l, .int .i64 bd, .lst (.lst .vtx) vs, .lst .ppl ps] = wrlA x.1 ∧ ([(4, rdB b q)] : VH) = [(4, rdB b x.2)] := ⟨(⟨c, l, bd, vs, ps⟩, q), ⟨h1.1, h1.2, h2, h3⟩, rfl, rfl⟩
set_option maxHeartbeats 1000000 in
theorem dwrg_c (b : List Int) (p : Int) (h : rdOK b 0) (hp : 0 ≤ p ∧ p ≤ 400000) : ∃ x : Wrl × Int, (p ≤ x.2 ∧ x.2 ≤ p + 6100 ∧ WSm x.1) ∧ ConV Tryz.prog 15 [.ptr 4 0] [(4, rdB b p)] (wrlA x.1) [(4, rdB b x.2)] := by
 obtain ⟨⟨w, q⟩, ⟨h1, h2, h3⟩, hB⟩ := dwld_c b p h (by omega)
 dsimp only at h1 h2 h3 hB
 have hC := scpo_c w h3
 have h7 := h3.len
 have hvl := h3.vlen
 have hpl := h3.plen
 have hll := (leaS_iff.1 h3.lead).2
 have hsm := h3.sm
 suffices hs : ∃ r hout, (∃ x : Wrl × Int, (p ≤ x.2 ∧ x.2 ≤ p + 6100 ∧ WSm x.1) ∧ r = wrlA x.1 ∧ hout = [(4, rdB b x.2)]) ∧ ConV Tryz.prog 15 [.ptr 4 0] [(4, rdB b p)] r hout by
  obtain ⟨r, hout, ⟨v, hv, rfl, rfl⟩, h⟩ := hs
  exact ⟨v, hv, h⟩
 refine con_ex Θ_ok Tryz.func15 rfl rfl true 1 5 rfl rfl rfl rfl (R := fun r hout => ∃ x : Wrl × Int, (p ≤ x.2 ∧ x.2 ≤ p + 6100 ∧ WSm x.1) ∧ r = wrlA x.1 ∧ hout = [(4, rdB b x.2)]) (r0 := wrlA w) (hout0 := [(4, rdB b p)]) (⟨(w, p), ⟨by dsimp only; omega, by dsimp only; omega, hsm⟩, rfl, rfl⟩) fun K hK hb1 hb2 => ?_; simp only [argsV, enc, Nat.reduceAdd]
 clear hb1 hb2
 (repeat (any_goals (first | refine st ?_ | ((first | refine go2 fun xe hxe => ?_ | with_reducible refine cnd_d (fun hq => ?_) fun hq => ?_) <;> conv => whnf) | ((with_reducible refine cnd_i (fun hq => ?_) fun hq => ?_) <;> ((try simp only [hqs] at hq) <;> (first | omega | conv => whnf))) | refine cr (hC) ?_ | ((with_reducible refine call_r ?_); (conv => whnf); (first | refine call_ex (pk_c b _ _ h (by omega) (by omega)) fun xv hxv => ?_ | refine call_ex (ddig_c b _ h (by omega)) fun xv hxv => ?_ | refine call_ex (dmem_c b _ _ h (by omega) (by omega)) fun xv hxv => ?_); conv => whnf) | refine co (hB) ?_)))
 all_goals refine wrg_i ?_ ?_ ?_
 all_goals first | omega | (rw [List.length_set]; omega) | omega | exact hsm.2 | exact wsm_cut hsm.2 | exact wsm_set hsm.2 hxe | (exact wsm_set hsm.2 (by assumption))
end Go.Proofs.YtjjddgpdoibcoaaGreat.Am
namespace Go.Proofs.YtjjddgpdoibcoaaGreat.Am
open Go
attribute [local irreducible] Mk Need Ari Get Idx Cnd CallM CallA Opt Unch At ConV
set_option maxRecDepth 10000
end Go.Proofs.YtjjddgpdoibcoaaGreat.Am
namespace Go.Proofs.YtjjddgpdoibcoaaGreat.Am
open Go
attribute [local irreducible] Mk Need Ari Get Idx Cnd CallM CallA Opt Unch At ConV
set_option maxRecDepth 10000
end Go.Proofs.YtjjddgpdoibcoaaGreat.Am
namespace Go.Proofs.YtjjddgpdoibcoaaGreat.Am
open Go
theorem fit_two {w : Wrl} (hw : WOK w) {i k : Nat} {p q : Ppl} (hk : k < i) (hp : w.props[i]? = some p) (hq : w.props[k]? = some q) (h1 : p.v.round = q.v.round) (h2 : p.v.author = q.v.author) : p.v.author = w.bad ∧ both w.bad p.members q.members = false := by
 have h := pw_get hw.fit hk hq hp
 unfold fitP at h
 rw [slt_iff.2 ⟨h1, h2⟩] at h
 have h : vEq p.v q.v = false ∧ p.v.author = w.bad ∧ both w.bad p.members q.members = false := by simpa using h
 exact h.2
theorem ins_wei {c : List Int} : ∀ {ms : List Int} {m : Int}, m ∉ ms → wei c (insM ms m) = wei c ms + c.getD m.toNat 0
 | [], m, _ => by simp [insM, wei]
 | x :: l, m, h => by
  simp only [List.mem_cons, not_or] at h
  unfold insM
  split
  ·have := ins_wei (c := c) h.2
   simp only [wei, List.map_cons, List.sum_cons] at this ⊢
   omega
  ·rw [if_neg fun e => h.1 e.symm]
   simp only [wei, List.map_cons, List.sum_cons]
   omega
theorem all_wei (c : List Int) : wei c ((List.range c.length).map fun i : Nat => (i : Int)) = tot c := by
 have : ((List.range c.length).map fun i : Nat => (i : Int)).map (fun m => c.getD m.toNat 0) = c := by
  apply List.ext_getElem?
  intro i
  simp only [List.map_map, List.getElem?_map]
  rcases Nat.lt_or_ge i c.length with h | h
  ·rw [List.getElem?_range h, List.getElem?_eq_getElem h]
   simp [List.getD_eq_getElem?_getD, List.getElem?_eq_getElem h]
  ·rw [List.getElem?_eq_none (by simpa using h), List.getElem?_eq_none h]
   rfl
 unfold wei tot
 rw [this]
theorem asc_nodup {l : List Int} (h : l.Pairwise (· < ·)) : l.Nodup := h.imp fun h => by omega
theorem two_wei {c a b : List Int} (hc : ∀ x ∈ c, 0 ≤ x) (ha : a.Pairwise (· < ·)) (hb : b.Pairwise (· < ·)) (ha1 : ∀ x ∈ a, 0 ≤ x ∧ x < c.length) (hb1 : ∀ x ∈ b, 0 ≤ x ∧ x < c.length) (hd : ∀ x ∈ a, x ∉ b) : wei c a + wei c b ≤ tot c := by
 have key : ∀ b : List Int, b.Nodup → (∀ x ∈ b, 0 ≤ x ∧ x < c.length) → (∀ x ∈ a, x ∉ b) → ∃ l : List Int, l.Pairwise (· < ·) ∧ (∀ x, x ∈ l ↔ x ∈ a ∨ x ∈ b) ∧ wei c l = wei c a + wei c b := by
  intro b
  induction b with
  | nil => exact fun _ _ _ => ⟨a, ha, fun x => by simp, by simp [wei]⟩
  | cons y b ih =>
   intro h1 h2 h3
   obtain ⟨n1, n2⟩ := List.nodup_cons.1 h1
   obtain ⟨l, l1, l2, l3⟩ := ih n2 (fun x hx => h2 x (by simp [hx])) fun x hx hb => h3 x hx (by simp [hb])
   refine ⟨insM l y, insM_asc l1, fun x => ?_, ?_⟩
   ·rw [insM_mem, l2, List.mem_cons]
    constructor
    ·rintro (h | h | h)
     ·exact .inr (.inl h)
     ·exact .inl h
     ·exact .inr (.inr h)
    ·rintro (h | h | h)
     ·exact .inr (.inl h)
     ·exact .inl h
     ·exact .inr (.inr h)
   ·rw [ins_wei (fun h => (l2 y).1 h |>.elim (fun ha => h3 y ha (by simp)) n1), l3]
    simp only [wei, List.map_cons, List.sum_cons]
    omega
 obtain ⟨l, l1, l2, l3⟩ := key b (asc_nodup hb) hb1 hd
 rw [← l3, ← all_wei]
 refine wei_le hc l1 ?_ fun x hx => ?_
 ·rw [List.pairwise_map]
  exact List.pairwise_lt_range.imp fun h => by omega
 ·have : 0 ≤ x ∧ x < c.length := ((l2 x).1 hx).elim (ha1 x) (hb1 x)
  exact List.mem_map.2 ⟨x.toNat, List.mem_range.2 (by omega), by omega⟩
theorem wei_but {c : List Int} {b : Int} : ∀ {a : List Int}, a.Nodup → wei c a = wei c (a.filter fun m => m != b) + if b ∈ a then c.getD b.toNat 0 else 0
 | [], _ => by simp [wei]
 | x :: l, h => by
  obtain ⟨h1, h2⟩ := List.nodup_cons.1 h
  have ih := wei_but (c := c) (b := b) h2
  by_cases e : x = b
  ·subst e
   rw [if_neg h1] at ih
   rw [if_pos (by simp), List.filter_cons, if_neg (by simp)]
   simp only [wei, List.map_cons, List.sum_cons] at ih ⊢
   omega
  ·rw [List.filter_cons, if_pos (by simpa using e)]
   have : (b ∈ x :: l) = (b ∈ l) := by simp [Ne.symm e]
   simp only [this]
   simp only [wei, List.map_cons, List.sum_cons] at ih ⊢
   omega
theorem quo_meet {c a b : List Int} {bad : Int} (hc : comV c = true) (hbad : badS c bad = true) (ha : mems c a = true) (hb : mems c b = true) (h1 : quo c ≤ wei c a) (h2 : quo c ≤ wei c b) : both bad a b = true := by
 cases hbo : both bad a b with
 | true => rfl
 | false =>
  exfalso
  have hno : ∀ m ∈ a, m ≠ bad → m ∉ b := fun m hm hne hmb => by
   have := both_iff.2 ⟨m, hne, hm, hmb⟩
   rw [hbo] at this
   cases this
  have a1 := mems_asc ha
  have a2 := mems_in ha
  have hp := (comV_iff.1 hc).1
  have hw := wei_but (c := c) (b := bad) (asc_nodup a1)
  have ht := two_wei (c := c) (a := a.filter fun m => m != bad) (b := b) (fun x hx => by have := hp x hx; omega) (a1.filter _) (mems_asc hb) (fun x hx => a2 x ((List.mem_filter.1 hx).1)) (mems_in hb) fun x hx => hno x ((List.mem_filter.1 hx).1) (by simpa using (List.mem_filter.1 hx).2)
  have hf := fau_bd hc
  have hle : (if bad ∈ a then c.getD bad.toNat 0 else 0) ≤ fau c := by
   split
   ·rename_i hm
    rcases badS_iff.1 hbad with h | ⟨-, h⟩
    ·have := a2 _ hm; omega
    ·exact h
   ·exact hf.1
  have hq : quo c = 2 * tot c / 3 + 1 := by
   have := tot_bd hc
   unfold quo
   rw [Int.tdiv_eq_ediv_of_nonneg (by omega)]
  omega
theorem done_slot {w : Wrl} (hw : WOK w) {i k : Nat} {p q : Ppl} (hk : k < i) (hp : w.props[i]? = some p) (hq : w.props[k]? = some q) (d1 : don w.com p = true) (d2 : don w.com q = true) (h1 : p.v.round = q.v.round) (h2 : p.v.author = q.v.author) : False := by
 have h := (fit_two hw hk hp hq h1 h2).2
 have m1 := (one_of hw (List.mem_of_getElem? hp)).2
 have m2 := (one_of hw (List.mem_of_getElem? hq)).2
 rw [quo_meet hw.com hw.bad m1 m2 (by simpa [don] using d1) (by simpa [don] using d2)] at h
 cases h
end Go.Proofs.YtjjddgpdoibcoaaGreat.Am
namespace Go.Proofs.YtjjddgpdoibcoaaGreat.Am
open Go
def still (w : Wrl) : Prop := ∀ m i : Nat, m < w.com.length → i < w.props.length → delB w m i = false
theorem sDel_le {w : Wrl} (h : WOK w) (m i : Int) : tsz w ≤ tsz (sDel w m i) := by
 rcases sDel_cases h m i with ⟨-, e⟩ | ⟨-, e⟩
 ·rw [e]; exact Nat.le_refl _
 ·omega
theorem delTo_eq {w : Wrl} (h : WOK w) (i : Int) : ∀ n : Nat, tsz (delTo w i n) ≤ tsz w → delTo w i n = w ∧ ∀ m : Nat, m < n → delB w m i = false
 | 0, _ => ⟨rfl, fun m hm => absurd hm (Nat.not_lt_zero m)⟩
 | n + 1, ht => by
  have ho := delTo_ok h i n
  have h1 := sDel_le ho n i
  have ht : tsz (sDel (delTo w i n) n i) ≤ tsz w := ht
  obtain ⟨e1, e2⟩ := delTo_eq h i n (by omega)
  show sDel (delTo w i n) n i = w ∧ _
  rw [e1] at ht ⊢
  rcases sDel_cases h n i with ⟨d1, d2⟩ | ⟨d1, d2⟩
  ·refine ⟨d2, fun m hm => ?_⟩
   rcases Nat.lt_or_ge m n with hlt | hge
   ·exact e2 m hlt
   ·obtain rfl : m = n := by omega
    exact d1
  ·omega
theorem passTo_eq {w : Wrl} (h : WOK w) : ∀ k : Nat, tsz (passTo w k) ≤ tsz w → passTo w k = w ∧ ∀ i m : Nat, i < k → m < w.com.length → delB w m i = false
 | 0, _ => ⟨rfl, fun i _ hi _ => absurd hi (Nat.not_lt_zero i)⟩
 | k + 1, ht => by
  have ho := passTo_ok h k
  have h1 := delTo_le ho k (passTo w k).com.length
  have ht : tsz (delTo (passTo w k) k (passTo w k).com.length) ≤ tsz w := ht
  obtain ⟨e1, e2⟩ := passTo_eq h k (by omega)
  show delTo (passTo w k) k (passTo w k).com.length = w ∧ _
  rw [e1] at ht ⊢
  obtain ⟨d1, d2⟩ := delTo_eq h k _ ht
  refine ⟨d1, fun i m hi hm => ?_⟩
  rcases Nat.lt_or_ge i k with hlt | hge
  ·exact e2 i m hlt hm
  ·obtain rfl : i = k := by omega
   exact d2 m hm
theorem sSpr_still : ∀ (n : Nat) {w : Wrl}, 1519 - tsz w ≤ n → WOK w → still (sSpr w) := by
 have fin : ∀ {w : Wrl}, WOK w → ¬ (tsz w < tsz (pass w) ∧ tsz (pass w) ≤ 1519) → still (pass w) := fun {w} h hn => by
  have := tsz_le (pass_ok h)
  obtain ⟨e1, e2⟩ := passTo_eq h w.props.length (show tsz (pass w) ≤ tsz w by omega)
  have e1 : pass w = w := e1
  rw [e1]
  exact fun m i hm hi => e2 i m hi hm
 intro n
 induction n with
 | zero =>
  intro w hn h
  rw [sSpr]
  split
  ·omega
  ·rename_i hh
   exact fin h hh
 | succ n ih =>
  intro w hn h
  rw [sSpr]
  split
  ·exact ih (by omega) (pass_ok h)
  ·rename_i hh
   exact fin h hh
theorem vot_good {w : Wrl} (hw : WOK w) {p : Ppl} (hp : p ∈ w.props) (hd : don w.com p = true) : ∃ m : Nat, (m : Int) ∈ p.members ∧ (m : Int) ≠ w.bad ∧ m < w.com.length := by
 have hm := (one_of hw hp).2
 have hq : quo w.com ≤ wei w.com p.members := by simpa [don] using hd
 by_cases hx : ∃ m ∈ p.members, m ≠ w.bad
 ·obtain ⟨m, h1, h2⟩ := hx
  have := mems_in hm m h1
  exact ⟨m.toNat, by rw [Int.toNat_of_nonneg this.1]; exact h1, by rw [Int.toNat_of_nonneg this.1]; exact h2, by omega⟩
 ·exfalso
  have hf : p.members.filter (fun m => m != w.bad) = [] := List.filter_eq_nil_iff.2 fun m h1 h2 => hx ⟨m, h1, by simpa using h2⟩
  have h1 := wei_but (c := w.com) (b := w.bad) (asc_nodup (mems_asc hm))
  rw [hf] at h1
  have hle : (if w.bad ∈ p.members then w.com.getD w.bad.toNat 0 else 0) ≤ fau w.com := by
   have hb := fau_bd hw.com
   split
   ·rename_i h2
    rcases badS_iff.1 hw.bad with h | ⟨-, h⟩
    ·have := mems_in hm _ h2; omega
    ·exact h
   ·exact hb.1
  have hb := fau_bd hw.com
  have ht := tot_bd hw.com
  have : quo w.com = 2 * tot w.com / 3 + 1 := by
   unfold quo
   rw [Int.tdiv_eq_ediv_of_nonneg (by omega)]
  have h0 : wei w.com [] = 0 := rfl
  omega
theorem done_eq {w : Wrl} (hw : WOK w) {p q : Ppl} (hp : p ∈ w.props) (hq : q ∈ w.props) (dp : don w.com p = true) (dq : don w.com q = true) (h1 : p.v.round = q.v.round) (h2 : p.v.author = q.v.author) : p = q := by
 obtain ⟨i, hi⟩ := List.getElem?_of_mem hp
 obtain ⟨k, hk⟩ := List.getElem?_of_mem hq
 rcases Nat.lt_trichotomy i k with h | h | h
 ·exact (done_slot hw h hk hi dq dp h1.symm h2.symm).elim
 ·subst h
  rw [hi] at hk
  exact Option.some.inj hk
 ·exact (done_slot hw h hi hk dp dq h1 h2).elim
theorem view_gd {w : Wrl} (hw : WOK w) {m : Nat} (hm : m < w.com.length) : w.views.getD m [] ∈ w.views := gd_mem (by rw [hw.vlen]; exact hm)
theorem still_all {w : Wrl} (hw : WOK w) (hs : still w) : ∀ (n : Nat) (p : Ppl), p ∈ w.props → don w.com p = true → p.v.round.toNat = n → ∀ m : Nat, m < w.com.length → (m : Int) ≠ w.bad → p.v ∈ w.views.getD m [] := by
 intro n
 induction n using Nat.strongRecOn with
 | ind n ih =>
  intro p hp hd hn m hm hb
  obtain ⟨i, hi⟩ := List.getElem?_of_mem hp
  have hil := (List.getElem?_eq_some_iff.1 hi).1
  have hdel := hs m i hm hil
  have hgood : good w m = true := good_iff.2 ⟨⟨by omega, by omega⟩, hb⟩
  have hin : inP w i = true := vIn_iff.2 ⟨by omega, by omega⟩
  have hpr : prop w i = p := by unfold prop; rw [Int.toNat_natCast]; exact getD_of hi
  have hvw : view w m = w.views.getD m [] := by unfold view; rw [Int.toNat_natCast]
  unfold delB at hdel
  rw [hgood, hin, hpr, hd, hvw] at hdel
  simp only [Bool.true_and] at hdel
  obtain ⟨k, k1, k2, k3⟩ := vot_good hw hp hd
  have hkp := hw.kp p hp k (by rw [hw.vlen]; exact k3) k2 (.inr k1)
  have hpar : parOK (w.views.getD m []) p.v = true := by
   rw [parOK_iff] at hkp ⊢
   intro q hq
   obtain ⟨u, u1, u2, u3⟩ := hasV_iff.1 (hkp q hq)
   obtain ⟨p', q1, q2, rfl⟩ := hw.knw _ (view_gd hw k3) u u1
   have h0 := (vtxS_ok (one_of hw q1).1).1.1
   exact hasV_iff.2 ⟨_, ih _ (by omega) p' q1 q2 rfl m hm hb, u2, u3⟩
  rw [hpar] at hdel
  have hh : hasV (w.views.getD m []) p.v.round p.v.author = true := by
   cases h : hasV (w.views.getD m []) p.v.round p.v.author with
   | true => rfl
   | false => rw [h] at hdel; cases hdel
  obtain ⟨u, u1, u2, u3⟩ := hasV_iff.1 hh
  obtain ⟨p', q1, q2, rfl⟩ := hw.knw _ (view_gd hw hm) u u1
  rw [done_eq hw hp q1 hd q2 u2.symm u3.symm]
  exact u1
end Go.Proofs.YtjjddgpdoibcoaaGreat.Am
namespace Go.Proofs.YtjjddgpdoibcoaaGreat.Am
open Go
theorem insM_len : ∀ (l : List Int) (m : Int), (insM l m).length = l.length + (if m ∈ l then 0 else 1) ∨ (insM l m).length = l.length + 1
 | [], m => .inr rfl
 | x :: l, m => by
  unfold insM
  split
  ·rename_i h
   rcases insM_len l m with ih | ih
   ·by_cases hm : m ∈ l
    ·rw [if_pos hm] at ih
     exact .inl (by rw [if_pos (by simp [hm])]; simp [ih])
    ·rw [if_neg hm] at ih
     exact .inr (by simp [ih])
   ·exact .inr (by simp [ih])
  ·split
   ·rename_i h
    exact .inl (by rw [if_pos (by simp [h])]; simp)
   ·exact .inr rfl
theorem pro_facts {w : Wrl} (_ : WOK w) (e : Evt) : ∃ (i0 d n : Nat), n + d ≤ 1 ∧ (sDo w e).props.length = w.props.length + n ∧ ∀ (k : Nat) (p : Ppl), w.props[k]? = some p → ∃ l, (sDo w e).props[k]? = some ⟨p.v, l⟩ ∧ (∀ m ∈ p.members, m ∈ l) ∧ l.length = p.members.length + (if k = i0 then d else 0) := by
 have same : ∀ u : Wrl, u.props = w.props → ∃ (i0 d n : Nat), n + d ≤ 1 ∧ u.props.length = w.props.length + n ∧ ∀ (k : Nat) (p : Ppl), w.props[k]? = some p → ∃ l, u.props[k]? = some ⟨p.v, l⟩ ∧ (∀ m ∈ p.members, m ∈ l) ∧ l.length = p.members.length + (if k = i0 then d else 0) := fun u hu =>
  ⟨0, 0, 0, by omega, by rw [hu]; rfl, fun k p hp => ⟨p.members, by rw [hu]; exact hp, fun _ h => h, by simp⟩⟩
 have app : ∀ v, ∃ (i0 d n : Nat), n + d ≤ 1 ∧ (addP w v).props.length = w.props.length + n ∧ ∀ (k : Nat) (p : Ppl), w.props[k]? = some p → ∃ l, (addP w v).props[k]? = some ⟨p.v, l⟩ ∧ (∀ m ∈ p.members, m ∈ l) ∧ l.length = p.members.length + (if k = i0 then d else 0) := fun v =>
  ⟨0, 0, 1, by omega, by simp [addP], fun k p hp => ⟨p.members, by show (w.props ++ _)[k]? = _; rw [List.getElem?_append_left (List.getElem?_eq_some_iff.1 hp).1]; exact hp, fun _ h => h, by simp⟩⟩
 have cnt : ∀ i m, inP w i = true → ∃ (i0 d n : Nat), n + d ≤ 1 ∧ (sCnt w i m).props.length = w.props.length + n ∧ ∀ (k : Nat) (p : Ppl), w.props[k]? = some p → ∃ l, (sCnt w i m).props[k]? = some ⟨p.v, l⟩ ∧ (∀ m ∈ p.members, m ∈ l) ∧ l.length = p.members.length + (if k = i0 then d else 0) := fun i m hi => by
  obtain ⟨h1, h2, -⟩ := prop_at hi
  obtain ⟨d, hd, hl⟩ : ∃ d, d ≤ 1 ∧ (insM (prop w i).members m).length = (prop w i).members.length + d := by
   rcases insM_len (prop w i).members m with h | h
   ·split at h
    ·exact ⟨0, by omega, h⟩
    ·exact ⟨1, by omega, h⟩
   ·exact ⟨1, by omega, h⟩
  refine ⟨i.toNat, d, 0, by omega, by simp [sCnt], fun k p hp => ?_⟩
  show ∃ l, (w.props.set i.toNat _)[k]? = _ ∧ _
  rw [List.getElem?_set]
  by_cases e : i.toNat = k
  ·subst e
   rw [h2] at hp
   obtain rfl := Option.some.inj hp
   rw [if_pos rfl, if_pos h1, if_pos rfl]
   exact ⟨_, rfl, fun x hx => insM_mem.2 (.inr hx), hl⟩
  ·rw [if_neg e, if_neg (Ne.symm e)]
   exact ⟨p.members, hp, fun _ h => h, rfl⟩
 unfold sDo
 split
 ·unfold sPrp
  split
  ·exact app _
  ·exact same _ rfl
 split
 ·unfold sVot
  split
  ·rename_i hb
   unfold votB at hb
   simp only [Bool.and_eq_true] at hb
   exact cnt _ _ hb.2.1
  ·exact same _ rfl
 split
 ·unfold sDel
  split
  ·exact same _ rfl
  ·exact same _ rfl
 split
 ·unfold sFrg
  split
  ·exact app _
  ·exact same _ rfl
 split
 ·unfold sBad
  split
  ·rename_i hb
   unfold badB at hb
   simp only [Bool.and_eq_true] at hb
   exact cnt _ _ hb.2
  ·exact same _ rfl
 ·exact same _ rfl
end Go.Proofs.YtjjddgpdoibcoaaGreat.Am
namespace Go.Proofs.YtjjddgpdoibcoaaGreat.Am
open Go
structure Grw (w u : Wrl) : Prop where
 com : u.com = w.com
 lead : u.lead = w.lead
 bad : u.bad = w.bad
 vlen : u.views.length = w.views.length
 views : ∀ m : Nat, ∀ v ∈ w.views.getD m [], v ∈ u.views.getD m []
 props : ∀ (k : Nat) (p : Ppl), w.props[k]? = some p → ∃ l, u.props[k]? = some ⟨p.v, l⟩ ∧ ∀ m ∈ p.members, m ∈ l
theorem Grw.refl (w : Wrl) : Grw w w := ⟨rfl, rfl, rfl, rfl, fun _ _ h => h, fun _ p h => ⟨p.members, h, fun _ h => h⟩⟩
theorem Grw.trans {w u x : Wrl} (h1 : Grw w u) (h2 : Grw u x) : Grw w x := by
 refine ⟨h2.com.trans h1.com, h2.lead.trans h1.lead, h2.bad.trans h1.bad, h2.vlen.trans h1.vlen, fun m v h => h2.views m v (h1.views m v h), fun k p h => ?_⟩
 obtain ⟨l, a1, a2⟩ := h1.props k p h
 obtain ⟨l2, b1, b2⟩ := h2.props k _ a1
 exact ⟨l2, b1, fun m hm => b2 m (a2 m hm)⟩
theorem Grw.plen {w u : Wrl} (h : Grw w u) : w.props.length ≤ u.props.length := by
 rcases Nat.lt_or_ge u.props.length w.props.length with hlt | hge
 ·obtain ⟨l, a1, -⟩ := h.props u.props.length _ (List.getElem?_eq_getElem hlt)
  have := (List.getElem?_eq_some_iff.1 a1).1
  omega
 ·exact hge
theorem grw_do {w : Wrl} (hw : WOK w) (e : Evt) : Grw w (sDo w e) := by
 obtain ⟨c1, c2, c3, c4⟩ := sDo_same w e
 obtain ⟨_, _, _, -, -, hp⟩ := pro_facts hw e
 refine ⟨c1, c2, c3, c4, fun m v hv => ?_, fun k p h => ?_⟩
 ·by_cases h3 : e.kind = 3
  ·have hd : sDo w e = sDel w e.a e.b := by unfold sDo; rw [if_neg (by omega), if_neg (by omega), if_pos h3]
   rw [hd]
   cases hb : delB w e.a e.b
   ·have : sDel w e.a e.b = w := by unfold sDel; rw [hb]; rfl
    rw [this]
    exact hv
   ·have hs : (sDel w e.a e.b).views = w.views.set e.a.toNat (insV (view w e.a) (prop w e.b).v) := by unfold sDel; rw [hb]; rfl
    rw [hs]
    have hg : good w e.a = true := by
     simp only [delB, Bool.and_eq_true] at hb
     exact hb.1
    have hvl := (hw.view hg).2.2
    rw [List.getD_eq_getElem?_getD, List.getElem?_set]
    by_cases em : e.a.toNat = m
    ·subst em
     rw [if_pos rfl, if_pos hvl]
     exact insV_mem.2 (.inr hv)
    ·rw [if_neg em, ← List.getD_eq_getElem?_getD]
     exact hv
  ·have : (sDo w e).views = w.views := by
    unfold sDo
    rw [if_neg h3]
    (repeat' split) <;> first | rfl | (simp only [sPrp, sVot, sFrg, sBad, sCnt, addP]; split <;> rfl)
   rw [this]
   exact hv
 ·obtain ⟨l, a1, a2, -⟩ := hp k p h
  exact ⟨l, a1, a2⟩
theorem grw_prp {w : Wrl} (hw : WOK w) (m d : Int) : Grw w (sPrp w m d) := by
 have := grw_do hw ⟨1, m, d, v0⟩
 exact this
theorem grw_vot {w : Wrl} (hw : WOK w) (m i : Int) : Grw w (sVot w m i) := by
 have := grw_do hw ⟨2, m, i, v0⟩
 exact this
theorem grw_del {w : Wrl} (hw : WOK w) (m i : Int) : Grw w (sDel w m i) := by
 have := grw_do hw ⟨3, m, i, v0⟩
 exact this
theorem grw_delTo {w : Wrl} (hw : WOK w) (i : Int) : ∀ n, Grw w (delTo w i n)
 | 0 => Grw.refl w
 | n + 1 => (grw_delTo hw i n).trans (grw_del (delTo_ok hw i n) _ _)
theorem grw_passTo {w : Wrl} (hw : WOK w) : ∀ k, Grw w (passTo w k)
 | 0 => Grw.refl w
 | k + 1 => (grw_passTo hw k).trans (grw_delTo (passTo_ok hw k) _ _)
theorem grw_spr : ∀ (n : Nat) {w : Wrl}, 1519 - tsz w ≤ n → WOK w → Grw w (sSpr w) := by
 intro n
 induction n with
 | zero =>
  intro w hn h
  rw [sSpr]
  split
  ·rename_i hh
   exact absurd hh (by omega)
  ·exact grw_passTo h _
 | succ n ih =>
  intro w hn h
  rw [sSpr]
  split
  ·rename_i hh
   have hh1 := hh.1
   exact (grw_passTo h _).trans (ih (w := pass w) (by omega) (pass_ok h))
  ·exact grw_passTo h _
theorem grw_votTo {w : Wrl} (hw : WOK w) (i : Int) : ∀ n, Grw w (votTo w i n)
 | 0 => Grw.refl w
 | n + 1 => (grw_votTo hw i n).trans (grw_vot (votTo_ok hw i n) _ _)
theorem grw_votsTo {w : Wrl} (hw : WOK w) : ∀ k, Grw w (votsTo w k)
 | 0 => Grw.refl w
 | k + 1 => (grw_votsTo hw k).trans (grw_votTo (votsTo_ok hw k) _ _)
theorem grw_prpTo {w : Wrl} (hw : WOK w) (r : Nat) : ∀ n, Grw w (prpTo w r n)
 | 0 => Grw.refl w
 | n + 1 => (grw_prpTo hw r n).trans (grw_prp (prpTo_ok hw r n) _ _)
theorem grw_rnd1 {w : Wrl} (hw : WOK w) : Grw w (rnd1 w) := (grw_votsTo hw _).trans (grw_spr _ (Nat.le_refl _) (votsTo_ok hw _))
theorem grw_rnd {w : Wrl} (hw : WOK w) (r : Nat) : Grw w (rnd w r) := ((grw_rnd1 hw).trans (grw_prpTo (rnd1_ok hw) r _)).trans (grw_rnd1 (prpTo_ok (rnd1_ok hw) _ _))
theorem grw_calm {w : Wrl} (hw : WOK w) : ∀ r, Grw w (calmTo w r)
 | 0 => grw_spr _ (Nat.le_refl _) hw
 | r + 1 => (grw_calm hw r).trans (grw_rnd (calmTo_ok hw r) r)
theorem auth_sub {g g' : List Vtx} (h : ∀ v ∈ g, v ∈ g') {r a : Int} (ha : a ∈ auth g r) : a ∈ auth g' r := by
 rw [auth_mem, hasV_iff] at ha ⊢
 obtain ⟨v, h1, h2⟩ := ha
 exact ⟨v, h v h1, h2⟩
theorem hgt_bd (c : List Int) (g : List Vtx) : -1 ≤ hgt c g ∧ hgt c g ≤ 30 := by
 have := hgtTo_lt c g 31
 unfold hgt
 omega
theorem hgt_sub {c : List Int} {g g' : List Vtx} (hg : graS c g = true) (hg' : graS c g' = true) (h : ∀ v ∈ g, v ∈ g') : hgt c g ≤ hgt c g' := by
 have hb := hgt_bd c g
 by_cases h0 : hgt c g < 0
 ·have := (hgt_bd c g').1
  omega
 ·have hk := graS_ok hg
  have hk' := graS_ok hg'
  obtain ⟨r, hr⟩ : ∃ r : Nat, hgt c g = r := ⟨(hgt c g).toNat, by omega⟩
  have h1 := (hgt_iff hk (r := r) (by omega)).2 (by omega)
  have hp := (comV_iff.1 hk.com).1
  have h2 := wei_le (c := c) (fun x hx => by have := hp x hx; omega) (auth_asc hk.pw r) (auth_asc hk'.pw r) fun x hx => auth_sub h hx
  have h3 := (hgt_iff hk' (r := r) (by omega)).1 (by omega)
  omega
theorem asc_extV : ∀ {a b : List Vtx}, (a.Pairwise fun a b => bef a b = true) → (b.Pairwise fun a b => bef a b = true) → (∀ x, x ∈ a ↔ x ∈ b) → a = b := by
 have irr : ∀ x : Vtx, bef x x = false := fun x => by
  rw [Bool.eq_false_iff]
  intro h
  simp only [bef, Bool.or_eq_true, Bool.and_eq_true, decide_eq_true_eq] at h
  omega
 intro a
 induction a with
 | nil =>
  intro b _ _ h
  match b with
  | [] => rfl
  | y :: b => exact absurd ((h y).2 (by simp)) (by simp)
 | cons x a ih =>
  intro b h1 h2 h
  match b, h2, h with
  | [], _, h => exact absurd ((h x).1 (by simp)) (by simp)
  | y :: b, h2, h =>
   obtain ⟨a1, a2⟩ := List.pairwise_cons.1 h1
   obtain ⟨b1, b2⟩ := List.pairwise_cons.1 h2
   have e : x = y := by
    rcases List.mem_cons.1 ((h x).1 (by simp)) with e | hx
    ·exact e
    rcases List.mem_cons.1 ((h y).2 (by simp)) with e | hy
    ·exact e.symm
    have := bef_trans (b1 x hx) (a1 y hy)
    rw [irr] at this
    cases this
   subst e
   rw [ih a2 b2 fun z => ?_]
   constructor
   ·intro hz
    rcases List.mem_cons.1 ((h z).1 (by simp [hz])) with e | hz2
    ·have := a1 z hz
     rw [e, irr] at this
     cases this
    ·exact hz2
   ·intro hz
    rcases List.mem_cons.1 ((h z).2 (by simp [hz])) with e | hz2
    ·have := b1 z hz
     rw [e, irr] at this
     cases this
    ·exact hz2
theorem still_evn {w : Wrl} (hw : WOK w) (hs : still w) {m k : Nat} (hm : m < w.com.length) (hb : (m : Int) ≠ w.bad) (hk : k < w.com.length) (hkb : (k : Int) ≠ w.bad) : w.views.getD m [] = w.views.getD k [] := by
 have key : ∀ {m k : Nat}, m < w.com.length → (m : Int) ≠ w.bad → k < w.com.length → (k : Int) ≠ w.bad → ∀ x ∈ w.views.getD m [], x ∈ w.views.getD k [] := fun {m k} hm _ hk hkb x hx => by
  obtain ⟨p, p1, p2, rfl⟩ := hw.knw _ (view_gd hw hm) x hx
  exact still_all hw hs _ p p1 p2 rfl k hk hkb
 exact asc_extV (graS_ok (hw.gra _ (view_gd hw hm))).pw (graS_ok (hw.gra _ (view_gd hw hk))).pw fun x => ⟨key hm hb hk hkb x, key hk hkb hm hb x⟩
theorem prop_hgt {w : Wrl} (hw : WOK w) {p : Ppl} (hp : p ∈ w.props) {m : Nat} (hm : m < w.com.length) (hb : (m : Int) ≠ w.bad) (ha : p.v.author = m) : p.v.round ≤ hgt w.com (w.views.getD m []) + 1 := by
 have hkp := hw.kp p hp m (by rw [hw.vlen]; exact hm) hb (.inl ha.symm)
 have hok := vtxS_ok (one_of hw hp).1
 have hg := graS_ok (hw.gra _ (view_gd hw hm))
 have hbd := hgt_bd w.com (w.views.getD m [])
 by_cases h0 : p.v.round = 0
 ·omega
 ·obtain ⟨r, hr⟩ : ∃ r : Nat, p.v.round - 1 = r := ⟨(p.v.round - 1).toNat, by omega⟩
  have hp0 := (comV_iff.1 hg.com).1
  have hq : quo w.com ≤ wei w.com p.v.parents := by
   have := (one_of hw hp).1
   simp only [vtxS, Bool.and_eq_true] at this
   have h5 := this.2.2.2.2
   rw [if_neg h0] at h5
   simpa using h5
  have h2 := wei_le (c := w.com) (fun x hx => by have := hp0 x hx; omega) (mems_asc hok.2.2.1) (auth_asc hg.pw r) fun x hx => by
   rw [parOK_iff] at hkp
   rw [auth_mem, ← hr]
   exact hkp x hx
  have h3 := (hgt_iff hg (r := r) (by omega)).1 (by omega)
  omega
theorem vtx_prp {w : Wrl} (hw : WOK w) {m : Nat} (hm : m < w.com.length) {d : Int} (hd : 0 ≤ d ∧ d ≤ 990) (hh : hgt w.com (w.views.getD m []) < 30) : vtxS w.com (prpV w m d) = true := by
 have hg := graS_ok (hw.gra _ (view_gd hw hm))
 have hbd := hgt_bd w.com (w.views.getD m [])
 have hv : view w m = w.views.getD m [] := by unfold view; rw [Int.toNat_natCast]
 unfold vtxS prpV
 rw [hv]
 simp only [Bool.and_eq_true, vIn_iff]
 refine ⟨by omega, by unfold hasM; rw [vIn_iff]; omega, ?_, hd, ?_⟩
 ·split
  ·exact auth_mems hg _
  ·exact mems_nil _
 ·by_cases h0 : hgt w.com (w.views.getD m []) + 1 = 0
  ·rw [if_pos h0, if_neg (by omega)]
   rfl
  ·rw [if_neg h0, if_pos (by omega)]
   obtain ⟨r, hr⟩ : ∃ r : Nat, hgt w.com (w.views.getD m []) = r := ⟨(hgt w.com (w.views.getD m [])).toNat, by omega⟩
   rw [hr]
   exact decide_eq_true ((hgt_iff hg (r := r) (by omega)).2 (by omega))
theorem prpTo_views (w : Wrl) (r : Nat) : ∀ n, (prpTo w r n).views = w.views ∧ (prpTo w r n).bad = w.bad
 | 0 => ⟨rfl, rfl⟩
 | n + 1 => by
  have h := prpTo_views w r n
  show (sPrp _ _ _).views = _ ∧ (sPrp _ _ _).bad = _
  unfold sPrp
  split <;> exact h
theorem prpTo_src {w : Wrl} (hw : WOK w) (r : Nat) : ∀ (n : Nat) (p : Ppl), p ∈ (prpTo w r n).props → (∃ q ∈ w.props, q.v = p.v) ∨ ∃ j : Nat, j < n ∧ p.v.author = j
 | 0, p, hp => .inl ⟨p, hp, rfl⟩
 | n + 1, p, hp => by
  have hp : p ∈ (sPrp (prpTo w r n) n (7 * r + n)).props := hp
  unfold sPrp at hp
  split at hp
  ·rcases List.mem_append.1 hp with hp | hp
   ·rcases prpTo_src hw r n p hp with h | ⟨j, j1, j2⟩
    ·exact .inl h
    ·exact .inr ⟨j, by omega, j2⟩
   ·obtain rfl := List.mem_singleton.1 hp
    exact .inr ⟨n, by omega, rfl⟩
  ·rcases prpTo_src hw r n p hp with h | ⟨j, j1, j2⟩
   ·exact .inl h
   ·exact .inr ⟨j, by omega, j2⟩
theorem prp_all {w : Wrl} (hw : WOK w) (r : Nat) (hr : r ≤ 12) : ∀ n : Nat, n ≤ w.com.length → (prpTo w r n).props.length < 220 → ∀ m : Nat, m < n → (m : Int) ≠ w.bad → hgt w.com (w.views.getD m []) < 30 → ∃ p ∈ (prpTo w r n).props, p.v.author = m ∧ p.v.round = hgt w.com (w.views.getD m []) + 1 ∧ ((∃ q ∈ w.props, q.v = p.v) ∨ (0 ≤ hgt w.com (w.views.getD m []) → p.v.parents = auth (w.views.getD m []) (hgt w.com (w.views.getD m []))))
 | 0, _, _, m, hm, _, _ => absurd hm (Nat.not_lt_zero m)
 | n + 1, hn, hl, m, hm, hb, hh => by
  have ho := prpTo_ok hw r n
  have hgr := grw_prp ho n (7 * r + n)
  have hle := hgr.plen
  have hl : (sPrp (prpTo w r n) n (7 * r + n)).props.length < 220 := hl
  show ∃ p ∈ (sPrp (prpTo w r n) n (7 * r + n)).props, _
  rcases Nat.lt_or_ge m n with hlt | hge
  ·obtain ⟨p, p1, p2, p3⟩ := prp_all hw r hr n (by omega) (by omega) m hlt hb hh
   obtain ⟨k, hk⟩ := List.getElem?_of_mem p1
   obtain ⟨l, a1, -⟩ := hgr.props k p hk
   exact ⟨_, List.mem_of_getElem? a1, p2, p3⟩
  ·obtain rfl : m = n := by omega
   have hc := prpTo_com w r m
   obtain ⟨hv, hbd⟩ := prpTo_views w r m
   have h7 := hw.len
   have hvt := vtx_prp ho (m := m) (by rw [hc]; omega) (d := 7 * r + m) (by omega) (by rw [hc, hv]; exact hh)
   have hvw : view (prpTo w r m) m = w.views.getD m [] := by unfold view; rw [Int.toNat_natCast, hv]
   have hgood : good (prpTo w r m) m = true := good_iff.2 ⟨by rw [hc]; omega, by rw [hbd]; exact hb⟩
   have hrd : (prpV (prpTo w r m) m (7 * r + m)).round = hgt w.com (w.views.getD m []) + 1 := by unfold prpV; rw [hvw, hc]
   cases hp : prpB (prpTo w r m) m (7 * r + m)
   ·have hx : nxt (prpTo w r m).props m > hgt w.com (w.views.getD m []) + 1 := by
     unfold prpB at hp
     rw [hgood, hvt, hrd, show vIn (7 * (r : Int) + m) 0 990 = true from vIn_iff.2 (by omega), decide_eq_true (show (prpTo w r m).props.length < 220 by omega)] at hp
     simp only [Bool.true_and, Bool.and_true, decide_eq_false_iff_not] at hp
     omega
    have hs : sPrp (prpTo w r m) m (7 * r + m) = prpTo w r m := by unfold sPrp; rw [hp]; rfl
    rw [hs]
    have hgb := hgt_bd w.com (w.views.getD m [])
    by_cases hex : ∃ q ∈ (prpTo w r m).props, q.v.author = m ∧ hgt w.com (w.views.getD m []) + 1 ≤ q.v.round
    ·obtain ⟨q, q1, q2, q3⟩ := hex
     have := prop_hgt ho q1 (m := m) (by rw [hc]; omega) (by rw [hbd]; exact hb) q2
     rw [hc, hv] at this
     refine ⟨q, q1, q2, by omega, ?_⟩
     rcases prpTo_src hw r m q q1 with h | ⟨j, j1, j2⟩
     ·exact .inl h
     ·rw [j2] at q2
      exact absurd q2 (by omega)
    ·have := nxt_le (ps := (prpTo w r m).props) (m := m) (r := hgt w.com (w.views.getD m []) + 1) (by omega) fun p hp ha => by
      rcases Int.lt_or_le p.v.round (hgt w.com (w.views.getD m []) + 1) with h | h
      ·omega
      ·exact absurd ⟨p, hp, ha, h⟩ hex
     omega
   ·have hs : sPrp (prpTo w r m) m (7 * r + m) = addP (prpTo w r m) (prpV (prpTo w r m) m (7 * r + m)) := by unfold sPrp; rw [hp]; rfl
    rw [hs]
    refine ⟨⟨prpV (prpTo w r m) m (7 * r + m), []⟩, by simp [addP], rfl, hrd, .inr fun h0 => ?_⟩
    show (if 0 < hgt (prpTo w r m).com (view (prpTo w r m) m) + 1 then auth (view (prpTo w r m) m) (hgt (prpTo w r m).com (view (prpTo w r m) m)) else []) = _
    rw [hvw, hc, if_pos (by omega)]
theorem vot_in {w : Wrl} (hw : WOK w) {m i : Nat} {p : Ppl} (hp : w.props[i]? = some p) (hm : m < w.com.length) (hb : (m : Int) ≠ w.bad) (ha : p.v.author ≠ w.bad) (hpar : parOK (w.views.getD m []) p.v = true) : ∃ l, (sVot w m i).props[i]? = some ⟨p.v, l⟩ ∧ (m : Int) ∈ l := by
 have hil := (List.getElem?_eq_some_iff.1 hp).1
 have hgood : good w m = true := good_iff.2 ⟨⟨by omega, by omega⟩, hb⟩
 have hin : inP w i = true := vIn_iff.2 ⟨by omega, by omega⟩
 have hpr : prop w i = p := by unfold prop; rw [Int.toNat_natCast]; exact getD_of hp
 have hvw : view w m = w.views.getD m [] := by unfold view; rw [Int.toNat_natCast]
 have hdb : dbl w m i = false := by
  rw [Bool.eq_false_iff]
  intro h
  unfold dbl at h
  obtain ⟨j, hj, h⟩ := List.any_eq_true.1 h
  rw [List.mem_range] at hj
  rw [hpr, List.getD_eq_getElem?_getD, List.getElem?_eq_getElem hj, Option.getD_some] at h
  simp only [Bool.and_eq_true, bne_iff_ne, slt_iff] at h
  obtain ⟨h1, ⟨h2, h3⟩, -⟩ := h
  have hq := List.getElem?_eq_getElem hj
  rcases Nat.lt_trichotomy i j with hlt | rfl | hlt
  ·exact ha (h3 ▸ (fit_two hw hlt hq hp h2 h3).1)
  ·exact h1 rfl
  ·exact ha ((fit_two hw hlt hp hq h2.symm h3.symm).1)
 have hv : votB w m i = true := by
  unfold votB
  rw [hgood, hin, hdb, hvw, hpr, hpar]
  rfl
 have hs : sVot w m i = sCnt w i m := by unfold sVot; rw [hv]; rfl
 rw [hs]
 refine ⟨insM p.members m, ?_, insM_mem.2 (.inl rfl)⟩
 show (w.props.set (i : Int).toNat ⟨(prop w i).v, insM (prop w i).members m⟩)[i]? = _
 rw [hpr, Int.toNat_natCast, List.getElem?_set, if_pos rfl, if_pos hil]
theorem votTo_in {w : Wrl} (hw : WOK w) {i : Nat} {p : Ppl} (hp : w.props[i]? = some p) (ha : p.v.author ≠ w.bad) : ∀ n : Nat, n ≤ w.com.length → (∀ m : Nat, m < n → (m : Int) ≠ w.bad → parOK (w.views.getD m []) p.v = true) → ∃ l, (votTo w i n).props[i]? = some ⟨p.v, l⟩ ∧ ∀ m : Nat, m < n → (m : Int) ≠ w.bad → (m : Int) ∈ l
 | 0, _, _ => ⟨p.members, hp, fun m hm => absurd hm (Nat.not_lt_zero m)⟩
 | n + 1, hn, hpar => by
  obtain ⟨l, a1, a2⟩ := votTo_in hw hp ha n (by omega) fun m hm => hpar m (by omega)
  have ho := votTo_ok hw i n
  have hg := grw_votTo hw i n
  have hg2 := grw_vot ho n i
  have hvs : (votTo w i n).views = w.views := by
   have : ∀ k, (votTo w i k).views = w.views := by
    intro k
    induction k with
    | zero => rfl
    | succ k ih =>
     show (sVot (votTo w i k) k i).views = _
     unfold sVot
     split <;> exact ih
   exact this n
  obtain ⟨l2, b1, b2⟩ := hg2.props i _ a1
  by_cases hb : (n : Int) = w.bad
  ·refine ⟨l2, b1, fun m hm hmb => b2 m (a2 m ?_ hmb)⟩
   rcases Nat.lt_or_ge m n with h | h
   ·exact h
   ·obtain rfl : m = n := by omega
    exact absurd hb hmb
  ·obtain ⟨l3, c1, c2⟩ := vot_in ho a1 (m := n) (by rw [hg.com]; omega) (by rw [hg.bad]; exact hb) (by rw [hg.bad]; exact ha) (by rw [hvs]; exact hpar n (by omega) hb)
   rw [b1] at c1
   injection c1 with c1
   injection c1 with _ c1
   subst c1
   refine ⟨l2, b1, fun m hm hmb => ?_⟩
   rcases Nat.lt_or_ge m n with h | h
   ·exact b2 m (a2 m h hmb)
   ·obtain rfl : m = n := by omega
    exact c2
theorem votsTo_in {w : Wrl} (hw : WOK w) {i : Nat} {p : Ppl} (hp : w.props[i]? = some p) (ha : p.v.author ≠ w.bad) (hpar : ∀ m : Nat, m < w.com.length → (m : Int) ≠ w.bad → parOK (w.views.getD m []) p.v = true) : ∀ k : Nat, i < k → ∃ l, (votsTo w k).props[i]? = some ⟨p.v, l⟩ ∧ ∀ m : Nat, m < w.com.length → (m : Int) ≠ w.bad → (m : Int) ∈ l
 | 0, h => absurd h (Nat.not_lt_zero i)
 | k + 1, h => by
  have ho := votsTo_ok hw k
  have hg := grw_votsTo hw k
  have hg2 := grw_votTo ho (k : Int) (votsTo w k).com.length
  have hvs : ∀ k, (votsTo w k).views = w.views := by
   have h1 : ∀ (u : Wrl) (i : Int) (n : Nat), (votTo u i n).views = u.views := by
    intro u i n
    induction n with
    | zero => rfl
    | succ k ih =>
     show (sVot (votTo u i k) k i).views = _
     unfold sVot
     split <;> exact ih
   intro k
   induction k with
   | zero => rfl
   | succ k ih => exact (h1 _ _ _).trans ih
  rcases Nat.lt_or_ge i k with hlt | hge
  ·obtain ⟨l, a1, a2⟩ := votsTo_in hw hp ha hpar k hlt
   obtain ⟨l2, b1, b2⟩ := hg2.props i _ a1
   exact ⟨l2, b1, fun m hm hmb => b2 m (a2 m hm hmb)⟩
  ·obtain rfl : i = k := by omega
   obtain ⟨l, a1, -⟩ := hg.props i p hp
   obtain ⟨l2, b1, b2⟩ := votTo_in ho a1 (by rw [hg.bad]; exact ha) (votsTo w i).com.length (Nat.le_refl _) fun m hm hmb => by
    rw [hvs]
    exact hpar m (by rw [← hg.com]; exact hm) (by rw [← hg.bad]; exact hmb)
   exact ⟨l2, b1, fun m hm hmb => b2 m (by rw [hg.com]; exact hm) (by rw [hg.bad]; exact hmb)⟩
theorem cor_quo {c ms : List Int} {b : Int} (hc : comV c = true) (hb : badS c b = true) (ha : ms.Pairwise (· < ·)) (h : ∀ m : Nat, m < c.length → (m : Int) ≠ b → (m : Int) ∈ ms) : quo c ≤ wei c ms := by
 have hall := all_wei c
 have hp := (comV_iff.1 hc).1
 have hasc : ((List.range c.length).map fun i : Nat => (i : Int)).Pairwise (· < ·) := by
  rw [List.pairwise_map]
  exact List.pairwise_lt_range.imp fun h => by omega
 generalize hL : ((List.range c.length).map fun i : Nat => (i : Int)) = L at hall hasc
 have hin : ∀ x ∈ L, 0 ≤ x ∧ x < c.length := fun x hx => by
  rw [← hL] at hx
  obtain ⟨i, hi, rfl⟩ := List.mem_map.1 hx
  rw [List.mem_range] at hi
  omega
 have h1 := wei_but (c := c) (b := b) (asc_nodup hasc)
 have h2 := wei_le (c := c) (fun x hx => by have := hp x hx; omega) (hasc.filter fun m => m != b) ha fun x hx => by
  obtain ⟨x1, x2⟩ := List.mem_filter.1 hx
  have := hin x x1
  have := h x.toNat (by omega) (by rw [Int.toNat_of_nonneg this.1]; simpa using x2)
  rwa [Int.toNat_of_nonneg (hin x x1).1] at this
 have hle : (if b ∈ L then c.getD b.toNat 0 else 0) ≤ fau c := by
  have hf := fau_bd hc
  split
  ·rename_i hm
   rcases badS_iff.1 hb with h | ⟨-, h⟩
   ·have := hin _ hm; omega
   ·exact h
  ·exact hf.1
 have ht := tot_bd hc
 have hq : quo c = 2 * tot c / 3 + 1 := by
  unfold quo
  rw [Int.tdiv_eq_ediv_of_nonneg (by omega)]
 have hf2 : fau c = (tot c - 1) / 3 := by
  unfold fau
  rw [Int.tdiv_eq_ediv_of_nonneg (by omega)]
 omega
theorem rnd_in {w : Wrl} (hw : WOK w) (hs : still w) (r : Nat) (hr : r ≤ 12) (hl : (prpTo w r w.com.length).props.length < 220) {m : Nat} (hm : m < w.com.length) (hb : (m : Int) ≠ w.bad) (hh : hgt w.com (w.views.getD m []) < 30) {k : Nat} (hk : k < w.com.length) (hkb : (k : Int) ≠ w.bad) : ∃ v ∈ (rnd1 (prpTo w r w.com.length)).views.getD m [], v.author = k ∧ v.round = hgt w.com (w.views.getD m []) + 1 ∧ ((∃ q ∈ w.props, q.v = v) ∨ (0 ≤ hgt w.com (w.views.getD m []) → v.parents = auth (w.views.getD m []) (hgt w.com (w.views.getD m [])))) := by
 have hu := prpTo_ok hw r w.com.length
 have huc := prpTo_com w r w.com.length
 obtain ⟨huv, hub⟩ := prpTo_views w r w.com.length
 have hall := prp_all hw r hr w.com.length (Nat.le_refl _) hl
 generalize prpTo w r w.com.length = u at *
 have hx := rnd1_ok hu
 have hst : still (rnd1 u) := sSpr_still _ (Nat.le_refl _) (votsTo_ok hu _)
 have hgs := grw_spr _ (Nat.le_refl _) (votsTo_ok hu u.props.length)
 have hg := grw_rnd1 hu
 have hev : w.views.getD k [] = w.views.getD m [] := still_evn hw hs hk hkb hm hb
 obtain ⟨p, p1, p2, p3, p4⟩ := hall k hk hkb (by rw [hev]; exact hh)
 rw [hev] at p3 p4
 obtain ⟨i, hi⟩ := List.getElem?_of_mem p1
 have hil := (List.getElem?_eq_some_iff.1 hi).1
 have hkp := hu.kp p p1 k (by rw [hu.vlen, huc]; exact hk) (by rw [hub]; exact hkb) (.inl p2.symm)
 rw [huv] at hkp
 obtain ⟨l, a1, a2⟩ := votsTo_in hu hi (by rw [p2, hub]; exact hkb) (fun j hj hjb => by
  rw [huv, still_evn hw hs (by rw [← huc]; exact hj) (by rw [← hub]; exact hjb) hk hkb]
  exact hkp) u.props.length hil
 obtain ⟨l2, b1, b2⟩ := hgs.props i _ a1
 have b1 : (rnd1 u).props[i]? = some ⟨p.v, l2⟩ := b1
 have hone := one_of hx (List.mem_of_getElem? b1)
 have hd : don (rnd1 u).com ⟨p.v, l2⟩ = true := by
  unfold don
  rw [hg.com]
  refine decide_eq_true (cor_quo hu.com hu.bad ?_ fun j hj hjb => b2 _ (a2 j hj hjb))
  exact mems_asc hone.2
 have hin := still_all hx hst _ _ (List.mem_of_getElem? b1) hd rfl m (by rw [hg.com, huc]; exact hm) (by rw [hg.bad, hub]; exact hb)
 exact ⟨p.v, hin, p2, p3, p4⟩
theorem rnd_grows {w : Wrl} (hw : WOK w) (hs : still w) (r : Nat) (hr : r ≤ 12) (hl : (prpTo w r w.com.length).props.length < 220) {m : Nat} (hm : m < w.com.length) (hb : (m : Int) ≠ w.bad) (hh : hgt w.com (w.views.getD m []) < 30) : hgt w.com (w.views.getD m []) + 1 ≤ hgt w.com ((rnd1 (prpTo w r w.com.length)).views.getD m []) := by
 have hgb := hgt_bd w.com (w.views.getD m [])
 obtain ⟨h, hhe⟩ : ∃ h : Nat, hgt w.com (w.views.getD m []) + 1 = h := ⟨(hgt w.com (w.views.getD m []) + 1).toNat, by omega⟩
 have key : ∀ k : Nat, k < w.com.length → (k : Int) ≠ w.bad → (k : Int) ∈ auth ((rnd1 (prpTo w r w.com.length)).views.getD m []) h := fun k hk hkb => by
  obtain ⟨v, v1, v2, v3, -⟩ := rnd_in hw hs r hr hl hm hb hh hk hkb
  rw [auth_mem, hasV_iff]
  exact ⟨v, v1, by omega, v2⟩
 have hu := prpTo_ok hw r w.com.length
 have huc := prpTo_com w r w.com.length
 have hx := rnd1_ok hu
 have hg := grw_rnd1 hu
 have hgx := graS_ok (hx.gra _ (view_gd hx (m := m) (by rw [hg.com, huc]; exact hm)))
 rw [hg.com, huc] at hgx
 rw [hhe]
 exact (hgt_iff hgx (by omega)).1 (cor_quo hw.com hw.bad (auth_asc hgx.pw _) key)
theorem calm_hgt {w : Wrl} (hw : WOK w) : ∀ r : Nat, r ≤ 12 → (calmTo w r).props.length < 220 → ∀ m : Nat, m < w.com.length → (m : Int) ≠ w.bad → hgt w.com ((calmTo w r).views.getD m []) < 30 → hgt w.com (w.views.getD m []) + r ≤ hgt w.com ((calmTo w r).views.getD m [])
 | 0, _, _, m, hm, hb, _ => by
  have hg := grw_calm hw 0
  have ho := calmTo_ok hw 0
  have h2 := ho.gra _ (view_gd ho (m := m) (by rw [hg.com]; exact hm))
  rw [hg.com] at h2
  have := hgt_sub (hw.gra _ (view_gd hw hm)) h2 (hg.views m)
  omega
 | r + 1, hr, hl, m, hm, hb, h30 => by
  have ho := calmTo_ok hw r
  have hg := grw_calm hw r
  have hg1 := grw_rnd1 ho
  have ho1 := rnd1_ok ho
  have hg2 := grw_prpTo ho1 r (rnd1 (calmTo w r)).com.length
  have ho2 := prpTo_ok ho1 r (rnd1 (calmTo w r)).com.length
  have hg3 := grw_rnd1 ho2
  have hst : still (rnd1 (calmTo w r)) := sSpr_still _ (Nat.le_refl _) (votsTo_ok ho _)
  have hl : (rnd1 (prpTo (rnd1 (calmTo w r)) r (rnd1 (calmTo w r)).com.length)).props.length < 220 := hl
  have h30 : hgt w.com ((rnd1 (prpTo (rnd1 (calmTo w r)) r (rnd1 (calmTo w r)).com.length)).views.getD m []) < 30 := h30
  show _ ≤ hgt w.com ((rnd1 (prpTo (rnd1 (calmTo w r)) r (rnd1 (calmTo w r)).com.length)).views.getD m [])
  have l1 := hg1.plen
  have l2 := hg2.plen
  have l3 := hg3.plen
  have hc1 : (rnd1 (calmTo w r)).com = w.com := hg1.com.trans hg.com
  have hb1 : (rnd1 (calmTo w r)).bad = w.bad := hg1.bad.trans hg.bad
  have v1 := hw.gra _ (view_gd hw hm)
  have v2 := ho.gra _ (view_gd ho (m := m) (by rw [hg.com]; exact hm))
  have v3 := ho1.gra _ (view_gd ho1 (m := m) (by rw [hc1]; exact hm))
  have ho3 := rnd1_ok ho2
  have hc3 : (rnd1 (prpTo (rnd1 (calmTo w r)) r (rnd1 (calmTo w r)).com.length)).com = w.com := (hg2.trans hg3).com.trans hc1
  have v4 := ho3.gra _ (view_gd ho3 (m := m) (by rw [hc3]; exact hm))
  rw [hg.com] at v2
  rw [hc1] at v3
  rw [hc3] at v4
  have s1 := hgt_sub v2 v3 (hg1.views m)
  have s2 := hgt_sub v3 v4 ((hg2.trans hg3).views m)
  have ih := calm_hgt hw r (by omega) (by omega) m hm hb (by omega)
  have hgr := rnd_grows ho1 hst r (by omega) (by omega) (m := m) (by rw [hc1]; exact hm) (by rw [hb1]; exact hb) (by rw [hc1]; omega)
  rw [hc1] at hgr
  rw [hc1]
  omega
end Go.Proofs.YtjjddgpdoibcoaaGreat.Am
