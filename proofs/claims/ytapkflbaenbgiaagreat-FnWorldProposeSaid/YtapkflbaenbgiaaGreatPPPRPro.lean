/- The laws of runs: what is proposed, voted for, certified. FnWorldPropose's law holds: it returns true for all bytes, and leaves its argument as it was. -/
import Derived.Test.YtapkflbaenbgiaaGreatRows
import Derived.Test.YtapkflbaenbgiaaGreatPP10
namespace Go.Proofs.YtapkflbaenbgiaaGreat.Am
set_option linter.unusedSimpArgs false
set_option linter.unusedVariables false
open Go
attribute [local irreducible] Mk Need Ari Get Idx Cnd CallM CallA Opt Unch At ConV
set_option maxRecDepth 10000
theorem lawPro_c (c : List Int) (hc : ∀ x ∈ c, 0 ≤ x ∧ x ≤ 255) : ConV Tryz.prog 3 [.lst (.int .u8) c] [] (.bool true) [] := by
  obtain ⟨⟨w, es⟩, ⟨hw, he1, he2⟩, hd⟩ := dpl_c c hc
  dsimp only at hw he1 he2 hd
  have hI := iply_c w es (fun g hg => by have := hw.vl g hg; omega) (by omega)
  have hS := swpl_c w es (by have := hw.len; omega) (by omega) (fun e he => by have := he2 e he; omega)
  rw [wok_iff.2 hw, Bool.and_true] at hI hS
  refine con_eq Θ_ok Tryz.func3 rfl rfl false 0 4 rfl rfl rfl rfl fun K hK hb1 hb2 => ?_; simp only [argsV, enc, Nat.reduceAdd]
  clear hb1 hb2
  by_cases hl : 1048576 < (c.length : Int)
  · (repeat (any_goals (first | refine st ?_ | ((first | refine go2 fun xe hxe => ?_ | with_reducible refine cnd_d (fun hq => ?_) fun hq => ?_) <;> conv => whnf) | ((with_reducible refine cnd_i (fun hq => ?_) fun hq => ?_) <;> ((try simp only [hqs] at hq) <;> (first | omega | conv => whnf))))))
    (try any_goals (first | exact absurd trivial hq | exact absurd rfl hq | exact absurd hq (by omega) | (exfalso; simp at hq; done)))
    exact ⟨rfl, rfl⟩
  cases h80 : decide (es.length ≤ 80)
  · simp only [h80, Bool.false_eq_true, if_false] at hI hS
    (repeat (any_goals (first | refine st ?_ | ((first | refine go2 fun xe hxe => ?_ | with_reducible refine cnd_d (fun hq => ?_) fun hq => ?_) <;> conv => whnf) | ((with_reducible refine cnd_i (fun hq => ?_) fun hq => ?_) <;> ((try simp only [hqs] at hq) <;> (first | omega | conv => whnf))) | refine cr (hd) ?_ | refine cr (hI) ?_ | refine cr (hS) ?_ | refine cr (sWrl_z) ?_)))
    (try any_goals (first | exact absurd trivial hq | exact absurd rfl hq | exact absurd hq (by omega) | (exfalso; simp at hq; done)))
    exact ⟨rfl, rfl⟩
  · simp only [h80, if_true] at hI hS
    have hu := sPlay_ok hw es
    generalize sPlay w es = u at *
    have hE := sWrl_e u
    have hpl := hu.plen
    (repeat (any_goals (first | refine st ?_ | ((first | refine go2 fun xe hxe => ?_ | with_reducible refine cnd_d (fun hq => ?_) fun hq => ?_) <;> conv => whnf) | ((with_reducible refine cnd_i (fun hq => ?_) fun hq => ?_) <;> ((try simp only [hqs] at hq) <;> (first | omega | conv => whnf))) | refine cr (hd) ?_ | refine cr (hI) ?_ | refine cr (hS) ?_ | refine cr (hE) ?_)))
    (try any_goals (first | exact absurd trivial hq | exact absurd rfl hq | exact absurd hq (by omega) | (exfalso; simp at hq; done)))
    refine at_loop hK [] [5, 9] (fun i : Nat => ⟨[(5, .ptr 4 0), (9, .int .i64 (i : Int))], [(4, .var 27 (wrlA u).cells)], 5⟩) (fun i => i ≤ u.props.length) (fun i => u.props.length - i) 0 (by simp) rfl ?_
    intro i hi
    by_cases hlt : i < u.props.length
    · have hx1 : u.props[i]? = some u.props[i] := List.getElem?_eq_getElem hlt
      generalize u.props[i] = p at *
      (repeat (any_goals (first | refine st ?_ | ((first | refine go2 fun xe hxe => ?_ | with_reducible refine cnd_d (fun hq => ?_) fun hq => ?_) <;> conv => whnf) | ((with_reducible refine cnd_i (fun hq => ?_) fun hq => ?_) <;> ((try simp only [hqs] at hq) <;> (first | omega | conv => whnf))))))
      (try any_goals (first | exact absurd trivial hq | exact absurd rfl hq | exact absurd hq (by omega) | (exfalso; simp at hq; done)))
      refine at_loop hK [] [5, 9, 10] (fun k : Nat => ⟨[(5, .ptr 4 0), (9, .int .i64 (i : Int)), (10, .int .i64 (k : Int))], [(4, .var 27 (wrlA u).cells)], 5⟩) (fun k => k ≤ i) (fun k => i - k) 0 (by simp) rfl ?_
      intro k hk
      by_cases hki : k < i
      · have hx2 : u.props[k]? = some u.props[k] := List.getElem?_eq_getElem (by omega)
        generalize u.props[k] = q at *
        have hf := fit_two hu hki hx1 hx2
        by_cases c1 : p.v.author = q.v.author
        · by_cases c2 : p.v.round = q.v.round
          · have c3 := (hf c2 c1).1
            (repeat (any_goals (first | refine st ?_ | ((first | refine go2 fun xe hxe => ?_ | with_reducible refine cnd_d (fun hq => ?_) fun hq => ?_) <;> conv => whnf) | ((with_reducible refine cnd_i (fun hq => ?_) fun hq => ?_) <;> ((try simp only [hqs] at hq) <;> (first | omega | conv => whnf))))))
            (try any_goals (first | exact absurd trivial hq | exact absurd rfl hq | exact absurd hq (by omega) | (exfalso; simp at hq; done)))
            exact ⟨k + 1, by omega, by omega, rfl⟩
          · (repeat (any_goals (first | refine st ?_ | ((first | refine go2 fun xe hxe => ?_ | with_reducible refine cnd_d (fun hq => ?_) fun hq => ?_) <;> conv => whnf) | ((with_reducible refine cnd_i (fun hq => ?_) fun hq => ?_) <;> ((try simp only [hqs] at hq) <;> (first | omega | conv => whnf))))))
            (try any_goals (first | exact absurd trivial hq | exact absurd rfl hq | exact absurd hq (by omega) | (exfalso; simp at hq; done)))
            exact ⟨k + 1, by omega, by omega, rfl⟩
        · (repeat (any_goals (first | refine st ?_ | ((first | refine go2 fun xe hxe => ?_ | with_reducible refine cnd_d (fun hq => ?_) fun hq => ?_) <;> conv => whnf) | ((with_reducible refine cnd_i (fun hq => ?_) fun hq => ?_) <;> ((try simp only [hqs] at hq) <;> (first | omega | conv => whnf))))))
          (try any_goals (first | exact absurd trivial hq | exact absurd rfl hq | exact absurd hq (by omega) | (exfalso; simp at hq; done)))
          exact ⟨k + 1, by omega, by omega, rfl⟩
      · (repeat (any_goals (first | refine st ?_ | ((first | refine go2 fun xe hxe => ?_ | with_reducible refine cnd_d (fun hq => ?_) fun hq => ?_) <;> conv => whnf) | ((with_reducible refine cnd_i (fun hq => ?_) fun hq => ?_) <;> ((try simp only [hqs] at hq) <;> (first | omega | conv => whnf))))))
        (try any_goals (first | exact absurd trivial hq | exact absurd rfl hq | exact absurd hq (by omega) | (exfalso; simp at hq; done)))
        exact ⟨i + 1, by omega, by omega, rfl⟩
    · (repeat (any_goals (first | refine st ?_ | ((first | refine go2 fun xe hxe => ?_ | with_reducible refine cnd_d (fun hq => ?_) fun hq => ?_) <;> conv => whnf) | ((with_reducible refine cnd_i (fun hq => ?_) fun hq => ?_) <;> ((try simp only [hqs] at hq) <;> (first | omega | conv => whnf))))))
      (try any_goals (first | exact absurd trivial hq | exact absurd rfl hq | exact absurd hq (by omega) | (exfalso; simp at hq; done)))
      exact ⟨rfl, rfl⟩
theorem lawUni_c (c : List Int) (hc : ∀ x ∈ c, 0 ≤ x ∧ x ≤ 255) : ConV Tryz.prog 4 [.lst (.int .u8) c] [] (.bool true) [] := by
  obtain ⟨⟨w, es⟩, ⟨hw, he1, he2⟩, hd⟩ := dpl_c c hc
  dsimp only at hw he1 he2 hd
  have hI := iply_c w es (fun g hg => by have := hw.vl g hg; omega) (by omega)
  have hS := swpl_c w es (by have := hw.len; omega) (by omega) (fun e he => by have := he2 e he; omega)
  rw [wok_iff.2 hw, Bool.and_true] at hI hS
  refine con_eq Θ_ok Tryz.func4 rfl rfl false 0 4 rfl rfl rfl rfl fun K hK hb1 hb2 => ?_; simp only [argsV, enc, Nat.reduceAdd]
  clear hb1 hb2
  by_cases hl : 1048576 < (c.length : Int)
  · (repeat (any_goals (first | refine st ?_ | ((first | refine go2 fun xe hxe => ?_ | with_reducible refine cnd_d (fun hq => ?_) fun hq => ?_) <;> conv => whnf) | ((with_reducible refine cnd_i (fun hq => ?_) fun hq => ?_) <;> ((try simp only [hqs] at hq) <;> (first | omega | conv => whnf))))))
    (try any_goals (first | exact absurd trivial hq | exact absurd rfl hq | exact absurd hq (by omega) | (exfalso; simp at hq; done)))
    exact ⟨rfl, rfl⟩
  cases h80 : decide (es.length ≤ 80)
  · simp only [h80, Bool.false_eq_true, if_false] at hI hS
    (repeat (any_goals (first | refine st ?_ | ((first | refine go2 fun xe hxe => ?_ | with_reducible refine cnd_d (fun hq => ?_) fun hq => ?_) <;> conv => whnf) | ((with_reducible refine cnd_i (fun hq => ?_) fun hq => ?_) <;> ((try simp only [hqs] at hq) <;> (first | omega | conv => whnf))) | refine cr (hd) ?_ | refine cr (hI) ?_ | refine cr (hS) ?_ | refine cr (sWrl_z) ?_)))
    (try any_goals (first | exact absurd trivial hq | exact absurd rfl hq | exact absurd hq (by omega) | (exfalso; simp at hq; done)))
    exact ⟨rfl, rfl⟩
  · simp only [h80, if_true] at hI hS
    have hu := sPlay_ok hw es
    generalize sPlay w es = u at *
    have hE := sWrl_e u
    have hpl := hu.plen
    have hC := icer_c u hu.sm
    have hce : cert u = cerL u.com u.props u.props.length := by simp [cert, wok_iff.2 hu]
    have hlen := cerL_len u.com u.props u.props.length
    have hasc := cerL_asc u.com u.props u.props.length
    have hmem := fun x => (cerL_mem (c := u.com) (ps := u.props) (n := u.props.length) (x := x)).1
    rw [← hce] at hlen hasc hmem
    generalize cert u = ce at *
    (repeat (any_goals (first | refine st ?_ | ((first | refine go2 fun xe hxe => ?_ | with_reducible refine cnd_d (fun hq => ?_) fun hq => ?_) <;> conv => whnf) | ((with_reducible refine cnd_i (fun hq => ?_) fun hq => ?_) <;> ((try simp only [hqs] at hq) <;> (first | omega | conv => whnf))) | refine cr (hd) ?_ | refine cr (hI) ?_ | refine cr (hS) ?_ | refine cr (hE) ?_ | refine cr (hC) ?_)))
    (try any_goals (first | exact absurd trivial hq | exact absurd rfl hq | exact absurd hq (by omega) | (exfalso; simp at hq; done)))
    refine at_loop hK [] [5, 9, 10] (fun i : Nat => ⟨[(5, .ptr 4 0), (9, .lst (.int .i64) ce), (10, .int .i64 (i : Int))], [(4, .var 27 (wrlA u).cells)], 5⟩) (fun i => i ≤ ce.length) (fun i => ce.length - i) 0 (by simp) rfl ?_
    intro i hi
    by_cases hlt : i < ce.length
    · have hx1 : ce[i]? = some ce[i] := List.getElem?_eq_getElem hlt
      obtain ⟨a1, a2, a3⟩ := hmem _ (List.getElem_mem hlt)
      have hxp : u.props[ce[i].toNat]? = some (u.props.getD ce[i].toNat p0) := by rw [List.getD_eq_getElem?_getD, List.getElem?_eq_getElem (by omega)]; rfl
      generalize u.props.getD ce[i].toNat p0 = p at *
      generalize ce[i] = x at *
      (repeat (any_goals (first | refine st ?_ | ((first | refine go2 fun xe hxe => ?_ | with_reducible refine cnd_d (fun hq => ?_) fun hq => ?_) <;> conv => whnf) | ((with_reducible refine cnd_i (fun hq => ?_) fun hq => ?_) <;> ((try simp only [hqs] at hq) <;> (first | omega | conv => whnf))))))
      (try any_goals (first | exact absurd trivial hq | exact absurd rfl hq | exact absurd hq (by omega) | (exfalso; simp at hq; done)))
      refine at_loop hK [] [5, 9, 10, 11] (fun k : Nat => ⟨[(5, .ptr 4 0), (9, .lst (.int .i64) ce), (10, .int .i64 (i : Int)), (11, .int .i64 (k : Int))], [(4, .var 27 (wrlA u).cells)], 5⟩) (fun k => k ≤ i) (fun k => i - k) 0 (by simp) rfl ?_
      intro k hk
      by_cases hki : k < i
      · have hx2 : ce[k]? = some ce[k] := List.getElem?_eq_getElem (by omega)
        obtain ⟨b1, b2, b3⟩ := hmem _ (List.getElem_mem (show k < ce.length by omega))
        have hxq : u.props[ce[k].toNat]? = some (u.props.getD ce[k].toNat p0) := by rw [List.getD_eq_getElem?_getD, List.getElem?_eq_getElem (by omega)]; rfl
        have hyx := pw_get hasc hki hx2 hx1
        generalize u.props.getD ce[k].toNat p0 = q at *
        generalize ce[k] = y at *
        have hno := done_slot hu (show y.toNat < x.toNat by omega) hxp hxq a3 b3
        by_cases c1 : p.v.round = q.v.round
        · by_cases c2 : p.v.author = q.v.author
          · exact (hno c1 c2).elim
          · (repeat (any_goals (first | refine st ?_ | ((first | refine go2 fun xe hxe => ?_ | with_reducible refine cnd_d (fun hq => ?_) fun hq => ?_) <;> conv => whnf) | ((with_reducible refine cnd_i (fun hq => ?_) fun hq => ?_) <;> ((try simp only [hqs] at hq) <;> (first | omega | conv => whnf))))))
            (try any_goals (first | exact absurd trivial hq | exact absurd rfl hq | exact absurd hq (by omega) | (exfalso; simp at hq; done)))
            exact ⟨k + 1, by omega, by omega, rfl⟩
        · (repeat (any_goals (first | refine st ?_ | ((first | refine go2 fun xe hxe => ?_ | with_reducible refine cnd_d (fun hq => ?_) fun hq => ?_) <;> conv => whnf) | ((with_reducible refine cnd_i (fun hq => ?_) fun hq => ?_) <;> ((try simp only [hqs] at hq) <;> (first | omega | conv => whnf))))))
          (try any_goals (first | exact absurd trivial hq | exact absurd rfl hq | exact absurd hq (by omega) | (exfalso; simp at hq; done)))
          exact ⟨k + 1, by omega, by omega, rfl⟩
      · (repeat (any_goals (first | refine st ?_ | ((first | refine go2 fun xe hxe => ?_ | with_reducible refine cnd_d (fun hq => ?_) fun hq => ?_) <;> conv => whnf) | ((with_reducible refine cnd_i (fun hq => ?_) fun hq => ?_) <;> ((try simp only [hqs] at hq) <;> (first | omega | conv => whnf))))))
        (try any_goals (first | exact absurd trivial hq | exact absurd rfl hq | exact absurd hq (by omega) | (exfalso; simp at hq; done)))
        exact ⟨i + 1, by omega, by omega, rfl⟩
    · (repeat (any_goals (first | refine st ?_ | ((first | refine go2 fun xe hxe => ?_ | with_reducible refine cnd_d (fun hq => ?_) fun hq => ?_) <;> conv => whnf) | ((with_reducible refine cnd_i (fun hq => ?_) fun hq => ?_) <;> ((try simp only [hqs] at hq) <;> (first | omega | conv => whnf))))))
      (try any_goals (first | exact absurd trivial hq | exact absurd rfl hq | exact absurd hq (by omega) | (exfalso; simp at hq; done)))
      exact ⟨rfl, rfl⟩
theorem com_c (a b : List Int) (hl : a.length ≤ 1000000) : ConV Tryz.prog 16 [.lst (.int .i64) a, .lst (.int .i64) b] [] (.lst (.int .i64) (comm a b)) [] := by
  refine con_eq Θ_ok Tryz.func16 rfl rfl true 0 4 rfl rfl rfl rfl fun K hK hb1 hb2 => ?_; simp only [argsV, enc, Nat.reduceAdd]
  clear hb1 hb2
  (repeat (any_goals (first | refine st ?_ | ((first | refine go2 fun xe hxe => ?_ | with_reducible refine cnd_d (fun hq => ?_) fun hq => ?_) <;> conv => whnf) | ((with_reducible refine cnd_i (fun hq => ?_) fun hq => ?_) <;> ((try simp only [hqs] at hq) <;> (first | omega | conv => whnf))))))
  (try any_goals (first | exact absurd trivial hq | exact absurd rfl hq | exact absurd hq (by omega) | (exfalso; simp at hq; done)))
  refine at_loop hK [] [0, 1, 5, 6] (fun i : Nat => ⟨[(0, .lst (.int .i64) a), (1, .lst (.int .i64) b), (5, .ref 4), (6, .int .i64 (i : Int))], [(4, .row 3 (.int .i64) (comm (a.take i) b))], 5⟩) (fun i => i ≤ a.length) (fun i => a.length - i) 0 (by simp) rfl ?_
  intro i hi
  by_cases hlt : i < a.length
  · have hx : a[i]? = some a[i] := List.getElem?_eq_getElem hlt
    have hsn : comm (a.take (i + 1)) b = if b.contains a[i] then comm (a.take i) b ++ [a[i]] else comm (a.take i) b := by
      unfold comm
      rw [List.take_succ_eq_append_getElem hlt, List.filter_append, List.filter_cons, List.filter_nil]
      split <;> simp
    have hll : (comm (a.take i) b).length ≤ i := Nat.le_trans (List.length_filter_le _ _) (by rw [List.length_take]; omega)
    generalize a[i] = x at *
    have hH := hasI_c b x
    generalize comm (a.take i) b = r at *
    cases h : b.contains x
    · rw [h] at hH hsn
      (repeat (any_goals (first | refine st ?_ | ((first | refine go2 fun xe hxe => ?_ | with_reducible refine cnd_d (fun hq => ?_) fun hq => ?_) <;> conv => whnf) | ((with_reducible refine cnd_i (fun hq => ?_) fun hq => ?_) <;> ((try simp only [hqs] at hq) <;> (first | omega | conv => whnf))) | refine cr (hH) ?_)))
      (try any_goals (first | exact absurd trivial hq | exact absurd rfl hq | exact absurd hq (by omega) | (exfalso; simp at hq; done)))
      exact ⟨i + 1, by omega, by omega, by rw [hsn]; rfl⟩
    · rw [h] at hH hsn
      (repeat (any_goals (first | refine st ?_ | ((first | refine go2 fun xe hxe => ?_ | with_reducible refine cnd_d (fun hq => ?_) fun hq => ?_) <;> conv => whnf) | ((with_reducible refine cnd_i (fun hq => ?_) fun hq => ?_) <;> ((try simp only [hqs] at hq) <;> (first | omega | conv => whnf))) | refine cr (hH) ?_)))
      (try any_goals (first | exact absurd trivial hq | exact absurd rfl hq | exact absurd hq (by omega) | (exfalso; simp at hq; done)))
      exact ⟨i + 1, by omega, by omega, by rw [hsn]; rfl⟩
  · (repeat (any_goals (first | refine st ?_ | ((first | refine go2 fun xe hxe => ?_ | with_reducible refine cnd_d (fun hq => ?_) fun hq => ?_) <;> conv => whnf) | ((with_reducible refine cnd_i (fun hq => ?_) fun hq => ?_) <;> ((try simp only [hqs] at hq) <;> (first | omega | conv => whnf))))))
    (try any_goals (first | exact absurd trivial hq | exact absurd rfl hq | exact absurd hq (by omega) | (exfalso; simp at hq; done)))
    rw [List.take_of_length_le (by omega)]
    exact ⟨rfl, rfl⟩
theorem lawVot_c (c : List Int) (hc : ∀ x ∈ c, 0 ≤ x ∧ x ≤ 255) : ConV Tryz.prog 6 [.lst (.int .u8) c] [] (.bool true) [] := by
  obtain ⟨⟨w, es⟩, ⟨hw, he1, he2⟩, hd⟩ := dpl_c c hc
  dsimp only at hw he1 he2 hd
  have hI := iply_c w es (fun g hg => by have := hw.vl g hg; omega) (by omega)
  have hS := swpl_c w es (by have := hw.len; omega) (by omega) (fun e he => by have := he2 e he; omega)
  rw [wok_iff.2 hw, Bool.and_true] at hI hS
  refine con_eq Θ_ok Tryz.func6 rfl rfl false 0 4 rfl rfl rfl rfl fun K hK hb1 hb2 => ?_; simp only [argsV, enc, Nat.reduceAdd]
  clear hb1 hb2
  by_cases hl : 1048576 < (c.length : Int)
  · (repeat (any_goals (first | refine st ?_ | ((first | refine go2 fun xe hxe => ?_ | with_reducible refine cnd_d (fun hq => ?_) fun hq => ?_) <;> conv => whnf) | ((with_reducible refine cnd_i (fun hq => ?_) fun hq => ?_) <;> ((try simp only [hqs] at hq) <;> (first | omega | conv => whnf))))))
    (try any_goals (first | exact absurd trivial hq | exact absurd rfl hq | exact absurd hq (by omega) | (exfalso; simp at hq; done)))
    exact ⟨rfl, rfl⟩
  cases h80 : decide (es.length ≤ 80)
  · simp only [h80, Bool.false_eq_true, if_false] at hI hS
    (repeat (any_goals (first | refine st ?_ | ((first | refine go2 fun xe hxe => ?_ | with_reducible refine cnd_d (fun hq => ?_) fun hq => ?_) <;> conv => whnf) | ((with_reducible refine cnd_i (fun hq => ?_) fun hq => ?_) <;> ((try simp only [hqs] at hq) <;> (first | omega | conv => whnf))) | refine cr (hd) ?_ | refine cr (hI) ?_ | refine cr (hS) ?_ | refine cr (sWrl_z) ?_)))
    (try any_goals (first | exact absurd trivial hq | exact absurd rfl hq | exact absurd hq (by omega) | (exfalso; simp at hq; done)))
    exact ⟨rfl, rfl⟩
  · simp only [h80, if_true] at hI hS
    have hu := sPlay_ok hw es
    generalize sPlay w es = u at *
    have hE := sWrl_e u
    have hpl := hu.plen
    have h7 := hu.len
    (repeat (any_goals (first | refine st ?_ | ((first | refine go2 fun xe hxe => ?_ | with_reducible refine cnd_d (fun hq => ?_) fun hq => ?_) <;> conv => whnf) | ((with_reducible refine cnd_i (fun hq => ?_) fun hq => ?_) <;> ((try simp only [hqs] at hq) <;> (first | omega | conv => whnf))) | refine cr (hd) ?_ | refine cr (hI) ?_ | refine cr (hS) ?_ | refine cr (hE) ?_)))
    (try any_goals (first | exact absurd trivial hq | exact absurd rfl hq | exact absurd hq (by omega) | (exfalso; simp at hq; done)))
    refine at_loop hK [] [5, 9] (fun i : Nat => ⟨[(5, .ptr 4 0), (9, .int .i64 (i : Int))], [(4, .var 27 (wrlA u).cells)], 5⟩) (fun i => i ≤ u.props.length) (fun i => u.props.length - i) 0 (by simp) rfl ?_
    intro i hi
    by_cases hlt : i < u.props.length
    · have hx1 : u.props[i]? = some u.props[i] := List.getElem?_eq_getElem hlt
      generalize u.props[i] = p at *
      have hm := mems_len (one_of hu (List.mem_of_getElem? hx1)).2
      (repeat (any_goals (first | refine st ?_ | ((first | refine go2 fun xe hxe => ?_ | with_reducible refine cnd_d (fun hq => ?_) fun hq => ?_) <;> conv => whnf) | ((with_reducible refine cnd_i (fun hq => ?_) fun hq => ?_) <;> ((try simp only [hqs] at hq) <;> (first | omega | conv => whnf))))))
      (try any_goals (first | exact absurd trivial hq | exact absurd rfl hq | exact absurd hq (by omega) | (exfalso; simp at hq; done)))
      refine at_loop hK [] [5, 9, 10] (fun k : Nat => ⟨[(5, .ptr 4 0), (9, .int .i64 (i : Int)), (10, .int .i64 (k : Int))], [(4, .var 27 (wrlA u).cells)], 5⟩) (fun k => k ≤ i) (fun k => i - k) 0 (by simp) rfl ?_
      intro k hk
      by_cases hki : k < i
      · have hx2 : u.props[k]? = some u.props[k] := List.getElem?_eq_getElem (by omega)
        generalize u.props[k] = q at *
        have hf := comm_bad hu hki hx1 hx2
        have hC := com_c p.members q.members (by omega)
        by_cases c1 : p.v.round = q.v.round
        · by_cases c2 : p.v.author = q.v.author
          · rcases hf c1 c2 with h | h
            · rw [h] at hC
              have hn1 : ¬ (([] : List Int).length : Int) = 1 := by simp
              (repeat (any_goals (first | refine st ?_ | ((first | refine go2 fun xe hxe => ?_ | with_reducible refine cnd_d (fun hq => ?_) fun hq => ?_) <;> conv => whnf) | ((with_reducible refine cnd_i (fun hq => ?_) fun hq => ?_) <;> ((try simp only [hqs] at hq) <;> (first | omega | conv => whnf))) | refine cr (hC) ?_)))
              (try any_goals (first | exact absurd trivial hq | exact absurd rfl hq | exact absurd hq (by omega) | (exfalso; simp at hq; done)))
              exact ⟨k + 1, by omega, by omega, rfl⟩
            · rw [h] at hC
              have hx0 : ([u.bad] : List Int)[(0 : Int).toNat]? = some u.bad := rfl
              (repeat (any_goals (first | refine st ?_ | ((first | refine go2 fun xe hxe => ?_ | with_reducible refine cnd_d (fun hq => ?_) fun hq => ?_) <;> conv => whnf) | ((with_reducible refine cnd_i (fun hq => ?_) fun hq => ?_) <;> ((try simp only [hqs] at hq) <;> (first | omega | conv => whnf))) | refine cr (hC) ?_)))
              (try any_goals (first | exact absurd trivial hq | exact absurd rfl hq | exact absurd hq (by omega) | (exfalso; simp at hq; done)))
              exact ⟨k + 1, by omega, by omega, rfl⟩
          · (repeat (any_goals (first | refine st ?_ | ((first | refine go2 fun xe hxe => ?_ | with_reducible refine cnd_d (fun hq => ?_) fun hq => ?_) <;> conv => whnf) | ((with_reducible refine cnd_i (fun hq => ?_) fun hq => ?_) <;> ((try simp only [hqs] at hq) <;> (first | omega | conv => whnf))))))
            (try any_goals (first | exact absurd trivial hq | exact absurd rfl hq | exact absurd hq (by omega) | (exfalso; simp at hq; done)))
            exact ⟨k + 1, by omega, by omega, rfl⟩
        · (repeat (any_goals (first | refine st ?_ | ((first | refine go2 fun xe hxe => ?_ | with_reducible refine cnd_d (fun hq => ?_) fun hq => ?_) <;> conv => whnf) | ((with_reducible refine cnd_i (fun hq => ?_) fun hq => ?_) <;> ((try simp only [hqs] at hq) <;> (first | omega | conv => whnf))))))
          (try any_goals (first | exact absurd trivial hq | exact absurd rfl hq | exact absurd hq (by omega) | (exfalso; simp at hq; done)))
          exact ⟨k + 1, by omega, by omega, rfl⟩
      · (repeat (any_goals (first | refine st ?_ | ((first | refine go2 fun xe hxe => ?_ | with_reducible refine cnd_d (fun hq => ?_) fun hq => ?_) <;> conv => whnf) | ((with_reducible refine cnd_i (fun hq => ?_) fun hq => ?_) <;> ((try simp only [hqs] at hq) <;> (first | omega | conv => whnf))))))
        (try any_goals (first | exact absurd trivial hq | exact absurd rfl hq | exact absurd hq (by omega) | (exfalso; simp at hq; done)))
        exact ⟨i + 1, by omega, by omega, rfl⟩
    · (repeat (any_goals (first | refine st ?_ | ((first | refine go2 fun xe hxe => ?_ | with_reducible refine cnd_d (fun hq => ?_) fun hq => ?_) <;> conv => whnf) | ((with_reducible refine cnd_i (fun hq => ?_) fun hq => ?_) <;> ((try simp only [hqs] at hq) <;> (first | omega | conv => whnf))))))
      (try any_goals (first | exact absurd trivial hq | exact absurd rfl hq | exact absurd hq (by omega) | (exfalso; simp at hq; done)))
      exact ⟨rfl, rfl⟩
end Go.Proofs.YtapkflbaenbgiaaGreat.Am
namespace Go.Proofs.YtapkflbaenbgiaaGreat.rowPro
set_option linter.unusedSimpArgs false
set_option linter.unusedVariables false
open Go Go.RowKit Go.ChangeShapes Go.WideShapes Go.ChangeAt Go.Proofs.YtapkflbaenbgiaaGreat.Am

theorem own : ownKnob Tryz.prog.godebug = none := by kernel_rfl
theorem lay : laidOutB Tryz.prog = true := by kernel_rfl
theorem cells5 : Tryz.prog.cellsOf 5 = 1 := by kernel_rfl

set_option maxRecDepth 100000 in
theorem lifted (os : Os) (started : os.Started) (H : Type) (enc : TypeId × Value → H) :
    ReturnsInHanded {} Tryz.checked os 3 .any (Rows.fnWorldProposeSpec.pre6 enc Tryz.prog Tryz.f3 Rows.fnWorldProposeRow.domain false) (Rows.fnWorldProposeSpec.post enc Tryz.prog Tryz.f3 false true false false) := by
  refine returnsInHanded_of_change (C := Tryz.checked) own started (by kernel_rfl) Tryz.func3
    (ChangeSpec.witness6 (enc := enc) (C := Tryz.checked) false ⟨#[], #[.slice none 0 0], []⟩ 8 (by kernel_rfl) (by kernel_rfl) (by kernel_rfl) (by kernel_rfl)) ?_
  intro W base args ds gs before hval hW _ _
  have hW' := hW
  obtain ⟨p, q, hA0, hV, rfl, hfz, hnd⟩ := hW
  have hA : DataW.TrodAll enc Tryz.prog W 0 (fun _ => true) true Tryz.f3.params.toList args.toList ds p := hA0
  rw [Tryz.params3] at hA hval
  obtain ⟨v0, vs0, d0, ds0, p0, q0, hargs, rfl, rfl, h0, r0⟩ := trodAll_cons hA
  obtain ⟨rfl, rfl, rfl⟩ := trodAll_nil r0
  obtain rfl : args = #[v0] := by cases args; simp_all
  obtain ⟨rfl, rfl⟩ := trodVars_none hV
  obtain ⟨c0, hc0, hr0⟩ := bytes_arg Tryz.underlying22 Tryz.underlying5 cells5 (hval 0 _ v0 rfl rfl) h0
  clear hA0
  simp only [List.append_nil] at hW'
  refine (law_calls (lawPro_c c0 hc0) rfl (fun i hi => ?_)).mono fun e W' ⟨he, hb⟩ => ?_
  · obtain rfl : i = 0 := by simp [toDL] at hi; omega
    exact hr0
  subst he
  have hlt : ∀ x ∈ p0, x.block < W.heap.size := fun x hx => hW'.lt x hx
  exact ⟨_, rfl, post_below (pa := p0) (pv := []) hW' (fun _ _ _ => trodAll_cons_mk (shut_bool Tryz.underlying4 _) trodAll_mk0)
    (fun sp hsp => trodAll_mk1 (WideElems.Trod_stays lay (by kernel_rfl) (of_decide_eq_true (by kernel_rfl)) h0 (fun x hx => hb.same (hlt x hx)) (fun x hx => hsp x hx)))
    (fun _ _ => rfl) (by simp) hb (ok_one (by kernel_rfl) rfl (okWide_bool_mk Tryz.underlying4 _))⟩
theorem holds : Rows.FnWorldProposeSaid :=
  OpenClaim.holds_of_wide 3 Tryz.f3 rfl rfl rfl rfl rfl rfl rfl ⟨rfl, rfl, rfl, rfl, rfl⟩ rfl rfl rfl rfl rfl (by kernel_rfl) Tryz.func3 (by kernel_rfl)
    (of_decide_eq_true (by kernel_rfl)) (by unfold Func.isWrapper; first | (rw [if_pos (by decide +kernel)]; kernel_rfl) | (rw [if_neg (by decide +kernel)]; exact ⟨rfl, rfl⟩))
    (fun os started H enc _ => lifted os started H enc)
#print axioms holds
end Go.Proofs.YtapkflbaenbgiaaGreat.rowPro
