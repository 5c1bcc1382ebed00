/- Runs while events are applied: what is asked of a run, what is added. Runs while events are applied: plain laws. Runs while events are applied: what a member proposes. Runs while events are applied: votes, deliveries, what the faulty member does. Runs while events are applied: deliveries, what the faulty member does. The lock of a run, under the numbers of this program. The plain machine: the lock of one goroutine; a function that defers its Unlock. Runs: what the specification's functions of events give. -/
import Derived.Conc.MuLone
import Derived.Defers
import Derived.Test.YticiffgklmjfnaaGreatPW7
namespace Go.Proofs.YticiffgklmjfnaaGreat.Am
set_option linter.unusedSimpArgs false
set_option linter.unusedVariables false
open Go
attribute [local irreducible] Mk Need Ari Get Idx Cnd CallM CallA Opt Unch At ConV
set_option maxRecDepth 10000
abbrev rX (s : Int) (c l : List Int) (b : Int) (tabs : List (List (Option Vtx))) (xss : List (Option (List Int))) (ms : List PplM) : VH := [(0, .fvari 132 217 (.ob .vtx) tabs), (1, .frowx 3 (.int .i64) xss), (4, .var 91 [.int .i32 s, .int .u32 0, .lst (.int .i64) c, .lst (.int .i64) l, .int .i64 b, .ref 5, .ref 6]), (5, .row 101 (.hp 0) ((List.range tabs.length).map some)), (6, .row 38 (.pplm 1) ms)]
abbrev rXg (s : Int) (c l : List Int) (b : Int) (tabs : List (List (Option Vtx))) (xss : List (Option (List Int))) (ms : List PplM) : VH := [(0, .fvari 132 217 (.ob .vtx) tabs), (1, .frowx 3 (.int .i64) xss), (4, .var 91 [.int .i32 s, .int .u32 0, .lst (.int .i64) c, .lst (.int .i64) l, .int .i64 b, .ref 5, .ref 7]), (5, .row 101 (.hp 0) ((List.range tabs.length).map some)), (6, .gone), (7, .row 38 (.pplm 1) ms)]
def authT (tab : List (Option Vtx)) (r n : Nat) : List Int := ((List.range n).filter fun a : Nat => (tab.getD (r * 7 + a) none).isSome).map fun a : Nat => (a : Int)
theorem authT_snoc (tab : List (Option Vtx)) (r n : Nat) : authT tab r (n + 1) = if (tab.getD (r * 7 + n) none).isSome then authT tab r n ++ [(n : Int)] else authT tab r n := by
  simp only [authT, List.range_succ, List.filter_append, List.map_append, List.filter_cons, List.filter_nil]
  split <;> simp
theorem authT_len (tab : List (Option Vtx)) (r n : Nat) : (authT tab r n).length ≤ n := by
  simp only [authT, List.length_map]
  exact Nat.le_trans (List.length_filter_le _ _) (by simp)
theorem filter_range {p q : Nat → Bool} {n : Nat} : ∀ m, n ≤ m → (∀ a, a < n → p a = q a) → (∀ a, n ≤ a → a < m → p a = false) → (List.range m).filter p = (List.range n).filter q
  | 0, h, _, _ => by obtain rfl : n = 0 := by omega
                     rfl
  | m + 1, h, h1, h2 => by
    rcases Nat.lt_or_ge n (m + 1) with hlt | hge
    · rw [List.range_succ, List.filter_append, filter_range m (by omega) h1 (fun a ha hb => h2 a ha (by omega)), List.filter_cons, h2 m (by omega) (by omega)]
      simp
    · obtain rfl : n = m + 1 := by omega
      exact List.filter_congr fun a ha => h1 a (List.mem_range.1 ha)
theorem authT_eq {c : List Int} {g : List Vtx} (h : GraOK c g) {r : Nat} (hr : r ≤ 30) : authT (tabV g) r 7 = auth g r := by
  have h7 := (comV_iff.1 h.com).2
  have ht : ∀ v ∈ g, inTab v := fun u hu => vtxS_tab h.com (h.vtx u hu)
  rw [← authI_eq h]
  unfold authT authI
  congr 1
  refine filter_range 7 (by omega) (fun a ha => ?_) fun a ha hb => ?_
  · have := tabV_at ht (r := r) (a := a) (by omega) (by omega)
    rwa [show ((r : Int) * 7 + (a : Int)).toNat = r * 7 + a by omega] at this
  · have h1 := tabV_at ht (r := r) (a := a) (by omega) (by omega)
    rw [show ((r : Int) * 7 + (a : Int)).toNat = r * 7 + a by omega] at h1
    rw [h1, Bool.eq_false_iff]
    intro h2
    obtain ⟨v, hv, -, hva⟩ := hasV_iff.1 h2
    have := (vtxS_ok (h.vtx v hv)).2.1
    omega
theorem icor_c (s : Int) (c l : List Int) (b : Int) (tabs : List (List (Option Vtx))) (xss : List (Option (List Int))) (ms : List PplM) (m : Int) : ConV Tryz.prog 127 [.ptr 4 0, .int .i64 m] (rX s c l b tabs xss ms) (.bool (hasM c m && m != b)) (rX s c l b tabs xss ms) := by
  refine con_eq Θw_ok Tryz.func127 rfl rfl false 3 7 rfl rfl rfl rfl fun K hK hb1 hb2 => ?_; simp only [argsV, enc, Nat.reduceAdd]
  clear hb1 hb2
  have hC := ihas_c c m
  cases h : hasM c m <;> rw [h] at hC <;> (repeat (any_goals (first | refine stw ?_ | ((first | refine go2 fun xe hxe => ?_ | with_reducible refine cnd_d (fun hq => ?_) fun hq => ?_) <;> conv => whnf) | ((with_reducible refine cnd_i (fun hq => ?_) fun hq => ?_) <;> ((try simp only [hqs] at hq) <;> (first | omega | conv => whnf))) | refine cr (hC) ?_))) <;> (refine ⟨congrArg V.bool ?_, rfl⟩; (first | rfl | (simp ; done) | (simp_all ; done) | (rw [Bool.eq_iff_iff]; (try simp  at *); omega) | (simp_all ; omega)))
theorem ipry_c (s : Int) (c l : List Int) (b : Int) (tabs : List (List (Option Vtx))) (xss : List (Option (List Int))) (ms : List PplM) (i : Nat) (hi : i < ms.length) (hl : ms.length ≤ 1000000) : ConV Tryz.prog 131 [.ptr 4 0, .int .i64 (i : Int)] (rX s c l b tabs xss ms) (.eptr 6 i 0) (rX s c l b tabs xss ms) := by
  refine con_eq Θw_ok Tryz.func131 rfl rfl false 3 7 rfl rfl rfl rfl fun K hK hb1 hb2 => ?_; simp only [argsV, enc, Nat.reduceAdd]
  clear hb1 hb2
  (repeat (any_goals (first | refine stw ?_ | ((first | refine go2 fun xe hxe => ?_ | with_reducible refine cnd_d (fun hq => ?_) fun hq => ?_) <;> conv => whnf) | ((with_reducible refine cnd_i (fun hq => ?_) fun hq => ?_) <;> ((try simp only [hqs] at hq) <;> (first | omega | conv => whnf))))))
  exact ⟨rfl, rfl⟩
theorem iprn_c (s : Int) (c l : List Int) (b : Int) (tabs : List (List (Option Vtx))) (xss : List (Option (List Int))) (ms : List PplM) (i : Int) (hi : i < 0 ∨ (ms.length : Int) ≤ i) (hl : ms.length ≤ 1000000) : ConV Tryz.prog 131 [.ptr 4 0, .int .i64 i] (rX s c l b tabs xss ms) .nilp (rX s c l b tabs xss ms) := by
  refine con_eq Θw_ok Tryz.func131 rfl rfl false 3 7 rfl rfl rfl rfl fun K hK hb1 hb2 => ?_; simp only [argsV, enc, Nat.reduceAdd]
  clear hb1 hb2
  by_cases h0 : i < 0
  · (repeat (any_goals (first | refine stw ?_ | ((first | refine go2 fun xe hxe => ?_ | with_reducible refine cnd_d (fun hq => ?_) fun hq => ?_) <;> conv => whnf) | ((with_reducible refine cnd_i (fun hq => ?_) fun hq => ?_) <;> ((try simp only [hqs] at hq) <;> (first | omega | conv => whnf))))))
    exact ⟨rfl, rfl⟩
  · (repeat (any_goals (first | refine stw ?_ | ((first | refine go2 fun xe hxe => ?_ | with_reducible refine cnd_d (fun hq => ?_) fun hq => ?_) <;> conv => whnf) | ((with_reducible refine cnd_i (fun hq => ?_) fun hq => ?_) <;> ((try simp only [hqs] at hq) <;> (first | omega | conv => whnf))))))
    exact ⟨rfl, rfl⟩
theorem iat_c (tabs : List (List (Option Vtx))) (k : Nat) (tab : List (Option Vtx)) (r : Int) (hk : tabs[k]? = some tab) (ht : tab.length = 217) (hr : 0 ≤ r ∧ r ≤ 30) : ConV Tryz.prog 129 [.hpo 0 (some k), .int .i64 r] [(0, .fvari 132 217 (.ob .vtx) tabs)] (.ref 4) [(0, .fvari 132 217 (.ob .vtx) tabs), (4, .row 3 (.int .i64) (authT tab r.toNat 7))] := by
  obtain ⟨n, rfl⟩ := Int.eq_ofNat_of_zero_le hr.1
  obtain ⟨-, hr⟩ := hr
  rw [show (n : Int).toNat = n from rfl]
  refine con_eq Θw_ok Tryz.func129 rfl rfl false 0 4 rfl rfl rfl rfl fun K hK hb1 hb2 => ?_; simp only [argsV, enc, Nat.reduceAdd]
  clear hb1 hb2
  have hat : ∀ n, n < 217 → tab[n]? = some (tab.getD n none) := fun n hn => by rw [List.getD_eq_getElem?_getD, List.getElem?_eq_getElem (by omega)]; rfl
  obtain ⟨e, he⟩ : ∃ e : Nat → Option Vtx, ∀ j, e j = tab.getD (n * 7 + j) none := ⟨_, fun _ => rfl⟩
  have hg : ∀ j, j < 7 → tab[n * 7 + j]? = some (e j) := fun j hj => by rw [he]; exact hat _ (by omega)
  (repeat (any_goals (first | refine stw ?_ | ((first | refine go2 fun xe hxe => ?_ | with_reducible refine cnd_d (fun hq => ?_) fun hq => ?_) <;> conv => whnf) | ((with_reducible refine cnd_i (fun hq => ?_) fun hq => ?_) <;> ((try simp only [hqs] at hq) <;> (first | omega | conv => whnf))))))
  rename_i e0 h0 e1 h1 e2 h2 e3 h3 e4 h4 e5 h5
  obtain rfl : e0 = e 0 := Option.some.inj (h0.symm.trans (hg 0 (by omega)))
  obtain rfl : e1 = e 1 := Option.some.inj (h1.symm.trans (hg 1 (by omega)))
  obtain rfl : e2 = e 2 := Option.some.inj (h2.symm.trans (hg 2 (by omega)))
  obtain rfl : e3 = e 3 := Option.some.inj (h3.symm.trans (hg 3 (by omega)))
  obtain rfl : e4 = e 4 := Option.some.inj (h4.symm.trans (hg 4 (by omega)))
  obtain rfl : e5 = e 5 := Option.some.inj (h5.symm.trans (hg 5 (by omega)))
  obtain rfl : xe = e 6 := Option.some.inj (hxe.symm.trans (hg 6 (by omega)))
  clear h0 h1 h2 h3 h4 h5 hxe
  refine at_loop hK [] [5, 13, 14] (fun j : Nat => ⟨[(5, .ref 4), (13, .agg [.obo .vtx (e 0), .obo .vtx (e 1), .obo .vtx (e 2), .obo .vtx (e 3), .obo .vtx (e 4), .obo .vtx (e 5), .obo .vtx (e 6)]), (14, .int .i64 (j : Int))], [(0, .fvari 132 217 (.ob .vtx) tabs), (4, .row 3 (.int .i64) (authT tab n j))], 5⟩) (fun j => j ≤ 7) (fun j => 7 - j) 0 (by omega) rfl ?_
  intro j hj
  by_cases hjl : j < 7
  · have hs := authT_snoc tab n j
    have hll := authT_len tab n j
    rw [← he] at hs
    obtain ⟨j1, hj1⟩ : ∃ j1, j1 = j + 1 := ⟨_, rfl⟩
    have hji : ((j1 : Nat) : Int) = (j : Int) + 1 := by omega
    rw [← hj1] at hs
    obtain ⟨o, ho⟩ : ∃ o, o = e j := ⟨_, rfl⟩
    rw [← ho] at hs
    generalize authT tab n j = la at *
    obtain rfl | rfl | rfl | rfl | rfl | rfl | rfl : j = 0 ∨ j = 1 ∨ j = 2 ∨ j = 3 ∨ j = 4 ∨ j = 5 ∨ j = 6 := by omega
    all_goals
      rw [← ho]
      cases o with
      | none =>
        (repeat (any_goals (first | refine stw ?_ | ((first | refine go2 fun xe hxe => ?_ | with_reducible refine cnd_d (fun hq => ?_) fun hq => ?_) <;> conv => whnf) | ((with_reducible refine cnd_i (fun hq => ?_) fun hq => ?_) <;> ((try simp only [hqs] at hq) <;> (first | omega | conv => whnf))))))
        refine ⟨j1, by omega, by omega, ?_⟩
        rw [hs, hji]
        rfl
      | some v =>
        (repeat (any_goals (first | refine stw ?_ | ((first | refine go2 fun xe hxe => ?_ | with_reducible refine cnd_d (fun hq => ?_) fun hq => ?_) <;> conv => whnf) | ((with_reducible refine cnd_i (fun hq => ?_) fun hq => ?_) <;> ((try simp only [hqs] at hq) <;> (first | omega | conv => whnf))))))
        refine ⟨j1, by omega, by omega, ?_⟩
        rw [hs, hji]
        rfl
  · obtain rfl : j = 7 := by omega
    (repeat (any_goals (first | refine stw ?_ | ((first | refine go2 fun xe hxe => ?_ | with_reducible refine cnd_d (fun hq => ?_) fun hq => ?_) <;> conv => whnf) | ((with_reducible refine cnd_i (fun hq => ?_) fun hq => ?_) <;> ((try simp only [hqs] at hq) <;> (first | omega | conv => whnf))))))
    exact ⟨rfl, rfl⟩
theorem ihg_c (s : Int) (c l : List Int) (b : Int) (tabs : List (List (Option Vtx))) (xss : List (Option (List Int))) (ms : List PplM) (k : Nat) (g : List Vtx) (h : GraOK c g) (hk : tabs[k]? = some (tabV g)) : ConV Tryz.prog 128 [.ptr 4 0, .hpo 0 (some k)] (rX s c l b tabs xss ms) (.int .i64 (hgt c g)) (rX s c l b tabs xss ms) := by
  refine con_eq Θw_ok Tryz.func128 rfl rfl false 3 7 rfl rfl rfl rfl fun K hK hb1 hb2 => ?_; simp only [argsV, enc, Nat.reduceAdd]
  clear hb1 hb2
  (repeat (any_goals (first | refine stw ?_ | ((first | refine go2 fun xe hxe => ?_ | with_reducible refine cnd_d (fun hq => ?_) fun hq => ?_) <;> conv => whnf) | ((with_reducible refine cnd_i (fun hq => ?_) fun hq => ?_) <;> ((try simp only [hqs] at hq) <;> (first | omega | conv => whnf))))))
  refine at_loop hK [] [0, 1, 5] (fun k' : Int => ⟨[(0, .ptr 4 0), (1, .hpo 0 (some k)), (5, .int .i64 k')], rX s c l b tabs xss ms, 7⟩) (fun k => (-1 ≤ k ∧ k ≤ 30) ∧ hgt c g = hgtTo c g (k + 1).toNat) (fun k => (k + 1).toNat) 30 ⟨by simp, rfl⟩ rfl ?_
  rintro r ⟨hi, hh⟩
  by_cases hr : r < 0
  · (repeat (any_goals (first | refine stw ?_ | ((first | refine go2 fun xe hxe => ?_ | with_reducible refine cnd_d (fun hq => ?_) fun hq => ?_) <;> conv => whnf) | ((with_reducible refine cnd_i (fun hq => ?_) fun hq => ?_) <;> ((try simp only [hqs] at hq) <;> (first | omega | conv => whnf))))))
    rw [show (r + 1).toNat = 0 by omega] at hh
    exact ⟨by rw [hh]; rfl, rfl⟩
  · have h1 := auth_mems h r
    have h2 := mems_len h1
    have h7 := (comV_iff.1 h.com).2
    have ha := iat_c tabs k (tabV g) r hk (tabV_len g) (by omega)
    rw [authT_eq h (r := r.toNat) (by omega), show ((r.toNat : Nat) : Int) = r by omega] at ha
    have h4 : hgtTo c g (r.toNat + 1) = if quo c ≤ wei c (auth g r.toNat) then (r.toNat : Int) else hgtTo c g r.toNat := rfl
    rw [show ((r.toNat : Nat) : Int) = r by omega] at h4
    rw [show (r + 1).toNat = r.toNat + 1 by omega, h4] at hh
    by_cases h5 : quo c ≤ wei c (auth g r)
    · rw [if_pos h5] at hh
      (repeat (any_goals (first | refine stw ?_ | ((first | refine go2 fun xe hxe => ?_ | with_reducible refine cnd_d (fun hq => ?_) fun hq => ?_) <;> conv => whnf) | ((with_reducible refine cnd_i (fun hq => ?_) fun hq => ?_) <;> ((try simp only [hqs] at hq) <;> (first | omega | conv => whnf))) | refine cr (iquo_c _ h.com) ?_ | ((with_reducible refine call_r ?_); (conv => whnf); (first | with_reducible refine call_i (iwei_c _ _ h.com (mems_in h1) (by omega)) ?_); conv => whnf) | refine co (ha) ?_)))
      exact ⟨by rw [hh], rfl⟩
    · rw [if_neg h5] at hh
      (repeat (any_goals (first | refine stw ?_ | ((first | refine go2 fun xe hxe => ?_ | with_reducible refine cnd_d (fun hq => ?_) fun hq => ?_) <;> conv => whnf) | ((with_reducible refine cnd_i (fun hq => ?_) fun hq => ?_) <;> ((try simp only [hqs] at hq) <;> (first | omega | conv => whnf))) | refine cr (iquo_c _ h.com) ?_ | ((with_reducible refine call_r ?_); (conv => whnf); (first | with_reducible refine call_i (iwei_c _ _ h.com (mems_in h1) (by omega)) ?_); conv => whnf) | refine co (ha) ?_)))
      exact ⟨r - 1, ⟨by omega, by rw [hh]; congr 1; omega⟩, by omega, rfl⟩
theorem iady_c (s : Int) (c l : List Int) (b : Int) (tabs : List (List (Option Vtx))) (xss : List (Option (List Int))) (ms : List PplM) (v : Vtx) (hc : comV c = true) (hv : vtxS c v = true) (hl : ms.length < 220) : ConV Tryz.prog 130 [.ptr 4 0, vtxA v] (rX s c l b tabs xss ms) (.bool true) (rXg s c l b tabs (xss ++ [some []]) (ms ++ [⟨v, some xss.length⟩])) := by
  refine con_eq Θw_ok Tryz.func130 rfl rfl false 3 7 rfl rfl rfl rfl fun K hK hb1 hb2 => ?_; simp only [argsV, enc, Nat.reduceAdd]
  clear hb1 hb2
  have h1 := ivtx_c c v
  rw [hc, hv, show (true && true) = true from rfl] at h1
  have hp := vtx_par hc hv
  (repeat (any_goals (first | refine stw ?_ | ((first | refine go2 fun xe hxe => ?_ | with_reducible refine cnd_d (fun hq => ?_) fun hq => ?_) <;> conv => whnf) | ((with_reducible refine cnd_i (fun hq => ?_) fun hq => ?_) <;> ((try simp only [hqs] at hq) <;> (first | omega | conv => whnf))) | refine cr (h1) ?_ | ((with_reducible refine call_r ?_); (conv => whnf); (first | with_reducible refine call_i (icl_c _ (Nat.le_trans hp (by omega))) ?_); conv => whnf))))
  exact ⟨rfl, rfl⟩
theorem iadn_c (s : Int) (c l : List Int) (b : Int) (tabs : List (List (Option Vtx))) (xss : List (Option (List Int))) (ms : List PplM) (v : Vtx) (hc : comV c = true) (hn : (vtxS c v && decide (ms.length < 220)) = false) (hl : ms.length ≤ 1000000) : ConV Tryz.prog 130 [.ptr 4 0, vtxA v] (rX s c l b tabs xss ms) (.bool false) (rX s c l b tabs xss ms) := by
  refine con_eq Θw_ok Tryz.func130 rfl rfl false 3 7 rfl rfl rfl rfl fun K hK hb1 hb2 => ?_; simp only [argsV, enc, Nat.reduceAdd]
  clear hb1 hb2
  have h1 := ivtx_c c v
  rw [hc, Bool.true_and] at h1
  cases hv : vtxS c v
  · rw [hv] at h1
    (repeat (any_goals (first | refine stw ?_ | ((first | refine go2 fun xe hxe => ?_ | with_reducible refine cnd_d (fun hq => ?_) fun hq => ?_) <;> conv => whnf) | ((with_reducible refine cnd_i (fun hq => ?_) fun hq => ?_) <;> ((try simp only [hqs] at hq) <;> (first | omega | conv => whnf))) | refine cr (h1) ?_)))
    exact ⟨rfl, rfl⟩
  · rw [hv] at h1 hn
    have hn : ¬ ms.length < 220 := by simpa using hn
    (repeat (any_goals (first | refine stw ?_ | ((first | refine go2 fun xe hxe => ?_ | with_reducible refine cnd_d (fun hq => ?_) fun hq => ?_) <;> conv => whnf) | ((with_reducible refine cnd_i (fun hq => ?_) fun hq => ?_) <;> ((try simp only [hqs] at hq) <;> (first | omega | conv => whnf))) | refine cr (h1) ?_)))
    exact ⟨rfl, rfl⟩
theorem asc_le {xs : List Int} (h : xs.Pairwise (· < ·)) : xs.Pairwise (· ≤ ·) := h.imp fun h => Int.le_of_lt h
theorem ican_c (xss : List (Option (List Int))) (ms : List PplM) (i j : Nat) (v : Vtx) (xs : List Int) (m : Int) (hi : ms[i]? = some ⟨v, some j⟩) (hj : xss[j]? = some (some xs)) (hs : xs.Pairwise (· < ·)) (hl : xs.length ≤ 1000000) (hm : xs.contains m = true) : ConV Tryz.prog 134 [.eptr 4 i 0, .int .i64 m] [(1, .frowx 3 (.int .i64) xss), (4, .row 38 (.pplm 1) ms)]
    (.bool false) [(1, .frowx 3 (.int .i64) xss), (4, .row 38 (.pplm 1) ms)] := by
  refine con_eq Θw_ok Tryz.func134 rfl rfl false 1 5 rfl rfl rfl rfl fun K hK hb1 hb2 => ?_; simp only [argsV, enc, Nat.reduceAdd]
  clear hb1 hb2
  have hb := ibs_c xs m (asc_le hs) hl
  rw [hm] at hb
  (repeat (any_goals (first | refine stw ?_ | ((first | refine go2 fun xe hxe => ?_ | with_reducible refine cnd_d (fun hq => ?_) fun hq => ?_) <;> conv => whnf) | ((with_reducible refine cnd_i (fun hq => ?_) fun hq => ?_) <;> ((try simp only [hqs] at hq) <;> (first | omega | conv => whnf))) | ((with_reducible refine call_v ?_); (conv => whnf)) | ((first | with_reducible refine call_i (hb) ?_); conv => whnf))))
  exact ⟨rfl, rfl⟩
theorem icay_c (xss : List (Option (List Int))) (ms : List PplM) (i j : Nat) (v : Vtx) (xs : List Int) (m : Int) (hi : ms[i]? = some ⟨v, some j⟩) (hj : xss[j]? = some (some xs)) (hs : xs.Pairwise (· < ·)) (hl : xs.length ≤ 1000000) (hm : xs.contains m = false) : ConV Tryz.prog 134 [.eptr 4 i 0, .int .i64 m] [(1, .frowx 3 (.int .i64) xss), (4, .row 38 (.pplm 1) ms)]
    (.bool true) [(1, .frowx 3 (.int .i64) (xss.set j none ++ [some (putAt xs (xs.countP (· < m)) m)])), (4, .row 38 (.pplm 1) (ms.set i ⟨v, some xss.length⟩))] := by
  refine con_eq Θw_ok Tryz.func134 rfl rfl false 1 5 rfl rfl rfl rfl fun K hK hb1 hb2 => ?_; simp only [argsV, enc, Nat.reduceAdd]
  clear hb1 hb2
  have hb := ibs_c xs m (asc_le hs) hl
  rw [hm] at hb
  have hp : xs.countP (· < m) ≤ xs.length := List.countP_le_length
  have hC := isins_c xss j xs m _ hj hp hl
  (repeat (any_goals (first | refine stw ?_ | ((first | refine go2 fun xe hxe => ?_ | with_reducible refine cnd_d (fun hq => ?_) fun hq => ?_) <;> conv => whnf) | ((with_reducible refine cnd_i (fun hq => ?_) fun hq => ?_) <;> ((try simp only [hqs] at hq) <;> (first | omega | conv => whnf))) | refine co (hC) ?_ | ((with_reducible refine call_v ?_); (conv => whnf)) | ((first | with_reducible refine call_i (hb) ?_); conv => whnf))))
  refine need_i (by show xss.length ≤ (xss.set j none ++ [_]).length; simp) ?_
  (conv => whnf)
  (repeat (any_goals (first | refine stw ?_ | ((first | refine go2 fun xe hxe => ?_ | with_reducible refine cnd_d (fun hq => ?_) fun hq => ?_) <;> conv => whnf) | ((with_reducible refine cnd_i (fun hq => ?_) fun hq => ?_) <;> ((try simp only [hqs] at hq) <;> (first | omega | conv => whnf))) | refine co (hC) ?_ | ((with_reducible refine call_v ?_); (conv => whnf)) | ((first | with_reducible refine call_i (hb) ?_); conv => whnf))))
  exact ⟨rfl, rfl⟩
end Go.Proofs.YticiffgklmjfnaaGreat.Am
namespace Go.Proofs.YticiffgklmjfnaaGreat.Am
set_option linter.unusedSimpArgs false
set_option linter.unusedVariables false
open Go
structure Rel (ps : List Ppl) (xss : List (Option (List Int))) (ms : List PplM) : Prop where
  len : ms.length = ps.length
  get : ∀ (i : Nat) (p : Ppl), ps[i]? = some p → ∃ j : Nat, ms[i]? = some ⟨p.v, some j⟩ ∧ xss[j]? = some (some p.members)
  inj : ∀ (i i' : Nat) (v v' : Vtx) (j : Nat), ms[i]? = some ⟨v, some j⟩ → ms[i']? = some ⟨v', some j⟩ → i = i'
theorem rel0 (ps : List Ppl) : Rel ps (ps.map fun p => some p.members) (pms ps) := by
  refine ⟨pms_len ps, fun i p h => ⟨i, pms_at h, by rw [List.getElem?_map, h]; rfl⟩, fun i i' v v' j h h' => ?_⟩
  have key : ∀ {i : Nat} {v : Vtx}, (pms ps)[i]? = some ⟨v, some j⟩ → i = j := fun {i v} h => by
    have hi := (List.getElem?_eq_some_iff.1 h).1
    rw [pms_len] at hi
    rw [pms_at (List.getElem?_eq_getElem hi)] at h
    injection h with h
    injection h with _ h
    exact Option.some.inj h
  rw [key h, key h']
theorem Rel.old {ps : List Ppl} {xss : List (Option (List Int))} {ms : List PplM} (h : Rel ps xss ms) {i : Nat} {v : Vtx} {j : Nat} (hi : ms[i]? = some ⟨v, some j⟩) : j < xss.length ∧ ∃ p, ps[i]? = some p ∧ p.v = v ∧ xss[j]? = some (some p.members) := by
  have hl := (List.getElem?_eq_some_iff.1 hi).1
  rw [h.len] at hl
  obtain ⟨j', h1, h2⟩ := h.get i _ (List.getElem?_eq_getElem hl)
  rw [h1] at hi
  injection hi with hi
  injection hi with e1 e2
  obtain rfl := Option.some.inj e2
  exact ⟨(List.getElem?_eq_some_iff.1 h2).1, _, List.getElem?_eq_getElem hl, e1, h2⟩
theorem Rel.add {ps : List Ppl} {xss : List (Option (List Int))} {ms : List PplM} (h : Rel ps xss ms) (v : Vtx) : Rel (ps ++ [⟨v, []⟩]) (xss ++ [some []]) (ms ++ [⟨v, some xss.length⟩]) := by
  refine ⟨by simp [h.len], fun i p hi => ?_, fun i i' v1 v2 j h1 h2 => ?_⟩
  · rcases Nat.lt_or_ge i ps.length with hlt | hge
    · rw [List.getElem?_append_left hlt] at hi
      obtain ⟨j, h1, h2⟩ := h.get i p hi
      exact ⟨j, by rw [List.getElem?_append_left (by rw [h.len]; exact hlt)]; exact h1, by rw [List.getElem?_append_left (List.getElem?_eq_some_iff.1 h2).1]; exact h2⟩
    · rw [List.getElem?_append_right hge] at hi
      have e : i = ps.length := by
        have := (List.getElem?_eq_some_iff.1 hi).1
        simp at this
        omega
      subst e
      simp at hi
      subst hi
      exact ⟨xss.length, by rw [← h.len]; simp, by simp⟩
  · have key : ∀ {i : Nat} {v1 : Vtx}, (ms ++ [(⟨v, some xss.length⟩ : PplM)])[i]? = some ⟨v1, some j⟩ → (i < ms.length ∧ ms[i]? = some ⟨v1, some j⟩ ∧ j < xss.length) ∨ (i = ms.length ∧ j = xss.length) := fun {i v1} hi => by
      rcases Nat.lt_or_ge i ms.length with hlt | hge
      · rw [List.getElem?_append_left hlt] at hi
        exact .inl ⟨hlt, hi, (h.old hi).1⟩
      · rw [List.getElem?_append_right hge] at hi
        have e : i = ms.length := by
          have := (List.getElem?_eq_some_iff.1 hi).1
          simp at this
          omega
        subst e
        simp at hi
        exact .inr ⟨rfl, hi.2.symm⟩
    rcases key h1 with ⟨a1, a2, a3⟩ | ⟨a1, a2⟩ <;> rcases key h2 with ⟨b1, b2, b3⟩ | ⟨b1, b2⟩
    · exact h.inj _ _ _ _ _ a2 b2
    · omega
    · omega
    · omega
theorem Rel.cast {ps : List Ppl} {xss : List (Option (List Int))} {ms : List PplM} (h : Rel ps xss ms) {i : Nat} {v : Vtx} {j : Nat} (hi : ms[i]? = some ⟨v, some j⟩) (zs : List Int) : Rel (ps.set i ⟨v, zs⟩) (xss.set j none ++ [some zs]) (ms.set i ⟨v, some xss.length⟩) := by
  have hil := (List.getElem?_eq_some_iff.1 hi).1
  refine ⟨by simp [h.len], fun k p hk => ?_, fun k k' v1 v2 j' h1 h2 => ?_⟩
  · rw [List.getElem?_set] at hk
    by_cases e : i = k
    · subst e
      rw [if_pos rfl, if_pos (by rw [← h.len]; exact hil)] at hk
      obtain rfl := Option.some.inj hk
      exact ⟨xss.length, by rw [List.getElem?_set, if_pos rfl, if_pos hil], by simp⟩
    · rw [if_neg e] at hk
      obtain ⟨j', a1, a2⟩ := h.get k p hk
      have hjl := (List.getElem?_eq_some_iff.1 a2).1
      refine ⟨j', by rw [List.getElem?_set, if_neg e]; exact a1, ?_⟩
      rw [List.getElem?_append_left (by simpa using hjl), List.getElem?_set, if_neg (fun he => e (h.inj _ _ _ _ _ hi (he ▸ a1)))]
      exact a2
  · have key : ∀ {k : Nat} {v1 : Vtx}, (ms.set i (⟨v, some xss.length⟩ : PplM))[k]? = some ⟨v1, some j'⟩ → (k ≠ i ∧ ms[k]? = some ⟨v1, some j'⟩ ∧ j' < xss.length) ∨ (k = i ∧ j' = xss.length) := fun {k v1} hk => by
      rw [List.getElem?_set] at hk
      by_cases e : i = k
      · subst e
        rw [if_pos rfl, if_pos hil] at hk
        injection hk with hk
        injection hk with _ hk
        exact .inr ⟨rfl, (Option.some.inj hk).symm⟩
      · rw [if_neg e] at hk
        exact .inl ⟨Ne.symm e, hk, (h.old hk).1⟩
    rcases key h1 with ⟨a1, a2, a3⟩ | ⟨a1, a2⟩ <;> rcases key h2 with ⟨b1, b2, b3⟩ | ⟨b1, b2⟩
    · exact h.inj _ _ _ _ _ a2 b2
    · omega
    · omega
    · omega
theorem putAt_ins : ∀ {xs : List Int} {m : Int}, xs.Pairwise (· < ·) → m ∉ xs → putAt xs (xs.countP (· < m)) m = insM xs m
  | [], m, _, _ => rfl
  | x :: l, m, h, hm => by
    obtain ⟨h1, h2⟩ := List.pairwise_cons.1 h
    simp only [List.mem_cons, not_or] at hm
    unfold insM
    by_cases c : x < m
    · rw [if_pos c, ← putAt_ins h2 hm.2, List.countP_cons, if_pos (by simpa using c)]
      simp [putAt]
    · have h0 : l.countP (fun y => decide (y < m)) = 0 := by
        rw [List.countP_eq_zero]
        intro y hy
        have := h1 y hy
        simp only [decide_eq_true_eq]
        omega
      rw [if_neg c, if_neg (fun e => hm.1 e.symm), List.countP_cons, if_neg (by simpa using c), h0]
      rfl
theorem ins_same : ∀ {xs : List Int} {m : Int}, xs.Pairwise (· < ·) → m ∈ xs → insM xs m = xs
  | x :: l, m, h, hm => by
    obtain ⟨h1, h2⟩ := List.pairwise_cons.1 h
    unfold insM
    rcases List.mem_cons.1 hm with rfl | hm
    · rw [if_neg (by omega), if_pos rfl]
    · rw [if_pos (h1 m hm), ins_same h2 hm]
theorem cnt_same {w : Wrl} {i m : Int} (hi : inP w i = true) (hs : (prop w i).members.Pairwise (· < ·)) (hm : m ∈ (prop w i).members) : sCnt w i m = w := by
  obtain ⟨h1, h2, -⟩ := prop_at hi
  unfold sCnt
  rw [ins_same hs hm]
  have : (⟨(prop w i).v, (prop w i).members⟩ : Ppl) = prop w i := rfl
  rw [this]
  have e : w.props.set i.toNat (prop w i) = w.props := by
    apply List.ext_getElem?
    intro k
    rw [List.getElem?_set]
    by_cases e : i.toNat = k
    · subst e; rw [if_pos rfl, if_pos h1, h2]
    · rw [if_neg e]
  rw [e]
def slotV (v : Vtx) : Nat := (v.round * 7 + v.author).toNat
theorem tabF_set : ∀ (g : List Vtx) (t : List (Option Vtx)) (s : Nat) (a : Option Vtx), (∀ x ∈ g, slotV x ≠ s) → g.foldl (fun t v => t.set (v.round * 7 + v.author).toNat (some v)) (t.set s a) = (g.foldl (fun t v => t.set (v.round * 7 + v.author).toNat (some v)) t).set s a
  | [], _, _, _, _ => rfl
  | x :: g, t, s, a, h => by
    simp only [List.foldl_cons]
    have h1 : (x.round * 7 + x.author).toNat ≠ s := h x (by simp)
    rw [List.set_comm _ _ (Ne.symm h1)]
    exact tabF_set g _ s a fun y hy => h y (by simp [hy])
theorem tabF_ins : ∀ (g : List Vtx) (t : List (Option Vtx)) (v : Vtx), (∀ x ∈ g, slotV x ≠ slotV v) → (insV g v).foldl (fun t v => t.set (v.round * 7 + v.author).toNat (some v)) t = (g.foldl (fun t v => t.set (v.round * 7 + v.author).toNat (some v)) t).set (slotV v) (some v)
  | [], _, _, _ => rfl
  | x :: g, t, v, h => by
    have h1 : (x.round * 7 + x.author).toNat ≠ (v.round * 7 + v.author).toNat := h x (by simp)
    unfold insV
    split
    · simp only [List.foldl_cons]
      exact tabF_ins g _ v fun y hy => h y (by simp [hy])
    · simp only [List.foldl_cons]
      rw [← tabF_set g _ (slotV v) (some v) fun y hy => h y (by simp [hy]), List.set_comm _ _ (Ne.symm h1)]
      rfl
theorem tabV_ins {g : List Vtx} {v : Vtx} (hg : ∀ x ∈ g, inTab x) (hv : inTab v) (hn : hasV g v.round v.author = false) : tabV (insV g v) = (tabV g).set (slotV v) (some v) := by
  refine tabF_ins g _ v fun x hx he => ?_
  obtain ⟨⟨a1, a2⟩, a3, a4⟩ := hg x hx
  obtain ⟨⟨b1, b2⟩, b3, b4⟩ := hv
  have : hasV g v.round v.author = true := hasV_iff.2 ⟨x, hx, by unfold slotV at he; omega, by unfold slotV at he; omega⟩
  rw [hn] at this
  cases this
theorem nxt_le {ps : List Ppl} {m r : Int} (hr : 0 ≤ r) (h : ∀ p ∈ ps, p.v.author = m → p.v.round + 1 ≤ r) : nxt ps m ≤ r := by
  induction ps using snoc_ind with
  | h0 => exact hr
  | h l x ih =>
    rw [nxt_app]
    have h1 := ih fun p hp => h p (by simp [hp])
    split
    · rename_i e
      have := h x (by simp) e
      omega
    · exact h1
end Go.Proofs.YticiffgklmjfnaaGreat.Am
namespace Go.Proofs.YticiffgklmjfnaaGreat.Am
set_option linter.unusedSimpArgs false
set_option linter.unusedVariables false
open Go
attribute [local irreducible] Mk Need Ari Get Idx Cnd CallM CallA Opt Unch At ConV
set_option maxRecDepth 10000
abbrev rW (s : Int) (w : Wrl) (xss : List (Option (List Int))) (ms : List PplM) : VH := rX s w.com w.lead w.bad (w.views.map tabV) xss ms
abbrev rWg (s : Int) (w : Wrl) (xss : List (Option (List Int))) (ms : List PplM) : VH := rXg s w.com w.lead w.bad (w.views.map tabV) xss ms
theorem view_tab {w : Wrl} (hw : WOK w) {m : Int} (hm : 0 ≤ m ∧ m < w.com.length) : (w.views.map tabV)[m.toNat]? = some (tabV (view w m)) ∧ GraOK w.com (view w m) := by
  have hl := hw.vlen
  have h : w.views[m.toNat]? = some (view w m) := by
    unfold view
    rw [List.getD_eq_getElem?_getD, List.getElem?_eq_getElem (by omega)]
    rfl
  exact ⟨by rw [List.getElem?_map, h]; rfl, graS_ok (hw.gra _ (List.mem_of_getElem? h))⟩
theorem hp_at {n : Nat} {m : Int} (hm : 0 ≤ m ∧ m < n) : ((List.range n).map some)[m.toNat]? = some (some m.toNat) := by
  rw [List.getElem?_map, List.getElem?_range (by omega)]
  rfl
theorem prpB_eq {w : Wrl} {m d : Int} (h1 : good w m = true) (h2 : nxt w.props m ≤ (prpV w m d).round) : prpB w m d = (vtxS w.com (prpV w m d) && decide (w.props.length < 220)) := by
  have hd : vtxS w.com (prpV w m d) = true → vIn d 0 990 = true := fun h => vIn_iff.2 (vtxS_ok h).2.2.2.1
  unfold prpB
  rw [h1, decide_eq_true h2]
  cases h : vtxS w.com (prpV w m d)
  · simp
  · rw [hd h]
    simp
theorem prpB_no {w : Wrl} {m d : Int} {p : Ppl} (hp : p ∈ w.props) (h1 : p.v.author = m) (h2 : (prpV w m d).round ≤ p.v.round) : prpB w m d = false := by
  have := nxt_ge p hp h1
  unfold prpB
  rw [decide_eq_false (p := nxt w.props m ≤ (prpV w m d).round) (by omega)]
  simp
theorem prpV_0 {w : Wrl} {m d : Int} (h : hgt w.com (view w m) < 0) : prpV w m d = ⟨0, m, [], d⟩ := by
  have := (hgtTo_lt w.com (view w m) 31).1
  have : hgt w.com (view w m) = -1 := by unfold hgt at *; omega
  unfold prpV
  rw [this]
  rfl
theorem prpV_1 {w : Wrl} {m d : Int} (h : 0 ≤ hgt w.com (view w m)) : prpV w m d = ⟨hgt w.com (view w m) + 1, m, auth (view w m) (hgt w.com (view w m)), d⟩ := by
  unfold prpV
  rw [if_pos (by omega)]
theorem fl_app (E : TypeId) (t : Ty) (xs ys : List (Option (List t.den))) : famLen (VB.frowx E t xs) ≤ famLen (VB.frowx E t (xs ++ ys)) := by
  show xs.length ≤ (xs ++ ys).length
  simp
set_option maxHeartbeats 1000000 in
theorem iprp_c (s : Int) (w : Wrl) (xss : List (Option (List Int))) (ms : List PplM) (hw : WOK w) (hR : Rel w.props xss ms) (m d : Int) : ConV Tryz.prog 86 [.ptr 4 0, .int .i64 m, .int .i64 d] (rW s w xss ms) (.bool (prpB w m d)) (if prpB w m d then rWg s w (xss ++ [some []]) (ms ++ [⟨prpV w m d, some xss.length⟩]) else rW s w xss ms) := by
  refine con_eq Θw_ok Tryz.func86 rfl rfl false 3 7 rfl rfl rfl rfl fun K hK hb1 hb2 => ?_; simp only [argsV, enc, Nat.reduceAdd]
  clear hb1 hb2
  have hC := icor_c s w.com w.lead w.bad (w.views.map tabV) xss ms m
  have hpl := hw.plen
  have hml := hR.len
  rw [show (hasM w.com m && m != w.bad) = good w m from rfl] at hC
  cases hg : good w m
  · have hF : prpB w m d = false := by unfold prpB; rw [hg]; rfl
    rw [hg] at hC
    (repeat (any_goals (first | refine stw ?_ | ((first | refine go2 fun xe hxe => ?_ | with_reducible refine cnd_d (fun hq => ?_) fun hq => ?_) <;> conv => whnf) | ((with_reducible refine cnd_i (fun hq => ?_) fun hq => ?_) <;> ((try simp only [hqs] at hq) <;> (first | omega | conv => whnf))) | refine cr (hC) ?_)))
    rw [hF]
    exact ⟨rfl, rfl⟩
  · rw [hg] at hC
    obtain ⟨hm, -⟩ := good_iff.1 hg
    obtain ⟨hk, hG⟩ := view_tab hw hm
    have hvl : (w.views.map tabV).length = w.com.length := by rw [List.length_map, hw.vlen]
    have hc := hw.com
    have h7 := (comV_iff.1 hc).2
    have hxv := hp_at (n := (w.views.map tabV).length) (m := m) (by rw [hvl]; exact hm)
    have hrl : ((List.range (w.views.map tabV).length).map some).length = w.com.length := by simp [hvl, hw.vlen]
    have hno := fun p hp => prpB_no (w := w) (m := m) (d := d) (p := p) hp
    have heq := prpB_eq (w := w) (m := m) (d := d) hg
    have hH := ihg_c s w.com w.lead w.bad (w.views.map tabV) xss ms m.toNat (view w m) hG hk
    have hlt31 := hgtTo_lt w.com (view w m) 31
    have hT := fun r h0 h1 => iat_c (w.views.map tabV) m.toNat _ r hk (tabV_len _) ⟨h0, h1⟩
    have hTe := fun (r : Nat) (hr : r ≤ 30) => authT_eq hG hr
    have hAm := auth_mems hG
    rw [show hgtTo w.com (view w m) 31 = hgt w.com (view w m) from rfl] at hlt31
    rcases Int.lt_or_le (hgt w.com (view w m)) 0 with hh | hh
    · rw [prpV_0 hh] at hno heq ⊢
      (repeat (any_goals (first | refine stw ?_ | ((first | refine go2 fun xe hxe => ?_ | with_reducible refine cnd_d (fun hq => ?_) fun hq => ?_) <;> conv => whnf) | ((with_reducible refine cnd_i (fun hq => ?_) fun hq => ?_) <;> ((try simp only [hqs] at hq) <;> (first | omega | conv => whnf))) | refine cr (hC) ?_ | refine cr (hH) ?_)))
      refine at_loop hK [] [0, 1, 7, 45, 46, 47] (fun i : Nat => ⟨[(0, .ptr 4 0), (1, .int .i64 m), (7, .ptr 7 0), (45, .ref 6), (46, .int .i64 ms.length), (47, .int .i64 (i : Int))], rW s w xss ms ++ [(7, VB.var 36 [.int .i64 0, .int .i64 m, .nils, .int .i64 d])], 8⟩) (fun i => i ≤ w.props.length ∧ ∀ p ∈ w.props.take i, ¬ (p.v.author = m ∧ 0 ≤ p.v.round)) (fun i => w.props.length - i) 0 (by simp) (by (conv => whnf); rfl) ?_
      rintro i ⟨hi, hall⟩
      by_cases hlt : i < w.props.length
      · have hxe : w.props[i]? = some w.props[i] := List.getElem?_eq_getElem hlt
        have hsn : w.props.take (i + 1) = w.props.take i ++ [w.props[i]] := List.take_succ_eq_append_getElem hlt
        obtain ⟨j, hj1, hj2⟩ := hR.get i _ hxe
        have hno := hno _ (List.getElem_mem hlt)
        generalize w.props[i] = p at *
        by_cases c1 : p.v.author = m
        · by_cases c2 : 0 ≤ p.v.round
          · have hF := hno c1 c2
            (repeat (any_goals (first | refine stw ?_ | ((first | refine go2 fun xe hxe => ?_ | with_reducible refine cnd_d (fun hq => ?_) fun hq => ?_) <;> conv => whnf) | ((with_reducible refine cnd_i (fun hq => ?_) fun hq => ?_) <;> ((try simp only [hqs] at hq) <;> (first | omega | conv => whnf))))))
            rw [hF]
            exact ⟨rfl, rfl⟩
          · (repeat (any_goals (first | refine stw ?_ | ((first | refine go2 fun xe hxe => ?_ | with_reducible refine cnd_d (fun hq => ?_) fun hq => ?_) <;> conv => whnf) | ((with_reducible refine cnd_i (fun hq => ?_) fun hq => ?_) <;> ((try simp only [hqs] at hq) <;> (first | omega | conv => whnf))))))
            exact ⟨i + 1, ⟨by omega, by rw [hsn]; exact tk_snoc hall fun h => c2 h.2⟩, by omega, rfl⟩
        · (repeat (any_goals (first | refine stw ?_ | ((first | refine go2 fun xe hxe => ?_ | with_reducible refine cnd_d (fun hq => ?_) fun hq => ?_) <;> conv => whnf) | ((with_reducible refine cnd_i (fun hq => ?_) fun hq => ?_) <;> ((try simp only [hqs] at hq) <;> (first | omega | conv => whnf))))))
          exact ⟨i + 1, ⟨by omega, by rw [hsn]; exact tk_snoc hall fun h => c1 h.1⟩, by omega, rfl⟩
      · rw [List.take_of_length_le (by omega)] at hall
        have heq := heq (nxt_le (by show (0 : Int) ≤ 0; omega) fun p hp ha => by
          have := hall p hp
          show p.v.round + 1 ≤ 0
          omega)
        cases hv : (vtxS w.com ⟨0, m, [], d⟩ && decide (w.props.length < 220))
        · rw [hv] at heq
          have hN := iadn_c s w.com w.lead w.bad (w.views.map tabV) xss ms ⟨0, m, [], d⟩ hc (by rw [hml]; exact hv) (by omega)
          (repeat (any_goals (first | refine stw ?_ | ((first | refine go2 fun xe hxe => ?_ | with_reducible refine cnd_d (fun hq => ?_) fun hq => ?_) <;> conv => whnf) | ((with_reducible refine cnd_i (fun hq => ?_) fun hq => ?_) <;> ((try simp only [hqs] at hq) <;> (first | omega | conv => whnf))) | refine cr (hN) ?_)))
          rw [heq]
          exact ⟨rfl, rfl⟩
        · rw [hv] at heq
          simp only [Bool.and_eq_true, decide_eq_true_eq] at hv
          have hY := iady_c s w.com w.lead w.bad (w.views.map tabV) xss ms ⟨0, m, [], d⟩ hc hv.1 (by omega)
          (repeat (any_goals (first | refine stw ?_ | ((first | refine go2 fun xe hxe => ?_ | with_reducible refine cnd_d (fun hq => ?_) fun hq => ?_) <;> conv => whnf) | ((with_reducible refine cnd_i (fun hq => ?_) fun hq => ?_) <;> ((try simp only [hqs] at hq) <;> (first | omega | conv => whnf))) | refine cr (hY) ?_)))
          refine need_i (fl_app _ _ _ _) ?_
          (conv => whnf)
          (repeat (any_goals (first | refine stw ?_ | ((first | refine go2 fun xe hxe => ?_ | with_reducible refine cnd_d (fun hq => ?_) fun hq => ?_) <;> conv => whnf) | ((with_reducible refine cnd_i (fun hq => ?_) fun hq => ?_) <;> ((try simp only [hqs] at hq) <;> (first | omega | conv => whnf))) | refine cr (hY) ?_)))
          rw [heq]
          exact ⟨rfl, rfl⟩
    · rw [prpV_1 hh] at hno heq ⊢
      have hT := hT (hgt w.com (view w m)) hh (by omega)
      rw [hTe (hgt w.com (view w m)).toNat (by omega), show (((hgt w.com (view w m)).toNat : Nat) : Int) = hgt w.com (view w m) by omega] at hT
      have hal := mems_len (hAm (hgt w.com (view w m)))
      (repeat (any_goals (first | refine stw ?_ | ((first | refine go2 fun xe hxe => ?_ | with_reducible refine cnd_d (fun hq => ?_) fun hq => ?_) <;> conv => whnf) | ((with_reducible refine cnd_i (fun hq => ?_) fun hq => ?_) <;> ((try simp only [hqs] at hq) <;> (first | omega | conv => whnf))) | refine cr (hC) ?_ | refine cr (hH) ?_ | refine co (hT) ?_)))
      refine at_loop hK [] [0, 1, 7, 45, 46, 47] (fun i : Nat => ⟨[(0, .ptr 4 0), (1, .int .i64 m), (7, .ptr 7 0), (45, .ref 6), (46, .int .i64 ms.length), (47, .int .i64 (i : Int))], rW s w xss ms ++ [(7, VB.var 36 [.int .i64 (hgt w.com (view w m) + 1), .int .i64 m, .ref 8, .int .i64 d]), (8, VB.row 3 (.int .i64) (auth (view w m) (hgt w.com (view w m))))], 9⟩) (fun i => i ≤ w.props.length ∧ ∀ p ∈ w.props.take i, ¬ (p.v.author = m ∧ (hgt w.com (view w m) + 1) ≤ p.v.round)) (fun i => w.props.length - i) 0 (by simp) (by (conv => whnf); rfl) ?_
      rintro i ⟨hi, hall⟩
      by_cases hlt : i < w.props.length
      · have hxe : w.props[i]? = some w.props[i] := List.getElem?_eq_getElem hlt
        have hsn : w.props.take (i + 1) = w.props.take i ++ [w.props[i]] := List.take_succ_eq_append_getElem hlt
        obtain ⟨j, hj1, hj2⟩ := hR.get i _ hxe
        have hno := hno _ (List.getElem_mem hlt)
        generalize w.props[i] = p at *
        by_cases c1 : p.v.author = m
        · by_cases c2 : (hgt w.com (view w m) + 1) ≤ p.v.round
          · have hF := hno c1 c2
            (repeat (any_goals (first | refine stw ?_ | ((first | refine go2 fun xe hxe => ?_ | with_reducible refine cnd_d (fun hq => ?_) fun hq => ?_) <;> conv => whnf) | ((with_reducible refine cnd_i (fun hq => ?_) fun hq => ?_) <;> ((try simp only [hqs] at hq) <;> (first | omega | conv => whnf))))))
            rw [hF]
            exact ⟨rfl, rfl⟩
          · (repeat (any_goals (first | refine stw ?_ | ((first | refine go2 fun xe hxe => ?_ | with_reducible refine cnd_d (fun hq => ?_) fun hq => ?_) <;> conv => whnf) | ((with_reducible refine cnd_i (fun hq => ?_) fun hq => ?_) <;> ((try simp only [hqs] at hq) <;> (first | omega | conv => whnf))))))
            exact ⟨i + 1, ⟨by omega, by rw [hsn]; exact tk_snoc hall fun h => c2 h.2⟩, by omega, rfl⟩
        · (repeat (any_goals (first | refine stw ?_ | ((first | refine go2 fun xe hxe => ?_ | with_reducible refine cnd_d (fun hq => ?_) fun hq => ?_) <;> conv => whnf) | ((with_reducible refine cnd_i (fun hq => ?_) fun hq => ?_) <;> ((try simp only [hqs] at hq) <;> (first | omega | conv => whnf))))))
          exact ⟨i + 1, ⟨by omega, by rw [hsn]; exact tk_snoc hall fun h => c1 h.1⟩, by omega, rfl⟩
      · rw [List.take_of_length_le (by omega)] at hall
        have heq := heq (nxt_le (by show (0 : Int) ≤ (hgt w.com (view w m) + 1); omega) fun p hp ha => by
          have := hall p hp
          show p.v.round + 1 ≤ (hgt w.com (view w m) + 1)
          omega)
        cases hv : (vtxS w.com ⟨(hgt w.com (view w m) + 1), m, auth (view w m) (hgt w.com (view w m)), d⟩ && decide (w.props.length < 220))
        · rw [hv] at heq
          have hN := iadn_c s w.com w.lead w.bad (w.views.map tabV) xss ms ⟨(hgt w.com (view w m) + 1), m, auth (view w m) (hgt w.com (view w m)), d⟩ hc (by rw [hml]; exact hv) (by omega)
          (repeat (any_goals (first | refine stw ?_ | ((first | refine go2 fun xe hxe => ?_ | with_reducible refine cnd_d (fun hq => ?_) fun hq => ?_) <;> conv => whnf) | ((with_reducible refine cnd_i (fun hq => ?_) fun hq => ?_) <;> ((try simp only [hqs] at hq) <;> (first | omega | conv => whnf))) | refine cr (hN) ?_)))
          rw [heq]
          exact ⟨rfl, rfl⟩
        · rw [hv] at heq
          simp only [Bool.and_eq_true, decide_eq_true_eq] at hv
          have hY := iady_c s w.com w.lead w.bad (w.views.map tabV) xss ms ⟨(hgt w.com (view w m) + 1), m, auth (view w m) (hgt w.com (view w m)), d⟩ hc hv.1 (by omega)
          (repeat (any_goals (first | refine stw ?_ | ((first | refine go2 fun xe hxe => ?_ | with_reducible refine cnd_d (fun hq => ?_) fun hq => ?_) <;> conv => whnf) | ((with_reducible refine cnd_i (fun hq => ?_) fun hq => ?_) <;> ((try simp only [hqs] at hq) <;> (first | omega | conv => whnf))) | refine cr (hY) ?_)))
          refine need_i (fl_app _ _ _ _) ?_
          (conv => whnf)
          (repeat (any_goals (first | refine stw ?_ | ((first | refine go2 fun xe hxe => ?_ | with_reducible refine cnd_d (fun hq => ?_) fun hq => ?_) <;> conv => whnf) | ((with_reducible refine cnd_i (fun hq => ?_) fun hq => ?_) <;> ((try simp only [hqs] at hq) <;> (first | omega | conv => whnf))) | refine cr (hY) ?_)))
          rw [heq]
          exact ⟨rfl, rfl⟩
end Go.Proofs.YticiffgklmjfnaaGreat.Am
namespace Go.Proofs.YticiffgklmjfnaaGreat.Am
set_option linter.unusedSimpArgs false
set_option linter.unusedVariables false
open Go
attribute [local irreducible] Mk Need Ari Get Idx Cnd CallM CallA Opt Unch At ConV
set_option maxRecDepth 10000
theorem fl_set {E : TypeId} {t : Ty} {xs : List (Option (List t.den))} {j : Nat} {o : Option (List t.den)} {ys : List (Option (List t.den))} : famLen (VB.frowx E t xs) ≤ famLen (VB.frowx E t (xs.set j o ++ ys)) := by
  show xs.length ≤ (xs.set j o ++ ys).length
  simp
theorem nat_in {w : Wrl} {i : Int} (hi : inP w i = true) : ∃ n : Nat, i = n ∧ n < w.props.length ∧ w.props[n]? = some (prop w i) := by
  obtain ⟨h1, h2, -⟩ := prop_at hi
  have h0 := (vIn_iff.1 hi).1
  exact ⟨i.toNat, by omega, h1, h2⟩
theorem out_in {w : Wrl} {i : Int} (hi : inP w i = false) : i < 0 ∨ (w.props.length : Int) ≤ i := by
  rw [Bool.eq_false_iff] at hi
  rcases Int.lt_or_le i 0 with h | h
  · exact .inl h
  · refine .inr ?_
    rcases Int.lt_or_le i w.props.length with h2 | h2
    · exact absurd (vIn_iff.2 ⟨h, by omega⟩) hi
    · exact h2
theorem one_of {w : Wrl} (hw : WOK w) {p : Ppl} (hp : p ∈ w.props) : vtxS w.com p.v = true ∧ mems w.com p.members = true := by
  have := hw.one p hp
  simpa [oneP] using this
theorem vtx_cov {c : List Int} {v : Vtx} (hc : comV c = true) (h : vtxS c v = true) : (v.parents ≠ [] → 1 ≤ v.round ∧ v.round ≤ 31) ∧ (∀ p ∈ v.parents, 0 ≤ p ∧ p ≤ 6) := by
  obtain ⟨h1, h2, h3, h4, h5, h6⟩ := vtxS_ok h
  have h7 := (comV_iff.1 hc).2
  refine ⟨fun hne => ⟨?_, by omega⟩, fun p hp => ?_⟩
  · rcases Int.lt_or_le v.round 1 with hlt | hge
    · exact absurd (h5 (by omega)) hne
    · exact hge
  · have := mems_in h3 p hp
    omega
theorem cov_eq {w : Wrl} (hw : WOK w) {m : Int} (hm : 0 ≤ m ∧ m < w.com.length) {v : Vtx} (hv : vtxS w.com v = true) : vcov (tabV (view w m)) v = parOK (view w m) v := by
  have hG := (view_tab hw hm).2
  exact vcov_eq (fun u hu => vtxS_tab hw.com (hG.vtx u hu)) (vtx_cov hw.com hv).1 (vtx_cov hw.com hv).2
def dblD (w : Wrl) (m i : Int) (k : Nat) : Bool := (k : Int) != i && (slt (w.props.getD k p0).v (prop w i).v && (w.props.getD k p0).members.contains m)
theorem dbl_yes {w : Wrl} {m i : Int} {k : Nat} (hk : k < w.props.length) (h : dblD w m i k = true) : dbl w m i = true := List.any_eq_true.2 ⟨k, List.mem_range.2 hk, h⟩
theorem dbl_no {w : Wrl} {m i : Int} (h : ∀ k, k < w.props.length → dblD w m i k = false) : dbl w m i = false := by
  rw [Bool.eq_false_iff]
  intro h2
  obtain ⟨k, hk, h3⟩ := List.any_eq_true.1 h2
  have := h k (List.mem_range.1 hk)
  rw [show dblD w m i k = true from h3] at this
  cases this
theorem ivoto_c (s : Int) (w : Wrl) (xss : List (Option (List Int))) (ms : List PplM) (hw : WOK w) (hR : Rel w.props xss ms) (m i : Int) (hi : inP w i = false) : ConV Tryz.prog 87 [.ptr 4 0, .int .i64 m, .int .i64 i] (rW s w xss ms) (.bool false) (rW s w xss ms) := by
  have hpl := hw.plen
  have hml := hR.len
  refine con_eq Θw_ok Tryz.func87 rfl rfl false 3 7 rfl rfl rfl rfl fun K hK hb1 hb2 => ?_; simp only [argsV, enc, Nat.reduceAdd]
  clear hb1 hb2
  have hP := iprn_c s w.com w.lead w.bad (w.views.map tabV) xss ms i (by rw [hml]; exact out_in hi) (by omega)
  (repeat (any_goals (first | refine stw ?_ | ((first | refine go2 fun xe hxe => ?_ | with_reducible refine cnd_d (fun hq => ?_) fun hq => ?_) <;> conv => whnf) | ((with_reducible refine cnd_i (fun hq => ?_) fun hq => ?_) <;> ((try simp only [hqs] at hq) <;> (first | omega | conv => whnf))) | refine cr (hP) ?_)))
  exact ⟨rfl, rfl⟩
set_option maxHeartbeats 1000000 in
theorem ivot_c (s : Int) (w : Wrl) (xss : List (Option (List Int))) (ms : List PplM) (hw : WOK w) (hR : Rel w.props xss ms) (m : Int) (i j : Nat) (hi : inP w i = true) (hj1 : ms[i]? = some ⟨(prop w i).v, some j⟩) (hj2 : xss[j]? = some (some (prop w i).members)) : ConV Tryz.prog 87 [.ptr 4 0, .int .i64 m, .int .i64 (i : Int)] (rW s w xss ms)
    (.bool (votB w m i && !(prop w i).members.contains m)) (if votB w m i && !(prop w i).members.contains m then rW s w (xss.set j none ++ [some (insM (prop w i).members m)]) (ms.set i ⟨(prop w i).v, some xss.length⟩) else rW s w xss ms) := by
  have hpl := hw.plen
  have hml := hR.len
  have hil := (List.getElem?_eq_some_iff.1 hj1).1
  obtain ⟨n, hn, hn1, hn2⟩ := nat_in hi
  obtain rfl : i = n := by omega
  obtain ⟨o1, o2⟩ := one_of hw (List.mem_of_getElem? hn2)
  refine con_eq Θw_ok Tryz.func87 rfl rfl false 3 7 rfl rfl rfl rfl fun K hK hb1 hb2 => ?_; simp only [argsV, enc, Nat.reduceAdd]
  clear hb1 hb2
  have hP := ipry_c s w.com w.lead w.bad (w.views.map tabV) xss ms i (by omega) (by omega)
  have hC := icor_c s w.com w.lead w.bad (w.views.map tabV) xss ms m
  rw [show (hasM w.com m && m != w.bad) = good w m from rfl] at hC
  cases hg : good w m
  · have hF : votB w m i = false := by unfold votB; rw [hg]; rfl
    rw [hg] at hC
    (repeat (any_goals (first | refine stw ?_ | ((first | refine go2 fun xe hxe => ?_ | with_reducible refine cnd_d (fun hq => ?_) fun hq => ?_) <;> conv => whnf) | ((with_reducible refine cnd_i (fun hq => ?_) fun hq => ?_) <;> ((try simp only [hqs] at hq) <;> (first | omega | conv => whnf))) | refine cr (hP) ?_ | refine cr (hC) ?_)))
    rw [hF]
    exact ⟨rfl, rfl⟩
  · rw [hg] at hC
    obtain ⟨hm, -⟩ := good_iff.1 hg
    obtain ⟨hk, hG⟩ := view_tab hw hm
    have hc := hw.com
    have h7 := (comV_iff.1 hc).2
    have hvl : (w.views.map tabV).length = w.com.length := by rw [List.length_map, hw.vlen]
    have hxv := hp_at (n := (w.views.map tabV).length) (m := m) (by rw [hvl]; exact hm)
    have hrl : ((List.range (w.views.map tabV).length).map some).length = w.com.length := by simp [hvl, hw.vlen]
    have hV := cov_h (w.views.map tabV) m.toNat _ (prop w i).v hk (tabV_len _) (vtx_cov hc o1).1 (vtx_cov hc o1).2
    rw [cov_eq hw hm o1] at hV
    cases hp : parOK (view w m) (prop w i).v
    · have hF : votB w m i = false := by unfold votB; rw [hp]; simp
      rw [hp] at hV
      (repeat (any_goals (first | refine stw ?_ | ((first | refine go2 fun xe hxe => ?_ | with_reducible refine cnd_d (fun hq => ?_) fun hq => ?_) <;> conv => whnf) | ((with_reducible refine cnd_i (fun hq => ?_) fun hq => ?_) <;> ((try simp only [hqs] at hq) <;> (first | omega | conv => whnf))) | refine cr (hP) ?_ | refine cr (hC) ?_ | refine cr (hV) ?_)))
      rw [hF]
      exact ⟨rfl, rfl⟩
    · rw [hp] at hV
      have hB : votB w m i = !dbl w m i := by unfold votB; rw [hg, hi, hp]; simp
      (repeat (any_goals (first | refine stw ?_ | ((first | refine go2 fun xe hxe => ?_ | with_reducible refine cnd_d (fun hq => ?_) fun hq => ?_) <;> conv => whnf) | ((with_reducible refine cnd_i (fun hq => ?_) fun hq => ?_) <;> ((try simp only [hqs] at hq) <;> (first | omega | conv => whnf))) | refine cr (hP) ?_ | refine cr (hC) ?_ | refine cr (hV) ?_)))
      refine at_loop hK [] [0, 1, 2, 7, 39, 40, 41] (fun k : Nat => ⟨[(0, .ptr 4 0), (1, .int .i64 m), (2, .int .i64 (i : Int)), (7, .eptr 6 i 0), (39, .ref 6), (40, .int .i64 ms.length), (41, .int .i64 (k : Int))], rW s w xss ms, 7⟩) (fun k => k ≤ w.props.length ∧ ∀ k', k' < k → dblD w m i k' = false) (fun k => w.props.length - k) 0 (by simp) (by (conv => whnf); rfl) ?_
      rintro k ⟨hk1, hall⟩
      by_cases hlt : k < w.props.length
      · have hxe : w.props[k]? = some w.props[k] := List.getElem?_eq_getElem hlt
        obtain ⟨jk, hq1, hq2⟩ := hR.get k _ hxe
        have hyes := dbl_yes (m := m) (i := (i : Int)) hlt
        have hgd : w.props.getD k p0 = w.props[k] := by rw [List.getD_eq_getElem?_getD, hxe]; rfl
        have hD : dblD w m i k = ((k : Int) != i && (slt w.props[k].v (prop w i).v && w.props[k].members.contains m)) := by unfold dblD; rw [hgd]
        generalize w.props[k] = q at *
        have hS := islt_c q.v (prop w i).v
        have hN := slCon_c q.members m
        have nxt : dblD w m i k = false → ∀ k', k' < k + 1 → dblD w m i k' = false := fun h k' hk' => by
          rcases Nat.lt_or_ge k' k with h1 | h1
          · exact hall k' h1
          · obtain rfl : k' = k := by omega
            exact h
        by_cases c1 : k = i
        · have c2 : ((k : Int) != i) = false := by simp [c1]
          rw [c2, Bool.false_and] at hD
          (repeat (any_goals (first | refine stw ?_ | ((first | refine go2 fun xe hxe => ?_ | with_reducible refine cnd_d (fun hq => ?_) fun hq => ?_) <;> conv => whnf) | ((with_reducible refine cnd_i (fun hq => ?_) fun hq => ?_) <;> ((try simp only [hqs] at hq) <;> (first | omega | conv => whnf))))))
          exact ⟨k + 1, ⟨by omega, nxt hD⟩, by omega, rfl⟩
        · have c2 : ((k : Int) != i) = true := by simp; omega
          rw [c2, Bool.true_and] at hD
          cases c3 : slt q.v (prop w i).v
          · rw [c3] at hD hS
            (repeat (any_goals (first | refine stw ?_ | ((first | refine go2 fun xe hxe => ?_ | with_reducible refine cnd_d (fun hq => ?_) fun hq => ?_) <;> conv => whnf) | ((with_reducible refine cnd_i (fun hq => ?_) fun hq => ?_) <;> ((try simp only [hqs] at hq) <;> (first | omega | conv => whnf))) | refine cr (hS) ?_)))
            exact ⟨k + 1, ⟨by omega, nxt hD⟩, by omega, rfl⟩
          · rw [c3, Bool.true_and] at hD
            rw [c3] at hS
            cases c4 : q.members.contains m
            · rw [c4] at hD hN
              (repeat (any_goals (first | refine stw ?_ | ((first | refine go2 fun xe hxe => ?_ | with_reducible refine cnd_d (fun hq => ?_) fun hq => ?_) <;> conv => whnf) | ((with_reducible refine cnd_i (fun hq => ?_) fun hq => ?_) <;> ((try simp only [hqs] at hq) <;> (first | omega | conv => whnf))) | refine cr (hS) ?_ | ((with_reducible refine call_v ?_); (conv => whnf)) | ((first | with_reducible refine call_i (hN) ?_); conv => whnf))))
              exact ⟨k + 1, ⟨by omega, nxt hD⟩, by omega, rfl⟩
            · rw [c4] at hD hN
              rw [hyes hD] at hB
              (repeat (any_goals (first | refine stw ?_ | ((first | refine go2 fun xe hxe => ?_ | with_reducible refine cnd_d (fun hq => ?_) fun hq => ?_) <;> conv => whnf) | ((with_reducible refine cnd_i (fun hq => ?_) fun hq => ?_) <;> ((try simp only [hqs] at hq) <;> (first | omega | conv => whnf))) | refine cr (hS) ?_ | ((with_reducible refine call_v ?_); (conv => whnf)) | ((first | with_reducible refine call_i (hN) ?_); conv => whnf))))
              rw [hB]
              exact ⟨rfl, rfl⟩
      · rw [dbl_no fun k' hk' => hall k' (by omega)] at hB
        rw [hB]
        have hl := mems_len o2
        have ha := mems_asc o2
        cases hm2 : (prop w i).members.contains m
        · have hY := icay_c xss ms i j _ _ m hj1 hj2 ha (by omega) hm2
          rw [putAt_ins ha (by simpa using hm2)] at hY
          (repeat (any_goals (first | refine stw ?_ | ((first | refine go2 fun xe hxe => ?_ | with_reducible refine cnd_d (fun hq => ?_) fun hq => ?_) <;> conv => whnf) | ((with_reducible refine cnd_i (fun hq => ?_) fun hq => ?_) <;> ((try simp only [hqs] at hq) <;> (first | omega | conv => whnf))) | refine cr (hY) ?_)))
          refine need_i fl_set ?_
          (conv => whnf)
          (repeat (any_goals (first | refine stw ?_ | ((first | refine go2 fun xe hxe => ?_ | with_reducible refine cnd_d (fun hq => ?_) fun hq => ?_) <;> conv => whnf) | ((with_reducible refine cnd_i (fun hq => ?_) fun hq => ?_) <;> ((try simp only [hqs] at hq) <;> (first | omega | conv => whnf))) | refine cr (hY) ?_)))
          exact ⟨rfl, rfl⟩
        · have hY := ican_c xss ms i j _ _ m hj1 hj2 ha (by omega) hm2
          (repeat (any_goals (first | refine stw ?_ | ((first | refine go2 fun xe hxe => ?_ | with_reducible refine cnd_d (fun hq => ?_) fun hq => ?_) <;> conv => whnf) | ((with_reducible refine cnd_i (fun hq => ?_) fun hq => ?_) <;> ((try simp only [hqs] at hq) <;> (first | omega | conv => whnf))) | refine cr (hY) ?_)))
          exact ⟨rfl, rfl⟩
end Go.Proofs.YticiffgklmjfnaaGreat.Am
namespace Go.Proofs.YticiffgklmjfnaaGreat.Am
set_option linter.unusedSimpArgs false
set_option linter.unusedVariables false
open Go
attribute [local irreducible] Mk Need Ari Get Idx Cnd CallM CallA Opt Unch At ConV
set_option maxRecDepth 10000
theorem idelo_c (s : Int) (w : Wrl) (xss : List (Option (List Int))) (ms : List PplM) (hw : WOK w) (hR : Rel w.props xss ms) (m i : Int) (hi : inP w i = false) : ConV Tryz.prog 88 [.ptr 4 0, .int .i64 m, .int .i64 i] (rW s w xss ms) (.bool false) (rW s w xss ms) := by
  have hpl := hw.plen
  have hml := hR.len
  refine con_eq Θw_ok Tryz.func88 rfl rfl false 3 7 rfl rfl rfl rfl fun K hK hb1 hb2 => ?_; simp only [argsV, enc, Nat.reduceAdd]
  clear hb1 hb2
  have hP := iprn_c s w.com w.lead w.bad (w.views.map tabV) xss ms i (by rw [hml]; exact out_in hi) (by omega)
  (repeat (any_goals (first | refine stw ?_ | ((first | refine go2 fun xe hxe => ?_ | with_reducible refine cnd_d (fun hq => ?_) fun hq => ?_) <;> conv => whnf) | ((with_reducible refine cnd_i (fun hq => ?_) fun hq => ?_) <;> ((try simp only [hqs] at hq) <;> (first | omega | conv => whnf))) | refine cr (hP) ?_)))
  exact ⟨rfl, rfl⟩
abbrev tabD (w : Wrl) (m : Int) (v : Vtx) : List (List (Option Vtx)) := (w.views.map tabV).set m.toNat ((tabV (view w m)).set (slotV v) (some v))
theorem slot_at {w : Wrl} (hw : WOK w) {m : Int} (hm : 0 ≤ m ∧ m < w.com.length) {v : Vtx} (hv : inTab v) : (tabV (view w m))[v.round.toNat * 7 + v.author.toNat]? = some ((tabV (view w m)).getD (v.round.toNat * 7 + v.author.toNat) none) ∧ ((tabV (view w m)).getD (v.round.toNat * 7 + v.author.toNat) none).isSome = hasV (view w m) v.round v.author := by
  obtain ⟨⟨a1, a2⟩, a3, a4⟩ := hv
  have hG := (view_tab hw hm).2
  have := tabV_at (fun u hu => vtxS_tab hw.com (hG.vtx u hu)) (r := v.round) (a := v.author) ⟨a1, a2⟩ ⟨a3, a4⟩
  rw [show (v.round * 7 + v.author).toNat = v.round.toNat * 7 + v.author.toNat by omega] at this
  exact ⟨by rw [List.getD_eq_getElem?_getD, List.getElem?_eq_getElem (by rw [tabV_len]; omega)]; rfl, this⟩
set_option maxHeartbeats 1000000 in
theorem idel_c (s : Int) (w : Wrl) (xss : List (Option (List Int))) (ms : List PplM) (hw : WOK w) (hR : Rel w.props xss ms) (m : Int) (i j : Nat) (hi : inP w i = true) (hj1 : ms[i]? = some ⟨(prop w i).v, some j⟩) (hj2 : xss[j]? = some (some (prop w i).members)) : ConV Tryz.prog 88 [.ptr 4 0, .int .i64 m, .int .i64 (i : Int)] (rW s w xss ms)
    (.bool (delB w m i)) (if delB w m i then rX s w.com w.lead w.bad (tabD w m (prop w i).v) xss ms else rW s w xss ms) := by
  have hpl := hw.plen
  have hml := hR.len
  have hil := (List.getElem?_eq_some_iff.1 hj1).1
  obtain ⟨n, hn, hn1, hn2⟩ := nat_in hi
  obtain rfl : i = n := by omega
  obtain ⟨o1, o2⟩ := one_of hw (List.mem_of_getElem? hn2)
  refine con_eq Θw_ok Tryz.func88 rfl rfl false 3 7 rfl rfl rfl rfl fun K hK hb1 hb2 => ?_; simp only [argsV, enc, Nat.reduceAdd]
  clear hb1 hb2
  have hP := ipry_c s w.com w.lead w.bad (w.views.map tabV) xss ms i (by omega) (by omega)
  have hC := icor_c s w.com w.lead w.bad (w.views.map tabV) xss ms m
  rw [show (hasM w.com m && m != w.bad) = good w m from rfl] at hC
  cases hg : good w m
  · have hF : delB w m i = false := by unfold delB; rw [hg]; rfl
    rw [hg] at hC
    (repeat (any_goals (first | refine stw ?_ | ((first | refine go2 fun xe hxe => ?_ | with_reducible refine cnd_d (fun hq => ?_) fun hq => ?_) <;> conv => whnf) | ((with_reducible refine cnd_i (fun hq => ?_) fun hq => ?_) <;> ((try simp only [hqs] at hq) <;> (first | omega | conv => whnf))) | refine cr (hP) ?_ | refine cr (hC) ?_)))
    rw [hF]
    exact ⟨rfl, rfl⟩
  · rw [hg] at hC
    obtain ⟨hm, -⟩ := good_iff.1 hg
    obtain ⟨hk, hG⟩ := view_tab hw hm
    have hc := hw.com
    have h7 := (comV_iff.1 hc).2
    have hvl : (w.views.map tabV).length = w.com.length := by rw [List.length_map, hw.vlen]
    have hxv := hp_at (n := (w.views.map tabV).length) (m := m) (by rw [hvl]; exact hm)
    have hrl : ((List.range (w.views.map tabV).length).map some).length = w.com.length := by simp [hvl, hw.vlen]
    have hV := cov_h (w.views.map tabV) m.toNat _ (prop w i).v hk (tabV_len _) (vtx_cov hc o1).1 (vtx_cov hc o1).2
    rw [cov_eq hw hm o1] at hV
    have hD := icert_c w.com (prop w i) hc o2
    obtain ⟨hs1, hs2⟩ := slot_at hw hm (vtxS_tab hc o1)
    obtain ⟨⟨a1, a2⟩, a3, a4⟩ := vtxS_tab hc o1
    have hpp := vtx_par hc o1
    have htl := tabV_len (view w m)
    cases hd : don w.com (prop w i)
    · have hF : delB w m i = false := by unfold delB; rw [hd]; simp
      rw [hd] at hD
      (repeat (any_goals (first | refine stw ?_ | ((first | refine go2 fun xe hxe => ?_ | with_reducible refine cnd_d (fun hq => ?_) fun hq => ?_) <;> conv => whnf) | ((with_reducible refine cnd_i (fun hq => ?_) fun hq => ?_) <;> ((try simp only [hqs] at hq) <;> (first | omega | conv => whnf))) | refine cr (hP) ?_ | refine cr (hC) ?_ | ((with_reducible refine call_v ?_); (conv => whnf)) | ((first | with_reducible refine call_i (hD) ?_); conv => whnf))))
      rw [hF]
      exact ⟨rfl, rfl⟩
    · rw [hd] at hD
      cases hp : parOK (view w m) (prop w i).v
      · have hF : delB w m i = false := by unfold delB; rw [hp]; simp
        rw [hp] at hV
        (repeat (any_goals (first | refine stw ?_ | ((first | refine go2 fun xe hxe => ?_ | with_reducible refine cnd_d (fun hq => ?_) fun hq => ?_) <;> conv => whnf) | ((with_reducible refine cnd_i (fun hq => ?_) fun hq => ?_) <;> ((try simp only [hqs] at hq) <;> (first | omega | conv => whnf))) | refine cr (hP) ?_ | refine cr (hC) ?_ | refine cr (hV) ?_ | ((with_reducible refine call_r ?_); (conv => whnf); (first | with_reducible refine call_i (icl_c _ (Nat.le_trans hpp (by omega))) ?_); conv => whnf) | ((with_reducible refine call_v ?_); (conv => whnf)) | ((first | with_reducible refine call_i (hD) ?_); conv => whnf))))
        rw [hF]
        exact ⟨rfl, rfl⟩
      · rw [hp] at hV
        have hB : delB w m i = !hasV (view w m) (prop w i).v.round (prop w i).v.author := by unfold delB; rw [hg, hi, hd, hp]; simp
        cases ho : (tabV (view w m)).getD ((prop w i).v.round.toNat * 7 + (prop w i).v.author.toNat) none with
        | some u =>
          rw [ho] at hs1 hs2
          rw [← hs2] at hB
          (repeat (any_goals (first | refine stw ?_ | ((first | refine go2 fun xe hxe => ?_ | with_reducible refine cnd_d (fun hq => ?_) fun hq => ?_) <;> conv => whnf) | ((with_reducible refine cnd_i (fun hq => ?_) fun hq => ?_) <;> ((try simp only [hqs] at hq) <;> (first | omega | conv => whnf))) | refine cr (hP) ?_ | refine cr (hC) ?_ | refine cr (hV) ?_ | ((with_reducible refine call_r ?_); (conv => whnf); (first | with_reducible refine call_i (icl_c _ (Nat.le_trans hpp (by omega))) ?_); conv => whnf) | ((with_reducible refine call_v ?_); (conv => whnf)) | ((first | with_reducible refine call_i (hD) ?_); conv => whnf))))
          rw [hB]
          exact ⟨rfl, rfl⟩
        | none =>
          rw [ho] at hs1 hs2
          rw [← hs2] at hB
          (repeat (any_goals (first | refine stw ?_ | ((first | refine go2 fun xe hxe => ?_ | with_reducible refine cnd_d (fun hq => ?_) fun hq => ?_) <;> conv => whnf) | ((with_reducible refine cnd_i (fun hq => ?_) fun hq => ?_) <;> ((try simp only [hqs] at hq) <;> (first | omega | conv => whnf))) | refine cr (hP) ?_ | refine cr (hC) ?_ | refine cr (hV) ?_ | ((with_reducible refine call_r ?_); (conv => whnf); (first | with_reducible refine call_i (icl_c _ (Nat.le_trans hpp (by omega))) ?_); conv => whnf) | ((with_reducible refine call_v ?_); (conv => whnf)) | ((first | with_reducible refine call_i (hD) ?_); conv => whnf))))
          rw [hB]
          refine ⟨rfl, ?_⟩
          have e : slotV (prop w i).v = (prop w i).v.round.toNat * 7 + (prop w i).v.author.toNat := by unfold slotV; omega
          have e2 : (tabD w m (prop w i).v).length = (w.views.map tabV).length := List.length_set ..
          show _ = rX s w.com w.lead w.bad (tabD w m (prop w i).v) xss ms
          delta rX
          rw [e2]
          delta tabD
          rw [e]
theorem frgB_eq {w : Wrl} {v : Vtx} (h1 : v.author = w.bad) (h2 : ∀ p ∈ w.props, vEq p.v v = false) : frgB w v = (vtxS w.com v && decide (w.props.length < 220)) := by
  have h3 : w.props.any (fun p => vEq p.v v) = false := by
    rw [List.any_eq_false]
    intro p hp
    rw [h2 p hp]
    simp
  unfold frgB
  rw [h3, h1]
  cases h : vtxS w.com v
  · simp
  · have := (vtxS_ok h).2.1.1
    rw [decide_eq_true (p := 0 ≤ w.bad) (by omega)]
    simp
set_option maxHeartbeats 1000000 in
theorem ifrg_c (s : Int) (w : Wrl) (xss : List (Option (List Int))) (ms : List PplM) (hw : WOK w) (hR : Rel w.props xss ms) (v : Vtx) : ConV Tryz.prog 89 [.ptr 4 0, vtxA v] (rW s w xss ms) (.bool (frgB w v)) (if frgB w v then rWg s w (xss ++ [some []]) (ms ++ [⟨v, some xss.length⟩]) else rW s w xss ms) := by
  have hpl := hw.plen
  have hml := hR.len
  have hc := hw.com
  refine con_eq Θw_ok Tryz.func89 rfl rfl false 3 7 rfl rfl rfl rfl fun K hK hb1 hb2 => ?_; simp only [argsV, enc, Nat.reduceAdd]
  clear hb1 hb2
  cases c1 : v.author != w.bad
  · have ha : v.author = w.bad := by simpa using c1
    (repeat (any_goals (first | refine stw ?_ | ((first | refine go2 fun xe hxe => ?_ | with_reducible refine cnd_d (fun hq => ?_) fun hq => ?_) <;> conv => whnf) | ((with_reducible refine cnd_i (fun hq => ?_) fun hq => ?_) <;> ((try simp only [hqs] at hq) <;> (first | omega | conv => whnf))))))
    refine at_loop hK [] [0, 3, 17, 18, 19] (fun k : Nat => ⟨[(0, .ptr 4 0), (3, .ptr 7 0), (17, .ref 6), (18, .int .i64 ms.length), (19, .int .i64 (k : Int))], rW s w xss ms ++ [(7, VB.var 36 (vtxA v).cells)], 8⟩) (fun k => k ≤ w.props.length ∧ ∀ p ∈ w.props.take k, vEq p.v v = false) (fun k => w.props.length - k) 0 (by simp) (by (conv => whnf); rfl) ?_
    rintro k ⟨hk1, hall⟩
    by_cases hlt : k < w.props.length
    · have hxe : w.props[k]? = some w.props[k] := List.getElem?_eq_getElem hlt
      have hsn : w.props.take (k + 1) = w.props.take k ++ [w.props[k]] := List.take_succ_eq_append_getElem hlt
      obtain ⟨jk, hq1, hq2⟩ := hR.get k _ hxe
      have hmem := List.getElem_mem hlt
      generalize w.props[k] = q at *
      have hE := ivEq_c q.v v
      cases c3 : vEq q.v v
      · rw [c3] at hE
        (repeat (any_goals (first | refine stw ?_ | ((first | refine go2 fun xe hxe => ?_ | with_reducible refine cnd_d (fun hq => ?_) fun hq => ?_) <;> conv => whnf) | ((with_reducible refine cnd_i (fun hq => ?_) fun hq => ?_) <;> ((try simp only [hqs] at hq) <;> (first | omega | conv => whnf))) | refine cr (hE) ?_)))
        exact ⟨k + 1, ⟨by omega, by rw [hsn]; exact tk_snoc hall c3⟩, by omega, rfl⟩
      · have hF : frgB w v = false := by
          unfold frgB
          rw [List.any_eq_true.2 ⟨q, hmem, c3⟩]
          simp
        rw [c3] at hE
        (repeat (any_goals (first | refine stw ?_ | ((first | refine go2 fun xe hxe => ?_ | with_reducible refine cnd_d (fun hq => ?_) fun hq => ?_) <;> conv => whnf) | ((with_reducible refine cnd_i (fun hq => ?_) fun hq => ?_) <;> ((try simp only [hqs] at hq) <;> (first | omega | conv => whnf))) | refine cr (hE) ?_)))
        rw [hF]
        exact ⟨rfl, rfl⟩
    · rw [List.take_of_length_le (by omega)] at hall
      have heq := frgB_eq ha hall
      cases hv : (vtxS w.com v && decide (w.props.length < 220))
      · rw [hv] at heq
        have hN := iadn_c s w.com w.lead w.bad (w.views.map tabV) xss ms v hc (by rw [hml]; exact hv) (by omega)
        (repeat (any_goals (first | refine stw ?_ | ((first | refine go2 fun xe hxe => ?_ | with_reducible refine cnd_d (fun hq => ?_) fun hq => ?_) <;> conv => whnf) | ((with_reducible refine cnd_i (fun hq => ?_) fun hq => ?_) <;> ((try simp only [hqs] at hq) <;> (first | omega | conv => whnf))) | refine cr (hN) ?_)))
        rw [heq]
        exact ⟨rfl, rfl⟩
      · rw [hv] at heq
        simp only [Bool.and_eq_true, decide_eq_true_eq] at hv
        have hY := iady_c s w.com w.lead w.bad (w.views.map tabV) xss ms v hc hv.1 (by omega)
        (repeat (any_goals (first | refine stw ?_ | ((first | refine go2 fun xe hxe => ?_ | with_reducible refine cnd_d (fun hq => ?_) fun hq => ?_) <;> conv => whnf) | ((with_reducible refine cnd_i (fun hq => ?_) fun hq => ?_) <;> ((try simp only [hqs] at hq) <;> (first | omega | conv => whnf))) | refine cr (hY) ?_)))
        refine need_i (fl_app _ _ _ _) ?_
        (conv => whnf)
        (repeat (any_goals (first | refine stw ?_ | ((first | refine go2 fun xe hxe => ?_ | with_reducible refine cnd_d (fun hq => ?_) fun hq => ?_) <;> conv => whnf) | ((with_reducible refine cnd_i (fun hq => ?_) fun hq => ?_) <;> ((try simp only [hqs] at hq) <;> (first | omega | conv => whnf))) | refine cr (hY) ?_)))
        rw [heq]
        exact ⟨rfl, rfl⟩
  · have hF : frgB w v = false := by
      have : (v.author == w.bad) = false := by simpa using c1
      unfold frgB
      rw [this]
      simp
    (repeat (any_goals (first | refine stw ?_ | ((first | refine go2 fun xe hxe => ?_ | with_reducible refine cnd_d (fun hq => ?_) fun hq => ?_) <;> conv => whnf) | ((with_reducible refine cnd_i (fun hq => ?_) fun hq => ?_) <;> ((try simp only [hqs] at hq) <;> (first | omega | conv => whnf))))))
    rw [hF]
    exact ⟨rfl, rfl⟩
theorem ibado_c (s : Int) (w : Wrl) (xss : List (Option (List Int))) (ms : List PplM) (hw : WOK w) (hR : Rel w.props xss ms) (i : Int) (hi : inP w i = false) : ConV Tryz.prog 90 [.ptr 4 0, .int .i64 i] (rW s w xss ms) (.bool false) (rW s w xss ms) := by
  have hpl := hw.plen
  have hml := hR.len
  refine con_eq Θw_ok Tryz.func90 rfl rfl false 3 7 rfl rfl rfl rfl fun K hK hb1 hb2 => ?_; simp only [argsV, enc, Nat.reduceAdd]
  clear hb1 hb2
  have hP := iprn_c s w.com w.lead w.bad (w.views.map tabV) xss ms i (by rw [hml]; exact out_in hi) (by omega)
  (repeat (any_goals (first | refine stw ?_ | ((first | refine go2 fun xe hxe => ?_ | with_reducible refine cnd_d (fun hq => ?_) fun hq => ?_) <;> conv => whnf) | ((with_reducible refine cnd_i (fun hq => ?_) fun hq => ?_) <;> ((try simp only [hqs] at hq) <;> (first | omega | conv => whnf))) | refine cr (hP) ?_)))
  exact ⟨rfl, rfl⟩
theorem ibad_c (s : Int) (w : Wrl) (xss : List (Option (List Int))) (ms : List PplM) (hw : WOK w) (hR : Rel w.props xss ms) (i j : Nat) (hi : inP w i = true) (hj1 : ms[i]? = some ⟨(prop w i).v, some j⟩) (hj2 : xss[j]? = some (some (prop w i).members)) : ConV Tryz.prog 90 [.ptr 4 0, .int .i64 (i : Int)] (rW s w xss ms)
    (.bool (badB w i && !(prop w i).members.contains w.bad)) (if badB w i && !(prop w i).members.contains w.bad then rW s w (xss.set j none ++ [some (insM (prop w i).members w.bad)]) (ms.set i ⟨(prop w i).v, some xss.length⟩) else rW s w xss ms) := by
  have hpl := hw.plen
  have hml := hR.len
  have hil := (List.getElem?_eq_some_iff.1 hj1).1
  obtain ⟨n, hn, hn1, hn2⟩ := nat_in hi
  obtain rfl : i = n := by omega
  obtain ⟨o1, o2⟩ := one_of hw (List.mem_of_getElem? hn2)
  have hl := mems_len o2
  have ha := mems_asc o2
  have h7 := (comV_iff.1 hw.com).2
  refine con_eq Θw_ok Tryz.func90 rfl rfl false 3 7 rfl rfl rfl rfl fun K hK hb1 hb2 => ?_; simp only [argsV, enc, Nat.reduceAdd]
  clear hb1 hb2
  have hP := ipry_c s w.com w.lead w.bad (w.views.map tabV) xss ms i (by omega) (by omega)
  by_cases hb : 0 ≤ w.bad
  · have hB : badB w i = true := by unfold badB; rw [hi, decide_eq_true hb]; rfl
    rw [hB]
    cases hm2 : (prop w i).members.contains w.bad
    · have hY := icay_c xss ms i j _ _ w.bad hj1 hj2 ha (by omega) hm2
      rw [putAt_ins ha (by simpa using hm2)] at hY
      (repeat (any_goals (first | refine stw ?_ | ((first | refine go2 fun xe hxe => ?_ | with_reducible refine cnd_d (fun hq => ?_) fun hq => ?_) <;> conv => whnf) | ((with_reducible refine cnd_i (fun hq => ?_) fun hq => ?_) <;> ((try simp only [hqs] at hq) <;> (first | omega | conv => whnf))) | refine cr (hP) ?_ | refine cr (hY) ?_)))
      refine need_i fl_set ?_
      (conv => whnf)
      (repeat (any_goals (first | refine stw ?_ | ((first | refine go2 fun xe hxe => ?_ | with_reducible refine cnd_d (fun hq => ?_) fun hq => ?_) <;> conv => whnf) | ((with_reducible refine cnd_i (fun hq => ?_) fun hq => ?_) <;> ((try simp only [hqs] at hq) <;> (first | omega | conv => whnf))) | refine cr (hP) ?_ | refine cr (hY) ?_)))
      exact ⟨rfl, rfl⟩
    · have hY := ican_c xss ms i j _ _ w.bad hj1 hj2 ha (by omega) hm2
      (repeat (any_goals (first | refine stw ?_ | ((first | refine go2 fun xe hxe => ?_ | with_reducible refine cnd_d (fun hq => ?_) fun hq => ?_) <;> conv => whnf) | ((with_reducible refine cnd_i (fun hq => ?_) fun hq => ?_) <;> ((try simp only [hqs] at hq) <;> (first | omega | conv => whnf))) | refine cr (hP) ?_ | refine cr (hY) ?_)))
      exact ⟨rfl, rfl⟩
  · have hB : badB w i = false := by unfold badB; rw [decide_eq_false hb]; rfl
    rw [hB]
    (repeat (any_goals (first | refine stw ?_ | ((first | refine go2 fun xe hxe => ?_ | with_reducible refine cnd_d (fun hq => ?_) fun hq => ?_) <;> conv => whnf) | ((with_reducible refine cnd_i (fun hq => ?_) fun hq => ?_) <;> ((try simp only [hqs] at hq) <;> (first | omega | conv => whnf))) | refine cr (hP) ?_)))
    exact ⟨rfl, rfl⟩
end Go.Proofs.YticiffgklmjfnaaGreat.Am
namespace Go.Proofs.YticiffgklmjfnaaGreat.Am
set_option linter.unusedSimpArgs false
set_option linter.unusedVariables false
open Go
def muL : Go.Conc.Locks.MuLink := { lock := 84, unlock := 85, ilock := 125, iunlock := 126, lockSlow := 146, unlockSlow := 149, disable := 142, enable := 144, acquire := 145, relMerge := 147, cas32 := 143, add32 := 148, tMutex := 88, tIMutex := 86, tPMutex := 133, tPIMutex := 142, tPI32 := 144, tUP := 146, tNoCopy := 83, tU32 := 84 }
theorem muLib : Go.Conc.Locks.MuLib Tryz.prog muL :=
  ⟨Tryz.func84, Tryz.func85, Tryz.func125, Tryz.func126, Tryz.func142, Tryz.func144, Tryz.func145, Tryz.func147, Tryz.func143, Tryz.func148, Tryz.underlying86, Tryz.runUnderlying86, Tryz.sizeOf86, Tryz.isAgg86, Tryz.zeroValue86, Tryz.underlying88, Tryz.runUnderlying88, Tryz.sizeOf88, Tryz.isAgg88, Tryz.zeroValue88, Tryz.underlying133, Tryz.runUnderlying133, Tryz.sizeOf133, Tryz.isAgg133, Tryz.zeroValue133, Tryz.underlying142, Tryz.runUnderlying142, Tryz.sizeOf142, Tryz.isAgg142, Tryz.zeroValue142, Tryz.underlying144, Tryz.runUnderlying144, Tryz.sizeOf144, Tryz.isAgg144, Tryz.zeroValue144, Tryz.underlying146, Tryz.runUnderlying146, Tryz.sizeOf146, Tryz.isAgg146, Tryz.zeroValue146, Tryz.underlying83, Tryz.runUnderlying83, Tryz.sizeOf83, Tryz.isAgg83, Tryz.zeroValue83, Tryz.underlying21, Tryz.runUnderlying21, Tryz.sizeOf21, Tryz.isAgg21, Tryz.zeroValue21, (by kernel_rfl)⟩
end Go.Proofs.YticiffgklmjfnaaGreat.Am
namespace Go.Proofs.YticiffgklmjfnaaGreat.Am
set_option linter.unusedSimpArgs false
set_option linter.unusedVariables false
open Go Go.RowKit
variable {P : Program} {w0 : World} {S : SD} {A : Nat → Prop} {N : Nat} {ρ : Id → Pl} {t : List (Nat × D)} {h : HL} {a : Act} {w : World}
theorem setCell_setRow {g : Nat} {c : Array Value} {T : TypeId} {v : Value} (hg : w.heap[g]? = some (.cells c T (0, 0))) : w.setCell ⟨g, 0, none⟩ v = w.setRow g (c.setIfInBounds 0 v) := by
  have : w.heap.modify g (fun o => match o with
      | .cells cs E fr => .cells (cs.setIfInBounds 0 v) E fr
      | o => o) = w.heap.modify g (fun o => match o with
      | .cells _ E fr => .cells (c.setIfInBounds 0 v) E fr
      | o => o) := by
    apply Array.ext_getElem?
    intro i
    rw [Array.getElem?_modify, Array.getElem?_modify]
    by_cases e : g = i
    · subst e
      simp [hg]
    · simp [e]
  simp only [World.setCell, World.setRow]
  first | exact congrArg (fun x => { w with heap := x }) this | simpa using this
theorem Sim.cell0 (s : Sim P w0 S A N ρ t h a w) {b : Id} {T : TypeId} {x : D} {cs : List D} (hb : look h b = some (.var T (x :: cs))) (k : IntKind) (n : Int) : Sim P w0 S A N ρ t (put b (.var T (.int k n :: cs)) h) a (w.setCell ⟨(ρ b).blk, 0, none⟩ (.int k n)) := by
  obtain ⟨c, g1, g2, g3⟩ := s.blk b _ hb
  rw [setCell_setRow g1]
  refine s.write hb rfl _ fun hC hR => ⟨_, setRow_heap w _ c _ T _ g1, by simpa using g2, fun j hj => ?_⟩
  have hpos : 0 < c.size := by rw [g2]; simp
  cases j with
  | zero =>
    have : (c.setIfInBounds 0 (.int k n)).getD 0 undef = .int k n := by simp [Array.getD_eq_getD_getElem?, hpos]
    rw [this]
    exact C.int k n
  | succ j =>
    have : (c.setIfInBounds 0 (.int k n)).getD (j + 1) undef = c.getD (j + 1) undef := by simp [Array.getD_eq_getD_getElem?, Array.getElem?_setIfInBounds_ne]
    rw [this]
    exact hC _ _ (g3 (j + 1) (by simpa using hj))
theorem Sim.at0 (s : Sim P w0 S A N ρ t h a w) {b : Id} {T : TypeId} {k : IntKind} {n : Int} {cs : List D} (hb : look h b = some (.var T (.int k n :: cs))) : w.cell? ⟨(ρ b).blk, 0, none⟩ = some (.int k n) ∧ w.frozen? ⟨(ρ b).blk, 0, none⟩ = false := by
  obtain ⟨c, g1, g2, g3⟩ := s.blk b _ hb
  have hpos : 0 < c.size := by rw [g2]; simp
  have h1 := (g3 0 (by simp)).int_inv
  rw [Array.getD_eq_getD_getElem?, Array.getElem?_eq_getElem hpos, Option.getD_some] at h1
  refine ⟨?_, ?_⟩
  · simp [World.cell?, g1, Array.getElem?_eq_getElem hpos, h1]
  · simp [World.frozen?, g1]
theorem args1 {vs : Array Value} (h : 1 = vs.size) : ∃ v, vs = #[v] := by
  refine ⟨vs[0], Array.ext (by simp; omega) fun i h1 h2 => ?_⟩
  match i, h2 with
  | 0, _ => rfl
theorem con_lock {L : Go.Conc.Locks.MuLink} (H : Go.Conc.Locks.MuLib P L) {h : HL} {b : Id} {T : TypeId} {cs : List D} (hb : look h b = some (.var T (.int .i32 0 :: cs))) :
    ∀ hout : HL, (∀ b', look hout b' = look (put b (.var T (.int .i32 1 :: cs)) h) b') → Con P L.lock [.ptr b 0] h (.tup []) hout := by
  intro hout hh
  refine ⟨⟨_, H.f_lock, rfl, rfl⟩, fun w A ρ vs s hl hcv => ?_⟩
  obtain ⟨v, rfl⟩ := args1 hl
  obtain ⟨-, e0⟩ := (hcv 0 (by simp)).ptr_inv
  have e0 : v = .pointer (some ⟨(ρ b).blk, 0, none⟩) := e0
  subst e0
  obtain ⟨q1, q2⟩ := s.at0 hb
  refine (Go.MuLone.lock_free H _ w q1 q2).mono ?_
  rintro e w' ⟨rfl, rfl⟩
  exact ⟨_, ρ, rfl, fun b' hb' => ⟨rfl, by
    have : Live (put b (.var T (.int .i32 1 :: cs)) h) b' := hb'.put
    unfold Live at this ⊢
    rw [hh]
    exact this⟩, (s.cell0 hb _ _).congr (fun _ => rfl) hh, .tup [] #[] rfl (fun i hi => by simp at hi)⟩
theorem conV_lock {L : Go.Conc.Locks.MuLink} (H : Go.Conc.Locks.MuLib P L) {h : VH} {T : TypeId} {cs : List V} (hb : look h 4 = some (.var T (.int .i32 0 :: cs))) : ConV P L.lock [.ptr 4 0] h (.tup []) (put 4 (.var T (.int .i32 1 :: cs)) h) := by
  refine con_lock (cs := toDL cs) H (look_at (i := 0) hb rfl) _ fun b' => ?_
  obtain ⟨b1, b2⟩ := b'
  rw [look_toH, look_put, look_put, look_toH]
  by_cases e : b1 = 4
  · subst e
    rw [if_pos rfl, hb]
    cases b2 with
    | zero => rw [if_pos rfl]; rfl
    | succ j => rw [if_neg (by simp)]; rfl
  · rw [if_neg e, if_neg (fun h => e (Prod.mk.inj h).1)]
def dU (fu : FuncId) (g : Nat) : Deferred := { target := .fn (.func fu) #[], args := #[] ++ #[.pointer (some ⟨g, 0, none⟩)] }
theorem Sim.defs {dfs : List Deferred} (s : Sim P w0 S A N ρ t h a w) : Sim P w0 ⟨S.S, dfs⟩ A N ρ t h { a with defers := dfs } w :=
  ⟨s.base, s.inS, s.fr, rfl, s.size, s.tmp, s.blk, s.own, s.inj⟩
theorem SimS.defs {dfs : List Deferred} {ρ0 : Id → Pl} {K : Id → Prop} {σ : St} (s : SimS P w0 S A N ρ0 K σ a w) : SimS P w0 ⟨S.S, dfs⟩ A N ρ0 K σ { a with defers := dfs } w := by
  obtain ⟨h1, h2, ρ, h3, h4⟩ := s
  exact ⟨h1, h2, ρ, h3, h4.defs⟩
def BringsL (P : Program) (N : Nat) (K : Id → Prop) (fu : FuncId) (b : Id) (c : Code) (σ : St) (e : Exit) (σ' : St) : Prop :=
  ∀ w0 S A ρ0 a w, S.dfs = [] → SimS P w0 S A N ρ0 K σ a w → c.wp P (fun e' a' w' => e' = e ∧ SimS P w0 ⟨S.S, [dU fu (ρ0 b).blk]⟩ A N ρ0 K σ' a' w') a w
def AtD (P : Program) (N : Nat) (K : Id → Prop) (fu : FuncId) (b : Id) (c : Code) (Q : Exit → VSt → Prop) (σ : VSt) : Prop := ∃ e σ', BringsL P N K fu b c σ.toD e σ'.toD ∧ (RealS P N K σ'.toD → Q e σ')
variable {K : Id → Prop} {fu : FuncId} {b : Id} {Q : Exit → VSt → Prop} {σ : VSt}
theorem brL_unreal {c : Code} {σ : St} (h : ¬ RealS P N K σ) (e : Exit) (σ' : St) : BringsL P N K fu b c σ e σ' := fun w0 S A ρ0 a w _ hs => absurd ⟨w0, S, A, ρ0, a, w, hs⟩ h
theorem atD_seq {x y : Code} (h : At P N K x (fun e σ => e = .normal ∧ AtD P N K fu b y Q σ) σ) : AtD P N K fu b (.seq x y) Q σ := by
  obtain ⟨e, σ1, h1, h2⟩ := h
  rcases Classical.em (RealS P N K σ1.toD) with hr | hr
  · obtain ⟨rfl, e2, σ2, h3, h4⟩ := h2 hr
    refine ⟨e2, σ2, fun w0 S A ρ0 a w hd hs => wp_seq (wp_mono (h1 w0 S A ρ0 a w hs) ?_), h4⟩
    rintro e' a' w' ⟨rfl, hs'⟩
    exact h3 w0 S A ρ0 a' w' hd hs'
  · rcases Classical.em (RealS P N K σ.toD) with hr0 | hr0
    · refine ⟨e, σ1, fun w0 S A ρ0 a w hd hs => wp_seq (wp_mono (h1 w0 S A ρ0 a w hs) ?_), fun h => absurd h hr⟩
      rintro e' a' w' ⟨rfl, hs'⟩
      exact absurd ⟨_, _, _, _, _, _, hs'⟩ hr
    · exact ⟨.normal, σ1, brL_unreal hr0 _ _, fun h => absurd h hr⟩
theorem atD_tail {x y : Code} (h : AtD P N K fu b x (fun e σ => e = .normal ∧ At P N K y Q σ) σ) : AtD P N K fu b (.seq x y) Q σ := by
  obtain ⟨e, σ1, h1, h2⟩ := h
  rcases Classical.em (RealS P N K σ1.toD) with hr | hr
  · obtain ⟨rfl, e2, σ2, h3, h4⟩ := h2 hr
    refine ⟨e2, σ2, fun w0 S A ρ0 a w hd hs => wp_seq (wp_mono (h1 w0 S A ρ0 a w hd hs) ?_), h4⟩
    rintro e' a' w' ⟨rfl, hs'⟩
    exact h3 w0 _ A ρ0 a' w' hs'
  · refine ⟨e, σ1, fun w0 S A ρ0 a w hd hs => wp_seq (wp_mono (h1 w0 S A ρ0 a w hd hs) ?_), fun h => absurd h hr⟩
    rintro e' a' w' ⟨rfl, hs'⟩
    exact absurd ⟨_, _, _, _, _, _, hs'⟩ hr
theorem ops_part {ops : Array Oper} {ρ0 : Id → Pl} {Q : Exit → Act → World → Prop} {r : List Nat} : ∀ (L : List (Oper × Rc)) (k : Nat) (t : List (Nat × D)) (h : HL) (n : Nat) (a : Act) (w : World) (ρ : Id → Pl), TRun P ops N t h n L → (∀ b : Id, n ≤ b.1 → look h b = none) →
    (∀ b, K b → Live h b) → (∀ b, K b → ρ b = ρ0 b) → (∀ i, i < L.length → ops[k + i]? = (L[i]?).map (·.1)) → Sim P w0 S A N ρ t h a w →
    (∀ ρ a w, (∀ b, K b → ρ b = ρ0 b) → Sim P w0 S A N ρ (stT (fun _ => true) k L t) (stH (fun _ => true) k L h) a w → wpOps P ops Q r a w) → wpOps P ops Q (List.range' k L.length ++ r) a w
  | [], k, t, h, n, a, w, ρ, _, _, _, hρ, _, s, hq => hq ρ a w hρ s
  | (o, rc) :: L, k, t, h, n, a, w, ρ, hT, hn, hK, hρ, hops, s, hq => by
    obtain ⟨⟨rfl, h1, h2, h3⟩, h4, h5⟩ := hT
    simp only [List.length_cons, List.range'_succ, List.cons_append]
    rw [wpOps_cons]
    unfold wpOp
    have ho : ops[k]? = some o := by simpa using hops 0 (by simp)
    rw [ho]
    simp only
    have hn' : ∀ b : Id, rc.n' ≤ b.1 → look (puts rc.u h) b = none := by
      intro b hb
      rw [look_puts_other _ _ _ fun x hx e => by have := h2 x hx; rw [e] at this; omega]
      exact hn b (by omega)
    have nxt : ∀ (ρ' : Id → Pl) (v : Value) (w' : World), Ext h ρ ρ' → Sim P w0 S A N ρ' (putD o.dst rc.d t) (puts rc.u h) (a.put o.dst v) w' → wpOps P ops Q (List.range' (k + 1) L.length ++ r) (a.put o.dst v) w' := by
      intro ρ' v w' hex s'
      exact ops_part L (k + 1) _ _ rc.n' _ w' ρ' h5 hn' (fun b hb => puts_live _ _ _ (hK b hb)) (fun b hb => (hex b (hK b hb)).trans (hρ b hb)) (fun i hi => by rw [show k + 1 + i = k + (i + 1) by omega]; exact hops (i + 1) (by simpa using hi)) s' hq
    rcases h4 with ⟨g1, g2⟩ | ⟨g1, g2, g3, g4⟩
    · rw [s.guard g1]
      simp only [if_true]
      left
      have hw := g2 t h (fun x hx => rfl) (fun b hb => rfl) _ _ _ ρ a w s
      refine Reg.wp_exit_mono (K := Done P w0 S A N ρ t h (puts rc.u h) a o.dst rc.d) ?_ hw
      rintro a' w' ⟨v, ρ', rfl, hex, q1, q2⟩
      exact nxt ρ' v w' hex (q1.putO h3 q2)
    · rw [s.guard g1]
      simp only [Bool.false_eq_true, if_false]
      refine nxt ρ undef w (Ext.refl _ _) ?_
      rw [g2, g3]
      exact s.putO h3 (.tup [] #[] rfl fun i hi => absurd hi (Nat.not_lt_zero i))
theorem atD_reg {Θ : TT} (hΘ : Θ.ok P) {id : Nat} {ops : Array Oper} {l : List Oper} {od : Oper} {x : Tmp} {Ts : Array TypeId} (hops : ops.toList = l ++ [od]) (hod : od.op = .defer { callee := .value (.func fu), args := #[.tmp x], argTypes := Ts } ∧ od.guard = none ∧ od.dst = none)
    (hx : x < N) (h : vops P Θ ops (fun _ => []) false N l 0 [] σ (fun σ => look (toT σ.t) x = some (.ptr b 0) ∧ K b ∧ Q .normal σ)) : AtD P N K fu b (.region id ops false) Q σ := by
  rcases Classical.em (¬ RealS P N K σ.toD) with hr | hr
  · exact ⟨.normal, σ, brL_unreal hr _ _, fun h => absurd h hr⟩
  have hr := Classical.not_not.1 hr
  have hfr : Fresh σ := by obtain ⟨w0, S, A, ρ0, a, w, hs⟩ := hr; exact hs.1
  obtain ⟨σ', ⟨q1, q2, q3⟩, h2⟩ := vops_ok hΘ hfr h
  obtain ⟨L, l1, l2, l3, l4, l5, _⟩ := h2 [] fun h => by cases h
  refine ⟨.normal, σ', ?_, fun _ => q3⟩
  rintro w0 S A ρ0 a w hd ⟨hn, hK, ρ, hρ, s⟩
  refine wp_region ?_
  have hll : L.length = l.length := by rw [← l1, List.length_map]
  have hsz : ops.size = L.length + 1 := by have := congrArg List.length hops; simp only [Array.length_toList, List.length_append, List.length_singleton] at this; omega
  have hget : ∀ i : Nat, ops[i]? = (l ++ [od])[i]? := fun i => by rw [← hops]; simp
  rw [hsz, List.range_eq_range', List.range'_concat]
  simp only [Nat.one_mul, Nat.zero_add]
  refine ops_part L 0 _ _ _ a w ρ l2 hn hK hρ (fun i hi => ?_) s fun ρ' a' w' hρ' s' => ?_
  · rw [Nat.zero_add, hget, List.getElem?_append_left (by omega), ← l1, List.getElem?_map]
  · obtain ⟨od1, od2, od3⟩ := hod
    have s2 := s'.congr (t' := toT σ'.t) (h' := toH σ'.h) (fun x => (l3 x)) (fun b => (l4 b))
    have hv := (s2.tmp x _ q1).2
    obtain ⟨-, hv⟩ := hv.ptr_inv
    rw [hρ' b q2] at hv
    have ho : ops[L.length]? = some od := by rw [hget, hll, List.getElem?_append_right (Nat.le_refl _)]; simp
    simp only [wpOps, ho]
    have hwant : Region.wanted od (yielded ops a'.tmps) = true := by simp [Region.wanted, od2]
    rw [if_pos hwant]
    left
    have hex : (execOp a'.eval od).run P w' = .ok (.defer (dU fu (ρ0 b).blk)) w' := by
      have he : a'.eval (.tmp x) = .pointer (some ⟨(ρ0 b).blk, 0, none⟩) := by
        rw [← hv]; rfl
      obtain ⟨dst, op, ty, pos, after, guard⟩ := od
      subst od1
      simp only [execOp, resolve, List.map_toArray, List.map_cons, List.map_nil, he]
      rfl
    unfold Oper.wp
    rw [hex, Oper.upon_defer, od3]
    have hdf : a'.defers = [] := s2.defers.trans hd
    refine ⟨trivial, l5, fun b hb => ?_, ρ', hρ', ?_⟩
    · have := stH_live (fun _ => true) L 0 (toH σ.h) b (hK b hb)
      show Live (toH σ'.h) b
      unfold Live at this ⊢
      rw [l4]
      exact this
    · have := s2.defs (dfs := [dU fu (ρ0 b).blk])
      rw [hdf]
      exact this
theorem fin_sim {w : World} {hin : HL} {ρ : Id → Pl} {fn : Func} {N : Nat} {σ : St} {a' : Act} {w' : World} {r : D} {hout : HL} {ρ1 : Id → Pl} (hK : ∀ b, Live hin b → Live σ.h b) (hρ1 : ∀ b, Live hin b → ρ1 b = ρ b) (s1 : Sim P w (inB ρ hin) A N ρ1 σ.t σ.h a' w')
    (hr : ResOut P fn.results.toList (Live hin) σ r hout) : ∃ u, (results fn a'.tmps).run P w' = .ok u w' ∧ ∃ v ρ'', Ending.returned u = .returned v ∧ (∀ b, Live hin b → ρ'' b = ρ b ∧ Live hout b) ∧ Sim P w (inB ρ hin) A 0 ρ'' [] hout emptyA w' ∧ C ρ'' (Live hout) (okOf A ρ'' hout w') w' r v := by
  obtain ⟨ds', bs, g, hrds, hrn, hren, hkeep⟩ := hr
  obtain ⟨vs', r1, r2, r3⟩ := s1.results (f := resF a'.tmps) (fun r => by cases r <;> rfl) hrds
  have hone := one_ok r2 r3
  have hrun : (results fn a'.tmps).run P w' = .ok (if h : vs'.toArray.size = 1 then vs'.toArray[0] else .tuple vs'.toArray) w' := by
    rw [results_eq, Array.mapM_eq_mapM_toList, Sem.run_bind, map_eq_pure_bind, Sem.run_bind, r1]
    rfl
  generalize (if h : vs'.toArray.size = 1 then vs'.toArray[0] else Value.tuple vs'.toArray) = u at *
  obtain ⟨q1, q2, q3⟩ := s1.frz_ok bs
  have hcu : C ρ1 (Live (puts (frz σ.h bs) σ.h)) (okOf A ρ1 (puts (frz σ.h bs) σ.h) w') w' (one ds') u := hone.mono (fun b hb => ⟨live_frz hb, rfl⟩) (fun k hk => ⟨⟨hk.1, fun b y hy hmu => by
    rcases q2 b with q | ⟨y', z1, z2⟩
    · rw [q] at hy; exact hk.2 b y hy hmu
    · rw [z2] at hy
      obtain rfl := Option.some.inj hy
      rw [(frzB_old z1).2.1] at hmu; cases hmu⟩, rfl⟩)
  obtain ⟨s3, hok3⟩ := q1.ren (N' := 0) (a' := emptyA) (t' := []) hren rfl rfl (fun k d' hk => by cases hk)
  exact ⟨u, hrun, u, fun b => ρ1 (g b), rfl, fun b hb => ⟨by show ρ1 (g b) = _; rw [(hkeep b hb (hK b hb)).1]; exact hρ1 b hb, (hkeep b hb (hK b hb)).2⟩, s3, q1.rn hok3 hrn hcu⟩
theorem con_ofL {L : Go.Conc.Locks.MuLink} (H : Go.Conc.Locks.MuLib P L) {f : FuncId} {fn : Func} {c : Code} (hf : P.funcs[f]? = some fn) (hb : fn.body = some c) (hname : (fn.name == "runtime.NumGoroutine") = false) {N : Nat} {rs : List ResultVar} (hN : fn.ntmps = N) (hrs : fn.results.toList = rs) {ds : List D} {hin : HL} {n0 : Nat} {r : D} {hout : HL}
    (hl : ds.length ≤ N) (hn0 : ∀ b : Id, n0 ≤ b.1 → look hin b = none) (hLb : Live hin b)
    (hF : (∀ d ∈ ds, bnd 6 d) → (∀ b x, look hin b = some x → bndB 6 x) → ∃ e σ, BringsL P N (Live hin) L.unlock b c ⟨argsT ds, hin, n0⟩ e σ ∧ (RealS P N (Live hin) σ → (e = .normal ∨ e = .ret) ∧ ∃ T cs h2, look σ.h b = some (.var T (.int .i32 1 :: cs)) ∧ (∀ b', look h2 b' = look (put b (.var T (.int .i32 0 :: cs)) σ.h) b') ∧ ResOut P rs (Live hin) ⟨σ.t, h2, σ.n⟩ r hout)) : Con P f ds hin r hout := by
  subst hN hrs
  refine ⟨⟨fn, hf, by rw [hb]; rfl, hname⟩, fun w A ρ vs s hlen hv => ?_⟩
  obtain ⟨e, σ, hA, hfin⟩ := hF (fun d hd => by
    obtain ⟨i, hi, rfl⟩ := mem_getD' hd
    exact (hv i hi).bnd 6) (fun b x hx => s.bndB 6 hx)
  refine calls_of_wp_defers hf hb ?_
  have hs0 : SimS P w (inB ρ hin) A fn.ntmps ρ (Live hin) ⟨argsT ds, hin, n0⟩ { tmps := vs ++ Array.replicate (fn.ntmps - vs.size) undef, defers := [] } w := by
    refine ⟨hn0, fun b hb => hb, ρ, fun b hb => rfl, s.base, s.inS, s.fr, rfl, by simp; omega, fun k d hk => ?_, s.blk, s.own, s.inj⟩
    have hk2 : look ((ds.zipIdx 0).map fun x => (x.2, x.1)) k = some d := hk
    rw [look_args] at hk2
    simp only [Nat.zero_le, if_true, Nat.sub_zero] at hk2
    have hk' : k < ds.length := (List.getElem?_eq_some_iff.1 hk2).1
    refine ⟨by omega, ?_⟩
    have := hv k hk'
    rw [List.getD_eq_getElem?_getD, hk2] at this
    have hkv : k < vs.size := by omega
    simpa [Array.getD_eq_getD_getElem?, Array.getElem?_append, hkv] using this
  refine wp_mono (hA _ _ _ ρ _ w rfl hs0) ?_
  clear hA
  rintro e' a' w' ⟨rfl, hs1⟩
  obtain ⟨he, T, cs, h2, hlk, hh2, hres⟩ := hfin ⟨_, _, _, _, _, _, hs1⟩
  clear hfin
  obtain ⟨hn, hK, ρ1, hρ1, s1⟩ := hs1
  have hdf : a'.defers = [dU L.unlock (ρ b).blk] := s1.defers
  have hlv : Leaves P fn a'.tmps (fun e w' => ∃ u ρ', e = .returned u ∧ (∀ b, Live hin b → ρ' b = ρ b ∧ Live hout b) ∧ Sim P w (inB ρ hin) A 0 ρ' [] hout emptyA w' ∧ C ρ' (Live hout) (okOf A ρ' hout w') w' r u) a'.defers .returning w' := by
    obtain ⟨c1, c2⟩ := s1.at0 hlk
    rw [hρ1 b hLb] at c1 c2
    rw [hdf]
    refine leaves_cons (f := L.unlock) (args := #[.pointer (some ⟨(ρ b).blk, 0, none⟩)]) (by simp) ?_ ?_
    · simp [invoke, callFunc, H.f_unlock, go_sem]
      rfl
    · refine (Go.MuLone.unlock_deferred H _ .returning w' c1 c2).mono ?_
      rintro e u' w'' ⟨rfl, rfl, rfl⟩
      have s2 := (s1.cell0 hlk .i32 0).defs (dfs := [])
      rw [hρ1 b hLb] at s2
      exact fin_sim (a' := { a' with defers := [] }) (σ := ⟨σ.t, h2, σ.n⟩) (fun b2 hb2 => by
        have : Live (put b (.var T (.int .i32 0 :: cs)) σ.h) b2 := (hK b2 hb2).put
        unfold Live at this ⊢
        rw [hh2]
        exact this) hρ1 (s2.congr (fun _ => rfl) hh2) hres
  rcases he with rfl | rfl <;> exact hlv
def unlK (σ : VSt) (Q : VSt → Prop) : Prop := match lookO σ.h 4 with
  | some (.var T (.int .i32 1 :: cs)) => Q ⟨σ.t, put 4 (.var T (.int .i32 0 :: cs)) σ.h, σ.n⟩
  | _ => False
theorem con_exL {L : Go.Conc.Locks.MuLink} (H : Go.Conc.Locks.MuLib P L) {Θ : TT} (hΘ : Θ.ok P) {f : FuncId} {fn : Func} {c : Code} (hf : P.funcs[f]? = some fn) (hb : fn.body = some c) (hname : (fn.name == "runtime.NumGoroutine") = false) (pr : Bool) {vs : List V} {hin : VH} (m n0 : Nat) (hn0 : 4 + m = n0) (hlt : ltV n0 hin = true) (hnd : nodupN (keysV hin) = true) (hl : Nat.ble vs.length fn.ntmps = true)
    (hlb : Live (toH hin) (4, 0)) {R : V → VH → Prop} {r0 : V} {hout0 : VH} (h0 : R r0 hout0)
    (h : ∀ K, KB m K → K (4, 0) → (∀ d ∈ toDL vs, bnd 6 d) → (∀ x ∈ hin, ∀ d ∈ x.2.blks, bndB 6 d) → AtD P fn.ntmps K L.unlock (4, 0) c (finQ fun σ => unlK σ fun σ => finK Θ fn.results.toList m pr σ fun r hout => dropK (famsIn hin) r hout (R r)) ⟨argsV vs 0, hin, n0⟩) : ∃ r hout, R r hout ∧ ConV P f vs hin r hout := by
  have hlen : (toDL vs).length ≤ fn.ntmps := by rw [toDL_len]; exact Nat.le_of_ble_eq_true hl
  have e1 : argsT (toDL vs) = toT (argsV vs 0) := argsV_ok vs 0
  have hfr := fresh_hin hlt
  have hK : KB m (Live (toH hin)) := by
    intro b hb
    rcases Nat.lt_or_ge b.1 (4 + m) with hlt | hge
    · exact hlt
    · unfold Live at hb
      rw [hfr b (by omega)] at hb
      cases hb
  have hbnd : (∀ b x, look (toH hin) b = some x → bndB 6 x) → ∀ x ∈ hin, ∀ d ∈ x.2.blks, bndB 6 d := by
    rintro hq ⟨k, x⟩ hx d hd
    obtain ⟨i, hi⟩ := List.getElem?_of_mem hd
    exact hq (k, i) d (look_at (mem_look (by rw [keysV_ok]; exact nodupN_ok hnd) hx) hi)
  rcases Classical.em ((∀ d ∈ toDL vs, bnd 6 d) ∧ ∀ b x, look (toH hin) b = some x → bndB 6 x) with hbb | hbb
  · obtain ⟨e, σ', h1, h2⟩ := h _ hK hlb hbb.1 (hbnd hbb.2)
    rcases Classical.em (RealS P fn.ntmps (Live (toH hin)) σ'.toD) with hr | hr
    · have h3 := h2 hr
      have hfin : (e = .normal ∨ e = .ret) ∧ unlK σ' fun σ => finK Θ fn.results.toList m pr σ fun r hout => dropK (famsIn hin) r hout (R r) := by
        cases e with
        | normal => exact ⟨.inl rfl, h3⟩
        | ret => exact ⟨.inr rfl, h3⟩
        | _ => exact h3.elim
      obtain ⟨he, hfin⟩ := hfin
      unfold unlK at hfin
      split at hfin
      · rename_i T cs hlk
        rw [lookO_ok] at hlk
        obtain ⟨r, hout1, q1, q2⟩ := finK_ok hΘ hK hfin
        obtain ⟨hout, q1, q2⟩ := dropK_ok (fun b hb hlt => by
          unfold Live at hb
          rw [look_toH] at hb
          obtain ⟨d, hd⟩ := Option.isSome_iff_exists.1 hb
          obtain ⟨y, hy, -⟩ := Option.bind_eq_some_iff.1 hd
          simp only [famsIn, List.mem_filter]
          exact ⟨by rw [← keysV_ok]; exact List.mem_map.2 ⟨_, look_mem hy, rfl⟩, by simpa [Nat.blt_eq] using hlt⟩) q1 q2
        refine ⟨r, hout, q2, con_ofL H hf hb hname rfl rfl hlen hfr hlb fun _ _ => ⟨e, σ'.toD, ?_, fun _ => ⟨he, T, toDL cs, toH (put 4 (.var T (.int .i32 0 :: cs)) σ'.h), look_at (i := 0) hlk rfl, fun b' => ?_, q1⟩⟩⟩
        · rw [e1]
          exact h1
        · show look (toH (put 4 (.var T (.int .i32 0 :: cs)) σ'.h)) b' = look (put (4, 0) (.var T (toDL (.int .i32 0 :: cs))) (toH σ'.h)) b'
          obtain ⟨b1, b2⟩ := b'
          rw [look_toH, look_put, look_put, look_toH]
          by_cases e : b1 = 4
          · subst e
            rw [if_pos rfl, hlk]
            cases b2 with
            | zero => rw [if_pos rfl]; rfl
            | succ j => rw [if_neg (by simp)]; rfl
          · rw [if_neg e, if_neg (fun h => e (Prod.mk.inj h).1)]
      · exact hfin.elim
    · refine ⟨r0, hout0, h0, con_ofL H hf hb hname rfl rfl hlen hfr hlb fun _ _ => ⟨e, σ'.toD, ?_, fun h => absurd h hr⟩⟩
      rw [e1]
      exact h1
  · exact ⟨r0, hout0, h0, con_ofL H hf hb hname rfl rfl hlen hfr hlb fun b1 b2 => absurd ⟨b1, b2⟩ hbb⟩
theorem con_eqL {L : Go.Conc.Locks.MuLink} (H : Go.Conc.Locks.MuLib P L) {Θ : TT} (hΘ : Θ.ok P) {f : FuncId} {fn : Func} {c : Code} (hf : P.funcs[f]? = some fn) (hb : fn.body = some c) (hname : (fn.name == "runtime.NumGoroutine") = false) (pr : Bool) {vs : List V} {hin : VH} (m n0 : Nat) (hn0 : 4 + m = n0) (hlt : ltV n0 hin = true) (hnd : nodupN (keysV hin) = true) (hl : Nat.ble vs.length fn.ntmps = true) (hlb : Live (toH hin) (4, 0)) {r : V} {hout : VH}
    (h : ∀ K, KB m K → K (4, 0) → (∀ d ∈ toDL vs, bnd 6 d) → (∀ x ∈ hin, ∀ d ∈ x.2.blks, bndB 6 d) → AtD P fn.ntmps K L.unlock (4, 0) c (finQ fun σ => unlK σ fun σ => finK Θ fn.results.toList m pr σ fun r' hout' => dropK (famsIn hin) r' hout' fun hout' => r' = r ∧ hout' = hout) ⟨argsV vs 0, hin, n0⟩) : ConV P f vs hin r hout := by
  obtain ⟨r', hout', ⟨rfl, rfl⟩, h2⟩ := con_exL H hΘ hf hb hname pr m n0 hn0 hlt hnd hl hlb (R := fun r' hout' => r' = r ∧ hout' = hout) ⟨rfl, rfl⟩ h
  exact h2
end Go.Proofs.YticiffgklmjfnaaGreat.Am
namespace Go.Proofs.YticiffgklmjfnaaGreat.Am
set_option linter.unusedSimpArgs false
set_option linter.unusedVariables false
open Go
attribute [local irreducible] Mk Need Ari Get Idx Cnd CallM CallA Opt Unch At ConV
set_option maxRecDepth 10000
theorem sgood_c (w : Wrl) (m : Int) : ConV Tryz.prog 113 [wrlA w, .int .i64 m] [] (.bool (good w m)) [] := by
  have hI := in_c m 0 ((w.com.length : Int) - 1)
  refine con_eq Θ_ok Tryz.func113 rfl rfl false 0 4 rfl rfl rfl rfl fun K hK hb1 hb2 => ?_; simp only [argsV, enc, Nat.reduceAdd]
  simp [toDL, V.toD, bnd, encD, D.cells] at hb1
  cases h : vIn m 0 ((w.com.length : Int) - 1)
  · rw [h] at hI
    (repeat (any_goals (first | refine st ?_ | ((first | refine go2 fun xe hxe => ?_ | with_reducible refine cnd_d (fun hq => ?_) fun hq => ?_) <;> conv => whnf) | ((with_reducible refine cnd_i (fun hq => ?_) fun hq => ?_) <;> ((try simp only [hqs] at hq) <;> (first | omega | conv => whnf))) | refine cr (hI) ?_)))
    exact ⟨by simp [good, hasM, h], rfl⟩
  · rw [h] at hI
    (repeat (any_goals (first | refine st ?_ | ((first | refine go2 fun xe hxe => ?_ | with_reducible refine cnd_d (fun hq => ?_) fun hq => ?_) <;> conv => whnf) | ((with_reducible refine cnd_i (fun hq => ?_) fun hq => ?_) <;> ((try simp only [hqs] at hq) <;> (first | omega | conv => whnf))) | refine cr (hI) ?_)))
    exact ⟨by simp [good, hasM, h], rfl⟩
theorem nxt_snoc {ps : List Ppl} {i : Nat} {p : Ppl} (h : ps[i]? = some p) (m : Int) : nxt (ps.take (i + 1)) m = if p.v.author = m then (if nxt (ps.take i) m < p.v.round + 1 then p.v.round + 1 else nxt (ps.take i) m) else nxt (ps.take i) m := by
  obtain ⟨hl, rfl⟩ := List.getElem?_eq_some_iff.1 h
  rw [List.take_succ_eq_append_getElem hl, nxt_app]
  split
  · split <;> omega
  · rfl
theorem snext_c (w : Wrl) (m : Int) (hp : ∀ p ∈ w.props, 0 ≤ p.v.round ∧ p.v.round ≤ 30) (hl : w.props.length ≤ 1000) : ConV Tryz.prog 117 [wrlA w, .int .i64 m] [] (.int .i64 (nxt w.props m)) [] := by
  refine con_eq Θ_ok Tryz.func117 rfl rfl false 0 4 rfl rfl rfl rfl fun K hK hb1 hb2 => ?_; simp only [argsV, enc, Nat.reduceAdd]
  clear hb1 hb2
  (repeat (any_goals (first | refine st ?_ | ((first | refine go2 fun xe hxe => ?_ | with_reducible refine cnd_d (fun hq => ?_) fun hq => ?_) <;> conv => whnf) | ((with_reducible refine cnd_i (fun hq => ?_) fun hq => ?_) <;> ((try simp only [hqs] at hq) <;> (first | omega | conv => whnf))))))
  refine at_loop hK [] [1, 2, 5, 6] (fun i : Nat => ⟨[(1, .int .i64 m), (2, .ptr 4 0), (5, .int .i64 (nxt (w.props.take i) m)), (6, .int .i64 (i : Int))], [(4, .var 27 (wrlA w).cells)], 5⟩) (fun i => i ≤ w.props.length) (fun i => w.props.length - i) 0 (by simp) rfl ?_
  intro i hi
  by_cases hlt : i < w.props.length
  · have hxe : w.props[i]? = some w.props[i] := List.getElem?_eq_getElem hlt
    have hs := nxt_snoc hxe m
    have hpb := hp _ (List.getElem_mem hlt)
    have hnb := nxt_bd (m := m) fun p hpp => hp p (List.mem_of_mem_take (i := i) hpp)
    generalize w.props[i] = p at *
    by_cases ha : p.v.author = m
    · rw [if_pos ha] at hs
      (repeat (any_goals (first | refine st ?_ | ((first | refine go2 fun xe hxe => ?_ | with_reducible refine cnd_d (fun hq => ?_) fun hq => ?_) <;> conv => whnf) | ((with_reducible refine cnd_i (fun hq => ?_) fun hq => ?_) <;> ((try simp only [hqs] at hq) <;> (first | omega | conv => whnf))))))
      exact ⟨i + 1, by omega, by omega, by rw [hs]; rfl⟩
    · rw [if_neg ha] at hs
      (repeat (any_goals (first | refine st ?_ | ((first | refine go2 fun xe hxe => ?_ | with_reducible refine cnd_d (fun hq => ?_) fun hq => ?_) <;> conv => whnf) | ((with_reducible refine cnd_i (fun hq => ?_) fun hq => ?_) <;> ((try simp only [hqs] at hq) <;> (first | omega | conv => whnf))))))
      exact ⟨i + 1, by omega, by omega, by rw [hs]; rfl⟩
  · (repeat (any_goals (first | refine st ?_ | ((first | refine go2 fun xe hxe => ?_ | with_reducible refine cnd_d (fun hq => ?_) fun hq => ?_) <;> conv => whnf) | ((with_reducible refine cnd_i (fun hq => ?_) fun hq => ?_) <;> ((try simp only [hqs] at hq) <;> (first | omega | conv => whnf))))))
    rw [List.take_of_length_le (by omega)]
    exact ⟨rfl, rfl⟩
theorem sins_c (l : List Int) (n : Int) (hl : l.length ≤ 1000) : ConV Tryz.prog 119 [.lst (.int .i64) l, .int .i64 n] [] (.lst (.int .i64) (insM l n)) [] := by
  refine con_eq Θ_ok Tryz.func119 rfl rfl true 0 4 rfl rfl rfl rfl fun K hK hb1 hb2 => ?_; simp only [argsV, enc, Nat.reduceAdd]
  clear hb1 hb2
  (repeat (any_goals (first | refine st ?_ | ((first | refine go2 fun xe hxe => ?_ | with_reducible refine cnd_d (fun hq => ?_) fun hq => ?_) <;> conv => whnf) | ((with_reducible refine cnd_i (fun hq => ?_) fun hq => ?_) <;> ((try simp only [hqs] at hq) <;> (first | omega | conv => whnf))))))
  refine at_loop hK [] [0, 1, 5] (fun k : Nat => ⟨[(0, .lst (.int .i64) l), (1, .int .i64 n), (5, .int .i64 (k : Int))], [], 4⟩) (fun k => k ≤ l.length ∧ ∀ y ∈ l.take k, y < n) (fun k => l.length - k) 0 ⟨by simp, by simp⟩ rfl ?_
  rintro k ⟨hk, hall⟩
  have hat := insM_at (l := l) (n := n) (k := k) hall hk
  have e1 : cutL l none (some (.int .i64 k)) 0 (k : Int).toNat = l.take k := by simp [cutL]
  have e2 : cutL l (some (.int .i64 k)) none (k : Int).toNat l.length = l.drop k := by simp [cutL]
  have hl1 : (l.take k).length = k := by rw [List.length_take]; omega
  have hl2 : (l.drop k).length = l.length - k := List.length_drop ..
  by_cases hlt : k < l.length
  · have hxe : l[k]? = some l[k] := List.getElem?_eq_getElem hlt
    have hsn : l.take (k + 1) = l.take k ++ [l[k]] := List.take_succ_eq_append_getElem hlt
    generalize l[k] = x at *
    by_cases hx : x < n
    · (repeat (any_goals (first | refine st ?_ | ((first | refine go2 fun xe hxe => ?_ | with_reducible refine cnd_d (fun hq => ?_) fun hq => ?_) <;> conv => whnf) | ((with_reducible refine cnd_i (fun hq => ?_) fun hq => ?_) <;> ((try simp only [hqs] at hq) <;> (first | omega | conv => whnf))))))
      exact ⟨k + 1, ⟨by omega, by rw [hsn]; intro y hy; rcases List.mem_append.1 hy with h | h; exact hall y h; rw [List.mem_singleton.1 h]; exact hx⟩, by omega, rfl⟩
    · have hat := hat fun y hy => by rw [hxe] at hy; obtain rfl := Option.some.inj hy; exact hx
      rw [hxe] at hat
      by_cases hxn : x = n
      · rw [if_pos (by rw [hxn])] at hat
        rw [hat]
        (repeat (any_goals (first | refine st ?_ | ((first | refine go2 fun xe hxe => ?_ | with_reducible refine cnd_d (fun hq => ?_) fun hq => ?_) <;> conv => whnf) | ((with_reducible refine cnd_i (fun hq => ?_) fun hq => ?_) <;> ((try simp only [hqs] at hq) <;> (first | omega | conv => whnf))))))
        exact ⟨rfl, rfl⟩
      · rw [if_neg (by simpa using hxn)] at hat
        rw [hat]
        (repeat (any_goals (first | refine st ?_ | ((first | refine go2 fun xe hxe => ?_ | with_reducible refine cnd_d (fun hq => ?_) fun hq => ?_) <;> conv => whnf) | ((with_reducible refine cnd_i (fun hq => ?_) fun hq => ?_) <;> ((try simp only [hqs] at hq) <;> (first | omega | conv => whnf))))))
        rw [e1]
        refine need_i ?_ ?_
        · refine fits_ap (xs := ([] : List Int)) (ys := l.take k) (by simp) (by omega) ?_; decide
        (conv => whnf)
        (repeat (any_goals (first | refine st ?_ | ((first | refine go2 fun xe hxe => ?_ | with_reducible refine cnd_d (fun hq => ?_) fun hq => ?_) <;> conv => whnf) | ((with_reducible refine cnd_i (fun hq => ?_) fun hq => ?_) <;> ((try simp only [hqs] at hq) <;> (first | omega | conv => whnf))))))
        rw [e2]
        refine need_i ?_ ?_
        · refine fits_ap (xs := [] ++ l.take k ++ [n]) (ys := l.drop k) (by rw [List.nil_append, List.length_append, List.length_singleton]; omega) (by omega) ?_; decide
        (conv => whnf)
        (repeat (any_goals (first | refine st ?_ | ((first | refine go2 fun xe hxe => ?_ | with_reducible refine cnd_d (fun hq => ?_) fun hq => ?_) <;> conv => whnf) | ((with_reducible refine cnd_i (fun hq => ?_) fun hq => ?_) <;> ((try simp only [hqs] at hq) <;> (first | omega | conv => whnf))))))
        exact ⟨rfl, rfl⟩
  · obtain rfl : k = l.length := by omega
    have hat := hat fun y hy => by rw [List.getElem?_eq_none (Nat.le_refl _)] at hy; cases hy
    rw [List.getElem?_eq_none (Nat.le_refl _), if_neg (by simp)] at hat
    rw [hat]
    (repeat (any_goals (first | refine st ?_ | ((first | refine go2 fun xe hxe => ?_ | with_reducible refine cnd_d (fun hq => ?_) fun hq => ?_) <;> conv => whnf) | ((with_reducible refine cnd_i (fun hq => ?_) fun hq => ?_) <;> ((try simp only [hqs] at hq) <;> (first | omega | conv => whnf))))))
    rw [e1]
    refine need_i ?_ ?_
    · refine fits_ap (xs := ([] : List Int)) (ys := l.take l.length) (by simp) (by omega) ?_; decide
    (conv => whnf)
    (repeat (any_goals (first | refine st ?_ | ((first | refine go2 fun xe hxe => ?_ | with_reducible refine cnd_d (fun hq => ?_) fun hq => ?_) <;> conv => whnf) | ((with_reducible refine cnd_i (fun hq => ?_) fun hq => ?_) <;> ((try simp only [hqs] at hq) <;> (first | omega | conv => whnf))))))
    rw [e2]
    refine need_i ?_ ?_
    · refine fits_ap (xs := [] ++ l.take l.length ++ [n]) (ys := l.drop l.length) (by rw [List.nil_append, List.length_append, List.length_singleton]; omega) (by omega) ?_; decide
    (conv => whnf)
    (repeat (any_goals (first | refine st ?_ | ((first | refine go2 fun xe hxe => ?_ | with_reducible refine cnd_d (fun hq => ?_) fun hq => ?_) <;> conv => whnf) | ((with_reducible refine cnd_i (fun hq => ?_) fun hq => ?_) <;> ((try simp only [hqs] at hq) <;> (first | omega | conv => whnf))))))
    exact ⟨rfl, rfl⟩
theorem sone_c (v : Vtx) (hl : v.parents.length ≤ 1000000) : ConV Tryz.prog 94 [vtxA v] [] (vtxA v) [] := by
  refine con_eq Θ_ok Tryz.func94 rfl rfl true 0 4 rfl rfl rfl rfl fun K hK hb1 hb2 => ?_; simp only [argsV, enc, Nat.reduceAdd]
  clear hb1 hb2
  (repeat (any_goals (first | refine st ?_ | ((first | refine go2 fun xe hxe => ?_ | with_reducible refine cnd_d (fun hq => ?_) fun hq => ?_) <;> conv => whnf) | ((with_reducible refine cnd_i (fun hq => ?_) fun hq => ?_) <;> ((try simp only [hqs] at hq) <;> (first | omega | conv => whnf))))))
  exact ⟨rfl, rfl⟩
theorem scopy_c (g : List Vtx) (hl : g.length ≤ 1000) (hv : ∀ v ∈ g, v.parents.length ≤ 1000000) : ConV Tryz.prog 93 [.lst .vtx g] [] (.lst .vtx g) [] := by
  refine con_eq Θ_ok Tryz.func93 rfl rfl true 0 4 rfl rfl rfl rfl fun K hK hb1 hb2 => ?_; simp only [argsV, enc, Nat.reduceAdd]
  clear hb1 hb2
  (repeat (any_goals (first | refine st ?_ | ((first | refine go2 fun xe hxe => ?_ | with_reducible refine cnd_d (fun hq => ?_) fun hq => ?_) <;> conv => whnf) | ((with_reducible refine cnd_i (fun hq => ?_) fun hq => ?_) <;> ((try simp only [hqs] at hq) <;> (first | omega | conv => whnf))))))
  refine at_loop hK [] [0, 3, 4] (fun i : Nat => ⟨[(0, .lst .vtx g), (3, .ref 4), (4, .int .i64 (i : Int))], [(4, .row 36 .vtx (g.take i))], 5⟩) (fun i => i ≤ g.length) (fun i => g.length - i) 0 (by simp) rfl ?_
  intro i hi
  by_cases hlt : i < g.length
  · have hxe : g[i]? = some g[i] := List.getElem?_eq_getElem hlt
    have hsn : g.take (i + 1) = g.take i ++ [g[i]] := List.take_succ_eq_append_getElem hlt
    have hvl := hv _ (List.getElem_mem hlt)
    have hll : (g.take i).length = i := by rw [List.length_take]; omega
    generalize g[i] = v at *
    generalize g.take i = l at *
    (repeat (any_goals (first | refine st ?_ | ((first | refine go2 fun xe hxe => ?_ | with_reducible refine cnd_d (fun hq => ?_) fun hq => ?_) <;> conv => whnf) | ((with_reducible refine cnd_i (fun hq => ?_) fun hq => ?_) <;> ((try simp only [hqs] at hq) <;> (first | omega | conv => whnf))) | refine cr (sone_c _ hvl) ?_)))
    exact ⟨i + 1, by omega, by omega, by rw [hsn]; rfl⟩
  · (repeat (any_goals (first | refine st ?_ | ((first | refine go2 fun xe hxe => ?_ | with_reducible refine cnd_d (fun hq => ?_) fun hq => ?_) <;> conv => whnf) | ((with_reducible refine cnd_i (fun hq => ?_) fun hq => ?_) <;> ((try simp only [hqs] at hq) <;> (first | omega | conv => whnf))))))
    rw [List.take_of_length_le (by omega)]
    exact ⟨rfl, rfl⟩
theorem fnd_no {g : List Vtx} {r a : Int} (h : hasV g r a = false) : fndI g r a < 0 := by
  have := fnd_lt g r a
  simpa [h] using this
theorem sadd_c (g : List Vtx) (v : Vtx) (hl : g.length ≤ 400) (hv : ∀ u ∈ g, u.parents.length ≤ 1000000) (hvp : v.parents.length ≤ 1000000) (hr : -1000000 < v.round ∧ v.round < 1000000) (h1 : hasV g v.round v.author = false) (h2 : parOK g v = true) : ConV Tryz.prog 118 [.lst .vtx g, vtxA v] [] (.tup [.lst .vtx (insV g v), .int .i64 0]) [] := by
  have hF := find_c g v.round v.author
  have hF2 := fnd_no h1
  have hP := parents_c g v hr
  rw [h2] at hP
  refine con_eq Θ_ok Tryz.func118 rfl rfl true 0 4 rfl rfl rfl rfl fun K hK hb1 hb2 => ?_; simp only [argsV, enc, Nat.reduceAdd]
  clear hb1 hb2
  generalize fndI g v.round v.author = fi at *
  (repeat (any_goals (first | refine st ?_ | ((first | refine go2 fun xe hxe => ?_ | with_reducible refine cnd_d (fun hq => ?_) fun hq => ?_) <;> conv => whnf) | ((with_reducible refine cnd_i (fun hq => ?_) fun hq => ?_) <;> ((try simp only [hqs] at hq) <;> (first | omega | conv => whnf))) | refine cr (hF) ?_ | refine cr (hP) ?_)))
  refine at_loop hK [] [0, 3, 7, 8] (fun k : Nat => ⟨[(0, .lst .vtx g), (3, .ptr 4 0), (7, .ref 5), (8, .int .i64 (k : Int))], [(4, .var 36 (vtxA v).cells), (5, .row 36 .vtx (g.take k))], 6⟩) (fun k => k ≤ g.length ∧ ∀ y ∈ g.take k, bef y v = true) (fun k => g.length - k) 0 ⟨by simp, by simp⟩ rfl ?_
  rintro k ⟨hk, hall⟩
  have hat := insV_at (g := g) (v := v) (k := k) hall hk
  have hll : (g.take k).length = k := by rw [List.length_take]; omega
  have e2 : cutL g (some (.int .i64 k)) none (k : Int).toNat g.length = g.drop k := by simp [cutL]
  have hdl : (g.drop k).length = g.length - k := List.length_drop ..
  have hC := scopy_c (g.drop k) (by omega) fun u hu => hv u (List.mem_of_mem_drop hu)
  by_cases hlt : k < g.length
  · have hxe : g[k]? = some g[k] := List.getElem?_eq_getElem hlt
    have hsn : g.take (k + 1) = g.take k ++ [g[k]] := List.take_succ_eq_append_getElem hlt
    have hxl := hv _ (List.getElem_mem hlt)
    generalize g[k] = x at *
    have hB := before_c x v
    cases hb : bef x v
    · rw [hb] at hB
      have hat := hat fun y hy => by rw [hxe] at hy; obtain rfl := Option.some.inj hy; exact hb
      rw [hat]
      generalize g.take k = lt at *
      (repeat (any_goals (first | refine st ?_ | ((first | refine go2 fun xe hxe => ?_ | with_reducible refine cnd_d (fun hq => ?_) fun hq => ?_) <;> conv => whnf) | ((with_reducible refine cnd_i (fun hq => ?_) fun hq => ?_) <;> ((try simp only [hqs] at hq) <;> (first | omega | conv => whnf))) | refine cr (hB) ?_ | refine cr (sone_c _ hvp) ?_)))
      have e3 : cutL g (some (.int .i64 (lt.length : Int))) none (lt.length : Int).toNat g.length = g.drop k := by rw [hll]; exact e2
      rw [e3]
      (repeat (any_goals (first | refine st ?_ | ((first | refine go2 fun xe hxe => ?_ | with_reducible refine cnd_d (fun hq => ?_) fun hq => ?_) <;> conv => whnf) | ((with_reducible refine cnd_i (fun hq => ?_) fun hq => ?_) <;> ((try simp only [hqs] at hq) <;> (first | omega | conv => whnf))) | refine cr (hC) ?_)))
      exact ⟨rfl, rfl⟩
    · rw [hb] at hB
      generalize hlt2 : g.take k = lt at *
      (repeat (any_goals (first | refine st ?_ | ((first | refine go2 fun xe hxe => ?_ | with_reducible refine cnd_d (fun hq => ?_) fun hq => ?_) <;> conv => whnf) | ((with_reducible refine cnd_i (fun hq => ?_) fun hq => ?_) <;> ((try simp only [hqs] at hq) <;> (first | omega | conv => whnf))) | refine cr (hB) ?_ | refine cr (sone_c _ hxl) ?_)))
      exact ⟨k + 1, ⟨by omega, by rw [hsn]; exact tk_snoc hall hb⟩, by omega, by rw [hsn]; rfl⟩
  · have hat := hat fun y hy => by rw [List.getElem?_eq_none (by omega)] at hy; cases hy
    rw [hat]
    generalize g.take k = lt at *
    (repeat (any_goals (first | refine st ?_ | ((first | refine go2 fun xe hxe => ?_ | with_reducible refine cnd_d (fun hq => ?_) fun hq => ?_) <;> conv => whnf) | ((with_reducible refine cnd_i (fun hq => ?_) fun hq => ?_) <;> ((try simp only [hqs] at hq) <;> (first | omega | conv => whnf))) | refine cr (sone_c _ hvp) ?_)))
    have e3 : cutL g (some (.int .i64 (lt.length : Int))) none (lt.length : Int).toNat g.length = g.drop k := by rw [hll]; exact e2
    rw [e3]
    (repeat (any_goals (first | refine st ?_ | ((first | refine go2 fun xe hxe => ?_ | with_reducible refine cnd_d (fun hq => ?_) fun hq => ?_) <;> conv => whnf) | ((with_reducible refine cnd_i (fun hq => ?_) fun hq => ?_) <;> ((try simp only [hqs] at hq) <;> (first | omega | conv => whnf))) | refine cr (hC) ?_)))
    exact ⟨rfl, rfl⟩
end Go.Proofs.YticiffgklmjfnaaGreat.Am
