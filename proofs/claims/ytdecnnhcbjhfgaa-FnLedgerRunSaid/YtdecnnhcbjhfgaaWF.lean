/- The law 'nothing is created or lost'. -/
import Derived.Test.YtdecnnhcbjhfgaaWE
namespace Go.Proofs.Ytdecnnhcbjhfgaa.Am
set_option linter.unusedSimpArgs false
set_option linter.unusedVariables false
open Go
attribute [local irreducible] Mk Need Ari Get Idx Cnd CallM At ConV
set_option maxRecDepth 10000

theorem sum_set : ∀ (l : List Int) (i : Nat) (v : Int), i < l.length → (l.set i v).sum = l.sum - l.getD i 0 + v
  | [], i, v, h => by simp at h
  | x :: l, 0, v, _ => by simp; omega
  | x :: l, i + 1, v, h => by
    have ih := sum_set l i v (by simpa using h)
    simp only [List.set_cons_succ, List.sum_cons, List.getD_cons_succ, ih]
    omega
theorem step_total {l : Led} (t : Txn) (h : okL l) : (stepL l t).f + (stepL l t).b.sum = l.f + l.b.sum := by
  obtain ⟨b, f⟩ := l
  obtain ⟨x, y, s, e⟩ := t
  unfold stepL
  cases hv : stepV ⟨b, f⟩ ⟨x, y, s, e⟩ with
  | false => rfl
  | true =>
    simp only [stepV, Bool.and_eq_true] at hv
    obtain ⟨⟨h1, h2⟩, ⟨h3, h4⟩, h5, -⟩ := txnV_ok hv.1
    have hl : b.length = 6 := h.1
    simp only [if_true]
    rw [sum_set _ _ _ (by simp; omega), sum_set _ _ _ (by omega)]
    have hne : x.toNat ≠ y.toNat := by omega
    have : (b.set x.toNat (b.getD x.toNat 0 - s - e)).getD y.toNat 0 = b.getD y.toNat 0 := by
      simp only [List.getD_eq_getElem?_getD, List.getElem?_set_ne hne]
    rw [this]
    omega
theorem run_total : ∀ (l : Led) (ts : List Txn), okL l → l.f + 9 * ts.length ≤ 100000 → (runL l ts).f + (runL l ts).b.sum = l.f + l.b.sum
  | l, [], _, _ => rfl
  | l, t :: ts, h, hf => by
    have h1 := okL_step (t := t) h (by simp at hf; omega)
    have := run_total (stepL l t) ts h1.1 (by simp at hf; omega)
    show (runL (stepL l t) ts).f + (runL (stepL l t) ts).b.sum = _
    rw [this, step_total t h]
theorem led_of_ok {l : Led} (h : okL l) (hf : l.f ≤ 5994) : ledV l = true := by
  obtain ⟨b, f⟩ := l
  obtain ⟨h1, h2, h3, h4⟩ := h
  simp only at h1 h2 h3 hf
  simp only [ledV, vIn, Bool.and_eq_true, decide_eq_true_eq, List.all_eq_true, beq_iff_eq]
  exact ⟨fun x hx => h2 x hx, h1, h3, hf⟩
theorem runV_led {l : Led} {ts : List Txn} (h : runV l ts = true) : ledV l = true ∧ ledV (runL l ts) = true ∧ (runL l ts).f + (runL l ts).b.sum = l.f + l.b.sum := by
  obtain ⟨b, f⟩ := l
  obtain ⟨h1, h2, h3, h4⟩ := runV_ok h
  have h5 := okL_run ⟨b, f⟩ ts h3 h4
  have h6 := (okL_of_room (by omega) h1).2
  exact ⟨led_of_ok h3 (by simp only; omega), led_of_ok h5.1 (by have := h5.2; simp only at this; omega), run_total _ _ h3 h4⟩
theorem iRunT {b : List Int} {f : Int} {ts : List Txn} (h : runV ⟨b, f⟩ ts = true) : ConV Try.prog 18 [.agg [.lst (.int .i64) b, .int .i64 f], .lst .txn ts] []
    (.tup [.agg [.ref 0, .int .i64 (runL ⟨b, f⟩ ts).f], .ref 1]) [.row 3 (.int .i64) (runL ⟨b, f⟩ ts).b, .row 4 .bool (runO ⟨b, f⟩ ts)] := by
  have := iLedgerRun_c b f ts
  rwa [if_pos h, if_pos h] at this
theorem iRunF {b : List Int} {f : Int} {ts : List Txn} (h : runV ⟨b, f⟩ ts = false) : ConV Try.prog 18 [.agg [.lst (.int .i64) b, .int .i64 f], .lst .txn ts] []
    (.tup [.agg [.nils, .int .i64 0], .ref 0]) [.row 4 .bool []] := by
  have := iLedgerRun_c b f ts
  rwa [if_neg (by rw [h]; decide), if_neg (by rw [h]; decide)] at this
theorem sRunT {b : List Int} {f : Int} {ts : List Txn} (h : runV ⟨b, f⟩ ts = true) : ConV Try.prog 19 [.agg [.lst (.int .i64) b, .int .i64 f], .lst .txn ts] []
    (.tup [.agg [.lst (.int .i64) (runL ⟨b, f⟩ ts).b, .int .i64 (runL ⟨b, f⟩ ts).f], .lst .bool (runO ⟨b, f⟩ ts)]) [] := by
  have := ledgerRun_c b f ts
  rwa [if_pos h] at this
theorem sRunF {b : List Int} {f : Int} {ts : List Txn} (h : runV ⟨b, f⟩ ts = false) : ConV Try.prog 19 [.agg [.lst (.int .i64) b, .int .i64 f], .lst .txn ts] []
    (.tup [.agg [.nils, .int .i64 0], .lst .bool []]) [] := by
  have := ledgerRun_c b f ts
  rwa [if_neg (by rw [h]; decide)] at this
theorem sameLedger_e (a : List Int) (f : Int) : ConV Try.prog 20 [.agg [.lst (.int .i64) a, .int .i64 f], .agg [.lst (.int .i64) a, .int .i64 f]] [] (.bool true) [] := by
  have := sameLedger_c a a f f
  rwa [decide_eq_true rfl, decide_eq_true rfl] at this
theorem sameBools_e (a : List Bool) : ConV Try.prog 21 [.lst .bool a, .lst .bool a] [] (.bool true) [] := by
  have := sameBools_c a a
  rwa [decide_eq_true rfl] at this
theorem totalT {b : List Int} {f : Int} (h : ledV ⟨b, f⟩ = true) : ConV Try.prog 22 [.agg [.lst (.int .i64) b, .int .i64 f]] [] (.int .i64 (f + b.sum)) [] := by
  have := total_c b f
  rwa [if_pos h] at this
theorem validT {b : List Int} {f : Int} (h : ledV ⟨b, f⟩ = true) : ConV Try.prog 23 [.agg [.lst (.int .i64) b, .int .i64 f]] [] (.bool true) [] := by
  have := iLedgerValid_c b f
  rwa [h] at this
set_option maxHeartbeats 1000000 in
theorem lawTotal_c (c : List Int) (hc : ∀ x ∈ c, 0 ≤ x ∧ x ≤ 255) : ConV Try.prog 7 [.lst (.int .u8) c] [] (.bool true) [] := by
  obtain ⟨⟨⟨b, f⟩, ts⟩, ⟨hb, ht⟩, hd⟩ := drawRun_c c hc
  dsimp only at hb ht hd
  refine con_eq Θ_ok Try.func7 rfl rfl false rfl fun hb1 hb2 => ?_; simp only [argsV, argsB, enc, List.length, Nat.reduceAdd]
  clear hb1 hb2
  by_cases hbig : (1048576 : Int) < c.length
  · (repeat (any_goals (first | (with_reducible apply at_seq) | ((with_reducible refine mk_i (by kernel_rfl) ?_); conv => whnf) | ((with_reducible apply at_regS Θ_ok); conv => whnf) | ((with_reducible refine cnd_t ?_); conv => whnf) | ((with_reducible refine cnd_f ?_); conv => whnf) | ((with_reducible refine cnd_kt (by assumption) ?_); conv => whnf) | ((with_reducible refine cnd_kf (by assumption) ?_); conv => whnf) | ((with_reducible refine cnd_nt (by assumption) ?_); conv => whnf) | ((with_reducible refine cnd_nf (by assumption) ?_); conv => whnf) | ((with_reducible refine cnd_dt (by first | assumption | omega) ?_); conv => whnf) | ((with_reducible refine cnd_df (by first | assumption | omega) ?_); conv => whnf) | ((with_reducible refine cnd_d (fun hq => ?_) (fun hq => ?_)) <;> conv => whnf) | ((with_reducible refine cnd_i (fun hq => ?_) (fun hq => ?_)) <;> ((try simp only [decide_eq_true_eq, decide_eq_false_iff_not, Bool.not_eq_true', Bool.not_eq_false', beq_iff_eq, bne_iff_ne, beq_eq_false_iff_ne, bne_eq_false_iff_eq, ne_eq] at hq) <;> (first | omega | conv => whnf))) | ((with_reducible apply at_cond); conv => whnf) | ((with_reducible refine need_i (by first | omega | assumption | decide | ((try unfold fits); (try simp only [List.length_set, List.length_append, List.length_cons, List.length_nil, List.length_map, List.length_replicate]); omega)) ?_); conv => whnf) | ((with_reducible refine ari_64 (by omega) ?_); conv => whnf) | ((with_reducible refine idx_kn (by assumption) ?_); conv => whnf) | ((with_reducible refine idx_k (by omega) (by assumption) ?_); conv => whnf) | ((with_reducible refine idx_n (by omega) (fun xe hxe => ?_)); conv => whnf) | ((with_reducible refine idx_i (by omega) (by omega) (fun xe hxe => ?_)); conv => whnf) | ((with_reducible refine get_kn (by assumption) ?_); conv => whnf) | ((with_reducible refine get_n (by omega) (fun xe hxe => ?_)); conv => whnf) | ((with_reducible refine get_k (by assumption) ?_); conv => whnf) | ((with_reducible refine get_i (by first | omega | (simp only [List.length_cons, List.length_nil]; omega)) (fun xe hxe => ?_)); conv => whnf) | ((with_reducible apply at_ret); conv => whnf) | ((with_reducible apply at_exit); conv => whnf) | ((with_reducible apply at_skip); conv => whnf) | (with_reducible apply at_block) | ((with_reducible refine at_regD Θ_ok mixed (by kernel_rfl) ?_); conv => whnf) | ((with_reducible refine ari_in (by simp only [inR]; omega) ?_); conv => whnf))))
    exact ⟨rfl, rfl⟩
  cases hv : runV ⟨b, f⟩ ts
  · have hi := iRunF hv
    have hs := sRunF hv
    (repeat (any_goals (first | (with_reducible apply at_seq) | ((with_reducible refine mk_i (by kernel_rfl) ?_); conv => whnf) | ((with_reducible apply at_regS Θ_ok); conv => whnf) | ((with_reducible refine cnd_t ?_); conv => whnf) | ((with_reducible refine cnd_f ?_); conv => whnf) | ((with_reducible refine cnd_kt (by assumption) ?_); conv => whnf) | ((with_reducible refine cnd_kf (by assumption) ?_); conv => whnf) | ((with_reducible refine cnd_nt (by assumption) ?_); conv => whnf) | ((with_reducible refine cnd_nf (by assumption) ?_); conv => whnf) | ((with_reducible refine cnd_dt (by first | assumption | omega) ?_); conv => whnf) | ((with_reducible refine cnd_df (by first | assumption | omega) ?_); conv => whnf) | ((with_reducible refine cnd_d (fun hq => ?_) (fun hq => ?_)) <;> conv => whnf) | ((with_reducible refine cnd_i (fun hq => ?_) (fun hq => ?_)) <;> ((try simp only [decide_eq_true_eq, decide_eq_false_iff_not, Bool.not_eq_true', Bool.not_eq_false', beq_iff_eq, bne_iff_ne, beq_eq_false_iff_ne, bne_eq_false_iff_eq, ne_eq] at hq) <;> (first | omega | conv => whnf))) | ((with_reducible apply at_cond); conv => whnf) | ((with_reducible refine need_i (by first | omega | assumption | decide | ((try unfold fits); (try simp only [List.length_set, List.length_append, List.length_cons, List.length_nil, List.length_map, List.length_replicate]); omega)) ?_); conv => whnf) | ((with_reducible refine ari_64 (by omega) ?_); conv => whnf) | ((with_reducible refine idx_kn (by assumption) ?_); conv => whnf) | ((with_reducible refine idx_k (by omega) (by assumption) ?_); conv => whnf) | ((with_reducible refine idx_n (by omega) (fun xe hxe => ?_)); conv => whnf) | ((with_reducible refine idx_i (by omega) (by omega) (fun xe hxe => ?_)); conv => whnf) | ((with_reducible refine get_kn (by assumption) ?_); conv => whnf) | ((with_reducible refine get_n (by omega) (fun xe hxe => ?_)); conv => whnf) | ((with_reducible refine get_k (by assumption) ?_); conv => whnf) | ((with_reducible refine get_i (by first | omega | (simp only [List.length_cons, List.length_nil]; omega)) (fun xe hxe => ?_)); conv => whnf) | ((with_reducible apply at_ret); conv => whnf) | ((with_reducible apply at_exit); conv => whnf) | ((with_reducible apply at_skip); conv => whnf) | (with_reducible apply at_block) | ((with_reducible refine at_regD Θ_ok mixed (by kernel_rfl) ?_); conv => whnf) | ((with_reducible refine ari_in (by simp only [inR]; omega) ?_); conv => whnf) | ((with_reducible refine call_i (hd) ?_); conv => whnf) | ((with_reducible refine call_i (hi) ?_); conv => whnf) | ((with_reducible refine call_i (hs) ?_); conv => whnf) | ((with_reducible refine call_i (sameLedger_e _ _) ?_); conv => whnf) | ((with_reducible refine call_i (sameBools_e _) ?_); conv => whnf))))
    all_goals first | exact ⟨rfl, rfl⟩ | exact absurd rfl hq
  · have hi := iRunT hv
    have hs := sRunT hv
    have hok := (okL_run ⟨b, f⟩ ts (runV_ok hv).2.2.1 (runV_ok hv).2.2.2).1
    obtain ⟨hl1, hl2, hl3⟩ := runV_led hv
    have hlen : (runL ⟨b, f⟩ ts).b.length = 6 := hok.1
    generalize runL ⟨b, f⟩ ts = r at *
    generalize runO ⟨b, f⟩ ts = o at *
    obtain ⟨rb, rf⟩ := r
    have t1 := totalT hl1
    have t2 := totalT hl2
    have v2 := validT hl2
    dsimp only at hl3 hlen hi hs
    (repeat (any_goals (first | (with_reducible apply at_seq) | ((with_reducible refine mk_i (by kernel_rfl) ?_); conv => whnf) | ((with_reducible apply at_regS Θ_ok); conv => whnf) | ((with_reducible refine cnd_t ?_); conv => whnf) | ((with_reducible refine cnd_f ?_); conv => whnf) | ((with_reducible refine cnd_kt (by assumption) ?_); conv => whnf) | ((with_reducible refine cnd_kf (by assumption) ?_); conv => whnf) | ((with_reducible refine cnd_nt (by assumption) ?_); conv => whnf) | ((with_reducible refine cnd_nf (by assumption) ?_); conv => whnf) | ((with_reducible refine cnd_dt (by first | assumption | omega) ?_); conv => whnf) | ((with_reducible refine cnd_df (by first | assumption | omega) ?_); conv => whnf) | ((with_reducible refine cnd_d (fun hq => ?_) (fun hq => ?_)) <;> conv => whnf) | ((with_reducible refine cnd_i (fun hq => ?_) (fun hq => ?_)) <;> ((try simp only [decide_eq_true_eq, decide_eq_false_iff_not, Bool.not_eq_true', Bool.not_eq_false', beq_iff_eq, bne_iff_ne, beq_eq_false_iff_ne, bne_eq_false_iff_eq, ne_eq] at hq) <;> (first | omega | conv => whnf))) | ((with_reducible apply at_cond); conv => whnf) | ((with_reducible refine need_i (by first | omega | assumption | decide | ((try unfold fits); (try simp only [List.length_set, List.length_append, List.length_cons, List.length_nil, List.length_map, List.length_replicate]); omega)) ?_); conv => whnf) | ((with_reducible refine ari_64 (by omega) ?_); conv => whnf) | ((with_reducible refine idx_kn (by assumption) ?_); conv => whnf) | ((with_reducible refine idx_k (by omega) (by assumption) ?_); conv => whnf) | ((with_reducible refine idx_n (by omega) (fun xe hxe => ?_)); conv => whnf) | ((with_reducible refine idx_i (by omega) (by omega) (fun xe hxe => ?_)); conv => whnf) | ((with_reducible refine get_kn (by assumption) ?_); conv => whnf) | ((with_reducible refine get_n (by omega) (fun xe hxe => ?_)); conv => whnf) | ((with_reducible refine get_k (by assumption) ?_); conv => whnf) | ((with_reducible refine get_i (by first | omega | (simp only [List.length_cons, List.length_nil]; omega)) (fun xe hxe => ?_)); conv => whnf) | ((with_reducible apply at_ret); conv => whnf) | ((with_reducible apply at_exit); conv => whnf) | ((with_reducible apply at_skip); conv => whnf) | (with_reducible apply at_block) | ((with_reducible refine at_regD Θ_ok mixed (by kernel_rfl) ?_); conv => whnf) | ((with_reducible refine ari_in (by simp only [inR]; omega) ?_); conv => whnf) | ((with_reducible refine call_i (hd) ?_); conv => whnf) | ((with_reducible refine call_i (hi) ?_); conv => whnf) | ((with_reducible refine call_i (hs) ?_); conv => whnf) | ((with_reducible refine call_i (sameLedger_e _ _) ?_); conv => whnf) | ((with_reducible refine call_i (sameBools_e _) ?_); conv => whnf) | ((with_reducible refine call_i (t1) ?_); conv => whnf) | ((with_reducible refine call_i (t2) ?_); conv => whnf) | ((with_reducible refine call_i (v2) ?_); conv => whnf))))
    all_goals first | exact ⟨rfl, rfl⟩ | exact absurd rfl hq | exact absurd hl3 hq
end Go.Proofs.Ytdecnnhcbjhfgaa.Am
