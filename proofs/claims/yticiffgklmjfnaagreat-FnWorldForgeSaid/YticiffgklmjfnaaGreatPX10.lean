/- Runs: the reference's WorldDo and WorldPlay; what is drawn for them. -/
import Derived.Test.YticiffgklmjfnaaGreatPX9
namespace Go.Proofs.YticiffgklmjfnaaGreat.Am
set_option linter.unusedSimpArgs false
set_option linter.unusedVariables false
open Go
attribute [local irreducible] Mk Need Ari Get Idx Cnd CallM CallA Opt Unch At ConV
set_option maxRecDepth 10000
theorem swdo_c (w : Wrl) (e : Evt) (hl : w.com.length ≤ 2000000) (hvl : e.v.parents.length ≤ 1000000) : ConV Tryz.prog 26 [wrlA w, evtA e] [] (if wrlS w then wrlA (sDo w e) else wrlZ) [] := by
  have hV := swV_c w hl
  refine con_eq Θ_ok Tryz.func26 rfl rfl true 0 4 rfl rfl rfl rfl fun K hK hb1 hb2 => ?_; simp only [argsV, enc, Nat.reduceAdd]
  clear hb1 hb2
  cases hs : wrlS w
  · rw [hs] at hV
    (repeat (any_goals (first | refine st ?_ | ((first | refine go2 fun xe hxe => ?_ | with_reducible refine cnd_d (fun hq => ?_) fun hq => ?_) <;> conv => whnf) | ((with_reducible refine cnd_i (fun hq => ?_) fun hq => ?_) <;> ((try simp only [hqs] at hq) <;> (first | omega | conv => whnf))) | refine cr (hV) ?_)))
    exact ⟨rfl, rfl⟩
  · rw [hs] at hV
    have hw := wok_iff.1 hs
    have hD := sdo_c w e hw hvl
    have hC := scpy_c _ (sDo_ok hw e)
    generalize sDo w e = u at *
    (repeat (any_goals (first | refine st ?_ | ((first | refine go2 fun xe hxe => ?_ | with_reducible refine cnd_d (fun hq => ?_) fun hq => ?_) <;> conv => whnf) | ((with_reducible refine cnd_i (fun hq => ?_) fun hq => ?_) <;> ((try simp only [hqs] at hq) <;> (first | omega | conv => whnf))) | refine cr (hV) ?_ | refine cr (hD) ?_ | refine cr (hC) ?_)))
    exact ⟨rfl, rfl⟩
theorem ddo_c (c : List Int) (hc : ∀ x ∈ c, 0 ≤ x ∧ x ≤ 255) : ∃ x : Wrl × Bool × Evt, (WSm x.1 ∧ x.2.2.v.parents.length ≤ 30 ∧ (x.2.1 = true → x.2.2.v.parents = [])) ∧ ConV Tryz.prog 24 [.lst (.int .u8) c] [] (.tup [wrlA x.1, evtZ x.2.1 x.2.2]) [] := by
  have h := rd0w hc
  obtain ⟨⟨w, q⟩, ⟨h1, h2, h3⟩, hw⟩ := dwld_c _ 0 h (by omega)
  dsimp only at h1 h2 h3 hw
  obtain ⟨⟨⟨z, e⟩, q3⟩, ⟨e1, e2, e3, e4⟩, hE⟩ := devt_c _ q w h (by omega) h3
  dsimp only at e1 e2 e3 e4 hE
  obtain ⟨n, hn, hnc⟩ := pk_c _ q3 14 h (by omega) (by omega)
  by_cases h0 : n = 0
  · obtain ⟨⟨w2, q4⟩, ⟨g1, g2, g3⟩, hW⟩ := dwrg_c _ (q3 + 1) h (by omega)
    dsimp only at g1 g2 g3 hW
    refine ⟨(w2, z, e), ⟨g3, e3, e4⟩, ?_⟩
    refine con_eq Θ_ok Tryz.func24 rfl rfl true 0 4 rfl rfl rfl rfl fun K hK hb1 hb2 => ?_; simp only [argsV, enc, Nat.reduceAdd]
    clear hb1 hb2
    cases z with
    | false =>
      have hE : ConV Tryz.prog 37 [.ptr 4 0, wrlA w] [(4, rdB (c.take 2000) q)] (evtA e) [(4, rdB (c.take 2000) q3)] := hE
      (repeat (any_goals (first | refine st ?_ | ((first | refine go2 fun xe hxe => ?_ | with_reducible refine cnd_d (fun hq => ?_) fun hq => ?_) <;> conv => whnf) | ((with_reducible refine cnd_i (fun hq => ?_) fun hq => ?_) <;> ((try simp only [hqs] at hq) <;> (first | omega | conv => whnf))) | refine cr (open_c _) ?_ | refine cr (hw) ?_ | refine cr (hnc) ?_ | refine cr (hW) ?_ | refine co (hE) ?_)))
      exact ⟨rfl, rfl⟩
    | true =>
      have hE : ConV Tryz.prog 37 [.ptr 4 0, wrlA w] [(4, rdB (c.take 2000) q)] (.agg [.int .i64 e.kind, .int .i64 e.a, .int .i64 e.b, .int .i64 e.v.round, .int .i64 e.v.author, .nils, .int .i64 e.v.digest]) [(4, rdB (c.take 2000) q3)] := hE
      (repeat (any_goals (first | refine st ?_ | ((first | refine go2 fun xe hxe => ?_ | with_reducible refine cnd_d (fun hq => ?_) fun hq => ?_) <;> conv => whnf) | ((with_reducible refine cnd_i (fun hq => ?_) fun hq => ?_) <;> ((try simp only [hqs] at hq) <;> (first | omega | conv => whnf))) | refine cr (open_c _) ?_ | refine cr (hw) ?_ | refine cr (hnc) ?_ | refine cr (hW) ?_ | refine co (hE) ?_)))
      exact ⟨rfl, rfl⟩
  · refine ⟨(w, z, e), ⟨h3.sm, e3, e4⟩, ?_⟩
    refine con_eq Θ_ok Tryz.func24 rfl rfl true 0 4 rfl rfl rfl rfl fun K hK hb1 hb2 => ?_; simp only [argsV, enc, Nat.reduceAdd]
    clear hb1 hb2
    cases z with
    | false =>
      have hE : ConV Tryz.prog 37 [.ptr 4 0, wrlA w] [(4, rdB (c.take 2000) q)] (evtA e) [(4, rdB (c.take 2000) q3)] := hE
      (repeat (any_goals (first | refine st ?_ | ((first | refine go2 fun xe hxe => ?_ | with_reducible refine cnd_d (fun hq => ?_) fun hq => ?_) <;> conv => whnf) | ((with_reducible refine cnd_i (fun hq => ?_) fun hq => ?_) <;> ((try simp only [hqs] at hq) <;> (first | omega | conv => whnf))) | refine cr (open_c _) ?_ | refine cr (hw) ?_ | refine cr (hnc) ?_ | refine co (hE) ?_)))
      exact ⟨rfl, rfl⟩
    | true =>
      have hE : ConV Tryz.prog 37 [.ptr 4 0, wrlA w] [(4, rdB (c.take 2000) q)] (.agg [.int .i64 e.kind, .int .i64 e.a, .int .i64 e.b, .int .i64 e.v.round, .int .i64 e.v.author, .nils, .int .i64 e.v.digest]) [(4, rdB (c.take 2000) q3)] := hE
      (repeat (any_goals (first | refine st ?_ | ((first | refine go2 fun xe hxe => ?_ | with_reducible refine cnd_d (fun hq => ?_) fun hq => ?_) <;> conv => whnf) | ((with_reducible refine cnd_i (fun hq => ?_) fun hq => ?_) <;> ((try simp only [hqs] at hq) <;> (first | omega | conv => whnf))) | refine cr (open_c _) ?_ | refine cr (hw) ?_ | refine cr (hnc) ?_ | refine co (hE) ?_)))
      exact ⟨rfl, rfl⟩
end Go.Proofs.YticiffgklmjfnaaGreat.Am
