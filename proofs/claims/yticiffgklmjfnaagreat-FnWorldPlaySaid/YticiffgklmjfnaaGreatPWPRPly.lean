/- Runs: quorums meet; what is held of valid runs. Runs: what single events leave (plain laws). The laws of runs: what is proposed, voted for, certified. The laws of runs: single events, repeated, unknown, and what they keep. FnWorldPlay's law holds: it returns true for all bytes, and leaves its arguments as they were. -/
import Derived.Test.YticiffgklmjfnaaGreatRows
import Derived.Test.YticiffgklmjfnaaGreatPW10
namespace Go.Proofs.YticiffgklmjfnaaGreat.Am
set_option linter.unusedSimpArgs false
set_option linter.unusedVariables false
open Go
def comm (a b : List Int) : List Int := a.filter fun m => b.contains m
end Go.Proofs.YticiffgklmjfnaaGreat.Am
namespace Go.Proofs.YticiffgklmjfnaaGreat.Am
set_option linter.unusedSimpArgs false
set_option linter.unusedVariables false
open Go
theorem prop_cnt {w : Wrl} {i m : Int} (hi : inP w i = true) : inP (sCnt w i m) i = true ∧ prop (sCnt w i m) i = ⟨(prop w i).v, insM (prop w i).members m⟩ := by
  obtain ⟨h1, h2, -⟩ := prop_at hi
  refine ⟨by simpa [inP, sCnt] using hi, ?_⟩
  show (w.props.set i.toNat _).getD i.toNat p0 = _
  rw [getD_set h1, if_pos rfl]
theorem rep_cnt {w : Wrl} (hw : WOK w) {i m : Int} (hi : inP w i = true) : sCnt (sCnt w i m) i m = sCnt w i m := by
  obtain ⟨h1, h2⟩ := prop_cnt (m := m) hi
  obtain ⟨-, -, hp⟩ := prop_at hi
  refine cnt_same h1 ?_ ?_
  · rw [h2]
    exact insM_asc (mems_asc (one_of hw hp).2)
  · rw [h2]
    exact insM_mem.2 (.inl rfl)
theorem rep_do {w : Wrl} (hw : WOK w) {e : Evt} (hk : e.kind = 2 ∨ e.kind = 3 ∨ e.kind = 5) : sDo (sDo w e) e = sDo w e := by
  rcases hk with h | h | h
  · have hd : ∀ w, sDo w e = sVot w e.a e.b := fun w => by unfold sDo; rw [if_neg (by omega), if_pos h]
    rw [hd, hd]
    cases hb : votB w e.a e.b
    · have : sVot w e.a e.b = w := by unfold sVot; rw [hb]; rfl
      rw [this, this]
    · have : sVot w e.a e.b = sCnt w e.b e.a := by unfold sVot; rw [hb]; rfl
      rw [this]
      have hi : inP w e.b = true := by
        unfold votB at hb
        simp only [Bool.and_eq_true] at hb
        exact hb.2.1
      unfold sVot
      split
      · exact rep_cnt hw hi
      · rfl
  · have hd : ∀ w, sDo w e = sDel w e.a e.b := fun w => by unfold sDo; rw [if_neg (by omega), if_neg (by omega), if_pos h]
    rw [hd, hd]
    cases hb : delB w e.a e.b
    · have : sDel w e.a e.b = w := by unfold sDel; rw [hb]; rfl
      rw [this, this]
    · have hs : sDel w e.a e.b = { w with views := w.views.set e.a.toNat (insV (view w e.a) (prop w e.b).v) } := by unfold sDel; rw [hb]; rfl
      have hg : good w e.a = true := by
        unfold delB at hb
        simp only [Bool.and_eq_true] at hb
        exact hb.1
      obtain ⟨-, -, hvl⟩ := hw.view hg
      have hv : view (sDel w e.a e.b) e.a = insV (view w e.a) (prop w e.b).v := by
        rw [hs]
        show (w.views.set e.a.toNat _).getD e.a.toNat [] = _
        rw [getD_set hvl, if_pos rfl]
      have hp : prop (sDel w e.a e.b) e.b = prop w e.b := by rw [hs]; rfl
      have hf : delB (sDel w e.a e.b) e.a e.b = false := by
        have : hasV (insV (view w e.a) (prop w e.b).v) (prop w e.b).v.round (prop w e.b).v.author = true := hasV_iff.2 ⟨_, insV_mem.2 (.inl rfl), rfl, rfl⟩
        unfold delB
        rw [hv, hp, this]
        simp
      generalize sDel w e.a e.b = u at *
      unfold sDel
      rw [hf]
      rfl
  · have hd : ∀ w, sDo w e = sBad w e.b := fun w => by unfold sDo; rw [if_neg (by omega), if_neg (by omega), if_neg (by omega), if_neg (by omega), if_pos h]
    rw [hd, hd]
    cases hb : badB w e.b
    · have : sBad w e.b = w := by unfold sBad; rw [hb]; rfl
      rw [this, this]
    · have hs : sBad w e.b = sCnt w e.b w.bad := by unfold sBad; rw [hb]; rfl
      have hi : inP w e.b = true := by
        unfold badB at hb
        simp only [Bool.and_eq_true] at hb
        exact hb.2
      rw [hs]
      unfold sBad
      split
      · exact rep_cnt hw hi
      · rfl
theorem unk_1 {w : Wrl} {e : Evt} (h : 6 ≤ e.kind) : sDo w e = w := by
  unfold sDo
  rw [if_neg (by omega), if_neg (by omega), if_neg (by omega), if_neg (by omega), if_neg (by omega)]
theorem unk_2 {w : Wrl} {e : Evt} (h : e.kind = 2) (h2 : e.a = w.com.length) : sDo w e = w := by
  have hg : good w e.a = false := by
    rw [Bool.eq_false_iff]
    intro hg
    have := (good_iff.1 hg).1
    omega
  have : votB w e.a e.b = false := by unfold votB; rw [hg]; rfl
  unfold sDo sVot
  rw [if_neg (by omega), if_pos h, this]
  rfl
theorem unk_3 {w : Wrl} {e : Evt} (h : e.kind = 3) (h2 : (w.props.length : Int) ≤ e.b) : sDo w e = w := by
  have hi : inP w e.b = false := by
    rw [Bool.eq_false_iff]
    intro hi
    have := vIn_iff.1 hi
    omega
  have : delB w e.a e.b = false := by unfold delB; rw [hi]; simp
  unfold sDo sDel
  rw [if_neg (by omega), if_neg (by omega), if_pos h, this]
  rfl
theorem comm_self {a b : List Int} (h : ∀ m ∈ a, m ∈ b) : comm a b = a := List.filter_eq_self.2 fun m hm => by simpa using h m hm
theorem insM_len : ∀ (l : List Int) (m : Int), (insM l m).length = l.length + (if m ∈ l then 0 else 1) ∨ (insM l m).length = l.length + 1
  | [], m => .inr rfl
  | x :: l, m => by
    unfold insM
    split
    · rename_i h
      rcases insM_len l m with ih | ih
      · by_cases hm : m ∈ l
        · rw [if_pos hm] at ih
          exact .inl (by rw [if_pos (by simp [hm])]; simp [ih])
        · rw [if_neg hm] at ih
          exact .inr (by simp [ih])
      · exact .inr (by simp [ih])
    · split
      · rename_i h
        exact .inl (by rw [if_pos (by simp [h])]; simp)
      · exact .inr rfl
theorem pro_facts {w : Wrl} (_ : WOK w) (e : Evt) : ∃ (i0 d n : Nat), n + d ≤ 1 ∧ (sDo w e).props.length = w.props.length + n ∧ ∀ (k : Nat) (p : Ppl), w.props[k]? = some p → ∃ l, (sDo w e).props[k]? = some ⟨p.v, l⟩ ∧ (∀ m ∈ p.members, m ∈ l) ∧ l.length = p.members.length + (if k = i0 then d else 0) := by
  have same : ∀ u : Wrl, u.props = w.props → ∃ (i0 d n : Nat), n + d ≤ 1 ∧ u.props.length = w.props.length + n ∧ ∀ (k : Nat) (p : Ppl), w.props[k]? = some p → ∃ l, u.props[k]? = some ⟨p.v, l⟩ ∧ (∀ m ∈ p.members, m ∈ l) ∧ l.length = p.members.length + (if k = i0 then d else 0) := fun u hu =>
    ⟨0, 0, 0, by omega, by rw [hu]; rfl, fun k p hp => ⟨p.members, by rw [hu]; exact hp, fun _ h => h, by simp⟩⟩
  have app : ∀ v, ∃ (i0 d n : Nat), n + d ≤ 1 ∧ (addP w v).props.length = w.props.length + n ∧ ∀ (k : Nat) (p : Ppl), w.props[k]? = some p → ∃ l, (addP w v).props[k]? = some ⟨p.v, l⟩ ∧ (∀ m ∈ p.members, m ∈ l) ∧ l.length = p.members.length + (if k = i0 then d else 0) := fun v =>
    ⟨0, 0, 1, by omega, by simp [addP], fun k p hp => ⟨p.members, by show (w.props ++ _)[k]? = _; rw [List.getElem?_append_left (List.getElem?_eq_some_iff.1 hp).1]; exact hp, fun _ h => h, by simp⟩⟩
  have cnt : ∀ i m, inP w i = true → ∃ (i0 d n : Nat), n + d ≤ 1 ∧ (sCnt w i m).props.length = w.props.length + n ∧ ∀ (k : Nat) (p : Ppl), w.props[k]? = some p → ∃ l, (sCnt w i m).props[k]? = some ⟨p.v, l⟩ ∧ (∀ m ∈ p.members, m ∈ l) ∧ l.length = p.members.length + (if k = i0 then d else 0) := fun i m hi => by
    obtain ⟨h1, h2, -⟩ := prop_at hi
    obtain ⟨d, hd, hl⟩ : ∃ d, d ≤ 1 ∧ (insM (prop w i).members m).length = (prop w i).members.length + d := by
      rcases insM_len (prop w i).members m with h | h
      · split at h
        · exact ⟨0, by omega, h⟩
        · exact ⟨1, by omega, h⟩
      · exact ⟨1, by omega, h⟩
    refine ⟨i.toNat, d, 0, by omega, by simp [sCnt], fun k p hp => ?_⟩
    show ∃ l, (w.props.set i.toNat _)[k]? = _ ∧ _
    rw [List.getElem?_set]
    by_cases e : i.toNat = k
    · subst e
      rw [h2] at hp
      obtain rfl := Option.some.inj hp
      rw [if_pos rfl, if_pos h1, if_pos rfl]
      exact ⟨_, rfl, fun x hx => insM_mem.2 (.inr hx), hl⟩
    · rw [if_neg e, if_neg (Ne.symm e)]
      exact ⟨p.members, hp, fun _ h => h, rfl⟩
  unfold sDo
  split
  · unfold sPrp
    split
    · exact app _
    · exact same _ rfl
  split
  · unfold sVot
    split
    · rename_i hb
      unfold votB at hb
      simp only [Bool.and_eq_true] at hb
      exact cnt _ _ hb.2.1
    · exact same _ rfl
  split
  · unfold sDel
    split
    · exact same _ rfl
    · exact same _ rfl
  split
  · unfold sFrg
    split
    · exact app _
    · exact same _ rfl
  split
  · unfold sBad
    split
    · rename_i hb
      unfold badB at hb
      simp only [Bool.and_eq_true] at hb
      exact cnt _ _ hb.2
    · exact same _ rfl
  · exact same _ rfl
end Go.Proofs.YticiffgklmjfnaaGreat.Am
namespace Go.Proofs.YticiffgklmjfnaaGreat.Am
set_option linter.unusedSimpArgs false
set_option linter.unusedVariables false
open Go
attribute [local irreducible] Mk Need Ari Get Idx Cnd CallM CallA Opt Unch At ConV
set_option maxRecDepth 10000
theorem com_c (a b : List Int) (hl : a.length ≤ 1000000) : ConV Tryz.prog 22 [.lst (.int .i64) a, .lst (.int .i64) b] [] (.lst (.int .i64) (comm a b)) [] := by
  refine con_eq Θ_ok Tryz.func22 rfl rfl true 0 4 rfl rfl rfl rfl fun K hK hb1 hb2 => ?_; simp only [argsV, enc, Nat.reduceAdd]
  clear hb1 hb2
  (repeat (any_goals (first | refine st ?_ | ((first | refine go2 fun xe hxe => ?_ | with_reducible refine cnd_d (fun hq => ?_) fun hq => ?_) <;> conv => whnf) | ((with_reducible refine cnd_i (fun hq => ?_) fun hq => ?_) <;> ((try simp only [hqs] at hq) <;> (first | omega | conv => whnf))))))
  (try any_goals (first | exact absurd trivial hq | exact absurd rfl hq | exact absurd hq (by omega) | (exfalso; simp at hq; done)))
  refine at_loop hK [] [0, 1, 5, 6] (fun i : Nat => ⟨[(0, .lst (.int .i64) a), (1, .lst (.int .i64) b), (5, .ref 4), (6, .int .i64 (i : Int))], [(4, .row 3 (.int .i64) (comm (a.take i) b))], 5⟩) (fun i => i ≤ a.length) (fun i => a.length - i) 0 (by simp) rfl ?_
  intro i hi
  by_cases hlt : i < a.length
  · have hx : a[i]? = some a[i] := List.getElem?_eq_getElem hlt
    have hsn : comm (a.take (i + 1)) b = if b.contains a[i] then comm (a.take i) b ++ [a[i]] else comm (a.take i) b := by
      unfold comm
      rw [List.take_succ_eq_append_getElem hlt, List.filter_append, List.filter_cons, List.filter_nil]
      split <;> simp
    have hll : (comm (a.take i) b).length ≤ i := Nat.le_trans (List.length_filter_le _ _) (by rw [List.length_take]; omega)
    generalize a[i] = x at *
    have hH := hasI_c b x
    generalize comm (a.take i) b = r at *
    cases h : b.contains x
    · rw [h] at hH hsn
      (repeat (any_goals (first | refine st ?_ | ((first | refine go2 fun xe hxe => ?_ | with_reducible refine cnd_d (fun hq => ?_) fun hq => ?_) <;> conv => whnf) | ((with_reducible refine cnd_i (fun hq => ?_) fun hq => ?_) <;> ((try simp only [hqs] at hq) <;> (first | omega | conv => whnf))) | refine cr (hH) ?_)))
      (try any_goals (first | exact absurd trivial hq | exact absurd rfl hq | exact absurd hq (by omega) | (exfalso; simp at hq; done)))
      exact ⟨i + 1, by omega, by omega, by rw [hsn]; rfl⟩
    · rw [h] at hH hsn
      (repeat (any_goals (first | refine st ?_ | ((first | refine go2 fun xe hxe => ?_ | with_reducible refine cnd_d (fun hq => ?_) fun hq => ?_) <;> conv => whnf) | ((with_reducible refine cnd_i (fun hq => ?_) fun hq => ?_) <;> ((try simp only [hqs] at hq) <;> (first | omega | conv => whnf))) | refine cr (hH) ?_)))
      (try any_goals (first | exact absurd trivial hq | exact absurd rfl hq | exact absurd hq (by omega) | (exfalso; simp at hq; done)))
      exact ⟨i + 1, by omega, by omega, by rw [hsn]; rfl⟩
  · (repeat (any_goals (first | refine st ?_ | ((first | refine go2 fun xe hxe => ?_ | with_reducible refine cnd_d (fun hq => ?_) fun hq => ?_) <;> conv => whnf) | ((with_reducible refine cnd_i (fun hq => ?_) fun hq => ?_) <;> ((try simp only [hqs] at hq) <;> (first | omega | conv => whnf))))))
    (try any_goals (first | exact absurd trivial hq | exact absurd rfl hq | exact absurd hq (by omega) | (exfalso; simp at hq; done)))
    rw [List.take_of_length_le (by omega)]
    exact ⟨rfl, rfl⟩
end Go.Proofs.YticiffgklmjfnaaGreat.Am
namespace Go.Proofs.YticiffgklmjfnaaGreat.Am
set_option linter.unusedSimpArgs false
set_option linter.unusedVariables false
open Go
attribute [local irreducible] Mk Need Ari Get Idx Cnd CallM CallA Opt Unch At ConV
set_option maxRecDepth 10000
theorem ddp_c (c : List Int) (hc : ∀ x ∈ c, 0 ≤ x ∧ x ≤ 255) : ∃ (w : Wrl) (kd a b rd au dg : Int) (ps : List Int) (pz : V), WSm w ∧ ps.length ≤ 30 ∧ (pz = .lst (.int .i64) ps ∨ (pz = .nils ∧ ps = [])) ∧ ConV Tryz.prog 24 [.lst (.int .u8) c] [] (.tup [wrlA w, .agg [.int .i64 kd, .int .i64 a, .int .i64 b, .int .i64 rd, .int .i64 au, pz, .int .i64 dg]]) [] := by
  obtain ⟨⟨w, z, ⟨kd, a, b, ⟨rd, au, ps, dg⟩⟩⟩, ⟨hw, he1, he2⟩, hd⟩ := ddo_c c hc
  dsimp only at hw he1 he2 hd
  cases z with
  | false => exact ⟨w, kd, a, b, rd, au, dg, ps, _, hw, he1, .inl rfl, hd⟩
  | true => exact ⟨w, kd, a, b, rd, au, dg, ps, _, hw, he1, .inr ⟨rfl, he2 rfl⟩, hd⟩
theorem idp_c {w : Wrl} (hw : WSm w) (kd a b rd au dg : Int) (ps : List Int) : ConV Tryz.prog 25 [wrlA w, .agg [.int .i64 kd, .int .i64 a, .int .i64 b, .int .i64 rd, .int .i64 au, .lst (.int .i64) ps, .int .i64 dg]] [] (if wrlS w then wrlA (sDo w ⟨kd, a, b, ⟨rd, au, ps, dg⟩⟩) else wrlZ) [] :=
  ido_c w ⟨kd, a, b, ⟨rd, au, ps, dg⟩⟩ (fun g hg => by have := hw.2 g hg; omega)
theorem sdp_c {w : Wrl} (hw : WSm w) (kd a b rd au dg : Int) {ps : List Int} (hl : ps.length ≤ 30) : ConV Tryz.prog 26 [wrlA w, .agg [.int .i64 kd, .int .i64 a, .int .i64 b, .int .i64 rd, .int .i64 au, .lst (.int .i64) ps, .int .i64 dg]] [] (if wrlS w then wrlA (sDo w ⟨kd, a, b, ⟨rd, au, ps, dg⟩⟩) else wrlZ) [] :=
  swdo_c w ⟨kd, a, b, ⟨rd, au, ps, dg⟩⟩ (by have := hw.1; omega) (by dsimp only; omega)
theorem lawRep_c (c : List Int) (hc : ∀ x ∈ c, 0 ≤ x ∧ x ≤ 255) : ConV Tryz.prog 9 [.lst (.int .u8) c] [] (.bool true) [] := by
  obtain ⟨w, kd, a, b, rd, au, dg, ps, pz, hw, hpl, hpz, hd⟩ := ddp_c c hc
  have hI := idp_c hw kd a b rd au dg ps
  have hS := sdp_c hw kd a b rd au dg hpl
  have hV := swV_c w (by have := hw.1; omega)
  refine con_eq Θ_ok Tryz.func9 rfl rfl false 0 4 rfl rfl rfl rfl fun K hK hb1 hb2 => ?_; simp only [argsV, enc, Nat.reduceAdd]
  clear hb1 hb2
  by_cases hl : 1048576 < (c.length : Int)
  · (repeat (any_goals (first | refine st ?_ | ((first | refine go2 fun xe hxe => ?_ | with_reducible refine cnd_d (fun hq => ?_) fun hq => ?_) <;> conv => whnf) | ((with_reducible refine cnd_i (fun hq => ?_) fun hq => ?_) <;> ((try simp only [hqs] at hq) <;> (first | omega | conv => whnf))))))
    (try any_goals (first | exact absurd trivial hq | exact absurd rfl hq | exact absurd hq (by omega) | (exfalso; simp at hq; done)))
    exact ⟨rfl, rfl⟩
  cases hs : wrlS w
  · simp only [hs, Bool.false_eq_true, if_false] at hI hS
    rw [hs] at hV
    rcases hpz with rfl | ⟨rfl, rfl⟩ <;> ((repeat (any_goals (first | refine st ?_ | ((first | refine go2 fun xe hxe => ?_ | with_reducible refine cnd_d (fun hq => ?_) fun hq => ?_) <;> conv => whnf) | ((with_reducible refine cnd_i (fun hq => ?_) fun hq => ?_) <;> ((try simp only [hqs] at hq) <;> (first | omega | conv => whnf))) | refine cr (hd) ?_ | refine cr (hI) ?_ | refine cr (hS) ?_ | refine cr (hV) ?_ | refine cr (sWrl_z) ?_))); exact ⟨rfl, rfl⟩)
  · simp only [hs, if_true] at hI hS
    rw [hs] at hV
    have hok := wok_iff.1 hs
    have hE := sWrl_e (sDo w ⟨kd, a, b, ⟨rd, au, ps, dg⟩⟩)
    have hok2 := sDo_ok hok ⟨kd, a, b, ⟨rd, au, ps, dg⟩⟩
    have hI2 := idp_c hok2.sm kd a b rd au dg ps
    rw [if_pos (wok_iff.2 hok2)] at hI2
    by_cases hk : kd = 2 ∨ kd = 3 ∨ kd = 5
    · rw [rep_do hok hk] at hI2
      generalize sDo w _ = u at *
      rcases hpz with rfl | ⟨rfl, rfl⟩ <;> ((repeat (any_goals (first | refine st ?_ | ((first | refine go2 fun xe hxe => ?_ | with_reducible refine cnd_d (fun hq => ?_) fun hq => ?_) <;> conv => whnf) | ((with_reducible refine cnd_i (fun hq => ?_) fun hq => ?_) <;> ((try simp only [hqs] at hq) <;> (first | omega | conv => whnf))) | refine cr (hd) ?_ | refine cr (hI) ?_ | refine cr (hS) ?_ | refine cr (hV) ?_ | refine cr (hE) ?_ | refine cr (hI2) ?_))); all_goals exact ⟨rfl, rfl⟩)
    · generalize sDo w _ = u at *
      rcases hpz with rfl | ⟨rfl, rfl⟩ <;> ((repeat (any_goals (first | refine st ?_ | ((first | refine go2 fun xe hxe => ?_ | with_reducible refine cnd_d (fun hq => ?_) fun hq => ?_) <;> conv => whnf) | ((with_reducible refine cnd_i (fun hq => ?_) fun hq => ?_) <;> ((try simp only [hqs] at hq) <;> (first | omega | conv => whnf))) | refine cr (hd) ?_ | refine cr (hI) ?_ | refine cr (hS) ?_ | refine cr (hV) ?_ | refine cr (hE) ?_))); exact ⟨rfl, rfl⟩)
theorem lawUnk_c (c d : List Int) (hc : ∀ x ∈ c, 0 ≤ x ∧ x ≤ 255) (_ : ∀ x ∈ d, 0 ≤ x ∧ x ≤ 255) : ConV Tryz.prog 10 [.lst (.int .u8) c, .lst (.int .u8) d] [] (.bool true) [] := by
  obtain ⟨w, kd, a, b, rd, au, dg, ps, pz, hw, hpl, hpz, hd⟩ := ddp_c c hc
  have hI := idp_c hw kd a b rd au dg ps
  have hS := sdp_c hw kd a b rd au dg hpl
  have hV := swV_c w (by have := hw.1; omega)
  refine con_eq Θ_ok Tryz.func10 rfl rfl false 0 4 rfl rfl rfl rfl fun K hK hb1 hb2 => ?_; simp only [argsV, enc, Nat.reduceAdd]
  clear hb1 hb2
  by_cases hl : 1048576 < (c.length : Int)
  · (repeat (any_goals (first | refine st ?_ | ((first | refine go2 fun xe hxe => ?_ | with_reducible refine cnd_d (fun hq => ?_) fun hq => ?_) <;> conv => whnf) | ((with_reducible refine cnd_i (fun hq => ?_) fun hq => ?_) <;> ((try simp only [hqs] at hq) <;> (first | omega | conv => whnf))))))
    (try any_goals (first | exact absurd trivial hq | exact absurd rfl hq | exact absurd hq (by omega) | (exfalso; simp at hq; done)))
    exact ⟨rfl, rfl⟩
  by_cases hl2 : 1048576 < (d.length : Int)
  · (repeat (any_goals (first | refine st ?_ | ((first | refine go2 fun xe hxe => ?_ | with_reducible refine cnd_d (fun hq => ?_) fun hq => ?_) <;> conv => whnf) | ((with_reducible refine cnd_i (fun hq => ?_) fun hq => ?_) <;> ((try simp only [hqs] at hq) <;> (first | omega | conv => whnf))))))
    (try any_goals (first | exact absurd trivial hq | exact absurd rfl hq | exact absurd hq (by omega) | (exfalso; simp at hq; done)))
    exact ⟨rfl, rfl⟩
  cases hs : wrlS w
  · simp only [hs, Bool.false_eq_true, if_false] at hI hS
    rw [hs] at hV
    rcases hpz with rfl | ⟨rfl, rfl⟩ <;> ((repeat (any_goals (first | refine st ?_ | ((first | refine go2 fun xe hxe => ?_ | with_reducible refine cnd_d (fun hq => ?_) fun hq => ?_) <;> conv => whnf) | ((with_reducible refine cnd_i (fun hq => ?_) fun hq => ?_) <;> ((try simp only [hqs] at hq) <;> (first | omega | conv => whnf))) | refine cr (hd) ?_ | refine cr (hI) ?_ | refine cr (hS) ?_ | refine cr (hV) ?_ | refine cr (sWrl_z) ?_))); exact ⟨rfl, rfl⟩)
  · simp only [hs, if_true] at hI hS
    rw [hs] at hV
    have hok := wok_iff.1 hs
    have hE := sWrl_e (sDo w ⟨kd, a, b, ⟨rd, au, ps, dg⟩⟩)
    have hE2 := sWrl_e w
    have hI2 := fun k x y => idp_c hw k x y 0 0 0 []
    simp only [if_pos hs] at hI2
    have hX1 : ∀ k : Int, 6 ≤ k → ConV Tryz.prog 25 [wrlA w, .agg [.int .i64 k, .int .i64 0, .int .i64 0, .int .i64 0, .int .i64 0, .lst (.int .i64) [], .int .i64 0]] [] (wrlA w) [] := fun k hk => by
      have := hI2 k 0 0
      rw [unk_1 hk] at this
      exact this
    have hX2 : ConV Tryz.prog 25 [wrlA w, .agg [.int .i64 2, .int .i64 w.com.length, .int .i64 0, .int .i64 0, .int .i64 0, .lst (.int .i64) [], .int .i64 0]] [] (wrlA w) [] := by
      have := hI2 2 w.com.length 0
      rw [unk_2 rfl rfl] at this
      exact this
    have hX3 : ∀ k : Int, w.props.length ≤ k → ConV Tryz.prog 25 [wrlA w, .agg [.int .i64 3, .int .i64 0, .int .i64 k, .int .i64 0, .int .i64 0, .lst (.int .i64) [], .int .i64 0]] [] (wrlA w) [] := fun k hk => by
      have := hI2 3 0 k
      rw [unk_3 rfl hk] at this
      exact this
    have h5 : 0 ≤ (d.length : Int).tmod 5 ∧ (d.length : Int).tmod 5 < 5 := by rw [Int.tmod_eq_emod_of_nonneg (by omega)]; omega
    have h3 : 0 ≤ (d.length : Int).tmod 3 ∧ (d.length : Int).tmod 3 < 3 := by rw [Int.tmod_eq_emod_of_nonneg (by omega)]; omega
    have hpl := hok.plen
    generalize sDo w _ = u at *
    rcases hpz with rfl | ⟨rfl, rfl⟩ <;> ((repeat (any_goals (first | refine st ?_ | ((first | refine go2 fun xe hxe => ?_ | with_reducible refine cnd_d (fun hq => ?_) fun hq => ?_) <;> conv => whnf) | ((with_reducible refine cnd_i (fun hq => ?_) fun hq => ?_) <;> ((try simp only [hqs] at hq) <;> (first | omega | conv => whnf))) | refine cr (hd) ?_ | refine cr (hI) ?_ | refine cr (hS) ?_ | refine cr (hV) ?_ | refine cr (hE) ?_ | refine cr (hE2) ?_ | refine cr (hX2) ?_ | ((with_reducible refine call_r ?_); (conv => whnf); (first | with_reducible refine call_i (hX1 _ (by omega)) ?_ | with_reducible refine call_i (hX3 _ (by omega)) ?_); conv => whnf)))); exact ⟨rfl, rfl⟩)
theorem lawKee_c (c : List Int) (hc : ∀ x ∈ c, 0 ≤ x ∧ x ≤ 255) : ConV Tryz.prog 11 [.lst (.int .u8) c] [] (.bool true) [] := by
  obtain ⟨w, kd, a, b, rd, au, dg, ps, pz, hw, hpl, hpz, hd⟩ := ddp_c c hc
  have hI := idp_c hw kd a b rd au dg ps
  have hS := sdp_c hw kd a b rd au dg hpl
  have hV := swV_c w (by have := hw.1; omega)
  refine con_eq Θ_ok Tryz.func11 rfl rfl false 0 4 rfl rfl rfl rfl fun K hK hb1 hb2 => ?_; simp only [argsV, enc, Nat.reduceAdd]
  clear hb1 hb2
  by_cases hl : 1048576 < (c.length : Int)
  · (repeat (any_goals (first | refine st ?_ | ((first | refine go2 fun xe hxe => ?_ | with_reducible refine cnd_d (fun hq => ?_) fun hq => ?_) <;> conv => whnf) | ((with_reducible refine cnd_i (fun hq => ?_) fun hq => ?_) <;> ((try simp only [hqs] at hq) <;> (first | omega | conv => whnf))))))
    (try any_goals (first | exact absurd trivial hq | exact absurd rfl hq | exact absurd hq (by omega) | (exfalso; simp at hq; done)))
    exact ⟨rfl, rfl⟩
  cases hs : wrlS w
  · simp only [hs, Bool.false_eq_true, if_false] at hI hS
    rw [hs] at hV
    rcases hpz with rfl | ⟨rfl, rfl⟩ <;> ((repeat (any_goals (first | refine st ?_ | ((first | refine go2 fun xe hxe => ?_ | with_reducible refine cnd_d (fun hq => ?_) fun hq => ?_) <;> conv => whnf) | ((with_reducible refine cnd_i (fun hq => ?_) fun hq => ?_) <;> ((try simp only [hqs] at hq) <;> (first | omega | conv => whnf))) | refine cr (hd) ?_ | refine cr (hI) ?_ | refine cr (hS) ?_ | refine cr (hV) ?_ | refine cr (sWrl_z) ?_))); exact ⟨rfl, rfl⟩)
  · simp only [hs, if_true] at hI hS
    rw [hs] at hV
    have hok := wok_iff.1 hs
    have hE := sWrl_e (sDo w ⟨kd, a, b, ⟨rd, au, ps, dg⟩⟩)
    have hok2 := sDo_ok hok ⟨kd, a, b, ⟨rd, au, ps, dg⟩⟩
    have hX := iwV_c _ (fun g hg => by have := hok2.vl g hg; omega)
    rw [wok_iff.2 hok2] at hX
    generalize sDo w _ = u at *
    rcases hpz with rfl | ⟨rfl, rfl⟩ <;> ((repeat (any_goals (first | refine st ?_ | ((first | refine go2 fun xe hxe => ?_ | with_reducible refine cnd_d (fun hq => ?_) fun hq => ?_) <;> conv => whnf) | ((with_reducible refine cnd_i (fun hq => ?_) fun hq => ?_) <;> ((try simp only [hqs] at hq) <;> (first | omega | conv => whnf))) | refine cr (hd) ?_ | refine cr (hI) ?_ | refine cr (hS) ?_ | refine cr (hV) ?_ | refine cr (hE) ?_ | refine cr (hX) ?_))); exact ⟨rfl, rfl⟩)
def vts (i0 d i : Nat) : Int := if i0 < i then d else 0
theorem vts_0 (i0 d : Nat) : vts i0 d 0 = 0 := rfl
theorem vts_bd (i0 d i : Nat) : 0 ≤ vts i0 d i ∧ vts i0 d i ≤ d := by unfold vts; split <;> omega
theorem vts_s (i0 d i : Nat) {a b : Nat} (h : a = b + if i = i0 then d else 0) : vts i0 d (i + 1) = vts i0 d i + a - b := by
  unfold vts
  split at h <;> split <;> split <;> omega
theorem lawPrs_c (c : List Int) (hc : ∀ x ∈ c, 0 ≤ x ∧ x ≤ 255) : ConV Tryz.prog 12 [.lst (.int .u8) c] [] (.bool true) [] := by
  obtain ⟨w, kd, a, b, rd, au, dg, ps, pz, hw, hpl, hpz, hd⟩ := ddp_c c hc
  have hI := idp_c hw kd a b rd au dg ps
  have hS := sdp_c hw kd a b rd au dg hpl
  have hV := swV_c w (by have := hw.1; omega)
  refine con_eq Θ_ok Tryz.func12 rfl rfl false 0 4 rfl rfl rfl rfl fun K hK hb1 hb2 => ?_; simp only [argsV, enc, Nat.reduceAdd]
  clear hb1 hb2
  by_cases hl : 1048576 < (c.length : Int)
  · (repeat (any_goals (first | refine st ?_ | ((first | refine go2 fun xe hxe => ?_ | with_reducible refine cnd_d (fun hq => ?_) fun hq => ?_) <;> conv => whnf) | ((with_reducible refine cnd_i (fun hq => ?_) fun hq => ?_) <;> ((try simp only [hqs] at hq) <;> (first | omega | conv => whnf))))))
    (try any_goals (first | exact absurd trivial hq | exact absurd rfl hq | exact absurd hq (by omega) | (exfalso; simp at hq; done)))
    exact ⟨rfl, rfl⟩
  cases hs : wrlS w
  · simp only [hs, Bool.false_eq_true, if_false] at hI hS
    rw [hs] at hV
    rcases hpz with rfl | ⟨rfl, rfl⟩ <;> ((repeat (any_goals (first | refine st ?_ | ((first | refine go2 fun xe hxe => ?_ | with_reducible refine cnd_d (fun hq => ?_) fun hq => ?_) <;> conv => whnf) | ((with_reducible refine cnd_i (fun hq => ?_) fun hq => ?_) <;> ((try simp only [hqs] at hq) <;> (first | omega | conv => whnf))) | refine cr (hd) ?_ | refine cr (hI) ?_ | refine cr (hS) ?_ | refine cr (hV) ?_ | refine cr (sWrl_z) ?_))); exact ⟨rfl, rfl⟩)
  · simp only [hs, if_true] at hI hS
    rw [hs] at hV
    have hok := wok_iff.1 hs
    have hE := sWrl_e (sDo w ⟨kd, a, b, ⟨rd, au, ps, dg⟩⟩)
    have hpn := hok.plen
    have hmm := hok.mem
    obtain ⟨i0, dd, n, f1, f2, f3⟩ := pro_facts hok ⟨kd, a, b, ⟨rd, au, ps, dg⟩⟩
    generalize sDo w _ = u at *
    rcases hpz with rfl | ⟨rfl, rfl⟩ <;> (
      (repeat (any_goals (first | refine st ?_ | ((first | refine go2 fun xe hxe => ?_ | with_reducible refine cnd_d (fun hq => ?_) fun hq => ?_) <;> conv => whnf) | ((with_reducible refine cnd_i (fun hq => ?_) fun hq => ?_) <;> ((try simp only [hqs] at hq) <;> (first | omega | conv => whnf))) | refine cr (hd) ?_ | refine cr (hI) ?_ | refine cr (hS) ?_ | refine cr (hV) ?_ | refine cr (hE) ?_)))
      (try any_goals (first | exact absurd trivial hq | exact absurd rfl hq | exact absurd hq (by omega) | (exfalso; simp at hq; done)))
      refine at_loop hK [] [3, 5, 7, 8, 9] (fun i : Nat => ⟨[(3, .ptr 4 0), (5, .ptr 5 0), (7, .int .i64 (u.props.length - w.props.length)), (8, .int .i64 (vts i0 dd i)), (9, .int .i64 (i : Int))], [(4, .var 27 (wrlA w).cells), (5, .var 27 (wrlA u).cells)], 6⟩) (fun i => i ≤ w.props.length) (fun i => w.props.length - i) 0 (by simp) (by rw [vts_0]; rfl) ?_
      intro i hi
      have hz := vts_bd i0 dd i
      by_cases hlt : i < w.props.length
      · obtain ⟨p, hx⟩ : ∃ p, w.props[i]? = some p := ⟨_, List.getElem?_eq_getElem hlt⟩
        obtain ⟨q, hy, qv, qm, qn⟩ : ∃ q, u.props[i]? = some q ∧ q.v = p.v ∧ (∀ m ∈ p.members, m ∈ q.members) ∧ q.members.length = p.members.length + if i = i0 then dd else 0 := by
          obtain ⟨l, g1, g2, g3⟩ := f3 i _ hx
          exact ⟨_, g1, rfl, g2, g3⟩
        have hm1 := hmm _ (List.mem_of_getElem? hx)
        have hC := com_c p.members q.members (by omega)
        rw [comm_self qm] at hC
        have hV2 := sVtx_e p.v
        rw [show vtxA p.v = vtxA q.v from by rw [qv]] at hV2
        have hV3 : ConV Tryz.prog 20 [vtxA q.v, vtxA p.v] [] (.bool true) [] := by rw [← qv]; exact hV2
        have hsn := vts_s i0 dd i qn
        have hql : q.members.length ≤ 10 := by split at qn <;> omega
        generalize vts i0 dd i = z at *
        (repeat (any_goals (first | refine st ?_ | ((first | refine go2 fun xe hxe => ?_ | with_reducible refine cnd_d (fun hq => ?_) fun hq => ?_) <;> conv => whnf) | ((with_reducible refine cnd_i (fun hq => ?_) fun hq => ?_) <;> ((try simp only [hqs] at hq) <;> (first | omega | conv => whnf))) | refine cr (hV3) ?_ | refine cr (hC) ?_)))
        (try any_goals (first | exact absurd trivial hq | exact absurd rfl hq | exact absurd hq (by omega) | (exfalso; simp at hq; done)))
        exact ⟨i + 1, by omega, by omega, by rw [hsn]; rfl⟩
      · generalize vts i0 dd i = z at *
        (repeat (any_goals (first | refine st ?_ | ((first | refine go2 fun xe hxe => ?_ | with_reducible refine cnd_d (fun hq => ?_) fun hq => ?_) <;> conv => whnf) | ((with_reducible refine cnd_i (fun hq => ?_) fun hq => ?_) <;> ((try simp only [hqs] at hq) <;> (first | omega | conv => whnf))))))
        (try any_goals (first | exact absurd trivial hq | exact absurd rfl hq | exact absurd hq (by omega) | (exfalso; simp at hq; done)))
        exact ⟨congrArg V.bool (decide_eq_true (by omega)), rfl⟩)
theorem lawPly_c (c d : List Int) (hc : ∀ x ∈ c, 0 ≤ x ∧ x ≤ 255) (hdd : ∀ x ∈ d, 0 ≤ x ∧ x ≤ 255) : ConV Tryz.prog 13 [.lst (.int .u8) c, .lst (.int .u8) d] [] (.bool true) [] := by
  obtain ⟨⟨w, es⟩, ⟨hw, he1, he2⟩, hd⟩ := dpl_c c hc
  dsimp only at hw he1 he2 hd
  obtain ⟨w2, kd, a, b, rd, au, dg, ps, pz, hw2, hpl, hpz, hd2⟩ := ddp_c d hdd
  have hI := iply_c w es (fun g hg => by have := hw.vl g hg; omega) (by omega)
  have hS := swpl_c w es (by have := hw.len; omega) (by omega) (fun e he => by have := he2 e he; omega)
  have hI3 := iply_c w (es ++ [⟨kd, a, b, ⟨rd, au, ps, dg⟩⟩]) (fun g hg => by have := hw.vl g hg; omega) (by simp; omega)
  rw [wok_iff.2 hw, Bool.and_true] at hI hS hI3
  refine con_eq Θ_ok Tryz.func13 rfl rfl false 0 4 rfl rfl rfl rfl fun K hK hb1 hb2 => ?_; simp only [argsV, enc, Nat.reduceAdd]
  clear hb1 hb2
  by_cases hl : 1048576 < (c.length : Int)
  · (repeat (any_goals (first | refine st ?_ | ((first | refine go2 fun xe hxe => ?_ | with_reducible refine cnd_d (fun hq => ?_) fun hq => ?_) <;> conv => whnf) | ((with_reducible refine cnd_i (fun hq => ?_) fun hq => ?_) <;> ((try simp only [hqs] at hq) <;> (first | omega | conv => whnf))))))
    (try any_goals (first | exact absurd trivial hq | exact absurd rfl hq | exact absurd hq (by omega) | (exfalso; simp at hq; done)))
    exact ⟨rfl, rfl⟩
  by_cases hl2 : 1048576 < (d.length : Int)
  · (repeat (any_goals (first | refine st ?_ | ((first | refine go2 fun xe hxe => ?_ | with_reducible refine cnd_d (fun hq => ?_) fun hq => ?_) <;> conv => whnf) | ((with_reducible refine cnd_i (fun hq => ?_) fun hq => ?_) <;> ((try simp only [hqs] at hq) <;> (first | omega | conv => whnf))))))
    (try any_goals (first | exact absurd trivial hq | exact absurd rfl hq | exact absurd hq (by omega) | (exfalso; simp at hq; done)))
    exact ⟨rfl, rfl⟩
  by_cases h80 : es.length ≤ 80
  · rw [decide_eq_true h80] at hI hS
    simp only [if_true] at hI hS
    have hu := sPlay_ok hw es
    have hE := sWrl_e (sPlay w es)
    by_cases h79 : es.length = 80
    · generalize sPlay w es = u at *
      (repeat (any_goals (first | refine st ?_ | ((first | refine go2 fun xe hxe => ?_ | with_reducible refine cnd_d (fun hq => ?_) fun hq => ?_) <;> conv => whnf) | ((with_reducible refine cnd_i (fun hq => ?_) fun hq => ?_) <;> ((try simp only [hqs] at hq) <;> (first | omega | conv => whnf))) | refine cr (hd) ?_ | refine cr (hI) ?_ | refine cr (hS) ?_ | refine cr (hE) ?_)))
      (try any_goals (first | exact absurd trivial hq | exact absurd rfl hq | exact absurd hq (by omega) | (exfalso; simp at hq; done)))
      exact ⟨rfl, rfl⟩
    · rw [decide_eq_true (by simp; omega), sPlay_snoc] at hI3
      simp only [if_true] at hI3
      have hI2 := idp_c hu.sm kd a b rd au dg ps
      rw [if_pos (wok_iff.2 hu)] at hI2
      have hE2 := sWrl_e (sDo (sPlay w es) ⟨kd, a, b, ⟨rd, au, ps, dg⟩⟩)
      generalize sPlay w es = u at *
      generalize sDo u _ = u2 at *
      rcases hpz with rfl | ⟨rfl, rfl⟩ <;> ((repeat (any_goals (first | refine st ?_ | ((first | refine go2 fun xe hxe => ?_ | with_reducible refine cnd_d (fun hq => ?_) fun hq => ?_) <;> conv => whnf) | ((with_reducible refine cnd_i (fun hq => ?_) fun hq => ?_) <;> ((try simp only [hqs] at hq) <;> (first | omega | conv => whnf))) | refine cr (hd) ?_ | refine cr (hI) ?_ | refine cr (hS) ?_ | refine cr (hE) ?_ | refine cr (hd2) ?_))); ((with_reducible refine call_r ?_); (conv => whnf)); refine call_i hI3 ?_; (conv => whnf); (repeat (any_goals (first | refine st ?_ | ((first | refine go2 fun xe hxe => ?_ | with_reducible refine cnd_d (fun hq => ?_) fun hq => ?_) <;> conv => whnf) | ((with_reducible refine cnd_i (fun hq => ?_) fun hq => ?_) <;> ((try simp only [hqs] at hq) <;> (first | omega | conv => whnf))) | refine cr (hI2) ?_ | refine cr (hE2) ?_))); exact ⟨rfl, rfl⟩)
  · rw [decide_eq_false h80] at hI hS
    simp only [Bool.false_eq_true, if_false] at hI hS
    (repeat (any_goals (first | refine st ?_ | ((first | refine go2 fun xe hxe => ?_ | with_reducible refine cnd_d (fun hq => ?_) fun hq => ?_) <;> conv => whnf) | ((with_reducible refine cnd_i (fun hq => ?_) fun hq => ?_) <;> ((try simp only [hqs] at hq) <;> (first | omega | conv => whnf))) | refine cr (hd) ?_ | refine cr (hI) ?_ | refine cr (hS) ?_ | refine cr (sWrl_z) ?_)))
    (try any_goals (first | exact absurd trivial hq | exact absurd rfl hq | exact absurd hq (by omega) | (exfalso; simp at hq; done)))
    exact ⟨rfl, rfl⟩
end Go.Proofs.YticiffgklmjfnaaGreat.Am
namespace Go.Proofs.YticiffgklmjfnaaGreat.rowPly
set_option linter.unusedSimpArgs false
set_option linter.unusedVariables false
open Go Go.RowKit Go.ChangeShapes Go.WideShapes Go.ChangeAt Go.Proofs.YticiffgklmjfnaaGreat.Am
theorem own : ownKnob Tryz.prog.godebug = none := by kernel_rfl
theorem lay : laidOutB Tryz.prog = true := by kernel_rfl
theorem cells5 : Tryz.prog.cellsOf 5 = 1 := by kernel_rfl
set_option maxRecDepth 100000 in
theorem lifted (os : Os) (started : os.Started) (H : Type) (enc : TypeId × Value → H) :
    ReturnsInHanded {} Tryz.checked os 13 .any (Rows.fnWorldPlaySpec.pre6 enc Tryz.prog Tryz.f13 Rows.fnWorldPlayRow.domain false) (Rows.fnWorldPlaySpec.post enc Tryz.prog Tryz.f13 false true false false) := by
  refine returnsInHanded_of_change (C := Tryz.checked) own started (by kernel_rfl) Tryz.func13
    (ChangeSpec.witness6 (enc := enc) (C := Tryz.checked) false ⟨#[], #[.slice none 0 0, .slice none 0 0], []⟩ 8 (by kernel_rfl) (by kernel_rfl) (by kernel_rfl) (by kernel_rfl)) ?_
  intro W base args ds gs before hval hW _ _
  have hW' := hW
  obtain ⟨p, q, hA0, hV, rfl, hfz, hnd⟩ := hW
  have hA : DataW.TrodAll enc Tryz.prog W 0 (fun _ => true) true Tryz.f13.params.toList args.toList ds p := hA0
  rw [Tryz.params13] at hA hval
  obtain ⟨v0, vs0, d0, ds0, p0, q0, hargs, rfl, rfl, h0, r0⟩ := trodAll_cons hA
  obtain ⟨v1, vs1, d1, ds1, p1, q1, rfl, rfl, rfl, h1, r1⟩ := trodAll_cons r0
  obtain ⟨rfl, rfl, rfl⟩ := trodAll_nil r1
  obtain rfl : args = #[v0, v1] := by cases args; simp_all
  obtain ⟨rfl, rfl⟩ := trodVars_none hV
  obtain ⟨c0, hc0, hr0⟩ := bytes_arg Tryz.underlying22 Tryz.underlying5 cells5 (hval 0 _ v0 rfl rfl) h0
  obtain ⟨c1, hc1, hr1⟩ := bytes_arg Tryz.underlying22 Tryz.underlying5 cells5 (hval 1 _ v1 rfl rfl) h1
  clear hA0
  simp only [List.append_nil] at hW'
  refine (law_calls (lawPly_c c0 c1 hc0 hc1) rfl (fun i hi => ?_)).mono fun e W' ⟨he, hb⟩ => ?_
  · match i, hi with
    | 0, _ => exact hr0
    | 1, _ => exact hr1
  subst he
  have hlt : ∀ x ∈ p0 ++ p1, x.block < W.heap.size := fun x hx => hW'.lt x hx
  exact ⟨_, rfl, post_below (pa := p0 ++ p1) (pv := []) hW' (fun _ _ _ => trodAll_cons_mk (shut_bool Tryz.underlying4 _) trodAll_mk0)
    (fun sp hsp => trodAll_cons_mk (WideElems.Trod_stays lay (by kernel_rfl) (of_decide_eq_true (by kernel_rfl)) h0 (fun x hx => hb.same (hlt x (List.mem_append_left _ hx))) (fun x hx => hsp x (List.mem_append_left _ hx)))
      (trodAll_mk1 (WideElems.Trod_stays lay (by kernel_rfl) (of_decide_eq_true (by kernel_rfl)) h1 (fun x hx => hb.same (hlt x (List.mem_append_right _ hx))) (fun x hx => hsp x (List.mem_append_right _ hx)))))
    (fun _ _ => rfl) (by simp) hb (ok_one (by kernel_rfl) rfl (okWide_bool_mk Tryz.underlying4 _))⟩
theorem jA : (Rows.fnWorldPlayRow.inPlace == Tryz.pinned.checked.prog.inPlace 13) = true := by kernel_rfl
theorem jB : (Rows.fnWorldPlayRow.unfollowed == Tryz.pinned.checked.prog.unfollowed 13) = true := by kernel_rfl
theorem jC : (Rows.fnWorldPlayRow.recurses == Tryz.pinned.checked.prog.recurses 13) = true := by kernel_rfl
theorem jD : (Rows.fnWorldPlayRow.named == Tryz.pinned.checked.prog.varsNamed 13) = true := by kernel_rfl
theorem jE : Tryz.pinned.checked.prog.mayEnter = true := by kernel_rfl
theorem jF : (Rows.fnWorldPlayRow.lifted == Tryz.pinned.checked.prog.liftsFinal) = true := by kernel_rfl
theorem jG : (Tryz.pinned.checked.prog.make == some Rows.fnWorldPlayRow.make) = true := by kernel_rfl
theorem closed : joinedFacts Tryz.pinned.checked.prog 13 Tryz.f13 Rows.fnWorldPlaySpec Rows.fnWorldPlayRow = true := by
  unfold joinedFacts
  rw [jA, jB, jC, jD, jE, jF, jG]
  exact of_decide_eq_true (by kernel_rfl)
theorem holds : Rows.FnWorldPlaySaid :=
  OpenClaim.holds_of_wide 13 Tryz.f13 rfl rfl rfl rfl rfl rfl rfl ⟨rfl, rfl, rfl, rfl, rfl⟩ rfl rfl rfl rfl rfl (by kernel_rfl) Tryz.func13 closed
    (of_decide_eq_true (by kernel_rfl)) (by unfold Func.isWrapper; first | (rw [if_pos (by decide +kernel)]; kernel_rfl) | (rw [if_neg (by decide +kernel)]; exact ⟨rfl, rfl⟩))
    (fun os started H enc _ => lifted os started H enc)
#print axioms holds
end Go.Proofs.YticiffgklmjfnaaGreat.rowPly
