/- Runs: quorums meet; what is held of valid runs. The laws of runs: single events. FnWorldOthers's law holds: it returns true for all bytes, and leaves its argument as it was. -/
import Derived.Test.YticiffgklmjfnaaGreatRows
import Derived.Test.YticiffgklmjfnaaGreatPV10
namespace Go.Proofs.YticiffgklmjfnaaGreat.Am
set_option linter.unusedSimpArgs false
set_option linter.unusedVariables false
open Go
theorem fit_two {w : Wrl} (hw : WOK w) {i k : Nat} {p q : Ppl} (hk : k < i) (hp : w.props[i]? = some p) (hq : w.props[k]? = some q) (h1 : p.v.round = q.v.round) (h2 : p.v.author = q.v.author) : p.v.author = w.bad ∧ both w.bad p.members q.members = false := by
  have h := pw_get hw.fit hk hq hp
  unfold fitP at h
  rw [slt_iff.2 ⟨h1, h2⟩] at h
  have h : vEq p.v q.v = false ∧ p.v.author = w.bad ∧ both w.bad p.members q.members = false := by simpa using h
  exact h.2
theorem ins_wei {c : List Int} : ∀ {ms : List Int} {m : Int}, m ∉ ms → wei c (insM ms m) = wei c ms + c.getD m.toNat 0
  | [], m, _ => by simp [insM, wei]
  | x :: l, m, h => by
    simp only [List.mem_cons, not_or] at h
    unfold insM
    split
    · have := ins_wei (c := c) h.2
      simp only [wei, List.map_cons, List.sum_cons] at this ⊢
      omega
    · rw [if_neg fun e => h.1 e.symm]
      simp only [wei, List.map_cons, List.sum_cons]
      omega
theorem all_wei (c : List Int) : wei c ((List.range c.length).map fun i : Nat => (i : Int)) = tot c := by
  have : ((List.range c.length).map fun i : Nat => (i : Int)).map (fun m => c.getD m.toNat 0) = c := by
    apply List.ext_getElem?
    intro i
    simp only [List.map_map, List.getElem?_map]
    rcases Nat.lt_or_ge i c.length with h | h
    · rw [List.getElem?_range h, List.getElem?_eq_getElem h]
      simp [List.getD_eq_getElem?_getD, List.getElem?_eq_getElem h]
    · rw [List.getElem?_eq_none (by simpa using h), List.getElem?_eq_none h]
      rfl
  unfold wei tot
  rw [this]
theorem asc_nodup {l : List Int} (h : l.Pairwise (· < ·)) : l.Nodup := h.imp fun h => by omega
theorem two_wei {c a b : List Int} (hc : ∀ x ∈ c, 0 ≤ x) (ha : a.Pairwise (· < ·)) (hb : b.Pairwise (· < ·)) (ha1 : ∀ x ∈ a, 0 ≤ x ∧ x < c.length) (hb1 : ∀ x ∈ b, 0 ≤ x ∧ x < c.length) (hd : ∀ x ∈ a, x ∉ b) : wei c a + wei c b ≤ tot c := by
  have key : ∀ b : List Int, b.Nodup → (∀ x ∈ b, 0 ≤ x ∧ x < c.length) → (∀ x ∈ a, x ∉ b) → ∃ l : List Int, l.Pairwise (· < ·) ∧ (∀ x, x ∈ l ↔ x ∈ a ∨ x ∈ b) ∧ wei c l = wei c a + wei c b := by
    intro b
    induction b with
    | nil => exact fun _ _ _ => ⟨a, ha, fun x => by simp, by simp [wei]⟩
    | cons y b ih =>
      intro h1 h2 h3
      obtain ⟨n1, n2⟩ := List.nodup_cons.1 h1
      obtain ⟨l, l1, l2, l3⟩ := ih n2 (fun x hx => h2 x (by simp [hx])) fun x hx hb => h3 x hx (by simp [hb])
      refine ⟨insM l y, insM_asc l1, fun x => ?_, ?_⟩
      · rw [insM_mem, l2, List.mem_cons]
        constructor
        · rintro (h | h | h)
          · exact .inr (.inl h)
          · exact .inl h
          · exact .inr (.inr h)
        · rintro (h | h | h)
          · exact .inr (.inl h)
          · exact .inl h
          · exact .inr (.inr h)
      · rw [ins_wei (fun h => (l2 y).1 h |>.elim (fun ha => h3 y ha (by simp)) n1), l3]
        simp only [wei, List.map_cons, List.sum_cons]
        omega
  obtain ⟨l, l1, l2, l3⟩ := key b (asc_nodup hb) hb1 hd
  rw [← l3, ← all_wei]
  refine wei_le hc l1 ?_ fun x hx => ?_
  · rw [List.pairwise_map]
    exact List.pairwise_lt_range.imp fun h => by omega
  · have : 0 ≤ x ∧ x < c.length := ((l2 x).1 hx).elim (ha1 x) (hb1 x)
    exact List.mem_map.2 ⟨x.toNat, List.mem_range.2 (by omega), by omega⟩
theorem wei_but {c : List Int} {b : Int} : ∀ {a : List Int}, a.Nodup → wei c a = wei c (a.filter fun m => m != b) + if b ∈ a then c.getD b.toNat 0 else 0
  | [], _ => by simp [wei]
  | x :: l, h => by
    obtain ⟨h1, h2⟩ := List.nodup_cons.1 h
    have ih := wei_but (c := c) (b := b) h2
    by_cases e : x = b
    · subst e
      rw [if_neg h1] at ih
      rw [if_pos (by simp), List.filter_cons, if_neg (by simp)]
      simp only [wei, List.map_cons, List.sum_cons] at ih ⊢
      omega
    · rw [List.filter_cons, if_pos (by simpa using e)]
      have : (b ∈ x :: l) = (b ∈ l) := by simp [Ne.symm e]
      simp only [this]
      simp only [wei, List.map_cons, List.sum_cons] at ih ⊢
      omega
theorem quo_meet {c a b : List Int} {bad : Int} (hc : comV c = true) (hbad : badS c bad = true) (ha : mems c a = true) (hb : mems c b = true) (h1 : quo c ≤ wei c a) (h2 : quo c ≤ wei c b) : both bad a b = true := by
  cases hbo : both bad a b with
  | true => rfl
  | false =>
    exfalso
    have hno : ∀ m ∈ a, m ≠ bad → m ∉ b := fun m hm hne hmb => by
      have := both_iff.2 ⟨m, hne, hm, hmb⟩
      rw [hbo] at this
      cases this
    have a1 := mems_asc ha
    have a2 := mems_in ha
    have hp := (comV_iff.1 hc).1
    have hw := wei_but (c := c) (b := bad) (asc_nodup a1)
    have ht := two_wei (c := c) (a := a.filter fun m => m != bad) (b := b) (fun x hx => by have := hp x hx; omega) (a1.filter _) (mems_asc hb) (fun x hx => a2 x ((List.mem_filter.1 hx).1)) (mems_in hb) fun x hx => hno x ((List.mem_filter.1 hx).1) (by simpa using (List.mem_filter.1 hx).2)
    have hf := fau_bd hc
    have hle : (if bad ∈ a then c.getD bad.toNat 0 else 0) ≤ fau c := by
      split
      · rename_i hm
        rcases badS_iff.1 hbad with h | ⟨-, h⟩
        · have := a2 _ hm; omega
        · exact h
      · exact hf.1
    have hq : quo c = 2 * tot c / 3 + 1 := by
      have := tot_bd hc
      unfold quo
      rw [Int.tdiv_eq_ediv_of_nonneg (by omega)]
    omega
theorem done_slot {w : Wrl} (hw : WOK w) {i k : Nat} {p q : Ppl} (hk : k < i) (hp : w.props[i]? = some p) (hq : w.props[k]? = some q) (d1 : don w.com p = true) (d2 : don w.com q = true) (h1 : p.v.round = q.v.round) (h2 : p.v.author = q.v.author) : False := by
  have h := (fit_two hw hk hp hq h1 h2).2
  have m1 := (one_of hw (List.mem_of_getElem? hp)).2
  have m2 := (one_of hw (List.mem_of_getElem? hq)).2
  rw [quo_meet hw.com hw.bad m1 m2 (by simpa [don] using d1) (by simpa [don] using d2)] at h
  cases h
def comm (a b : List Int) : List Int := a.filter fun m => b.contains m
theorem comm_bad {w : Wrl} (hw : WOK w) {i k : Nat} {p q : Ppl} (hk : k < i) (hp : w.props[i]? = some p) (hq : w.props[k]? = some q) (h1 : p.v.round = q.v.round) (h2 : p.v.author = q.v.author) : comm p.members q.members = [] ∨ comm p.members q.members = [w.bad] := by
  have h := (fit_two hw hk hp hq h1 h2).2
  have hall : ∀ m ∈ comm p.members q.members, m = w.bad := fun m hm => by
    obtain ⟨a1, a2⟩ := List.mem_filter.1 hm
    by_cases e : m = w.bad
    · exact e
    · rw [both_iff.2 ⟨m, e, a1, by simpa using a2⟩] at h
      cases h
  have ha : (comm p.members q.members).Pairwise (· < ·) := (mems_asc (one_of hw (List.mem_of_getElem? hp)).2).filter _
  generalize comm p.members q.members = l at *
  match l, hall, ha with
  | [], _, _ => exact .inl rfl
  | [x], hall, _ => exact .inr (by rw [hall x (by simp)])
  | x :: y :: l, hall, ha =>
    have h1 := hall x (by simp)
    have h2 := hall y (by simp)
    have := (List.pairwise_cons.1 ha).1 y (by simp)
    omega
end Go.Proofs.YticiffgklmjfnaaGreat.Am
namespace Go.Proofs.YticiffgklmjfnaaGreat.Am
set_option linter.unusedSimpArgs false
set_option linter.unusedVariables false
open Go
attribute [local irreducible] Mk Need Ari Get Idx Cnd CallM CallA Opt Unch At ConV
set_option maxRecDepth 10000
theorem oth_facts {w : Wrl} (hw : WOK w) (e : Evt) {m : Nat} {g : List Vtx} (hg : w.views[m]? = some g) : ∃ g', (sDo w e).views[m]? = some g' ∧ (g' = g ∨ (e.kind = 3 ∧ (m : Int) = e.a ∧ g'.length = g.length + 1)) := by
  have same : (sDo w e).views = w.views → ∃ g', (sDo w e).views[m]? = some g' ∧ (g' = g ∨ (e.kind = 3 ∧ (m : Int) = e.a ∧ g'.length = g.length + 1)) := fun h => ⟨g, by rw [h]; exact hg, .inl rfl⟩
  by_cases h3 : e.kind = 3
  · have hd : sDo w e = sDel w e.a e.b := by unfold sDo; rw [if_neg (by omega), if_neg (by omega), if_pos h3]
    cases hb : delB w e.a e.b
    · refine same ?_
      rw [hd]
      unfold sDel
      rw [hb]
      rfl
    · have hs : sDel w e.a e.b = { w with views := w.views.set e.a.toNat (insV (view w e.a) (prop w e.b).v) } := by unfold sDel; rw [hb]; rfl
      rw [hd, hs]
      have hgd : good w e.a = true := by
        unfold delB at hb
        simp only [Bool.and_eq_true] at hb
        exact hb.1
      obtain ⟨hm, -⟩ := good_iff.1 hgd
      dsimp only
      rw [List.getElem?_set]
      by_cases em : e.a.toNat = m
      · have hml := (List.getElem?_eq_some_iff.1 hg).1
        rw [if_pos em, em, if_pos hml]
        refine ⟨_, rfl, .inr ⟨h3, by omega, ?_⟩⟩
        have hvw : view w e.a = g := by unfold view; rw [em, List.getD_eq_getElem?_getD, hg]; rfl
        rw [hvw]
        exact insV_len g _
      · rw [if_neg em]
        exact ⟨g, hg, .inl rfl⟩
  · refine same ?_
    unfold sDo
    rw [if_neg h3]
    (repeat' split) <;> first | rfl | (simp only [sPrp, sVot, sFrg, sBad, sCnt, addP]; split <;> rfl)
theorem lawOth_c (c : List Int) (hc : ∀ x ∈ c, 0 ≤ x ∧ x ≤ 255) : ConV Tryz.prog 8 [.lst (.int .u8) c] [] (.bool true) [] := by
  obtain ⟨⟨w, z, e⟩, ⟨⟨hw1, hw2⟩, he1, he2⟩, hd⟩ := ddo_c c hc
  dsimp only at hw1 hw2 he1 he2 hd
  have hI := ido_c w e (fun g hg => by have := hw2 g hg; omega)
  have hS := swdo_c w e (by omega) (by omega)
  have hV := swV_c w (by omega)
  refine con_eq Θ_ok Tryz.func8 rfl rfl false 0 4 rfl rfl rfl rfl fun K hK hb1 hb2 => ?_; simp only [argsV, enc, Nat.reduceAdd]
  clear hb1 hb2
  by_cases hl : 1048576 < (c.length : Int)
  · (repeat (any_goals (first | refine st ?_ | ((first | refine go2 fun xe hxe => ?_ | with_reducible refine cnd_d (fun hq => ?_) fun hq => ?_) <;> conv => whnf) | ((with_reducible refine cnd_i (fun hq => ?_) fun hq => ?_) <;> ((try simp only [hqs] at hq) <;> (first | omega | conv => whnf))))))
    exact ⟨rfl, rfl⟩
  cases z with
  | false =>
    have hd : ConV Tryz.prog 24 [.lst (.int .u8) c] [] (.tup [wrlA w, evtA e]) [] := hd
    cases hs : wrlS w
    · simp only [hs, Bool.false_eq_true, if_false] at hI hS
      rw [hs] at hV
      (repeat (any_goals (first | refine st ?_ | ((first | refine go2 fun xe hxe => ?_ | with_reducible refine cnd_d (fun hq => ?_) fun hq => ?_) <;> conv => whnf) | ((with_reducible refine cnd_i (fun hq => ?_) fun hq => ?_) <;> ((try simp only [hqs] at hq) <;> (first | omega | conv => whnf))) | refine cr (hd) ?_ | refine cr (hI) ?_ | refine cr (hS) ?_ | refine cr (hV) ?_ | refine cr (sWrl_z) ?_)))
      exact ⟨rfl, rfl⟩
    · simp only [hs, if_true] at hI hS
      rw [hs] at hV
      have hw := wok_iff.1 hs
      have hE := sWrl_e (sDo w e)
      have hf := fun (m : Nat) (g : List Vtx) (hg : w.views[m]? = some g) => oth_facts hw e hg
      have h7 := hw.len
      have hvl := hw.vlen
      generalize sDo w e = u at *
      (repeat (any_goals (first | refine st ?_ | ((first | refine go2 fun xe hxe => ?_ | with_reducible refine cnd_d (fun hq => ?_) fun hq => ?_) <;> conv => whnf) | ((with_reducible refine cnd_i (fun hq => ?_) fun hq => ?_) <;> ((try simp only [hqs] at hq) <;> (first | omega | conv => whnf))) | refine cr (hd) ?_ | refine cr (hI) ?_ | refine cr (hS) ?_ | refine cr (hV) ?_ | refine cr (hE) ?_)))
      refine at_loop hK [] [3, 4, 5, 7] (fun m : Nat => ⟨[(3, .ptr 4 0), (4, .ptr 5 0), (5, .ptr 6 0), (7, .int .i64 (m : Int))], [(4, .var 27 (wrlA w).cells), (5, .var 47 (evtA e).cells), (6, .var 27 (wrlA u).cells)], 7⟩) (fun m => m ≤ w.views.length) (fun m => w.views.length - m) 0 (by simp) rfl ?_
      intro m hm
      by_cases hlt : m < w.views.length
      · have hg : w.views[m]? = some w.views[m] := List.getElem?_eq_getElem hlt
        obtain ⟨g', hg1, hg2⟩ := hf m _ hg
        have hgl := hw.vl _ (List.mem_of_getElem? hg)
        generalize w.views[m] = g at *
        rcases hg2 with rfl | ⟨k1, k2, k3⟩
        · have hG := sGra_e g'
          (repeat (any_goals (first | refine st ?_ | ((first | refine go2 fun xe hxe => ?_ | with_reducible refine cnd_d (fun hq => ?_) fun hq => ?_) <;> conv => whnf) | ((with_reducible refine cnd_i (fun hq => ?_) fun hq => ?_) <;> ((try simp only [hqs] at hq) <;> (first | omega | conv => whnf))) | refine cr (hG) ?_)))
          exact ⟨m + 1, by omega, by omega, rfl⟩
        · (repeat (any_goals (first | refine st ?_ | ((first | refine go2 fun xe hxe => ?_ | with_reducible refine cnd_d (fun hq => ?_) fun hq => ?_) <;> conv => whnf) | ((with_reducible refine cnd_i (fun hq => ?_) fun hq => ?_) <;> ((try simp only [hqs] at hq) <;> (first | omega | conv => whnf))))))
          exact ⟨m + 1, by omega, by omega, rfl⟩
      · (repeat (any_goals (first | refine st ?_ | ((first | refine go2 fun xe hxe => ?_ | with_reducible refine cnd_d (fun hq => ?_) fun hq => ?_) <;> conv => whnf) | ((with_reducible refine cnd_i (fun hq => ?_) fun hq => ?_) <;> ((try simp only [hqs] at hq) <;> (first | omega | conv => whnf))))))
        exact ⟨rfl, rfl⟩
  | true =>
    have hd : ConV Tryz.prog 24 [.lst (.int .u8) c] [] (.tup [wrlA w, .agg [.int .i64 e.kind, .int .i64 e.a, .int .i64 e.b, .int .i64 e.v.round, .int .i64 e.v.author, .nils, .int .i64 e.v.digest]]) [] := hd
    rw [show evtA e = .agg [.int .i64 e.kind, .int .i64 e.a, .int .i64 e.b, .int .i64 e.v.round, .int .i64 e.v.author, .lst (.int .i64) [], .int .i64 e.v.digest] from by unfold evtA; rw [he2 rfl]] at hI hS
    cases hs : wrlS w
    · simp only [hs, Bool.false_eq_true, if_false] at hI hS
      rw [hs] at hV
      (repeat (any_goals (first | refine st ?_ | ((first | refine go2 fun xe hxe => ?_ | with_reducible refine cnd_d (fun hq => ?_) fun hq => ?_) <;> conv => whnf) | ((with_reducible refine cnd_i (fun hq => ?_) fun hq => ?_) <;> ((try simp only [hqs] at hq) <;> (first | omega | conv => whnf))) | refine cr (hd) ?_ | refine cr (hI) ?_ | refine cr (hS) ?_ | refine cr (hV) ?_ | refine cr (sWrl_z) ?_)))
      exact ⟨rfl, rfl⟩
    · simp only [hs, if_true] at hI hS
      rw [hs] at hV
      have hw := wok_iff.1 hs
      have hE := sWrl_e (sDo w e)
      have hf := fun (m : Nat) (g : List Vtx) (hg : w.views[m]? = some g) => oth_facts hw e hg
      have h7 := hw.len
      have hvl := hw.vlen
      generalize sDo w e = u at *
      (repeat (any_goals (first | refine st ?_ | ((first | refine go2 fun xe hxe => ?_ | with_reducible refine cnd_d (fun hq => ?_) fun hq => ?_) <;> conv => whnf) | ((with_reducible refine cnd_i (fun hq => ?_) fun hq => ?_) <;> ((try simp only [hqs] at hq) <;> (first | omega | conv => whnf))) | refine cr (hd) ?_ | refine cr (hI) ?_ | refine cr (hS) ?_ | refine cr (hV) ?_ | refine cr (hE) ?_)))
      refine at_loop hK [] [3, 4, 5, 7] (fun m : Nat => ⟨[(3, .ptr 4 0), (4, .ptr 5 0), (5, .ptr 6 0), (7, .int .i64 (m : Int))], [(4, .var 27 (wrlA w).cells), (5, .var 47 [.int .i64 e.kind, .int .i64 e.a, .int .i64 e.b, .int .i64 e.v.round, .int .i64 e.v.author, .nils, .int .i64 e.v.digest]), (6, .var 27 (wrlA u).cells)], 7⟩) (fun m => m ≤ w.views.length) (fun m => w.views.length - m) 0 (by simp) rfl ?_
      intro m hm
      by_cases hlt : m < w.views.length
      · have hg : w.views[m]? = some w.views[m] := List.getElem?_eq_getElem hlt
        obtain ⟨g', hg1, hg2⟩ := hf m _ hg
        have hgl := hw.vl _ (List.mem_of_getElem? hg)
        generalize w.views[m] = g at *
        rcases hg2 with rfl | ⟨k1, k2, k3⟩
        · have hG := sGra_e g'
          (repeat (any_goals (first | refine st ?_ | ((first | refine go2 fun xe hxe => ?_ | with_reducible refine cnd_d (fun hq => ?_) fun hq => ?_) <;> conv => whnf) | ((with_reducible refine cnd_i (fun hq => ?_) fun hq => ?_) <;> ((try simp only [hqs] at hq) <;> (first | omega | conv => whnf))) | refine cr (hG) ?_)))
          exact ⟨m + 1, by omega, by omega, rfl⟩
        · (repeat (any_goals (first | refine st ?_ | ((first | refine go2 fun xe hxe => ?_ | with_reducible refine cnd_d (fun hq => ?_) fun hq => ?_) <;> conv => whnf) | ((with_reducible refine cnd_i (fun hq => ?_) fun hq => ?_) <;> ((try simp only [hqs] at hq) <;> (first | omega | conv => whnf))))))
          exact ⟨m + 1, by omega, by omega, rfl⟩
      · (repeat (any_goals (first | refine st ?_ | ((first | refine go2 fun xe hxe => ?_ | with_reducible refine cnd_d (fun hq => ?_) fun hq => ?_) <;> conv => whnf) | ((with_reducible refine cnd_i (fun hq => ?_) fun hq => ?_) <;> ((try simp only [hqs] at hq) <;> (first | omega | conv => whnf))))))
        exact ⟨rfl, rfl⟩
end Go.Proofs.YticiffgklmjfnaaGreat.Am
namespace Go.Proofs.YticiffgklmjfnaaGreat.rowOth
set_option linter.unusedSimpArgs false
set_option linter.unusedVariables false
open Go Go.RowKit Go.ChangeShapes Go.WideShapes Go.ChangeAt Go.Proofs.YticiffgklmjfnaaGreat.Am
theorem own : ownKnob Tryz.prog.godebug = none := by kernel_rfl
theorem lay : laidOutB Tryz.prog = true := by kernel_rfl
theorem cells5 : Tryz.prog.cellsOf 5 = 1 := by kernel_rfl
set_option maxRecDepth 100000 in
theorem lifted (os : Os) (started : os.Started) (H : Type) (enc : TypeId × Value → H) :
    ReturnsInHanded {} Tryz.checked os 8 .any (Rows.fnWorldOthersSpec.pre6 enc Tryz.prog Tryz.f8 Rows.fnWorldOthersRow.domain false) (Rows.fnWorldOthersSpec.post enc Tryz.prog Tryz.f8 false true false false) := by
  refine returnsInHanded_of_change (C := Tryz.checked) own started (by kernel_rfl) Tryz.func8
    (ChangeSpec.witness6 (enc := enc) (C := Tryz.checked) false ⟨#[], #[.slice none 0 0], []⟩ 8 (by kernel_rfl) (by kernel_rfl) (by kernel_rfl) (by kernel_rfl)) ?_
  intro W base args ds gs before hval hW _ _
  have hW' := hW
  obtain ⟨p, q, hA0, hV, rfl, hfz, hnd⟩ := hW
  have hA : DataW.TrodAll enc Tryz.prog W 0 (fun _ => true) true Tryz.f8.params.toList args.toList ds p := hA0
  rw [Tryz.params8] at hA hval
  obtain ⟨v0, vs0, d0, ds0, p0, q0, hargs, rfl, rfl, h0, r0⟩ := trodAll_cons hA
  obtain ⟨rfl, rfl, rfl⟩ := trodAll_nil r0
  obtain rfl : args = #[v0] := by cases args; simp_all
  obtain ⟨rfl, rfl⟩ := trodVars_none hV
  obtain ⟨c0, hc0, hr0⟩ := bytes_arg Tryz.underlying22 Tryz.underlying5 cells5 (hval 0 _ v0 rfl rfl) h0
  clear hA0
  simp only [List.append_nil] at hW'
  refine (law_calls (lawOth_c c0 hc0) rfl (fun i hi => ?_)).mono fun e W' ⟨he, hb⟩ => ?_
  · obtain rfl : i = 0 := by simp [toDL] at hi; omega
    exact hr0
  subst he
  have hlt : ∀ x ∈ p0, x.block < W.heap.size := fun x hx => hW'.lt x hx
  exact ⟨_, rfl, post_below (pa := p0) (pv := []) hW' (fun _ _ _ => trodAll_cons_mk (shut_bool Tryz.underlying4 _) trodAll_mk0)
    (fun sp hsp => trodAll_mk1 (WideElems.Trod_stays lay (by kernel_rfl) (of_decide_eq_true (by kernel_rfl)) h0 (fun x hx => hb.same (hlt x hx)) (fun x hx => hsp x hx)))
    (fun _ _ => rfl) (by simp) hb (ok_one (by kernel_rfl) rfl (okWide_bool_mk Tryz.underlying4 _))⟩
theorem jA : (Rows.fnWorldOthersRow.inPlace == Tryz.pinned.checked.prog.inPlace 8) = true := by kernel_rfl
theorem jB : (Rows.fnWorldOthersRow.unfollowed == Tryz.pinned.checked.prog.unfollowed 8) = true := by kernel_rfl
theorem jC : (Rows.fnWorldOthersRow.recurses == Tryz.pinned.checked.prog.recurses 8) = true := by kernel_rfl
theorem jD : (Rows.fnWorldOthersRow.named == Tryz.pinned.checked.prog.varsNamed 8) = true := by kernel_rfl
theorem jE : Tryz.pinned.checked.prog.mayEnter = true := by kernel_rfl
theorem jF : (Rows.fnWorldOthersRow.lifted == Tryz.pinned.checked.prog.liftsFinal) = true := by kernel_rfl
theorem jG : (Tryz.pinned.checked.prog.make == some Rows.fnWorldOthersRow.make) = true := by kernel_rfl
theorem closed : joinedFacts Tryz.pinned.checked.prog 8 Tryz.f8 Rows.fnWorldOthersSpec Rows.fnWorldOthersRow = true := by
  unfold joinedFacts
  rw [jA, jB, jC, jD, jE, jF, jG]
  exact of_decide_eq_true (by kernel_rfl)
theorem holds : Rows.FnWorldOthersSaid :=
  OpenClaim.holds_of_wide 8 Tryz.f8 rfl rfl rfl rfl rfl rfl rfl ⟨rfl, rfl, rfl, rfl, rfl⟩ rfl rfl rfl rfl rfl (by kernel_rfl) Tryz.func8 closed
    (of_decide_eq_true (by kernel_rfl)) (by unfold Func.isWrapper; first | (rw [if_pos (by decide +kernel)]; kernel_rfl) | (rw [if_neg (by decide +kernel)]; exact ⟨rfl, rfl⟩))
    (fun os started H enc _ => lifted os started H enc)
#print axioms holds
end Go.Proofs.YticiffgklmjfnaaGreat.rowOth
