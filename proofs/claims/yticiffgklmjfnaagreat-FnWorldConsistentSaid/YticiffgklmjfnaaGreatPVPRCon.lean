/- Runs: quorums meet; what is held of valid runs. Runs: what quiet periods lead to (plain laws): nothing is left to deliver, so all correct members have all that is certified. The laws of runs: the graphs of all members can be merged. FnWorldConsistent's law holds: it returns true for all bytes, and leaves its argument as it was. -/
import Derived.Test.YticiffgklmjfnaaGreatRows
import Derived.Test.YticiffgklmjfnaaGreatPV10
namespace Go.Proofs.YticiffgklmjfnaaGreat.Am
set_option linter.unusedSimpArgs false
set_option linter.unusedVariables false
open Go
theorem fit_two {w : Wrl} (hw : WOK w) {i k : Nat} {p q : Ppl} (hk : k < i) (hp : w.props[i]? = some p) (hq : w.props[k]? = some q) (h1 : p.v.round = q.v.round) (h2 : p.v.author = q.v.author) : p.v.author = w.bad ∧ both w.bad p.members q.members = false := by
  have h := pw_get hw.fit hk hq hp
  unfold fitP at h
  rw [slt_iff.2 ⟨h1, h2⟩] at h
  have h : vEq p.v q.v = false ∧ p.v.author = w.bad ∧ both w.bad p.members q.members = false := by simpa using h
  exact h.2
theorem ins_wei {c : List Int} : ∀ {ms : List Int} {m : Int}, m ∉ ms → wei c (insM ms m) = wei c ms + c.getD m.toNat 0
  | [], m, _ => by simp [insM, wei]
  | x :: l, m, h => by
    simp only [List.mem_cons, not_or] at h
    unfold insM
    split
    · have := ins_wei (c := c) h.2
      simp only [wei, List.map_cons, List.sum_cons] at this ⊢
      omega
    · rw [if_neg fun e => h.1 e.symm]
      simp only [wei, List.map_cons, List.sum_cons]
      omega
theorem all_wei (c : List Int) : wei c ((List.range c.length).map fun i : Nat => (i : Int)) = tot c := by
  have : ((List.range c.length).map fun i : Nat => (i : Int)).map (fun m => c.getD m.toNat 0) = c := by
    apply List.ext_getElem?
    intro i
    simp only [List.map_map, List.getElem?_map]
    rcases Nat.lt_or_ge i c.length with h | h
    · rw [List.getElem?_range h, List.getElem?_eq_getElem h]
      simp [List.getD_eq_getElem?_getD, List.getElem?_eq_getElem h]
    · rw [List.getElem?_eq_none (by simpa using h), List.getElem?_eq_none h]
      rfl
  unfold wei tot
  rw [this]
theorem asc_nodup {l : List Int} (h : l.Pairwise (· < ·)) : l.Nodup := h.imp fun h => by omega
theorem two_wei {c a b : List Int} (hc : ∀ x ∈ c, 0 ≤ x) (ha : a.Pairwise (· < ·)) (hb : b.Pairwise (· < ·)) (ha1 : ∀ x ∈ a, 0 ≤ x ∧ x < c.length) (hb1 : ∀ x ∈ b, 0 ≤ x ∧ x < c.length) (hd : ∀ x ∈ a, x ∉ b) : wei c a + wei c b ≤ tot c := by
  have key : ∀ b : List Int, b.Nodup → (∀ x ∈ b, 0 ≤ x ∧ x < c.length) → (∀ x ∈ a, x ∉ b) → ∃ l : List Int, l.Pairwise (· < ·) ∧ (∀ x, x ∈ l ↔ x ∈ a ∨ x ∈ b) ∧ wei c l = wei c a + wei c b := by
    intro b
    induction b with
    | nil => exact fun _ _ _ => ⟨a, ha, fun x => by simp, by simp [wei]⟩
    | cons y b ih =>
      intro h1 h2 h3
      obtain ⟨n1, n2⟩ := List.nodup_cons.1 h1
      obtain ⟨l, l1, l2, l3⟩ := ih n2 (fun x hx => h2 x (by simp [hx])) fun x hx hb => h3 x hx (by simp [hb])
      refine ⟨insM l y, insM_asc l1, fun x => ?_, ?_⟩
      · rw [insM_mem, l2, List.mem_cons]
        constructor
        · rintro (h | h | h)
          · exact .inr (.inl h)
          · exact .inl h
          · exact .inr (.inr h)
        · rintro (h | h | h)
          · exact .inr (.inl h)
          · exact .inl h
          · exact .inr (.inr h)
      · rw [ins_wei (fun h => (l2 y).1 h |>.elim (fun ha => h3 y ha (by simp)) n1), l3]
        simp only [wei, List.map_cons, List.sum_cons]
        omega
  obtain ⟨l, l1, l2, l3⟩ := key b (asc_nodup hb) hb1 hd
  rw [← l3, ← all_wei]
  refine wei_le hc l1 ?_ fun x hx => ?_
  · rw [List.pairwise_map]
    exact List.pairwise_lt_range.imp fun h => by omega
  · have : 0 ≤ x ∧ x < c.length := ((l2 x).1 hx).elim (ha1 x) (hb1 x)
    exact List.mem_map.2 ⟨x.toNat, List.mem_range.2 (by omega), by omega⟩
theorem wei_but {c : List Int} {b : Int} : ∀ {a : List Int}, a.Nodup → wei c a = wei c (a.filter fun m => m != b) + if b ∈ a then c.getD b.toNat 0 else 0
  | [], _ => by simp [wei]
  | x :: l, h => by
    obtain ⟨h1, h2⟩ := List.nodup_cons.1 h
    have ih := wei_but (c := c) (b := b) h2
    by_cases e : x = b
    · subst e
      rw [if_neg h1] at ih
      rw [if_pos (by simp), List.filter_cons, if_neg (by simp)]
      simp only [wei, List.map_cons, List.sum_cons] at ih ⊢
      omega
    · rw [List.filter_cons, if_pos (by simpa using e)]
      have : (b ∈ x :: l) = (b ∈ l) := by simp [Ne.symm e]
      simp only [this]
      simp only [wei, List.map_cons, List.sum_cons] at ih ⊢
      omega
theorem quo_meet {c a b : List Int} {bad : Int} (hc : comV c = true) (hbad : badS c bad = true) (ha : mems c a = true) (hb : mems c b = true) (h1 : quo c ≤ wei c a) (h2 : quo c ≤ wei c b) : both bad a b = true := by
  cases hbo : both bad a b with
  | true => rfl
  | false =>
    exfalso
    have hno : ∀ m ∈ a, m ≠ bad → m ∉ b := fun m hm hne hmb => by
      have := both_iff.2 ⟨m, hne, hm, hmb⟩
      rw [hbo] at this
      cases this
    have a1 := mems_asc ha
    have a2 := mems_in ha
    have hp := (comV_iff.1 hc).1
    have hw := wei_but (c := c) (b := bad) (asc_nodup a1)
    have ht := two_wei (c := c) (a := a.filter fun m => m != bad) (b := b) (fun x hx => by have := hp x hx; omega) (a1.filter _) (mems_asc hb) (fun x hx => a2 x ((List.mem_filter.1 hx).1)) (mems_in hb) fun x hx => hno x ((List.mem_filter.1 hx).1) (by simpa using (List.mem_filter.1 hx).2)
    have hf := fau_bd hc
    have hle : (if bad ∈ a then c.getD bad.toNat 0 else 0) ≤ fau c := by
      split
      · rename_i hm
        rcases badS_iff.1 hbad with h | ⟨-, h⟩
        · have := a2 _ hm; omega
        · exact h
      · exact hf.1
    have hq : quo c = 2 * tot c / 3 + 1 := by
      have := tot_bd hc
      unfold quo
      rw [Int.tdiv_eq_ediv_of_nonneg (by omega)]
    omega
theorem done_slot {w : Wrl} (hw : WOK w) {i k : Nat} {p q : Ppl} (hk : k < i) (hp : w.props[i]? = some p) (hq : w.props[k]? = some q) (d1 : don w.com p = true) (d2 : don w.com q = true) (h1 : p.v.round = q.v.round) (h2 : p.v.author = q.v.author) : False := by
  have h := (fit_two hw hk hp hq h1 h2).2
  have m1 := (one_of hw (List.mem_of_getElem? hp)).2
  have m2 := (one_of hw (List.mem_of_getElem? hq)).2
  rw [quo_meet hw.com hw.bad m1 m2 (by simpa [don] using d1) (by simpa [don] using d2)] at h
  cases h
def comm (a b : List Int) : List Int := a.filter fun m => b.contains m
theorem comm_bad {w : Wrl} (hw : WOK w) {i k : Nat} {p q : Ppl} (hk : k < i) (hp : w.props[i]? = some p) (hq : w.props[k]? = some q) (h1 : p.v.round = q.v.round) (h2 : p.v.author = q.v.author) : comm p.members q.members = [] ∨ comm p.members q.members = [w.bad] := by
  have h := (fit_two hw hk hp hq h1 h2).2
  have hall : ∀ m ∈ comm p.members q.members, m = w.bad := fun m hm => by
    obtain ⟨a1, a2⟩ := List.mem_filter.1 hm
    by_cases e : m = w.bad
    · exact e
    · rw [both_iff.2 ⟨m, e, a1, by simpa using a2⟩] at h
      cases h
  have ha : (comm p.members q.members).Pairwise (· < ·) := (mems_asc (one_of hw (List.mem_of_getElem? hp)).2).filter _
  generalize comm p.members q.members = l at *
  match l, hall, ha with
  | [], _, _ => exact .inl rfl
  | [x], hall, _ => exact .inr (by rw [hall x (by simp)])
  | x :: y :: l, hall, ha =>
    have h1 := hall x (by simp)
    have h2 := hall y (by simp)
    have := (List.pairwise_cons.1 ha).1 y (by simp)
    omega
end Go.Proofs.YticiffgklmjfnaaGreat.Am
namespace Go.Proofs.YticiffgklmjfnaaGreat.Am
set_option linter.unusedSimpArgs false
set_option linter.unusedVariables false
open Go
def still (w : Wrl) : Prop := ∀ m i : Nat, m < w.com.length → i < w.props.length → delB w m i = false
theorem done_eq {w : Wrl} (hw : WOK w) {p q : Ppl} (hp : p ∈ w.props) (hq : q ∈ w.props) (dp : don w.com p = true) (dq : don w.com q = true) (h1 : p.v.round = q.v.round) (h2 : p.v.author = q.v.author) : p = q := by
  obtain ⟨i, hi⟩ := List.getElem?_of_mem hp
  obtain ⟨k, hk⟩ := List.getElem?_of_mem hq
  rcases Nat.lt_trichotomy i k with h | h | h
  · exact (done_slot hw h hk hi dq dp h1.symm h2.symm).elim
  · subst h
    rw [hi] at hk
    exact Option.some.inj hk
  · exact (done_slot hw h hi hk dp dq h1 h2).elim
theorem view_eq {w : Wrl} (hw : WOK w) {g g' : List Vtx} (hg : g ∈ w.views) (hg' : g' ∈ w.views) {u v : Vtx} (hu : u ∈ g) (hv : v ∈ g') (h1 : u.round = v.round) (h2 : u.author = v.author) : u = v := by
  obtain ⟨p, p1, p2, rfl⟩ := hw.knw g hg u hu
  obtain ⟨q, q1, q2, rfl⟩ := hw.knw g' hg' v hv
  rw [done_eq hw p1 q1 p2 q2 h1 h2]
end Go.Proofs.YticiffgklmjfnaaGreat.Am
namespace Go.Proofs.YticiffgklmjfnaaGreat.Am
set_option linter.unusedSimpArgs false
set_option linter.unusedVariables false
open Go
attribute [local irreducible] Mk Need Ari Get Idx Cnd CallM CallA Opt Unch At ConV
set_option maxRecDepth 10000
theorem bef_none {u v : Vtx} (h1 : bef u v = false) (h2 : bef v u = false) : u.round = v.round ∧ u.author = v.author := by
  simp only [bef, Bool.or_eq_false_iff, Bool.and_eq_false_iff, decide_eq_false_iff_not] at h1 h2
  omega
set_option maxHeartbeats 1000000 in
theorem mrg_c (c : List Int) (a b : List Vtx) (hca : graS c a = true) (hcb : graS c b = true) (hs : ∀ u ∈ a, ∀ v ∈ b, u.round = v.round → u.author = v.author → u = v) : ∃ l : List Vtx, ConV Tryz.prog 23 [.lst (.int .i64) c, .lst .vtx a, .lst .vtx b] [] (.tup [.lst .vtx l, .bool true]) [] := by
  suffices hs : ∃ r hout, (∃ l : List Vtx, r = .tup [.lst .vtx l, .bool true] ∧ hout = []) ∧ ConV Tryz.prog 23 [.lst (.int .i64) c, .lst .vtx a, .lst .vtx b] [] r hout by
    obtain ⟨r, hout, ⟨v, rfl, rfl⟩, h⟩ := hs
    exact ⟨v, h⟩
  have hla := gra_len hca
  have hlb := gra_len hcb
  have hA := igv_c c a (by omega)
  have hB := igv_c c b (by omega)
  rw [hca] at hA
  rw [hcb] at hB
  have hpa : ∀ v ∈ a, v.parents.length ≤ 1000 := fun v hv => by have := vtx_par (graS_ok hca).com ((graS_ok hca).vtx v hv); omega
  have hpb : ∀ v ∈ b, v.parents.length ≤ 1000 := fun v hv => by have := vtx_par (graS_ok hcb).com ((graS_ok hcb).vtx v hv); omega
  refine con_ex Θ_ok Tryz.func23 rfl rfl true 0 4 rfl rfl rfl rfl (R := fun r hout => ∃ l : List Vtx, r = .tup [.lst .vtx l, .bool true] ∧ hout = []) (r0 := .tup [.lst .vtx [], .bool true]) (hout0 := []) (⟨[], rfl, rfl⟩) fun K hK hb1 hb2 => ?_; simp only [argsV, enc, Nat.reduceAdd]
  clear hb1 hb2
  (repeat (any_goals (first | refine st ?_ | ((first | refine go2 fun xe hxe => ?_ | with_reducible refine cnd_d (fun hq => ?_) fun hq => ?_) <;> conv => whnf) | ((with_reducible refine cnd_i (fun hq => ?_) fun hq => ?_) <;> ((try simp only [hqs] at hq) <;> (first | omega | conv => whnf))) | refine cr (hA) ?_ | refine cr (hB) ?_)))
  (try any_goals (first | exact absurd trivial hq | exact absurd rfl hq | exact absurd hq (by omega) | (exfalso; simp at hq; done)))
  refine at_loop hK [] [1, 2, 8] (fun x : List Vtx × List Vtx × List Vtx => ⟨[(1, .lst .vtx x.1), (2, .lst .vtx x.2.1), (8, .ref 4)], [(4, .row 36 .vtx x.2.2)], 5⟩) (fun x => (∀ v ∈ x.1, v ∈ a) ∧ (∀ v ∈ x.2.1, v ∈ b) ∧ x.1.length + x.2.1.length + x.2.2.length ≤ 1000) (fun x => x.1.length + x.2.1.length) (a, b, []) ⟨fun _ h => h, fun _ h => h, by dsimp only [List.length_nil]; omega⟩ rfl ?_
  rintro ⟨p, q, l⟩ ⟨i1, i2, i3⟩
  dsimp only at i1 i2 i3 ⊢
  have hn0 : ¬ (0 : Int) < (([] : List Vtx).length : Int) := by simp
  have hn1 : (([] : List Vtx).length : Int) = 0 := rfl
  cases p with
  | nil =>
    cases q with
    | nil =>
      (repeat (any_goals (first | refine st ?_ | ((first | refine go2 fun xe hxe => ?_ | with_reducible refine cnd_d (fun hq => ?_) fun hq => ?_) <;> conv => whnf) | ((with_reducible refine cnd_i (fun hq => ?_) fun hq => ?_) <;> ((try simp only [hqs] at hq) <;> (first | omega | conv => whnf))))))
      (try any_goals (first | exact absurd trivial hq | exact absurd rfl hq | exact absurd hq (by omega) | (exfalso; simp at hq; done)))
      exact ⟨l, rfl, rfl⟩
    | cons v q =>
      have hx : (v :: q)[(0 : Int).toNat]? = some v := rfl
      have hl1 : (v :: q).length = q.length + 1 := rfl
      have hc1 : cutL (v :: q) (some (.int .i64 1)) none (1 : Int).toNat (v :: q).length = q := by simp [cutL]
      have hvp := hpb v (i2 v (by simp))
      (repeat (any_goals (first | refine st ?_ | ((first | refine go2 fun xe hxe => ?_ | with_reducible refine cnd_d (fun hq => ?_) fun hq => ?_) <;> conv => whnf) | ((with_reducible refine cnd_i (fun hq => ?_) fun hq => ?_) <;> ((try simp only [hqs] at hq) <;> (first | omega | conv => whnf))) | ((with_reducible refine call_r ?_); (conv => whnf); (first | with_reducible refine call_i (icl_c _ (by omega)) ?_); conv => whnf))))
      (try any_goals (first | exact absurd trivial hq | exact absurd rfl hq | exact absurd hq (by omega) | (exfalso; simp at hq; done)))
      rw [hc1]
      exact ⟨([], q, l ++ [v]), ⟨by simp, fun u hu => i2 u (by simp [hu]), by simp at i3 ⊢; omega⟩, by simp, rfl⟩
  | cons u p =>
    have hx : (u :: p)[(0 : Int).toNat]? = some u := rfl
    have hl1 : (u :: p).length = p.length + 1 := rfl
    have hc1 : cutL (u :: p) (some (.int .i64 1)) none (1 : Int).toNat (u :: p).length = p := by simp [cutL]
    have hup := hpa u (i1 u (by simp))
    cases q with
    | nil =>
      (repeat (any_goals (first | refine st ?_ | ((first | refine go2 fun xe hxe => ?_ | with_reducible refine cnd_d (fun hq => ?_) fun hq => ?_) <;> conv => whnf) | ((with_reducible refine cnd_i (fun hq => ?_) fun hq => ?_) <;> ((try simp only [hqs] at hq) <;> (first | omega | conv => whnf))) | ((with_reducible refine call_r ?_); (conv => whnf); (first | with_reducible refine call_i (icl_c _ (by omega)) ?_); conv => whnf))))
      (try any_goals (first | exact absurd trivial hq | exact absurd rfl hq | exact absurd hq (by omega) | (exfalso; simp at hq; done)))
      rw [hc1]
      exact ⟨(p, [], l ++ [u]), ⟨fun v hv => i1 v (by simp [hv]), by simp, by simp at i3 ⊢; omega⟩, by simp, rfl⟩
    | cons v q =>
      have hx2 : (v :: q)[(0 : Int).toNat]? = some v := rfl
      have hl2 : (v :: q).length = q.length + 1 := rfl
      have hc2 : cutL (v :: q) (some (.int .i64 1)) none (1 : Int).toNat (v :: q).length = q := by simp [cutL]
      have hvp := hpb v (i2 v (by simp))
      have hb1 := ibef_c u v
      have hb2 := ibef_c v u
      have he := ivEq_c u v
      cases e1 : bef u v
      · rw [e1] at hb1
        cases e2 : bef v u
        · rw [e2] at hb2
          obtain ⟨e3, e4⟩ := bef_none e1 e2
          have e5 := hs u (i1 u (by simp)) v (i2 v (by simp)) e3 e4
          rw [vEq_iff.2 e5] at he
          (repeat (any_goals (first | refine st ?_ | ((first | refine go2 fun xe hxe => ?_ | with_reducible refine cnd_d (fun hq => ?_) fun hq => ?_) <;> conv => whnf) | ((with_reducible refine cnd_i (fun hq => ?_) fun hq => ?_) <;> ((try simp only [hqs] at hq) <;> (first | omega | conv => whnf))) | refine cr (hb1) ?_ | refine cr (hb2) ?_ | refine cr (he) ?_ | ((with_reducible refine call_r ?_); (conv => whnf); (first | with_reducible refine call_i (icl_c _ (by omega)) ?_); conv => whnf))))
          (try any_goals (first | exact absurd trivial hq | exact absurd rfl hq | exact absurd hq (by omega) | (exfalso; simp at hq; done)))
          rw [hc1, hc2]
          exact ⟨(p, q, l ++ [u]), ⟨fun v hv => i1 v (by simp [hv]), fun v hv => i2 v (by simp [hv]), by simp at i3 ⊢; omega⟩, by simp; omega, rfl⟩
        · rw [e2] at hb2
          (repeat (any_goals (first | refine st ?_ | ((first | refine go2 fun xe hxe => ?_ | with_reducible refine cnd_d (fun hq => ?_) fun hq => ?_) <;> conv => whnf) | ((with_reducible refine cnd_i (fun hq => ?_) fun hq => ?_) <;> ((try simp only [hqs] at hq) <;> (first | omega | conv => whnf))) | refine cr (hb1) ?_ | refine cr (hb2) ?_ | ((with_reducible refine call_r ?_); (conv => whnf); (first | with_reducible refine call_i (icl_c _ (by omega)) ?_); conv => whnf))))
          (try any_goals (first | exact absurd trivial hq | exact absurd rfl hq | exact absurd hq (by omega) | (exfalso; simp at hq; done)))
          rw [hc2]
          exact ⟨(u :: p, q, l ++ [v]), ⟨i1, fun v hv => i2 v (by simp [hv]), by simp at i3 ⊢; omega⟩, by simp, rfl⟩
      · rw [e1] at hb1
        (repeat (any_goals (first | refine st ?_ | ((first | refine go2 fun xe hxe => ?_ | with_reducible refine cnd_d (fun hq => ?_) fun hq => ?_) <;> conv => whnf) | ((with_reducible refine cnd_i (fun hq => ?_) fun hq => ?_) <;> ((try simp only [hqs] at hq) <;> (first | omega | conv => whnf))) | refine cr (hb1) ?_ | ((with_reducible refine call_r ?_); (conv => whnf); (first | with_reducible refine call_i (icl_c _ (by omega)) ?_); conv => whnf))))
        (try any_goals (first | exact absurd trivial hq | exact absurd rfl hq | exact absurd hq (by omega) | (exfalso; simp at hq; done)))
        rw [hc1]
        exact ⟨(p, v :: q, l ++ [u]), ⟨fun v hv => i1 v (by simp [hv]), i2, by simp at i3 ⊢; omega⟩, by simp, rfl⟩
set_option maxHeartbeats 1000000 in
theorem lawCon_c (c : List Int) (hc : ∀ x ∈ c, 0 ≤ x ∧ x ≤ 255) : ConV Tryz.prog 6 [.lst (.int .u8) c] [] (.bool true) [] := by
  obtain ⟨⟨w, es⟩, ⟨hw, he1, he2⟩, hd⟩ := dpl_c c hc
  dsimp only at hw he1 he2 hd
  have hI := iply_c w es (fun g hg => by have := hw.vl g hg; omega) (by omega)
  have hS := swpl_c w es (by have := hw.len; omega) (by omega) (fun e he => by have := he2 e he; omega)
  rw [wok_iff.2 hw, Bool.and_true] at hI hS
  refine con_eq Θ_ok Tryz.func6 rfl rfl false 0 4 rfl rfl rfl rfl fun K hK hb1 hb2 => ?_; simp only [argsV, enc, Nat.reduceAdd]
  clear hb1 hb2
  by_cases hl : 1048576 < (c.length : Int)
  · (repeat (any_goals (first | refine st ?_ | ((first | refine go2 fun xe hxe => ?_ | with_reducible refine cnd_d (fun hq => ?_) fun hq => ?_) <;> conv => whnf) | ((with_reducible refine cnd_i (fun hq => ?_) fun hq => ?_) <;> ((try simp only [hqs] at hq) <;> (first | omega | conv => whnf))))))
    (try any_goals (first | exact absurd trivial hq | exact absurd rfl hq | exact absurd hq (by omega) | (exfalso; simp at hq; done)))
    exact ⟨rfl, rfl⟩
  cases h80 : decide (es.length ≤ 80)
  · simp only [h80, Bool.false_eq_true, if_false] at hI hS
    (repeat (any_goals (first | refine st ?_ | ((first | refine go2 fun xe hxe => ?_ | with_reducible refine cnd_d (fun hq => ?_) fun hq => ?_) <;> conv => whnf) | ((with_reducible refine cnd_i (fun hq => ?_) fun hq => ?_) <;> ((try simp only [hqs] at hq) <;> (first | omega | conv => whnf))) | refine cr (hd) ?_ | refine cr (hI) ?_ | refine cr (hS) ?_ | refine cr (sWrl_z) ?_)))
    (try any_goals (first | exact absurd trivial hq | exact absurd rfl hq | exact absurd hq (by omega) | (exfalso; simp at hq; done)))
    exact ⟨rfl, rfl⟩
  · simp only [h80, if_true] at hI hS
    have hu := sPlay_ok hw es
    generalize sPlay w es = u at *
    have hE := sWrl_e u
    have h7 := hu.len
    have hvl := hu.vlen
    (repeat (any_goals (first | refine st ?_ | ((first | refine go2 fun xe hxe => ?_ | with_reducible refine cnd_d (fun hq => ?_) fun hq => ?_) <;> conv => whnf) | ((with_reducible refine cnd_i (fun hq => ?_) fun hq => ?_) <;> ((try simp only [hqs] at hq) <;> (first | omega | conv => whnf))) | refine cr (hd) ?_ | refine cr (hI) ?_ | refine cr (hS) ?_ | refine cr (hE) ?_)))
    (try any_goals (first | exact absurd trivial hq | exact absurd rfl hq | exact absurd hq (by omega) | (exfalso; simp at hq; done)))
    refine at_loop hK [] [5, 9] (fun i : Nat => ⟨[(5, .ptr 4 0), (9, .int .i64 (i : Int))], [(4, .var 27 (wrlA u).cells)], 5⟩) (fun i => i ≤ u.views.length) (fun i => u.views.length - i) 0 (by simp) rfl ?_
    intro i hi
    by_cases hlt : i < u.views.length
    · have hx1 : u.views[i]? = some u.views[i] := List.getElem?_eq_getElem hlt
      have hx2 : u.views[(0 : Int).toNat]? = some u.views[0] := List.getElem?_eq_getElem (show 0 < u.views.length by omega)
      obtain ⟨l, hM⟩ := mrg_c u.com u.views[i] u.views[0] (hu.gra _ (List.getElem_mem _)) (hu.gra _ (List.getElem_mem _)) fun x hx y hy => view_eq hu (List.getElem_mem _) (List.getElem_mem _) hx hy
      generalize u.views[i] = g at *
      generalize u.views[0] = g0 at *
      (repeat (any_goals (first | refine st ?_ | ((first | refine go2 fun xe hxe => ?_ | with_reducible refine cnd_d (fun hq => ?_) fun hq => ?_) <;> conv => whnf) | ((with_reducible refine cnd_i (fun hq => ?_) fun hq => ?_) <;> ((try simp only [hqs] at hq) <;> (first | omega | conv => whnf))) | refine cr (hM) ?_)))
      (try any_goals (first | exact absurd trivial hq | exact absurd rfl hq | exact absurd hq (by omega) | (exfalso; simp at hq; done)))
      exact ⟨i + 1, by omega, by omega, rfl⟩
    · (repeat (any_goals (first | refine st ?_ | ((first | refine go2 fun xe hxe => ?_ | with_reducible refine cnd_d (fun hq => ?_) fun hq => ?_) <;> conv => whnf) | ((with_reducible refine cnd_i (fun hq => ?_) fun hq => ?_) <;> ((try simp only [hqs] at hq) <;> (first | omega | conv => whnf))))))
      (try any_goals (first | exact absurd trivial hq | exact absurd rfl hq | exact absurd hq (by omega) | (exfalso; simp at hq; done)))
      exact ⟨rfl, rfl⟩
end Go.Proofs.YticiffgklmjfnaaGreat.Am
namespace Go.Proofs.YticiffgklmjfnaaGreat.rowCon
set_option linter.unusedSimpArgs false
set_option linter.unusedVariables false
open Go Go.RowKit Go.ChangeShapes Go.WideShapes Go.ChangeAt Go.Proofs.YticiffgklmjfnaaGreat.Am
theorem own : ownKnob Tryz.prog.godebug = none := by kernel_rfl
theorem lay : laidOutB Tryz.prog = true := by kernel_rfl
theorem cells5 : Tryz.prog.cellsOf 5 = 1 := by kernel_rfl
set_option maxRecDepth 100000 in
theorem lifted (os : Os) (started : os.Started) (H : Type) (enc : TypeId × Value → H) :
    ReturnsInHanded {} Tryz.checked os 6 .any (Rows.fnWorldConsistentSpec.pre6 enc Tryz.prog Tryz.f6 Rows.fnWorldConsistentRow.domain false) (Rows.fnWorldConsistentSpec.post enc Tryz.prog Tryz.f6 false true false false) := by
  refine returnsInHanded_of_change (C := Tryz.checked) own started (by kernel_rfl) Tryz.func6
    (ChangeSpec.witness6 (enc := enc) (C := Tryz.checked) false ⟨#[], #[.slice none 0 0], []⟩ 8 (by kernel_rfl) (by kernel_rfl) (by kernel_rfl) (by kernel_rfl)) ?_
  intro W base args ds gs before hval hW _ _
  have hW' := hW
  obtain ⟨p, q, hA0, hV, rfl, hfz, hnd⟩ := hW
  have hA : DataW.TrodAll enc Tryz.prog W 0 (fun _ => true) true Tryz.f6.params.toList args.toList ds p := hA0
  rw [Tryz.params6] at hA hval
  obtain ⟨v0, vs0, d0, ds0, p0, q0, hargs, rfl, rfl, h0, r0⟩ := trodAll_cons hA
  obtain ⟨rfl, rfl, rfl⟩ := trodAll_nil r0
  obtain rfl : args = #[v0] := by cases args; simp_all
  obtain ⟨rfl, rfl⟩ := trodVars_none hV
  obtain ⟨c0, hc0, hr0⟩ := bytes_arg Tryz.underlying22 Tryz.underlying5 cells5 (hval 0 _ v0 rfl rfl) h0
  clear hA0
  simp only [List.append_nil] at hW'
  refine (law_calls (lawCon_c c0 hc0) rfl (fun i hi => ?_)).mono fun e W' ⟨he, hb⟩ => ?_
  · obtain rfl : i = 0 := by simp [toDL] at hi; omega
    exact hr0
  subst he
  have hlt : ∀ x ∈ p0, x.block < W.heap.size := fun x hx => hW'.lt x hx
  exact ⟨_, rfl, post_below (pa := p0) (pv := []) hW' (fun _ _ _ => trodAll_cons_mk (shut_bool Tryz.underlying4 _) trodAll_mk0)
    (fun sp hsp => trodAll_mk1 (WideElems.Trod_stays lay (by kernel_rfl) (of_decide_eq_true (by kernel_rfl)) h0 (fun x hx => hb.same (hlt x hx)) (fun x hx => hsp x hx)))
    (fun _ _ => rfl) (by simp) hb (ok_one (by kernel_rfl) rfl (okWide_bool_mk Tryz.underlying4 _))⟩
theorem jA : (Rows.fnWorldConsistentRow.inPlace == Tryz.pinned.checked.prog.inPlace 6) = true := by kernel_rfl
theorem jB : (Rows.fnWorldConsistentRow.unfollowed == Tryz.pinned.checked.prog.unfollowed 6) = true := by kernel_rfl
theorem jC : (Rows.fnWorldConsistentRow.recurses == Tryz.pinned.checked.prog.recurses 6) = true := by kernel_rfl
theorem jD : (Rows.fnWorldConsistentRow.named == Tryz.pinned.checked.prog.varsNamed 6) = true := by kernel_rfl
theorem jE : Tryz.pinned.checked.prog.mayEnter = true := by kernel_rfl
theorem jF : (Rows.fnWorldConsistentRow.lifted == Tryz.pinned.checked.prog.liftsFinal) = true := by kernel_rfl
theorem jG : (Tryz.pinned.checked.prog.make == some Rows.fnWorldConsistentRow.make) = true := by kernel_rfl
theorem closed : joinedFacts Tryz.pinned.checked.prog 6 Tryz.f6 Rows.fnWorldConsistentSpec Rows.fnWorldConsistentRow = true := by
  unfold joinedFacts
  rw [jA, jB, jC, jD, jE, jF, jG]
  exact of_decide_eq_true (by kernel_rfl)
theorem holds : Rows.FnWorldConsistentSaid :=
  OpenClaim.holds_of_wide 6 Tryz.f6 rfl rfl rfl rfl rfl rfl rfl ⟨rfl, rfl, rfl, rfl, rfl⟩ rfl rfl rfl rfl rfl (by kernel_rfl) Tryz.func6 closed
    (of_decide_eq_true (by kernel_rfl)) (by unfold Func.isWrapper; first | (rw [if_pos (by decide +kernel)]; kernel_rfl) | (rw [if_neg (by decide +kernel)]; exact ⟨rfl, rfl⟩))
    (fun os started H enc _ => lifted os started H enc)
#print axioms holds
end Go.Proofs.YticiffgklmjfnaaGreat.rowCon
