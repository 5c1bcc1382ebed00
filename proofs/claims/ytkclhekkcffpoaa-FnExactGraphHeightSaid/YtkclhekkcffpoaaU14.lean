/- The plain machine with types: what an operation looks at. -/
import Derived.Test.YtkclhekkcffpoaaU13
namespace Go.Proofs.Ytkclhekkcffpoaa.Am
set_option linter.unusedSimpArgs false
set_option linter.unusedVariables false
open Go Go.RowKit

variable {P : Program} {N : Nat} {Θ : TT} {t : VT} {h : VH} {n : Nat}

mutual
theorem fwd_ids (g : HL) : ∀ (d : D), ∀ b ∈ allIds (fwd g d), b ∈ allIds d ∨ ∃ c ∈ allIds d, look g c = some (.moved b)
  | .ref c, b, hb => by
    simp only [fwd] at hb
    split at hb
    · rename_i c' hc
      simp only [allIds, List.mem_singleton] at hb
      subst hb
      exact .inr ⟨c, by simp [allIds], hc⟩
    · cases hb
    · exact .inl hb
  | .ptr c o, b, hb => by
    simp only [fwd] at hb
    split at hb
    · rename_i c' hc
      simp only [allIds, List.mem_singleton] at hb
      subst hb
      exact .inr ⟨c, by simp [allIds], hc⟩
    · split at hb <;> cases hb
    · exact .inl hb
  | .eptr c i o, b, hb => by
    simp only [fwd] at hb
    split at hb
    · rename_i c' hc
      simp only [allIds, List.mem_singleton] at hb
      subst hb
      exact .inr ⟨c, by simp [allIds], hc⟩
    · exact .inl hb
  | .vref c o q, b, hb => by
    simp only [fwd] at hb
    split at hb
    · rename_i c' hc
      simp only [allIds, List.mem_singleton] at hb
      subst hb
      exact .inr ⟨c, by simp [allIds], hc⟩
    · exact .inl hb
  | .ifc T d, b, hb => by
    simp only [fwd, allIds] at hb
    rcases fwd_ids g d b hb with h1 | ⟨c, h1, h2⟩
    · exact .inl (by simpa only [allIds] using h1)
    · exact .inr ⟨c, by simpa only [allIds] using h1, h2⟩
  | .clo f cs, b, hb => by
    simp only [fwd, allIds] at hb
    rcases fwdL_ids g cs b hb with h1 | ⟨c, h1, h2⟩
    · exact .inl (by simpa only [allIds] using h1)
    · exact .inr ⟨c, by simpa only [allIds] using h1, h2⟩
  | .agg cs, b, hb => by
    simp only [fwd, allIds] at hb
    rcases fwdL_ids g cs b hb with h1 | ⟨c, h1, h2⟩
    · exact .inl (by simpa only [allIds] using h1)
    · exact .inr ⟨c, by simpa only [allIds] using h1, h2⟩
  | .tup cs, b, hb => by
    simp only [fwd, allIds] at hb
    rcases fwdL_ids g cs b hb with h1 | ⟨c, h1, h2⟩
    · exact .inl (by simpa only [allIds] using h1)
    · exact .inr ⟨c, by simpa only [allIds] using h1, h2⟩
  | .int .., b, hb | .bool _, b, hb | .str _, b, hb | .lst _, b, hb | .box _, b, hb | .nilp, b, hb | .nils, b, hb | .nilf, b, hb | .nili, b, hb | .iptr .., b, hb | .undef, b, hb | .junk, b, hb => by simp [fwd, allIds] at hb
theorem fwdL_ids (g : HL) : ∀ (l : List D), ∀ b ∈ allIdsL (fwdL g l), b ∈ allIdsL l ∨ ∃ c ∈ allIdsL l, look g c = some (.moved b)
  | [], b, hb => by simp [fwdL, allIdsL] at hb
  | d :: l, b, hb => by
    simp only [fwdL, allIdsL, List.mem_append] at hb ⊢
    rcases hb with hb | hb
    · rcases fwd_ids g d b hb with h1 | ⟨c, h1, h2⟩
      · exact .inl (.inl h1)
      · exact .inr ⟨c, .inl h1, h2⟩
    · rcases fwdL_ids g l b hb with h1 | ⟨c, h1, h2⟩
      · exact .inl (.inr h1)
      · exact .inr ⟨c, .inr h1, h2⟩
end
/-- where the groups have gone -/
def movV (h : VH) : List Nat → List Nat
  | [] => []
  | b :: l => match lookO h b with
    | some (.moved k _) => k :: movV h l
    | _ => movV h l
theorem movV_ok : ∀ {l : List Nat} {b k i : Nat}, b ∈ l → look h b = some (.moved k i) → k ∈ movV h l
  | c :: l, b, k, i, hb, hl => by
    simp only [movV]
    rcases List.mem_cons.1 hb with rfl | hb
    · rw [lookO_ok, hl]; simp
    · have := movV_ok hb hl
      split
      · exact List.mem_cons_of_mem _ this
      · exact this
theorem moved_at {c b : Id} (hc : look (toH h) c = some (.moved b)) : look h c.1 = some (.moved b.1 b.2) := by
  rw [look_toH] at hc
  obtain ⟨x, h1, h2⟩ := Option.bind_eq_some_iff.1 hc
  rw [h1]
  have hm := List.mem_of_getElem? h2
  cases x <;> simp only [VB.blks, List.mem_singleton, List.mem_map, reduceCtorEq, and_false, exists_false, Blk.moved.injEq] at hm
  rw [hm]
def seeV1 (t : VT) (h : VH) (x : Operand) : List Nat := match x with
  | .tmp k => (match lookO t k with | some v => grpsV v ++ movV h (grpsV v) | none => [])
  | _ => []
def seeVs (t : VT) (h : VH) : List Operand → List Nat
  | [] => []
  | x :: l => seeV1 t h x ++ seeVs t h l
theorem ofVal_ids' {v : Value} {d : D} (h : ofVal v = some d) (g : HL) : allIds d = [] ∧ allIds (fwd g d) = [] := by
  unfold ofVal at h
  split at h <;> first | (simp only [Option.some.injEq] at h; subst h; exact ⟨by simp [allIds], by simp [fwd, allIds]⟩) | cases h
theorem seeV1_ok (x : Operand) : ∀ k ∈ seeO (toT t) (toH h) x, k ∈ seeV1 t h x := by
  intro k hk
  unfold seeO at hk
  cases x with
  | tmp j =>
    simp only [evalD, look_toT] at hk
    simp only [seeV1, lookO_ok]
    cases hl : look t j with
    | none => rw [hl] at hk; cases hk
    | some v =>
      rw [hl] at hk
      simp only [Option.map_some] at hk
      rcases List.mem_append.1 hk with hk | hk
      · obtain ⟨b, hb, rfl⟩ := List.mem_map.1 hk
        exact List.mem_append_left _ (grpsV_ok v b hb)
      · obtain ⟨b, hb, rfl⟩ := List.mem_map.1 hk
        rcases fwd_ids _ _ b hb with h1 | ⟨c, h1, h2⟩
        · exact List.mem_append_left _ (grpsV_ok v b h1)
        · exact List.mem_append_right _ (movV_ok (grpsV_ok v c h1) (moved_at h2))
  | const v =>
    simp only [evalD] at hk
    cases hv : ofVal v with
    | none => rw [hv] at hk; cases hk
    | some d =>
      rw [hv] at hk
      obtain ⟨e1, e2⟩ := ofVal_ids' hv (toH h)
      simp [e1, e2, grp] at hk
  | _ => simp [evalD] at hk
theorem seeVs_ok : ∀ (l : List Operand), ∀ k ∈ seeOs (toT t) (toH h) l, k ∈ seeVs t h l
  | [], k, hk => by cases hk
  | x :: l, k, hk => by
    simp only [seeOs, List.flatMap_cons, List.mem_append] at hk
    simp only [seeVs, List.mem_append]
    rcases hk with hk | hk
    · exact .inl (seeV1_ok x k hk)
    · exact .inr (seeVs_ok l k hk)
def seeG (t : VT) (h : VH) (op : Op) : List Nat := match looks op with | true => seeVs t h op.operands.toList | false => []
theorem seeG_ok (op : Op) : ∀ k ∈ see (toT t) (toH h) op, k ∈ seeG t h op := by
  intro k hk
  unfold see at hk
  unfold seeG
  cases hl : looks op with
  | false => rw [hl] at hk; cases hk
  | true => rw [hl] at hk; exact seeVs_ok _ k hk

/-- what a step does -/
def StepOK (P : Program) (N : Nat) (o : Oper) (t : VT) (h : VH) (r : V) (vu : VH) (gl : List Nat) : Prop := ∃ u, UpdOK h u vu ∧ ∀ f : List Nat, (∀ k ∈ gl, k ∈ f) → OpS P N o (toT t) (toH h) r.toD u f
theorem fresh_id (g : HL) : ∃ n : Nat, look g (n, 0) = none := by
  have key : ∀ (l : HL), ∃ m, ∀ p ∈ l, p.1.1 < m := by
    intro l
    induction l with
    | nil => exact ⟨0, by simp⟩
    | cons p l ih =>
      obtain ⟨m, hm⟩ := ih
      refine ⟨max m (p.1.1 + 1), fun q hq => ?_⟩
      rcases List.mem_cons.1 hq with rfl | hq
      · omega
      · have := hm q hq; omega
  obtain ⟨m, hm⟩ := key g
  refine ⟨m, ?_⟩
  cases hl : look g (m, 0) with
  | none => rfl
  | some x => have := hm _ (look_mem hl); simp only at this; omega
theorem opS_aop0 {t : List (Nat × D)} {h : HL} {m : Bool} {o : Oper} {d : D} {u : HL} {f : List Nat} (hd : ∀ n, aop P m o.op t h n = some (d, u)) (hf : ∀ k ∈ see t h o.op, k ∈ f) : OpS P N o t h d u f := by
  intro t' h' ht ha w0 S A ρ a w s
  obtain ⟨n, hn⟩ := fresh_id h'
  refine s.op (m := m) (n := n) ?_ hn
  rw [← aop_h (t := t') (h := h) (fs := f) ?_ ha, ← aop_t ht]
  · exact hd n
  · have : see t' h o.op = see t h o.op := by
      unfold see
      cases hl : looks o.op with
      | false => rfl
      | true =>
        simp only [cond_true, seeOs]
        have hx : ∀ x ∈ o.op.operands.toList, seeO t' h x = seeO t h x := fun x hx => by unfold seeO; rw [ht x (Array.mem_toList_iff.1 hx)]
        generalize o.op.operands.toList = l at hx
        induction l with
        | nil => rfl
        | cons x l ih => rw [List.flatMap_cons, List.flatMap_cons, hx x (List.mem_cons_self ..), ih fun y hy => hx y (List.mem_cons_of_mem _ hy)]
    rw [this]
    exact hf
theorem step0 {m : Bool} {o : Oper} {r : V} {u : HL} {vu : VH} (hd : ∀ n, aop P m o.op (toT t) (toH h) n = some (r.toD, u)) (hu : UpdOK h u vu) : StepOK P N o t h r vu (seeG t h o.op) :=
  ⟨u, hu, fun f hf => opS_aop0 hd fun k hk => hf k (seeG_ok _ k hk)⟩
theorem stepN {m : Bool} {o : Oper} {r : V} {u : HL} {vu : VH} (hn : ∀ c : Id, n ≤ c.1 → look (toH h) c = none) (hd : aop P m o.op (toT t) (toH h) n = some (r.toD, u)) (hu : UpdOK h u vu) : StepOK P N o t h r vu (n :: seeG t h o.op) :=
  ⟨u, hu, fun f hf => opS_aop (hn (n, 0) (Nat.le_refl _)) hd (fun k hk => hf k (List.mem_cons_of_mem _ (seeG_ok _ k hk))) (hf n (List.mem_cons_self ..))⟩
/-- .. with something done ahead -/
theorem step_pre {o : Oper} {r : V} {u1 : HL} {v1 v2 : VH} {g1 g2 : List Nat} (hp : ∀ f : List Nat, (∀ k ∈ g1, k ∈ f) → PreOK P N h u1 v1 f) (hs : StepOK P N o t (puts v1 h) r v2 g2) : StepOK P N o t h r (v1 ++ v2) (g1 ++ g2) := by
  obtain ⟨u, h1, h2⟩ := hs
  have p0 := hp g1 fun k hk => hk
  refine ⟨u1 ++ u, upd_app p0.1 h1, fun f hf => (hp f fun k hk => hf k (List.mem_append_left _ hk)).2 _ _ _ _ (opS_congr (fun b => (p0.1.1 b).symm) (h2 f fun k hk => hf k (List.mem_append_right _ hk)))⟩
theorem step_mono {o : Oper} {r : V} {vu : VH} {g g' : List Nat} (hs : StepOK P N o t h r vu g) (hg : ∀ k ∈ g, k ∈ g') : StepOK P N o t h r vu g' := by
  obtain ⟨u, h1, h2⟩ := hs
  exact ⟨u, h1, fun f hf => h2 f fun k hk => hf k (hg k hk)⟩
/-- a call -/
theorem step_call {o : Oper} {f : FuncId} {vs : List V} {os fs : List Nat} {K : V → VH → List Nat → Prop} (hn : ∀ c : Id, n ≤ c.1 → look (toH h) c = none) (hc : calls (toT t) (toH h) o f (toDL vs)) (hk : callO P h n f vs os fs K) :
    ∃ r vu gl, StepOK P N o t h r vu (seeVs t h o.op.operands.toList ++ gl) ∧ K r vu gl := by
  obtain ⟨r, u, vu, gl, h1, h2, h3⟩ := callO_ok hn hk
  refine ⟨r, vu, gl, ⟨u, h2, fun f' hf' => ?_⟩, h3⟩
  obtain ⟨c, hc'⟩ := h1 f' fun k hk => hf' k (List.mem_append_right _ hk)
  exact opS_call hn hc c (fun k hk => hf' k (List.mem_append_left _ (seeVs_ok _ k hk))) hc'
end Go.Proofs.Ytkclhekkcffpoaa.Am
