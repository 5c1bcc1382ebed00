/- The plain machine with types: a call. -/
import Derived.Test.YtkclhekkcffpoaaU11
namespace Go.Proofs.Ytkclhekkcffpoaa.Am
set_option linter.unusedSimpArgs false
set_option linter.unusedVariables false
open Go Go.RowKit

variable {P : Program} {os fs : List Nat} {n : Nat} {h : VH}

theorem nodup_map {α β : Type} {f : α → β} {l : List α} (hf : ∀ a b, f a = f b → a = b) (h : l.Nodup) : (l.map f).Nodup := List.pairwise_map.2 (List.Pairwise.imp (fun hne e => hne (hf _ _ e)) h)
theorem look_puts_nd {κ α : Type} [DecidableEq κ] {us g : List (κ × α)} (hn : (us.map (·.1)).Nodup) (b : κ) : look (puts us g) b = match look us b with | some y => some y | none => look g b := by
  cases hl : look us b with
  | some y => exact look_puts_mem us g b y hn (look_mem hl)
  | none =>
    refine look_puts_other us g b fun x hx he => ?_
    have := mem_look hn (k := x.1) (a := x.2) hx
    rw [he, hl] at this
    cases this
theorem look_puts_congr2 {κ α : Type} [DecidableEq κ] (us : List (κ × α)) {g g' : List (κ × α)} (b : κ) (hg : look g b = look g' b) : look (puts us g) b = look (puts us g') b := by
  induction us generalizing g g' with
  | nil => exact hg
  | cons x us ih =>
    show look (puts us (put x.1 x.2 g)) b = look (puts us (put x.1 x.2 g')) b
    refine ih ?_
    rw [look_put, look_put, hg]
/-- the names of the blocks are different -/
theorem toHx_keys : ∀ (s : List Nat) (l : VH), (∀ p ∈ toHx s l, p.1.1 ∉ s) ∧ ((toHx s l).map (·.1)).Nodup
  | s, [] => ⟨by simp [toHx], by simp [toHx]⟩
  | s, (k, x) :: l => by
    obtain ⟨ih1, ih2⟩ := toHx_keys (k :: s) l
    have hfam : ∀ p ∈ fam k x.blks, p.1.1 = k := by
      intro p hp
      obtain ⟨q, _, rfl⟩ := List.mem_map.1 hp
      rfl
    have hnd : ((fam k x.blks).map (·.1)).Nodup := by
      have e : ∀ (l : List Blk) (q : Nat), (((l.zipIdx q).map fun p : Blk × Nat => (((k, p.2), p.1) : Id × Blk)).map (·.1)) = (List.range' q l.length).map fun i => ((k, i) : Id) := by
        intro l
        induction l with
        | nil => intro q; rfl
        | cons y l ih => intro q; simp only [List.zipIdx_cons, List.map_cons, List.length_cons, List.range'_succ, ih]
      unfold fam
      rw [e]
      exact nodup_map (fun a b hab => by simpa using hab) List.nodup_range'
    simp only [toHx]
    cases hc : s.contains k with
    | true =>
      simp only [cond_true, List.nil_append]
      exact ⟨fun p hp hs => ih1 p hp (List.mem_cons_of_mem _ hs), ih2⟩
    | false =>
      have hk : k ∉ s := by simpa using hc
      simp only [cond_false, List.map_append]
      refine ⟨fun p hp => ?_, List.nodup_append.2 ⟨hnd, ih2, fun a ha b hb he => ?_⟩⟩
      · rcases List.mem_append.1 hp with hp | hp
        · rw [hfam p hp]; exact hk
        · exact fun hs => ih1 p hp (List.mem_cons_of_mem _ hs)
      · obtain ⟨p, hp, rfl⟩ := List.mem_map.1 ha
        obtain ⟨q, hq, rfl⟩ := List.mem_map.1 hb
        have := ih1 q hq
        rw [← he, hfam p hp] at this
        exact this (List.mem_cons_self ..)
theorem toH_keys (l : VH) : ((toH l).map (·.1)).Nodup := (toHx_keys [] l).2
theorem mem_toH {l : VH} {p : Id × Blk} (hp : p ∈ toH l) : ∃ x, look l p.1.1 = some x ∧ p.2 ∈ x.blks := by
  have h1 := mem_look (toH_keys l) (k := p.1) (a := p.2) hp
  rw [look_toH] at h1
  obtain ⟨x, h2, h3⟩ := Option.bind_eq_some_iff.1 h1
  exact ⟨x, h2, List.mem_of_getElem? h3⟩
theorem look_renH {g : Id → Id} (hg : ∀ a b, g a = g b → a = b) : ∀ (l : HL), (∀ b, look (renH g l) (g b) = (look l b).map (renB g)) ∧ ∀ c, (∀ b, look l b ≠ none → g b ≠ c) → look (renH g l) c = none
  | [] => ⟨fun b => rfl, fun c _ => rfl⟩
  | (b0, x) :: l => by
    obtain ⟨h1, h2⟩ := look_renH hg l
    refine ⟨fun b => ?_, fun c hc => ?_⟩
    · show look ((g b0, renB g x) :: renH g l) (g b) = _
      simp only [look]
      by_cases e : b = b0
      · subst e; simp
      · rw [if_neg fun he => e (hg _ _ he), if_neg e]
        exact h1 b
    · show look ((g b0, renB g x) :: renH g l) c = none
      simp only [look]
      rw [if_neg fun he => hc b0 (by simp [look]) he.symm]
      refine h2 c fun b hb => hc b ?_
      simp only [look]
      split
      · simp
      · exact hb
theorem renH_keys {g : Id → Id} (hg : ∀ a b, g a = g b → a = b) {l : HL} (hn : (l.map (·.1)).Nodup) : ((renH g l).map (·.1)).Nodup := by
  unfold renH
  rw [List.map_map]
  have : (fun x : Id × Blk => x.1) ∘ (fun p : Id × Blk => (g p.1, renB g p.2)) = g ∘ (fun x : Id × Blk => x.1) := rfl
  rw [this, ← List.map_map]
  exact nodup_map hg hn
/-- what comes back, put under the caller's names -/
theorem upd_ren {g : Nat → Nat} (hg : ∀ a b, g a = g b → a = b) {hout u h0 : VH} {H : HL} (hH : ∀ b, look H b = look (toH h0) b) (hr : RenVH g hout u) (hn : (hout.map (·.1)).Nodup) (hc : ∀ k x, look hout k = some x → ∀ j, x.blks.length ≤ j → look (toH h0) (g k, j) = none) :
    (∀ b, look (puts (renH (gI g) (toH hout)) H) b = look (toH (puts u h0)) b) ∧ ∀ x ∈ renH (gI g) (toH hout), x.1.1 ∈ u.map (·.1) := by
  have hgI : ∀ a b : Id, gI g a = gI g b → a = b := by
    rintro ⟨a1, a2⟩ ⟨b1, b2⟩ he
    simp only [gI, Prod.mk.injEq] at he ⊢
    exact ⟨hg _ _ he.1, he.2⟩
  have hun : (u.map (·.1)).Nodup := by
    rw [hr.keys]
    have : (fun p : Nat × VB => g p.1) = g ∘ (fun x : Nat × VB => x.1) := rfl
    rw [this, ← List.map_map]
    exact nodup_map hg hn
  obtain ⟨q1, q2⟩ := look_renH hgI (toH hout)
  obtain ⟨r1, r2⟩ := hr.look hg
  refine ⟨fun b => ?_, fun x hx => ?_⟩
  · rw [look_puts_nd (renH_keys hgI (toH_keys hout)), look_toH, look_puts_nd hun, hH]
    by_cases hex : ∃ k x, look hout k = some x ∧ g k = b.1
    · obtain ⟨k, x, hk, he⟩ := hex
      obtain ⟨y, y1, y2⟩ := (r1 k).2 x hk
      have e1 : b = gI g (k, b.2) := by simp [gI, he]
      rw [← he, y1, he]
      have e2 : look (renH (gI g) (toH hout)) b = (x.blks[b.2]?).map (renB (gI g)) := by
        rw [e1, q1, look_toH, hk]; rfl
      rw [e2]
      simp only [Option.bind_some, y2, List.getElem?_map]
      cases hx : x.blks[b.2]? with
      | some d => rfl
      | none =>
        simp only [Option.map_none]
        have := hc k x hk b.2 (by simpa using hx)
        rw [he] at this
        exact this
    · have e1 : look u b.1 = none := r2 b.1 fun k hk he => hex (by
        cases hl : look hout k with
        | none => exact absurd hl hk
        | some x => exact ⟨k, x, hl, he⟩)
      have e2 : look (renH (gI g) (toH hout)) b = none := q2 b fun c hcl he => hex (by
        rw [look_toH] at hcl
        cases hl : look hout c.1 with
        | none => rw [hl] at hcl; exact absurd rfl hcl
        | some x => exact ⟨c.1, x, hl, by rw [← he]⟩)
      rw [e1, e2]
      exact look_toH h0 b
  · obtain ⟨p, hp, rfl⟩ := List.mem_map.1 hx
    obtain ⟨x, h1, _⟩ := mem_toH hp
    obtain ⟨y, h2, _⟩ := (r1 p.1.1).2 x h1
    exact List.mem_map.2 ⟨_, look_mem h2, rfl⟩

/-! ### What is only read is no more written -/
def wsK (h : VH) : List Nat → (VH → Prop) → Prop
  | [], K => K []
  | b :: l, K => wsK h l fun u => (match lookO h b with
    | some (.row _ t xs) => K ((b, .froz t xs) :: u)
    | _ => K u)
def wsU (h : VH) : List Nat → VH
  | [] => []
  | b :: l => match lookO h b with
    | some (.row _ t xs) => (b, .froz t xs) :: wsU h l
    | _ => wsU h l
theorem wsK_ok : ∀ {l : List Nat} {K : VH → Prop}, wsK h l K → K (wsU h l)
  | [], K, hk => hk
  | b :: l, K, hk => by
    have := wsK_ok (l := l) hk
    simp only [wsU]
    cases hl : lookO h b with
    | none => rw [hl] at this; exact this
    | some x => rw [hl] at this; cases x <;> exact this
theorem look_wsU : ∀ (ws : List Nat) (g : VH) (b : Nat), look (puts (wsU h ws) g) b = if b ∈ ws then (match look h b with | some (.row _ t xs) => some (.froz t xs) | _ => look g b) else look g b
  | [], g, b => by simp [wsU, puts]
  | c :: ws, g, b => by
    simp only [wsU]
    rw [lookO_ok]
    split
    · rename_i E t xs hc
      show look (puts (wsU h ws) (put c (.froz t xs) g)) b = _
      rw [look_wsU ws, look_put]
      by_cases hb : b = c
      · subst hb
        simp only [if_true, List.mem_cons, true_or, hc]
        split
        · rfl
        · rfl
      · by_cases hm : b ∈ ws
        · simp [hm, hb]
        · simp [hm, hb]
    · rename_i hc
      rw [look_wsU ws]
      by_cases hb : b = c
      · subst hb
        have : (match look h b with | some (VB.row _ t xs) => some (VB.froz t xs) | _ => look g b) = look g b := by
          split
          · rename_i e; exact absurd e (hc _ _ _)
          · rfl
        simp [this]
      · simp [hb]
theorem upd_ws {ws : List Nat} (hw : ∀ b ∈ ws, RdOK h os b) : UpdOK h (frz (toH h) (ws.map fun b => (b, 0))) (wsU h ws) ∧ ∀ b ∈ ws.map (fun b => ((b, 0) : Id)), ∀ x, look (toH h) b = some x → x.mutable = true → (frzB (toH h) b).isSome = true := by
  have fz : ∀ b E t, ∀ xs : List (Ty.den t), look h b = some (.row E t xs) → t.pure = true → frzB (toH h) (b, 0) = some (.froz (xs.map (encD t))) := by
    intro b E t xs hb hp
    have hl := look_at (i := 0) hb (d := .row E (xs.map (encD t))) rfl
    simp [frzB, hl, row_pure hp]
  refine ⟨⟨fun b => ?_, fun x hx => ?_⟩, fun b hb x hx hmu => ?_⟩
  · obtain ⟨b1, b2⟩ := b
    rw [look_puts_frz, look_toH (puts (wsU h ws) h), look_wsU]
    by_cases hm : b1 ∈ ws
    · rw [if_pos hm]
      rcases (hw b1 hm).2 with ⟨E, t, xs, hp, hb⟩ | ⟨t, xs, hb⟩ | ⟨t, x, hb⟩
      · rw [hb]
        simp only [Option.bind_some, VB.blks]
        cases b2 with
        | zero =>
          rw [if_pos (List.mem_map.2 ⟨b1, hm, rfl⟩), fz b1 E t xs hb hp]
          rfl
        | succ j =>
          rw [if_neg (by simp)]
          exact only0 hb rfl (j + 1) (by simp)
      · rw [hb]
        have e : frzB (toH h) (b1, b2) = none := by
          unfold frzB
          rw [look_toH, hb]
          simp only [Option.bind_some, VB.blks]
          cases b2 <;> simp
        rw [e]
        simp only [ite_self]
        rw [look_toH, hb]
      · rw [hb]
        have e : frzB (toH h) (b1, b2) = none := by
          unfold frzB
          rw [look_toH, hb]
          simp only [Option.bind_some, VB.blks]
          cases b2 <;> simp
        rw [e]
        simp only [ite_self]
        rw [look_toH, hb]
    · rw [if_neg (fun hmem => by obtain ⟨c, hc, he⟩ := List.mem_map.1 hmem; simp only [Prod.mk.injEq] at he; exact hm (he.1 ▸ hc)), if_neg hm, look_toH]
  · obtain ⟨c, hc, hcx⟩ := List.mem_filterMap.1 hx
    obtain ⟨y, hy, rfl⟩ := Option.map_eq_some_iff.1 hcx
    obtain ⟨b, hb, rfl⟩ := List.mem_map.1 hc
    show b ∈ (wsU h ws).map (·.1)
    rcases (hw b hb).2 with ⟨E, t, xs, hp, hl⟩ | ⟨t, xs, hl⟩ | ⟨t, x, hl⟩
    · have : look (puts (wsU h ws) []) b = some (.froz t xs) := by rw [look_wsU, if_pos hb, hl]
      rcases Classical.em (b ∈ (wsU h ws).map (·.1)) with h1 | h1
      · exact h1
      · rw [look_puts_other _ _ _ fun x hx e => h1 (List.mem_map.2 ⟨x, hx, e⟩)] at this
        cases this
    · exfalso
      have := look_at (i := 0) hl (d := .froz (xs.map (encD t))) rfl
      simp [frzB, this] at hy
    · exfalso
      have := look_at (i := 0) hl (d := .fvar (encD t x).cells) rfl
      simp [frzB, this] at hy
  · obtain ⟨c, hc, rfl⟩ := List.mem_map.1 hb
    rcases (hw c hc).2 with ⟨E, t, xs, hp, hl⟩ | ⟨t, xs, hl⟩ | ⟨t, x', hl⟩
    · rw [fz c E t xs hl hp]; rfl
    · have := look_at (i := 0) hl (d := .froz (xs.map (encD t))) rfl
      rw [this] at hx; cases hx; cases hmu
    · have := look_at (i := 0) hl (d := .fvar (encD t x').cells) rfl
      rw [this] at hx; cases hx; cases hmu
end Go.Proofs.Ytkclhekkcffpoaa.Am
