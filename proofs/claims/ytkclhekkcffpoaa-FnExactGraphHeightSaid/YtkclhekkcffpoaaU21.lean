/- The plain machine with types: what is no more wanted is forgotten, put together. -/
import Derived.Test.YtkclhekkcffpoaaU20
namespace Go.Proofs.Ytkclhekkcffpoaa.Am
set_option linter.unusedSimpArgs false
set_option linter.unusedVariables false
open Go Go.RowKit

variable {P : Program} {N : Nat} {K : Id → Prop} {os : List Nat} {n : Nat} {h : VH} {σ : VSt}

/-- the kept single blocks -/
def gcS (os : List Nat) (h : VH) : List Nat → Nat → (VH → Prop) → Prop
  | [], _, K => K []
  | b :: l, i, K => blkK h b fun x => gcB os h x fun y => natK (i + 1) fun j => gcS os h l j fun r => K ((i, y) :: r)
theorem gcS_ok : ∀ {l : List Nat} {i : Nat} {K : VH → Prop}, gcS os h l i K → ∃ hs, (∀ k x, look hs k = some x → ∃ m, k = i + m ∧ m < l.length) ∧
      (∀ m b, l[m]? = some b → ∃ x y d d', look h b = some x ∧ look hs (i + m) = some y ∧ x.blks = [d] ∧ y.blks = [d'] ∧ ∀ h', KeepOK os h h' → RnB (toH h) (gI (gN os n)) (toH h') d d') ∧ K hs
  | [], i, K, hk => ⟨[], (fun k x hx => by cases hx), by simp, hk⟩
  | b :: l, i, K, hk => by
    obtain ⟨x, hx, hk⟩ := blkK_ok hk
    obtain ⟨y, d, d', e1, e2, e3, hk⟩ := gcB_ok (n := n) hk
    have hk := natK_ok hk
    obtain ⟨hs, h3, h4, hk⟩ := gcS_ok hk
    refine ⟨(i, y) :: hs, fun k z hz => ?_, fun m b' hm => ?_, hk⟩
    · simp only [look] at hz
      split at hz
      · exact ⟨0, by omega, by simp⟩
      · obtain ⟨m, e1, e2⟩ := h3 k z hz
        exact ⟨m + 1, by omega, by simpa using e2⟩
    · cases m with
      | zero =>
        simp only [List.getElem?_cons_zero, Option.some.injEq] at hm
        subst hm
        exact ⟨x, y, d, d', hx, by simp [look], e1, e2, e3⟩
      | succ m =>
        obtain ⟨z, z', f1, f2, q1, q2, q3⟩ := h4 m b' (by simpa using hm)
        refine ⟨z, z', f1, f2, q1, ?_, q3⟩
        simp only [look]
        rw [if_neg (by omega), show i + (m + 1) = i + 1 + m by omega]
        exact q2
/-- the families -/
def gcF (h : VH) : List Nat → (VH → Prop) → Prop
  | [], K => K []
  | k :: l, K => match lookO h k with
    | some x => Chk (!x.sgl && lt4 x.fams) (gcF h l fun r => K ((k, x) :: r))
    | none => gcF h l K
theorem gcF_ok : ∀ {l : List Nat} {K : VH → Prop}, gcF h l K → ∃ hf, (∀ k x, look hf k = some x → k ∈ l ∧ look h k = some x ∧ x.sgl = false ∧ ∀ j ∈ x.fams, j < 4) ∧ (∀ k ∈ l, look hf k = look h k) ∧ K hf
  | [], K, hk => ⟨[], (fun k x hx => by cases hx), by simp, hk⟩
  | k :: l, K, hk => by
    simp only [gcF, lookO_ok] at hk
    cases hx : look h k with
    | none =>
      rw [hx] at hk
      obtain ⟨hf, h1, h2, hk⟩ := gcF_ok hk
      refine ⟨hf, fun j y hy => ?_, fun j hj => ?_, hk⟩
      · obtain ⟨q1, q2⟩ := h1 j y hy
        exact ⟨List.mem_cons_of_mem _ q1, q2⟩
      · by_cases hjl : j ∈ l
        · exact h2 j hjl
        · obtain rfl : j = k := (List.mem_cons.1 hj).resolve_right hjl
          rw [hx]
          cases hf' : look hf j with
          | none => rfl
          | some y => exact absurd (h1 j y hf').1 hjl
    | some x =>
      rw [hx] at hk
      obtain ⟨c, hk⟩ := hk.ok
      simp only [Bool.and_eq_true, Bool.not_eq_true'] at c
      obtain ⟨hf, h1, h2, hk⟩ := gcF_ok hk
      refine ⟨(k, x) :: hf, fun j y hy => ?_, fun j hj => ?_, hk⟩
      · simp only [look] at hy
        split at hy
        · rename_i e
          cases hy
          subst e
          exact ⟨List.mem_cons_self .., hx, c.1, lt4_ok c.2⟩
        · obtain ⟨q1, q2⟩ := h1 j y hy
          exact ⟨List.mem_cons_of_mem _ q1, q2⟩
      · simp only [look]
        by_cases e : j = k
        · rw [if_pos e, e, hx]
        · rw [if_neg e]
          exact h2 j ((List.mem_cons.1 hj).resolve_left e)
theorem rn_famB {h' : VH} (H : KeepOK os h h') {x : VB} (hs : x.sgl = false) (hf : ∀ j ∈ x.fams, j < 4) : ∀ d ∈ x.blks, RnB (toH h) (gI (gN os n)) (toH h') d d := by
  intro d hd
  cases x <;> simp [VB.sgl] at hs
  · rename_i T t xs
    obtain ⟨e, _, rfl⟩ := List.mem_map.1 hd
    exact rn_var H T (rn_cells H hf e)
  · rename_i T m t xss
    obtain ⟨xs, _, rfl⟩ := List.mem_map.1 hd
    refine rn_var H T fun c hc => ?_
    obtain ⟨e, _, rfl⟩ := List.mem_map.1 hc
    exact rn_enc H hf e
  · rename_i E t xss
    obtain ⟨xs, _, rfl⟩ := List.mem_map.1 hd
    exact rn_row H hf E xs
/-- the list begins with i, i+1 .. -/
def prefB : Nat → Nat → List Nat → Bool
  | 0, _, _ => true
  | m + 1, i, b :: l => Nat.beq b i && prefB m (i + 1) l
  | _ + 1, _, [] => false
theorem prefB_ok : ∀ {m i : Nat} {l : List Nat}, prefB m i l = true → ∀ j, j < m → l[j]? = some (i + j)
  | 0, i, l, _, j, hj => by omega
  | m + 1, i, [], hp, j, hj => by cases hp
  | m + 1, i, b :: l, hp, j, hj => by
    simp only [prefB, Bool.and_eq_true] at hp
    cases j with
    | zero => simp [Nat.eq_of_beq_eq_true hp.1]
    | succ j =>
      have := prefB_ok hp.2 j (by omega)
      rw [show i + 1 + j = i + (j + 1) by omega] at this
      simpa using this
/-- what is handed over: m single blocks, and families -/
def KB (m : Nat) (K : Id → Prop) : Prop := ∀ b, K b → b.1 < 4 + m
/-- the blocks os and the families, under new names -/
def keepB (m : Nat) (os : List Nat) (h : VH) (n : Nat) (K : VH → Prop) : Prop := Chk (osOK os n && prefB m 4 os) (gcF h [0, 1, 2, 3] fun hf => gcS os h os 4 fun hs => appK hf hs K)
theorem keepB_ok {m : Nat} {Q : VH → Prop} (hk : keepB m os h n Q) : ∃ h', KeepOK os h h' ∧ Ren (toH h) (gI (gN os n)) (toH h') ∧ (∀ K, KB m K → ∀ b, K b → Live (toH h) b → gI (gN os n) b = b ∧ Live (toH h') b) ∧ (∀ b : Id, 4 + os.length ≤ b.1 → look (toH h') b = none) ∧ Q h' := by
  obtain ⟨c, hk⟩ := hk.ok
  simp only [Bool.and_eq_true] at c
  obtain ⟨c1, c2⟩ := c
  obtain ⟨hf, f1, f2, hk⟩ := gcF_ok hk
  obtain ⟨hs, s1, s2, hk⟩ := gcS_ok (n := n) hk
  have hk := appK_ok hk
  have hlow : ∀ k x, look hf k = some x → k < 4 := fun k x hx => by
    have := (f1 k x hx).1
    simp only [List.mem_cons, List.not_mem_nil, or_false] at this
    omega
  have hf_none : ∀ m, look hf (4 + m) = none := by
    intro m
    cases hl : look hf (4 + m) with
    | none => rfl
    | some y => have := hlow _ _ hl; omega
  have fam : ∀ k, k < 4 → look (hf ++ hs) k = look h k := by
    intro k hk
    have hm : k ∈ [0, 1, 2, 3] := by
      simp only [List.mem_cons, List.not_mem_nil, or_false]; omega
    rw [look_app, f2 k hm]
    cases hl : look h k with
    | some x => rfl
    | none =>
      cases hl2 : look hs k with
      | none => rfl
      | some y => obtain ⟨m, e, _⟩ := s1 k y hl2; omega
  have sgl : ∀ m, look (hf ++ hs) (4 + m) = look hs (4 + m) := fun m => by rw [look_app, hf_none]
  have H : KeepOK os h (hf ++ hs) := by
    refine ⟨fun m b hb _ => ?_, fun k hk i hl => ?_⟩
    · obtain ⟨x, y, d, d', q1, q2, q3, q4, q5⟩ := s2 m b hb
      exact Live.of_look (look_at (by rw [sgl]; exact q2) (by rw [q4]; rfl))
    · unfold Live at hl ⊢
      rw [look_toH] at hl ⊢
      rw [fam k hk]
      exact hl
  have cases' : ∀ b x', look (toH (hf ++ hs)) b = some x' → (b.1 < 4 ∧ ∃ x, look h b.1 = some x ∧ look hf b.1 = some x ∧ x.blks[b.2]? = some x') ∨ ∃ m c d, b = (4 + m, 0) ∧ os[m]? = some c ∧ look (toH h) (c, 0) = some d ∧ RnB (toH h) (gI (gN os n)) (toH (hf ++ hs)) d x' := by
    intro b x' hx
    rw [look_toH] at hx
    obtain ⟨x, q1, q2⟩ := Option.bind_eq_some_iff.1 hx
    by_cases hb : b.1 < 4
    · rw [fam _ hb] at q1
      have hm : b.1 ∈ [0, 1, 2, 3] := by
        simp only [List.mem_cons, List.not_mem_nil, or_false]; omega
      exact .inl ⟨hb, x, q1, by rw [f2 _ hm]; exact q1, q2⟩
    · obtain ⟨m, hm⟩ : ∃ m, b.1 = 4 + m := ⟨b.1 - 4, by omega⟩
      rw [hm, sgl] at q1
      obtain ⟨m', e, hlt⟩ := s1 _ _ q1
      obtain rfl : m = m' := by omega
      obtain ⟨z, y, d, d', r1, r2, r3, r4, r5⟩ := s2 m os[m] (List.getElem?_eq_getElem hlt)
      rw [r2] at q1
      obtain rfl := Option.some.inj q1
      rw [r4] at q2
      obtain ⟨b1, b2⟩ := b
      simp only at hm q2
      cases b2 with
      | succ j => simp at q2
      | zero =>
        simp only [List.getElem?_cons_zero, Option.some.injEq] at q2
        subst q2 hm
        exact .inr ⟨m, os[m], d, rfl, List.getElem?_eq_getElem hlt, look_at r1 (by rw [r3]; rfl), r5 _ H⟩
  refine ⟨hf ++ hs, H, ⟨fun b x' hx => ?_, fun b c x y _ _ _ _ he => gI_inj c1 he⟩, fun K hK b hb hl => ?_, fun b hb => ?_, hk⟩
  · rcases cases' b x' hx with ⟨g1, x, g2, g3, g4⟩ | ⟨m, c, d, rfl, g1, g2, g3⟩
    · refine ⟨x', ?_, ?_⟩
      · simp only [gI, gN_low os n g1]
        exact look_at g2 g4
      · obtain ⟨_, _, q3, q4⟩ := f1 _ _ g3
        exact rn_famB H q3 q4 x' (List.mem_of_getElem? g4)
    · refine ⟨d, ?_, g3⟩
      simp only [gI, gN_high, nameO_lt g1]
      exact g2
  · have hb4 := hK b hb
    by_cases hlt : b.1 < 4
    · obtain ⟨b1, b2⟩ := b
      exact ⟨gI_low hlt b2, H.fam b1 hlt b2 hl⟩
    · obtain ⟨j, hj⟩ : ∃ j, b.1 = 4 + j := ⟨b.1 - 4, by omega⟩
      have hos := prefB_ok c2 j (by omega)
      obtain ⟨x, y, d, d', q1, q2, q3, q4, q5⟩ := s2 j _ hos
      obtain ⟨b1, b2⟩ := b
      simp only at hj
      subst hj
      unfold Live at hl
      rw [look_toH, q1] at hl
      simp only [Option.bind_some, q3] at hl
      cases b2 with
      | succ i => simp at hl
      | zero =>
        refine ⟨by simp only [gI, gN_high, nameO_lt hos], H.sgl j _ hos ?_⟩
        exact Live.of_look (look_at q1 (by rw [q3]; rfl))
  · cases hx : look (toH (hf ++ hs)) b with
    | none => rfl
    | some x' =>
      exfalso
      rcases cases' b x' hx with ⟨g1, _⟩ | ⟨m, c, d, rfl, g1, _⟩
      · omega
      · have := (List.getElem?_eq_some_iff.1 g1).1
        simp only at hb
        omega
/-- the temporaries that are kept, by their last names -/
def keepTK (h : VH) (t : VT) : List Nat → (VT → Prop) → Prop
  | [], K => K []
  | k :: ts, K => (match lookO t k with
    | some v => fwdV h v fun v => keepTK h t ts fun r => K ((k, v) :: r)
    | none => keepTK h t ts K)
theorem keepTK_ok {t : VT} : ∀ {ts : List Nat} {K : VT → Prop}, keepTK h t ts K → ∃ r, (∀ k v', look r k = some v' → ∃ v, look t k = some v ∧ fwd (toH h) v.toD = v'.toD) ∧ K r
  | [], K, hk => ⟨[], (fun k v hv => by cases hv), hk⟩
  | k :: ts, K, hk => by
    simp only [keepTK, lookO_ok] at hk
    cases hl : look t k with
    | none =>
      rw [hl] at hk
      exact keepTK_ok hk
    | some v =>
      rw [hl] at hk
      obtain ⟨v', h1, h2⟩ := fwdV_ok hk
      obtain ⟨r, h3, h4⟩ := keepTK_ok h2
      refine ⟨(k, v') :: r, fun j w hw => ?_, h4⟩
      simp only [look] at hw
      split at hw
      · rename_i e
        cases hw
        subst e
        exact ⟨v, hl, h1⟩
      · exact h3 j w hw
def backT (os : List Nat) : VT → (VT → Prop) → Prop
  | [], K => K []
  | (k, v) :: l, K => backV os v fun v => backT os l fun l => K ((k, v) :: l)
theorem backT_ok : ∀ {l : VT} {K : VT → Prop}, backT os l K → ∃ r, (∀ k v', look r k = some v' → ∃ v, look l k = some v ∧ ∀ h', KeepOK os h h' → Rn (toH h) (gI (gN os n)) (toH h') v.toD v'.toD) ∧ K r
  | [], K, hk => ⟨[], (fun k v hv => by cases hv), hk⟩
  | (k, v) :: l, K, hk => by
    obtain ⟨v', h1, _, h2⟩ := backV_ok (h := h) (n := n) hk
    obtain ⟨r, h3, h4⟩ := backT_ok h2
    refine ⟨(k, v') :: r, fun j w hw => ?_, h4⟩
    simp only [look] at hw ⊢
    split at hw
    · rename_i e
      cases hw
      exact ⟨v, by rw [if_pos e], h1⟩
    · rename_i e
      rw [if_neg e]
      exact h3 j w hw
/-- only the temporaries ts are kept, and what they lead to, under new names -/
def gcK (m : Nat) (ts : List Nat) (σ : VSt) (Q : VSt → Prop) : Prop :=
  match σ with
  | ⟨t0, h0, n0⟩ => keepTK h0 t0 ts fun t => gcFromK h0 (addsN (List.range' 4 m) (liv4 h0 (grpsT t))) fun os => keepB m os h0 n0 fun h' => backT os t fun t' => natK (4 + os.length) fun n => Q ⟨t', h', n⟩
theorem gcK_ok {m : Nat} {ts : List Nat} {Q : VSt → Prop} (hK : KB m K) (h : gcK m ts σ Q) : ∃ σ', Weak P N K σ.toD σ'.toD ∧ Q σ' := by
  obtain ⟨t, t1, h1⟩ := keepTK_ok h
  obtain ⟨os, h2⟩ := gcFromK_ok h1
  obtain ⟨h', q1, q2, q3, q4, h3⟩ := keepB_ok h2
  obtain ⟨t', t2, h4⟩ := backT_ok (h := σ.h) (n := σ.n) h3
  have h5 := natK_ok h4
  refine ⟨_, weak_ren (σ' := VSt.toD ⟨t', h', _⟩) q2 (fun k d' hd => ?_) (fun b hb hl => q3 K hK b hb hl) q4, h5⟩
  simp only [VSt.toD, look_toT] at hd
  obtain ⟨v', hv, rfl⟩ := Option.map_eq_some_iff.1 hd
  obtain ⟨v, hv1, hv2⟩ := t2 k v' hv
  obtain ⟨v0, hv3, hv4⟩ := t1 k v hv1
  exact ⟨v0.toD, by simp only [VSt.toD, look_toT, hv3, Option.map_some], .fwd _ _ (by have h9 := hv2 h' q1; rw [← hv4] at h9; exact h9)⟩
end Go.Proofs.Ytkclhekkcffpoaa.Am
