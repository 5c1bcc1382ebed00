/- The plain machine: the states between the operations of a region. -/
import Derived.Test.YtkclhekkcffpoaaB14
namespace Go.Proofs.Ytkclhekkcffpoaa.Am
set_option linter.unusedSimpArgs false
set_option linter.unusedVariables false
open Go Go.RowKit

variable {P : Program} {w0 : World} {S A : Nat → Prop} {N : Nat} {ρ : Id → Pl} {t : List (Nat × D)} {h h' : HL} {a : Act} {w : World}

/-! ### States -/
theorem Sim.congr {t' : List (Nat × D)} (s : Sim P w0 S A N ρ t h a w) (ht : ∀ x, look t' x = look t x) (hh : ∀ b, look h' b = look h b) : Sim P w0 S A N ρ t' h' a w := by
  have hl : Live h' = Live h := funext fun b => by simp only [Live, hh]
  have ho : okOf A ρ h' w = okOf A ρ h w := funext fun k => by simp only [okOf, hh]
  have hb : ∀ b x, BlkOK P A ρ h w b x → BlkOK P A ρ h' w b x := by
    intro b x hx
    cases x <;> simp only [BlkOK, hl, ho] at hx ⊢ <;> exact hx
  exact ⟨s.base, s.inS, s.fr, s.defers, s.size, fun k d hk => by rw [ht] at hk; rw [hl, ho]; exact s.tmp k d hk, fun b x hx => hb b x (s.blk b x (by rw [← hh]; exact hx)), fun b x hx => s.own b x (by rw [← hh]; exact hx),
    fun b b' x x' hx hx' => s.inj b b' x x' (by rw [← hh]; exact hx) (by rw [← hh]; exact hx')⟩

def putD (dst : Option Nat) (d : D) (t : List (Nat × D)) : List (Nat × D) := match dst with | some k => (k, d) :: t | none => t
theorem look_putD (dst : Option Nat) (d : D) (t : List (Nat × D)) (x : Nat) : look (putD dst d t) x = if dst = some x then some d else look t x := by
  cases dst with
  | none => simp [putD]
  | some k =>
    simp only [putD, look, Option.some.injEq]
    by_cases e : x = k
    · simp [e]
    · simp [e, Ne.symm e]
theorem Sim.putO (s : Sim P w0 S A N ρ t h a w) {d : D} {v : Value} {dst : Option Nat} (hd : ∀ k, dst = some k → k < N) (hc : C ρ (Live h) (okOf A ρ h w) w d v) : Sim P w0 S A N ρ (putD dst d t) h (a.put dst v) w := by
  cases dst with
  | none => exact s
  | some k =>
    have s' := s.putT k (hd k rfl) hc
    refine ⟨s'.base, s'.inS, s'.fr, s'.defers, s'.size, fun x e hx => s'.tmp x e ?_, s'.blk, s'.own, s'.inj⟩
    rw [look_put]
    simpa only [putD, look] using hx

/-- what an operation did -/
structure Rc where
  d : D
  u : HL
  f : List Nat
  n : Nat
  n' : Nat
/-- the state behind the operations that m has -/
def stT (m : Nat → Bool) : Nat → List (Oper × Rc) → List (Nat × D) → List (Nat × D)
  | _, [], t => t
  | k, (o, r) :: l, t => stT m (k + 1) l (if m k = true then putD o.dst r.d t else t)
def stH (m : Nat → Bool) : Nat → List (Oper × Rc) → HL → HL
  | _, [], h => h
  | k, (_, r) :: l, h => stH m (k + 1) l (if m k = true then puts r.u h else h)

theorem stT_start (m : Nat → Bool) : ∀ (l : List (Oper × Rc)) (k : Nat) (t t' : List (Nat × D)) (x : Nat), look t x = look t' x → look (stT m k l t) x = look (stT m k l t') x
  | [], k, t, t', x, h => h
  | (o, r) :: l, k, t, t', x, h => by
    refine stT_start m l (k + 1) _ _ x ?_
    split
    · rw [look_putD, look_putD, h]
    · exact h
theorem stH_start (m : Nat → Bool) : ∀ (l : List (Oper × Rc)) (k : Nat) (t t' : HL) (x : Id), look t x = look t' x → look (stH m k l t) x = look (stH m k l t') x
  | [], k, t, t', x, h => h
  | (o, r) :: l, k, t, t', x, h => by
    refine stH_start m l (k + 1) _ _ x ?_
    split
    · exact look_puts_congr h
    · exact h

/-- masks that differ only at operations that leave x alone -/
theorem stT_mask {m m' : Nat → Bool} {x : Nat} : ∀ (l : List (Oper × Rc)) (k : Nat) (t : List (Nat × D)), (∀ i o r, l[i]? = some (o, r) → m (k + i) ≠ m' (k + i) → o.dst ≠ some x) → look (stT m k l t) x = look (stT m' k l t) x
  | [], k, t, _ => rfl
  | (o, r) :: l, k, t, hd => by
    have ih := stT_mask (m := m) (m' := m') (x := x) l (k + 1) (if m k = true then putD o.dst r.d t else t) fun i o r hi hm => hd (i + 1) o r (by simpa using hi) (by rw [show k + (i + 1) = k + 1 + i by omega]; exact hm)
    show look (stT m (k + 1) l _) x = look (stT m' (k + 1) l _) x
    rw [ih]
    refine stT_start m' l (k + 1) _ _ x ?_
    by_cases e : m k = m' k
    · rw [e]
    · have := hd 0 o r rfl (by simpa using e)
      have h2 : ∀ b : Bool, look (if b = true then putD o.dst r.d t else t) x = look t x := by
        intro b; cases b
        · rfl
        · simp only [if_true]; rw [look_putD, if_neg this]
      rw [h2, h2]
theorem stH_mask {m m' : Nat → Bool} {x : Id} : ∀ (l : List (Oper × Rc)) (k : Nat) (t : HL), (∀ i o r, l[i]? = some (o, r) → m (k + i) ≠ m' (k + i) → ∀ y ∈ r.u, y.1 ≠ x) → look (stH m k l t) x = look (stH m' k l t) x
  | [], k, t, _ => rfl
  | (o, r) :: l, k, t, hd => by
    have ih := stH_mask (m := m) (m' := m') (x := x) l (k + 1) (if m k = true then puts r.u t else t) fun i o r hi hm => hd (i + 1) o r (by simpa using hi) (by rw [show k + (i + 1) = k + 1 + i by omega]; exact hm)
    show look (stH m (k + 1) l _) x = look (stH m' (k + 1) l _) x
    rw [ih]
    refine stH_start m' l (k + 1) _ _ x ?_
    by_cases e : m k = m' k
    · rw [e]
    · have := hd 0 o r rfl (by simpa using e)
      have h2 : ∀ b : Bool, look (if b = true then puts r.u t else t) x = look t x := by
        intro b; cases b
        · rfl
        · simp only [if_true]; exact look_puts_other _ _ _ this
      rw [h2, h2]

def with' (m : Nat → Bool) (j : Nat) (k : Nat) : Bool := m k || k == j
/-- one more operation -/
theorem stT_add {m : Nat → Bool} {j : Nat} {oj : Oper} {rj : Rc} (hm : m j = false) : ∀ (l : List (Oper × Rc)) (k : Nat) (t : List (Nat × D)), k ≤ j → l[j - k]? = some (oj, rj) →
    (∀ i o r, l[i]? = some (o, r) → j < k + i → m (k + i) = true → ∀ x, oj.dst = some x → o.dst ≠ some x) → ∀ x, look (stT (with' m j) k l t) x = look (putD oj.dst rj.d (stT m k l t)) x
  | [], k, t, _, hl, _, x => by simp at hl
  | (o, r) :: l, k, t, hk, hl, hd, x => by
    by_cases e : k = j
    · subst e
      simp only [Nat.sub_self, List.getElem?_cons_zero, Option.some.injEq, Prod.mk.injEq] at hl
      obtain ⟨rfl, rfl⟩ := hl
      have e1 : with' m k k = true := by simp [with']
      show look (stT (with' m k) (k + 1) l (if with' m k k = true then putD o.dst r.d t else t)) x = look (putD o.dst r.d (stT m (k + 1) l (if m k = true then putD o.dst r.d t else t))) x
      rw [e1, hm]
      simp only [if_true, Bool.false_eq_true, if_false]
      have e2 : look (stT (with' m k) (k + 1) l (putD o.dst r.d t)) x = look (stT m (k + 1) l (putD o.dst r.d t)) x := by
        refine stT_mask l (k + 1) _ fun i o r hi hne => absurd ?_ hne
        simp only [with']
        have : (k + 1 + i == k) = false := by simp; omega
        rw [this, Bool.or_false]
      rw [e2, look_putD]
      by_cases hx : o.dst = some x
      · rw [if_pos hx]
        have : look (stT m (k + 1) l (putD o.dst r.d t)) x = look (stT (fun _ => false) (k + 1) l (putD o.dst r.d t)) x := by
          refine stT_mask l (k + 1) _ fun i o' r' hi hne => ?_
          refine hd (i + 1) o' r' (by simpa using hi) (by omega) ?_ x hx
          rw [show k + (i + 1) = k + 1 + i by omega]
          simpa using hne
        rw [this]
        have hf : ∀ (l : List (Oper × Rc)) (k : Nat) (t : List (Nat × D)), stT (fun _ => false) k l t = t := by
          intro l
          induction l with
          | nil => intro k t; rfl
          | cons y l ih => intro k t; obtain ⟨o, r⟩ := y; exact ih (k + 1) t
        rw [hf, look_putD, if_pos hx]
      · rw [if_neg hx]
        refine stT_start m l (k + 1) _ _ x ?_
        rw [look_putD, if_neg hx]
    · have hlt : k < j := by omega
      have e1 : with' m j k = m k := by simp only [with']; have : (k == j) = false := by simp [e]; 
                                        rw [this, Bool.or_false]
      show look (stT (with' m j) (k + 1) l (if with' m j k = true then putD o.dst r.d t else t)) x = look (putD oj.dst rj.d (stT m (k + 1) l (if m k = true then putD o.dst r.d t else t))) x
      rw [e1]
      refine stT_add hm l (k + 1) _ (by omega) (by rw [show j - k = (j - (k + 1)) + 1 by omega] at hl; simpa using hl) (fun i o r hi hj hmi => hd (i + 1) o r (by simpa using hi) (by omega) (by rw [show k + (i + 1) = k + 1 + i by omega]; exact hmi)) x
theorem stH_add {m : Nat → Bool} {j : Nat} {oj : Oper} {rj : Rc} (hm : m j = false) : ∀ (l : List (Oper × Rc)) (k : Nat) (t : HL), k ≤ j → l[j - k]? = some (oj, rj) →
    (∀ i o r, l[i]? = some (o, r) → j < k + i → m (k + i) = true → ∀ x ∈ rj.u, ∀ y ∈ r.u, x.1 ≠ y.1) → ∀ x, look (stH (with' m j) k l t) x = look (puts rj.u (stH m k l t)) x
  | [], k, t, _, hl, _, x => by simp at hl
  | (o, r) :: l, k, t, hk, hl, hd, x => by
    by_cases e : k = j
    · subst e
      simp only [Nat.sub_self, List.getElem?_cons_zero, Option.some.injEq, Prod.mk.injEq] at hl
      obtain ⟨rfl, rfl⟩ := hl
      have e1 : with' m k k = true := by simp [with']
      show look (stH (with' m k) (k + 1) l (if with' m k k = true then puts r.u t else t)) x = look (puts r.u (stH m (k + 1) l (if m k = true then puts r.u t else t))) x
      rw [e1, hm]
      simp only [if_true, Bool.false_eq_true, if_false]
      have e2 : look (stH (with' m k) (k + 1) l (puts r.u t)) x = look (stH m (k + 1) l (puts r.u t)) x := by
        refine stH_mask l (k + 1) _ fun i o r hi hne => absurd ?_ hne
        simp only [with']
        have : (k + 1 + i == k) = false := by simp; omega
        rw [this, Bool.or_false]
      rw [e2]
      by_cases hx : ∃ y ∈ r.u, y.1 = x
      · have h1 : look (stH m (k + 1) l (puts r.u t)) x = look (stH (fun _ => false) (k + 1) l (puts r.u t)) x := by
          refine stH_mask l (k + 1) _ fun i o' r' hi hne => ?_
          obtain ⟨y, hy, rfl⟩ := hx
          exact fun z hz he => hd (i + 1) o' r' (by simpa using hi) (by omega) (by rw [show k + (i + 1) = k + 1 + i by omega]; simpa using hne) y hy z hz he.symm
        have h2 : look (stH m (k + 1) l t) x = look (stH (fun _ => false) (k + 1) l t) x := by
          refine stH_mask l (k + 1) _ fun i o' r' hi hne => ?_
          obtain ⟨y, hy, rfl⟩ := hx
          exact fun z hz he => hd (i + 1) o' r' (by simpa using hi) (by omega) (by rw [show k + (i + 1) = k + 1 + i by omega]; simpa using hne) y hy z hz he.symm
        have hf : ∀ (l : List (Oper × Rc)) (k : Nat) (t : HL), stH (fun _ => false) k l t = t := by
          intro l
          induction l with
          | nil => intro k t; rfl
          | cons y l ih => intro k t; obtain ⟨o, r⟩ := y; exact ih (k + 1) t
        rw [h1, hf]
        rw [hf] at h2
        exact (look_puts_congr h2).symm
      · have hx' : ∀ y ∈ r.u, y.1 ≠ x := fun y hy e => hx ⟨y, hy, e⟩
        rw [look_puts_other _ _ _ hx']
        refine stH_start m l (k + 1) _ _ x ?_
        rw [look_puts_other _ _ _ hx']
    · have hlt : k < j := by omega
      have e1 : with' m j k = m k := by simp only [with']; have : (k == j) = false := by simp [e]; 
                                        rw [this, Bool.or_false]
      show look (stH (with' m j) (k + 1) l (if with' m j k = true then puts r.u t else t)) x = look (puts rj.u (stH m (k + 1) l (if m k = true then puts r.u t else t))) x
      rw [e1]
      refine stH_add hm l (k + 1) _ (by omega) (by rw [show j - k = (j - (k + 1)) + 1 by omega] at hl; simpa using hl) (fun i o r hi hj hmi => hd (i + 1) o r (by simpa using hi) (by omega) (by rw [show k + (i + 1) = k + 1 + i by omega]; exact hmi)) x
end Go.Proofs.Ytkclhekkcffpoaa.Am
