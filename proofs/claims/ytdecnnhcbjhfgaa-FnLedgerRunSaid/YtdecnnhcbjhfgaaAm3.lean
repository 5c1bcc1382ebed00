/- The plain machine: what a step does to the blocks. -/
import Derived.Test.YtdecnnhcbjhfgaaAm2
namespace Go.Proofs.Ytdecnnhcbjhfgaa.Am
set_option linter.unusedSimpArgs false
set_option linter.unusedVariables false
open Go Go.RowKit

variable {P : Program} {w0 : World} {S A : Nat → Prop} {N : Nat} {ρ : Nat → Pl} {t : List (Nat × D)} {h : List (Nat × Blk)} {a : Act} {w : World}

def at' (ρ : Nat → Pl) (n : Nat) (p : Pl) (b : Nat) : Pl := if b = n then p else ρ b
theorem at'_same (ρ : Nat → Pl) (n : Nat) (p : Pl) : at' ρ n p n = p := by simp [at']
theorem at'_ne (ρ : Nat → Pl) {n b : Nat} (p : Pl) (hb : b ≠ n) : at' ρ n p b = ρ b := by simp [at', hb]

theorem Live.ne {n b : Nat} (hn : look h n = none) (hb : Live h b) : b ≠ n := by rintro rfl; simp [Live, hn] at hb
/-- ρ' lays what there was where it was -/
def Ext (h : List (Nat × Blk)) (ρ ρ' : Nat → Pl) : Prop := ∀ b, Live h b → ρ' b = ρ b
theorem Ext.refl (h : List (Nat × Blk)) (ρ : Nat → Pl) : Ext h ρ ρ := fun _ _ => rfl
theorem Ext.at {n : Nat} (hn : look h n = none) (p : Pl) : Ext h ρ (at' ρ n p) := fun b hb => at'_ne ρ p (hb.ne hn)

theorem Live.put {n b : Nat} {x : Blk} (hb : Live h b) : Live (put n x h) b := by
  unfold Live at *; rw [look_put]; split
  · rfl
  · exact hb
theorem Live.of_look {b : Nat} {x : Blk} (hb : look h b = some x) : Live h b := by simp [Live, hb]

/-- a new block -/
theorem Sim.new (s : Sim P w0 S A N ρ t h a w) {n : Nat} (hn : look h n = none) (x : Blk) (o : Obj) (p : Pl) (hp : p.blk = w.heap.size)
    (hx : (∀ d v, C ρ (Live h) (okOf A ρ h w) w d v → C (at' ρ n p) (Live (put n x h)) (okOf A (at' ρ n p) (put n x h) (w.alloc o)) (w.alloc o) d v) → (∀ d v, Rep (okOf A ρ h w) w d v → Rep (okOf A (at' ρ n p) (put n x h) (w.alloc o)) (w.alloc o) d v) →
      BlkOK P A (at' ρ n p) (put n x h) (w.alloc o) n x) :
    Sim P w0 S A N (at' ρ n p) t (put n x h) a (w.alloc o) := by
  have hρ : ∀ b, Live h b → Live (put n x h) b ∧ at' ρ n p b = ρ b := fun b hb => ⟨hb.put, at'_ne ρ p (hb.ne hn)⟩
  have hok : ∀ k, okOf A ρ h w k → okOf A (at' ρ n p) (put n x h) (w.alloc o) k ∧ (w.alloc o).heap[k]? = w.heap[k]? := by
    rintro k ⟨hk, hm⟩
    refine ⟨⟨⟨by have := hk.1; simp; omega, hk.2⟩, fun b y hy hmu => ?_⟩, Below.heap_alloc w o k hk.1⟩
    rw [look_put] at hy
    by_cases e : b = n
    · subst e; rw [at'_same, hp]; have := hk.1; omega
    · simp only [e, if_false] at hy
      rw [at'_ne ρ p e]
      exact hm b y hy hmu
  have hpo := s.own
  refine s.step ⟨s.fr.os, s.fr.tape, s.fr.output, Nat.le_trans s.fr.size (by simp), fun i hi hs => (Below.heap_alloc w o i (Nat.lt_of_lt_of_le hi s.fr.size)).trans (s.fr.block i hi hs)⟩ hρ hok (fun b y hy => ?_) (by simp) (fun b b' y y' hy hy' hl hl' he => ?_)
  · rw [look_put] at hy
    by_cases e : b = n
    · subst e
      simp only [if_true, Option.some.injEq] at hy
      subst hy
      refine .inr ⟨hx (fun d v hc => hc.mono hρ hok) (fun d v hc => hc.mono hok), fun _ => ?_⟩
      rw [at'_same, hp]
      exact ⟨by simp, .inr s.fr.size⟩
    · simp only [e, if_false] at hy
      exact .inl ⟨hy, fun hmu => Below.heap_alloc w o _ (hpo b y hy (by cases y <;> simp_all [Blk.mutable, Blk.live])).1⟩
  · rw [look_put] at hy hy'
    by_cases e : b = n <;> by_cases e' : b' = n
    · omega
    · subst e
      simp only [e', if_false] at hy'
      rw [at'_same, at'_ne ρ p e', hp] at he
      have := (hpo b' y' hy' hl').1
      omega
    · subst e'
      simp only [e, if_false] at hy
      rw [at'_same, at'_ne ρ p e, hp] at he
      have := (hpo b y hy hl).1
      omega
    · simp only [e, e', if_false] at hy hy'
      rw [at'_ne ρ p e, at'_ne ρ p e'] at he
      exact s.inj b b' y y' hy hy' hl hl' he

/-- a row that is no more written -/
theorem Sim.freeze (s : Sim P w0 S A N ρ t h a w) {b : Nat} {E : TypeId} {l : List D} (hb : look h b = some (.row E l)) : Sim P w0 S A N ρ t (put b (.froz l) h) a w := by
  have hρ : ∀ b', Live h b' → Live (put b (.froz l) h) b' ∧ ρ b' = ρ b' := fun b' hb' => ⟨hb'.put, rfl⟩
  have hok : ∀ k, okOf A ρ h w k → okOf A ρ (put b (.froz l) h) w k ∧ w.heap[k]? = w.heap[k]? := by
    rintro k ⟨hk, hm⟩
    refine ⟨⟨hk, fun b' y hy hmu => ?_⟩, rfl⟩
    rw [look_put] at hy
    by_cases e : b' = b
    · subst e
      simp only [if_true, Option.some.injEq] at hy
      subst hy
      simp [Blk.mutable] at hmu
    · simp only [e, if_false] at hy
      exact hm b' y hy hmu
  have hlt := (s.own b _ hb rfl).1
  have hself : okOf A ρ (put b (.froz l) h) w (ρ b).blk := by
    refine ⟨⟨hlt, (s.own b _ hb rfl).2.elim (s.inS _) (s.base _)⟩, fun b' y hy hmu he => ?_⟩
    rw [look_put] at hy
    by_cases e : b' = b
    · subst e
      simp only [if_true, Option.some.injEq] at hy
      subst hy
      simp [Blk.mutable] at hmu
    · simp only [e, if_false] at hy
      exact e (s.inj b' b y _ hy hb (by cases y <;> simp_all [Blk.mutable, Blk.live]) rfl he)
  obtain ⟨c, h1, h2, h3, h4, h5, h6, h7, h8, h9⟩ := s.blk b _ hb
  refine s.step s.fr hρ hok (fun b' y hy => ?_) (Nat.le_refl _) (fun b1 b2 y1 y2 hy1 hy2 hl1 hl2 he => ?_)
  · rw [look_put] at hy
    by_cases e : b' = b
    · subst e
      simp only [if_true, Option.some.injEq] at hy
      subst hy
      refine .inr ⟨?_, fun _ => s.own b' _ hb rfl⟩
      simp only [BlkOK]
      cases l with
      | nil =>
        simp only [List.length_nil] at h3
        rw [← h3]
        exact .none _ _ (fun h => by cases h) h5
      | cons e0 l0 =>
        have hsz : szl (e0 :: l0) = (ρ b').sz := (h8 e0 (List.mem_cons_self ..)).1
        refine .lst _ _ _ _ _ (fun i j => c.getD (i * (ρ b').sz + j) undef) h3 h4 h5 hself (fun e he => by rw [hsz]; exact h8 e he) (by rw [hsz]; exact h6) (fun i j hi hj => ?_) (fun i j hi hj => ?_)
        · rw [hsz] at hj ⊢
          have hlt' : i * (ρ b').sz + j < c.size := by
            rw [h2]
            have : (i + 1) * (ρ b').sz ≤ (ρ b').cap * (ρ b').sz := Nat.mul_le_mul_right _ (by omega)
            rw [Nat.add_mul] at this
            omega
          simp [World.cell?, h1, hlt', Array.getD_eq_getD_getElem?]
        · rw [hsz] at hj
          exact (h9 i j (by omega) hj).mono hok
    · simp only [e, if_false] at hy
      exact .inl ⟨hy, fun _ => rfl⟩
  · rw [look_put] at hy1 hy2
    have l1 : ∃ z, look h b1 = some z ∧ z.live = true := by
      by_cases e : b1 = b
      · subst e; exact ⟨_, hb, rfl⟩
      · simp only [e, if_false] at hy1; exact ⟨_, hy1, hl1⟩
    have l2 : ∃ z, look h b2 = some z ∧ z.live = true := by
      by_cases e : b2 = b
      · subst e; exact ⟨_, hb, rfl⟩
      · simp only [e, if_false] at hy2; exact ⟨_, hy2, hl2⟩
    obtain ⟨z1, a1, a2⟩ := l1
    obtain ⟨z2, c1, c2⟩ := l2
    exact s.inj b1 b2 z1 z2 a1 c1 a2 c2 he

/-- a block's cells are written -/
theorem Sim.write (s : Sim P w0 S A N ρ t h a w) {b : Nat} {x y : Blk} (hb : look h b = some x) (hxm : x.mutable = true) (cs : Array Value)
    (hy : (∀ d v, C ρ (Live h) (okOf A ρ h w) w d v → C ρ (Live (put b y h)) (okOf A ρ (put b y h) (w.setRow (ρ b).blk cs)) (w.setRow (ρ b).blk cs) d v) →
      (∀ d v, Rep (okOf A ρ h w) w d v → Rep (okOf A ρ (put b y h) (w.setRow (ρ b).blk cs)) (w.setRow (ρ b).blk cs) d v) → BlkOK P A ρ (put b y h) (w.setRow (ρ b).blk cs) b y) :
    Sim P w0 S A N ρ t (put b y h) a (w.setRow (ρ b).blk cs) := by
  have hsz : (w.setRow (ρ b).blk cs).heap.size = w.heap.size := by simp [World.setRow]
  have hρ : ∀ b', Live h b' → Live (put b y h) b' ∧ ρ b' = ρ b' := fun b' hb' => ⟨hb'.put, rfl⟩
  have hxl : x.live = true := by cases x <;> simp_all [Blk.mutable, Blk.live]
  have hown := s.own b x hb hxl
  have hok : ∀ k, okOf A ρ h w k → okOf A ρ (put b y h) (w.setRow (ρ b).blk cs) k ∧ (w.setRow (ρ b).blk cs).heap[k]? = w.heap[k]? := by
    rintro k ⟨hk, hm⟩
    refine ⟨⟨by rw [hsz]; exact hk, fun b' z hz hmu => ?_⟩, setRow_other w _ _ _ (Ne.symm (hm b x hb hxm))⟩
    rw [look_put] at hz
    by_cases e : b' = b
    · subst e; exact hm b' x hb hxm
    · simp only [e, if_false] at hz
      exact hm b' z hz hmu
  refine s.step ⟨s.fr.os, s.fr.tape, s.fr.output, by rw [hsz]; exact s.fr.size, fun i hi hs => ?_⟩ hρ hok (fun b' z hz => ?_) (by rw [hsz]; exact Nat.le_refl _) (fun b1 b2 y1 y2 hy1 hy2 hl1 hl2 he => ?_)
  · refine (setRow_other w _ _ _ ?_).trans (s.fr.block i hi hs)
    rintro rfl
    rcases hown.2 with h' | h'
    · exact hs h'
    · omega
  · rw [look_put] at hz
    by_cases e : b' = b
    · subst e
      simp only [if_true, Option.some.injEq] at hz
      subst hz
      exact .inr ⟨hy (fun d v hc => hc.mono hρ hok) (fun d v hc => hc.mono hok), fun _ => ⟨by rw [hsz]; exact hown.1, hown.2⟩⟩
    · simp only [e, if_false] at hz
      refine .inl ⟨hz, fun hmu => setRow_other w _ _ _ fun he => e (s.inj b' b z x hz hb (by cases z <;> simp_all [Blk.mutable, Blk.live]) hxl he)⟩
  · rw [look_put] at hy1 hy2
    have l1 : ∃ z, look h b1 = some z ∧ z.live = true := by
      by_cases e : b1 = b
      · subst e; exact ⟨_, hb, hxl⟩
      · simp only [e, if_false] at hy1; exact ⟨_, hy1, hl1⟩
    have l2 : ∃ z, look h b2 = some z ∧ z.live = true := by
      by_cases e : b2 = b
      · subst e; exact ⟨_, hb, hxl⟩
      · simp only [e, if_false] at hy2; exact ⟨_, hy2, hl2⟩
    obtain ⟨z1, a1, a2⟩ := l1
    obtain ⟨z2, c1, c2⟩ := l2
    exact s.inj b1 b2 z1 z2 a1 c1 a2 c2 he
end Go.Proofs.Ytdecnnhcbjhfgaa.Am
