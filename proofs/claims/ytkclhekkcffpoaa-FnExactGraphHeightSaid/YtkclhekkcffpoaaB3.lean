/- The plain machine: what a step does to the blocks. -/
import Derived.Test.YtkclhekkcffpoaaB2
namespace Go.Proofs.Ytkclhekkcffpoaa.Am
set_option linter.unusedSimpArgs false
set_option linter.unusedVariables false
open Go Go.RowKit

variable {P : Program} {w0 : World} {S A : Nat → Prop} {N : Nat} {ρ : Id → Pl} {t : List (Nat × D)} {h : HL} {a : Act} {w : World}

def at' (ρ : Id → Pl) (n : Id) (p : Pl) (b : Id) : Pl := if b = n then p else ρ b
theorem at'_same (ρ : Id → Pl) (n : Id) (p : Pl) : at' ρ n p n = p := by simp [at']
theorem at'_ne (ρ : Id → Pl) {n b : Id} (p : Pl) (hb : b ≠ n) : at' ρ n p b = ρ b := by simp [at', hb]

theorem Live.ne {n b : Id} (hn : look h n = none) (hb : Live h b) : b ≠ n := by rintro rfl; simp [Live, hn] at hb
/-- ρ' lays what there was where it was -/
def Ext (h : HL) (ρ ρ' : Id → Pl) : Prop := ∀ b, Live h b → ρ' b = ρ b
theorem Ext.refl (h : HL) (ρ : Id → Pl) : Ext h ρ ρ := fun _ _ => rfl
theorem Ext.at {n : Id} (hn : look h n = none) (p : Pl) : Ext h ρ (at' ρ n p) := fun b hb => at'_ne ρ p (hb.ne hn)

theorem Live.put {n b : Id} {x : Blk} (hb : Live h b) : Live (put n x h) b := by
  unfold Live at *; rw [look_put]; split
  · rfl
  · exact hb
theorem Live.of_look {b : Id} {x : Blk} (hb : look h b = some x) : Live h b := by simp [Live, hb]

theorem C.rep_pure0 {ρ : Id → Pl} {L : Id → Prop} {ok : Nat → Prop} {d : D} {v : Value} (h : C ρ L ok w d v) (hp : d.pure0 = true) : Rep ok w d v := by
  cases h with
  | pure h => exact h
  | _ => simp [D.pure0] at hp
/-- a new block -/
theorem Sim.new (s : Sim P w0 S A N ρ t h a w) {n : Id} (hn : look h n = none) (x : Blk) (o : Obj) (p : Pl) (hp : p.blk = w.heap.size)
    (hx : (∀ d v, C ρ (Live h) (okOf A ρ h w) w d v → C (at' ρ n p) (Live (put n x h)) (okOf A (at' ρ n p) (put n x h) (w.alloc o)) (w.alloc o) d v) → (∀ d v, Rep (okOf A ρ h w) w d v → Rep (okOf A (at' ρ n p) (put n x h) (w.alloc o)) (w.alloc o) d v) →
      BlkOK P A (at' ρ n p) (put n x h) (w.alloc o) n x) :
    Sim P w0 S A N (at' ρ n p) t (put n x h) a (w.alloc o) := by
  have hρ : ∀ b, Live h b → Live (put n x h) b ∧ at' ρ n p b = ρ b := fun b hb => ⟨hb.put, at'_ne ρ p (hb.ne hn)⟩
  have hok : ∀ k, okOf A ρ h w k → okOf A (at' ρ n p) (put n x h) (w.alloc o) k ∧ (w.alloc o).heap[k]? = w.heap[k]? := by
    rintro k ⟨hk, hm⟩
    refine ⟨⟨⟨by have := hk.1; simp; omega, hk.2⟩, fun b y hy hmu => ?_⟩, Below.heap_alloc w o k hk.1⟩
    rw [look_put] at hy
    by_cases e : b = n
    · subst e; rw [at'_same, hp]; have := hk.1; omega
    · simp only [e, if_false] at hy
      rw [at'_ne ρ p e]
      exact hm b y hy hmu
  have hpo := s.own
  refine s.step ⟨s.fr.os, s.fr.tape, s.fr.output, Nat.le_trans s.fr.size (by simp), fun i hi hs => (Below.heap_alloc w o i (Nat.lt_of_lt_of_le hi s.fr.size)).trans (s.fr.block i hi hs)⟩ hρ hok (fun b y hy => ?_) (by simp) (fun b b' y y' hy hy' hl hl' he => ?_)
  · rw [look_put] at hy
    by_cases e : b = n
    · subst e
      simp only [if_true, Option.some.injEq] at hy
      subst hy
      refine .inr ⟨hx (fun d v hc => hc.mono hρ hok) (fun d v hc => hc.mono hok), fun _ => ?_⟩
      rw [at'_same, hp]
      exact ⟨by simp, .inr s.fr.size⟩
    · simp only [e, if_false] at hy
      exact .inl ⟨hy, fun hmu => Below.heap_alloc w o _ (hpo b y hy (by cases y <;> simp_all [Blk.mutable, Blk.live])).1⟩
  · rw [look_put] at hy hy'
    by_cases e : b = n <;> by_cases e' : b' = n
    · rw [e, e']
    · subst e
      simp only [e', if_false] at hy'
      rw [at'_same, at'_ne ρ p e', hp] at he
      have := (hpo b' y' hy' hl').1
      omega
    · subst e'
      simp only [e, if_false] at hy
      rw [at'_same, at'_ne ρ p e, hp] at he
      have := (hpo b y hy hl).1
      omega
    · simp only [e, e', if_false] at hy hy'
      rw [at'_ne ρ p e, at'_ne ρ p e'] at he
      exact s.inj b b' y y' hy hy' hl hl' he

/-- a block that is no more written -/
theorem Sim.still (s : Sim P w0 S A N ρ t h a w) {b : Id} {x y : Blk} (hb : look h b = some x) (hxm : x.mutable = true) (hym : y.mutable = false) (hyl : y.live = true)
    (hy : okOf A ρ (put b y h) w (ρ b).blk → (∀ d v, Rep (okOf A ρ h w) w d v → Rep (okOf A ρ (put b y h) w) w d v) → BlkOK P A ρ (put b y h) w b y) : Sim P w0 S A N ρ t (put b y h) a w := by
  have hxl : x.live = true := by cases x <;> simp_all [Blk.mutable, Blk.live]
  have hρ : ∀ b', Live h b' → Live (put b y h) b' ∧ ρ b' = ρ b' := fun b' hb' => ⟨hb'.put, rfl⟩
  have hok : ∀ k, okOf A ρ h w k → okOf A ρ (put b y h) w k ∧ w.heap[k]? = w.heap[k]? := by
    rintro k ⟨hk, hm⟩
    refine ⟨⟨hk, fun b' z hz hmu => ?_⟩, rfl⟩
    rw [look_put] at hz
    by_cases e : b' = b
    · subst e
      simp only [if_true, Option.some.injEq] at hz
      subst hz
      rw [hym] at hmu; cases hmu
    · simp only [e, if_false] at hz
      exact hm b' z hz hmu
  have hlt := (s.own b _ hb hxl).1
  have hself : okOf A ρ (put b y h) w (ρ b).blk := by
    refine ⟨⟨hlt, (s.own b _ hb hxl).2.elim (s.inS _) (s.base _)⟩, fun b' z hz hmu he => ?_⟩
    rw [look_put] at hz
    by_cases e : b' = b
    · subst e
      simp only [if_true, Option.some.injEq] at hz
      subst hz
      rw [hym] at hmu; cases hmu
    · simp only [e, if_false] at hz
      exact e (s.inj b' b z _ hz hb (by cases z <;> simp_all [Blk.mutable, Blk.live]) hxl he)
  refine s.step s.fr hρ hok (fun b' z hz => ?_) (Nat.le_refl _) (fun b1 b2 y1 y2 hy1 hy2 hl1 hl2 he => ?_)
  · rw [look_put] at hz
    by_cases e : b' = b
    · subst e
      simp only [if_true, Option.some.injEq] at hz
      subst hz
      exact .inr ⟨hy hself fun d v hr => hr.mono hok, fun _ => s.own b' _ hb hxl⟩
    · simp only [e, if_false] at hz
      exact .inl ⟨hz, fun _ => rfl⟩
  · rw [look_put] at hy1 hy2
    have l1 : ∃ z, look h b1 = some z ∧ z.live = true := by
      by_cases e : b1 = b
      · subst e; exact ⟨_, hb, hxl⟩
      · simp only [e, if_false] at hy1; exact ⟨_, hy1, hl1⟩
    have l2 : ∃ z, look h b2 = some z ∧ z.live = true := by
      by_cases e : b2 = b
      · subst e; exact ⟨_, hb, hxl⟩
      · simp only [e, if_false] at hy2; exact ⟨_, hy2, hl2⟩
    obtain ⟨z1, a1, a2⟩ := l1
    obtain ⟨z2, c1, c2⟩ := l2
    exact s.inj b1 b2 z1 z2 a1 c1 a2 c2 he
/-- a row that is no more written -/
theorem Sim.freeze (s : Sim P w0 S A N ρ t h a w) {b : Id} {E : TypeId} {l : List D} (hb : look h b = some (.row E l)) (hpu : ∀ e ∈ l, e.cells.all D.pure0 = true) : Sim P w0 S A N ρ t (put b (.froz l) h) a w := by
  obtain ⟨c, h1, h2, h3, h4, h5, h6, h7, h8, h9⟩ := s.blk b _ hb
  refine s.still hb rfl rfl rfl fun hself hR => ?_
  simp only [BlkOK]
  cases l with
  | nil =>
    simp only [List.length_nil] at h3
    rw [← h3]
    exact .none _ _ (fun h => by cases h) h5
  | cons e0 l0 =>
    have hsz : szl (e0 :: l0) = (ρ b).sz := (h8 e0 (List.mem_cons_self ..)).1
    refine .lst _ _ _ _ _ (fun i j => c.getD (i * (ρ b).sz + j) undef) h3 h4 h5 hself (fun e he => by rw [hsz]; exact ⟨(h8 e he).1, hpu e he⟩) (by rw [hsz]; exact h6) (fun i j hi hj => ?_) (fun i j hi hj => ?_)
    · rw [hsz] at hj ⊢
      have hlt' : i * (ρ b).sz + j < c.size := by
        rw [h2]
        have : (i + 1) * (ρ b).sz ≤ (ρ b).cap * (ρ b).sz := Nat.mul_le_mul_right _ (by omega)
        rw [Nat.add_mul] at this
        omega
      simp [World.cell?, h1, hlt', Array.getD_eq_getD_getElem?]
    · rw [hsz] at hj
      have hi' : i < (e0 :: l0).length := by omega
      have hm : (e0 :: l0).getD i .undef ∈ e0 :: l0 := by rw [List.getD_eq_getElem?_getD, List.getElem?_eq_getElem hi']; exact List.getElem_mem hi'
      have hj' : j < ((e0 :: l0).getD i .undef).cells.length := by rw [(h8 _ hm).1]; exact hj
      have hpc := hpu _ hm
      rw [List.all_eq_true] at hpc
      have hm2 : ((e0 :: l0).getD i .undef).cells.getD j .undef ∈ ((e0 :: l0).getD i .undef).cells := by rw [List.getD_eq_getElem?_getD (i := j), List.getElem?_eq_getElem hj']; exact List.getElem_mem hj'
      exact hR _ _ ((h9 i j hi' hj).rep_pure0 (hpc _ hm2))
/-- a variable that is no more written -/
theorem Sim.freezeVar (s : Sim P w0 S A N ρ t h a w) {b : Id} {T : TypeId} {cs : List D} (hb : look h b = some (.var T cs)) (hpu : cs.all D.pure0 = true) (hpos : 0 < cs.length) : Sim P w0 S A N ρ t (put b (.fvar cs) h) a w := by
  obtain ⟨c, h1, h2, h3⟩ := s.blk b _ hb
  rw [List.all_eq_true] at hpu
  refine s.still hb rfl rfl rfl fun hself hR => ?_
  simp only [BlkOK]
  refine .box _ _ _ (fun j => c.getD j undef) hself hpos (fun j hj => ?_) (fun j hj => ?_)
  · have hlt' : 0 + j < c.size := by omega
    have hlt2 : j < c.size := by omega
    simp [World.cell?, h1, hlt2, Array.getD_eq_getD_getElem?]
  · have hm : cs.getD j .undef ∈ cs := by rw [List.getD_eq_getElem?_getD, List.getElem?_eq_getElem hj]; exact List.getElem_mem hj
    exact hR _ _ ((h3 j hj).rep_pure0 (hpu _ hm))
/-- a block gets another name -/
theorem Sim.move (s : Sim P w0 S A N ρ t h a w) {b b2 : Id} {x : Blk} (hb : look h b = some x) (hxl : x.live = true) (hn : look h b2 = none) :
    Ext h ρ (at' ρ b2 (ρ b)) ∧ Sim P w0 S A N (at' ρ b2 (ρ b)) t (put b2 x (put b (.moved b2) h)) a w := by
  have hbb : b ≠ b2 := by rintro rfl; rw [hn] at hb; cases hb
  have key : ∀ b' y, look (put b2 x (put b (.moved b2) h)) b' = some y → (b' = b2 ∧ y = x) ∨ (b' = b ∧ y = .moved b2) ∨ (b' ≠ b2 ∧ b' ≠ b ∧ look h b' = some y) := by
    intro b' y hy
    rw [look_put, look_put] at hy
    by_cases e : b' = b2
    · rw [if_pos e] at hy; exact .inl ⟨e, (Option.some.inj hy).symm⟩
    · rw [if_neg e] at hy
      by_cases e2 : b' = b
      · rw [if_pos e2] at hy; exact .inr (.inl ⟨e2, (Option.some.inj hy).symm⟩)
      · rw [if_neg e2] at hy; exact .inr (.inr ⟨e, e2, hy⟩)
  have hlv : ∀ b', Live h b' → Live (put b2 x (put b (.moved b2) h)) b' := fun b' hb' => hb'.put.put
  have hl2 : Live (put b2 x (put b (.moved b2) h)) b2 := by unfold Live; rw [look_put]; simp
  have hρ : ∀ b', Live h b' → Live (put b2 x (put b (.moved b2) h)) b' ∧ at' ρ b2 (ρ b) b' = ρ b' := fun b' hb' => ⟨hlv b' hb', at'_ne ρ _ (hb'.ne hn)⟩
  have hok : ∀ k, okOf A ρ h w k → okOf A (at' ρ b2 (ρ b)) (put b2 x (put b (.moved b2) h)) w k ∧ w.heap[k]? = w.heap[k]? := by
    rintro k ⟨hk, hm⟩
    refine ⟨⟨hk, fun b' y hy hmu => ?_⟩, rfl⟩
    rcases key b' y hy with ⟨rfl, rfl⟩ | ⟨rfl, rfl⟩ | ⟨e1, _, hy⟩
    · rw [at'_same]; exact hm b y hb hmu
    · cases hmu
    · rw [at'_ne ρ _ e1]; exact hm b' y hy hmu
  refine ⟨Ext.at hn _, s.step s.fr hρ hok (fun b' y hy => ?_) (Nat.le_refl _) (fun b1 b3 y1 y3 hy1 hy3 hl1 hl3 he => ?_)⟩
  · rcases key b' y hy with ⟨rfl, rfl⟩ | ⟨rfl, rfl⟩ | ⟨e1, e2, hy⟩
    · refine .inr ⟨(s.blk b y hb).mono' (at'_same ρ _ _) hρ hok fun _ => rfl, fun hl => ?_⟩
      rw [at'_same]; exact s.own b y hb hl
    · exact .inr ⟨⟨hl2, by rw [at'_same, at'_ne ρ _ hbb]⟩, fun hl => by cases hl⟩
    · exact .inl ⟨hy, fun _ => rfl⟩
  · rcases key b1 y1 hy1 with ⟨e1, f1⟩ | ⟨e1, f1⟩ | ⟨e1, g1, f1⟩
    · rcases key b3 y3 hy3 with ⟨e3, f3⟩ | ⟨e3, f3⟩ | ⟨e3, g3, f3⟩
      · rw [e1, e3]
      · rw [f3] at hl3; cases hl3
      · rw [e1, at'_same, at'_ne ρ _ e3] at he
        exact absurd (s.inj b b3 x y3 hb f3 hxl hl3 he).symm g3
    · rw [f1] at hl1; cases hl1
    · rcases key b3 y3 hy3 with ⟨e3, f3⟩ | ⟨e3, f3⟩ | ⟨e3, g3, f3⟩
      · rw [e3, at'_same, at'_ne ρ _ e1] at he
        exact absurd (s.inj b1 b y1 x f1 hb hl1 hxl he) g1
      · rw [f3] at hl3; cases hl3
      · rw [at'_ne ρ _ e1, at'_ne ρ _ e3] at he
        exact s.inj b1 b3 y1 y3 f1 f3 hl1 hl3 he

/-- a block's cells are written -/
theorem Sim.write (s : Sim P w0 S A N ρ t h a w) {b : Id} {x y : Blk} (hb : look h b = some x) (hxm : x.mutable = true) (cs : Array Value)
    (hy : (∀ d v, C ρ (Live h) (okOf A ρ h w) w d v → C ρ (Live (put b y h)) (okOf A ρ (put b y h) (w.setRow (ρ b).blk cs)) (w.setRow (ρ b).blk cs) d v) →
      (∀ d v, Rep (okOf A ρ h w) w d v → Rep (okOf A ρ (put b y h) (w.setRow (ρ b).blk cs)) (w.setRow (ρ b).blk cs) d v) → BlkOK P A ρ (put b y h) (w.setRow (ρ b).blk cs) b y) :
    Sim P w0 S A N ρ t (put b y h) a (w.setRow (ρ b).blk cs) := by
  have hsz : (w.setRow (ρ b).blk cs).heap.size = w.heap.size := by simp [World.setRow]
  have hρ : ∀ b', Live h b' → Live (put b y h) b' ∧ ρ b' = ρ b' := fun b' hb' => ⟨hb'.put, rfl⟩
  have hxl : x.live = true := by cases x <;> simp_all [Blk.mutable, Blk.live]
  have hown := s.own b x hb hxl
  have hok : ∀ k, okOf A ρ h w k → okOf A ρ (put b y h) (w.setRow (ρ b).blk cs) k ∧ (w.setRow (ρ b).blk cs).heap[k]? = w.heap[k]? := by
    rintro k ⟨hk, hm⟩
    refine ⟨⟨by rw [hsz]; exact hk, fun b' z hz hmu => ?_⟩, setRow_other w _ _ _ (Ne.symm (hm b x hb hxm))⟩
    rw [look_put] at hz
    by_cases e : b' = b
    · subst e; exact hm b' x hb hxm
    · simp only [e, if_false] at hz
      exact hm b' z hz hmu
  refine s.step ⟨s.fr.os, s.fr.tape, s.fr.output, by rw [hsz]; exact s.fr.size, fun i hi hs => ?_⟩ hρ hok (fun b' z hz => ?_) (by rw [hsz]; exact Nat.le_refl _) (fun b1 b2 y1 y2 hy1 hy2 hl1 hl2 he => ?_)
  · refine (setRow_other w _ _ _ ?_).trans (s.fr.block i hi hs)
    rintro rfl
    rcases hown.2 with h' | h'
    · exact hs h'
    · omega
  · rw [look_put] at hz
    by_cases e : b' = b
    · subst e
      simp only [if_true, Option.some.injEq] at hz
      subst hz
      exact .inr ⟨hy (fun d v hc => hc.mono hρ hok) (fun d v hc => hc.mono hok), fun _ => ⟨by rw [hsz]; exact hown.1, hown.2⟩⟩
    · simp only [e, if_false] at hz
      refine .inl ⟨hz, fun hmu => setRow_other w _ _ _ fun he => e (s.inj b' b z x hz hb (by cases z <;> simp_all [Blk.mutable, Blk.live]) hxl he)⟩
  · rw [look_put] at hy1 hy2
    have l1 : ∃ z, look h b1 = some z ∧ z.live = true := by
      by_cases e : b1 = b
      · subst e; exact ⟨_, hb, hxl⟩
      · simp only [e, if_false] at hy1; exact ⟨_, hy1, hl1⟩
    have l2 : ∃ z, look h b2 = some z ∧ z.live = true := by
      by_cases e : b2 = b
      · subst e; exact ⟨_, hb, hxl⟩
      · simp only [e, if_false] at hy2; exact ⟨_, hy2, hl2⟩
    obtain ⟨z1, a1, a2⟩ := l1
    obtain ⟨z2, c1, c2⟩ := l2
    exact s.inj b1 b2 z1 z2 a1 c1 a2 c2 he
end Go.Proofs.Ytkclhekkcffpoaa.Am
