/- The plain machine: what a code does to a state; regions, control. -/
import Derived.Test.YtkclhekkcffpoaaB16
namespace Go.Proofs.Ytkclhekkcffpoaa.Am
set_option linter.unusedSimpArgs false
set_option linter.unusedVariables false
open Go Go.RowKit

variable {P : Program} {N : Nat}

/-- a state: temporaries, blocks, the next block's name -/
structure St where
  t : List (Nat × D)
  h : HL
  n : Nat

/-- The frame and the world are as σ says; the first K blocks lie where they lay. -/
def SimS (P : Program) (w0 : World) (S A : Nat → Prop) (N : Nat) (ρ0 : Id → Pl) (K : Id → Prop) (σ : St) (a : Act) (w : World) : Prop :=
  (∀ b : Id, σ.n ≤ b.1 → look σ.h b = none) ∧ (∀ b, K b → Live σ.h b) ∧ ∃ ρ, (∀ b, K b → ρ b = ρ0 b) ∧ Sim P w0 S A N ρ σ.t σ.h a w

/-- There are a frame and a world of which σ tells. -/
def RealS (P : Program) (N : Nat) (K : Id → Prop) (σ : St) : Prop := ∃ w0 S A ρ0 a w, SimS P w0 S A N ρ0 K σ a w
/-- From σ the code comes to the exit e and to σ'. -/
def Brings (P : Program) (N : Nat) (K : Id → Prop) (c : Code) (σ : St) (e : Exit) (σ' : St) : Prop :=
  ∀ w0 S A ρ0 a w, SimS P w0 S A N ρ0 K σ a w → c.wp P (fun e' a' w' => e' = e ∧ SimS P w0 S A N ρ0 K σ' a' w') a w

variable {K : Id → Prop} {σ σ1 σ2 : St} {e : Exit}

def Weak (P : Program) (N : Nat) (K : Id → Prop) (σ σ' : St) : Prop := ∀ w0 S A ρ0 a w, SimS P w0 S A N ρ0 K σ a w → SimS P w0 S A N ρ0 K σ' a w
theorem Weak.refl : Weak P N K σ σ := fun _ _ _ _ _ _ h => h
theorem Weak.trans (h : Weak P N K σ σ1) (k : Weak P N K σ1 σ2) : Weak P N K σ σ2 := fun w0 S A ρ0 a w hs => k w0 S A ρ0 a w (h w0 S A ρ0 a w hs)
theorem Brings.pre {c : Code} (hw : Weak P N K σ σ1) (h : Brings P N K c σ1 e σ2) : Brings P N K c σ e σ2 := fun w0 S A ρ0 a w hs => h w0 S A ρ0 a w (hw w0 S A ρ0 a w hs)
theorem Brings.post {c : Code} (h : Brings P N K c σ e σ1) (hw : Weak P N K σ1 σ2) : Brings P N K c σ e σ2 :=
  fun w0 S A ρ0 a w hs => wp_mono (h w0 S A ρ0 a w hs) fun _ a' w' ⟨h1, h2⟩ => ⟨h1, hw w0 S A ρ0 a' w' h2⟩

theorem Brings.skip : Brings P N K .skip σ .normal σ := fun _ _ _ _ _ _ hs => wp_skip ⟨rfl, hs⟩
theorem Brings.ret : Brings P N K .ret σ .ret σ := fun _ _ _ _ _ _ hs => wp_ret ⟨rfl, hs⟩
theorem Brings.exit {id : Nat} : Brings P N K (.exit id) σ (.exit id) σ := fun _ _ _ _ _ _ hs => wp_exit ⟨rfl, hs⟩
theorem Brings.seqN {x y : Code} (h1 : Brings P N K x σ .normal σ1) (h2 : Brings P N K y σ1 e σ2) : Brings P N K (.seq x y) σ e σ2 := by
  intro w0 S A ρ0 a w hs
  refine wp_seq (wp_mono (h1 w0 S A ρ0 a w hs) ?_)
  rintro e' a' w' ⟨rfl, h⟩
  exact h2 w0 S A ρ0 a' w' h
theorem Brings.seqX {x y : Code} (hne : e ≠ .normal) (h1 : Brings P N K x σ e σ1) : Brings P N K (.seq x y) σ e σ1 := by
  intro w0 S A ρ0 a w hs
  refine wp_seq (wp_mono (h1 w0 S A ρ0 a w hs) ?_)
  rintro e' a' w' ⟨rfl, h⟩
  cases e' <;> first | exact absurd rfl hne | exact ⟨rfl, h⟩
theorem Brings.blockE {id : Nat} {c : Code} (h : Brings P N K c σ (.exit id) σ1) : Brings P N K (.block id c) σ .normal σ1 := by
  intro w0 S A ρ0 a w hs
  refine wp_block (wp_mono (h w0 S A ρ0 a w hs) ?_)
  rintro e' a' w' ⟨rfl, h⟩
  simp only [Exit.inBlock, if_true]
  exact ⟨trivial, h⟩
theorem Brings.blockX {id : Nat} {c : Code} (hne : e ≠ .exit id) (h : Brings P N K c σ e σ1) : Brings P N K (.block id c) σ e σ1 := by
  intro w0 S A ρ0 a w hs
  refine wp_block (wp_mono (h w0 S A ρ0 a w hs) ?_)
  rintro e' a' w' ⟨rfl, hk⟩
  cases e' with
  | exit id' =>
    have : id' ≠ id := fun h => hne (by rw [h])
    simp only [Exit.inBlock, if_neg this]
    exact ⟨trivial, hk⟩
  | _ => exact ⟨rfl, hk⟩
theorem Brings.condT {c : Operand} {x y : Code} (hc : evalD σ.t c = some (.bool true)) (h : Brings P N K x σ e σ1) : Brings P N K (.cond c x y) σ e σ1 := by
  intro w0 S A ρ0 a w hs
  obtain ⟨_, _, ρ, _, s⟩ := id hs
  exact wp_cond_split (s.eval hc).bool_inv (fun _ => h w0 S A ρ0 a w hs) (fun hb => by cases hb)
theorem Brings.condF {c : Operand} {x y : Code} (hc : evalD σ.t c = some (.bool false)) (h : Brings P N K y σ e σ1) : Brings P N K (.cond c x y) σ e σ1 := by
  intro w0 S A ρ0 a w hs
  obtain ⟨_, _, ρ, _, s⟩ := id hs
  exact wp_cond_split (s.eval hc).bool_inv (fun hb => by cases hb) (fun _ => h w0 S A ρ0 a w hs)

/-- rounds of a loop, up to an exit -/
inductive LoopB (P : Program) (N : Nat) (K : Id → Prop) (c : Code) : St → Exit → St → Prop where
  | out {σ : St} {e : Exit} {σ1 : St} (hne : e ≠ .normal) (h : Brings P N K c σ e σ1) : LoopB P N K c σ e σ1
  | round {σ σ1 σ2 : St} {e : Exit} (h : Brings P N K c σ .normal σ1) (k : LoopB P N K c σ1 e σ2) : LoopB P N K c σ e σ2
  | pre {σ σ1 σ2 : St} {e : Exit} (h : Weak P N K σ σ1) (k : LoopB P N K c σ1 e σ2) : LoopB P N K c σ e σ2

theorem LoopB.go {c : Code} (h : LoopB P N K c σ e σ1) : ∀ w0 S A ρ0 a w, SimS P w0 S A N ρ0 K σ a w → ∀ (b : Frame) (k : List Item) (cs : List Frame),
    ∃ e' a' w', (e' = e ∧ SimS P w0 S A N ρ0 K σ1 a' w') ∧ Arrives P (lone (b.at a (.code c :: .inLoop c :: k)) cs w) b k cs e' a' w' := by
  induction h with
  | out hne h =>
    intro w0 S A ρ0 a w hs b k cs
    obtain ⟨e', a', w', ⟨rfl, h1⟩, h2⟩ := h w0 S A ρ0 a w hs b (.inLoop c :: k) cs
    exact ⟨e', a', w', ⟨rfl, h1⟩, .pass (x := .inLoop c) rfl (fun _ _ => .inl hne) h2⟩
  | round h _ ih =>
    intro w0 S A ρ0 a w hs b k cs
    obtain ⟨e', a', w', ⟨rfl, h1⟩, h2⟩ := h w0 S A ρ0 a w hs b (.inLoop c :: k) cs
    obtain ⟨e2, a2, w2, h3, h4⟩ := ih w0 S A ρ0 a' w' h1 b k cs
    exact ⟨e2, a2, w2, h3, .of_steps (Steps.trans h2 (.one step_inLoop)) h4⟩
  | pre h _ ih =>
    intro w0 S A ρ0 a w hs b k cs
    exact ih w0 S A ρ0 a w (h w0 S A ρ0 a w hs) b k cs
theorem Brings.loop {c : Code} (h : LoopB P N K c σ e σ1) : Brings P N K (.loop c) σ e σ1 := by
  intro w0 S A ρ0 a w hs b k cs
  obtain ⟨e', a', w', h1, h2⟩ := h.go w0 S A ρ0 a w hs b k cs
  exact ⟨e', a', w', h1, .of_steps (.one step_loop) h2⟩

/-- A region, its order open. -/
theorem Brings.regionD {id : Nat} {ops : Array Oper} {L : List (Oper × Rc)} (dep : Nat → List Nat) (hm : P.follows .mixedOrders = true) (hok : Reg.okB ops dep = true) (h1 : L.map (·.1) = ops.toList) (h2 : TRun P ops N σ.t σ.h σ.n L) (hC : Conf dep L)
    (h3 : ∀ x, look σ1.t x = look (stT (fun _ => true) 0 L σ.t) x) (h4 : ∀ x, look σ1.h x = look (stH (fun _ => true) 0 L σ.h) x) (h5 : (∀ b : Id, σ.n ≤ b.1 → look σ.h b = none) → ∀ b : Id, σ1.n ≤ b.1 → look σ1.h b = none) : Brings P N K (.region id ops true) σ .normal σ1 := by
  rintro w0 S A ρ0 a w ⟨hn, hK, ρ, hρ, s⟩
  refine wp_region_any hm ?_
  have hm0 : ∀ i, msk (Array.replicate ops.size false) i = false := by
    intro i
    unfold msk
    rw [Array.getD_eq_getD_getElem?, Array.getElem?_replicate]
    split <;> rfl
  have hQ : ∀ ρ' a' w', (∀ b, K b → ρ' b = ρ0 b) → Sim P w0 S A N ρ' (stT (fun _ => true) 0 L σ.t) (stH (fun _ => true) 0 L σ.h) a' w' → Exit.normal = Exit.normal ∧ SimS P w0 S A N ρ0 K σ1 a' w' :=
    fun ρ' a' w' hρ' s' => ⟨rfl, h5 hn, fun b hb => by
      have := stH_live (fun _ => true) L 0 σ.h b (hK b hb)
      unfold Live at this ⊢
      rw [h4]
      exact this, ρ', hρ', s'.congr h3 h4⟩
  exact region_any (w0 := w0) (S := S) (A := A) (Q := fun e a' w' => e = .normal ∧ SimS P w0 S A N ρ0 K σ1 a' w') hok h1 h2 hn hC (ρ0 := ρ0) (L0 := K) hK hQ ops.size (List.range ops.size) _ a _ ρ (by simp) (by simp) (fun i hi _ => List.mem_range.2 hi)
    (fun k o ho hmk => absurd hmk (by rw [hm0]; simp)) hρ (by
      rw [stT_low _ _ _ _ fun i _ => hm0 i, stH_low _ _ _ _ fun i _ => hm0 i]
      exact s.drew _)

theorem ops_seq {ops : Array Oper} {w0 : World} {S A : Nat → Prop} {ρ0 : Id → Pl} {Q : Exit → Act → World → Prop} : ∀ (L : List (Oper × Rc)) (k : Nat) (t : List (Nat × D)) (h : HL) (n : Nat) (a : Act) (w : World) (ρ : Id → Pl), TRun P ops N t h n L → (∀ b : Id, n ≤ b.1 → look h b = none) →
    (∀ b, K b → Live h b) → (∀ b, K b → ρ b = ρ0 b) → (∀ i, ops[k + i]? = (L[i]?).map (·.1)) → Sim P w0 S A N ρ t h a w →
    (∀ ρ a w, (∀ b, K b → ρ b = ρ0 b) → Sim P w0 S A N ρ (stT (fun _ => true) k L t) (stH (fun _ => true) k L h) a w → Q .normal a w) → wpOps P ops Q (List.range' k L.length) a w
  | [], k, t, h, n, a, w, ρ, _, _, _, hρ, _, s, hq => hq ρ a w hρ s
  | (o, r) :: L, k, t, h, n, a, w, ρ, hT, hn, hK, hρ, hops, s, hq => by
    obtain ⟨⟨rfl, h1, h2, h3⟩, h4, h5⟩ := hT
    simp only [List.length_cons, List.range'_succ]
    rw [wpOps_cons]
    unfold wpOp
    have ho : ops[k]? = some o := by simpa using hops 0
    rw [ho]
    simp only
    have hn' : ∀ b : Id, r.n' ≤ b.1 → look (puts r.u h) b = none := by
      intro b hb
      rw [look_puts_other _ _ _ fun x hx e => by have := h2 x hx; rw [e] at this; omega]
      exact hn b (by omega)
    have nxt : ∀ (ρ' : Id → Pl) (v : Value) (w' : World), Ext h ρ ρ' → Sim P w0 S A N ρ' (putD o.dst r.d t) (puts r.u h) (a.put o.dst v) w' → wpOps P ops Q (List.range' (k + 1) L.length) (a.put o.dst v) w' := by
      intro ρ' v w' hex s'
      exact ops_seq L (k + 1) _ _ r.n' _ w' ρ' h5 hn' (fun b hb => puts_live _ _ _ (hK b hb)) (fun b hb => (hex b (hK b hb)).trans (hρ b hb)) (fun i => by rw [show k + 1 + i = k + (i + 1) by omega]; exact hops (i + 1)) s' hq
    rcases h4 with ⟨g1, g2⟩ | ⟨g1, g2, g3, g4⟩
    · rw [s.guard g1]
      simp only [if_true]
      left
      have hw := g2 t h (fun x hx => rfl) (fun b hb => rfl) _ _ _ ρ a w s
      refine Reg.wp_exit_mono (K := Done P w0 S A N ρ t h (puts r.u h) a o.dst r.d) ?_ hw
      rintro a' w' ⟨v, ρ', rfl, hex, q1, q2⟩
      exact nxt ρ' v w' hex (q1.putO h3 q2)
    · rw [s.guard g1]
      simp only [Bool.false_eq_true, if_false]
      refine nxt ρ undef w (Ext.refl _ _) ?_
      rw [g2, g3]
      exact s.putO h3 (.tup [] #[] rfl fun i hi => absurd hi (Nat.not_lt_zero i))

/-- A region, its order given. -/
theorem Brings.regionS {id : Nat} {ops : Array Oper} {L : List (Oper × Rc)} (h1 : L.map (·.1) = ops.toList) (h2 : TRun P ops N σ.t σ.h σ.n L)
    (h3 : ∀ x, look σ1.t x = look (stT (fun _ => true) 0 L σ.t) x) (h4 : ∀ x, look σ1.h x = look (stH (fun _ => true) 0 L σ.h) x) (h5 : (∀ b : Id, σ.n ≤ b.1 → look σ.h b = none) → ∀ b : Id, σ1.n ≤ b.1 → look σ1.h b = none) : Brings P N K (.region id ops false) σ .normal σ1 := by
  rintro w0 S A ρ0 a w ⟨hn, hK, ρ, hρ, s⟩
  refine wp_region ?_
  have hlen : ops.size = L.length := by have := congrArg List.length h1; simpa using this.symm
  have hops : ∀ i : Nat, ops[0 + i]? = (L[i]?).map (fun x : Oper × Rc => x.1) := by
    intro i
    have := congrArg (fun l : List Oper => l[i]?) h1
    simpa using this.symm
  rw [hlen, List.range_eq_range']
  exact ops_seq (Q := fun e a' w' => e = .normal ∧ SimS P w0 S A N ρ0 K σ1 a' w') L 0 _ _ _ a w ρ h2 hn hK hρ hops s fun ρ' a' w' hρ' s' => ⟨rfl, h5 hn, fun b hb => by
      have := stH_live (fun _ => true) L 0 σ.h b (hK b hb)
      unfold Live at this ⊢
      rw [h4]
      exact this, ρ', hρ', s'.congr h3 h4⟩
end Go.Proofs.Ytkclhekkcffpoaa.Am
