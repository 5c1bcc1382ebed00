/- The plain machine: operands, literals, parts. -/
import Derived.Test.YtkclhekkcffpoaaB18
namespace Go.Proofs.Ytkclhekkcffpoaa.Am
set_option linter.unusedSimpArgs false
set_option linter.unusedVariables false
open Go Go.RowKit

variable {P : Program} {t : List (Nat × D)} {h : HL} {n : Nat}

theorem evalPs_nil : evalPs t [] = some [] := by simp [evalPs]
theorem evalPs_cons {k : Nat} {x : Operand} {l : List (Nat × Operand)} {d : D} {ds : List (Nat × D)} (hx : evalD t x = some d) (hl : evalPs t l = some ds) : evalPs t ((k, x) :: l) = some ((k, d) :: ds) := by
  simp only [evalPs] at hl ⊢
  simp [hx, hl]
theorem evalDs_nil : evalDs t [] = some [] := by simp [evalDs]
theorem evalDs_cons {x : Operand} {l : List Operand} {d : D} {ds : List D} (hx : evalD t x = some d) (hl : evalDs t l = some ds) : evalDs t (x :: l) = some (d :: ds) := by
  simp only [evalDs] at hl ⊢
  simp [hx, hl]
theorem dfill_nil {place : Nat → Option (Nat × Nat)} {cs : List D} : dfill place cs [] = some cs := rfl
theorem dfill_cons {place : Nat → Option (Nat × Nat)} {cs cs' r : List D} {i off size : Nat} {d : D} {l : List (Nat × D)} (hp : place i = some (off, size)) (hw : d.whole = true) (hs : d.cells.length = size) (hl : off + size ≤ cs.length) (hc : splice cs off d.cells = cs') (hr : dfill place cs' l = some r) : dfill place cs ((i, d) :: l) = some r := by
  subst hs hc
  simp only [dfill, hp]
  rw [if_pos ⟨hw, by simp, hl⟩]
  exact hr
theorem take1 {T : TypeId} {cs : List D} {o : Nat} {d : D} (ha : isAggT P T = some false) (hd : cs[o]? = some d) : takeVal P T cs o = some d := by simp [takeVal, ha, hd]
theorem takeA {T : TypeId} {cs cs' : List D} {o s : Nat} (ha : isAggT P T = some true) (hs : sizeT P T = some s) (hl : o + s ≤ cs.length) (hd : (cs.drop o).take s = cs') : takeVal P T cs o = some (.agg cs') := by simp [takeVal, ha, hs, hl, hd]

/-! ### A block's content by its last names -/
theorem fwd_one (h : HL) (d : D) : (fwd h d).one = d.one := by
  cases d
  case ref b => simp only [fwd]; split <;> rfl
  case ptr b o =>
    simp only [fwd]
    split
    · rfl
    · split <;> rfl
    · rfl
  case eptr b i o => simp only [fwd]; split <;> rfl
  case vref b o n => simp only [fwd]; split <;> rfl
  all_goals simp [fwd, D.one]
theorem fwd_cells (h : HL) (d : D) : (fwd h d).cells = d.cells.map (fwd h) := by
  by_cases hd : d.one = true
  · rw [one_cells hd, one_cells (by rw [fwd_one]; exact hd)]; rfl
  · cases d with
    | agg cs => simp only [fwd, D.cells, fwdL_eq]
    | tup cs => simp [fwd, D.cells]
    | undef => simp [fwd, D.cells]
    | _ => exact absurd rfl hd
theorem nz0_one (d : D) : (nz0 d).one = d.one := by cases d <;> rfl
def lastD (h : HL) (d : D) : D := nzE (fwd h d)
theorem lastD_cells (h : HL) (d : D) : (lastD h d).cells = d.cells.map fun c => nz0 (fwd h c) := by
  unfold lastD
  rw [nzE_cells, fwd_cells, List.map_map]
  rfl
theorem lastD_wf {h : HL} {s : Nat} {d : D} (hw : wfC s d) : wfC s (lastD h d) := by
  refine ⟨by rw [lastD_cells, List.length_map]; exact hw.1, ?_⟩
  have := hw.2
  rw [List.all_eq_true] at this ⊢
  rw [lastD_cells]
  intro x hx
  obtain ⟨y, hy, rfl⟩ := List.mem_map.1 hx
  rw [nz0_one, fwd_one]
  exact this y hy
def lastB (h : HL) : Blk → Blk
  | .var T cs => .var T (cs.map fun c => nz0 (fwd h c))
  | .row E l => .row E (l.map (lastD h))
  | x => x
theorem lastB_mutable (h : HL) (x : Blk) : (lastB h x).mutable = x.mutable := by cases x <;> rfl
theorem lastB_live (h : HL) (x : Blk) : (lastB h x).live = x.live := by cases x <;> rfl
section
variable {w0 : World} {S A : Nat → Prop} {N : Nat} {ρ : Id → Pl} {a : Act} {w : World} {h' : HL}
theorem Sim.last (s : Sim P w0 S A N ρ t h a w) {b : Id} {x : Blk} (hb : look h b = some x) : Sim P w0 S A N ρ t (put b (lastB h x) h) a w := by
  have hlv : ∀ b', Live h b' → Live (put b (lastB h x) h) b' ∧ ρ b' = ρ b' := fun b' hb' => ⟨hb'.put, rfl⟩
  have key : ∀ b' y, look (put b (lastB h x) h) b' = some y → (b' = b ∧ y = lastB h x) ∨ (b' ≠ b ∧ look h b' = some y) := by
    intro b' y hy
    rw [look_put] at hy
    by_cases e : b' = b
    · rw [if_pos e] at hy; exact .inl ⟨e, (Option.some.inj hy).symm⟩
    · rw [if_neg e] at hy; exact .inr ⟨e, hy⟩
  have hok : ∀ k, okOf A ρ h w k → okOf A ρ (put b (lastB h x) h) w k ∧ w.heap[k]? = w.heap[k]? := by
    rintro k ⟨hk, hm⟩
    refine ⟨⟨hk, fun b' y hy hmu => ?_⟩, rfl⟩
    rcases key b' y hy with ⟨rfl, rfl⟩ | ⟨_, hy⟩
    · rw [lastB_mutable] at hmu; exact hm b' x hb hmu
    · exact hm b' y hy hmu
  have old : ∀ b' y, look (put b (lastB h x) h) b' = some y → y.live = true → ∃ z, look h b' = some z ∧ z.live = true := by
    intro b' y hy hl
    rcases key b' y hy with ⟨rfl, rfl⟩ | ⟨_, hy⟩
    · rw [lastB_live] at hl; exact ⟨x, hb, hl⟩
    · exact ⟨y, hy, hl⟩
  refine s.step s.fr hlv hok (fun b' y hy => ?_) (Nat.le_refl _) (fun b1 b2 y1 y2 hy1 hy2 hl1 hl2 he => ?_)
  · rcases key b' y hy with ⟨rfl, rfl⟩ | ⟨e, hy⟩
    · refine .inr ⟨?_, fun hl => s.own b' x hb (by rw [lastB_live] at hl; exact hl)⟩
      have hbk := s.blk b' x hb
      cases x with
      | var T cs =>
        obtain ⟨c, h1, h2, h3⟩ := hbk
        refine ⟨c, h1, by simpa using h2, fun j hj => ?_⟩
        have hj' : j < cs.length := by simpa using hj
        have := (s.fwd (h3 j hj')).nz0.mono hlv hok
        simpa [List.getD_eq_getElem?_getD, hj'] using this
      | row E l =>
        obtain ⟨c, h1, h2, h3, h4, h5, h6, h7, h8, h9⟩ := hbk
        refine ⟨c, h1, h2, by simpa using h3, h4, h5, h6, h7, fun e he => ?_, fun i j hi hj => ?_⟩
        · obtain ⟨e0, he0, rfl⟩ := List.mem_map.1 he
          exact lastD_wf (h8 e0 he0)
        · have hi' : i < l.length := by simpa using hi
          have hj' : j < (l.getD i .undef).cells.length := by rw [(h8 _ (getD_mem hi')).1]; exact hj
          have := (s.fwd (h9 i j hi' hj)).nz0.mono hlv hok
          have e1 : (l.map (lastD h)).getD i .undef = lastD h (l.getD i .undef) := by simp [List.getD_eq_getElem?_getD, hi']
          have e2 : ((l.getD i .undef).cells.map fun c => nz0 (Am.fwd h c)).getD j .undef = nz0 (Am.fwd h ((l.getD i .undef).cells.getD j .undef)) := by
            rw [List.getD_eq_getElem?_getD, List.getElem?_map, List.getElem?_eq_getElem hj', List.getD_eq_getElem?_getD (i := j), List.getElem?_eq_getElem hj']; rfl
          rw [e1, lastD_cells, e2]
          exact this
      | _ => exact BlkOK.mono hbk (Live.of_look hb) hlv hok (fun _ => rfl)
    · exact .inl ⟨hy, fun _ => rfl⟩
  · obtain ⟨z1, a1, a2⟩ := old b1 y1 hy1 hl1
    obtain ⟨z2, c1, c2⟩ := old b2 y2 hy2 hl2
    exact s.inj b1 b2 z1 z2 a1 c1 a2 c2 he
/-- the blocks that a block's content leads to -/
def blkIds : Blk → List Id
  | .var _ cs => cs.flatMap allIds
  | .row _ l => l.flatMap fun e => allIds e
  | _ => []
theorem map_congr'' {α β : Type} {f g : α → β} : ∀ {l : List α}, (∀ x ∈ l, f x = g x) → l.map f = l.map g
  | [], _ => rfl
  | x :: l, hx => by simp only [List.map_cons, hx x (List.mem_cons_self ..), map_congr'' fun y hy => hx y (List.mem_cons_of_mem _ hy)]
theorem lastB_local {x : Blk} (hb : ∀ b ∈ blkIds x, look h b = look h' b) : lastB h x = lastB h' x := by
  cases x with
  | var T cs => simp only [lastB]; rw [map_congr'' fun c hc => by rw [fwd_of (h := h) (h' := h') fun b h1 => hb b (List.mem_flatMap.2 ⟨c, hc, h1⟩)]]
  | row E l => simp only [lastB]; rw [map_congr'' (f := lastD h) (g := lastD h') fun c hc => by unfold lastD; rw [fwd_of (h := h) (h' := h') fun b h1 => hb b (List.mem_flatMap.2 ⟨c, hc, h1⟩)]]
  | _ => rfl
/-- an operation, ahead of which a block's content is put by its last names -/
theorem opS_last {o : Oper} {b : Id} {x : Blk} {d : D} {u1 : HL} {f : List Nat} (hb : look h b = some x) (hf : b.1 ∈ f ∧ ∀ c ∈ blkIds x, c.1 ∈ f) (hd : OpS P N o t (puts [(b, lastB h x)] h) d u1 f) : OpS P N o t h d ([(b, lastB h x)] ++ u1) f := by
  intro t' h' ht ha w0 S A ρ a w s
  have hb' : look h' b = some x := by rw [← ha b hf.1]; exact hb
  have e : lastB h x = lastB h' x := lastB_local fun c hc => ha c (hf.2 c hc)
  rw [puts_append]
  have s1 : Sim P w0 S A N ρ t' (puts [(b, lastB h x)] h') a w := by rw [e]; exact s.last hb'
  refine Reg.wp_exit_mono (K := Done P w0 S A N ρ t' (puts [(b, lastB h x)] h') (puts u1 (puts [(b, lastB h x)] h')) a o.dst d) ?_ (hd t' _ ht (ha.puts _) w0 S A ρ a w s1)
  rintro a' w' ⟨v, ρ2, rfl, g1, g2, g3⟩
  exact ⟨v, ρ2, rfl, fun c hc => g1 c (Live.put hc), g2, g3⟩
theorem opS_congr {o : Oper} {d : D} {u : HL} {f : List Nat} (he : ∀ b, look h b = look h' b) (hd : OpS P N o t h d u f) : OpS P N o t h' d u f :=
  fun t' h2 ht ha => hd t' h2 ht fun b hb => (he b).trans (ha b hb)
end
end Go.Proofs.Ytkclhekkcffpoaa.Am
