/- The plain machine: loads, addresses, new variables, stores. -/
import Derived.Test.YtkclhekkcffpoaaB3
namespace Go.Proofs.Ytkclhekkcffpoaa.Am
set_option linter.unusedSimpArgs false
set_option linter.unusedVariables false
open Go Go.RowKit

variable {P : Program} {w0 : World} {S A : Nat → Prop} {N : Nat} {ρ : Id → Pl} {t : List (Nat × D)} {h : HL} {a : Act} {w : World}

theorem add_none (b o j : Nat) : (⟨b, o, none⟩ : Addr).add j = ⟨b, o + j, none⟩ := by unfold Addr.add; split <;> simp_all

def isAggT (P : Program) (T : TypeId) : Option Bool :=
  match P.underlying T with
  | some (.struct _) => some true
  | some (.array _ _) => some true
  | some _ => some false
  | none => none
def sizeT (P : Program) (T : TypeId) : Option Nat := (P.info? T).map (·.size)

theorem run_isAgg {T : TypeId} {b : Bool} (hb : isAggT P T = some b) (w : World) : (isAgg T).run P w = .ok b w := by
  unfold isAggT at hb
  cases hu : P.underlying T with
  | none => simp [hu] at hb
  | some d =>
    rw [hu] at hb
    simp only [isAgg, Sem.run_bind, run_underlying hu, Result.andThen_ok]
    cases d <;> simp_all
theorem run_size {T : TypeId} {s : Nat} (hs : sizeT P T = some s) (w : World) : (sizeOf T).run P w = .ok s w := by
  unfold sizeT at hs
  cases hi : P.info? T with
  | none => simp [hi] at hs
  | some i => simp [sizeOf, typeInfo, hi] at hs ⊢; exact hs

/-- the value of type T that the cells cs hold from o on -/
def takeVal (P : Program) (T : TypeId) (cs : List D) (o : Nat) : Option D :=
  match isAggT P T, sizeT P T with
  | some true, some s => if o + s ≤ cs.length then some (.agg ((cs.drop o).take s)) else none
  | some false, _ => cs[o]?
  | _, _ => none

theorem run_loadVar {T : TypeId} {cs : List D} {o : Nat} {d : D} (hd : takeVal P T cs o = some d) {blk off : Nat} {f : Nat → Value} {Q : D → Value → Prop}
    (hQ : ∀ (cs : List D) (vs : Array Value), cs.length = vs.size → (∀ i, i < cs.length → Q (cs.getD i .undef) (vs.getD i undef)) → Q (.agg cs) (.agg vs))
    (hc : ∀ j, j < cs.length → w.cell? ⟨blk, off + j, none⟩ = some (f j)) (hr : ∀ j, j < cs.length → Q (cs.getD j .undef) (f j)) :
    ∃ v, (loadVar T ⟨blk, off + o, none⟩).run P w = .ok v w ∧ Q d v := by
  unfold takeVal at hd
  split at hd
  · rename_i s ha hs
    split at hd
    · rename_i hle
      simp only [Option.some.injEq] at hd
      subst hd
      have hl : (loadCells ⟨blk, off + o, none⟩ s).run P w = .ok ((List.range s).map fun j => f (o + j)).toArray w :=
        run_loadCells w _ s _ fun j hj => by rw [add_none, Nat.add_assoc]; exact hc (o + j) (by omega)
      refine ⟨.agg ((List.range s).map fun j => f (o + j)).toArray, ?_, hQ _ _ (by simp; omega) fun i hi => ?_⟩
      · simp [loadVar, run_isAgg ha, run_size hs, hl]
      · have hi' : i < s := by simp at hi; omega
        have := hr (o + i) (by omega)
        have hlt : o + i < cs.length := by omega
        simpa [List.getD_eq_getElem?_getD, Array.getD_eq_getD_getElem?, hi', List.getElem?_take, List.getElem?_drop, hlt] using this
    · cases hd
  · rename_i ha
    have hlt : o < cs.length := (List.getElem?_eq_some_iff.1 hd).1
    refine ⟨f o, ?_, ?_⟩
    · have := hc o hlt
      simp [loadVar, run_isAgg ha, run_load, this]
    · have := hr o hlt
      rw [List.getD_eq_getElem?_getD, hd] at this
      exact this
  · cases hd

/-! ### Loads -/
def aLoad (P : Program) (h : HL) (T : TypeId) : D → Option D
  | .ptr b o => match look h b with | some (.var _ cs) => takeVal P T cs o | some (.fvar cs) => takeVal P T cs o | _ => none
  | .eptr b i o => match look h b with | some (.row _ l) => (match l[i]? with | some e => takeVal P T e.cells o | none => none) | _ => none
  | .iptr e o => takeVal P T e.cells o
  | .box cs => takeVal P T cs 0
  | _ => none

theorem BlkOK.row_cells {b : Id} {E : TypeId} {l : List D} (hb : BlkOK P A ρ h w b (.row E l)) {i : Nat} {e : D} (he : l[i]? = some e) :
    (∃ f : Nat → Value, (∀ j, j < e.cells.length → w.cell? ⟨(ρ b).blk, i * (ρ b).sz + j, none⟩ = some (f j)) ∧ ∀ j, j < e.cells.length → C ρ (Live h) (okOf A ρ h w) w (e.cells.getD j .undef) (f j)) ∧ e.cells.length = (ρ b).sz := by
  obtain ⟨c, h1, h2, h3, h4, h5, h6, h7, h8, h9⟩ := hb
  have hi : i < l.length := (List.getElem?_eq_some_iff.1 he).1
  have hsz : e.cells.length = (ρ b).sz := (h8 e (List.mem_of_getElem? he)).1
  refine ⟨⟨fun j => c.getD (i * (ρ b).sz + j) undef, fun j hj => ?_, fun j hj => ?_⟩, hsz⟩
  · have hlt' : i * (ρ b).sz + j < c.size := by
      rw [h2]
      have : (i + 1) * (ρ b).sz ≤ (ρ b).cap * (ρ b).sz := Nat.mul_le_mul_right _ (by omega)
      rw [Nat.add_mul] at this
      omega
    simp [World.cell?, h1, hlt', Array.getD_eq_getD_getElem?]
  · have := h9 i j hi (by omega)
    rw [List.getD_eq_getElem?_getD (l := l), he] at this
    exact this

theorem BlkOK.var_cells {b : Id} {T : TypeId} {cs : List D} (hb : BlkOK P A ρ h w b (.var T cs)) :
    ∃ f : Nat → Value, (∀ j, j < cs.length → w.cell? ⟨(ρ b).blk, 0 + j, none⟩ = some (f j)) ∧ ∀ j, j < cs.length → C ρ (Live h) (okOf A ρ h w) w (cs.getD j .undef) (f j) := by
  obtain ⟨c, h1, h2, h3⟩ := hb
  refine ⟨fun j => c.getD j undef, fun j hj => ?_, fun j hj => h3 j hj⟩
  have : j < c.size := by omega
  simp [World.cell?, h1, this, Array.getD_eq_getD_getElem?]

theorem Sim.load (s : Sim P w0 S A N ρ t h a w) {T : TypeId} {d d' : D} {v : Value} (hd : aLoad P h T d = some d') (hv : C ρ (Live h) (okOf A ρ h w) w d v) :
    ∃ v', (Instr.loadAt T v).run P w = .ok v' w ∧ C ρ (Live h) (okOf A ρ h w) w d' v' := by
  have fin : ∀ {blk off o : Nat} {cs : List D} {f : Nat → Value}, takeVal P T cs o = some d' → v = .pointer (some ⟨blk, off + o, none⟩) → (∀ j, j < cs.length → w.cell? ⟨blk, off + j, none⟩ = some (f j)) →
      (∀ j, j < cs.length → C ρ (Live h) (okOf A ρ h w) w (cs.getD j .undef) (f j)) → ∃ v', (Instr.loadAt T v).run P w = .ok v' w ∧ C ρ (Live h) (okOf A ρ h w) w d' v' := by
    intro blk off o cs f ht hv hc hr
    obtain ⟨v', h1, h2⟩ := run_loadVar ht (Q := C ρ (Live h) (okOf A ρ h w) w) (fun cs vs hl h => .agg cs vs hl h) hc hr
    refine ⟨v', ?_, h2⟩
    subst hv
    simp [Instr.loadAt, Instr.sureAddr, h1]
  unfold aLoad at hd
  split at hd
  · rename_i b o
    obtain ⟨hl, rfl⟩ := hv.ptr_inv
    split at hd
    · rename_i T' cs hb
      obtain ⟨f, h1, h2⟩ := BlkOK.var_cells (s.blk b _ hb)
      exact fin hd (off := 0) (by simp) h1 h2
    · rename_i cs hb
      have hbk : Rep _ _ _ _ := s.blk b _ hb
      cases hbk with
      | box _ b' off f hok hpos hc hr => exact fin hd (off := 0) (by simp) hc fun j hj => .pure (hr j hj)
    · cases hd
  · rename_i b i o
    obtain ⟨hl, rfl⟩ := hv.eptr_inv
    split at hd
    · rename_i E l hb
      split at hd
      · rename_i e he
        obtain ⟨⟨f, h1, h2⟩, _⟩ := BlkOK.row_cells (s.blk b _ hb) he
        exact fin hd rfl h1 h2
      · cases hd
    · cases hd
  · rename_i e o
    obtain ⟨b, off, f, rfl, hok, h1, h2⟩ := hv.iptr_inv
    exact fin hd rfl h1 fun j hj => .pure (h2 j hj)
  · rename_i cs
    cases hv.box_inv with
    | box _ b off f hok hpos hc hr => exact fin hd (by simp) hc fun j hj => .pure (hr j hj)
  · cases hd

/-! ### Addresses -/
def fieldT (P : Program) (T : TypeId) (i : Nat) : Option Nat :=
  match P.underlying T with
  | some (.struct fs) => (match fs[i]? with
    | some f => (match sizeT P f.type with | some (_ + 1) => some f.offset | _ => none)
    | none => none)
  | _ => none
def aField (P : Program) (T : TypeId) (i : Nat) : D → Option D
  | .ptr b o => (fieldT P T i).map fun k => .ptr b (o + k)
  | .eptr b j o => (fieldT P T i).map fun k => .eptr b j (o + k)
  | .iptr e o => (fieldT P T i).map fun k => .iptr e (o + k)
  | .box cs => (fieldT P T i).map fun k => .iptr (.agg cs) k
  | _ => none

theorem run_fieldAt {T : TypeId} {i k : Nat} (hk : fieldT P T i = some k) (b o : Nat) : (Instr.fieldAt T (.pointer (some ⟨b, o, none⟩)) i).run P w = .ok (.pointer (some ⟨b, o + k, none⟩)) w := by
  unfold fieldT at hk
  split at hk
  · rename_i fs hu
    split at hk
    · rename_i f hf
      split at hk
      · rename_i s hs
        simp only [Option.some.injEq] at hk
        subst hk
        simp [Instr.fieldAt, run_underlying hu, hf, Instr.sureAddr, fieldPlace, run_size hs, add_none]
      · cases hk
    · cases hk
  · cases hk

theorem aField_ok {T : TypeId} {i : Nat} {d d' : D} {v : Value} {L : Id → Prop} {ok : Nat → Prop} (hd : aField P T i d = some d') (hv : C ρ L ok w d v) :
    ∃ v', (Instr.fieldAt T v i).run P w = .ok v' w ∧ C ρ L ok w d' v' := by
  unfold aField at hd
  split at hd
  · obtain ⟨hl, rfl⟩ := hv.ptr_inv
    obtain ⟨k, hk, rfl⟩ := Option.map_eq_some_iff.1 hd
    exact ⟨_, run_fieldAt hk _ _, .ptr _ _ hl⟩
  · obtain ⟨hl, rfl⟩ := hv.eptr_inv
    obtain ⟨k, hk, rfl⟩ := Option.map_eq_some_iff.1 hd
    exact ⟨_, run_fieldAt hk _ _, by rw [Nat.add_assoc]; exact .eptr _ _ _ hl⟩
  · obtain ⟨b, off, f, rfl, hok, h1, h2⟩ := hv.iptr_inv
    obtain ⟨k, hk, rfl⟩ := Option.map_eq_some_iff.1 hd
    exact ⟨_, run_fieldAt hk _ _, by rw [Nat.add_assoc]; exact .iptr _ _ _ _ _ hok h1 h2⟩
  · rename_i cs
    obtain ⟨k, hk, rfl⟩ := Option.map_eq_some_iff.1 hd
    cases hv.box_inv with
    | box _ b off f hok hpos hc hr => exact ⟨_, run_fieldAt hk _ _, .iptr (.agg cs) k b off f hok hc hr⟩
  · cases hd

/-- the elements of what is a slice -/
def elems (h : HL) : D → Option (List D)
  | .lst l => some l
  | .nils => some []
  | .ref b => match look h b with
    | some (.row _ l) => some l
    | some (.froz l) => some l
    | _ => none
  | .vref b o n => (match look h b with
    | some (.var _ cs) => if o + n ≤ cs.length ∧ cs.all D.pure0 = true then some ((cs.drop o).take n) else none
    | _ => none)
  | _ => none

/-- v is a slice that reads as l -/
def SliceAt (ρ : Id → Pl) (L : Id → Prop) (ok : Nat → Prop) (w : World) (l : List D) (v : Value) : Prop :=
  ∃ a cap, v = .slice a l.length cap ∧ l.length ≤ cap ∧ cap ≤ maxLen ∧ (a = none → cap = 0) ∧
    (l ≠ [] → ∃ (b off : Nat) (f : Nat → Nat → Value), a = some ⟨b, off, none⟩ ∧ 0 < szl l ∧ (∀ e ∈ l, wfC (szl l) e) ∧ (∀ i j, i < l.length → j < szl l → w.cell? ⟨b, off + i * szl l + j, none⟩ = some (f i j)) ∧
      ∀ i j, i < l.length → j < szl l → C ρ L ok w ((l.getD i .undef).cells.getD j .undef) (f i j))

theorem pure0_one {d : D} (h : d.pure0 = true) : d.one = true := by cases d <;> simp_all [D.pure0, D.one]
theorem wfE.one {s : Nat} {e : D} (h : wfE s e) : wfC s e := ⟨h.1, by
  have := h.2
  rw [List.all_eq_true] at this ⊢
  exact fun x hx => pure0_one (this x hx)⟩
theorem SliceAt.of_rep {L : Id → Prop} {ok : Nat → Prop} {l : List D} {v : Value} (hr : Rep ok w (.lst l) v) : SliceAt ρ L ok w l v := by
  cases hr with
  | none a cap ha hcap => exact ⟨a, cap, rfl, Nat.zero_le _, hcap, ha, fun hne => absurd rfl hne⟩
  | lst _ n b off cap f hn hcap hmax hok hsz hpos hc hr =>
    subst hn
    exact ⟨_, cap, rfl, hcap, hmax, fun h => (by cases h), fun _ => ⟨b, off, f, rfl, hpos, fun e he => (hsz e he).one, hc, fun i j hi hj => .pure (hr i j hi hj)⟩⟩

theorem SliceAt.of_row {b : Id} {E : TypeId} {l : List D} (hb : BlkOK P A ρ h w b (.row E l)) : SliceAt ρ (Live h) (okOf A ρ h w) w l (.slice (some ⟨(ρ b).blk, 0, none⟩) (ρ b).len (ρ b).cap) := by
  obtain ⟨c, h1, h2, h3, h4, h5, h6, h7, h8, h9⟩ := hb
  refine ⟨_, _, by rw [h3], by rw [h3]; exact h4, h5, fun h => (by cases h), fun hne => ?_⟩
  cases l with
  | nil => exact absurd rfl hne
  | cons e0 l0 =>
    have hsz : szl (e0 :: l0) = (ρ b).sz := (h8 e0 (List.mem_cons_self ..)).1
    refine ⟨_, _, fun i j => c.getD (i * (ρ b).sz + j) undef, rfl, by rw [hsz]; exact h6, fun e he => by rw [hsz]; exact h8 e he, fun i j hi hj => ?_, fun i j hi hj => ?_⟩
    · rw [hsz] at hj ⊢
      have hlt' : i * (ρ b).sz + j < c.size := by
        rw [h2]
        have : (i + 1) * (ρ b).sz ≤ (ρ b).cap * (ρ b).sz := Nat.mul_le_mul_right _ (by omega)
        rw [Nat.add_mul] at this
        omega
      simp [World.cell?, h1, hlt', Array.getD_eq_getD_getElem?]
    · rw [hsz] at hj
      exact h9 i j hi hj

theorem cells_pure0 {e : D} (h : e.pure0 = true) : e.cells = [e] := by cases e <;> simp [D.pure0] at h <;> rfl
theorem C.rep_of_pure0 {ρ : Id → Pl} {L : Id → Prop} {ok : Nat → Prop} {d : D} {v : Value} (h : C ρ L ok w d v) (hp : d.pure0 = true) : Rep ok w d v := by
  cases h with
  | pure h => exact h
  | _ => simp [D.pure0] at hp
theorem SliceAt.of_var {ρ : Id → Pl} {L : Id → Prop} {ok : Nat → Prop} {c : Array Value} {cs : List D} {T : TypeId} {g o n : Nat} (g1 : w.heap[g]? = some (.cells c T (0, 0))) (g2 : c.size = cs.length) (g3 : ∀ j, j < cs.length → C ρ L ok w (cs.getD j .undef) (c.getD j undef)) (hle : o + n ≤ cs.length) (hp : cs.all D.pure0 = true) (hn : n ≤ maxLen) :
    SliceAt ρ L ok w ((cs.drop o).take n) (.slice (some ⟨g, o, none⟩) n n) := by
  have hlen : ((cs.drop o).take n).length = n := by simp; omega
  rw [List.all_eq_true] at hp
  refine ⟨_, n, by rw [hlen], by rw [hlen]; exact Nat.le_refl _, hn, fun h => (by cases h), fun hne => ?_⟩
  have hmem : ∀ e ∈ (cs.drop o).take n, e ∈ cs := fun e he => List.mem_of_mem_drop (List.mem_of_mem_take he)
  have hsz : szl ((cs.drop o).take n) = 1 := by
    cases hq : (cs.drop o).take n with
    | nil => exact absurd hq hne
    | cons e l =>
      have : e ∈ cs := hmem e (by rw [hq]; exact List.mem_cons_self ..)
      simp [szl, cells_pure0 (hp e this)]
  refine ⟨g, o, fun i _ => c.getD (o + i) undef, rfl, by rw [hsz]; exact Nat.one_pos, fun e he => ?_, fun i j hi hj => ?_, fun i j hi hj => ?_⟩
  · rw [hsz]
    have := hp e (hmem e he)
    exact ⟨by rw [cells_pure0 this]; rfl, by rw [cells_pure0 this]; simp [pure0_one this]⟩
  · rw [hsz] at hj ⊢
    rw [hlen] at hi
    obtain rfl : j = 0 := by omega
    have : o + i < c.size := by omega
    simp [World.cell?, g1, this, Array.getD_eq_getD_getElem?]
  · rw [hsz] at hj
    rw [hlen] at hi
    obtain rfl : j = 0 := by omega
    have h1 : o + i < cs.length := by omega
    have e1 : ((cs.drop o).take n).getD i .undef = cs.getD (o + i) .undef := by
      simp [List.getD_eq_getElem?_getD, List.getElem?_take, hi, List.getElem?_drop]
    have hm : cs.getD (o + i) .undef ∈ cs := by
      rw [List.getD_eq_getElem?_getD, List.getElem?_eq_getElem h1]; exact List.getElem_mem h1
    rw [e1, cells_pure0 (hp _ hm)]
    exact g3 (o + i) h1

theorem Sim.slice (s : Sim P w0 S A N ρ t h a w) {d : D} {v : Value} {l : List D} (hd : elems h d = some l) (hv : C ρ (Live h) (okOf A ρ h w) w d v) : SliceAt ρ (Live h) (okOf A ρ h w) w l v := by
  unfold Am.elems at hd
  split at hd
  · simp only [Option.some.injEq] at hd; subst hd; exact .of_rep hv.lst_inv
  · simp only [Option.some.injEq] at hd; subst hd
    obtain rfl := hv.nils_inv
    exact ⟨none, 0, rfl, Nat.zero_le _, Nat.zero_le _, fun _ => rfl, fun hne => absurd rfl hne⟩
  · rename_i b
    obtain ⟨hl, rfl⟩ := hv.ref_inv
    split at hd
    · rename_i E l' hb
      simp only [Option.some.injEq] at hd; subst hd
      exact .of_row (s.blk b _ hb)
    · rename_i l' hb
      simp only [Option.some.injEq] at hd; subst hd
      exact .of_rep (s.blk b _ hb)
    · cases hd
  · rename_i b o n
    obtain ⟨hl, hn, rfl⟩ := hv.vref_inv
    split at hd
    · rename_i T cs hb
      split at hd
      · rename_i hc
        simp only [Option.some.injEq] at hd; subst hd
        obtain ⟨c, g1, g2, g3⟩ := s.blk b _ hb
        exact .of_var g1 g2 g3 hc.1 hc.2 hn
      · cases hd
    · cases hd
  · cases hd
end Go.Proofs.Ytkclhekkcffpoaa.Am
