/- The plain machine: conversions, new variables, stores. -/
import Derived.Test.YtkclhekkcffpoaaB5
import Derived.Laws.BytesString
namespace Go.Proofs.Ytkclhekkcffpoaa.Am
set_option linter.unusedSimpArgs false
set_option linter.unusedVariables false
open Go Go.RowKit

variable {P : Program} {w0 : World} {S A : Nat → Prop} {N : Nat} {ρ : Id → Pl} {t : List (Nat × D)} {h : HL} {a : Act} {w : World}

theorem foldl_push (ns : List Int) (s : ByteArray) : (ns.foldl (fun r n => r.push (UInt8.ofNat n.toNat)) s).data.toList = s.data.toList ++ ns.map fun n => UInt8.ofNat n.toNat := by
  induction ns generalizing s with
  | nil => simp
  | cons n ns ih => simp only [List.foldl_cons, ih]; simp [ByteArray.push]

theorem mapM_bytes {l : List D} {bs : List UInt8} (hb : l.mapM byteOfD = some bs) : ∃ ns : List Int, l = ns.map (D.int .u8) ∧ bs = ns.map fun n => UInt8.ofNat n.toNat := by
  induction l generalizing bs with
  | nil => simp at hb; exact ⟨[], rfl, by simp [hb]⟩
  | cons d l ih =>
    simp only [List.mapM_cons, Option.bind_eq_bind, Option.bind_eq_some_iff, Option.pure_def, Option.some.injEq] at hb
    obtain ⟨b, h1, bs', h2, rfl⟩ := hb
    obtain ⟨ns, rfl, rfl⟩ := ih h2
    unfold byteOfD at h1
    split at h1
    · rename_i n
      simp only [Option.some.injEq] at h1
      exact ⟨n :: ns, rfl, by simp [h1]⟩
    · cases h1

theorem Sim.convBytes (s : Sim P w0 S A N ρ t h a w) {src dst e : TypeId} {d : D} {l : List D} {bs : List UInt8} {v : Value} (hk : P.underlying dst = some .string) (hs : P.underlying src = some (.slice e)) (he : P.underlying e = some (.int .u8)) (hl : elems h d = some l) (hbs : l.mapM byteOfD = some bs)
    (hv : C ρ (Live h) (okOf A ρ h w) w d v) : ∃ v', (convert src dst v).run P w = .ok v' w ∧ C ρ (Live h) (okOf A ρ h w) w (.str ⟨bs.toArray⟩) v' := by
  obtain ⟨a', cap, rfl, hcap, hmax, ha, hne⟩ := s.slice hl hv
  obtain ⟨ns, rfl, rfl⟩ := mapM_bytes hbs
  refine ⟨.string (ns.foldl (fun r n => r.push (UInt8.ofNat n.toNat)) ByteArray.empty), ?_, ?_⟩
  · rw [run_convert_bytes_string w src dst e _ _ _ hs he hk]
    cases ns with
    | nil =>
      cases a' with
      | none => simp [Conv.bytesToString]
      | some ad =>
        exact run_bytesToString w ad 0 cap [] (by simp [loadCells, loadCellsFrom])
    | cons n ns =>
      obtain ⟨b, off, f, rfl, hp, hsz, hc, hr⟩ := hne (by simp)
      have e1 : szl ((n :: ns).map (D.int .u8)) = 1 := rfl
      rw [e1] at hc hr
      refine run_bytesToString w _ _ cap (n :: ns) ?_
      have hlen : ((n :: ns).map (Value.int .u8)).length = ((n :: ns).map (D.int .u8)).length := by simp
      rw [← hlen]
      refine run_loadCells_list w _ _ fun j u hu => ?_
      have hj : j < (n :: ns).length := by have := (List.getElem?_eq_some_iff.1 hu).1; simpa using this
      have h1 := hc j 0 (by simpa using hj) (by omega)
      have h2 := hr j 0 (by simpa using hj) (by omega)
      rw [add_none]
      simp only [Nat.mul_one, Nat.add_zero] at h1
      rw [h1]
      have e2 : ((n :: ns).map (D.int .u8)).getD j .undef = .int .u8 (n :: ns)[j] := by simp only [List.getD_eq_getElem?_getD, List.getElem?_map, List.getElem?_eq_getElem hj, Option.map_some, Option.getD_some]
      rw [e2] at h2
      have e3 : u = .int .u8 (n :: ns)[j] := by
        have : ((n :: ns).map (Value.int .u8))[j]? = some (.int .u8 (n :: ns)[j]) := by simp only [List.getElem?_map, List.getElem?_eq_getElem hj, Option.map_some]
        rw [this] at hu
        exact (Option.some.inj hu).symm
      rw [e3]
      rw [h2.int_inv]
  · have e4 : (⟨(ns.map fun n => UInt8.ofNat n.toNat).toArray⟩ : ByteArray) = ns.foldl (fun r n => r.push (UInt8.ofNat n.toNat)) ByteArray.empty := by
      apply ByteArray.ext
      apply Array.ext'
      rw [foldl_push]
      rfl
    rw [e4]
    exact .str _

theorem Sim.conv (s : Sim P w0 S A N ρ t h a w) {src dst : TypeId} {d d' : D} {v : Value} (hd : aConv P h src dst d = some d') (hv : C ρ (Live h) (okOf A ρ h w) w d v) :
    ∃ v', (convert src dst v).run P w = .ok v' w ∧ C ρ (Live h) (okOf A ρ h w) w d' v' := by
  unfold aConv at hd
  split at hd
  · rename_i k x hk hs
    split at hd
    · obtain rfl := hv.int_inv
      simp only [Option.some.injEq] at hd
      subst hd
      refine ⟨_, ?_, .int _ _⟩
      simp [convert, run_underlying hs, run_underlying hk, Conv.intToInt]
    · cases hd
  · rename_i e hk hs
    split at hd
    · rename_i he h1
      split at hd
      · rename_i l hl
        split at hd
        · rename_i bs hbs
          simp only [Option.some.injEq] at hd
          subst hd
          exact s.convBytes hk hs he hl hbs hv
        · cases hd
      · cases hd
    · cases hd
  · rename_i x _ hk hs
    split at hd
    · obtain rfl := hv.str_inv
      simp only [Option.some.injEq] at hd
      subst hd
      exact ⟨_, by simp [convert, run_underlying hs, run_underlying hk], .str _⟩
    · cases hd
  · cases hd

/-! ### New variables -/
def D.whole : D → Bool
  | .tup _ | .undef => false
  | _ => true
theorem Sim.newVar (s : Sim P w0 S A N ρ t h a w) {n : Id} (hn : look h n = none) {T : TypeId} {d : D} {v : Value} (hd : d.whole = true) (hv : C ρ (Live h) (okOf A ρ h w) w d v) :
    ∃ ρ', Ext h ρ ρ' ∧ (newVar T v).run P w = .ok ⟨(ρ' n).blk, 0, none⟩ (w.alloc (.cells v.cells T (0, 0))) ∧ Sim P w0 S A N ρ' t (put n (.var T d.cells) h) a (w.alloc (.cells v.cells T (0, 0))) := by
  have hc := hv.cells (by rintro rfl; simp [D.whole] at hd) (by rintro cs rfl; simp [D.whole] at hd)
  refine ⟨at' ρ n { blk := w.heap.size }, Ext.at hn _, ?_, ?_⟩
  · rw [at'_same]
    cases v <;> simp [Go.newVar, newRow, newObj, go_sem, Value.cells] <;> rfl
  · refine s.new hn _ _ _ rfl fun hC hR => ?_
    refine ⟨v.cells, ?_, hc.1, fun j hj => hC _ _ (hc.2 j hj)⟩
    rw [at'_same]
    exact heap_alloc_new w _

theorem ofVal_whole {v : Value} {d : D} (h : ofVal v = some d) : d.whole = true := by
  unfold ofVal at h
  split at h <;> simp only [Option.some.injEq, reduceCtorEq] at h <;> subst h <;> rfl

def ofZero (P : Program) (T : TypeId) : Option D :=
  match (P.info? T).bind (·.zero) with
  | some (.agg vs) => (vs.toList.mapM ofVal).map .agg
  | some v => ofVal v
  | none => none

theorem mapM_ofVal {ok : Nat → Prop} : ∀ {l : List Value} {cs : List D}, l.mapM ofVal = some cs → cs.length = l.length ∧ ∀ i, i < cs.length → Rep ok w (cs.getD i .undef) (l.getD i undef)
  | [], cs, h => by simp at h; subst h; simp
  | v :: l, cs, h => by
    simp only [List.mapM_cons, Option.bind_eq_bind, Option.bind_eq_some_iff, Option.pure_def, Option.some.injEq] at h
    obtain ⟨d, h1, cs', h2, rfl⟩ := h
    obtain ⟨e, ih⟩ := mapM_ofVal (ok := ok) h2
    refine ⟨by simp [e], fun i hi => ?_⟩
    cases i with
    | zero => simpa using ofVal_ok h1
    | succ i => simpa using ih i (by simpa using hi)

theorem ofZero_ok {T : TypeId} {d : D} (hd : ofZero P T = some d) (ok : Nat → Prop) (w : World) : ∃ v, (zeroValue T).run P w = .ok v w ∧ Rep ok w d v ∧ d.whole = true ∧ (P.info? T).bind (·.zero) = some v := by
  unfold ofZero at hd
  cases hi : P.info? T with
  | none => simp [hi] at hd
  | some i =>
    simp only [hi, Option.bind_some] at hd
    cases hz : i.zero with
    | none => simp [hz] at hd
    | some z =>
      rw [hz] at hd
      refine ⟨z, by simp [zeroValue, typeInfo, hi, hz], ?_⟩
      cases z with
      | agg vs =>
        simp only at hd
        obtain ⟨cs, h1, rfl⟩ := Option.map_eq_some_iff.1 hd
        obtain ⟨e, ih⟩ := mapM_ofVal (ok := ok) (w := w) h1
        exact ⟨.agg cs vs (by simpa using e) fun i hi => by simpa [Array.getD_eq_getD_getElem?, List.getD_eq_getElem?_getD] using ih i hi, rfl, by simp [hz]⟩
      | _ => exact ⟨ofVal_ok hd, ofVal_whole hd, by simp [hz]⟩

/-! ### Stores -/
theorem getD_splice {α : Type} (l m : List α) (o j : Nat) (d : α) (hl : o + m.length ≤ l.length) :
    (l.take o ++ m ++ l.drop (o + m.length)).getD j d = if o ≤ j ∧ j < o + m.length then m.getD (j - o) d else l.getD j d := by
  simp only [List.getD_eq_getElem?_getD]
  congr 1
  rw [List.append_assoc, List.getElem?_append, List.getElem?_append]
  simp only [List.length_take, Nat.min_eq_left (show o ≤ l.length by omega)]
  by_cases h1 : j < o
  · have : ¬ (o ≤ j ∧ j < o + m.length) := by omega
    rw [if_pos h1, if_neg this, List.getElem?_take, if_pos h1]
  · by_cases h2 : j - o < m.length
    · have : o ≤ j ∧ j < o + m.length := by omega
      rw [if_neg h1, if_pos h2, if_pos this]
    · have : ¬ (o ≤ j ∧ j < o + m.length) := by omega
      rw [if_neg h1, if_neg h2, if_neg this, List.getElem?_drop]
      rw [show o + m.length + (j - o - m.length) = j by omega]
theorem length_splice {α : Type} (l m : List α) (o : Nat) (hl : o + m.length ≤ l.length) : (l.take o ++ m ++ l.drop (o + m.length)).length = l.length := by
  simp only [List.length_append, List.length_take, List.length_drop, Nat.min_eq_left (show o ≤ l.length by omega)]
  omega

theorem C.rep0 {L : Id → Prop} {ok : Nat → Prop} {d : D} {v : Value} (h : C ρ L ok w d v) (hd : d.pure0 = true) : Rep ok w d v := by
  cases h with
  | pure h => exact h
  | _ => simp [D.pure0] at hd

def withCells (e : D) (cs : List D) : D := match e with | .agg _ => .agg cs | _ => cs.headD .undef
def splice (l : List D) (o : Nat) (m : List D) : List D := l.take o ++ m ++ l.drop (o + m.length)

theorem splice_ok {Q : D → Value → Prop} {cs m : List D} {vs mv : List Value} {o : Nat} (hl : cs.length = vs.length) (hm : m.length = mv.length) (hle : o + m.length ≤ cs.length)
    (h1 : ∀ j, j < cs.length → Q (cs.getD j .undef) (vs.getD j undef)) (h2 : ∀ j, j < m.length → Q (m.getD j .undef) (mv.getD j undef)) :
    ∀ j, j < cs.length → Q ((splice cs o m).getD j .undef) ((vs.take o ++ mv ++ vs.drop (o + mv.length)).getD j undef) := by
  intro j hj
  rw [splice, getD_splice _ _ _ _ _ hle, getD_splice _ _ _ _ _ (by omega), ← hm]
  split
  · exact h2 _ (by omega)
  · exact h1 j hj

theorem withCells_cells {e : D} {cs : List D} (hl : cs.length = e.cells.length) (h1 : ∀ x ∈ cs, x.cells = [x]) : (withCells e cs).cells = cs := by
  have key : e.cells = [e] → cs.headD .undef = withCells e cs → (withCells e cs).cells = cs := by
    intro he hw
    rw [he] at hl
    match cs, hl with
    | [x], _ =>
      rw [← hw]
      exact h1 x (List.mem_singleton.2 rfl)
  cases e <;> first | rfl | exact key rfl rfl
theorem pure0_whole {d : D} (h : d.cells.all D.pure0 = true) : d.whole = true := by cases d <;> simp_all [D.pure0, D.whole, D.cells]
theorem one_cells {d : D} (h : d.one = true) : d.cells = [d] := by cases d <;> simp_all [D.cells, D.one]
/-- an element's cells are single -/
theorem cells_single {e : D} (he : ∀ cs, e ≠ .agg cs) : e.cells = [e] := by cases e <;> first | rfl | exact absurd rfl (he _)

theorem splice_cells {e : D} {m : List D} {o : Nat} (hle : o + m.length ≤ e.cells.length) (hm : ∀ x ∈ m, x.cells = [x]) : (withCells e (splice e.cells o m)).cells = splice e.cells o m := by
  by_cases hag : ∃ cs, e = .agg cs
  · obtain ⟨cs, rfl⟩ := hag; rfl
  · have he := cells_single (e := e) fun cs h => hag ⟨cs, h⟩
    refine withCells_cells (length_splice _ _ _ hle) fun x hx => ?_
    rw [he] at hx
    simp only [splice, List.mem_append] at hx
    rcases hx with (hx | hx) | hx
    · obtain rfl := List.mem_singleton.1 (List.mem_of_mem_take hx); exact he
    · exact hm x hx
    · obtain rfl := List.mem_singleton.1 (List.mem_of_mem_drop hx); exact he

theorem splice_row {Q : D → Value → Prop} {l : List D} {c mv : List Value} {m : List D} {i o sz : Nat} {e : D} (he : l[i]? = some e) (hsz : e.cells.length = sz) (hm : m.length = mv.length) (hle : o + m.length ≤ sz) (hc : (i + 1) * sz ≤ c.length)
    (h1 : ∀ i' j, i' < l.length → j < sz → Q ((l.getD i' .undef).cells.getD j .undef) (c.getD (i' * sz + j) undef)) (h2 : ∀ j, j < m.length → Q (m.getD j .undef) (mv.getD j undef)) (hs : ∀ x ∈ m, x.cells = [x]) :
    ∀ i' j, i' < l.length → j < sz → Q (((l.set i (withCells e (splice e.cells o m))).getD i' .undef).cells.getD j .undef) ((c.take (i * sz + o) ++ mv ++ c.drop (i * sz + o + mv.length)).getD (i' * sz + j) undef) := by
  intro i' j hi' hj
  have hi : i < l.length := (List.getElem?_eq_some_iff.1 he).1
  rw [Nat.add_mul, Nat.one_mul] at hc
  rw [getD_splice _ _ _ _ _ (by omega), ← hm]
  by_cases hii : i' = i
  · subst hii
    have e2 : (l.set i' (withCells e (splice e.cells o m))).getD i' .undef = withCells e (splice e.cells o m) := by simp [List.getD_eq_getElem?_getD, hi]
    rw [e2, splice_cells (by omega) hs, splice, getD_splice _ _ _ _ _ (by omega)]
    by_cases hj2 : o ≤ j ∧ j < o + m.length
    · rw [if_pos hj2, if_pos (by omega), show i' * sz + j - (i' * sz + o) = j - o by omega]
      exact h2 _ (by omega)
    · rw [if_neg hj2, if_neg (by omega)]
      have := h1 i' j hi hj
      rwa [List.getD_eq_getElem?_getD (l := l), he] at this
  · have e2 : (l.set i (withCells e (splice e.cells o m))).getD i' .undef = l.getD i' .undef := by
      simp only [List.getD_eq_getElem?_getD, List.getElem?_set_ne (Ne.symm hii)]
    rw [e2]
    have hj3 : ¬ (i * sz + o ≤ i' * sz + j ∧ i' * sz + j < i * sz + o + m.length) := by
      rintro ⟨q1, q2⟩
      rcases Nat.lt_or_ge i' i with hlt | hge
      · have : (i' + 1) * sz ≤ i * sz := Nat.mul_le_mul_right _ (by omega)
        rw [Nat.add_mul, Nat.one_mul] at this
        omega
      · have : (i + 1) * sz ≤ i' * sz := Nat.mul_le_mul_right _ (by omega)
        rw [Nat.add_mul, Nat.one_mul] at this
        omega
    rw [if_neg hj3]
    exact h1 i' j hi' hj

def aStore (P : Program) (h : HL) (T : TypeId) (d dv : D) : Option (HL) :=
  match d with
  | .ptr b o => (match look h b with
    | some (.var T' cs) => if dv.whole = true ∧ sizeT P T = some dv.cells.length ∧ o + dv.cells.length ≤ cs.length ∧ dv.cells.all D.one = true then some [(b, .var T' (splice cs o dv.cells))] else none
    | _ => none)
  | .eptr b i o => (match look h b with
    | some (.row E l) => (match l[i]? with
      | some e => if dv.whole = true ∧ sizeT P T = some dv.cells.length ∧ o + dv.cells.length ≤ e.cells.length ∧ dv.cells.all D.one = true then some [(b, .row E (l.set i (withCells e (splice e.cells o dv.cells))))] else none
      | none => none)
    | _ => none)
  | _ => none

theorem arr_getD (l : List Value) (j : Nat) : l.toArray.getD j undef = l.getD j undef := by simp [Array.getD_eq_getD_getElem?, List.getD_eq_getElem?_getD]
theorem arr_getD' (c : Array Value) (j : Nat) : c.getD j undef = c.toList.getD j undef := by simp [Array.getD_eq_getD_getElem?, List.getD_eq_getElem?_getD]

theorem Sim.store (s : Sim P w0 S A N ρ t h a w) {T : TypeId} {d dv : D} {v vv : Value} {u : HL} (hd : aStore P h T d dv = some u) (hv : C ρ (Live h) (okOf A ρ h w) w d v) (hvv : C ρ (Live h) (okOf A ρ h w) w dv vv) :
    ∃ w', (Instr.storeAt T v vv).run P w = .ok () w' ∧ Sim P w0 S A N ρ t (puts u h) a w' := by
  have pre : dv.whole = true → dv.cells.all D.one = true → (vv.cells.toList.length = dv.cells.length ∧ (∀ x ∈ vv.cells.toList, x.oneCell' = true) ∧ ∀ j, j < dv.cells.length → C ρ (Live h) (okOf A ρ h w) w (dv.cells.getD j .undef) (vv.cells.toList.getD j undef)) := by
    intro hwh h1
    have hc := hvv.cells (by rintro rfl; simp [D.whole] at hwh) (by rintro cs rfl; simp [D.whole] at hwh)
    refine ⟨by simpa using hc.1, fun x hx => ?_, fun j hj => by rw [← arr_getD']; exact hc.2 j hj⟩
    obtain ⟨j, hj, rfl⟩ := List.getElem_of_mem hx
    have hj' : j < dv.cells.length := by rw [← hc.1]; simpa using hj
    have := (hc.2 j hj').oneCell (by
      rw [List.all_eq_true] at h1
      refine h1 _ ?_
      simp [List.getD_eq_getElem?_getD, hj'])
    have hj2 : j < vv.cells.size := by rw [hc.1]; exact hj'
    simpa [Array.getD_eq_getD_getElem?, hj2] using this
  have run : ∀ {g o : Nat}, v = .pointer (some ⟨g, o, none⟩) → sizeT P T = some dv.cells.length → dv.whole = true → dv.cells.all D.one = true → ∀ (c : Array Value) (E : TypeId), w.heap[g]? = some (.cells c E (0, 0)) → o + dv.cells.length ≤ c.size →
      (Instr.storeAt T v vv).run P w = .ok () (w.setRow g (c.toList.take o ++ vv.cells.toList ++ c.toList.drop (o + vv.cells.toList.length)).toArray) := by
    intro g o hv hsz hwh h1 c E hg hle
    obtain ⟨p1, p2, _⟩ := pre hwh h1
    have hst := run_storeCells_at P g o E vv.cells.toList 0 c w hg (by omega) p2
    subst hv
    simp only [Instr.storeAt, Instr.sureAddr, storeVar, Sem.run_bind, Sem.run_pure, Result.andThen_ok, run_size hsz]
    rw [if_neg (by have : vv.cells.size = dv.cells.length := (by simpa using p1); simp [this])]
    exact hst
  unfold aStore at hd
  split at hd
  · rename_i b o
    obtain ⟨hl, rfl⟩ := hv.ptr_inv
    split at hd
    · rename_i T' cs hb
      split at hd
      · rename_i hcond
        obtain ⟨hwh, hsz, hle, h1⟩ := hcond
        simp only [Option.some.injEq] at hd
        subst hd
        obtain ⟨c, g1, g2, g3⟩ := s.blk b _ hb
        obtain ⟨p1, p2, p3⟩ := pre hwh h1
        have hr := run rfl hsz hwh h1 c T' g1 (by omega)
        refine ⟨_, hr, s.write (y := .var T' (splice cs o dv.cells)) hb rfl _ fun hC hR => ⟨_, setRow_heap w _ c _ T' _ g1, ?_, fun j hj => ?_⟩⟩
        · simp only [List.size_toArray, splice]
          rw [length_splice _ _ _ (by have e := Array.length_toList (xs := c); omega), length_splice _ _ _ hle]
          simpa using g2
        · rw [arr_getD]
          have hj' : j < cs.length := by rw [splice, length_splice _ _ _ hle] at hj; exact hj
          exact splice_ok (Q := fun d v => C _ _ _ _ d v) (by simpa using g2.symm) p1.symm hle (fun j hj => hC _ _ (by rw [← arr_getD']; exact g3 j hj)) (fun j hj => hC _ _ (p3 j hj)) j hj'
      · cases hd
    · cases hd
  · rename_i b i o
    obtain ⟨hl, rfl⟩ := hv.eptr_inv
    split at hd
    · rename_i E l hb
      split at hd
      · rename_i e he
        split at hd
        · rename_i hcond
          obtain ⟨hwh, hsz, hle, h1⟩ := hcond
          simp only [Option.some.injEq] at hd
          subst hd
          have hone : ∀ x ∈ dv.cells, x.one = true := by simpa [List.all_eq_true] using h1
          obtain ⟨c, g1, g2, g3, g4, g5, g6, g7, g8, g9⟩ := s.blk b _ hb
          obtain ⟨p1, p2, p3⟩ := pre hwh h1
          have hi : i < l.length := (List.getElem?_eq_some_iff.1 he).1
          have hesz : e.cells.length = (ρ b).sz := (g8 e (List.mem_of_getElem? he)).1
          have hefl := (g8 e (List.mem_of_getElem? he)).2
          have hbound : (i + 1) * (ρ b).sz ≤ (ρ b).cap * (ρ b).sz := Nat.mul_le_mul_right _ (by omega)
          have hbound' := hbound
          rw [Nat.add_mul, Nat.one_mul] at hbound'
          have hr := run rfl hsz hwh h1 c E g1 (by omega)
          refine ⟨_, hr, s.write (y := .row E (l.set i (withCells e (splice e.cells o dv.cells)))) hb rfl _ fun hC hR => ⟨_, setRow_heap w _ c _ E _ g1, ?_, by simpa using g3, g4, g5, g6, g7, fun x hx => ?_, fun i' j hi' hj => ?_⟩⟩
          · simp only [List.size_toArray]
            rw [length_splice _ _ _ (by have e := Array.length_toList (xs := c); omega)]
            simpa using g2
          · rcases List.mem_or_eq_of_mem_set hx with hx | rfl
            · exact g8 x hx
            · have hsp := splice_cells hle fun x hx => one_cells (hone x hx)
              refine ⟨by rw [hsp, splice, length_splice _ _ _ hle, hesz], ?_⟩
              rw [hsp, List.all_eq_true]
              intro x hx
              rw [List.all_eq_true] at hefl
              simp only [splice, List.mem_append] at hx
              rcases hx with (hx | hx) | hx
              · exact hefl x (List.mem_of_mem_take hx)
              · exact hone x hx
              · exact hefl x (List.mem_of_mem_drop hx)
          · rw [arr_getD]
            exact splice_row (Q := fun d v => C _ _ _ _ d v) he hesz p1.symm (by omega) (by simp; omega) (fun i' j hi' hj => hC _ _ (by rw [← arr_getD']; exact g9 i' j hi' hj)) (fun j hj => hC _ _ (p3 j hj)) (fun x hx => one_cells (hone x hx)) i' j (by simpa using hi') hj
        · cases hd
      · cases hd
    · cases hd
  · cases hd
end Go.Proofs.Ytkclhekkcffpoaa.Am
