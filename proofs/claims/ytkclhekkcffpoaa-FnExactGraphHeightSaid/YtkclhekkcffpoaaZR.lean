/- From a contract to a row: what a law's call leaves; how an argument reads. -/
import Derived.Test.YtkclhekkcffpoaaU22
import Derived.WalkKit
import Derived.ProofKit
import Derived.OpenShut
import Derived.Carry
import Derived.ChangeSlices
import Derived.ChangeSame
namespace Go.Proofs.Ytkclhekkcffpoaa.Am
set_option linter.unusedSimpArgs false
set_option linter.unusedVariables false
open Go Go.RowKit Go.ChangeShapes Go.WideShapes Go.ChangeAt

section
variable {H : Type} {enc : TypeId × Value → H} {P : Program}
theorem post_below {f : Func} {s : ChangeSpec} {apart fresh handsOn again : Bool} {W W' : World} {args : Array Value} {v : Value} {ds gs : List (DataW H)} {before pa pv : List MemPlace}
    (hW : DataW.Whole enc P f.params.toList s.vars apart W args.toList ds gs before)
    (hres : ∀ (b : Nat) (sp : Nat → Bool) (hd : Bool), DataW.TrodAll enc P W' b sp hd f.resultTypes.toList (v.resultList f.resultTypes.size) (s.fn H (ds ++ gs)).results [])
    (hargs : ∀ sp : Nat → Bool, (∀ p ∈ before, sp p.block = true) → DataW.TrodAll enc P W' 0 sp true f.params.toList args.toList (s.fn H (ds ++ gs)).args pa)
    (hvars : ∀ sp : Nat → Bool, (∀ p ∈ before, sp p.block = true) → DataW.TrodVars enc P W' sp s.vars (s.fn H (ds ++ gs)).vars pv)
    (hps : before = pa ++ pv) (hb : Below W.heap.size W W')
    (hok : ∀ (j : Nat) (t : TypeId) (r : Value), f.resultTypes[j]? = some t → (v.resultList f.resultTypes.size)[j]? = some r → Value.okWide P W' .any 0 t r) :
    s.post enc P f apart fresh handsOn again W args v W' := by
  have hlt : ∀ p ∈ before, p.block < W.heap.size := fun p hp => hW.lt p hp
  have hold : ∀ p ∈ before, (fun b => decide (b < W.heap.size)) p.block = true := fun p hp => by simpa using hlt p hp
  refine ⟨ds, gs, before, [], pa, pv, hW, hres _ _ _, hargs _ hold, hvars _ hold, World.keptBut_mono (fun p hp => ⟨hp, ?_⟩) (hb.frame (· ∈ before)), fun _ => ?_⟩
  · rw [hps, List.mem_append] at hp
    exact Or.inr hp
  · obtain ⟨_, _, _, _, _, hz, hn⟩ := hW
    refine ⟨hok, _, _, ([] ++ pa) ++ pv, ⟨[] ++ pa, pv, trodAll_append (hargs _ (fun _ _ => rfl)) (hres _ _ _), hvars _ (fun _ _ => rfl), rfl, ?_, ?_⟩, ?_⟩
    · intro b off hp
      have hin : MemPlace.cell b off ∈ before := by rw [hps]; simpa using hp
      rw [hb.frozen (hlt _ hin)]
      exact hz b off hin
    · intro ha
      have := hn ha
      rw [hps] at this
      simpa using this
    · intro p hp _
      rw [hps]
      simpa using hp
end

/-- what a law's call leaves -/
theorem law_calls {P : Program} {f : FuncId} {vs : List V} (h : ConV P f vs [] (.bool true) []) {w : World} {args : Array Value} (hl : (toDL vs).length = args.size)
    (hr : ∀ i, i < (toDL vs).length → Rep (fun k => k < w.heap.size) w ((toDL vs).getD i .undef) (args.getD i undef)) :
    Calls P f args w fun e w' => e = .returned (.bool true) ∧ Below w.heap.size w w' := by
  have hno : ∀ k, ¬ inB (fun _ => ⟨0, 0, 0, 0⟩) (toH []) k := by
    rintro k ⟨b, x, hb, -⟩
    cases hb
  have hs : Sim P w (inB (fun _ => ⟨0, 0, 0, 0⟩) (toH [])) (fun _ => True) 0 (fun _ => ⟨0, 0, 0, 0⟩) [] (toH []) emptyA w := by
    refine ⟨fun _ _ => trivial, fun _ _ => trivial, Fr.refl _ _, rfl, rfl, ?_, ?_, ?_, ?_⟩
    · intro k d hk; cases hk
    · intro b x hx; cases hx
    · intro b x hx; cases hx
    · intro b b' x x' hx; cases hx
  refine (h.2 w (fun _ => True) (fun _ => ⟨0, 0, 0, 0⟩) args hs hl fun i hi => .pure ((hr i hi).mono fun b hb => ⟨⟨⟨hb, trivial⟩, fun b x hx => by cases hx⟩, rfl⟩)).mono fun e w' he => ?_
  obtain ⟨u, ρ', rfl, -, hs', hc⟩ := he
  refine ⟨by rw [hc.bool_inv], ⟨hs'.fr.os, hs'.fr.tape, hs'.fr.output, hs'.fr.size, fun k hk => hs'.fr.block k hk (hno k)⟩⟩

theorem cell_lt {w : World} {a : Addr} {v : Value} (h : w.cell? a = some v) : a.block < w.heap.size := by
  rcases Nat.lt_or_ge a.block w.heap.size with hl | hl
  · exact hl
  · have : w.heap[a.block]? = none := by simp [hl]
    simp [World.cell?, this] at h
/-- a row of scalars, as it is read -/
theorem rep_row {w : World} {l : List D} {a : Addr} {n cap : Nat} {g : Nat → Value} (hn : l.length = n) (hcap : n ≤ cap) (hmax : cap ≤ maxLen) (hl : ∀ e ∈ l, e.cells = [e] ∧ e.pure0 = true)
    (hc : ∀ i, i < n → w.cell? (a.add i) = some (g i)) (hr : ∀ i, i < n → Rep (fun k => k < w.heap.size) w (l.getD i .undef) (g i)) : Rep (fun k => k < w.heap.size) w (.lst l) (.slice (some a) n cap) := by
  cases l with
  | nil =>
    simp only [List.length_nil] at hn
    subst hn
    exact .none _ _ (fun h => by cases h) hmax
  | cons x l =>
    have hp : 0 < n := by rw [← hn]; simp
    have hsz : szl (x :: l) = 1 := by show x.cells.length = 1; rw [(hl x (List.mem_cons_self ..)).1]; rfl
    obtain ⟨b, off, spot⟩ := a
    have hspot : spot = none := by simpa [Addr.add] using World.cell?_spot (hc 0 hp)
    subst hspot
    have h0 := cell_lt (hc 0 hp)
    refine .lst _ n b off cap (fun i _ => g i) hn hcap hmax h0 ?_ (by rw [hsz]; omega) ?_ ?_
    · intro e he
      rw [hsz]
      exact ⟨by rw [(hl e he).1]; rfl, by rw [(hl e he).1]; simp [(hl e he).2]⟩
    · intro i j hi hj
      rw [hsz] at hj ⊢
      obtain rfl : j = 0 := by omega
      have := hc i hi
      rw [Go.WideShapes.add_plain] at this
      rw [Nat.mul_one, Nat.add_zero]
      exact this
    · intro i j hi hj
      rw [hsz] at hj
      obtain rfl : j = 0 := by omega
      have hi' : i < (x :: l).length := by omega
      have e : (x :: l).getD i .undef = (x :: l)[i] := by simp [List.getD_eq_getElem?_getD, List.getElem?_eq_getElem hi']
      have h1 := (hl _ (List.getElem_mem hi')).1
      have h2 := hr i hi
      rw [e] at h2 ⊢
      rw [h1]
      exact h2

/-- an argument of bytes -/
theorem bytes_arg {H : Type} {enc : TypeId × Value → H} {P : Program} {W : World} {sp : Nat → Bool} {hd : Bool} {t e : TypeId} {v : Value} {d : DataW H} {p : List MemPlace} {base : Nat} (ht : P.underlying t = some (.slice e)) (he : P.underlying e = some (.int .u8)) (hc : P.cellsOf e = 1)
    (hv : Value.okWide P W .any base t v) (h : DataW.Trod enc P W 0 sp hd t v d p) : ∃ c : List Int, (∀ x ∈ c, 0 ≤ x ∧ x ≤ 255) ∧ Rep (fun k => k < W.heap.size) W (V.lst (.int .u8) c).toD v := by
  obtain ⟨a0, len0, cap0, rfl⟩ := okWide_slice ht hv
  obtain ⟨fuel, h⟩ := h
  rcases open_ints ht he hc h with ⟨h1, -⟩ | ⟨a, len, cap, zs, h1, h2, h3, h4, h5, -, h6, h7⟩
  · have h1 : [Value.slice a0 len0 cap0] = [.slice none 0 0] := h1
    cases h1
    exact ⟨[], by simp, .none _ _ (fun _ => rfl) (Nat.zero_le _)⟩
  · have h1 : [Value.slice a0 len0 cap0] = [.slice (some a) len cap] := h1
    cases h1
    have hle : len0 ≤ zs.length := by rw [h5]; split <;> omega
    have hlen : (zs.take len0).length = len0 := by rw [List.length_take]; omega
    refine ⟨zs.take len0, fun x hx => bounds_u8 (h7 x (List.mem_of_mem_take hx)), ?_⟩
    show Rep _ _ (.lst ((zs.take len0).map (encD (.int .u8)))) _
    refine rep_row (g := fun i => .int .u8 (zs.getD i 0)) (by rw [List.length_map, hlen]) h3 h4 ?_ (fun i hi => h6 i (by omega)) ?_
    · intro e he
      obtain ⟨z, _, rfl⟩ := List.mem_map.1 he
      exact ⟨rfl, rfl⟩
    · intro i hi
      have e1 : ((zs.take len0).map (encD (.int .u8))).getD i .undef = .int .u8 (zs.getD i 0) := by
        have hi2 : i < zs.length := by omega
        simp [List.getD_eq_getElem?_getD, List.getElem?_map, List.getElem?_take, hi, List.getElem?_eq_getElem hi2, encD]
      rw [e1]
      exact .int _ _
/-- a slice of integers, among cells -/
theorem ints_cells {H : Type} {enc : TypeId × Value → H} {P : Program} {W : World} {sp : Nat → Bool} {hd : Bool} {t e : TypeId} {k : IntKind} {cs : List Value} {fuel : Nat} {x : DataW H × List MemPlace} (ht : P.underlying t = some (.slice e)) (he : P.underlying e = some (.int k)) (hc : P.cellsOf e = 1)
    (h : DataW.trod enc P W 0 sp hd fuel t cs = some x) : ∃ (c : List Int) (v : Value), cs = [v] ∧ Rep (fun b => b < W.heap.size) W (.lst (c.map (.int k))) v := by
  rcases open_ints ht he hc h with ⟨h1, -⟩ | ⟨a, len, cap, zs, h1, h2, h3, h4, h5, -, h6, h7⟩
  · exact ⟨[], _, h1, .none _ _ (fun _ => rfl) (Nat.zero_le _)⟩
  · have hle : len ≤ zs.length := by rw [h5]; split <;> omega
    have hlen : (zs.take len).length = len := by rw [List.length_take]; omega
    refine ⟨zs.take len, _, h1, ?_⟩
    refine rep_row (g := fun i => .int k (zs.getD i 0)) (by rw [List.length_map, hlen]) h3 h4 ?_ (fun i hi => h6 i (by omega)) ?_
    · intro e he
      obtain ⟨z, _, rfl⟩ := List.mem_map.1 he
      exact ⟨rfl, rfl⟩
    · intro i hi
      have e1 : ((zs.take len).map (D.int k)).getD i .undef = .int k (zs.getD i 0) := by
        have hi2 : i < zs.length := by omega
        simp [List.getD_eq_getElem?_getD, List.getElem?_map, List.getElem?_take, hi, List.getElem?_eq_getElem hi2]
      rw [e1]
      exact .int _ _
theorem int_cells {H : Type} {enc : TypeId × Value → H} {P : Program} {W : World} {sp : Nat → Bool} {hd : Bool} {t : TypeId} {k : IntKind} {v : Value} {fuel : Nat} {x : DataW H × List MemPlace} (ht : P.underlying t = some (.int k)) (h : DataW.trod enc P W 0 sp hd fuel t [v] = some x) : ∃ n, v = .int k n := by
  obtain ⟨n, h1, -, -⟩ := DataW.trod_int ht h
  simp only [List.cons.injEq, and_true] at h1
  exact ⟨n, h1⟩
/-- a struct of fields of one cell each -/
theorem struct1 {H : Type} {enc : TypeId × Value → H} {P : Program} {W : World} {sp : Nat → Bool} {hd : Bool} {t : TypeId} {fs : Array Field} {v : Value} {d : DataW H} {p : List MemPlace} {base : Nat} (ht : P.underlying t = some (.struct fs)) (hs : P.cellsOf t = fs.size) (hf : (fs.toList.zipIdx.all fun q => q.1.offset == q.2 && P.cellsOf q.1.type == 1) = true)
    (hv : Value.okWide P W .any base t v) (h : DataW.Trod enc P W 0 sp hd t v d p) : ∃ vs : Array Value, v = .agg vs ∧ vs.size = fs.size ∧ ∀ (i : Nat) (f : Field), fs[i]? = some f → ∃ fuel y, DataW.trod enc P W 0 sp hd fuel f.type [vs.getD i undef] = some y := by
  obtain ⟨vs, rfl, hsz⟩ := okWide_struct ht hv
  obtain ⟨fuel, h⟩ := h
  obtain ⟨xs, n, -, -, -, hl, hx⟩ := DataW.trod_struct ht h
  refine ⟨vs, rfl, by omega, fun i f hi => ?_⟩
  have hi' := (Array.getElem?_eq_some_iff.1 hi).1
  have h1 := hx i f hi
  rw [List.all_eq_true] at hf
  have h2 := hf (f, i) (List.mem_zipIdx_iff_getElem?.2 (by simpa using hi))
  simp only [Bool.and_eq_true, beq_iff_eq] at h2
  have hvi : i < vs.size := by omega
  refine ⟨n, xs[i], ?_⟩
  have e : ((Value.agg vs).cells.toList.drop f.offset).take (P.cellsOf f.type) = [vs.getD i undef] := by
    rw [h2.1, h2.2]
    show (vs.toList.drop i).take 1 = _
    rw [List.drop_eq_getElem_cons (by simpa using hvi)]
    simp [Array.getD_eq_getD_getElem?, hvi]
  rw [← e, h1, List.getElem?_eq_getElem (by omega)]
theorem rep_agg {ok : Nat → Prop} {W : World} {ds : List D} {vs : Array Value} (hl : ds.length = vs.size) (h : ∀ i, i < ds.length → Rep ok W (ds.getD i .undef) (vs.getD i undef)) : Rep ok W (.agg ds) (.agg vs) := .agg ds vs hl h
/-- cells that read as x -/
def Reads (W : World) (T : Ty) (x : T.den) (cs : List Value) : Prop := cs.length = T.sz ∧ ∀ j, j < T.sz → Rep (fun k => k < W.heap.size) W ((encD T x).cells.getD j .undef) (cs.getD j undef)
theorem list_of {α : Type} {p : Nat → α → Prop} : ∀ n, (∀ i, i < n → ∃ d, p i d) → ∃ l : List α, l.length = n ∧ ∀ i (h : i < l.length), p i l[i]
  | 0, _ => ⟨[], rfl, fun i h => absurd h (Nat.not_lt_zero i)⟩
  | n + 1, h => by
    obtain ⟨l, hl, hp⟩ := list_of n fun i hi => h i (by omega)
    obtain ⟨d, hd⟩ := h n (by omega)
    refine ⟨l ++ [d], by simp [hl], fun i hi => ?_⟩
    rcases Nat.lt_or_ge i l.length with hlt | hge
    · rw [List.getElem_append_left hlt]
      exact hp i hlt
    · obtain rfl : i = l.length := by simp at hi; omega
      rw [List.getElem_append_right (Nat.le_refl _)]
      simpa [hl] using hd
/-- a slice, among cells, when its elements read -/
theorem row_cells {H : Type} {enc : TypeId × Value → H} {P : Program} {W : World} {sp : Nat → Bool} {hd : Bool} {t e : TypeId} {T : Ty} {cs : List Value} {fuel : Nat} {x : DataW H × List MemPlace} (hp : T.pure = true) (ht : P.underlying t = some (.slice e)) (hc : P.cellsOf e = T.sz)
    (hel : ∀ fuel cs x, DataW.trod enc P W 0 sp hd fuel e cs = some x → ∃ d, Reads W T d cs) (h : DataW.trod enc P W 0 sp hd fuel t cs = some x) : ∃ (l : List T.den) (v : Value), cs = [v] ∧ Rep (fun b => b < W.heap.size) W (V.lst T l).toD v := by
  rcases DataW.trod_slice ht h with ⟨h1, -⟩ | ⟨a, len, cap, elems, rest, n, -, h1, -, -, hl, hm, hlen, hel2, -, -⟩
  · exact ⟨[], _, h1, .none _ _ (fun _ => rfl) (Nat.zero_le _)⟩
  · have each : ∀ i, i < len → ∃ d : T.den, ∃ cs', W.cells? 0 (a.add (i * T.sz)) T.sz = some cs' ∧ Reads W T d cs' := by
      intro i hi
      have h2 := hel2 i hi
      rw [List.getElem?_eq_getElem (by omega), hc, Option.bind_eq_some_iff] at h2
      obtain ⟨cs', h3, h4⟩ := h2
      obtain ⟨d, hd⟩ := hel _ _ _ h4
      exact ⟨d, cs', h3, hd⟩
    obtain ⟨l, hll, hlp⟩ := list_of len each
    refine ⟨l, _, h1, ?_⟩
    show Rep _ W (.lst (l.map (encD T))) _
    by_cases hz : l = []
    · subst hz
      subst hll
      exact .none _ _ (fun h => by cases h) hm
    · have hpos : 0 < l.length := List.length_pos_iff.2 hz
      have hsz : szl (l.map (encD T)) = T.sz := by
        cases l with
        | nil => exact absurd rfl hz
        | cons y l => exact (encD_wf T y).1
      have cell : ∀ i j, i < l.length → j < T.sz → ∃ v, W.cell? ((a.add (i * T.sz)).add j) = some v ∧ Rep (fun k => k < W.heap.size) W ((encD T (l[i]?.getD (l[0]'hpos))).cells.getD j .undef) v := by
        intro i j hi hj
        obtain ⟨cs', h3, h4, h5⟩ := hlp i hi
        have h6 := (World.cells?_some h3).2.2 j hj
        have hj' : j < cs'.length := by omega
        refine ⟨cs'[j], by rw [h6, List.getElem?_eq_getElem hj'], ?_⟩
        have := h5 j hj
        rw [List.getElem?_eq_getElem hi]
        simp only [List.getD_eq_getElem?_getD (l := cs'), List.getElem?_eq_getElem hj', Option.getD_some] at this
        exact this
      obtain ⟨b, off, spot⟩ := a
      obtain ⟨v0, hv0, -⟩ := cell 0 0 hpos T.sz_pos
      have hspot : spot = none := by simpa [Addr.add] using World.cell?_spot hv0
      subst hspot
      have hb := cell_lt hv0
      refine .lst _ len b off cap (fun i j => (W.cell? ⟨b, off + i * T.sz + j, none⟩).getD undef) (by simpa using hll) hl hm (by simpa [Addr.add] using hb) ?_ (by rw [hsz]; exact T.sz_pos) ?_ ?_
      · intro e he
        obtain ⟨y, -, rfl⟩ := List.mem_map.1 he
        rw [hsz]
        exact encD_pure hp y
      · intro i j hi hj
        rw [hsz] at hj ⊢
        obtain ⟨v, hv, -⟩ := cell i j (by omega) hj
        rw [Go.WideShapes.add_plain, Go.WideShapes.add_plain] at hv
        rw [hv]
        rfl
      · intro i j hi hj
        rw [hsz] at hj
        obtain ⟨v, hv, hr⟩ := cell i j (by omega) hj
        rw [Go.WideShapes.add_plain, Go.WideShapes.add_plain] at hv
        rw [hv]
        have e : (l.map (encD T)).getD i .undef = encD T (l[i]?.getD (l[0]'hpos)) := by
          have : i < l.length := by omega
          simp [List.getD_eq_getElem?_getD, List.getElem?_eq_getElem this]
        rw [e]
        exact hr
/-- a struct of fields of one cell each, among cells -/
theorem struct_cells {H : Type} {enc : TypeId × Value → H} {P : Program} {W : World} {sp : Nat → Bool} {hd : Bool} {t : TypeId} {fs : Array Field} {cs : List Value} {fuel : Nat} {x : DataW H × List MemPlace} (ht : P.underlying t = some (.struct fs)) (hs : P.cellsOf t = fs.size) (hf : (fs.toList.zipIdx.all fun q => q.1.offset == q.2 && P.cellsOf q.1.type == 1) = true)
    (h : DataW.trod enc P W 0 sp hd fuel t cs = some x) : cs.length = fs.size ∧ ∀ (i : Nat) (f : Field), fs[i]? = some f → ∃ fuel y, DataW.trod enc P W 0 sp hd fuel f.type [cs.getD i undef] = some y := by
  obtain ⟨xs, n, -, -, hlc, hl, hx⟩ := DataW.trod_struct ht h
  refine ⟨by omega, fun i f hi => ?_⟩
  have hi' := (Array.getElem?_eq_some_iff.1 hi).1
  have h1 := hx i f hi
  rw [List.all_eq_true] at hf
  have h2 := hf (f, i) (List.mem_zipIdx_iff_getElem?.2 (by simpa using hi))
  simp only [Bool.and_eq_true, beq_iff_eq] at h2
  have hci : i < cs.length := by omega
  refine ⟨n, xs[i], ?_⟩
  have e : (cs.drop f.offset).take (P.cellsOf f.type) = [cs.getD i undef] := by
    have e2 : (cs.drop i).take 1 = [cs[i]] := by rw [List.drop_eq_getElem_cons hci]; rfl
    rw [h2.1, h2.2, e2]
    simp [List.getD_eq_getElem?_getD, hci]
  rw [← e, h1, List.getElem?_eq_getElem (by omega)]
end Go.Proofs.Ytkclhekkcffpoaa.Am
