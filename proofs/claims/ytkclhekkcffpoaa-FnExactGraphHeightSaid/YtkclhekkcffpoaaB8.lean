/- The plain machine: make, literals, slices of slices. -/
import Derived.Test.YtkclhekkcffpoaaB7
import Derived.Great.BuildSlice
namespace Go.Proofs.Ytkclhekkcffpoaa.Am
set_option linter.unusedSimpArgs false
set_option linter.unusedVariables false
open Go Go.RowKit

variable {P : Program} {w0 : World} {S A : Nat → Prop} {N : Nat} {ρ : Id → Pl} {t : List (Nat × D)} {h : HL} {a : Act} {w : World}

theorem C_ref_new {L : Id → Prop} {ok : Nat → Prop} {n : Id} (hL : L n) (p : Pl) (hp : (ρ n) = p) : C ρ L ok w (.ref n) (.slice (some ⟨p.blk, 0, none⟩) p.len p.cap) := by
  subst hp; exact .ref n hL

/-! ### make -/
def wfB (s : Nat) (e : D) : Bool := e.cells.length == s && e.cells.all D.pure0
theorem wfB_ok {s : Nat} {e : D} (h : wfB s e = true) : wfE s e := by simpa [wfB, wfE] using h
def wfD (s : Nat) (e : D) : Bool := e.whole && (e.cells.length == s && e.cells.all D.one)
theorem wfD_ok {s : Nat} {e : D} (h : wfD s e = true) : wfC s e ∧ e.whole = true := by
  simp only [wfD, Bool.and_eq_true, beq_iff_eq] at h
  exact ⟨⟨h.2.1, h.2.2⟩, h.1⟩
/-- a nil slice is an empty list -/
def nz0 : D → D
  | .nils => .lst []
  | d => d
def nzE : D → D
  | .agg cs => .agg (cs.map nz0)
  | d => nz0 d
theorem nzE_cells (d : D) : (nzE d).cells = d.cells.map nz0 := by cases d <;> rfl
theorem Rep.nz0 {ok : Nat → Prop} {d : D} {v : Value} (h : Rep ok w d v) : Rep ok w (Am.nz0 d) v := by
  cases h with
  | nils => exact .none Option.none 0 (fun _ => rfl) (by unfold maxLen; omega)
  | int k n => exact .int k n
  | bool b => exact .bool b
  | str s => exact .str s
  | none a cap ha hcap => exact .none a cap ha hcap
  | lst l n b off cap f hn hcap hmax hok hsz hpos hc hr => exact .lst l n b off cap f hn hcap hmax hok hsz hpos hc hr
  | agg cs vs hl h => exact .agg cs vs hl h
  | tup cs vs hl h => exact .tup cs vs hl h
  | box cs b off f hok hpos hc hr => exact .box cs b off f hok hpos hc hr
  | nilp => exact .nilp
  | nilf => exact .nilf
  | nili => exact .nili
theorem nz0_pure0 {d : D} (h : d.pure0 = true) : (nz0 d).pure0 = true := by cases d <;> first | rfl | cases h
theorem nzE_wf {s : Nat} {e : D} (h : wfE s e) : wfE s (nzE e) := by
  refine ⟨by rw [nzE_cells, List.length_map]; exact h.1, ?_⟩
  have := h.2
  rw [List.all_eq_true] at this ⊢
  rw [nzE_cells]
  intro x hx
  obtain ⟨y, hy, rfl⟩ := List.mem_map.1 hx
  exact nz0_pure0 (this y hy)
def nzM (q : Bool) (d : D) : D := if q then d else nzE d
/-- q: a nil slice stays one -/
def aMake (P : Program) (q : Bool) (n : Id) (T : TypeId) (dl dc : D) : Option (D × HL) :=
  match P.underlying T, dl, dc with
  | some (.slice E), .int _ l, .int _ c => (match elemT P E, ofZero P E with
    | some (s, bytes), some z => if 0 ≤ l ∧ l = c ∧ fits bytes l.toNat ∧ wfB s z = true then some (.ref n, [(n, .row E (List.replicate l.toNat (nzM q z)))]) else none
    | _, _ => none)
  | _, _, _ => none

theorem getD_made (z : Array Value) (m k : Nat) (hk : k < m) : (madeCells z m).getD k undef = z.getD (k % z.size) undef ∨ z.size = 0 := by
  by_cases hz : z.size = 0
  · exact .inr hz
  · left
    have hlt : k % z.size < z.size := Nat.mod_lt _ (by omega)
    simp [madeCells, Array.getD_eq_getD_getElem?, hk, hlt]

theorem Sim.make (s : Sim P w0 S A N ρ t h a w) {n : Id} (hn : look h n = none) {T : TypeId} {dl dc d : D} {u : HL} {vl vc : Value} {q : Bool} (hd : aMake P q n T dl dc = some (d, u))
    (hvl : C ρ (Live h) (okOf A ρ h w) w dl vl) (hvc : C ρ (Live h) (okOf A ρ h w) w dc vc) :
    ∃ v' w' ρ', Ext h ρ ρ' ∧ (Instr.makeSlice T vl vc).run P w = .ok v' w' ∧ Sim P w0 S A N ρ' t (puts u h) a w' ∧ C ρ' (Live (puts u h)) (okOf A ρ' (puts u h) w') w' d v' := by
  unfold aMake at hd
  split at hd
  · rename_i E k1 l k2 c hu
    obtain rfl := hvl.int_inv
    obtain rfl := hvc.int_inv
    split at hd
    · rename_i sz bytes z he hz
      split at hd
      · rename_i hcond
        obtain ⟨h0, rfl, ⟨hf1, hf2⟩, hwf⟩ := hcond
        simp only [Option.some.injEq, Prod.mk.injEq] at hd
        obtain ⟨rfl, rfl⟩ := hd
        obtain ⟨i, zv, hi, hzv, hzs, rfl, hby, hpos, hsT⟩ := elemT_ok he
        obtain ⟨zv', _, hzr, hzw, hzz⟩ := ofZero_ok hz (okOf A ρ h w) w
        have hzc : zv' = zv := by
          rw [hi] at hzz
          simp only [Option.bind_some, hzv, Option.some.injEq] at hzz
          exact hzz.symm
        subst hzc
        have hwf0 := wfB_ok hwf
        have hwf' : wfE i.size (nzM q z) := by unfold nzM; split; exact hwf0; exact nzE_wf hwf0
        have hl : (l.toNat : Int) = l := by omega
        have hb : (i.bytes : Int) * l ≤ 281474976710656 := by
          have : l.toNat * i.bytes ≤ 140737488355328 := by rw [hby]; exact hf1
          have h2 : ((l.toNat * i.bytes : Nat) : Int) ≤ 281474976710656 := by omega
          rw [Int.natCast_mul, hl, Int.mul_comm] at h2
          exact h2
        have hrun := run_make (P := P) w T E i zv' hu hi hzv k1 k2 l l h0 (Int.le_refl _) hb (by omega)
        have hcells := C.cells (ρ := ρ) (L := Live h) (.pure hzr) (by rintro rfl; simp [D.whole] at hzw) (by rintro cs rfl; simp [D.whole] at hzw)
        have s2 := s.newRow hn (E := E) (l := List.replicate l.toNat (nzM q z)) (c := madeCells zv'.cells (l.toNat * i.size)) (sz := i.size) (cap := l.toNat) (by simp [madeCells]) (by simp) (by unfold maxLen; omega) hpos hsT
          (fun e he => by rw [List.eq_of_mem_replicate he]; exact hwf'.one) (fun k j hk hj => by
            have hk' : k < l.toNat := by simpa using hk
            have hlt : k * i.size + j < l.toNat * i.size := by
              have : (k + 1) * i.size ≤ l.toNat * i.size := Nat.mul_le_mul_right _ (by omega)
              rw [Nat.add_mul, Nat.one_mul] at this
              omega
            rcases getD_made zv'.cells (l.toNat * i.size) (k * i.size + j) hlt with e | e
            · rw [e, hzs]
              have e1 : (k * i.size + j) % i.size = j := by rw [Nat.mul_comm, Nat.mul_add_mod, Nat.mod_eq_of_lt hj]
              rw [e1]
              have e2 : (List.replicate l.toNat (nzM q z)).getD k .undef = nzM q z := by simp [List.getD_eq_getElem?_getD, hk']
              have hjz : j < z.cells.length := by rw [hwf0.1]; exact hj
              have hbase : Rep (okOf A ρ h w) w (z.cells.getD j .undef) (zv'.cells.getD j undef) := by
                refine (hcells.2 j hjz).rep0 ?_
                have hm := hwf0.2
                rw [List.all_eq_true] at hm
                refine hm _ ?_
                rw [List.getD_eq_getElem?_getD, List.getElem?_eq_getElem hjz]
                exact List.getElem_mem hjz
              rw [e2]
              unfold nzM
              split
              · exact .pure hbase
              · have e3 : (nzE z).cells.getD j .undef = nz0 (z.cells.getD j .undef) := by rw [nzE_cells]; simp [List.getD_eq_getElem?_getD, hjz]
                rw [e3]
                exact .pure (Rep.nz0 hbase)
            · omega)
        refine ⟨_, _, _, Ext.at hn _, hrun, s2, ?_⟩
        have hL : Live (puts [(n, Blk.row E (List.replicate l.toNat (nzM q z)))] h) n := by
          show Live (put n _ h) n
          unfold Live; rw [look_put]; simp
        have := C_ref_new (ok := okOf A (at' ρ n ⟨w.heap.size, l.toNat, i.size, (List.replicate l.toNat (nzM q z)).length⟩) (puts [(n, Blk.row E (List.replicate l.toNat (nzM q z)))] h) (w.alloc (.cells (madeCells zv'.cells (l.toNat * i.size)) E (0, 0)))) (w := w.alloc (.cells (madeCells zv'.cells (l.toNat * i.size)) E (0, 0))) hL _ (at'_same ρ n ⟨w.heap.size, l.toNat, i.size, (List.replicate l.toNat (nzM q z)).length⟩)
        simp only [List.length_replicate] at this ⊢
        exact this
      · cases hd
    · cases hd
  · cases hd

/-! ### Literals -/
def dfill (place : Nat → Option (Nat × Nat)) (cs : List D) : List (Nat × D) → Option (List D)
  | [] => some cs
  | (i, d) :: rest => match place i with
    | some (off, size) => if d.whole = true ∧ d.cells.length = size ∧ off + d.cells.length ≤ cs.length then dfill place (splice cs off d.cells) rest else none
    | none => none

theorem fold_fill (off : Nat) : ∀ (l : List Value) (k : Nat) (cs : Array Value), off + k + l.length ≤ cs.size →
    ((l.zipIdx k).foldl (fun (cs : Array Value) (x : Value × Nat) => cs.setIfInBounds (off + x.2) x.1) cs).toList = cs.toList.take (off + k) ++ l ++ cs.toList.drop (off + k + l.length)
  | [], k, cs, _ => by simp
  | v :: l, k, cs, hl => by
    simp only [List.zipIdx_cons, List.foldl_cons]
    rw [fold_fill off l (k + 1) _ (by simp at hl ⊢; omega)]
    have e := list_seg_step cs.toList (off + k) v l (by simp at hl ⊢; omega)
    simpa [Array.toList_setIfInBounds, Nat.add_assoc] using e

theorem fill_ok {Q : D → Value → Prop} {place : Nat → Option (Nat × Nat)} : ∀ {ps : List (Nat × D)} {vs : List (Nat × Value)} {cs cs' : List D} {cells : Array Value}, dfill place cs ps = some cs' → cs.length = cells.size →
    (∀ j, j < cs.length → Q (cs.getD j .undef) (cells.getD j undef)) → ps.length = vs.length →
    (∀ k, k < ps.length → (ps.getD k (0, .undef)).1 = (vs.getD k (0, undef)).1 ∧ ((ps.getD k (0, .undef)).2.whole = true → (vs.getD k (0, undef)).2.cells.size = (ps.getD k (0, .undef)).2.cells.length ∧
      ∀ j, j < (ps.getD k (0, .undef)).2.cells.length → Q ((ps.getD k (0, .undef)).2.cells.getD j .undef) ((vs.getD k (0, undef)).2.cells.getD j undef))) →
    ∃ cells', Instr.fill place cells vs = some cells' ∧ cs'.length = cells'.size ∧ cs'.length = cs.length ∧ ∀ j, j < cs'.length → Q (cs'.getD j .undef) (cells'.getD j undef)
  | [], [], cs, cs', cells, hd, hl, hq, _, _ => by
    simp only [dfill, Option.some.injEq] at hd
    subst hd
    exact ⟨cells, rfl, hl, rfl, hq⟩
  | [], _ :: _, _, _, _, _, _, _, h, _ => by simp at h
  | _ :: _, [], _, _, _, _, _, _, h, _ => by simp at h
  | (i, d) :: ps, (i', v) :: vs, cs, cs', cells, hd, hl, hq, hlen, hp => by
    obtain ⟨hi0, hp0⟩ := hp 0 (by simp)
    simp only [List.getD_cons_zero] at hp0 hi0
    subst hi0
    unfold dfill at hd
    split at hd
    · rename_i off size hpl
      split at hd
      · rename_i hc
        obtain ⟨hw, hs, hle⟩ := hc
        obtain ⟨hv1, hv2⟩ := hp0 hw
        have hfold : (v.cells.zipIdx.foldl (fun (cs : Array Value) (x : Value × Nat) => cs.setIfInBounds (off + x.2) x.1) cells).toList = cells.toList.take off ++ v.cells.toList ++ cells.toList.drop (off + v.cells.toList.length) := by
          have := fold_fill off v.cells.toList 0 cells (by simp; omega)
          rw [← Array.foldl_toList]
          simpa using this
        have hcell' : (v.cells.zipIdx.foldl (fun (cs : Array Value) (x : Value × Nat) => cs.setIfInBounds (off + x.2) x.1) cells).size = cells.size := by
          rw [← Array.length_toList, hfold, length_splice _ _ _ (by simp; omega)]
          simp
        have ih := fill_ok (Q := Q) (vs := vs) (cells := v.cells.zipIdx.foldl (fun (cs : Array Value) (x : Value × Nat) => cs.setIfInBounds (off + x.2) x.1) cells) hd (by rw [splice, length_splice _ _ _ hle, hcell', hl]) (fun j hj => by
            rw [splice, length_splice _ _ _ hle] at hj
            rw [arr_getD', hfold]
            exact splice_ok (Q := Q) (vs := cells.toList) (by simpa using hl) (by simpa using hv1.symm) hle (fun j hj => by rw [← arr_getD']; exact hq j hj) (fun j hj => by rw [← arr_getD']; exact hv2 j hj) j hj) (by simpa using hlen)
          (fun k hk => by have := hp (k + 1) (by simpa using hk); simpa using this)
        obtain ⟨cells', h1, h2, h3, h4⟩ := ih
        refine ⟨cells', ?_, h2, by rw [h3, splice, length_splice _ _ _ hle], h4⟩
        simp only [Instr.fill, hpl]
        rw [if_neg (by simp; omega)]
        exact h1
      · cases hd
    · cases hd

/-- the fields' places -/
def placesT (P : Program) (T : TypeId) : Option (List (Nat × Nat)) :=
  match P.underlying T with
  | some (.struct fields) => fields.toList.mapM fun f => (P.info? f.type).map fun i => (f.offset, i.size)
  | _ => none
def aBuild (P : Program) (T : TypeId) (ps : List (Nat × D)) : Option D :=
  match placesT P T, ofZero P T with
  | some pl, some (.agg zs) => (dfill (pl[·]?) zs ps).map .agg
  | _, _ => none

theorem aBuild_ok {L : Id → Prop} {ok : Nat → Prop} {T : TypeId} {ps : List (Nat × D)} {vs : Array (Nat × Value)} {d : D} (hd : aBuild P T ps = some d) (hlen : ps.length = vs.toList.length)
    (hp : ∀ k, k < ps.length → (ps.getD k (0, .undef)).1 = (vs.toList.getD k (0, undef)).1 ∧ C ρ L ok w (ps.getD k (0, .undef)).2 (vs.toList.getD k (0, undef)).2) :
    ∃ v, (Instr.build T vs).run P w = .ok v w ∧ C ρ L ok w d v := by
  unfold aBuild at hd
  split at hd
  · rename_i pl zs hpl hz
    obtain ⟨cs', hf, rfl⟩ := Option.map_eq_some_iff.1 hd
    obtain ⟨zv, _, hzr, hzw, hzz⟩ := ofZero_ok hz ok w
    obtain ⟨zvs, rfl, hzl, hzq⟩ := C.agg_inv (ρ := ρ) (L := L) (.pure hzr)
    unfold placesT at hpl
    split at hpl
    · rename_i fields hu
      obtain ⟨it, hit⟩ : ∃ it, P.info? T = some it := by
        cases h' : P.info? T with
        | none => simp [h'] at hzz
        | some it => exact ⟨it, rfl⟩
      rw [hit] at hzz
      simp only [Option.bind_some] at hzz
      obtain ⟨cells', h1, h2, _, h4⟩ := fill_ok (Q := C ρ L ok w) (cells := zvs) (vs := vs.toList) hf hzl hzq hlen (fun k hk => by
        obtain ⟨q1, q2⟩ := hp k hk
        refine ⟨q1, fun hw => ?_⟩
        have := q2.cells (by intro e; rw [e] at hw; simp [D.whole] at hw) (by intro cs e; rw [e] at hw; simp [D.whole] at hw)
        exact this)
      refine ⟨.agg cells', run_build w T vs cells' ?_, .agg _ _ h2 h4⟩
      unfold Program.built
      simp only [hit, hu, hzz, hpl]
      simpa [Value.cells] using h1
    · cases hpl
  · cases hd

theorem dfill_row (s : Nat) : ∀ (ds : List D) (k : Nat) (Z : List D), (∀ e ∈ ds, wfC s e ∧ e.whole = true) → Z.length = (k + ds.length) * s → dfill (fun i => some (i * s, s)) Z ((ds.zipIdx k).map fun x => (x.2, x.1)) = some (Z.take (k * s) ++ ds.flatMap D.cells)
  | [], k, Z, _, hZ => by
    simp only [List.length_nil, Nat.add_zero] at hZ
    simp [dfill, List.take_of_length_le (Nat.le_of_eq hZ)]
  | d :: ds, k, Z, hd, hZ => by
    obtain ⟨⟨h1, h2⟩, h3⟩ := hd d (List.mem_cons_self ..)
    simp only [List.zipIdx_cons, List.map_cons, dfill]
    have hle : k * s + d.cells.length ≤ Z.length := by
      rw [hZ, h1, Nat.add_mul]
      have : 1 * s ≤ (d :: ds).length * s := Nat.mul_le_mul_right _ (by simp)
      omega
    rw [if_pos ⟨h3, h1, hle⟩, dfill_row s ds (k + 1) _ (fun e he => hd e (List.mem_cons_of_mem _ he)) (by rw [splice, length_splice _ _ _ hle, hZ]; simp only [List.length_cons]; congr 1; omega)]
    congr 1
    simp only [splice, List.flatMap_cons]
    have e1 : (Z.take (k * s) ++ d.cells).length = (k + 1) * s := by
      rw [List.length_append, List.length_take, h1, Nat.min_eq_left (by omega), Nat.add_mul, Nat.one_mul]
    rw [← e1, List.take_left, List.append_assoc]

theorem getD_flat (s : Nat) : ∀ (ds : List D) (i j : Nat), (∀ e ∈ ds, e.cells.length = s) → i < ds.length → j < s → (ds.flatMap D.cells).getD (i * s + j) .undef = (ds.getD i .undef).cells.getD j .undef
  | [], i, j, _, hi, _ => by simp at hi
  | d :: ds, i, j, hd, hi, hj => by
    have h1 := hd d (List.mem_cons_self ..)
    simp only [List.flatMap_cons, List.getD_eq_getElem?_getD]
    cases i with
    | zero =>
      rw [Nat.zero_mul, Nat.zero_add, List.getElem?_append_left (by omega)]
      rfl
    | succ i =>
      have ih := getD_flat s ds i j (fun e he => hd e (List.mem_cons_of_mem _ he)) (by simpa using hi) hj
      simp only [List.getD_eq_getElem?_getD] at ih
      rw [Nat.add_mul, Nat.one_mul, List.getElem?_append_right (by omega), show i * s + s + j - d.cells.length = i * s + j by omega, ih]
      rfl

theorem zip_of_range : ∀ (ps : List (Nat × D)) (k : Nat), ps.map (·.1) = List.range' k ps.length → ps = ((ps.map (·.2)).zipIdx k).map fun x => (x.2, x.1)
  | [], _, _ => rfl
  | (i, d) :: ps, k, h => by
    simp only [List.map_cons, List.length_cons, List.range'_succ, List.cons.injEq] at h
    obtain ⟨rfl, h⟩ := h
    simp only [List.map_cons, List.zipIdx_cons]
    rw [← zip_of_range ps (i + 1) h]

def aBuildSlice (P : Program) (n : Id) (T : TypeId) (len : Nat) (ps : List (Nat × D)) : Option (D × HL) :=
  match P.underlying T with
  | some (.slice E) => (match elemT P E with
    | some (s, _) => if ps.map (·.1) = List.range' 0 len ∧ len * s ≤ 16777216 ∧ (ps.map (·.2)).all (fun e => wfD s e) = true then some (.ref n, [(n, .row E (ps.map (·.2)))]) else none
    | none => none)
  | _ => none


theorem Sim.buildSlice (s : Sim P w0 S A N ρ t h a w) {n : Id} (hn : look h n = none) {T : TypeId} {len : Nat} {ps : List (Nat × D)} {vs : Array (Nat × Value)} {d : D} {u : HL} (hd : aBuildSlice P n T len ps = some (d, u))
    (hlen : ps.length = vs.toList.length)
    (hp : ∀ k, k < ps.length → (ps.getD k (0, .undef)).1 = (vs.toList.getD k (0, undef)).1 ∧ C ρ (Live h) (okOf A ρ h w) w (ps.getD k (0, .undef)).2 (vs.toList.getD k (0, undef)).2) :
    ∃ v' w' ρ', Ext h ρ ρ' ∧ (Instr.buildSlice T len vs).run P w = .ok v' w' ∧ Sim P w0 S A N ρ' t (puts u h) a w' ∧ C ρ' (Live (puts u h)) (okOf A ρ' (puts u h) w') w' d v' := by
  unfold aBuildSlice at hd
  split at hd
  · rename_i E hu
    split at hd
    · rename_i sz bytes he
      split at hd
      · rename_i hcond
        obtain ⟨hr, hsmall, hwf⟩ := hcond
        simp only [Option.some.injEq, Prod.mk.injEq] at hd
        obtain ⟨rfl, rfl⟩ := hd
        obtain ⟨i, zv, hi, hzv, hzs, rfl, hby, hpos, hsT⟩ := elemT_ok he
        have hpl : ps.length = len := by have := congrArg List.length hr; simpa using this
        subst hpl
        have hzip := zip_of_range ps 0 hr
        have hds : ∀ e ∈ ps.map (·.2), wfC i.size e ∧ e.whole = true := by
          intro e he
          rw [List.all_eq_true] at hwf
          exact wfD_ok (hwf e he)
        have hL : Live (puts [(n, Blk.row E (ps.map (·.2)))] h) n := by
          show Live (put n _ h) n
          unfold Live; rw [look_put]; simp
        by_cases h0 : ps.length = 0
        · have hps : ps = [] := List.eq_nil_of_length_eq_zero h0
          subst hps
          have hvs : vs.toList = [] := List.eq_nil_of_length_eq_zero (by simpa using hlen.symm)
          have hrun : (Instr.buildSlice T ([] : List (Nat × D)).length vs).run P w = .ok (.slice (some ⟨w.heap.size, 0, none⟩) 0 0) (w.alloc (.cells #[] E)) := by
            have hve : vs = #[] := Array.ext' hvs
            subst hve
            simp [Instr.buildSlice, run_underlying hu, run_size hsT, Instr.fill, Go.newRow, newObj, go_sem]
            rfl
          have s2 := s.newRow hn (E := E) (l := []) (c := #[]) (sz := i.size) (cap := 0) (by simp) (by simp) (by unfold maxLen; omega) hpos hsT (by simp) (by simp)
          refine ⟨_, _, _, Ext.at hn _, hrun, s2, ?_⟩
          have := C_ref_new (ok := okOf A (at' ρ n ⟨w.heap.size, 0, i.size, 0⟩) (puts [(n, Blk.row E [])] h) (w.alloc (.cells #[] E (0, 0)))) (w := w.alloc (.cells #[] E (0, 0))) hL _ (at'_same ρ n ⟨w.heap.size, 0, i.size, 0⟩)
          exact this
        · have hZ : ((Array.range (ps.length * i.size)).map (zv.cells[· % zv.cells.size]!)).size = ps.length * i.size := by simp
          have hdf := dfill_row i.size (ps.map (·.2)) 0 (List.replicate (ps.length * i.size) .undef) hds (by simp)
          rw [← hzip] at hdf
          simp only [Nat.zero_mul, List.take_zero, List.nil_append] at hdf
          obtain ⟨cells', h1, h2, h3, h4⟩ := fill_ok (Q := C ρ (Live h) (okOf A ρ h w) w) (cells := (Array.range (ps.length * i.size)).map (zv.cells[· % zv.cells.size]!)) (vs := vs.toList) hdf (by simp) (fun j hj => by
            have : (List.replicate (ps.length * i.size) D.undef).getD j .undef = .undef := by
              simp only [List.getD_eq_getElem?_getD, List.getElem?_replicate]
              split <;> rfl
            rw [this]
            exact .any _) hlen (fun k hk => by
            obtain ⟨q1, q2⟩ := hp k hk
            refine ⟨q1, fun hw => ?_⟩
            exact q2.cells (by intro e; rw [e] at hw; simp [D.whole] at hw) (by intro cs e; rw [e] at hw; simp [D.whole] at hw))
          have hpz : ¬ ps.length * i.size = 0 := by
            intro e
            rcases Nat.mul_eq_zero.1 e with e | e <;> omega
          have hrun := run_buildSlice (P := P) w T E ps.length vs cells' i zv hu hi hzv (by simpa using hsmall) hpz h1
          simp only [List.length_replicate] at h3
          have s2 := s.newRow hn (E := E) (l := ps.map (·.2)) (c := cells') (sz := i.size) (cap := ps.length) (by rw [← h2, h3]) (by simp) (by
            unfold maxLen
            have : ps.length * 1 ≤ ps.length * i.size := Nat.mul_le_mul_left _ hpos
            omega) hpos hsT (fun e he => (hds e he).1) (fun k j hk hj => by
            have hk' : k < ps.length := by simpa using hk
            have hlt : k * i.size + j < ps.length * i.size := by
              have : (k + 1) * i.size ≤ ps.length * i.size := Nat.mul_le_mul_right _ (by omega)
              rw [Nat.add_mul, Nat.one_mul] at this
              omega
            have hq := h4 (k * i.size + j) (by rw [h3]; exact hlt)
            rw [getD_flat i.size _ k j (fun e he => (hds e he).1.1) hk hj] at hq
            exact hq)
          refine ⟨_, _, _, Ext.at hn _, hrun, s2, ?_⟩
          have := C_ref_new (ok := okOf A (at' ρ n ⟨w.heap.size, ps.length, i.size, (ps.map (·.2)).length⟩) (puts [(n, Blk.row E (ps.map (·.2)))] h) (w.alloc (.cells cells' E (0, 0)))) (w := w.alloc (.cells cells' E (0, 0))) hL _ (at'_same ρ n ⟨w.heap.size, ps.length, i.size, (ps.map (·.2)).length⟩)
          simp only [List.length_map] at this ⊢
          exact this
      · cases hd
    · cases hd
  · cases hd

/-! ### Slices of slices -/
def aBound (len : Nat) : Option D → Nat → Option Nat
  | none, dflt => some dflt
  | some (.int _ i), _ => if 0 ≤ i ∧ i ≤ (len : Int) then some i.toNat else none
  | _, _ => none
/-- x[lo:hi]; q: it stays the call's own -/
def aSlice (P : Program) (h : HL) (q : Bool) (n : Id) (T : TypeId) (d : D) (lo hi : Option D) : Option (D × HL) :=
  match P.underlying T with
  | some .string => (match d with
    | .str s => (match aBound s.size hi s.size with
      | some hh => (match aBound hh lo 0 with
        | some ll => some (.str (s.extract ll hh), [])
        | none => none)
      | none => none)
    | _ => none)
  | some (.slice E) => (match sizeT P E, elems h d with
    | some s, some l => if szOr s l = s then (match aBound l.length hi l.length with
      | some hh => (match aBound hh lo 0 with
        | some ll => (match d with
          | .ref b => (match look h b with
            | some (.row E' l) => if q then (if ll = 0 then some (.ref n, [(b, .gone), (n, .row E' (l.take hh))]) else none)
              else if l.all (fun e => e.cells.all D.pure0) = true then some (.lst ((l.take hh).drop ll), [(b, .froz l)]) else none
            | _ => some (.lst ((l.take hh).drop ll), []))
          | .vref .. => none
          | _ => some (.lst ((l.take hh).drop ll), []))
        | none => none)
      | none => none) else none
    | _, _ => none)
  | some (.array n E) => (match d with
    | .ptr b o => (match sizeT P E, lo, hi, look h b with
      | some _, none, none, some (.var _ _) => if n ≤ maxLen then some (.vref b o n, []) else none
      | _, _, _, _ => none)
    | _ => none)
  | _ => none
end Go.Proofs.Ytkclhekkcffpoaa.Am
