/- The plain machine with types: stores, elements, addresses. -/
import Derived.Test.YtkclhekkcffpoaaU5
namespace Go.Proofs.Ytkclhekkcffpoaa.Am
set_option linter.unusedSimpArgs false
set_option linter.unusedVariables false
open Go Go.RowKit

def withV (v : V) (cs : List V) : V := match v with | .agg _ => .agg cs | _ => cs.headD .undef
theorem withV_toD {v : V} {cs : List V} : (withV v cs).toD = withCells v.toD (toDL cs) := by
  unfold withV withCells
  cases v
  case hro k o => cases o <;> cases cs <;> rfl
  case hpo k o => cases o <;> cases cs <;> rfl
  case obo t o => cases o <;> cases cs <;> rfl
  all_goals first | rfl | (cases cs <;> rfl)
def decK (t : Ty) (v : V) (K : t.den → Prop) : Prop := match dec t v with | some x => K x | none => False
theorem decK_ok {t : Ty} {v : V} {K : t.den → Prop} (h : decK t v K) : ∃ x, v.toD = encD t x ∧ K x := by
  unfold decK at h
  split at h
  · rename_i x hx
    exact ⟨x, dec_ok hx, h⟩
  · exact h.elim
def lenB' : List V → Nat → Bool
  | [], 0 => true
  | _ :: l, n + 1 => lenB' l n
  | _, _ => false
theorem lenB_ok' : ∀ {l : List V} {n : Nat}, lenB' l n = true → l.length = n
  | [], 0, _ => rfl
  | _ :: l, n + 1, h => by simp [lenB_ok' (l := l) (n := n) h]
  | [], _ + 1, h => by cases h
  | _ :: _, 0, h => by cases h

theorem splice_left {A B m : List D} {o : Nat} (h : o + m.length ≤ A.length) : splice (A ++ B) o m = splice A o m ++ B := by
  unfold splice
  rw [List.take_append_of_le_length (by omega), List.drop_append_of_le_length (by omega)]
  simp [List.append_assoc]
theorem splice_right {A B m : List D} {o : Nat} : splice (A ++ B) (A.length + o) m = A ++ splice B o m := by
  unfold splice
  rw [List.take_append, List.drop_append]
  have e1 : A.length + o - A.length = o := by omega
  have e2 : A.length + o + m.length - A.length = o + m.length := by omega
  rw [e1, e2, List.take_of_length_le (by omega), List.drop_of_length_le (by omega)]
  simp [List.append_assoc]
theorem splice_set {l : List D} {i : Nat} {d : D} (h : i < l.length) : splice l i [d] = l.set i d := by
  unfold splice
  rw [List.set_eq_take_append_cons_drop, if_pos h]
  simp

theorem toP_cells {v : V} : v.toD.cells = toDL v.cells := toD_cells v
/-! ### Stores -/
/-- into a variable, as it stands -/
def storeRK (ti : TI) (h : VH) (d v : V) (K : V → VH → Prop) : Prop :=
  match d with
  | .ptr b o => blkK h b fun x => (match x with
    | .var T' cs => Chk (v.whole && lenB' v.cells ti.sz && v.cells.all V.one) (splK cs o v.cells fun cs' => K .undef [(b, .var T' cs')])
    | .vari T' pre m t xs post => Chk (v.whole && lenB' v.cells ti.sz && v.cells.all V.one) (match Nat.blt o pre.length with
      | true => splK pre o v.cells fun pre' => K .undef [(b, .vari T' pre' m t xs post)]
      | false => Need (xs.length = m ∧ pre.length + m ≤ o) (splK post (o - (pre.length + m)) v.cells fun post' => K .undef [(b, .vari T' pre m t xs post')]))
    | _ => False)
  | _ => False
theorem aStoreP {P : Program} {h : HL} {T T' : TypeId} {b : Id} {o : Nat} {cs : List D} {e : D} (hb : look h b = some (.var T' cs)) (hw : e.whole = true) (hs : sizeT P T = some e.cells.length) (hl : o + e.cells.length ≤ cs.length) (h1 : e.cells.all D.one = true) :
    aStore P h T (.ptr b o) e = some [(b, .var T' (splice cs o e.cells))] := by
  simp only [aStore, hb]
  rw [if_pos ⟨hw, hs, hl, h1⟩]
theorem aStoreE {P : Program} {h : HL} {T E : TypeId} {b : Id} {i o : Nat} {l : List D} {x e : D} (hb : look h b = some (.row E l)) (hx : l[i]? = some x) (hw : e.whole = true) (hs : sizeT P T = some e.cells.length) (hl : o + e.cells.length ≤ x.cells.length) (h1 : e.cells.all D.one = true) :
    aStore P h T (.eptr b i o) e = some [(b, .row E (l.set i (withCells x (splice x.cells o e.cells))))] := by
  simp only [aStore, hb, hx]
  rw [if_pos ⟨hw, hs, hl, h1⟩]
theorem storeRK_ok {P : Program} {T : TypeId} {ti : TI} (ht : ti.ok P T) {h : VH} {d v : V} {K : V → VH → Prop} (hk : storeRK ti h d v K) : ∃ u vu, aStore P (toH h) T d.toD v.toD = some u ∧ UpdOK h u vu ∧ K .undef vu := by
  unfold storeRK at hk
  split at hk
  · rename_i b o
    obtain ⟨z, h1, h3⟩ := blkK_ok hk
    split at h3
    · rename_i T' cs
      obtain ⟨hc, h4⟩ := h3.ok
      simp only [Bool.and_eq_true] at hc
      obtain ⟨⟨c1, c2⟩, c3⟩ := hc
      obtain ⟨h5, h6⟩ := splK_ok h4
      have hl := look_at (i := 0) h1 (d := .var T' (toDL cs)) rfl
      refine ⟨_, _, aStoreP (o := o) (e := v.toD) hl (by rw [whole_toD]; exact c1) (by rw [ht.size, toD_cells, toDL_len, lenB_ok' c2]) (by rw [toD_cells, toDL_len, toDL_len]; exact h5) (by rw [toD_cells]; exact all_one _ c3), ?_, h6⟩
      exact upd_set h1 rfl (by simp only [VB.blks, toD_cells, toDL_spl])
    · rename_i T' pre m t xs post
      obtain ⟨hc, h4⟩ := h3.ok
      simp only [Bool.and_eq_true] at hc
      obtain ⟨⟨c1, c2⟩, c3⟩ := hc
      have hl := look_at (i := 0) h1 (d := .var T' (toDL pre ++ xs.map (encD t) ++ toDL post)) rfl
      split at h4
      · obtain ⟨h5, h6⟩ := splK_ok h4
        refine ⟨_, _, aStoreP (o := o) (e := v.toD) hl (by rw [whole_toD]; exact c1) (by rw [ht.size, toD_cells, toDL_len, lenB_ok' c2]) (by rw [toD_cells, toDL_len, List.length_append, List.length_append, toDL_len]; omega) (by rw [toD_cells]; exact all_one _ c3), ?_, h6⟩
        refine upd_set h1 rfl ?_
        simp only [VB.blks]
        have es : splice (toDL pre ++ xs.map (encD t) ++ toDL post) o v.toD.cells = toDL (pre.take o ++ v.cells ++ pre.drop (o + v.cells.length)) ++ xs.map (encD t) ++ toDL post := by
          rw [toD_cells, List.append_assoc (toDL pre), splice_left (by rw [toDL_len, toDL_len]; exact h5), toDL_spl]; simp only [List.append_assoc]
        rw [es]
      · obtain ⟨⟨n1, n2⟩, h4⟩ := h4
        obtain ⟨h5, h6⟩ := splK_ok h4
        refine ⟨_, _, aStoreP (o := o) (e := v.toD) hl (by rw [whole_toD]; exact c1) (by rw [ht.size, toD_cells, toDL_len, lenB_ok' c2]) (by rw [toD_cells, toDL_len, List.length_append, List.length_append, toDL_len, toDL_len, List.length_map]; omega) (by rw [toD_cells]; exact all_one _ c3), ?_, h6⟩
        refine upd_set h1 rfl ?_
        simp only [VB.blks]
        have e : o = (toDL pre ++ xs.map (encD t)).length + (o - (pre.length + m)) := by rw [List.length_append, toDL_len, List.length_map]; omega
        rw [e, toD_cells, splice_right, toDL_spl]
        have e2 : (toDL pre ++ xs.map (encD t)).length + (o - (pre.length + m)) - (pre.length + m) = o - (pre.length + m) := by omega
        rw [e2]
    · exact h3.elim
  · exact hk.elim
/-- the kind of what a pointer leads to, and where within -/
def tgtK (h : VH) (d : V) (K : Option (Ty × Nat) → Prop) : Prop :=
  match d with
  | .aptr b _ _ => (match lookO h b with | some (.vari _ _ _ t _ _) => K (some (t, 0)) | _ => K none)
  | .eptr b _ o => (match lookO h b with | some (.row _ t _) => K (some (t, o)) | _ => K none)
  | .fptr k _ o => (match lookO h k with | some (.fvar _ t _) => K (some (t, o)) | _ => K none)
  | .faptr k _ _ _ => (match lookO h k with | some (.fvari _ _ t _) => K (some (t, 0)) | _ => K none)
  | .feptr k _ _ o => (match lookO h k with | some (.frow _ t _) => K (some (t, o)) | _ => K none)
  | _ => K none
theorem tgtK_ok {h : VH} {d : V} {K : Option (Ty × Nat) → Prop} (hk : tgtK h d K) : ∃ r, K r := by
  unfold tgtK at hk
  split at hk <;> first | exact ⟨_, hk⟩ | (split at hk <;> exact ⟨_, hk⟩)
/-- into what has a kind; nil slices are empty ones -/
def storeTK (ti : TI) (h : VH) (d v : V) (K : V → VH → Prop) : Prop :=
  Chk (v.whole && lenB' v.cells ti.sz && v.cells.all V.one) (match d with
  | .aptr b p i => blkK h b fun x => (match x with
    | .vari T' pre m t xs post => Chk (Nat.beq p pre.length && ti.sz == 1 && t.sz == 1 && v.one) (decK t (nzV v) fun e => Need (i < xs.length) (K .undef [(b, .vari T' pre m t (xs.set i e) post)]))
    | _ => False)
  | .eptr b i o => blkK h b fun x => (match x with
    | .row E t xs => Get xs i fun e => splK (enc t e).cells o (nzVs v.cells) fun cs' => decK t (withV (enc t e) cs') fun e' => K .undef [(b, .row E t (xs.set i e'))]
    | _ => False)
  | .fptr k i o => blkK h k fun x => (match x with
    | .fvar T' t xs => Get xs i fun e => splK (enc t e).cells o (nzVs v.cells) fun cs' => decK t (withV (enc t e) cs') fun e' => K .undef [(k, .fvar T' t (xs.set i e'))]
    | _ => False)
  | .faptr k i p j => blkK h k fun x => (match x with
    | .fvari T' m t xss => Chk (Nat.beq p 0 && ti.sz == 1 && t.sz == 1 && v.one) (decK t (nzV v) fun e => Get xss i fun xs => Need (j < xs.length) (K .undef [(k, .fvari T' m t (xss.set i (xs.set j e)))]))
    | _ => False)
  | .feptr k i j o => blkK h k fun x => (match x with
    | .frow E t xss => Get xss i fun xs => Get xs j fun e => splK (enc t e).cells o (nzVs v.cells) fun cs' => decK t (withV (enc t e) cs') fun e' => K .undef [(k, .frow E t (xss.set i (xs.set j e')))]
    | _ => False)
  | _ => False)
theorem nzE_V (v : V) : (nzE v.toD).cells = toDL (nzVs v.cells) := by rw [nzE_cells, toD_cells, nzVs_ok]
theorem nzE_whole (d : D) : (nzE d).whole = d.whole := by cases d <;> rfl
theorem nzVs_len (l : List V) : (nzVs l).length = l.length := by
  have := congrArg List.length (nzVs_ok l)
  rwa [toDL_len, List.length_map, toDL_len] at this
theorem nz_one {v : V} (h : v.cells.all V.one = true) : (nzE v.toD).cells.all D.one = true := by
  rw [nzE_cells, toD_cells]
  have := all_one _ h
  rw [List.all_eq_true] at this ⊢
  intro x hx
  obtain ⟨y, hy, rfl⟩ := List.mem_map.1 hx
  rw [nz0_one]
  exact this y hy
theorem map_set' {α β : Type} (f : α → β) (l : List α) (i : Nat) (x : α) : (l.set i x).map f = (l.map f).set i (f x) := by simp [List.map_set]
/-- the new element -/
theorem elem_ok {t : Ty} {e e' : t.den} {o : Nat} {v : V} (h1 : o + (nzVs v.cells).length ≤ (enc t e).cells.length) (h2 : (withV (enc t e) ((enc t e).cells.take o ++ nzVs v.cells ++ (enc t e).cells.drop (o + (nzVs v.cells).length))).toD = encD t e') :
    withCells (encD t e) (splice (encD t e).cells o (nzE v.toD).cells) = encD t e' := by
  rw [← h2, withV_toD, enc_toD, enc_cells, nzE_V, toDL_spl]
theorem storeTK_ok {P : Program} {T : TypeId} {ti : TI} (ht : ti.ok P T) {h : VH} {d v : V} {K : V → VH → Prop} (hk : storeTK ti h d v K) : ∃ u vu, aStore P (toH h) T d.toD (nzE v.toD) = some u ∧ UpdOK h u vu ∧ K .undef vu := by
  obtain ⟨c0, hk⟩ := Chk.ok hk
  simp only [Bool.and_eq_true] at c0
  obtain ⟨⟨c1, c2⟩, c3⟩ := c0
  have hw : (nzE v.toD).whole = true := by rw [nzE_whole, whole_toD]; exact c1
  have hlen : (nzE v.toD).cells.length = ti.sz := by rw [nzE_V, toDL_len, nzVs_len, lenB_ok' c2]
  have hs : sizeT P T = some (nzE v.toD).cells.length := by rw [ht.size, hlen]
  have h1 := nz_one c3
  have one : v.one = true → (nzE v.toD).cells = [(nzV v).toD] := by
    intro ho
    have : v.cells = [v] := by cases v <;> first | rfl | cases ho
    rw [nzE_V, this]
    rfl
  split at hk
  · rename_i b p i _
    obtain ⟨x, hb, hk⟩ := blkK_ok hk
    split at hk
    · rename_i T' pre m t xs post
      obtain ⟨c, hk⟩ := hk.ok
      simp only [Bool.and_eq_true, beq_iff_eq] at c
      obtain ⟨⟨⟨d1, d2⟩, d3⟩, d4⟩ := c
      have hp : p = pre.length := Nat.eq_of_beq_eq_true d1
      obtain ⟨e, he, hi, hk⟩ := decK_ok hk
      have hl := look_at (i := 0) hb (d := .var T' (toDL pre ++ xs.map (encD t) ++ toDL post)) rfl
      refine ⟨_, _, aStoreP (o := p + i) (e := nzE v.toD) hl hw hs (by rw [hlen, d2, List.length_append, List.length_append, toDL_len, List.length_map]; omega) h1, ?_, hk⟩
      refine upd_set hb rfl ?_
      simp only [VB.blks]
      have es : splice (toDL pre ++ xs.map (encD t) ++ toDL post) (p + i) (nzE v.toD).cells = toDL pre ++ (xs.set i e).map (encD t) ++ toDL post := by
        rw [one d4, he, hp, List.append_assoc (toDL pre), show pre.length + i = (toDL pre).length + i by rw [toDL_len], splice_right, splice_left (by simp; omega), splice_set (by simpa using hi), map_set']
        simp only [List.append_assoc]
      rw [es]
    · exact hk.elim
  · rename_i b i o _
    obtain ⟨x, hb, hk⟩ := blkK_ok hk
    split at hk
    · rename_i E t xs
      obtain ⟨e, he, hk⟩ := hk
      obtain ⟨h5, hk⟩ := splK_ok hk
      obtain ⟨e', he', hk⟩ := decK_ok hk
      have hl := look_at (i := 0) hb (d := .row E (xs.map (encD t))) rfl
      refine ⟨_, _, aStoreE (x := encD t e) (e := nzE v.toD) hl (by rw [List.getElem?_map, he]; rfl) hw hs (by rw [nzE_V, toDL_len, enc_cells, toDL_len]; exact h5) h1, ?_, hk⟩
      refine upd_set hb rfl ?_
      simp only [VB.blks]
      rw [elem_ok h5 he', map_set']
    · exact hk.elim
  · rename_i k i o _
    obtain ⟨x, hb, hk⟩ := blkK_ok hk
    split at hk
    · rename_i T' t xs
      obtain ⟨e, he, hk⟩ := hk
      obtain ⟨h5, hk⟩ := splK_ok hk
      obtain ⟨e', he', hk⟩ := decK_ok hk
      have hl := look_at (i := i) hb (d := .var T' (encD t e).cells) (by simp only [VB.blks, List.getElem?_map, he, Option.map_some])
      refine ⟨_, _, aStoreP (e := nzE v.toD) hl hw hs (by rw [nzE_V, toDL_len, enc_cells, toDL_len]; exact h5) h1, ?_, hk⟩
      have hi := (List.getElem?_eq_some_iff.1 he).1
      refine upd_fam hb ?_ (by simpa [VB.blks] using hi)
      simp only [VB.blks]
      rw [map_set']
      have hc := splice_cells (e := encD t e) (m := (nzE v.toD).cells) (o := o) (by rw [nzE_V, toDL_len, enc_cells, toDL_len]; exact h5) (fun y hy => one_cells (by rw [List.all_eq_true] at h1; exact h1 y hy))
      rw [elem_ok h5 he'] at hc
      rw [hc]
    · exact hk.elim
  · rename_i k i p j _
    obtain ⟨x, hb, hk⟩ := blkK_ok hk
    split at hk
    · rename_i T' m t xss
      obtain ⟨c, hk1⟩ := hk.ok
      simp only [Bool.and_eq_true, beq_iff_eq] at c
      obtain ⟨⟨⟨d1, d2⟩, d3⟩, d4⟩ := c
      have hp : p = 0 := Nat.eq_of_beq_eq_true d1
      subst hp
      obtain ⟨e, he, xs, hx, hj, hk⟩ := decK_ok hk1
      have hl := look_at (i := i) hb (d := .var T' (xs.map (encD t))) (by simp only [VB.blks, List.getElem?_map, hx, Option.map_some])
      refine ⟨_, _, aStoreP (o := 0 + j) (e := nzE v.toD) hl hw hs (by rw [hlen, d2, List.length_map]; omega) h1, ?_, hk⟩
      have hi := (List.getElem?_eq_some_iff.1 hx).1
      refine upd_fam hb ?_ (by simpa [VB.blks] using hi)
      simp only [VB.blks]
      rw [map_set', one d4, he, Nat.zero_add, splice_set (by simpa using hj), map_set']
    · exact hk.elim
  · rename_i k i j o _
    obtain ⟨x, hb, hk⟩ := blkK_ok hk
    split at hk
    · rename_i E t xss
      obtain ⟨xs, hx, e, he, hk⟩ := hk
      obtain ⟨h5, hk⟩ := splK_ok hk
      obtain ⟨e', he', hk⟩ := decK_ok hk
      have hl := look_at (i := i) hb (d := .row E (xs.map (encD t))) (by simp only [VB.blks, List.getElem?_map, hx, Option.map_some])
      refine ⟨_, _, aStoreE (x := encD t e) (e := nzE v.toD) hl (by rw [List.getElem?_map, he]; rfl) hw hs (by rw [nzE_V, toDL_len, enc_cells, toDL_len]; exact h5) h1, ?_, hk⟩
      have hi := (List.getElem?_eq_some_iff.1 hx).1
      refine upd_fam hb ?_ (by simpa [VB.blks] using hi)
      simp only [VB.blks]
      rw [map_set', elem_ok h5 he', map_set']
    · exact hk.elim
  · exact hk.elim
end Go.Proofs.Ytkclhekkcffpoaa.Am
