/- The plain machine with types: one operation. -/
import Derived.Test.YtdecnnhcbjhfgaaV2
namespace Go.Proofs.Ytdecnnhcbjhfgaa.Am
set_option linter.unusedSimpArgs false
set_option linter.unusedVariables false
open Go Go.RowKit

def Chk (b : Bool) (K : Prop) : Prop := match b with | true => K | false => False
theorem Chk.ok {b : Bool} {K : Prop} (h : Chk b K) : b = true ∧ K := by cases b <;> first | exact h.elim | exact ⟨rfl, h⟩

/-- a number, laid open -/
def natK (n : Nat) (K : Nat → Prop) : Prop :=
  match n with
  | 0 => K 0 | 1 => K 1 | 2 => K 2 | 3 => K 3 | 4 => K 4 | 5 => K 5 | 6 => K 6 | 7 => K 7 | 8 => K 8 | 9 => K 9 | 10 => K 10 | 11 => K 11 | 12 => K 12 | 13 => K 13 | 14 => K 14 | 15 => K 15
  | 16 => K 16 | 17 => K 17 | 18 => K 18 | 19 => K 19 | 20 => K 20 | 21 => K 21 | 22 => K 22 | 23 => K 23
  | n => K n
theorem natK_ok {n : Nat} {K : Nat → Prop} (h : natK n K) : K n := by
  unfold natK at h
  split at h <;> exact h

/-! ### what is made of a value that is handed on -/
def pur0K (h : VH) (v : V) (K : V → List Nat → Prop) : Prop :=
  match v with
  | .ref b => blkK h b fun x => (match x with
    | .row _ t xs => K (.lst t xs) [b]
    | .froz t xs => K (.lst t xs) [b]
    | _ => False)
  | .nils => K (.lst (.int .i64) []) []
  | .int k n => K (.int k n) []
  | .bool b => K (.bool b) []
  | .tt => K (.bool true) []
  | .ff => K (.bool false) []
  | .str s => K (.str s) []
  | .lst t xs => K (.lst t xs) []
  | .box t x => K (.box t x) []
  | .nilp => K .nilp []
  | _ => False
theorem pur0K_ok {h : VH} {v : V} {K : V → List Nat → Prop} (hk : pur0K h v K) : ∃ v' is, pur0 (toH h) v.toD = some v'.toD ∧ ids0 v.toD = is ∧ v'.toD.pure0 = true ∧ K v' is := by
  unfold pur0K at hk
  split at hk
  · rename_i b
    obtain ⟨x, h1, _, h3⟩ := blkK_ok hk
    split at h3
    · rename_i t xs
      exact ⟨_, _, by simp [pur0, V.toD, h1, VB.toD], rfl, rfl, h3⟩
    · rename_i t xs
      exact ⟨_, _, by simp [pur0, V.toD, h1, VB.toD], rfl, rfl, h3⟩
    · exact h3.elim
  · exact ⟨_, _, by simp [pur0, V.toD], rfl, rfl, hk⟩
  all_goals first | exact hk.elim | exact ⟨_, _, by simp [pur0, V.toD, D.pure0], rfl, rfl, hk⟩
def pursK (h : VH) : List V → (List V → List Nat → Prop) → Prop
  | [], K => K [] []
  | v :: l, K => pur0K h v fun v' is => pursK h l fun l' is' => K (v' :: l') (is ++ is')
theorem pursK_ok {h : VH} : ∀ {l : List V} {K : List V → List Nat → Prop}, pursK h l K → ∃ l' is, (toDL l).mapM (pur0 (toH h)) = some (toDL l') ∧ (toDL l).flatMap ids0 = is ∧ ((toDL l').all D.pure0) = true ∧ K l' is
  | [], K, hk => ⟨[], [], rfl, rfl, rfl, hk⟩
  | v :: l, K, hk => by
    obtain ⟨v', is, h1, h2, h3, h4⟩ := pur0K_ok hk
    obtain ⟨l', is', h5, h6, h7, h8⟩ := pursK_ok h4
    exact ⟨v' :: l', is ++ is', by simp [toDL, List.mapM_cons, h1, h5], by simp [toDL, h2, h6], by simp [toDL, h3, h7], h8⟩
def purK (h : VH) (v : V) (K : V → List Nat → Prop) : Prop :=
  match v with
  | .agg cs => pursK h cs fun cs' is => K (.agg cs') is
  | .tup cs => pursK h cs fun cs' is => K (.tup cs') is
  | v => pur0K h v K
theorem purK_ok {h : VH} {v : V} {K : V → List Nat → Prop} (hk : purK h v K) : ∃ v' is, pur (toH h) v.toD = some v'.toD ∧ ids v.toD = is ∧ K v' is := by
  unfold purK at hk
  split at hk
  · obtain ⟨l', is, h1, h2, h3, h4⟩ := pursK_ok hk
    exact ⟨_, _, by simp [pur, V.toD, h1], by simp [ids, V.toD, h2], h4⟩
  · obtain ⟨l', is, h1, h2, h3, h4⟩ := pursK_ok hk
    exact ⟨_, _, by simp [pur, V.toD, h1], by simp [ids, V.toD, h2], h4⟩
  · rename_i h1 h2
    obtain ⟨v', is, q1, q2, q3, q4⟩ := pur0K_ok hk
    refine ⟨v', is, ?_, ?_, q4⟩
    · cases v <;> first | exact absurd rfl (h1 _) | exact absurd rfl (h2 _) | exact q1
    · cases v <;> first | exact absurd rfl (h1 _) | exact absurd rfl (h2 _) | exact q2
/-- rows that are no more written -/
def frzK (h : VH) : List Nat → (VH → Prop) → Prop
  | [], K => K []
  | b :: bs, K => blkK h b fun x => match x with
    | .row _ t xs => frzK h bs fun u => K ((b, .froz t xs) :: u)
    | _ => frzK h bs K
theorem frzK_ok {h : VH} : ∀ {bs : List Nat} {K : VH → Prop}, frzK h bs K → ∃ u, frz (toH h) bs = toH u ∧ K u
  | [], K, hk => ⟨[], rfl, hk⟩
  | b :: bs, K, hk => by
    obtain ⟨x, h1, _, h3⟩ := blkK_ok hk
    split at h3
    · rename_i t xs
      obtain ⟨u, h4, h5⟩ := frzK_ok h3
      refine ⟨_, ?_, h5⟩
      unfold frz at h4 ⊢
      rw [List.filterMap_cons, h1]
      simp only [VB.toD, h4]
      rfl
    · rename_i hne
      obtain ⟨u, h4, h5⟩ := frzK_ok h3
      refine ⟨u, ?_, h5⟩
      unfold frz at h4 ⊢
      rw [List.filterMap_cons, h1]
      cases x <;> first | exact absurd rfl (hne _ _ _) | exact h4
def putK {α : Type} (x : Nat) (a : α) : List (Nat × α) → (List (Nat × α) → Prop) → Prop
  | [], K => K [(x, a)]
  | (k, b) :: l, K => bif Nat.beq x k then K ((k, a) :: l) else putK x a l fun l' => K ((k, b) :: l')
theorem putK_ok {α : Type} {x : Nat} {a : α} : ∀ {l : List (Nat × α)} {K : List (Nat × α) → Prop}, putK x a l K → K (put x a l)
  | [], K, h => h
  | (k, b) :: l, K, h => by
    simp only [putK] at h
    simp only [put]
    by_cases e : x = k
    · subst e
      simp only [Nat.beq_refl, cond_true] at h
      simpa using h
    · have : Nat.beq x k = false := by
        cases hb : Nat.beq x k with
        | false => rfl
        | true => exact absurd (Nat.eq_of_beq_eq_true hb) e
      rw [this] at h
      rw [if_neg e]
      exact putK_ok h
def putsK {α : Type} : List (Nat × α) → List (Nat × α) → (List (Nat × α) → Prop) → Prop
  | [], l, K => K l
  | (x, a) :: u, l, K => putK x a l fun l' => putsK u l' K
theorem putsK_ok {α : Type} : ∀ {u l : List (Nat × α)} {K : List (Nat × α) → Prop}, putsK u l K → K (puts u l)
  | [], l, K, h => h
  | (x, a) :: u, l, K, h => putsK_ok (u := u) (putK_ok (K := fun l' => putsK u l' K) h)
theorem put_map {α β : Type} (f : α → β) (x : Nat) (a : α) : ∀ l : List (Nat × α), put x (f a) (l.map fun p => (p.1, f p.2)) = (put x a l).map fun p => (p.1, f p.2)
  | [] => rfl
  | (k, b) :: l => by
    simp only [List.map_cons, put]
    split
    · rfl
    · simp only [List.map_cons, put_map f x a l]
theorem puts_toH : ∀ (u h : VH), puts (toH u) (toH h) = toH (puts u h)
  | [], h => rfl
  | (x, a) :: u, h => by
    show puts (toH u) (put x a.toD (toH h)) = toH (puts u (put x a h))
    rw [← puts_toH u (put x a h)]
    congr 1
    exact put_map VB.toD x a h

/-! ### operations -/
def V.whole : V → Bool
  | .tup _ | .undef => false
  | _ => true
def V.one : V → Bool
  | .agg _ | .tup _ | .undef => false
  | _ => true
theorem whole_toD (v : V) : v.toD.whole = v.whole := by cases v <;> rfl
theorem one_toD (v : V) : v.toD.one = v.one := by cases v <;> rfl
theorem all_one (l : List V) (h : l.all V.one = true) : (toDL l).all D.one = true := by
  rw [toDL_eq, List.all_map]
  rw [List.all_eq_true] at h ⊢
  intro x hx
  simp only [Function.comp, one_toD]
  exact h x hx

def loadK (ti : TI) (h : VH) (v : V) (K : V → Prop) : Prop :=
  match v with
  | .ptr b o => blkK h b fun x => (match x with
    | .var _ cs => takeK ti cs o K
    | .vari _ pre m _ xs post => (match Nat.blt o pre.length with
      | true => takeK ti pre o K
      | false => Need (xs.length = m ∧ pre.length + m ≤ o) (takeK ti post (o - (pre.length + m)) K))
    | _ => False)
  | .aptr b p i => blkK h b fun x => (match x with
    | .vari _ pre _ t xs _ => Chk (Nat.beq p pre.length && !ti.agg && t.sz == 1) (Get xs i fun e => K (enc t e))
    | _ => False)
  | .eptr b i o => blkK h b fun x => (match x with
    | .row _ t xs => Get xs i fun e => takeK ti (enc t e).cells o K
    | _ => False)
  | .iptr t e o => takeK ti (enc t e).cells o K
  | .box t e => takeK ti (enc t e).cells 0 K
  | _ => False
theorem enc_cells (t : Ty) (x : t.den) : (encD t x).cells = toDL (enc t x).cells := by rw [← enc_toD, toD_cells]
theorem loadK_ok {P : Program} {T : TypeId} {ti : TI} (ht : ti.ok P T) {h : VH} {v : V} {K : V → Prop} (hk : loadK ti h v K) : ∃ r, aLoad P (toH h) T v.toD = some r.toD ∧ K r := by
  unfold loadK at hk
  split at hk
  · rename_i b o
    obtain ⟨x, h1, _, h3⟩ := blkK_ok hk
    split at h3
    · obtain ⟨r, h4, h5⟩ := takeK_ok ht h3
      exact ⟨r, by simp only [V.toD, aLoad, h1, VB.toD, h4], h5⟩
    · rename_i T' pre m t xs post _
      split at h3
      · obtain ⟨r, h4, h5⟩ := takeK_ok ht h3
        exact ⟨r, by simp only [V.toD, aLoad, h1, VB.toD, List.append_assoc]; exact takeVal_left h4, h5⟩
      · obtain ⟨⟨c1, c2⟩, h3⟩ := h3
        obtain ⟨r, h4, h5⟩ := takeK_ok ht h3
        refine ⟨r, ?_, h5⟩
        simp only [V.toD, aLoad, h1, VB.toD]
        have h6 := takeVal_right (A := toDL pre ++ xs.map (encD t)) h4
        rw [List.length_append, List.length_map, toDL_len, c1] at h6
        rw [show pre.length + m + (o - (pre.length + m)) = o by omega] at h6
        exact h6
    · exact h3.elim
  · rename_i b p i
    obtain ⟨x, h1, _, h3⟩ := blkK_ok hk
    split at h3
    · rename_i T' pre m t xs post _
      obtain ⟨c, h3⟩ := h3.ok
      simp only [Bool.and_eq_true, Bool.not_eq_true', beq_iff_eq] at c
      obtain ⟨⟨c1, c2⟩, c3⟩ := c
      obtain ⟨e, h4, h5⟩ := h3
      have hp : p = pre.length := Nat.eq_of_beq_eq_true c1
      refine ⟨enc t e, ?_, h5⟩
      simp only [V.toD, aLoad, h1, VB.toD, enc_toD]
      have hlt := (List.getElem?_eq_some_iff.1 h4).1
      have ha := ht.agg
      rw [c2] at ha
      refine take1 ha ?_
      rw [List.append_assoc, List.getElem?_append_right (by rw [toDL_len]; omega), toDL_len, hp, Nat.add_sub_cancel_left, List.getElem?_append_left (by simpa using hlt), List.getElem?_map, h4]
      rfl
    · exact h3.elim
  · rename_i b i o
    obtain ⟨x, h1, _, h3⟩ := blkK_ok hk
    split at h3
    · rename_i t xs
      obtain ⟨e, h4, h5⟩ := h3
      obtain ⟨r, h6, h7⟩ := takeK_ok ht h5
      exact ⟨r, by simp only [V.toD, aLoad, h1, VB.toD, List.getElem?_map, h4, Option.map_some, enc_cells, h6], h7⟩
    · exact h3.elim
  · obtain ⟨r, h4, h5⟩ := takeK_ok ht hk
    exact ⟨r, by simp only [V.toD, aLoad, enc_cells, h4], h5⟩
  · obtain ⟨r, h4, h5⟩ := takeK_ok ht hk
    exact ⟨r, by simp only [V.toD, aLoad, enc_cells, h4], h5⟩
  · exact hk.elim

def withV (v : V) (cs : List V) : V := match v with | .agg _ => .agg cs | _ => cs.headD .undef
theorem withV_toD {v : V} {cs : List V} : (withV v cs).toD = withCells v.toD (toDL cs) := by
  unfold withV withCells
  cases v <;> first | rfl | (cases cs <;> rfl)
def decK (t : Ty) (v : V) (K : t.den → Prop) : Prop := match dec t v with | some x => K x | none => False
theorem decK_ok {t : Ty} {v : V} {K : t.den → Prop} (h : decK t v K) : ∃ x, v.toD = encD t x ∧ K x := by
  unfold decK at h
  split at h
  · rename_i x hx
    exact ⟨x, dec_ok hx, h⟩
  · exact h.elim
def V.pure0 : V → Bool
  | .int .. | .bool _ | .tt | .ff | .str _ | .lst .. | .box .. | .nilp | .nils => true
  | _ => false
theorem all_pure0 (l : List V) (h : l.all V.pure0 = true) : (toDL l).all D.pure0 = true := by
  rw [toDL_eq, List.all_map]
  rw [List.all_eq_true] at h ⊢
  intro x hx
  have := h x hx
  cases x <;> first | rfl | cases this
def lenB : List V → Nat → Bool
  | [], 0 => true
  | _ :: l, n + 1 => lenB l n
  | _, _ => false
theorem lenB_ok : ∀ {l : List V} {n : Nat}, lenB l n = true → l.length = n
  | [], 0, _ => rfl
  | _ :: l, n + 1, h => by simp [lenB_ok (l := l) (n := n) h]
  | [], _ + 1, h => by cases h
  | _ :: _, 0, h => by cases h

theorem enc_pure0 {t : Ty} (h : t.sz = 1) (x : t.den) : (encD t x).pure0 = true := by cases t <;> first | rfl | cases h
theorem splice_left {A B m : List D} {o : Nat} (h : o + m.length ≤ A.length) : splice (A ++ B) o m = splice A o m ++ B := by
  unfold splice
  rw [List.take_append_of_le_length (by omega), List.drop_append_of_le_length (by omega)]
  simp [List.append_assoc]
theorem splice_right {A B m : List D} {o : Nat} : splice (A ++ B) (A.length + o) m = A ++ splice B o m := by
  unfold splice
  rw [List.take_append, List.drop_append]
  have e1 : A.length + o - A.length = o := by omega
  have e2 : A.length + o + m.length - A.length = o + m.length := by omega
  rw [e1, e2, List.take_of_length_le (by omega), List.drop_of_length_le (by omega)]
  simp [List.append_assoc]
theorem splice_set {l : List D} {i : Nat} {d : D} (h : i < l.length) : splice l i [d] = l.set i d := by
  unfold splice
  rw [List.set_eq_take_append_cons_drop, if_pos h]
  simp
def storeK (ti : TI) (h : VH) (d v : V) (K : V → VH → Prop) : Prop :=
  match d with
  | .ptr b o => blkK h b fun x => (match x with
    | .var T' cs => Chk (v.whole && lenB v.cells ti.sz && v.cells.all V.one) (splK cs o v.cells fun cs' => K .undef [(b, .var T' cs')])
    | .vari T' pre m t xs post => Chk (v.whole && lenB v.cells ti.sz && v.cells.all V.one) (match Nat.blt o pre.length with
      | true => splK pre o v.cells fun pre' => K .undef [(b, .vari T' pre' m t xs post)]
      | false => Need (xs.length = m ∧ pre.length + m ≤ o) (splK post (o - (pre.length + m)) v.cells fun post' => K .undef [(b, .vari T' pre m t xs post')]))
    | _ => False)
  | .aptr b p i => blkK h b fun x => (match x with
    | .vari T' pre m t xs post => Chk (Nat.beq p pre.length && ti.sz == 1 && t.sz == 1 && v.one && v.whole) (decK t v fun e => Need (i < xs.length) (K .undef [(b, .vari T' pre m t (xs.set i e) post)]))
    | _ => False)
  | .eptr b i o => purK h v fun v' is => frzK h is fun u0 => putsK u0 h fun h1 => blkK h1 b fun x => (match x with
    | .row E t xs => Chk (lenB v'.cells ti.sz && v'.cells.all V.pure0) (Get xs i fun e => splK (enc t e).cells o v'.cells fun cs' => decK t (withV (enc t e) cs') fun e' => K .undef (u0 ++ [(b, .row E t (xs.set i e'))]))
    | _ => False)
  | _ => False
theorem toH_append (u u' : VH) : toH (u ++ u') = toH u ++ toH u' := by simp [toH]
theorem storeK_ok {P : Program} {Γ : Env} {T : TypeId} {ti : TI} (ht : ti.ok P T) {t : VT} {h : VH} {n : Nat} {x y : Operand} {d v : V} (hx : evalD (toT t) x = some d.toD) (hy : evalD (toT t) y = some v.toD) {K : V → VH → Prop} (hk : storeK ti h d v K) :
    ∃ r u, aop P Γ (.store T x y) (toT t) (toH h) n = some (r.toD, toH u) ∧ K r u := by
  unfold storeK at hk
  split at hk
  · rename_i b o
    obtain ⟨z, h1, _, h3⟩ := blkK_ok hk
    split at h3
    · rename_i T' cs _
      obtain ⟨hc, h4⟩ := h3.ok
      simp only [Bool.and_eq_true] at hc
      obtain ⟨⟨c1, c2⟩, c3⟩ := hc
      obtain ⟨h5, h6⟩ := splK_ok h4
      refine ⟨_, _, op_storeP (T' := T') (cs := toDL cs) hx hy h1 (by rw [whole_toD]; exact c1) ?_ ?_ ?_ rfl |>.trans ?_, h6⟩
      · rw [toD_cells, toDL_len, lenB_ok c2]; exact ht.size
      · rw [toD_cells, toDL_len, toDL_len]; exact h5
      · rw [toD_cells]; exact all_one _ c3
      · rw [toD_cells, toDL_spl]; rfl
    · rename_i T' pre m t' xs post _
      obtain ⟨hc, h4⟩ := h3.ok
      simp only [Bool.and_eq_true] at hc
      obtain ⟨⟨c1, c2⟩, c3⟩ := hc
      have hsz : sizeT P T = some v.toD.cells.length := by rw [toD_cells, toDL_len, lenB_ok c2]; exact ht.size
      have hon : v.toD.cells.all D.one = true := by rw [toD_cells]; exact all_one _ c3
      split at h4
      · obtain ⟨h5, h6⟩ := splK_ok h4
        refine ⟨_, _, op_storeP (T' := T') (cs := toDL pre ++ xs.map (encD t') ++ toDL post) hx hy h1 (by rw [whole_toD]; exact c1) hsz ?_ hon rfl |>.trans ?_, h6⟩
        · rw [toD_cells, toDL_len, List.length_append, List.length_append, toDL_len]; omega
        · rw [toD_cells, List.append_assoc, splice_left (by rw [toDL_len, toDL_len]; exact h5), toDL_spl]
          simp only [toH, List.map_cons, List.map_nil, VB.toD, List.append_assoc]
          rfl
      · obtain ⟨⟨c4, c5⟩, h4⟩ := h4
        obtain ⟨h5, h6⟩ := splK_ok h4
        have hlen : (toDL pre ++ xs.map (encD t')).length = pre.length + m := by rw [List.length_append, List.length_map, toDL_len, c4]
        refine ⟨_, _, op_storeP (T' := T') (cs := toDL pre ++ xs.map (encD t') ++ toDL post) hx hy h1 (by rw [whole_toD]; exact c1) hsz ?_ hon rfl |>.trans ?_, h6⟩
        · rw [toD_cells, toDL_len, List.length_append, hlen, toDL_len]; omega
        · rw [toD_cells, show o = (toDL pre ++ xs.map (encD t')).length + (o - (pre.length + m)) by rw [hlen]; omega, splice_right, toDL_spl]
          simp only [toH, List.map_cons, List.map_nil, VB.toD]
          rw [hlen, show pre.length + m + (o - (pre.length + m)) - (pre.length + m) = o - (pre.length + m) by omega]
          rfl
    · exact h3.elim
  · rename_i b p i
    obtain ⟨z, h1, _, h3⟩ := blkK_ok hk
    split at h3
    · rename_i T' pre m t' xs post _
      obtain ⟨hc, h4⟩ := h3.ok
      simp only [Bool.and_eq_true, beq_iff_eq] at hc
      obtain ⟨⟨⟨⟨c1, c2⟩, c3⟩, c4⟩, c5⟩ := hc
      obtain ⟨e, h5, h6⟩ := decK_ok h4
      obtain ⟨h7, h8⟩ := h6
      have hp : p = pre.length := Nat.eq_of_beq_eq_true c1
      have hcl : v.toD.cells = [encD t' e] := by rw [h5]; exact cells_pure0 (enc_pure0 c3 e)
      refine ⟨_, _, op_storeP (T' := T') (cs := toDL pre ++ xs.map (encD t') ++ toDL post) hx hy h1 (by rw [whole_toD]; exact c5) ?_ ?_ ?_ rfl |>.trans ?_, h8⟩
      · rw [hcl, ht.size, c2]; rfl
      · rw [hcl, List.length_append, List.length_append, toDL_len, List.length_map]; simp only [List.length_singleton]; omega
      · rw [hcl]; simp [pure0_one (enc_pure0 c3 e)]
      · rw [hcl, hp, List.append_assoc, show pre.length + i = (toDL pre).length + i by rw [toDL_len], splice_right, splice_left (by rw [List.length_map]; exact h7), splice_set (by simpa using h7), ← List.map_set]
        simp only [toH, List.map_cons, List.map_nil, VB.toD, List.append_assoc]
        rfl
    · exact h3.elim
  · rename_i b i o
    obtain ⟨v', is, p1, p2, h2⟩ := purK_ok hk
    obtain ⟨u0, p3, h3⟩ := frzK_ok h2
    have h4 := putsK_ok h3
    obtain ⟨z, h5, _, h6⟩ := blkK_ok h4
    split at h6
    · rename_i E t' xs _
      obtain ⟨hc, h7⟩ := h6.ok
      simp only [Bool.and_eq_true] at hc
      obtain ⟨c1, c2⟩ := hc
      obtain ⟨e, h8, h9⟩ := h7
      obtain ⟨h10, h11⟩ := splK_ok h9
      obtain ⟨e', h12, h13⟩ := decK_ok h11
      refine ⟨_, _, ?_, h13⟩
      simp only [aop, hx, hy, Option.bind_some, V.toD, p1, p2, p3, puts_toH]
      unfold aStore
      simp only [h5, VB.toD, List.getElem?_map, h8, Option.map_some]
      rw [if_pos ⟨by rw [toD_cells, toDL_len, lenB_ok c1]; exact ht.size, by rw [toD_cells, toDL_len, enc_cells, toDL_len]; exact h10, by rw [toD_cells]; exact all_pure0 _ c2⟩]
      simp only [Option.map_some, toD_cells, enc_cells, toDL_spl]
      rw [show withCells (encD t' e) = withCells (enc t' e).toD by rw [enc_toD], ← withV_toD, h12, toH_append, ← List.map_set]
      rfl
    · exact h6.elim
  · exact hk.elim

/-! ### numbers, comparisons -/
def binK (op : BinOp) (tk : TK) (d e : V) (K : V → Prop) : Prop :=
  match d, e with
  | .int k x, .int k' y => (match decEq k k' with
    | isTrue _ => (match op with
      | .add => Ari k (x + y) fun z => K (.int k z)
      | .sub => Ari k (x - y) fun z => K (.int k z)
      | .mul => Ari k (x * y) fun z => K (.int k z)
      | .quo => Need (y ≠ 0) (Ari k (x.tdiv y) fun z => K (.int k z))
      | .rem => Need (y ≠ 0) (K (.int k (x.tmod y)))
      | .and => K (.int k (k.wrap (BitVec.ofInt k.bits x &&& BitVec.ofInt k.bits y).toNat))
      | .or => K (.int k (k.wrap (BitVec.ofInt k.bits x ||| BitVec.ofInt k.bits y).toNat))
      | .xor => K (.int k (k.wrap (BitVec.ofInt k.bits x ^^^ BitVec.ofInt k.bits y).toNat))
      | .eql => K (.bool (x == y))
      | .neq => K (.bool (x != y))
      | .lss => K (.bool (decide (x < y)))
      | .leq => K (.bool (decide (x ≤ y)))
      | .gtr => K (.bool (decide (y < x)))
      | .geq => K (.bool (decide (y ≤ x)))
      | _ => False)
    | isFalse _ => False)
  | .str x, .str y => (match op with
    | .add => Need (x.size + y.size ≤ 9223372036854775807) (K (.str (x ++ y)))
    | .eql => K (.bool (x.toList == y.toList))
    | .neq => K (.bool !(x.toList == y.toList))
    | _ => False)
  | .bool x, .bool y => (match tk, op with
    | .bool, .eql => K (.bool (x == y))
    | .bool, .neq => K (.bool !(x == y))
    | _, _ => False)
  | .bool x, .tt => (match tk, op with
    | .bool, .eql => K (.bool x)
    | .bool, .neq => K (.bool !x)
    | _, _ => False)
  | .bool x, .ff => (match tk, op with
    | .bool, .eql => K (.bool !x)
    | .bool, .neq => K (.bool x)
    | _, _ => False)
  | .nilp, .nilp => (match tk, op with
    | .ptr _, .eql => K (.bool true)
    | .ptr _, .neq => K (.bool false)
    | _, _ => False)
  | .nilp, .ptr .. => (match tk, op with
    | .ptr _, .eql => K (.bool false)
    | .ptr _, .neq => K (.bool true)
    | _, _ => False)
  | .ptr .., .nilp => (match tk, op with
    | .ptr _, .eql => K (.bool false)
    | .ptr _, .neq => K (.bool true)
    | _, _ => False)
  | .nilp, .box .. => (match tk, op with
    | .ptr _, .eql => K (.bool false)
    | .ptr _, .neq => K (.bool true)
    | _, _ => False)
  | .box .., .nilp => (match tk, op with
    | .ptr _, .eql => K (.bool false)
    | .ptr _, .neq => K (.bool true)
    | _, _ => False)
  | _, _ => False
/-- what a binary operation gives -/
def aBinA (P : Program) (op : BinOp) (T : TypeId) (d e : D) : Option D :=
  match aBin op d e with
  | some r => some r
  | none => (match aBinP P op T d e with
    | some r => some r
    | none => aBoolEq op T P d e)
theorem op_binA {P : Program} {Γ : Env} {t : List (Nat × D)} {h : List (Nat × Blk)} {n : Nat} {op : BinOp} {T yT : TypeId} {x y : Operand} {d e r : D} (hx : evalD t x = some d) (hy : evalD t y = some e) (hr : aBinA P op T d e = some r) : aop P Γ (.binOp op T x y yT) t h n = some (r, []) := by
  unfold aBinA at hr
  simp only [aop, hx, hy, Option.bind_some]
  split at hr
  · rename_i h1
    simp only [Option.some.injEq] at hr
    subst hr
    rw [h1]
  · rename_i h1
    rw [h1]
    simp only
    split at hr
    · rename_i h2
      simp only [Option.some.injEq] at hr
      subst hr
      rw [h2]
    · rename_i h2
      rw [h2, hr]
      rfl
theorem binK_ok {P : Program} {op : BinOp} {T : TypeId} {tk : TK} (ht : tk.ok P T) {d e : V} {K : V → Prop} (hk : binK op tk d e K) : ∃ r, aBinA P op T d.toD e.toD = some r.toD ∧ K r := by
  unfold binK at hk
  split at hk
  · rename_i k x k' y
    split at hk
    · rename_i e' _
      subst e'
      split at hk
      · exact ⟨_, by simp only [aBinA, V.toD, aBin, if_true], hk.ok⟩
      · exact ⟨_, by simp only [aBinA, V.toD, aBin, if_true], hk.ok⟩
      · exact ⟨_, by simp only [aBinA, V.toD, aBin, if_true], hk.ok⟩
      · exact ⟨_, by simp only [aBinA, V.toD, aBin, if_true, if_neg hk.1], hk.2.ok⟩
      · exact ⟨_, by simp only [aBinA, V.toD, aBin, if_true, if_neg hk.1], hk.2⟩
      all_goals first | exact hk.elim | exact ⟨_, by simp only [aBinA, V.toD, aBin, if_true], hk⟩
    · exact hk.elim
  · split at hk
    · exact ⟨_, by simp only [aBinA, V.toD, aBin, if_pos hk.1], hk.2⟩
    all_goals first | exact hk.elim | exact ⟨_, by simp only [aBinA, V.toD, aBin], hk⟩
  · split at hk
    · have hu : P.underlying T = some .bool := ht
      exact ⟨_, by simp [aBinA, V.toD, aBin, aBinP, aBoolEq, hu], hk⟩
    · have hu : P.underlying T = some .bool := ht
      exact ⟨_, by simp [aBinA, V.toD, aBin, aBinP, aBoolEq, hu], hk⟩
    · exact hk.elim
  · rename_i x
    split at hk
    · have hu : P.underlying T = some .bool := ht
      exact ⟨.bool x, by cases x <;> simp [aBinA, V.toD, aBin, aBinP, aBoolEq, hu], hk⟩
    · have hu : P.underlying T = some .bool := ht
      exact ⟨.bool !x, by cases x <;> simp [aBinA, V.toD, aBin, aBinP, aBoolEq, hu], hk⟩
    · exact hk.elim
  · rename_i x
    split at hk
    · have hu : P.underlying T = some .bool := ht
      exact ⟨.bool !x, by cases x <;> simp [aBinA, V.toD, aBin, aBinP, aBoolEq, hu], hk⟩
    · have hu : P.underlying T = some .bool := ht
      exact ⟨.bool x, by cases x <;> simp [aBinA, V.toD, aBin, aBinP, aBoolEq, hu], hk⟩
    · exact hk.elim
  case h_11 => exact hk.elim
  all_goals (split at hk <;> first | exact hk.elim | (rename_i E _; have hu : P.underlying T = some (.pointer E) := ht; exact ⟨_, by simp [aBinA, V.toD, aBin, aBinP, hu, isPtr], hk⟩) | (rename_i E; have hu : P.underlying T = some (.pointer E) := ht; exact ⟨_, by simp [aBinA, V.toD, aBin, aBinP, hu, isPtr], hk⟩))

def unK (op : UnOp) (d : V) (K : V → Prop) : Prop :=
  match d, op with
  | .int k n, .neg => Ari k (0 - n) fun z => K (.int k z)
  | .bool b, .not => K (.bool !b)
  | .tt, .not => K .ff
  | .ff, .not => K .tt
  | _, _ => False
theorem unK_ok {op : UnOp} {d : V} {K : V → Prop} (hk : unK op d K) : ∃ r, aUn op d.toD = some r.toD ∧ K r := by
  unfold unK at hk
  split at hk
  · exact ⟨_, by simp only [V.toD, aUn], hk.ok⟩
  · exact ⟨_, by simp only [V.toD, aUn], hk⟩
  · exact ⟨.ff, rfl, hk⟩
  · exact ⟨.tt, rfl, hk⟩
  · exact hk.elim
end Go.Proofs.Ytdecnnhcbjhfgaa.Am
