/- The plain machine with types: slices, addresses, literals. -/
import Derived.Test.YtkclhekkcffpoaaU6
namespace Go.Proofs.Ytkclhekkcffpoaa.Am
set_option linter.unusedSimpArgs false
set_option linter.unusedVariables false
open Go Go.RowKit

def intsOf : List V → (List Int → Prop) → Prop
  | [], K => K []
  | .int .i64 n :: l, K => intsOf l fun r => K (n :: r)
  | _ :: _, _ => False
theorem intsOf_ok : ∀ {l : List V} {K : List Int → Prop}, intsOf l K → ∃ ns : List Int, toDL l = ns.map (D.int .i64) ∧ K ns
  | [], K, h => ⟨[], rfl, h⟩
  | v :: l, K, h => by
    cases v <;> try exact h.elim
    rename_i k n
    cases k <;> try exact h.elim
    obtain ⟨ns, h1, h2⟩ := intsOf_ok (l := l) h
    exact ⟨n :: ns, by simp [toDL, V.toD, h1], h2⟩

def V.pure0 : V → Bool
  | .int .. | .bool _ | .tt | .ff | .str _ | .lst .. | .box .. | .nilp | .nils | .nilf | .nili => true
  | _ => false
theorem all_pure0 (l : List V) (h : l.all V.pure0 = true) : (toDL l).all D.pure0 = true := by
  rw [toDL_eq, List.all_map]
  rw [List.all_eq_true] at h ⊢
  intro x hx
  have := h x hx
  cases x <;> first | rfl | cases this
theorem encs_pure0 {t : Ty} (h : t.sz = 1) (hp : t.pure = true) (xs : List t.den) : (xs.map (encD t)).all D.pure0 = true := by
  rw [List.all_eq_true]
  intro y hy
  obtain ⟨z, _, rfl⟩ := List.mem_map.1 hy
  have h1 := encD_pure hp z
  rw [h] at h1
  have h2 := h1.1
  have h3 := h1.2
  match hc : (encD t z).cells, h2 with
  | [c], _ =>
    rw [hc] at h3
    simp only [List.all_cons, List.all_nil, Bool.and_true] at h3
    by_cases hag : ∃ cs, encD t z = .agg cs
    · obtain ⟨cs, he⟩ := hag
      cases t <;> simp [Ty.sz] at h <;> first | (cases he; done) | (cases z <;> simp [encD, hrD, hpD] at he; done)
    · have := cells_single fun cs hcs => hag ⟨cs, hcs⟩
      rw [this] at hc
      simp only [List.cons.injEq, and_true] at hc
      rw [hc]; exact h3
/-- the elements of a slice -/
def elemsK (h : VH) (v : V) (K : (t : Ty) → List t.den → Prop) : Prop :=
  match v with
  | .lst t xs => K t xs
  | .nils => K (.int .i64) []
  | .ref b => blkK h b fun x => (match x with
    | .row _ t xs => K t xs
    | .froz t xs => K t xs
    | _ => False)
  | .fref k i => blkK h k fun x => (match x with
    | .frow _ t xss => Get xss i fun xs => K t xs
    | _ => False)
  | .hro k o => Opt o (K (.int .i64) []) fun i => blkK h k fun x => (match x with
    | .frow _ t xss => Get xss i fun xs => K t xs
    | _ => False)
  | .vref b o n => blkK h b fun x => (match x with
    | .var _ cs => Chk (cs.all V.pure0) (subK cs o n fun r => intsOf r fun ns => K (.int .i64) ns)
    | .vari _ pre m t xs post => Chk (pre.all V.pure0 && post.all V.pure0 && Nat.beq o pre.length && Nat.beq n m && t.sz == 1 && t.pure) (Need (xs.length = m) (K t xs))
    | _ => False)
  | _ => False
theorem elemsK_ok {h : VH} {v : V} {K : (t : Ty) → List t.den → Prop} (hk : elemsK h v K) : ∃ t, ∃ xs : List (Ty.den t), elems (toH h) v.toD = some (xs.map (encD t)) ∧ K t xs := by
  unfold elemsK at hk
  split at hk
  · exact ⟨_, _, rfl, hk⟩
  · exact ⟨_, _, rfl, hk⟩
  · rename_i b
    obtain ⟨x, h1, h3⟩ := blkK_ok hk
    split at h3
    · rename_i E t xs
      have hl := look_at (i := 0) h1 (d := .row E (xs.map (encD t))) rfl
      exact ⟨_, _, by simp [elems, V.toD, hl], h3⟩
    · rename_i t xs
      have hl := look_at (i := 0) h1 (d := .froz (xs.map (encD t))) rfl
      exact ⟨_, _, by simp [elems, V.toD, hl], h3⟩
    · exact h3.elim
  · rename_i k i
    obtain ⟨x, h1, h3⟩ := blkK_ok hk
    split at h3
    · rename_i E t xss
      obtain ⟨xs, h4, h5⟩ := h3
      have hl := look_at (i := i) h1 (d := .row E (xs.map (encD t))) (by simp only [VB.blks, List.getElem?_map, h4, Option.map_some])
      exact ⟨_, _, by simp [elems, V.toD, hl], h5⟩
    · exact h3.elim
  · rename_i k o
    cases o with
    | none => exact ⟨.int .i64, [], rfl, hk.1 rfl⟩
    | some i =>
      obtain ⟨x, h1, h3⟩ := blkK_ok (hk.2 i rfl)
      split at h3
      · rename_i E t xss
        obtain ⟨xs, h4, h5⟩ := h3
        have hl := look_at (i := i) h1 (d := .row E (xs.map (encD t))) (by simp only [VB.blks, List.getElem?_map, h4, Option.map_some])
        exact ⟨_, _, by simp [elems, V.toD, hrD, hl], h5⟩
      · exact h3.elim
  · rename_i b o n
    obtain ⟨x, h1, h3⟩ := blkK_ok hk
    split at h3
    · rename_i T cs
      have hl := look_at (i := 0) h1 (d := .var T (toDL cs)) rfl
      obtain ⟨c1, h4⟩ := h3.ok
      obtain ⟨h5, h6⟩ := subK_ok h4
      obtain ⟨ns, h7, h8⟩ := intsOf_ok h6
      refine ⟨.int .i64, ns, ?_, h8⟩
      simp only [elems, V.toD, hl]
      rw [if_pos ⟨by rw [toDL_len]; exact h5, all_pure0 _ c1⟩]
      rw [show ns.map (encD (.int .i64)) = ns.map (D.int .i64) from rfl, ← h7]
      simp only [toDL_eq, List.map_take, List.map_drop]
    · rename_i T pre m t xs post
      have hl := look_at (i := 0) h1 (d := .var T (toDL pre ++ xs.map (encD t) ++ toDL post)) rfl
      obtain ⟨c1, h4⟩ := h3.ok
      simp only [Bool.and_eq_true, beq_iff_eq] at c1
      obtain ⟨⟨⟨⟨⟨c1, c2⟩, c3⟩, c4⟩, c5⟩, c6⟩ := c1
      obtain ⟨h5, h6⟩ := h4
      have hp : o = pre.length := Nat.eq_of_beq_eq_true c3
      have hn : n = m := Nat.eq_of_beq_eq_true c4
      refine ⟨t, xs, ?_, h6⟩
      simp only [elems, V.toD, hl]
      have hall : (toDL pre ++ xs.map (encD t) ++ toDL post).all D.pure0 = true := by
        rw [List.all_append, List.all_append, all_pure0 _ c1, all_pure0 _ c2, encs_pure0 c5 c6]
        rfl
      rw [if_pos ⟨by rw [List.length_append, List.length_append, toDL_len, List.length_map]; omega, hall⟩]
      rw [List.append_assoc, hp, ← toDL_len pre, List.drop_left, hn, ← h5]
      rw [show xs.length = (xs.map (encD t)).length by rw [List.length_map], List.take_left]
    · exact h3.elim
  · exact hk.elim
theorem szOr_map (t : Ty) (xs : List t.den) (s : Nat) (h : t.sz = s) : szOr s (xs.map (encD t)) = s := szOr_of fun e he => by
  obtain ⟨x, _, rfl⟩ := List.mem_map.1 he
  rw [(encD_wf t x).1, h]

def lenK (ti : TI) (h : VH) (v : V) (K : V → Prop) : Prop :=
  match ti.k with
  | .str => (match v with | .str s => K (.int .i64 (s.size : Nat)) | _ => False)
  | .slice _ => elemsK h v fun _ xs => K (.int .i64 (xs.length : Nat))
  | _ => False
theorem lenK_ok {P : Program} {T : TypeId} {ti : TI} (ht : ti.ok P T) {h : VH} {v : V} {K : V → Prop} (hk : lenK ti h v K) : ∃ r, aLen P (toH h) T v.toD = some r.toD ∧ K r := by
  have hu := ht.und
  unfold lenK at hk
  split at hk
  · rename_i e
    rw [e] at hu
    split at hk
    · exact ⟨_, by simp only [aLen, show P.underlying T = some .string from hu, V.toD], hk⟩
    · exact hk.elim
  · rename_i E e
    rw [e] at hu
    obtain ⟨t, xs, h1, h2⟩ := elemsK_ok hk
    exact ⟨_, by simp only [aLen, show P.underlying T = some (.slice E) from hu, h1, Option.map_some, List.length_map, V.toD], h2⟩
  · exact hk.elim


/-- an append, its second slice of a kind -/
def appendK (Θ : TT) (ti : TI) (h : VH) (n : Nat) (d1 d2 : V) (K : V → VH → Prop) : Prop :=
  match ti.k with
  | .slice E => lookK Θ E fun ei => Chk (ei.z.isSome && decide (0 < ei.sz)) (elemsK h d2 fun t ys => (match d1 with
    | .ref b => blkK h b fun x => (match x with
      | .row E' t' xs => Chk (E' == E && t'.sz == ei.sz && !Nat.beq b n) (match castL t' t ys with
        | some ys' => Need (fits ei.nb (xs.length + ys'.length)) (K (.ref n) [(b, .gone), (n, .row E t' (xs ++ ys'))])
        | none => False)
      | _ => False)
    | .nils => Chk (t.sz == ei.sz) (match ys with
      | [] => K .nils []
      | y :: ys' => Need (fits ei.nb (ys'.length + 1)) (K (.ref n) [(n, .row E t (y :: ys'))]))
    | _ => False))
  | _ => False
theorem upd_two {h : VH} {b n : Nat} {x y : VB} {d : Blk} (hn : ∀ c : Id, n ≤ c.1 → look (toH h) c = none) (hb : look h b = some x) (hs : x.sgl = true) (hbn : b ≠ n) (hy : y.blks = [d]) : UpdOK h [((b, 0), .gone), ((n, 0), d)] [(b, .gone), (n, y)] := by
  have h1 : UpdOK h [((b, 0), .gone)] [(b, .gone)] := upd_set hb hs rfl
  have h2 : UpdOK (puts [(b, VB.gone)] h) [((n, 0), d)] [(n, y)] := upd_one (fun i hi => by
    rw [← h1.1, look_puts_other _ _ _ (fun z hz e => by obtain rfl := List.mem_singleton.1 hz; simp only [Prod.mk.injEq] at e; exact hbn e.1)]
    exact hn (n, i) (Nat.le_refl _)) hy
  exact upd_app h1 h2
theorem appendK_ok {P : Program} {Θ : TT} (hΘ : Θ.ok P) {T : TypeId} {ti : TI} (ht : ti.ok P T) {h : VH} {n : Nat} (hn : ∀ c : Id, n ≤ c.1 → look (toH h) c = none) {d1 d2 : V} {K : V → VH → Prop} (hk : appendK Θ ti h n d1 d2 K) : ∃ r u vu, aAppend P (toH h) (n, 0) T d1.toD d2.toD = some (r.toD, u) ∧ UpdOK h u vu ∧ K r vu := by
  have hu := ht.und
  unfold appendK at hk
  split at hk
  · rename_i E e
    rw [e] at hu
    obtain ⟨ei, l1, h1⟩ := lookK_ok hk
    have hei := hΘ _ _ l1
    obtain ⟨c, h2⟩ := h1.ok
    simp only [Bool.and_eq_true, decide_eq_true_eq] at c
    obtain ⟨t, ys, h3, h4⟩ := elemsK_ok h2
    have hel := hei.elem c.1 c.2
    unfold aAppend
    simp only [show P.underlying T = some (.slice E) from hu, hel, h3]
    split at h4
    · rename_i b
      obtain ⟨x, b1, h5⟩ := blkK_ok h4
      split at h5
      · rename_i E' t' xs
        obtain ⟨c2, h6⟩ := h5.ok
        simp only [Bool.and_eq_true, beq_iff_eq, Bool.not_eq_true'] at c2
        obtain ⟨⟨rfl, c3⟩, c4⟩ := c2
        have hbn : b ≠ n := by rintro rfl; simp at c4
        split at h6
        · rename_i ys' hc
          have hce := castL_ok hc
          have hl := look_at (i := 0) b1 (d := .row E' (xs.map (encD t'))) rfl
          refine ⟨.ref n, [((b, 0), .gone), ((n, 0), .row E' ((xs ++ ys').map (encD t')))], _, ?_, upd_two hn b1 rfl hbn rfl, h6.2⟩
          rw [hce, if_pos (szOr_map _ _ _ c3)]
          simp only [V.toD, hl]
          rw [if_pos ⟨trivial, by simpa using h6.1⟩]
          simp
        · exact h6.elim
      · exact h5.elim
    · obtain ⟨c3, h6⟩ := h4.ok
      simp only [beq_iff_eq] at c3
      rw [if_pos (szOr_map _ _ _ c3)]
      split at h6
      · exact ⟨.nils, [], [], rfl, upd_nil, h6⟩
      · rename_i y ys'
        refine ⟨.ref n, [((n, 0), .row E ((y :: ys').map (encD t)))], _, ?_, upd_new hn rfl, h6.2⟩
        simp only [V.toD, List.map_cons]
        rw [if_pos (by simpa using h6.1)]
    · exact h4.elim
  · exact hk.elim
def dropN : List V → Nat → (List V → Prop) → Prop
  | l, 0, K => K l
  | [], _ + 1, _ => False
  | _ :: cs, n + 1, K => dropN cs n K
theorem dropN_ok : ∀ {l : List V} {n : Nat} {K : List V → Prop}, dropN l n K → n ≤ l.length ∧ K (l.drop n)
  | l, 0, K, h => ⟨Nat.zero_le _, by cases l <;> simpa [dropN] using h⟩
  | [], _ + 1, _, h => h.elim
  | c :: cs, n + 1, K, h => by
    obtain ⟨h1, h2⟩ := dropN_ok (l := cs) (n := n) h
    exact ⟨by simpa using h1, by simpa using h2⟩

/-- copy into a variable's own cells -/
def copyK (Θ : TT) (ti : TI) (h : VH) (d e : V) (K : V → VH → Prop) : Prop :=
  match ti.k, d with
  | .slice E, .vref b o m => lookK Θ E fun ei => Chk (ei.sz == 1) (elemsK h e fun t ys => Chk (t.sz == 1 && t.pure) (blkK h b fun x => (match x with
    | .var T' cs => takeN cs o fun pre => dropN cs (o + m) fun post => Need (ys.length = m) (K (.int .i64 (ys.length : Nat)) [(b, .vari T' pre m t ys post)])
    | _ => False)))
  | _, _ => False
theorem copyK_ok {P : Program} {Θ : TT} (hΘ : Θ.ok P) {T : TypeId} {ti : TI} (ht : ti.ok P T) {h : VH} {d e : V} {K : V → VH → Prop} (hk : copyK Θ ti h d e K) : ∃ r u vu, aCopy P (toH h) T d.toD e.toD = some (r.toD, u) ∧ UpdOK h u vu ∧ K r vu := by
  have hu := ht.und
  unfold copyK at hk
  split at hk
  · rename_i E b o m ek
    rw [ek] at hu
    obtain ⟨ei, l1, h1⟩ := lookK_ok hk
    have hei := hΘ _ _ l1
    obtain ⟨c, h2⟩ := h1.ok
    simp only [beq_iff_eq] at c
    obtain ⟨t, ys, h3, h4⟩ := elemsK_ok h2
    obtain ⟨c2, h4⟩ := h4.ok
    simp only [Bool.and_eq_true, beq_iff_eq] at c2
    obtain ⟨x, b1, h5⟩ := blkK_ok h4
    split at h5
    · rename_i T' cs
      have hl := look_at (i := 0) b1 (d := .var T' (toDL cs)) rfl
      obtain ⟨g1, h6⟩ := takeN_ok h5
      obtain ⟨g2, h7⟩ := dropN_ok h6
      obtain ⟨h10, h11⟩ := h7
      refine ⟨.int .i64 (ys.length : Nat), [((b, 0), .var T' (toDL (cs.take o) ++ ys.map (encD t) ++ toDL (cs.drop (o + m))))], _, ?_, upd_set b1 rfl rfl, h11⟩
      unfold aCopy
      have hsz : sizeT P E = some 1 := by rw [hei.size, c]
      simp only [show P.underlying T = some (.slice E) from hu, V.toD, hsz, h3, hl]
      have hmin : min (ys.map (encD t)).length m = ys.length := by rw [List.length_map]; omega
      have hall : (ys.map (encD t)).all D.pure0 = true := encs_pure0 c2.1 c2.2 ys
      rw [hmin, if_pos ⟨by rw [toDL_len]; omega, hall⟩, List.take_of_length_le (by rw [List.length_map]; omega)]
      simp only [splice, List.length_map, h10, toDL_eq, List.map_take, List.map_drop]
    · exact h5.elim
  · exact hk.elim

/-! ### addresses -/
def faK (g : Nat × Nat × Nat) (v : V) (K : V → Prop) : Prop :=
  match v with
  | .ptr b o => natK (o + g.2.1) fun o' => K (.ptr b o')
  | .eptr b j o => natK (o + g.2.1) fun o' => K (.eptr b j o')
  | .fptr k i o => natK (o + g.2.1) fun o' => K (.fptr k i o')
  | .feptr k i j o => natK (o + g.2.1) fun o' => K (.feptr k i j o')
  | .iptr t e o => natK (o + g.2.1) fun o' => K (.iptr t e o')
  | .hpo k p => Opt p False fun i => K (.fptr k i g.2.1)
  | .box t e => (match enc t e with
    | .agg _ => K (.iptr t e g.2.1)
    | _ => False)
  | .obo t p => Opt p False fun e => (match enc t e with
    | .agg _ => K (.iptr t e g.2.1)
    | _ => False)
  | _ => False
theorem faK_box {P : Program} {T : TypeId} {i : Nat} {g : Nat × Nat × Nat} (hg : fieldT P T i = some g.2.1) {t : Ty} {e : t.den} {K : V → Prop} (hk : match enc t e with | .agg _ => K (.iptr t e g.2.1) | _ => False) : ∃ r, aField P T i (.box (encD t e).cells) = some r.toD ∧ K r := by
  split at hk
  · rename_i cs hc
    refine ⟨_, ?_, hk⟩
    simp only [V.toD, aField, hg, Option.map_some]
    have := enc_toD t e
    rw [hc] at this
    rw [← this]
    rfl
  · exact hk.elim
theorem faK_ok {P : Program} {T : TypeId} {i : Nat} {g : Nat × Nat × Nat} (hg : fieldT P T i = some g.2.1) {v : V} {K : V → Prop} (hk : faK g v K) : ∃ r, aField P T i v.toD = some r.toD ∧ K r := by
  unfold faK at hk
  split at hk
  · exact ⟨_, by simp only [V.toD, aField, hg, Option.map_some], natK_ok hk⟩
  · exact ⟨_, by simp only [V.toD, aField, hg, Option.map_some], natK_ok hk⟩
  · exact ⟨_, by simp only [V.toD, aField, hg, Option.map_some], natK_ok hk⟩
  · exact ⟨_, by simp only [V.toD, aField, hg, Option.map_some], natK_ok hk⟩
  · exact ⟨_, by simp only [V.toD, aField, hg, Option.map_some], natK_ok hk⟩
  · rename_i k p
    cases p with
    | none => exact (hk.1 rfl).elim
    | some i => exact ⟨.fptr k i g.2.1, by simp only [V.toD, hpD, aField, hg, Option.map_some, Nat.zero_add], hk.2 i rfl⟩
  · exact faK_box hg hk
  · rename_i t p
    cases p with
    | none => exact (hk.1 rfl).elim
    | some e => exact faK_box hg (hk.2 e rfl)
  · exact hk.elim
def mulK (i s : Nat) (K : Nat → Prop) : Prop := match s with | 1 => K i | s => K (i * s)
theorem mulK_ok {i s : Nat} {K : Nat → Prop} (h : mulK i s K) : K (i * s) := by
  unfold mulK at h
  split at h
  · rw [Nat.mul_one]; exact h
  · exact h

def iaK (Θ : TT) (ti : TI) (h : VH) (v : V) (i : Int) (K : V → Prop) : Prop :=
  match ti.k with
  | .slice E => lookK Θ E fun ei => (match v with
    | .ref b => blkK h b fun x => (match x with
      | .row E' t xs => Chk (E' == E) (Need (0 ≤ i ∧ i < (xs.length : Nat)) (K (.eptr b i.toNat 0)))
      | .lit E' vs => Chk (E' == E) (Need (0 ≤ i ∧ i < (vs.length : Nat)) (natK i.toNat fun j => K (.eptr b j 0)))
      | .froz t xs => Chk (t.sz == ei.sz) (Idx xs i fun _ e => K (.iptr t e 0))
      | _ => False)
    | .fref k j => blkK h k fun x => (match x with
      | .frow E' t xss => Chk (E' == E) (Get xss j fun xs => Need (0 ≤ i ∧ i < (xs.length : Nat)) (K (.feptr k j i.toNat 0)))
      | _ => False)
    | .hro k p => Opt p False fun j => blkK h k fun x => (match x with
      | .frow E' t xss => Chk (E' == E) (Get xss j fun xs => Need (0 ≤ i ∧ i < (xs.length : Nat)) (K (.feptr k j i.toNat 0)))
      | _ => False)
    | .lst t xs => Chk (t.sz == ei.sz) (Idx xs i fun _ e => K (.iptr t e 0))
    | _ => False)
  | .arr m E => lookK Θ E fun ei => Need (0 ≤ i ∧ i < (m : Nat)) (match v with
    | .ptr b o => blkK h b fun x => (match x with
      | .vari _ pre _ _ _ _ => (match Nat.beq o pre.length with
        | true => natK pre.length fun p => mulK i.toNat ei.sz fun j => K (.aptr b p j)
        | false => natK (o + i.toNat * ei.sz) fun o' => K (.ptr b o'))
      | _ => natK (o + i.toNat * ei.sz) fun o' => K (.ptr b o'))
    | .aptr b p j => mulK i.toNat ei.sz fun j' => K (.aptr b p (j + j'))
    | .fptr k j o => blkK h k fun x => (match x with
      | .fvari .. => Chk (Nat.beq o 0) (mulK i.toNat ei.sz fun j' => K (.faptr k j 0 j'))
      | _ => natK (o + i.toNat * ei.sz) fun o' => K (.fptr k j o'))
    | .faptr k j p q => mulK i.toNat ei.sz fun j' => K (.faptr k j p (q + j'))
    | .eptr b j o => natK (o + i.toNat * ei.sz) fun o' => K (.eptr b j o')
    | .iptr t e o => natK (o + i.toNat * ei.sz) fun o' => K (.iptr t e o')
    | _ => False)
  | _ => False
theorem idx_lt {α : Type} {xs : List α} {i : Int} {x : α} (h0 : 0 ≤ i) (h : xs[i.toNat]? = some x) : i < (xs.length : Nat) := by
  have := (List.getElem?_eq_some_iff.1 h).1
  omega
theorem iaK_fam {P : Program} {T E E' : TypeId} {s : Nat} (hu' : P.underlying T = some (.slice E)) (hs : sizeT P E = some s) {h : VH} {k j : Nat} {t : Ty} {xss : List (List t.den)} {xs : List t.den} (b1 : look h k = some (.frow E' t xss)) (c : E' = E) (hx : xss[j]? = some xs) {ik : IntKind} {i : Int} (hi : 0 ≤ i ∧ i < (xs.length : Nat)) :
    aIndexAddr P (toH h) T (.ref (k, j)) (.int ik i) = some (V.feptr k j i.toNat 0).toD := by
  subst c
  have hl := look_at (i := j) b1 (d := .row E' (xs.map (encD t))) (by simp only [VB.blks, List.getElem?_map, hx, Option.map_some])
  unfold aIndexAddr
  simp only [hu', hs, elems, hl, List.length_map]
  rw [if_pos hi]
  simp [V.toD]
theorem iaK_ok {P : Program} {Θ : TT} (hΘ : Θ.ok P) {T : TypeId} {ti : TI} (ht : ti.ok P T) {h : VH} {v : V} {k : IntKind} {i : Int} {K : V → Prop} (hk : iaK Θ ti h v i K) : ∃ r, aIndexAddr P (toH h) T v.toD (.int k i) = some r.toD ∧ K r := by
  have hu := ht.und
  unfold iaK at hk
  split at hk
  · rename_i E e
    rw [e] at hu
    have hu' : P.underlying T = some (.slice E) := hu
    obtain ⟨ei, l1, hk⟩ := lookK_ok hk
    have hs := (hΘ _ _ l1).size
    split at hk
    · rename_i b
      obtain ⟨x, b1, h5⟩ := blkK_ok hk
      split at h5
      · rename_i E' t xs
        have hl := look_at (i := 0) b1 (d := .row E' (xs.map (encD t))) rfl
        obtain ⟨c, h6⟩ := h5.ok
        simp only [beq_iff_eq] at c
        subst c
        refine ⟨_, ?_, h6.2⟩
        unfold aIndexAddr
        simp only [hu', hs, elems, V.toD, hl, List.length_map]
        rw [if_pos h6.1]
        simp
      · rename_i E' vs
        have hl := look_at (i := 0) b1 (d := .row E' (toDL vs)) rfl
        obtain ⟨c, h6⟩ := h5.ok
        simp only [beq_iff_eq] at c
        subst c
        refine ⟨_, ?_, natK_ok h6.2⟩
        unfold aIndexAddr
        simp only [hu', hs, elems, V.toD, hl, toDL_len]
        rw [if_pos h6.1]
        simp
      · rename_i t xs
        have hl := look_at (i := 0) b1 (d := .froz (xs.map (encD t))) rfl
        obtain ⟨c, h0, x, hx, h7⟩ := h5.ok
        simp only [beq_iff_eq] at c
        refine ⟨_, ?_, h7⟩
        unfold aIndexAddr
        simp only [hu', hs, elems, V.toD, hl, List.length_map]
        rw [if_pos ⟨h0, idx_lt h0 hx⟩]
        simp only [List.getElem?_map, hx, Option.map_some]
        rw [if_pos (by rw [(encD_wf t x).1, c])]
      · exact h5.elim
    · rename_i k' j
      obtain ⟨x, b1, h5⟩ := blkK_ok hk
      split at h5
      · obtain ⟨c, h6⟩ := h5.ok
        simp only [beq_iff_eq] at c
        obtain ⟨xs, hx, hi, h7⟩ := h6
        exact ⟨_, iaK_fam hu' hs b1 c hx hi, h7⟩
      · exact h5.elim
    · rename_i k' p _
      cases p with
      | none => exact (hk.1 rfl).elim
      | some j =>
        obtain ⟨x, b1, h5⟩ := blkK_ok (hk.2 j rfl)
        split at h5
        · obtain ⟨c, h6⟩ := h5.ok
          simp only [beq_iff_eq] at c
          obtain ⟨xs, hx, hi, h7⟩ := h6
          exact ⟨_, iaK_fam hu' hs b1 c hx hi, h7⟩
        · exact h5.elim
    · rename_i t xs _
      obtain ⟨c, h0, x, hx, h7⟩ := hk.ok
      simp only [beq_iff_eq] at c
      refine ⟨_, ?_, h7⟩
      unfold aIndexAddr
      simp only [hu', hs, elems, V.toD, List.length_map]
      rw [if_pos ⟨h0, idx_lt h0 hx⟩]
      simp only [List.getElem?_map, hx, Option.map_some]
      rw [if_pos (by rw [(encD_wf t x).1, c])]
    · exact hk.elim
  · rename_i m E e
    rw [e] at hu
    have hu' : P.underlying T = some (.array m E) := hu
    obtain ⟨ei, l1, hk⟩ := lookK_ok hk
    have hs := (hΘ _ _ l1).size
    obtain ⟨hc, hk⟩ := hk
    unfold aIndexAddr
    simp only [hu', hs]
    rw [if_pos hc]
    split at hk
    · obtain ⟨x, b1, h5⟩ := blkK_ok hk
      split at h5
      · split at h5
        · rename_i ho
          have ho' := Nat.eq_of_beq_eq_true ho
          exact ⟨_, by simp only [V.toD, ho'], mulK_ok (natK_ok h5)⟩
        · exact ⟨_, by simp only [V.toD], natK_ok h5⟩
      · exact ⟨_, by simp only [V.toD], natK_ok h5⟩
    · exact ⟨_, by simp only [V.toD, Nat.add_assoc], mulK_ok hk⟩
    · obtain ⟨x, b1, h5⟩ := blkK_ok hk
      split at h5
      · obtain ⟨c, h6⟩ := h5.ok
        have ho := Nat.eq_of_beq_eq_true c
        exact ⟨_, by simp only [V.toD, ho], mulK_ok h6⟩
      · exact ⟨_, by simp only [V.toD], natK_ok h5⟩
    · exact ⟨_, by simp only [V.toD, Nat.add_assoc], mulK_ok hk⟩
    · exact ⟨_, by simp only [V.toD], natK_ok hk⟩
    · exact ⟨_, by simp only [V.toD], natK_ok hk⟩
    · exact hk.elim
  · exact hk.elim

/-! ### literals -/
def fillK (fs : List (Nat × Nat × Nat)) (cs : List V) : List (Nat × V) → (List V → Prop) → Prop
  | [], K => K cs
  | (i, v) :: l, K => nthK fs i fun f => Chk (v.whole && lenB' v.cells f.2.2) (splK cs f.2.1 v.cells fun cs' => fillK fs cs' l K)
theorem fillK_ok {fs : List (Nat × Nat × Nat)} : ∀ {ps : List (Nat × V)} {cs : List V} {K : List V → Prop}, fillK fs cs ps K → ∃ cs', dfill (fun i => (fs.map fun f => (f.2.1, f.2.2))[i]?) (toDL cs) (toP ps) = some (toDL cs') ∧ K cs'
  | [], cs, K, h => ⟨cs, rfl, h⟩
  | (i, v) :: l, cs, K, h => by
    obtain ⟨f, h1, h2⟩ := nthK_ok h
    obtain ⟨c, h3⟩ := h2.ok
    simp only [Bool.and_eq_true] at c
    obtain ⟨h4, h5⟩ := splK_ok h3
    obtain ⟨cs', h6, h7⟩ := fillK_ok h5
    have hl := lenB_ok' c.2
    exact ⟨cs', dfill_cons (off := f.2.1) (size := f.2.2) (by rw [List.getElem?_map, h1]; rfl) (by rw [whole_toD]; exact c.1) (by rw [toD_cells, toDL_len]; exact hl) (by rw [toDL_len]; omega) (by rw [toD_cells, toDL_spl]) h6, h7⟩

/-- elements of a literal: of a kind, if they are -/
def keysB : List (Nat × V) → Nat → Bool
  | [], _ => true
  | (i, _) :: l, k => Nat.beq i k && keysB l (k + 1)
def decs (t : Ty) : List (Nat × V) → Option (List t.den)
  | [] => some []
  | (_, v) :: l => match dec t (nzL v), decs t l with
    | some x, some xs => some (x :: xs)
    | _, _ => none
where
  nzL (v : V) : V := match v with
    | .agg cs => .agg (nzVs cs)
    | v => nzV v
theorem nzL_ok (v : V) : (decs.nzL v).toD = nzE v.toD := by
  unfold decs.nzL
  split
  · simp only [V.toD, nzE, nzVs_ok]
  · rename_i hne
    rw [nzV_ok]
    cases v
    case hro k o => cases o <;> rfl
    case hpo k o => cases o <;> rfl
    case obo t o => cases o <;> rfl
    case agg cs => exact absurd rfl (hne _)
    all_goals rfl
theorem decs_ok {t : Ty} : ∀ {l : List (Nat × V)} {xs : List t.den}, decs t l = some xs → ((toP l).map fun x => nzE x.2) = xs.map (encD t)
  | [], xs, h => by simp only [decs, Option.some.injEq] at h; subst h; rfl
  | (i, v) :: l, xs, h => by
    simp only [decs] at h
    split at h
    · rename_i x xs' h1 h2
      simp only [Option.some.injEq] at h
      subst h
      have := decs_ok h2
      simp only [toP, List.map_cons, List.map_map] at this ⊢
      rw [← dec_ok h1, nzL_ok]
      simp only [List.cons.injEq, true_and]
      exact this
    · cases h
theorem keysB_ok : ∀ {l : List (Nat × V)} {k : Nat}, keysB l k = true → (toP l).map (·.1) = List.range' k l.length
  | [], k, _ => rfl
  | (i, v) :: l, k, h => by
    simp only [keysB, Bool.and_eq_true] at h
    have hi : i = k := Nat.eq_of_beq_eq_true h.1
    have := keysB_ok h.2
    simp only [toP, List.map_cons, List.map_map, List.length_cons, List.range'_succ] at this ⊢
    rw [hi]
    exact congrArg (k :: ·) this
end Go.Proofs.Ytkclhekkcffpoaa.Am
