/- The plain machine with types: slices, literals, calls; one operation. -/
import Derived.Test.YtdecnnhcbjhfgaaV3
namespace Go.Proofs.Ytdecnnhcbjhfgaa.Am
set_option linter.unusedSimpArgs false
set_option linter.unusedVariables false
open Go Go.RowKit

def intsOf : List V → (List Int → Prop) → Prop
  | [], K => K []
  | .int .i64 n :: l, K => intsOf l fun r => K (n :: r)
  | _ :: _, _ => False
theorem intsOf_ok : ∀ {l : List V} {K : List Int → Prop}, intsOf l K → ∃ ns : List Int, toDL l = ns.map (D.int .i64) ∧ K ns
  | [], K, h => ⟨[], rfl, h⟩
  | v :: l, K, h => by
    cases v <;> try exact h.elim
    rename_i k n
    cases k <;> try exact h.elim
    obtain ⟨ns, h1, h2⟩ := intsOf_ok (l := l) h
    exact ⟨n :: ns, by simp [toDL, V.toD, h1], h2⟩
theorem encs_pure0 {t : Ty} (h : t.sz = 1) (xs : List t.den) : (xs.map (encD t)).all D.pure0 = true := by
  rw [List.all_eq_true]
  intro y hy
  obtain ⟨z, _, rfl⟩ := List.mem_map.1 hy
  exact enc_pure0 h z
/-- the elements of a slice -/
def elemsK (h : VH) (v : V) (K : (t : Ty) → List t.den → Prop) : Prop :=
  match v with
  | .lst t xs => K t xs
  | .nils => K (.int .i64) []
  | .ref b => blkK h b fun x => (match x with
    | .row _ t xs => K t xs
    | .froz t xs => K t xs
    | _ => False)
  | .vref b o n => blkK h b fun x => (match x with
    | .var _ cs => Chk (cs.all V.pure0) (subK cs o n fun r => intsOf r fun ns => K (.int .i64) ns)
    | .vari _ pre m t xs post => Chk (pre.all V.pure0 && post.all V.pure0 && Nat.beq o pre.length && Nat.beq n m && t.sz == 1) (Need (xs.length = m) (K t xs))
    | _ => False)
  | _ => False
theorem elemsK_ok {h : VH} {v : V} {K : (t : Ty) → List t.den → Prop} (hk : elemsK h v K) : ∃ t, ∃ xs : List (Ty.den t), elems (toH h) v.toD = some (xs.map (encD t)) ∧ K t xs := by
  unfold elemsK at hk
  split at hk
  · exact ⟨_, _, rfl, hk⟩
  · exact ⟨_, _, rfl, hk⟩
  · obtain ⟨x, h1, _, h3⟩ := blkK_ok hk
    split at h3
    · exact ⟨_, _, by simp [elems, V.toD, h1, VB.toD], h3⟩
    · exact ⟨_, _, by simp [elems, V.toD, h1, VB.toD], h3⟩
    · exact h3.elim
  · rename_i b o n
    obtain ⟨x, h1, _, h3⟩ := blkK_ok hk
    split at h3
    · rename_i T cs _
      obtain ⟨c1, h4⟩ := h3.ok
      obtain ⟨h5, h6⟩ := subK_ok h4
      obtain ⟨ns, h7, h8⟩ := intsOf_ok h6
      refine ⟨.int .i64, ns, ?_, h8⟩
      simp only [elems, V.toD, h1, VB.toD]
      rw [if_pos ⟨by rw [toDL_len]; exact h5, all_pure0 _ c1⟩]
      rw [show ns.map (encD (.int .i64)) = ns.map (D.int .i64) from rfl, ← h7]
      simp only [toDL_eq, List.map_take, List.map_drop]
    · rename_i T pre m t xs post _
      obtain ⟨c1, h4⟩ := h3.ok
      simp only [Bool.and_eq_true, beq_iff_eq] at c1
      obtain ⟨⟨⟨⟨c1, c2⟩, c3⟩, c4⟩, c5⟩ := c1
      obtain ⟨h5, h6⟩ := h4
      have hp : o = pre.length := Nat.eq_of_beq_eq_true c3
      have hn : n = m := Nat.eq_of_beq_eq_true c4
      refine ⟨t, xs, ?_, h6⟩
      simp only [elems, V.toD, h1, VB.toD]
      have hall : (toDL pre ++ xs.map (encD t) ++ toDL post).all D.pure0 = true := by
        rw [List.all_append, List.all_append, all_pure0 _ c1, all_pure0 _ c2, encs_pure0 c5]
        rfl
      rw [if_pos ⟨by rw [List.length_append, List.length_append, toDL_len, List.length_map]; omega, hall⟩]
      rw [List.append_assoc, hp, ← toDL_len pre, List.drop_left, hn, ← h5]
      rw [show xs.length = (xs.map (encD t)).length by rw [List.length_map], List.take_left]
    · exact h3.elim
  · exact hk.elim

theorem szOr_map (t : Ty) (xs : List t.den) (s : Nat) (h : t.sz = s) : szOr s (xs.map (encD t)) = s := szOr_of fun e he => by
  obtain ⟨x, _, rfl⟩ := List.mem_map.1 he
  rw [(encD_wf t x).1, h]

def lenK (ti : TI) (h : VH) (v : V) (K : V → Prop) : Prop :=
  match ti.k with
  | .str => (match v with | .str s => K (.int .i64 (s.size : Nat)) | _ => False)
  | .slice _ => elemsK h v fun _ xs => K (.int .i64 (xs.length : Nat))
  | _ => False
theorem lenK_ok {P : Program} {T : TypeId} {ti : TI} (ht : ti.ok P T) {h : VH} {v : V} {K : V → Prop} (hk : lenK ti h v K) : ∃ r, aLen P (toH h) T v.toD = some r.toD ∧ K r := by
  have hu := ht.und
  unfold lenK at hk
  split at hk
  · rename_i e
    rw [e] at hu
    split at hk
    · exact ⟨_, by simp only [aLen, show P.underlying T = some .string from hu, V.toD], hk⟩
    · exact hk.elim
  · rename_i E e
    rw [e] at hu
    obtain ⟨t, xs, h1, h2⟩ := elemsK_ok hk
    exact ⟨_, by simp only [aLen, show P.underlying T = some (.slice E) from hu, h1, Option.map_some, List.length_map, V.toD], h2⟩
  · exact hk.elim

/-- kinds of elements that are held as they stand -/
def appendK (Θ : TT) (ti : TI) (h : VH) (n : Nat) (d1 d2 : V) (K : V → VH → Prop) : Prop :=
  match ti.k with
  | .slice E => lookK Θ E fun ei => Chk (ei.z.isSome && decide (0 < ei.sz)) (elemsK h d2 fun t ys => (match d1 with
    | .ref b => blkK h b fun x => (match x with
      | .row E' t' xs => Chk (E' == E && t'.sz == ei.sz) (match castL t' t ys with
        | some ys' => Need (fits ei.nb (xs.length + ys'.length)) (K (.ref n) [(b, .gone), (n, .row E t' (xs ++ ys'))])
        | none => False)
      | _ => False)
    | .nils => Chk (t.sz == ei.sz) (match ys with
      | [] => K .nils []
      | y :: ys' => Need (fits ei.nb (ys'.length + 1)) (K (.ref n) [(n, .row E t (y :: ys'))]))
    | _ => False))
  | _ => False
theorem appendK_ok {P : Program} {Θ : TT} (hΘ : Θ.ok P) {T : TypeId} {ti : TI} (ht : ti.ok P T) {h : VH} {n : Nat} {d1 d2 : V} {K : V → VH → Prop} (hk : appendK Θ ti h n d1 d2 K) : ∃ r u, aAppend P (toH h) n T d1.toD d2.toD = some (r.toD, toH u) ∧ K r u := by
  have hu := ht.und
  unfold appendK at hk
  split at hk
  · rename_i E e
    rw [e] at hu
    obtain ⟨ei, l1, h1⟩ := lookK_ok hk
    have hei := hΘ _ _ l1
    obtain ⟨c, h2⟩ := h1.ok
    simp only [Bool.and_eq_true, decide_eq_true_eq] at c
    obtain ⟨t, ys, h3, h4⟩ := elemsK_ok h2
    have hel := hei.elem c.1 c.2
    unfold aAppend
    simp only [show P.underlying T = some (.slice E) from hu, hel, h3]
    split at h4
    · rename_i b
      obtain ⟨x, b1, _, h5⟩ := blkK_ok h4
      split at h5
      · rename_i E' t' xs _
        obtain ⟨c2, h6⟩ := h5.ok
        simp only [Bool.and_eq_true, beq_iff_eq] at c2
        obtain ⟨rfl, c3⟩ := c2
        split at h6
        · rename_i ys' hc
          have hce := castL_ok hc
          refine ⟨_, _, ?_, h6.2⟩
          rw [hce, if_pos (szOr_map _ _ _ c3)]
          simp only [V.toD, b1, VB.toD]
          rw [if_pos ⟨trivial, by simpa using h6.1⟩]
          simp [toH, VB.toD]
        · exact h6.elim
      · exact h5.elim
    · obtain ⟨c3, h6⟩ := h4.ok
      simp only [beq_iff_eq] at c3
      rw [if_pos (szOr_map _ _ _ c3)]
      split at h6
      · exact ⟨_, _, rfl, h6⟩
      · rename_i y ys'
        refine ⟨_, _, ?_, h6.2⟩
        simp only [V.toD, List.map_cons]
        rw [if_pos (by simpa using h6.1)]
        simp [toH, VB.toD]
    · exact h4.elim
  · exact hk.elim

def encsK (t : Ty) : List t.den → (List V → Prop) → Prop
  | [], K => K []
  | x :: l, K => encsK t l fun r => K (enc t x :: r)
theorem encsK_ok {t : Ty} : ∀ {l : List t.den} {K : List V → Prop}, encsK t l K → ∃ r, toDL r = l.map (encD t) ∧ K r
  | [], K, h => ⟨[], rfl, h⟩
  | x :: l, K, h => by
    obtain ⟨r, h1, h2⟩ := encsK_ok (l := l) h
    exact ⟨_, by simp [toDL, h1, enc_toD], h2⟩
def dropN : List V → Nat → (List V → Prop) → Prop
  | l, 0, K => K l
  | [], _ + 1, _ => False
  | _ :: cs, n + 1, K => dropN cs n K
theorem dropN_ok : ∀ {l : List V} {n : Nat} {K : List V → Prop}, dropN l n K → n ≤ l.length ∧ K (l.drop n)
  | l, 0, K, h => ⟨Nat.zero_le _, by cases l <;> simpa [dropN] using h⟩
  | [], _ + 1, _, h => h.elim
  | c :: cs, n + 1, K, h => by
    obtain ⟨h1, h2⟩ := dropN_ok (l := cs) (n := n) h
    exact ⟨by simpa using h1, by simpa using h2⟩
/-- copy into a variable's own cells -/
def copyK (Θ : TT) (ti : TI) (h : VH) (d e : V) (K : V → VH → Prop) : Prop :=
  match ti.k, d with
  | .slice E, .vref b o m => lookK Θ E fun ei => Chk (ei.sz == 1) (elemsK h e fun t ys => Chk (t.sz == 1) (blkK h b fun x => (match x with
    | .var T' cs => takeN cs o fun pre => dropN cs (o + m) fun post => Need (ys.length = m) (K (.int .i64 (ys.length : Nat)) [(b, .vari T' pre m t ys post)])
    | _ => False)))
  | _, _ => False
theorem copyK_ok {P : Program} {Θ : TT} (hΘ : Θ.ok P) {T : TypeId} {ti : TI} (ht : ti.ok P T) {h : VH} {d e : V} {K : V → VH → Prop} (hk : copyK Θ ti h d e K) : ∃ r u, aCopy P (toH h) T d.toD e.toD = some (r.toD, toH u) ∧ K r u := by
  have hu := ht.und
  unfold copyK at hk
  split at hk
  · rename_i E b o m ek
    rw [ek] at hu
    obtain ⟨ei, l1, h1⟩ := lookK_ok hk
    have hei := hΘ _ _ l1
    obtain ⟨c, h2⟩ := h1.ok
    simp only [beq_iff_eq] at c
    obtain ⟨t, ys, h3, h4⟩ := elemsK_ok h2
    obtain ⟨c2, h4⟩ := h4.ok
    simp only [beq_iff_eq] at c2
    obtain ⟨x, b1, _, h5⟩ := blkK_ok h4
    split at h5
    · rename_i T' cs _
      obtain ⟨g1, h6⟩ := takeN_ok h5
      obtain ⟨g2, h7⟩ := dropN_ok h6
      obtain ⟨h10, h11⟩ := h7
      refine ⟨_, _, ?_, h11⟩
      unfold aCopy
      have hsz : sizeT P E = some 1 := by rw [hei.size, c]
      simp only [show P.underlying T = some (.slice E) from hu, V.toD, hsz, h3, b1, VB.toD]
      have hmin : min (ys.map (encD t)).length m = ys.length := by rw [List.length_map]; omega
      have hall : (ys.map (encD t)).all D.pure0 = true := encs_pure0 c2 ys
      rw [hmin, if_pos ⟨by rw [toDL_len]; omega, hall⟩, List.take_of_length_le (by rw [List.length_map]; omega)]
      simp only [toH, List.map_cons, List.map_nil, VB.toD, splice, List.length_map, h10, toDL_eq, List.map_take, List.map_drop]
    · exact h5.elim
  · exact hk.elim

/-! ### addresses -/
def faK (g : Nat × Nat × Nat) (v : V) (K : V → Prop) : Prop :=
  match v with
  | .ptr b o => natK (o + g.2.1) fun o' => K (.ptr b o')
  | .eptr b j o => natK (o + g.2.1) fun o' => K (.eptr b j o')
  | .iptr t e o => natK (o + g.2.1) fun o' => K (.iptr t e o')
  | .box t e => (match enc t e with
    | .agg _ => K (.iptr t e g.2.1)
    | _ => False)
  | _ => False
theorem faK_ok {P : Program} {T : TypeId} {i : Nat} {g : Nat × Nat × Nat} (hg : fieldT P T i = some g.2.1) {v : V} {K : V → Prop} (hk : faK g v K) : ∃ r, aField P T i v.toD = some r.toD ∧ K r := by
  unfold faK at hk
  split at hk
  · exact ⟨_, by simp only [V.toD, aField, hg, Option.map_some], natK_ok hk⟩
  · exact ⟨_, by simp only [V.toD, aField, hg, Option.map_some], natK_ok hk⟩
  · exact ⟨_, by simp only [V.toD, aField, hg, Option.map_some], natK_ok hk⟩
  · rename_i t e
    split at hk
    · rename_i cs hc
      refine ⟨_, ?_, hk⟩
      simp only [V.toD, aField, hg, Option.map_some]
      have := enc_toD t e
      rw [hc] at this
      rw [← this]
      rfl
    · exact hk.elim
  · exact hk.elim
def mulK (i s : Nat) (K : Nat → Prop) : Prop := match s with | 1 => K i | s => K (i * s)
theorem mulK_ok {i s : Nat} {K : Nat → Prop} (h : mulK i s K) : K (i * s) := by
  unfold mulK at h
  split at h
  · rw [Nat.mul_one]; exact h
  · exact h
def iaK (Θ : TT) (ti : TI) (h : VH) (v : V) (i : Int) (K : V → Prop) : Prop :=
  match ti.k with
  | .slice E => lookK Θ E fun ei => (match v with
    | .ref b => blkK h b fun x => (match x with
      | .row E' t xs => Chk (E' == E) (Need (0 ≤ i ∧ i < (xs.length : Nat)) (K (.eptr b i.toNat 0)))
      | .froz t xs => Chk (t.sz == ei.sz) (Idx xs i fun _ e => K (.iptr t e 0))
      | _ => False)
    | .lst t xs => Chk (t.sz == ei.sz) (Idx xs i fun _ e => K (.iptr t e 0))
    | _ => False)
  | .arr m E => lookK Θ E fun ei => Need (0 ≤ i ∧ i < (m : Nat)) (match v with
    | .ptr b o => blkK h b fun x => (match x with
      | .vari _ pre _ _ _ _ => (match Nat.beq o pre.length with
        | true => natK pre.length fun p => mulK i.toNat ei.sz fun j => K (.aptr b p j)
        | false => natK (o + i.toNat * ei.sz) fun o' => K (.ptr b o'))
      | _ => natK (o + i.toNat * ei.sz) fun o' => K (.ptr b o'))
    | .aptr b p j => mulK i.toNat ei.sz fun j' => K (.aptr b p (j + j'))
    | .eptr b j o => natK (o + i.toNat * ei.sz) fun o' => K (.eptr b j o')
    | .iptr t e o => natK (o + i.toNat * ei.sz) fun o' => K (.iptr t e o')
    | _ => False)
  | _ => False
theorem idx_lt {α : Type} {xs : List α} {i : Int} {x : α} (h0 : 0 ≤ i) (h : xs[i.toNat]? = some x) : i < (xs.length : Nat) := by
  have := (List.getElem?_eq_some_iff.1 h).1
  omega
theorem iaK_ok {P : Program} {Θ : TT} (hΘ : Θ.ok P) {T : TypeId} {ti : TI} (ht : ti.ok P T) {h : VH} {v : V} {k : IntKind} {i : Int} {K : V → Prop} (hk : iaK Θ ti h v i K) : ∃ r, aIndexAddr P (toH h) T v.toD (.int k i) = some r.toD ∧ K r := by
  have hu := ht.und
  unfold iaK at hk
  split at hk
  · rename_i E e
    rw [e] at hu
    have hu' : P.underlying T = some (.slice E) := hu
    obtain ⟨ei, l1, hk⟩ := lookK_ok hk
    have hs := (hΘ _ _ l1).size
    split at hk
    · rename_i b
      obtain ⟨x, b1, _, h5⟩ := blkK_ok hk
      split at h5
      · rename_i E' t xs _
        obtain ⟨c, h6⟩ := h5.ok
        simp only [beq_iff_eq] at c
        subst c
        refine ⟨_, ?_, h6.2⟩
        unfold aIndexAddr
        simp only [hu', hs, elems, V.toD, b1, VB.toD, List.length_map]
        rw [if_pos h6.1]
        simp
      · rename_i t xs _
        obtain ⟨c, h0, x, hx, h7⟩ := h5.ok
        simp only [beq_iff_eq] at c
        refine ⟨_, ?_, h7⟩
        unfold aIndexAddr
        simp only [hu', hs, elems, V.toD, b1, VB.toD, List.length_map]
        rw [if_pos ⟨h0, idx_lt h0 hx⟩]
        simp only [List.getElem?_map, hx, Option.map_some]
        rw [if_pos (by rw [(encD_wf t x).1, c])]
      · exact h5.elim
    · rename_i t xs _
      obtain ⟨c, h0, x, hx, h7⟩ := hk.ok
      simp only [beq_iff_eq] at c
      refine ⟨_, ?_, h7⟩
      unfold aIndexAddr
      simp only [hu', hs, elems, V.toD, List.length_map]
      rw [if_pos ⟨h0, idx_lt h0 hx⟩]
      simp only [List.getElem?_map, hx, Option.map_some]
      rw [if_pos (by rw [(encD_wf t x).1, c])]
    · exact hk.elim
  · rename_i m E e
    rw [e] at hu
    have hu' : P.underlying T = some (.array m E) := hu
    obtain ⟨ei, l1, hk⟩ := lookK_ok hk
    have hs := (hΘ _ _ l1).size
    obtain ⟨hc, hk⟩ := hk
    unfold aIndexAddr
    simp only [hu', hs]
    rw [if_pos hc]
    split at hk
    · obtain ⟨x, b1, _, h5⟩ := blkK_ok hk
      split at h5
      · split at h5
        · rename_i ho
          have ho' := Nat.eq_of_beq_eq_true ho
          exact ⟨_, by simp only [V.toD, ho'], mulK_ok (natK_ok h5)⟩
        · exact ⟨_, by simp only [V.toD], natK_ok h5⟩
      · exact ⟨_, by simp only [V.toD], natK_ok h5⟩
    · exact ⟨_, by simp only [V.toD, Nat.add_assoc], mulK_ok hk⟩
    · exact ⟨_, by simp only [V.toD], natK_ok hk⟩
    · exact ⟨_, by simp only [V.toD], natK_ok hk⟩
    · exact hk.elim
  · exact hk.elim

/-! ### literals -/
def fillK (fs : List (Nat × Nat × Nat)) (cs : List V) : List (Nat × V) → (List V → Prop) → Prop
  | [], K => K cs
  | (i, v) :: l, K => nthK fs i fun f => Chk (v.whole && lenB v.cells f.2.2) (splK cs f.2.1 v.cells fun cs' => fillK fs cs' l K)
theorem fillK_ok {fs : List (Nat × Nat × Nat)} : ∀ {ps : List (Nat × V)} {cs : List V} {K : List V → Prop}, fillK fs cs ps K → ∃ cs', dfill (fun i => (fs.map fun f => (f.2.1, f.2.2))[i]?) (toDL cs) (toP ps) = some (toDL cs') ∧ K cs'
  | [], cs, K, h => ⟨cs, rfl, h⟩
  | (i, v) :: l, cs, K, h => by
    obtain ⟨f, h1, h2⟩ := nthK_ok h
    obtain ⟨c, h3⟩ := h2.ok
    simp only [Bool.and_eq_true] at c
    obtain ⟨h4, h5⟩ := splK_ok h3
    obtain ⟨cs', h6, h7⟩ := fillK_ok h5
    have hl := lenB_ok c.2
    exact ⟨cs', dfill_cons (off := f.2.1) (size := f.2.2) (by rw [List.getElem?_map, h1]; rfl) (by rw [whole_toD]; exact c.1) (by rw [toD_cells, toDL_len]; exact hl) (by rw [toDL_len]; omega) (by rw [toD_cells, toDL_spl]) h6, h7⟩
/-- elements of a literal -/
def bsK (t : Ty) (h : VH) : List (Nat × V) → Nat → (List t.den → List Nat → Prop) → Prop
  | [], _, K => K [] []
  | (i, v) :: l, k, K => Chk (Nat.beq i k) (purK h v fun v' is => decK t v' fun x => bsK t h l (k + 1) fun xs is' => K (x :: xs) (is ++ is'))
theorem bsK_ok {t : Ty} {h : VH} : ∀ {ps : List (Nat × V)} {k : Nat} {K : List t.den → List Nat → Prop}, bsK t h ps k K → ∃ xs is ds, ((toP ps).mapM fun x => (pur (toH h) x.2).map fun d => (x.1, d)) = some ds ∧ ds.map (·.1) = List.range' k ds.length ∧ ds.map (·.2) = xs.map (encD t) ∧ (toP ps).flatMap (fun x => ids x.2) = is ∧ ds.length = ps.length ∧ K xs is
  | [], k, K, hk => ⟨[], [], [], rfl, rfl, rfl, rfl, rfl, hk⟩
  | (i, v) :: l, k, K, hk => by
    obtain ⟨c, h1⟩ := hk.ok
    have hi : i = k := Nat.eq_of_beq_eq_true c
    obtain ⟨v', is, p1, p2, h2⟩ := purK_ok h1
    obtain ⟨x, h3, h4⟩ := decK_ok h2
    obtain ⟨xs, is', ds, q1, q2, q3, q4, q5, q6⟩ := bsK_ok h4
    refine ⟨x :: xs, is ++ is', (i, v'.toD) :: ds, ?_, ?_, ?_, ?_, by simp [q5], q6⟩
    · simp only [toP, List.map_cons, List.mapM_cons, p1] at q1 ⊢
      simp [q1]
    · simp [q2, hi, List.range'_succ]
    · simp [q3, h3]
    · simp only [toP] at q4 ⊢
      simp [p2, q4]

/-! ### calls -/
def ConV (P : Program) (f : FuncId) (vs : List V) (hin : List VB) (r : V) (hout : List VB) : Prop := Con P f (toDL vs) (hin.map VB.toD) r.toD (hout.map VB.toD)
/-- a call: what it gives -/
def CallM (P : Program) (f : FuncId) (vs : List V) (hin : List VB) (K : V → List VB → Prop) : Prop := ∃ r hout, ConV P f vs hin r hout ∧ K r hout

def V.noA : V → Bool
  | .aptr .. => false
  | _ => true
def ptrsV : List V → List Nat
  | [] => []
  | .ptr b 0 :: l => b :: ptrsV l
  | _ :: l => ptrsV l
theorem ptrsV_ok : ∀ l : List V, l.all V.noA = true → ptrsOf (toDL l) = ptrsV l
  | [], _ => rfl
  | v :: l, hl => by
    simp only [List.all_cons, Bool.and_eq_true] at hl
    have ih := ptrsV_ok l hl.2
    cases v with
    | aptr b p i => exact absurd hl.1 (by simp [V.noA])
    | ptr b o =>
      cases o with
      | zero => simp only [ptrsOf, toDL, V.toD, ptrsV, List.filterMap_cons] at ih ⊢; rw [ih]
      | succ o => simp only [ptrsOf, toDL, V.toD, ptrsV, List.filterMap_cons] at ih ⊢; rw [ih]
    | _ => simp only [ptrsOf, toDL, V.toD, ptrsV, List.filterMap_cons] at ih ⊢; rw [ih]
theorem pur0_pure0 {h : List (Nat × Blk)} {d : D} (hp : d.pure0 = true) (hn : d ≠ .nils) : pur0 h d = some d := by
  cases d <;> first | exact absurd rfl hn | (simp [pur0, D.pure0]; done) | cases hp
def argK (h : VH) (ps : List Nat) (v : V) (K : V → List Nat → Prop) : Prop :=
  match v with
  | .ptr b 0 => natK (ps.idxOf b) fun i => K (.ptr i 0) []
  | v => purK h v K
theorem argK_ok {h : VH} {ps : List Nat} {v : V} {K : V → List Nat → Prop} (hk : argK h ps v K) : ∃ v' is, argOf (toH h) ps v.toD = some v'.toD ∧ ids v.toD = is ∧ K v' is := by
  unfold argK at hk
  split at hk
  · exact ⟨_, _, rfl, rfl, natK_ok hk⟩
  · rename_i hne
    obtain ⟨v', is, h1, h2, h3⟩ := purK_ok hk
    refine ⟨v', is, ?_, h2, h3⟩
    cases v with
    | ptr b o =>
      cases o with
      | zero => exact absurd rfl (hne _)
      | succ o => exact h1
    | aptr b p i => exact hk.elim
    | _ => exact h1
def argsK (h : VH) (ps : List Nat) : List V → (List V → List Nat → Prop) → Prop
  | [], K => K [] []
  | v :: l, K => argK h ps v fun v' is => argsK h ps l fun l' is' => K (v' :: l') (is ++ is')
theorem argsK_ok {h : VH} {ps : List Nat} : ∀ {l : List V} {K : List V → List Nat → Prop}, argsK h ps l K → ∃ l' is, (toDL l).mapM (argOf (toH h) ps) = some (toDL l') ∧ (toDL l).flatMap ids = is ∧ K l' is
  | [], K, hk => ⟨[], [], rfl, rfl, hk⟩
  | v :: l, K, hk => by
    obtain ⟨v', is, h1, h2, h3⟩ := argK_ok hk
    obtain ⟨l', is', h4, h5, h6⟩ := argsK_ok h3
    exact ⟨v' :: l', is ++ is', by simp [toDL, List.mapM_cons, h1, h4], by simp [toDL, h2, h5], h6⟩
theorem mapM_app {α β : Type} {f : α → Option β} : ∀ {l m : List α} {l' m' : List β}, l.mapM f = some l' → m.mapM f = some m' → (l ++ m).mapM f = some (l' ++ m')
  | [], m, l', m', h1, h2 => by
    simp at h1
    subst h1
    simpa using h2
  | a :: l, m, l', m', h1, h2 => by
    simp only [List.mapM_cons, Option.bind_eq_bind, Option.bind_eq_some_iff, Option.pure_def, Option.some.injEq] at h1
    obtain ⟨b, h3, l2, h4, rfl⟩ := h1
    simp [List.mapM_cons, h3, mapM_app h4 h2]
/-- the blocks that are handed over -/
def hinK (h : VH) : List Nat → (List VB → List Nat → Prop) → Prop
  | [], K => K [] []
  | b :: ps, K => blkK h b fun x => match x with
    | .var T cs => pursK h cs fun cs' is => hinK h ps fun l is' => K (.var T cs' :: l) (is ++ is')
    | .vari T pre m t xs post => Chk (t.sz == 1) (pursK h pre fun pre' is => pursK h post fun post' is2 => hinK h ps fun l is' => K (.vari T pre' m t xs post' :: l) ((is ++ is2) ++ is'))
    | _ => False
theorem hinK_ok {h : VH} : ∀ {ps : List Nat} {K : List VB → List Nat → Prop}, hinK h ps K → ∃ l is, (ps.mapM fun b => (look (toH h) b).bind (purB (toH h))) = some (l.map VB.toD) ∧ (ps.flatMap fun b => ((look (toH h) b).map idsB).getD []) = is ∧ K l is
  | [], K, hk => ⟨[], [], rfl, rfl, hk⟩
  | b :: ps, K, hk => by
    obtain ⟨x, b1, _, h2⟩ := blkK_ok hk
    split at h2
    · rename_i T cs _
      obtain ⟨cs', is, h3, h4, h5, h6⟩ := pursK_ok h2
      obtain ⟨l, is', h7, h8, h9⟩ := hinK_ok h6
      exact ⟨_, _, by simp [List.mapM_cons, b1, VB.toD, purB, h3, h7], by simp [b1, VB.toD, idsB, h4, h8], h9⟩
    · rename_i T pre m t xs post _
      obtain ⟨c, h2⟩ := h2.ok
      simp only [beq_iff_eq] at c
      obtain ⟨pre', is, p1, p2, p3, h2⟩ := pursK_ok h2
      obtain ⟨post', is2, q1, q2, q3, h2⟩ := pursK_ok h2
      obtain ⟨l, is', h7, h8, h9⟩ := hinK_ok h2
      have e1 : (xs.map (encD t)).mapM (pur0 (toH h)) = some (xs.map (encD t)) := by
        have := mapM_some (f := pur0 (toH h)) (g := id) (l := xs.map (encD t)) fun d hd => by
          obtain ⟨z, _, rfl⟩ := List.mem_map.1 hd
          exact pur0_pure0 (enc_pure0 c z) (by cases t <;> simp [encD])
        simpa using this
      have e2 : (xs.map (encD t)).flatMap ids0 = [] := by
        rw [List.flatMap_eq_nil_iff]
        intro d hd
        obtain ⟨z, _, rfl⟩ := List.mem_map.1 hd
        cases t <;> rfl
      refine ⟨_, _, ?_, ?_, h9⟩
      · have e3 : (toDL pre ++ xs.map (encD t) ++ toDL post).mapM (pur0 (toH h)) = some (toDL pre' ++ xs.map (encD t) ++ toDL post') := by
          exact mapM_app (mapM_app p1 e1) q1
        simp only [List.mapM_cons, b1, VB.toD, purB, Option.bind_some, e3, Option.map_some, h7]
        rfl
      · simp [b1, VB.toD, idsB, p2, q2, e2, h8]
    · exact h2.elim
mutual
def noMemV : V → Bool
  | .lst .. | .box .. | .iptr .. => false
  | .agg cs => noMemVs cs
  | .tup cs => noMemVs cs
  | _ => true
def noMemVs : List V → Bool
  | [] => true
  | v :: l => noMemV v && noMemVs l
end
mutual
theorem noMemV_ok : ∀ v : V, noMem v.toD = noMemV v
  | .lst .. | .box .. | .iptr .. | .int .. | .bool _ | .tt | .ff | .str _ | .nilp | .nils | .ref _ | .ptr .. | .eptr .. | .vref .. | .aptr .. | .undef => rfl
  | .agg cs => by simp only [V.toD, noMem, noMemV, noMemVs_ok cs]
  | .tup cs => by simp only [V.toD, noMem, noMemV, noMemVs_ok cs]
theorem noMemVs_ok : ∀ l : List V, noMemL (toDL l) = noMemVs l
  | [] => rfl
  | v :: l => by simp only [toDL, noMemL, noMemVs, noMemV_ok v, noMemVs_ok l]
end
/-- no slice or pointer within an element -/
def Ty.flat : Ty → Bool
  | .int _ | .bool | .str | .txn | .slt => true
  | _ => false
theorem flat_noMem {t : Ty} (h : t.flat = true) (x : t.den) : (encD t x).cells.all noMem = true := by cases t <;> first | rfl | cases h
theorem flat_noMem' {t : Ty} (h : t.flat = true) (x : t.den) : noMem (encD t x) = true := by cases t <;> first | rfl | cases h
def noMemVB : VB → Bool
  | .var _ cs => noMemVs cs
  | .vari _ pre _ t _ post => noMemVs pre && noMemVs post && t.flat
  | .row _ t _ => t.flat
  | .froz _ _ => false
  | .gone => true
theorem noMemVB_ok {x : VB} (h : noMemVB x = true) : noMemB x.toD = true := by
  cases x with
  | var T cs => simp only [VB.toD, noMemB, ← noMemL_all, noMemVs_ok]; exact h
  | vari T pre m t xs post =>
    simp only [noMemVB, Bool.and_eq_true] at h
    simp only [VB.toD, noMemB, List.all_append, ← noMemL_all, noMemVs_ok, h.1.1, h.1.2, Bool.true_and, Bool.and_true]
    rw [noMemL_all, List.all_eq_true]
    intro e he
    obtain ⟨x, _, rfl⟩ := List.mem_map.1 he
    exact flat_noMem' h.2 x
  | row E t xs =>
    simp only [VB.toD, noMemB, List.all_eq_true]
    intro e he
    obtain ⟨x, _, rfl⟩ := List.mem_map.1 he
    have := flat_noMem h x
    rw [List.all_eq_true] at this
    exact this
  | froz t xs => cases h
  | gone => rfl
mutual
def renK (g : Nat → Nat) (v : V) (K : V → Prop) : Prop :=
  match v with
  | .ref b => natK (g b) fun b => K (.ref b)
  | .vref b o n => natK (g b) fun b => K (.vref b o n)
  | .ptr b o => natK (g b) fun b => K (.ptr b o)
  | .eptr b i o => natK (g b) fun b => K (.eptr b i o)
  | .aptr b p i => natK (g b) fun b => K (.aptr b p i)
  | .agg cs => rensK g cs fun cs => K (.agg cs)
  | .tup cs => rensK g cs fun cs => K (.tup cs)
  | .int k n => K (.int k n)
  | .bool b => K (.bool b)
  | .tt => K .tt
  | .ff => K .ff
  | .str s => K (.str s)
  | .lst t xs => K (.lst t xs)
  | .box t x => K (.box t x)
  | .nilp => K .nilp
  | .nils => K .nils
  | .iptr t x o => K (.iptr t x o)
  | .undef => K .undef
def rensK (g : Nat → Nat) (l : List V) (K : List V → Prop) : Prop :=
  match l with
  | [] => K []
  | v :: l => renK g v fun v => rensK g l fun l => K (v :: l)
end
mutual
theorem renK_ok {g : Nat → Nat} : ∀ {v : V} {K : V → Prop}, renK g v K → ∃ r, renD g v.toD = r.toD ∧ K r
  | .ref b, K, h => ⟨_, rfl, natK_ok (by simpa only [renK] using h)⟩
  | .vref b o n, K, h => ⟨_, rfl, natK_ok (by simpa only [renK] using h)⟩
  | .ptr b o, K, h => ⟨_, rfl, natK_ok (by simpa only [renK] using h)⟩
  | .eptr b i o, K, h => ⟨_, rfl, natK_ok (by simpa only [renK] using h)⟩
  | .aptr b p i, K, h => ⟨_, rfl, natK_ok (by simpa only [renK] using h)⟩
  | .agg cs, K, h => by
    simp only [renK] at h
    obtain ⟨r, h1, h2⟩ := rensK_ok h
    exact ⟨_, by simp only [V.toD, renD, h1], h2⟩
  | .tup cs, K, h => by
    simp only [renK] at h
    obtain ⟨r, h1, h2⟩ := rensK_ok h
    exact ⟨_, by simp only [V.toD, renD, h1], h2⟩
  | .int k n, K, h => ⟨_, rfl, by simpa only [renK] using h⟩
  | .bool b, K, h => ⟨_, rfl, by simpa only [renK] using h⟩
  | .tt, K, h => ⟨_, rfl, by simpa only [renK] using h⟩
  | .ff, K, h => ⟨_, rfl, by simpa only [renK] using h⟩
  | .str s, K, h => ⟨_, rfl, by simpa only [renK] using h⟩
  | .lst t xs, K, h => ⟨_, rfl, by simpa only [renK] using h⟩
  | .box t x, K, h => ⟨_, rfl, by simpa only [renK] using h⟩
  | .nilp, K, h => ⟨_, rfl, by simpa only [renK] using h⟩
  | .nils, K, h => ⟨_, rfl, by simpa only [renK] using h⟩
  | .iptr t x o, K, h => ⟨_, rfl, by simpa only [renK] using h⟩
  | .undef, K, h => ⟨_, rfl, by simpa only [renK] using h⟩
theorem rensK_ok {g : Nat → Nat} : ∀ {l : List V} {K : List V → Prop}, rensK g l K → ∃ r, renL g (toDL l) = toDL r ∧ K r
  | [], K, h => ⟨[], rfl, by simpa only [rensK] using h⟩
  | v :: l, K, h => by
    simp only [rensK] at h
    obtain ⟨v', h1, h2⟩ := renK_ok h
    obtain ⟨l', h3, h4⟩ := rensK_ok h2
    exact ⟨v' :: l', by simp only [toDL, renL, h1, h3], h4⟩
end
def renBK (g : Nat → Nat) (x : VB) (K : VB → Prop) : Prop :=
  match x with
  | .var T cs => rensK g cs fun cs => K (.var T cs)
  | .vari T pre m t xs post => Chk (t.sz == 1) (rensK g pre fun pre => rensK g post fun post => K (.vari T pre m t xs post))
  | .row E t xs => K (.row E t xs)
  | .froz t xs => K (.froz t xs)
  | .gone => K .gone
theorem renBK_ok {g : Nat → Nat} {x : VB} {K : VB → Prop} (h : renBK g x K) : ∃ y, renB g x.toD = y.toD ∧ K y := by
  unfold renBK at h
  split at h
  · obtain ⟨r, h1, h2⟩ := rensK_ok h
    exact ⟨_, by simp only [VB.toD, renB, ← renL_eq, h1], h2⟩
  · rename_i T pre m t xs post
    obtain ⟨c, h⟩ := h.ok
    simp only [beq_iff_eq] at c
    obtain ⟨r, h1, h2⟩ := rensK_ok h
    obtain ⟨r2, h3, h4⟩ := rensK_ok h2
    refine ⟨_, ?_, h4⟩
    rw [renL_eq] at h1 h3
    have e : (xs.map (encD t)).map (renD g) = xs.map (encD t) := by
      rw [List.map_map]
      exact List.map_congr_left fun x _ => by cases t <;> first | rfl | cases c
    simp only [VB.toD, renB, List.map_append, h1, h3, e]
  · exact ⟨_, rfl, h⟩
  · exact ⟨_, rfl, h⟩
  · exact ⟨_, rfl, h⟩
def newsK (g : Nat → Nat) : List VB → Nat → (VH → Prop) → Prop
  | [], _, K => K []
  | x :: l, i, K => renBK g x fun y => natK (g i) fun b => newsK g l (i + 1) fun u => K ((b, y) :: u)
theorem newsK_ok {g : Nat → Nat} : ∀ {l : List VB} {i : Nat} {K : VH → Prop}, newsK g l i K → ∃ u, (((l.map VB.toD).zipIdx i).map fun x => (g x.2, renB g x.1)) = toH u ∧ K u
  | [], i, K, h => ⟨[], rfl, h⟩
  | x :: l, i, K, h => by
    obtain ⟨y, h1, h2⟩ := renBK_ok h
    obtain ⟨u, h3, h4⟩ := newsK_ok (natK_ok h2)
    exact ⟨(g i, y) :: u, by simp [List.zipIdx_cons, h1, h3, toH], h4⟩
def callK (P : Program) (h : VH) (n : Nat) (f : FuncId) (vs : List V) (K : V → VH → Prop) : Prop :=
  Chk (decide (ptrsV vs).Nodup && vs.all V.noA) (argsK h (ptrsV vs) vs fun vs' is => hinK h (ptrsV vs) fun hin is' => CallM P f vs' hin fun r hout =>
    renK (nameOf (ptrsV vs) n) r fun r' => newsK (nameOf (ptrsV vs) n) hout 0 fun u =>
      match noMemV r && hout.all noMemVB with
      | true => K r' u
      | false => Chk (!(noMemV r && (hout.map VB.toD).all noMemB)) (frzK h (is ++ is') fun u0 => K r' (u0 ++ u)))
theorem callK_ok {P : Program} {h : VH} {n : Nat} {f : FuncId} {vs : List V} {K : V → VH → Prop} (hk : callK P h n f vs K) : ∃ F r u, Sound P f F ∧ aCall F (toH h) n (toDL vs) = some (r.toD, toH u) ∧ K r u := by
  obtain ⟨c, h1⟩ := hk.ok
  simp only [Bool.and_eq_true, decide_eq_true_eq] at c
  obtain ⟨c, cna⟩ := c
  have hptrs := ptrsV_ok vs cna
  obtain ⟨vs', is, a1, a2, h2⟩ := argsK_ok h1
  obtain ⟨hin, is', b1, b2, r, hout, ⟨F, hF, hr⟩, h3⟩ := hinK_ok h2
  obtain ⟨r', r1, h4⟩ := renK_ok h3
  obtain ⟨u, n1, h5⟩ := newsK_ok h4
  refine ⟨F, r', ?_⟩
  have hnews : news (ptrsV vs) n (hout.map VB.toD) = toH u := n1
  split at h5
  · rename_i hm
    refine ⟨u, hF, ?_, h5⟩
    simp only [Bool.and_eq_true, List.all_eq_true] at hm
    have hm' : (noMem r.toD && (hout.map VB.toD).all noMemB) = true := by
      simp only [Bool.and_eq_true, List.all_eq_true]
      refine ⟨by rw [noMemV_ok]; exact hm.1, fun x hx => ?_⟩
      obtain ⟨y, hy, rfl⟩ := List.mem_map.1 hx
      exact noMemVB_ok (hm.2 y hy)
    unfold aCall
    simp only [hptrs, a1, b1, if_pos c, hr, hm', r1, hnews, if_true]
  · obtain ⟨c2, h6⟩ := h5.ok
    obtain ⟨u0, f1, h7⟩ := frzK_ok h6
    refine ⟨u0 ++ u, hF, ?_, h7⟩
    have hm' : (noMem r.toD && (hout.map VB.toD).all noMemB) = false := by rw [noMemV_ok]; rw [Bool.not_eq_true'] at c2; exact c2
    unfold aCall
    simp only [hptrs, a1, b1, if_pos c, hr, hm', r1, hnews, a2, b2, f1, toH_append]
    simp
end Go.Proofs.Ytdecnnhcbjhfgaa.Am
