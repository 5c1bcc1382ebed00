/- Committees and graphs: plain laws. -/
import Derived.Test.YtkclhekkcffpoaaU24
namespace Go.Proofs.Ytkclhekkcffpoaa.Am
set_option linter.unusedSimpArgs false
set_option linter.unusedVariables false
open Go

/-! ### checks of a range -/
def allTo (n : Nat) (p : Nat → Bool) : Bool := (List.range n).all p
theorem allTo_iff {n : Nat} {p : Nat → Bool} : allTo n p = true ↔ ∀ j, j < n → p j = true := by simp [allTo]
theorem allTo_t {n : Nat} {p : Nat → Bool} (h : ∀ j, j < n → p j = true) : allTo n p = true := allTo_iff.2 h
theorem allTo_f {n j : Nat} {p : Nat → Bool} (hj : j < n) (h : p j = false) : allTo n p = false := by
  rw [Bool.eq_false_iff]
  intro ha
  rw [allTo_iff.1 ha j hj] at h
  cases h
theorem all_step {i : Nat} {p : Nat → Bool} (h : ∀ j, j < i → p j = true) (hi : p i = true) : ∀ j, j < i + 1 → p j = true := by
  intro j hj
  rcases Nat.lt_or_ge j i with hl | hg
  · exact h j hl
  · obtain rfl : j = i := by omega
    exact hi
theorem getD_of {α : Type} {l : List α} {i : Nat} {x d : α} (h : l[i]? = some x) : l.getD i d = x := by rw [List.getD_eq_getElem?_getD, h]; rfl
theorem gd_mem {α : Type} {l : List α} {i : Nat} {d : α} (h : i < l.length) : l.getD i d ∈ l := by rw [List.getD_eq_getElem?_getD, List.getElem?_eq_getElem h]; exact List.getElem_mem h
theorem mem_getD {α : Type} {l : List α} {x d : α} (h : x ∈ l) : ∃ i, i < l.length ∧ l.getD i d = x := by
  obtain ⟨i, hi, rfl⟩ := List.getElem_of_mem h
  exact ⟨i, hi, by rw [List.getD_eq_getElem?_getD, List.getElem?_eq_getElem hi]; rfl⟩

/-! ### committees -/
def vIn (n lo hi : Int) : Bool := decide (lo ≤ n) && decide (n ≤ hi)
theorem vIn_iff {n lo hi : Int} : vIn n lo hi = true ↔ lo ≤ n ∧ n ≤ hi := by simp [vIn]
def comV (c : List Int) : Bool := allTo c.length (fun i => vIn (c.getD i 0) 1 9) && vIn c.length 1 7
theorem comV_iff {c : List Int} : comV c = true ↔ (∀ x ∈ c, 1 ≤ x ∧ x ≤ 9) ∧ 1 ≤ c.length ∧ c.length ≤ 7 := by
  simp only [comV, Bool.and_eq_true, allTo_iff, vIn_iff]
  constructor
  · rintro ⟨h1, h2⟩
    refine ⟨fun x hx => ?_, by omega, by omega⟩
    obtain ⟨i, hi, rfl⟩ := mem_getD (d := 0) hx
    exact h1 i hi
  · rintro ⟨h1, h2, h3⟩
    exact ⟨fun j hj => h1 _ (gd_mem hj), by omega, by omega⟩
def tot (c : List Int) : Int := c.sum
theorem sum_bnd {M : Int} (hM : 0 ≤ M) : ∀ {l : List Int}, (∀ x ∈ l, 0 ≤ x ∧ x ≤ M) → 0 ≤ l.sum ∧ l.sum ≤ M * l.length
  | [], _ => by simp
  | x :: l, h => by
    have h1 := h x (List.mem_cons_self ..)
    have h2 := sum_bnd hM fun y hy => h y (List.mem_cons_of_mem _ hy)
    rw [List.sum_cons, List.length_cons]
    have : M * ((l.length + 1 : Nat) : Int) = M * l.length + M := by rw [Int.natCast_add, Int.mul_add]; simp
    omega
theorem sum_pos_le : ∀ {l : List Int}, (∀ x ∈ l, 1 ≤ x) → (l.length : Int) ≤ l.sum
  | [], _ => by simp
  | x :: l, h => by
    have h1 := h x (List.mem_cons_self ..)
    have h2 := sum_pos_le fun y hy => h y (List.mem_cons_of_mem _ hy)
    rw [List.sum_cons, List.length_cons]
    omega
theorem tot_bd {c : List Int} (h : comV c = true) : 1 ≤ tot c ∧ tot c ≤ 63 := by
  obtain ⟨h1, h2, h3⟩ := comV_iff.1 h
  have h4 := sum_bnd (M := 9) (by omega) fun x hx => ⟨by have := h1 x hx; omega, (h1 x hx).2⟩
  have h5 := sum_pos_le fun x hx => (h1 x hx).1
  unfold tot
  omega
def quo (c : List Int) : Int := (2 * tot c).tdiv 3 + 1
theorem quo_bd {c : List Int} (h : comV c = true) : 1 ≤ quo c ∧ quo c ≤ 43 := by
  have h1 := tot_bd h
  unfold quo
  rw [Int.tdiv_eq_ediv_of_nonneg (by omega)]
  omega
def hasM (c : List Int) (m : Int) : Bool := vIn m 0 (c.length - 1)
def memAt (c ms : List Int) (i : Nat) : Bool := hasM c (ms.getD i 0) && (i == 0 || decide (ms.getD (i - 1) 0 < ms.getD i 0))
/-- members in order -/
def mems (c ms : List Int) : Bool := allTo ms.length (memAt c ms)
def wei (c ms : List Int) : Int := (ms.map fun m => c.getD m.toNat 0).sum
theorem mems_in {c ms : List Int} (h : mems c ms = true) : ∀ m ∈ ms, 0 ≤ m ∧ m < c.length := by
  intro m hm
  obtain ⟨i, hi, rfl⟩ := mem_getD (d := 0) hm
  have := allTo_iff.1 h i hi
  simp only [memAt, Bool.and_eq_true, hasM, vIn_iff] at this
  omega
theorem pw_of_adj {α : Type} {R : α → α → Prop} (ht : ∀ a b c, R a b → R b c → R a c) : ∀ {l : List α}, (∀ i x y, l[i]? = some x → l[i + 1]? = some y → R x y) → l.Pairwise R
  | [], _ => List.Pairwise.nil
  | [x], _ => by simp
  | x :: y :: l, h => by
    have h0 : R x y := h 0 x y rfl rfl
    have ih : (y :: l).Pairwise R := pw_of_adj ht fun i a b ha hb => h (i + 1) a b (by simpa using ha) (by simpa using hb)
    refine List.Pairwise.cons (fun a ha => ?_) ih
    rcases List.mem_cons.1 ha with rfl | ha
    · exact h0
    · exact ht _ _ _ h0 ((List.pairwise_cons.1 ih).1 a ha)
theorem mems_asc {c ms : List Int} (h : mems c ms = true) : ms.Pairwise (· < ·) := by
  refine pw_of_adj (fun _ _ _ h1 h2 => by omega) fun i x y hx hy => ?_
  have hl := (List.getElem?_eq_some_iff.1 hy).1
  have := allTo_iff.1 h (i + 1) hl
  simp only [memAt, Bool.and_eq_true, Bool.or_eq_true, Nat.add_sub_cancel, getD_of hx, getD_of hy, decide_eq_true_eq] at this
  rcases this.2 with h | h
  · simp at h
  · exact h
theorem mems_mk {c ms : List Int} (h1 : ∀ m ∈ ms, 0 ≤ m ∧ m < c.length) (h2 : ms.Pairwise (· < ·)) : mems c ms = true := by
  refine allTo_t fun j hj => ?_
  simp only [memAt, hasM, Bool.and_eq_true, vIn_iff, Bool.or_eq_true, beq_iff_eq, decide_eq_true_eq]
  have := h1 _ (gd_mem (d := 0) hj)
  refine ⟨by omega, ?_⟩
  cases j with
  | zero => exact .inl rfl
  | succ j =>
    right
    rw [List.pairwise_iff_getElem] at h2
    have := h2 j (j + 1) (by omega) hj (by omega)
    simpa [List.getD_eq_getElem?_getD, List.getElem?_eq_getElem hj, List.getElem?_eq_getElem (show j < ms.length by omega)] using this
/-- two ascending lists of the same members -/
theorem asc_ext : ∀ {a b : List Int}, a.Pairwise (· < ·) → b.Pairwise (· < ·) → (∀ x, x ∈ a ↔ x ∈ b) → a = b
  | [], [], _, _, _ => rfl
  | [], y :: b, _, _, h => by have := (h y).2 (List.mem_cons_self ..); cases this
  | x :: a, [], _, _, h => by have := (h x).1 (List.mem_cons_self ..); cases this
  | x :: a, y :: b, ha, hb, h => by
    rw [List.pairwise_cons] at ha hb
    have hxy : x = y := by
      have h1 := (h x).1 (List.mem_cons_self ..)
      have h2 := (h y).2 (List.mem_cons_self ..)
      rcases List.mem_cons.1 h1 with h1 | h1
      · exact h1
      · rcases List.mem_cons.1 h2 with h2 | h2
        · exact h2.symm
        · have := ha.1 y h2; have := hb.1 x h1; omega
    subst hxy
    rw [asc_ext ha.2 hb.2 fun z => ?_]
    have hz := h z
    constructor
    · intro hz1
      have hlt := ha.1 z hz1
      rcases List.mem_cons.1 (hz.1 (List.mem_cons_of_mem _ hz1)) with e | e
      · omega
      · exact e
    · intro hz1
      have hlt := hb.1 z hz1
      rcases List.mem_cons.1 (hz.2 (List.mem_cons_of_mem _ hz1)) with e | e
      · omega
      · exact e
theorem wei_le : ∀ {a b c : List Int}, (∀ x ∈ c, 0 ≤ x) → a.Pairwise (· < ·) → b.Pairwise (· < ·) → (∀ x ∈ a, x ∈ b) → wei c a ≤ wei c b
  | a, [], c, hc, ha, hb, h => by
    cases a with
    | nil => simp
    | cons x a => exact absurd (h x (List.mem_cons_self ..)) (by simp)
  | a, y :: b, c, hc, ha, hb, h => by
    rw [List.pairwise_cons] at hb
    have hy : 0 ≤ c.getD y.toNat 0 := by
      rcases Nat.lt_or_ge y.toNat c.length with hl | hg
      · exact hc _ (gd_mem hl)
      · simp [List.getD_eq_getElem?_getD, List.getElem?_eq_none hg]
    have hcons : ∀ l, wei c (y :: l) = c.getD y.toNat 0 + wei c l := fun l => by simp [wei]
    rw [hcons]
    cases a with
    | nil =>
      have := wei_le (a := []) hc List.Pairwise.nil hb.2 (by simp)
      have e : wei c [] = 0 := rfl
      omega
    | cons x a =>
      have ha' := List.pairwise_cons.1 ha
      rcases List.mem_cons.1 (h x (List.mem_cons_self ..)) with rfl | hx
      · have hcx : wei c (x :: a) = c.getD x.toNat 0 + wei c a := hcons a
        have := wei_le hc ha'.2 hb.2 fun z hz => by
          have hlt := ha'.1 z hz
          rcases List.mem_cons.1 (h z (List.mem_cons_of_mem _ hz)) with e | e
          · omega
          · exact e
        omega
      · have := wei_le (a := x :: a) hc ha hb.2 fun z hz => by
          rcases List.mem_cons.1 (h z hz) with e | e
          · subst e
            have h1 := hb.1 x hx
            rcases List.mem_cons.1 hz with e | e
            · omega
            · have := ha'.1 _ e; omega
          · exact e
        omega
theorem wei_bd {c ms : List Int} (h : comV c = true) : 0 ≤ wei c ms ∧ wei c ms ≤ 9 * ms.length := by
  have hc := (comV_iff.1 h).1
  have := sum_bnd (M := 9) (by omega) (l := ms.map fun m => c.getD m.toNat 0) fun x hx => by
    obtain ⟨m, -, rfl⟩ := List.mem_map.1 hx
    rcases Nat.lt_or_ge m.toNat c.length with hl | hg
    · have := hc _ (gd_mem (d := 0) hl); omega
    · simp [List.getD_eq_getElem?_getD, List.getElem?_eq_none hg]
  rwa [List.length_map] at this
theorem wei_snoc (c ms : List Int) (m : Int) : wei c (ms ++ [m]) = wei c ms + c.getD m.toNat 0 := by simp [wei]

/-! ### vertices and graphs -/
instance : Inhabited Vtx := ⟨⟨0, 0, [], 0⟩⟩
def v0 : Vtx := ⟨0, 0, [], 0⟩
/-- valid, in a committee that is valid -/
def vtxS (c : List Int) (v : Vtx) : Bool := vIn v.round 0 30 && (hasM c v.author && (mems c v.parents && (vIn v.digest 0 990 && (if v.round = 0 then v.parents.length == 0 else decide (quo c ≤ wei c v.parents)))))
def isAt (r a : Int) (v : Vtx) : Bool := v.round == r && v.author == a
def hasV (g : List Vtx) (r a : Int) : Bool := g.any (isAt r a)
def parOK (g : List Vtx) (v : Vtx) : Bool := v.parents.all fun p => hasV g (v.round - 1) p
def bef (a b : Vtx) : Bool := decide (a.round < b.round) || decide (a.round = b.round) && decide (a.author < b.author)
theorem bef_trans {a b c : Vtx} (h1 : bef a b = true) (h2 : bef b c = true) : bef a c = true := by
  simp only [bef, Bool.or_eq_true, Bool.and_eq_true, decide_eq_true_eq] at *
  omega
def graAt (c : List Int) (g : List Vtx) (i : Nat) : Bool := vtxS c (g.getD i v0) && ((i == 0 || bef (g.getD (i - 1) v0) (g.getD i v0)) && parOK g (g.getD i v0))
def graS (c : List Int) (g : List Vtx) : Bool := comV c && allTo g.length (graAt c g)
/-- with the parents among what comes before -/
def graAtI (c : List Int) (g : List Vtx) (i : Nat) : Bool := vtxS c (g.getD i v0) && ((i == 0 || bef (g.getD (i - 1) v0) (g.getD i v0)) && parOK (g.take i) (g.getD i v0))
theorem isAt_iff {r a : Int} {v : Vtx} : isAt r a v = true ↔ v.round = r ∧ v.author = a := by simp [isAt]
theorem hasV_iff {g : List Vtx} {r a : Int} : hasV g r a = true ↔ ∃ v ∈ g, v.round = r ∧ v.author = a := by simp [hasV, isAt_iff]
theorem parOK_iff {g : List Vtx} {v : Vtx} : parOK g v = true ↔ ∀ p ∈ v.parents, hasV g (v.round - 1) p = true := by simp [parOK]
theorem adj_pw {g : List Vtx} (h : ∀ i, i < g.length → (i == 0 || bef (g.getD (i - 1) v0) (g.getD i v0)) = true) : g.Pairwise fun a b => bef a b = true := by
  refine pw_of_adj (R := fun a b => bef a b = true) (fun _ _ _ h1 h2 => bef_trans h1 h2) fun i x y hx hy => ?_
  have := h (i + 1) (List.getElem?_eq_some_iff.1 hy).1
  rw [Nat.add_sub_cancel, getD_of hx, getD_of hy] at this
  simpa using this
theorem pw_get {α : Type} {R : α → α → Prop} {l : List α} (h : l.Pairwise R) {i j : Nat} {x y : α} (hij : i < j) (hx : l[i]? = some x) (hy : l[j]? = some y) : R x y := by
  obtain ⟨hi, rfl⟩ := List.getElem?_eq_some_iff.1 hx
  obtain ⟨hj, rfl⟩ := List.getElem?_eq_some_iff.1 hy
  exact List.pairwise_iff_getElem.1 h i j hi hj hij
theorem par_take {g : List Vtx} (hp : g.Pairwise fun a b => bef a b = true) {i : Nat} {v : Vtx} (hv : g[i]? = some v) : parOK (g.take i) v = parOK g v := by
  rw [Bool.eq_iff_iff, parOK_iff, parOK_iff]
  constructor
  · intro h p hp1
    obtain ⟨u, hu, h1⟩ := hasV_iff.1 (h p hp1)
    exact hasV_iff.2 ⟨u, List.mem_of_mem_take hu, h1⟩
  · intro h p hp1
    obtain ⟨u, hu, h1, h2⟩ := hasV_iff.1 (h p hp1)
    refine hasV_iff.2 ⟨u, ?_, h1, h2⟩
    obtain ⟨j, hj⟩ := List.getElem?_of_mem hu
    have hji : j < i := by
      rcases Nat.lt_trichotomy j i with h | rfl | h
      · exact h
      · rw [hj] at hv; obtain rfl := Option.some.inj hv; omega
      · have := pw_get hp h hv hj
        simp only [bef, Bool.or_eq_true, Bool.and_eq_true, decide_eq_true_eq] at this
        omega
    exact List.mem_of_getElem? (i := j) (by rw [List.getElem?_take, if_pos hji]; exact hj)
/-- the two ways of checking come to the same -/
theorem graI_eq {c : List Int} {g : List Vtx} : allTo g.length (graAtI c g) = allTo g.length (graAt c g) := by
  have key : (∀ i, i < g.length → (i == 0 || bef (g.getD (i - 1) v0) (g.getD i v0)) = true) → ∀ i, i < g.length → parOK (g.take i) (g.getD i v0) = parOK g (g.getD i v0) := fun h i hi =>
    par_take (adj_pw h) (by rw [List.getD_eq_getElem?_getD, List.getElem?_eq_getElem hi]; rfl)
  rw [Bool.eq_iff_iff, allTo_iff, allTo_iff]
  constructor
  · intro h i hi
    have h1 := h i hi
    simp only [graAtI, Bool.and_eq_true] at h1
    simp only [graAt, Bool.and_eq_true]
    refine ⟨h1.1, h1.2.1, ?_⟩
    rw [← key (fun j hj => ?_) i hi]
    · exact h1.2.2
    · have := h j hj
      simp only [graAtI, Bool.and_eq_true] at this
      exact this.2.1
  · intro h i hi
    have h1 := h i hi
    simp only [graAt, Bool.and_eq_true] at h1
    simp only [graAtI, Bool.and_eq_true]
    refine ⟨h1.1, h1.2.1, ?_⟩
    rw [key (fun j hj => ?_) i hi]
    · exact h1.2.2
    · have := h j hj
      simp only [graAt, Bool.and_eq_true] at this
      exact this.2.1
structure GraOK (c : List Int) (g : List Vtx) : Prop where
  com : comV c = true
  vtx : ∀ v ∈ g, vtxS c v = true
  pw : g.Pairwise fun a b => bef a b = true
  par : ∀ v ∈ g, parOK g v = true
theorem graS_ok {c : List Int} {g : List Vtx} (h : graS c g = true) : GraOK c g := by
  simp only [graS, Bool.and_eq_true, allTo_iff] at h
  obtain ⟨h1, h2⟩ := h
  have h3 : ∀ i, i < g.length → vtxS c (g.getD i v0) = true ∧ (i == 0 || bef (g.getD (i - 1) v0) (g.getD i v0)) = true ∧ parOK g (g.getD i v0) = true := fun i hi => by
    have := h2 i hi
    simpa only [graAt, Bool.and_eq_true] using this
  refine ⟨h1, fun v hv => ?_, adj_pw fun i hi => (h3 i hi).2.1, fun v hv => ?_⟩ <;> (obtain ⟨i, hi, rfl⟩ := mem_getD (d := v0) hv)
  · exact (h3 i hi).1
  · exact (h3 i hi).2.2
theorem vtxS_ok {c : List Int} {v : Vtx} (h : vtxS c v = true) : (0 ≤ v.round ∧ v.round ≤ 30) ∧ (0 ≤ v.author ∧ v.author < c.length) ∧ mems c v.parents = true ∧ (0 ≤ v.digest ∧ v.digest ≤ 990) ∧ (v.round = 0 → v.parents = []) ∧ (v.round ≠ 0 → quo c ≤ wei c v.parents) := by
  simp only [vtxS, hasM, Bool.and_eq_true, vIn_iff] at h
  obtain ⟨h1, h2, h3, h4, h5⟩ := h
  refine ⟨h1, by omega, h3, h4, fun h0 => ?_, fun h0 => ?_⟩
  · rw [if_pos h0] at h5; simpa using h5
  · rw [if_neg h0] at h5; simpa using h5

/-- the authors of a round -/
def auth (g : List Vtx) (r : Int) : List Int := (g.filter fun v => v.round == r).map (·.author)
theorem auth_mem {g : List Vtx} {r a : Int} : a ∈ auth g r ↔ hasV g r a = true := by
  rw [hasV_iff]
  simp only [auth, List.mem_map, List.mem_filter, beq_iff_eq]
  constructor
  · rintro ⟨v, ⟨h1, h2⟩, h3⟩; exact ⟨v, h1, h2, h3⟩
  · rintro ⟨v, h1, h2, h3⟩; exact ⟨v, ⟨h1, h2⟩, h3⟩
theorem auth_asc {g : List Vtx} (h : g.Pairwise fun a b => bef a b = true) (r : Int) : (auth g r).Pairwise (· < ·) := by
  unfold auth
  rw [List.pairwise_map]
  have h1 : (g.filter fun v => v.round == r).Pairwise fun a b => bef a b = true := h.sublist (List.filter_sublist ..)
  refine h1.imp_of_mem fun {a b} ha hb hab => ?_
  have ha := (List.mem_filter.1 ha).2
  have hb := (List.mem_filter.1 hb).2
  simp only [bef, Bool.or_eq_true, Bool.and_eq_true, decide_eq_true_eq, beq_iff_eq] at *
  omega
theorem auth_mems {c : List Int} {g : List Vtx} (h : GraOK c g) (r : Int) : mems c (auth g r) = true := by
  refine mems_mk (fun m hm => ?_) (auth_asc h.pw r)
  obtain ⟨v, h1, -, rfl⟩ := hasV_iff.1 (auth_mem.1 hm)
  exact (vtxS_ok (h.vtx v h1)).2.1
/-- the authors, as impl finds them -/
def authI (c : List Int) (g : List Vtx) (r : Int) : List Int := ((List.range c.length).filter fun a : Nat => hasV g r (a : Int)).map fun a : Nat => (a : Int)
theorem authI_eq {c : List Int} {g : List Vtx} (h : GraOK c g) (r : Int) : authI c g r = auth g r := by
  refine asc_ext ?_ (auth_asc h.pw r) fun x => ?_
  · unfold authI
    rw [List.pairwise_map]
    refine (List.Pairwise.sublist (List.filter_sublist ..) List.pairwise_lt_range).imp fun {a b} hab => by omega
  · rw [auth_mem]
    simp only [authI, List.mem_map, List.mem_filter, List.mem_range]
    constructor
    · rintro ⟨a, ⟨h1, h2⟩, rfl⟩; exact h2
    · intro hx
      obtain ⟨v, h1, -, h3⟩ := hasV_iff.1 hx
      have := (vtxS_ok (h.vtx v h1)).2.1
      refine ⟨x.toNat, ⟨by omega, ?_⟩, by omega⟩
      rw [show ((x.toNat : Nat) : Int) = x by omega]
      exact hx
/-- the height -/
def hgtTo (c : List Int) (g : List Vtx) : Nat → Int
  | 0 => -1
  | r + 1 => if quo c ≤ wei c (auth g r) then r else hgtTo c g r
def hgt (c : List Int) (g : List Vtx) : Int := hgtTo c g 31
theorem hgtTo_lt (c : List Int) (g : List Vtx) : ∀ n, -1 ≤ hgtTo c g n ∧ hgtTo c g n < n
  | 0 => by simp [hgtTo]
  | n + 1 => by
    have := hgtTo_lt c g n
    unfold hgtTo
    split <;> omega
theorem hgtTo_ge {c : List Int} {g : List Vtx} {r : Nat} (hr : quo c ≤ wei c (auth g r)) : ∀ n, r < n → (r : Int) ≤ hgtTo c g n
  | 0, h => by omega
  | n + 1, h => by
    unfold hgtTo
    split
    · omega
    · rename_i hn
      rcases Nat.lt_or_ge r n with hl | hg
      · exact hgtTo_ge hr n hl
      · obtain rfl : r = n := by omega
        exact absurd hr hn
theorem hgtTo_quo (c : List Int) (g : List Vtx) : ∀ n, 0 ≤ hgtTo c g n → quo c ≤ wei c (auth g (hgtTo c g n))
  | 0, h => by simp [hgtTo] at h
  | n + 1, h => by
    unfold hgtTo at h ⊢
    split
    · rename_i h1; exact h1
    · rename_i h1
      rw [if_neg h1] at h
      exact hgtTo_quo c g n h
/-- below a quorum there is a quorum -/
theorem quo_down {c : List Int} {g : List Vtx} (h : GraOK c g) {r : Nat} (hr : quo c ≤ wei c (auth g (r + 1 : Nat))) : quo c ≤ wei c (auth g r) := by
  have hq := (quo_bd h.com).1
  have hne : auth g (r + 1 : Nat) ≠ [] := by
    intro h0
    rw [h0] at hr
    have : wei c [] = 0 := rfl
    omega
  obtain ⟨a, ha⟩ := List.exists_mem_of_ne_nil _ hne
  obtain ⟨v, hv, hvr, -⟩ := hasV_iff.1 (auth_mem.1 ha)
  obtain ⟨-, -, h3, -, -, h6⟩ := vtxS_ok (h.vtx v hv)
  have h7 := h6 (by omega)
  refine Int.le_trans h7 (wei_le (fun x hx => ?_) (mems_asc h3) (auth_asc h.pw r) fun p hp => ?_)
  · have := (comV_iff.1 h.com).1 x hx; omega
  · have := parOK_iff.1 (h.par v hv) p hp
    rw [hvr, show ((r + 1 : Nat) : Int) - 1 = r by omega] at this
    exact auth_mem.2 this
theorem hgt_iff {c : List Int} {g : List Vtx} (h : GraOK c g) {r : Nat} (hr : r ≤ 30) : quo c ≤ wei c (auth g r) ↔ (r : Int) ≤ hgt c g := by
  constructor
  · intro h1
    exact hgtTo_ge h1 31 (by omega)
  · intro h1
    have h2 := hgtTo_quo c g 31 (by unfold hgt at h1; omega)
    have h3 := (hgtTo_lt c g 31).2
    unfold hgt at h1
    generalize hgtTo c g 31 = H at *
    have h4 : ∀ n : Nat, ∀ k : Nat, k + n = H.toNat → quo c ≤ wei c (auth g k) := by
      intro n
      induction n with
      | zero => intro k hk; rw [show (k : Int) = H by omega]; exact h2
      | succ n ih => intro k hk; exact quo_down h (ih (k + 1) (by omega))
    exact h4 (H.toNat - r) r (by omega)
/-! ### the linked graph -/
structure GS where
  nodes : List Nod
  rows : List (List (Option Nat))
  plc : List (Option Nat)
def GS.at (s : GS) (r a : Int) : Option Nat := s.plc.getD (r * 7 + a).toNat none
def gs0 : GS := ⟨[], [], List.replicate 217 none⟩
def gstep (s : GS) (v : Vtx) : GS :=
  ⟨s.nodes ++ [⟨v, s.nodes.length, if v.parents = [] then none else some s.rows.length⟩], if v.parents = [] then s.rows else s.rows ++ [v.parents.map fun p => s.at (v.round - 1) p], s.plc.set (v.round * 7 + v.author).toNat (some s.nodes.length)⟩
def gst (g : List Vtx) : GS := g.foldl gstep gs0
theorem gst_snoc (g : List Vtx) (v : Vtx) : gst (g ++ [v]) = gstep (gst g) v := by simp [gst]
theorem snoc_ind {α : Type} {p : List α → Prop} (h0 : p []) (h : ∀ l x, p l → p (l ++ [x])) : ∀ l, p l := by
  intro l
  have : ∀ n (l : List α), l.length = n → p l := by
    intro n
    induction n with
    | zero => intro l hl; rw [List.length_eq_zero_iff.1 hl]; exact h0
    | succ n ih =>
      intro l hl
      have hne : l ≠ [] := by intro h; rw [h] at hl; simp at hl
      rw [← List.dropLast_concat_getLast hne]
      exact h _ _ (ih _ (by simp [hl]))
  exact this _ l rfl
theorem gst_len (g : List Vtx) : (gst g).nodes.length = g.length ∧ (gst g).plc.length = 217 := by
  induction g using snoc_ind with
  | h0 => exact ⟨rfl, List.length_replicate⟩
  | h l x ih => rw [gst_snoc]; simp [gstep, ih.1, ih.2]
/-- the vertices lie within the table -/
def inTab (v : Vtx) : Prop := (0 ≤ v.round ∧ v.round ≤ 30) ∧ 0 ≤ v.author ∧ v.author ≤ 6
theorem vtxS_tab {c : List Int} {v : Vtx} (hc : comV c = true) (h : vtxS c v = true) : inTab v := by
  obtain ⟨h1, h2, -⟩ := vtxS_ok h
  have := (comV_iff.1 hc).2.2
  exact ⟨h1, by omega, by omega⟩
theorem findIdx_snoc {α : Type} (p : α → Bool) (l : List α) (x : α) : (l ++ [x]).findIdx? p = (l.findIdx? p).or (if p x then some l.length else none) := by
  rw [List.findIdx?_append]
  congr 1
  cases hp : p x <;> simp [List.findIdx?_cons, hp]
/-- what the table holds: the last vertex of that place -/
theorem gst_at {g : List Vtx} (hg : ∀ v ∈ g, inTab v) {r a : Int} (hr : 0 ≤ r ∧ r ≤ 30) (ha : 0 ≤ a ∧ a ≤ 6) : ((gst g).at r a).isSome = hasV g r a ∧ ∀ i, (gst g).at r a = some i → ∃ v, g[i]? = some v ∧ v.round = r ∧ v.author = a := by
  induction g using snoc_ind with
  | h0 => 
    have : (gst []).at r a = none := by
      simp only [gst, List.foldl_nil, gs0, GS.at, List.getD_eq_getElem?_getD]
      rw [List.getElem?_replicate]
      split <;> rfl
    rw [this]
    exact ⟨rfl, fun i hi => by cases hi⟩
  | h l v ih =>
    have ih := ih fun u hu => hg u (List.mem_append_left _ hu)
    have hv := hg v (by simp)
    have hl := gst_len l
    have hk : (v.round * 7 + v.author).toNat < (gst l).plc.length := by
      obtain ⟨h1, h2⟩ := hv
      rw [hl.2]
      omega
    have hany : hasV (l ++ [v]) r a = (hasV l r a || isAt r a v) := by simp [hasV]
    rw [gst_snoc, hany]
    by_cases he : v.round = r ∧ v.author = a
    · have h1 : (gstep (gst l) v).at r a = some l.length := by
        obtain ⟨rfl, rfl⟩ := he
        simp only [gstep, GS.at, List.getD_eq_getElem?_getD]
        rw [List.getElem?_set_self hk, hl.1]
        rfl
      rw [h1, isAt_iff.2 he, Bool.or_true]
      refine ⟨rfl, fun i hi => ?_⟩
      obtain rfl := Option.some.inj hi
      exact ⟨v, by simp, he⟩
    · have hne : isAt r a v = false := by rw [Bool.eq_false_iff]; exact fun h => he (isAt_iff.1 h)
      have h1 : (gstep (gst l) v).at r a = (gst l).at r a := by
        simp only [gstep, GS.at, List.getD_eq_getElem?_getD]
        rw [List.getElem?_set_ne]
        obtain ⟨h1, h2⟩ := hv
        omega
      rw [h1, hne, Bool.or_false]
      refine ⟨ih.1, fun i hi => ?_⟩
      obtain ⟨u, h2, h3⟩ := ih.2 i hi
      exact ⟨u, by rw [List.getElem?_append_left (List.getElem?_eq_some_iff.1 h2).1]; exact h2, h3⟩
/-- the place of a vertex -/
def fndI (g : List Vtx) (r a : Int) : Int := match g.findIdx? (isAt r a) with | some i => i | none => -1
theorem fnd_has {g : List Vtx} {r a : Int} : (g.findIdx? (isAt r a)).isSome = hasV g r a := by simp [hasV, List.findIdx?_isSome]
theorem gst_find {c : List Int} {g : List Vtx} (h : GraOK c g) {r a : Int} (hr : 0 ≤ r ∧ r ≤ 30) (ha : 0 ≤ a ∧ a ≤ 6) : (gst g).at r a = g.findIdx? (isAt r a) := by
  obtain ⟨h1, h2⟩ := gst_at (fun v hv => vtxS_tab h.com (h.vtx v hv)) hr ha
  cases e : (gst g).at r a with
  | none =>
    rw [e] at h1
    have h3 := fnd_has (g := g) (r := r) (a := a)
    rw [← h1] at h3
    cases e2 : g.findIdx? (isAt r a) with
    | none => rfl
    | some j => rw [e2] at h3; cases h3
  | some i =>
    rw [e, ← fnd_has] at h1
    obtain ⟨v, hv1, hv2⟩ := h2 i e
    cases e2 : g.findIdx? (isAt r a) with
    | none => rw [e2] at h1; cases h1
    | some j =>
      rw [List.findIdx?_eq_some_iff_getElem] at e2
      obtain ⟨hj, e3, -⟩ := e2
      have e3 := isAt_iff.1 e3
      congr 1
      rcases Nat.lt_trichotomy i j with hl | rfl | hg
      · have := pw_get h.pw hl hv1 (List.getElem?_eq_getElem hj)
        simp only [bef, Bool.or_eq_true, Bool.and_eq_true, decide_eq_true_eq] at this
        omega
      · rfl
      · have := pw_get h.pw hg (List.getElem?_eq_getElem hj) hv1
        simp only [bef, Bool.or_eq_true, Bool.and_eq_true, decide_eq_true_eq] at this
        omega
end Go.Proofs.Ytkclhekkcffpoaa.Am
