/- The plain machine with types: what is no more wanted is forgotten. -/
import Derived.Test.YtkclhekkcffpoaaU19
namespace Go.Proofs.Ytkclhekkcffpoaa.Am
set_option linter.unusedSimpArgs false
set_option linter.unusedVariables false
open Go Go.RowKit

variable {P : Program} {N : Nat} {K : Id → Prop} {os : List Nat} {n : Nat} {h : VH}

/-! ### What is live, and what that leads to -/
def livV (h : VH) (b : Nat) : Bool := match lookO h b with
  | some (.row ..) | some (.lit ..) | some (.var ..) | some (.vari ..) => true
  | _ => false
def liv4 (h : VH) : List Nat → List Nat
  | [] => []
  | b :: l => match Nat.ble 4 b && livV h b with | true => b :: liv4 h l | false => liv4 h l
def grpsB : VB → List Nat
  | .var _ cs => grpsVs cs
  | .vari _ pre _ _ _ post => grpsVs pre ++ grpsVs post
  | .lit _ vs => grpsVs vs
  | _ => []
def gcAllK (h : VH) : Nat → Nat → List Nat → (List Nat → Prop) → Prop
  | 0, _, l, K => K l
  | k + 1, i, l, K => match l[i]? with
    | none => K l
    | some b => natsK (addsN l (liv4 h (match lookO h b with | some x => grpsB x | none => []))) fun l => gcAllK h k (i + 1) l K
theorem gcAllK_ok {h : VH} : ∀ {k i : Nat} {l : List Nat} {K : List Nat → Prop}, gcAllK h k i l K → ∃ l, K l
  | 0, _, l, _, hk => ⟨l, hk⟩
  | k + 1, i, l, K, hk => by
    simp only [gcAllK] at hk
    split at hk
    · exact ⟨_, hk⟩
    · have hk := natsK_ok hk
      exact gcAllK_ok hk
/-- from these on -/
def gcFromK (h : VH) (l : List Nat) (K : List Nat → Prop) : Prop := natsK l fun l => gcAllK h 60 0 l K
theorem gcFromK_ok {h : VH} {l : List Nat} {K : List Nat → Prop} (hk : gcFromK h l K) : ∃ l, K l := gcAllK_ok (natsK_ok hk)
def grpsT : VT → List Nat
  | [] => []
  | (_, v) :: l => grpsV v ++ grpsT l

/-! ### Values -/
mutual
/-- under the new names -/
def backV (os : List Nat) (v : V) (K : V → Prop) : Prop :=
  match v with
  | .ref b => posK b os 4 fun r => (match r with | some i => K (.ref i) | none => False)
  | .ptr b o => posK b os 4 fun r => (match r with | some i => K (.ptr i o) | none => False)
  | .eptr b j o => posK b os 4 fun r => (match r with | some i => K (.eptr i j o) | none => False)
  | .vref b o q => posK b os 4 fun r => (match r with | some i => K (.vref i o q) | none => False)
  | .aptr b p j => posK b os 4 fun r => (match r with | some i => K (.aptr i p j) | none => False)
  | .fref k i => Chk (Nat.blt k 4) (K (.fref k i))
  | .fptr k i o => Chk (Nat.blt k 4) (K (.fptr k i o))
  | .feptr k i j o => Chk (Nat.blt k 4) (K (.feptr k i j o))
  | .faptr k i p j => Chk (Nat.blt k 4) (K (.faptr k i p j))
  | .hro k o => Chk (Nat.blt k 4) (K (.hro k o))
  | .hpo k o => Chk (Nat.blt k 4) (K (.hpo k o))
  | .agg cs => backVs os cs fun cs => K (.agg cs)
  | .tup cs => backVs os cs fun cs => K (.tup cs)
  | .clo f cs => backVs os cs fun cs => K (.clo f cs)
  | .ifc T v => backV os v fun v => K (.ifc T v)
  | .int k n => K (.int k n)
  | .bool b => K (.bool b)
  | .tt => K (.bool true)
  | .ff => K (.bool false)
  | .str s => K (.str s)
  | .lst t xs => K (.lst t xs)
  | .box t x => K (.box t x)
  | .nilp => K .nilp
  | .nils => K .nils
  | .nilf => K .nilf
  | .nili => K .nili
  | .iptr t x o => K (.iptr t x o)
  | .obo t o => K (.obo t o)
  | .undef => K .undef
  | .junk => K .junk
def backVs (os : List Nat) (l : List V) (K : List V → Prop) : Prop :=
  match l with
  | [] => K []
  | v :: l => backV os v fun v => backVs os l fun l => K (v :: l)
end
/-- the kept blocks -/
structure KeepOK (os : List Nat) (h h' : VH) : Prop where
  sgl : ∀ m b, os[m]? = some b → Live (toH h) (b, 0) → Live (toH h') (4 + m, 0)
  fam : ∀ k, k < 4 → ∀ i, Live (toH h) (k, i) → Live (toH h') (k, i)
section
variable {h' : VH}
theorem rn_ref (H : KeepOK os h h') {m b : Nat} (hb : os[m]? = some b) : Rn (toH h) (gI (gN os n)) (toH h') (.ref (b, 0)) (.ref (4 + m, 0)) := by
  have e : gI (gN os n) (4 + m, 0) = (b, 0) := by simp only [gI, gN_high, nameO_lt hb]
  have := Rn.ref (h := toH h) (g := gI (gN os n)) (h' := toH h') (4 + m, 0) fun hl => H.sgl m b hb (by rw [e] at hl; exact hl)
  rwa [e] at this
theorem rn_ptr (H : KeepOK os h h') {m b : Nat} (hb : os[m]? = some b) (o : Nat) : Rn (toH h) (gI (gN os n)) (toH h') (.ptr (b, 0) o) (.ptr (4 + m, 0) o) := by
  have e : gI (gN os n) (4 + m, 0) = (b, 0) := by simp only [gI, gN_high, nameO_lt hb]
  have := Rn.ptr (h := toH h) (g := gI (gN os n)) (h' := toH h') (4 + m, 0) o fun hl => H.sgl m b hb (by rw [e] at hl; exact hl)
  rwa [e] at this
theorem rn_eptr (H : KeepOK os h h') {m b : Nat} (hb : os[m]? = some b) (j o : Nat) : Rn (toH h) (gI (gN os n)) (toH h') (.eptr (b, 0) j o) (.eptr (4 + m, 0) j o) := by
  have e : gI (gN os n) (4 + m, 0) = (b, 0) := by simp only [gI, gN_high, nameO_lt hb]
  have := Rn.eptr (h := toH h) (g := gI (gN os n)) (h' := toH h') (4 + m, 0) j o fun hl => H.sgl m b hb (by rw [e] at hl; exact hl)
  rwa [e] at this
theorem rn_vref (H : KeepOK os h h') {m b : Nat} (hb : os[m]? = some b) (o q : Nat) : Rn (toH h) (gI (gN os n)) (toH h') (.vref (b, 0) o q) (.vref (4 + m, 0) o q) := by
  have e : gI (gN os n) (4 + m, 0) = (b, 0) := by simp only [gI, gN_high, nameO_lt hb]
  have := Rn.vref (h := toH h) (g := gI (gN os n)) (h' := toH h') (4 + m, 0) o q fun hl => H.sgl m b hb (by rw [e] at hl; exact hl)
  rwa [e] at this
theorem gI_low {k : Nat} (hk : k < 4) (i : Nat) : gI (gN os n) (k, i) = (k, i) := by simp only [gI, gN_low os n hk]
theorem rn_fref (H : KeepOK os h h') {k : Nat} (hk : k < 4) (i : Nat) : Rn (toH h) (gI (gN os n)) (toH h') (.ref (k, i)) (.ref (k, i)) := by
  have e : gI (gN os n) (k, i) = (k, i) := gI_low hk i
  have := Rn.ref (h := toH h) (g := gI (gN os n)) (h' := toH h') (k, i) fun hl => H.fam k hk i (by rw [e] at hl; exact hl)
  rwa [e] at this
theorem rn_fptr (H : KeepOK os h h') {k : Nat} (hk : k < 4) (i o : Nat) : Rn (toH h) (gI (gN os n)) (toH h') (.ptr (k, i) o) (.ptr (k, i) o) := by
  have e : gI (gN os n) (k, i) = (k, i) := gI_low hk i
  have := Rn.ptr (h := toH h) (g := gI (gN os n)) (h' := toH h') (k, i) o fun hl => H.fam k hk i (by rw [e] at hl; exact hl)
  rwa [e] at this
theorem rn_feptr (H : KeepOK os h h') {k : Nat} (hk : k < 4) (i j o : Nat) : Rn (toH h) (gI (gN os n)) (toH h') (.eptr (k, i) j o) (.eptr (k, i) j o) := by
  have e : gI (gN os n) (k, i) = (k, i) := gI_low hk i
  have := Rn.eptr (h := toH h) (g := gI (gN os n)) (h' := toH h') (k, i) j o fun hl => H.fam k hk i (by rw [e] at hl; exact hl)
  rwa [e] at this
theorem rn_hr (H : KeepOK os h h') {k : Nat} (hk : k < 4) (o : Option Nat) : Rn (toH h) (gI (gN os n)) (toH h') (hrD k o) (hrD k o) := by
  cases o with
  | none => exact .pure _ rfl
  | some i => exact rn_fref H hk i
theorem rn_hp (H : KeepOK os h h') {k : Nat} (hk : k < 4) (o : Option Nat) : Rn (toH h) (gI (gN os n)) (toH h') (hpD k o) (hpD k o) := by
  cases o with
  | none => exact .pure _ rfl
  | some i => exact rn_fptr H hk i 0
theorem blt_ok {a b : Nat} (h : Nat.blt a b = true) : a < b := by simpa [Nat.blt_eq] using h
mutual
theorem backV_ok : ∀ {v : V} {K : V → Prop}, backV os v K → ∃ r : V, (∀ h', KeepOK os h h' → Rn (toH h) (gI (gN os n)) (toH h') v.toD r.toD) ∧ r.one = v.one ∧ K r
  | .ref b, K, hk => by
    simp only [backV] at hk
    obtain ⟨r, r1, r2, hk⟩ := posK_ok hk
    split at hk
    · obtain ⟨m, rfl, hm⟩ := r2 _ rfl
      exact ⟨.ref (4 + m), fun h' H => rn_ref H hm, rfl, hk⟩
    · exact hk.elim
  | .ptr b o, K, hk => by
    simp only [backV] at hk
    obtain ⟨r, r1, r2, hk⟩ := posK_ok hk
    split at hk
    · obtain ⟨m, rfl, hm⟩ := r2 _ rfl
      exact ⟨.ptr (4 + m) o, fun h' H => rn_ptr H hm o, rfl, hk⟩
    · exact hk.elim
  | .eptr b j o, K, hk => by
    simp only [backV] at hk
    obtain ⟨r, r1, r2, hk⟩ := posK_ok hk
    split at hk
    · obtain ⟨m, rfl, hm⟩ := r2 _ rfl
      exact ⟨.eptr (4 + m) j o, fun h' H => rn_eptr H hm j o, rfl, hk⟩
    · exact hk.elim
  | .vref b o q, K, hk => by
    simp only [backV] at hk
    obtain ⟨r, r1, r2, hk⟩ := posK_ok hk
    split at hk
    · obtain ⟨m, rfl, hm⟩ := r2 _ rfl
      exact ⟨.vref (4 + m) o q, fun h' H => rn_vref H hm o q, rfl, hk⟩
    · exact hk.elim
  | .aptr b p j, K, hk => by
    simp only [backV] at hk
    obtain ⟨r, r1, r2, hk⟩ := posK_ok hk
    split at hk
    · obtain ⟨m, rfl, hm⟩ := r2 _ rfl
      exact ⟨.aptr (4 + m) p j, fun h' H => rn_ptr H hm (p + j), rfl, hk⟩
    · exact hk.elim
  | .fref k i, K, hk => by simp only [backV] at hk; obtain ⟨c, hk⟩ := hk.ok; exact ⟨.fref k i, fun h' H => rn_fref H (blt_ok c) i, rfl, hk⟩
  | .fptr k i o, K, hk => by simp only [backV] at hk; obtain ⟨c, hk⟩ := hk.ok; exact ⟨.fptr k i o, fun h' H => rn_fptr H (blt_ok c) i o, rfl, hk⟩
  | .feptr k i j o, K, hk => by simp only [backV] at hk; obtain ⟨c, hk⟩ := hk.ok; exact ⟨.feptr k i j o, fun h' H => rn_feptr H (blt_ok c) i j o, rfl, hk⟩
  | .faptr k i p j, K, hk => by simp only [backV] at hk; obtain ⟨c, hk⟩ := hk.ok; exact ⟨.faptr k i p j, fun h' H => rn_fptr H (blt_ok c) i (p + j), rfl, hk⟩
  | .hro k o, K, hk => by simp only [backV] at hk; obtain ⟨c, hk⟩ := hk.ok; exact ⟨.hro k o, fun h' H => rn_hr H (blt_ok c) o, rfl, hk⟩
  | .hpo k o, K, hk => by simp only [backV] at hk; obtain ⟨c, hk⟩ := hk.ok; exact ⟨.hpo k o, fun h' H => rn_hp H (blt_ok c) o, rfl, hk⟩
  | .agg cs, K, hk => by
    simp only [backV] at hk
    obtain ⟨r, h1, h2, h3, hk⟩ := backVs_ok hk
    exact ⟨.agg r, fun h' H => by simp only [V.toD]; exact .agg _ _ h1 (h2 h' H), rfl, hk⟩
  | .tup cs, K, hk => by
    simp only [backV] at hk
    obtain ⟨r, h1, h2, h3, hk⟩ := backVs_ok hk
    exact ⟨.tup r, fun h' H => by simp only [V.toD]; exact .tup _ _ h1 (h2 h' H), rfl, hk⟩
  | .clo f cs, K, hk => by
    simp only [backV] at hk
    obtain ⟨r, h1, h2, h3, hk⟩ := backVs_ok hk
    exact ⟨.clo f r, fun h' H => by simp only [V.toD]; exact .clo f _ _ h1 (h2 h' H), rfl, hk⟩
  | .ifc T v, K, hk => by
    simp only [backV] at hk
    obtain ⟨r, h1, h2, hk⟩ := backV_ok hk
    exact ⟨.ifc T r, fun h' H => by simp only [V.toD]; exact .ifc T _ _ (h1 h' H), rfl, hk⟩
  | .int k m, K, hk => ⟨.int k m, fun h' H => .pure _ rfl, rfl, by simpa only [backV] using hk⟩
  | .bool b, K, hk => ⟨.bool b, fun h' H => .pure _ rfl, rfl, by simpa only [backV] using hk⟩
  | .tt, K, hk => ⟨.bool true, fun h' H => .pure _ rfl, rfl, by simpa only [backV] using hk⟩
  | .ff, K, hk => ⟨.bool false, fun h' H => .pure _ rfl, rfl, by simpa only [backV] using hk⟩
  | .str s, K, hk => ⟨.str s, fun h' H => .pure _ rfl, rfl, by simpa only [backV] using hk⟩
  | .lst t xs, K, hk => ⟨.lst t xs, fun h' H => .pure _ rfl, rfl, by simpa only [backV] using hk⟩
  | .box t x, K, hk => ⟨.box t x, fun h' H => .pure _ rfl, rfl, by simpa only [backV] using hk⟩
  | .nilp, K, hk => ⟨.nilp, fun h' H => .pure _ rfl, rfl, by simpa only [backV] using hk⟩
  | .nils, K, hk => ⟨.nils, fun h' H => .pure _ rfl, rfl, by simpa only [backV] using hk⟩
  | .nilf, K, hk => ⟨.nilf, fun h' H => .pure _ rfl, rfl, by simpa only [backV] using hk⟩
  | .nili, K, hk => ⟨.nili, fun h' H => .pure _ rfl, rfl, by simpa only [backV] using hk⟩
  | .iptr t x o, K, hk => ⟨.iptr t x o, fun h' H => .iptr _ _, rfl, by simpa only [backV] using hk⟩
  | .obo t o, K, hk => ⟨.obo t o, fun h' H => .pure _ (by cases o <;> rfl), rfl, by simpa only [backV] using hk⟩
  | .undef, K, hk => ⟨.undef, fun h' H => .undef _, rfl, by simpa only [backV] using hk⟩
  | .junk, K, hk => ⟨.junk, fun h' H => .junk, rfl, by simpa only [backV] using hk⟩
theorem backVs_ok : ∀ {l : List V} {K : List V → Prop}, backVs os l K → ∃ r : List V, (toDL l).length = (toDL r).length ∧ (∀ h', KeepOK os h h' → ∀ i, i < (toDL l).length → Rn (toH h) (gI (gN os n)) (toH h') ((toDL l).getD i .undef) ((toDL r).getD i .undef)) ∧ (l.all V.one = r.all V.one) ∧ K r
  | [], K, hk => ⟨[], rfl, fun h' H i hi => by simp [toDL] at hi, rfl, by simpa only [backVs] using hk⟩
  | v :: l, K, hk => by
    simp only [backVs] at hk
    obtain ⟨v', h1, h2, hk⟩ := backV_ok hk
    obtain ⟨r, h3, h4, h5, hk⟩ := backVs_ok hk
    refine ⟨v' :: r, by simp only [toDL, List.length_cons, h3], fun h' H i hi => ?_, by simp only [List.all_cons, h2, h5], hk⟩
    cases i with
    | zero => simpa [toDL] using h1 h' H
    | succ i => simpa [toDL] using h4 h' H i (by simpa [toDL] using hi)
end
/-- by their last names, and under the new ones -/
def gcV (os : List Nat) (h : VH) (v : V) (K : V → Prop) : Prop := fwdV h v fun v => backV os v K
theorem gcV_ok {v : V} {K : V → Prop} (hk : gcV os h v K) : ∃ r : V, (∀ h', KeepOK os h h' → Rn (toH h) (gI (gN os n)) (toH h') v.toD r.toD) ∧ K r := by
  obtain ⟨v', h1, hk⟩ := fwdV_ok hk
  obtain ⟨r, h2, _, hk⟩ := backV_ok (h := h) (n := n) hk
  exact ⟨r, fun h' H => .fwd _ _ (by rw [h1]; exact h2 h' H), hk⟩
def gcVs (os : List Nat) (h : VH) (l : List V) (K : List V → Prop) : Prop := fwdVs h l fun l => backVs os l K
theorem fwdL_get (g : HL) (l : List D) {i : Nat} (hi : i < l.length) : (fwdL g l).getD i .undef = fwd g (l.getD i .undef) := by
  rw [fwdL_eq, List.getD_eq_getElem?_getD, List.getElem?_map, List.getElem?_eq_getElem hi, List.getD_eq_getElem?_getD, List.getElem?_eq_getElem hi]
  rfl
theorem gcVs_ok {l : List V} {K : List V → Prop} (hk : gcVs os h l K) : ∃ r : List V, (toDL l).length = (toDL r).length ∧ (∀ h', KeepOK os h h' → ∀ i, i < (toDL l).length → Rn (toH h) (gI (gN os n)) (toH h') ((toDL l).getD i .undef) ((toDL r).getD i .undef)) ∧ ((toDL l).all D.one = true → (toDL r).all D.one = true) ∧ K r := by
  obtain ⟨l', h1, hk⟩ := fwdVs_ok hk
  obtain ⟨r, h2, h3, h4, hk⟩ := backVs_ok (h := h) (n := n) hk
  have hlen : (toDL l).length = (toDL l').length := by rw [← h1, fwdL_eq, List.length_map]
  refine ⟨r, hlen.trans h2, fun h' H i hi => .fwd _ _ ?_, fun ha => ?_, hk⟩
  · rw [← fwdL_get _ _ hi, h1]
    exact h3 h' H i (by rw [← hlen]; exact hi)
  · refine all_one _ ?_
    rw [← h4]
    have e : (toDL l').all D.one = l'.all V.one := by
      rw [toDL_eq, List.all_map]
      refine congrArg (fun f => List.all l' f) (funext fun v => one_toD v)
    rw [← e, ← h1, fwdL_eq, List.all_map]
    rw [List.all_eq_true] at ha ⊢
    intro d hd
    simp only [Function.comp, fwd_one]
    exact ha d hd

/-! ### Blocks -/
theorem rn_cells (H : KeepOK os h h') {t : Ty} (ht : ∀ k ∈ t.fams, k < 4) (x : t.den) : ∀ c ∈ (encD t x).cells, Rn (toH h) (gI (gN os n)) (toH h') c c := by
  intro c hc
  by_cases hp : t.pure = true
  · have := (encD_pure hp x).2
    rw [List.all_eq_true] at this
    exact .pure c (this c hc)
  · have lf : ∀ d : D, d.pure0 = true → Rn (toH h) (gI (gN os n)) (toH h') d d := fun d hd => .pure d hd
    cases t <;> simp only [Ty.pure, not_true_eq_false] at hp
    case hr k =>
      simp only [encD, (hrD_one k x).2, List.mem_singleton] at hc
      subst hc
      exact rn_hr H (ht k (by simp [Ty.fams])) x
    case hp k =>
      simp only [encD, (hpD_one k x).2, List.mem_singleton] at hc
      subst hc
      exact rn_hp H (ht k (by simp [Ty.fams])) x
    case vtxo k =>
      simp only [encD, D.cells, List.mem_cons, List.not_mem_nil, or_false] at hc
      rcases hc with rfl | rfl | rfl | rfl
      · exact lf _ rfl
      · exact lf _ rfl
      · exact rn_hr H (ht k (by simp [Ty.fams])) _
      · exact lf _ rfl
    case pplm k =>
      simp only [encD, D.cells, vtxC, List.cons_append, List.nil_append, List.mem_cons, List.not_mem_nil, or_false] at hc
      rcases hc with rfl | rfl | rfl | rfl | rfl
      · exact lf _ rfl
      · exact lf _ rfl
      · exact lf _ rfl
      · exact lf _ rfl
      · exact rn_hr H (ht k (by simp [Ty.fams])) _
    case pplo k k' =>
      simp only [encD, D.cells, List.mem_cons, List.not_mem_nil, or_false] at hc
      rcases hc with rfl | rfl | rfl | rfl | rfl
      · exact lf _ rfl
      · exact lf _ rfl
      · exact rn_hr H (ht k (by simp [Ty.fams])) _
      · exact lf _ rfl
      · exact rn_hr H (ht k' (by simp [Ty.fams])) _
    case nod k =>
      simp only [encD, D.cells, vtxC, List.cons_append, List.nil_append, List.mem_cons, List.not_mem_nil, or_false] at hc
      rcases hc with rfl | rfl | rfl | rfl | rfl | rfl
      · exact lf _ rfl
      · exact lf _ rfl
      · exact lf _ rfl
      · exact lf _ rfl
      · exact lf _ rfl
      · exact rn_hr H (ht k (by simp [Ty.fams])) _
theorem rn_enc (H : KeepOK os h h') {t : Ty} (ht : ∀ k ∈ t.fams, k < 4) (x : t.den) : Rn (toH h) (gI (gN os n)) (toH h') (encD t x) (encD t x) := by
  have hc := rn_cells (n := n) H ht x
  by_cases hag : ∃ cs, encD t x = .agg cs
  · obtain ⟨cs, he⟩ := hag
    rw [he] at hc ⊢
    exact .agg cs cs rfl fun i hi => hc _ (getD_mem hi)
  · have he : (encD t x).cells = [encD t x] := cells_single fun cs hcs => hag ⟨cs, hcs⟩
    exact hc _ (by rw [he]; exact List.mem_singleton.2 rfl)
theorem rn_row (H : KeepOK os h h') {t : Ty} (ht : ∀ k ∈ t.fams, k < 4) (E : TypeId) (xs : List t.den) : RnB (toH h) (gI (gN os n)) (toH h') (.row E (xs.map (encD t))) (.row E (xs.map (encD t))) := by
  refine .row E _ _ rfl fun i hi => ?_
  obtain ⟨x, _, hx⟩ := List.mem_map.1 (getD_mem hi)
  rw [← hx]
  exact ⟨rn_enc H ht x, fun s hs => ⟨hs, fun j hj => rn_cells H ht x _ (getD_mem (by rw [hs.1]; exact hj))⟩⟩
theorem rn_var (H : KeepOK os h h') (T : TypeId) {cs : List D} (hc : ∀ c ∈ cs, Rn (toH h) (gI (gN os n)) (toH h') c c) : RnB (toH h) (gI (gN os n)) (toH h') (.var T cs) (.var T cs) := .var T _ _ rfl fun i hi => hc _ (getD_mem hi)
/-- an element of a literal -/
def gcE (os : List Nat) (h : VH) (v : V) (K : V → Prop) : Prop := match v with
  | .agg cs => gcVs os h cs fun cs => K (.agg cs)
  | v => Chk v.one (fwdV h v fun v => backV os v K)
theorem gcE_ok {v : V} {K : V → Prop} (hk : gcE os h v K) : ∃ r : V, (∀ h', KeepOK os h h' → Rn (toH h) (gI (gN os n)) (toH h') v.toD r.toD ∧ ∀ s, wfC s v.toD → wfC s r.toD ∧ ∀ j, j < s → Rn (toH h) (gI (gN os n)) (toH h') (v.toD.cells.getD j .undef) (r.toD.cells.getD j .undef)) ∧ K r := by
  unfold gcE at hk
  split at hk
  · rename_i cs
    obtain ⟨r, h1, h2, h3, hk⟩ := gcVs_ok (n := n) hk
    refine ⟨.agg r, fun h' H => ⟨by simp only [V.toD]; exact .agg _ _ h1 (h2 h' H), fun s hs => ?_⟩, hk⟩
    have hs1 : (toDL cs).length = s := by have := hs.1; simpa only [V.toD, D.cells] using this
    refine ⟨⟨?_, ?_⟩, fun j hj => ?_⟩
    · show (toDL r).length = s
      omega
    · exact h3 (by have := hs.2; simpa only [V.toD, D.cells] using this)
    · exact h2 h' H j (by omega)
  · obtain ⟨c, hk⟩ := hk.ok
    obtain ⟨v', h1, hk⟩ := fwdV_ok hk
    obtain ⟨r, h2, h3, hk⟩ := backV_ok (h := h) (n := n) hk
    have o1 : v.toD.one = true := by rw [one_toD]; exact c
    have o2 : r.toD.one = true := by
      rw [one_toD, h3, ← one_toD, ← h1, fwd_one]; exact o1
    refine ⟨r, fun h' H => ?_, hk⟩
    have hr : Rn (toH h) (gI (gN os n)) (toH h') v.toD r.toD := .fwd _ _ (by rw [h1]; exact h2 h' H)
    refine ⟨hr, fun s hs => ?_⟩
    have hs1 := hs.1
    rw [one_cells o1] at hs1 ⊢
    rw [one_cells o2]
    simp only [List.length_singleton] at hs1
    subst hs1
    refine ⟨⟨by rw [one_cells o2]; rfl, by rw [one_cells o2]; simp [o2]⟩, fun j hj => ?_⟩
    obtain rfl : j = 0 := by omega
    exact hr
def gcEs (os : List Nat) (h : VH) : List V → (List V → Prop) → Prop
  | [], K => K []
  | v :: l, K => gcE os h v fun v => gcEs os h l fun l => K (v :: l)
theorem gcEs_ok : ∀ {l : List V} {K : List V → Prop}, gcEs os h l K → ∃ r : List V, (∀ h' E, KeepOK os h h' → RnB (toH h) (gI (gN os n)) (toH h') (.row E (toDL l)) (.row E (toDL r))) ∧ K r
  | [], K, hk => ⟨[], fun h' E H => .row E _ _ rfl fun i hi => by simp [toDL] at hi, hk⟩
  | v :: l, K, hk => by
    obtain ⟨v', h1, hk⟩ := gcE_ok (n := n) hk
    obtain ⟨r, h2, hk⟩ := gcEs_ok hk
    refine ⟨v' :: r, fun h' E H => ?_, hk⟩
    cases h2 h' E H with
    | row _ _ _ hl hc =>
      refine .row E _ _ (by simp only [toDL, List.length_cons, hl]) fun i hi => ?_
      cases i with
      | zero => simpa [toDL] using h1 h' H
      | succ i => simpa [toDL] using hc i (by simpa [toDL] using hi)
def lt4 (l : List Nat) : Bool := l.all fun k => Nat.blt k 4
theorem lt4_ok {l : List Nat} (h : lt4 l = true) : ∀ k ∈ l, k < 4 := by
  unfold lt4 at h
  rw [List.all_eq_true] at h
  exact fun k hk => blt_ok (h k hk)
def gcB (os : List Nat) (h : VH) (x : VB) (K : VB → Prop) : Prop :=
  match x with
  | .var T cs => gcVs os h cs fun cs => K (.var T cs)
  | .vari T pre m t xs post => Chk (lt4 t.fams) (gcVs os h pre fun pre => gcVs os h post fun post => K (.vari T pre m t xs post))
  | .row E t xs => Chk (lt4 t.fams) (K (.row E t xs))
  | .lit E vs => gcEs os h vs fun vs => K (.lit E vs)
  | .froz t xs => K (.froz t xs)
  | .fvb t x => K (.fvb t x)
  | .moved _ _ => K .gone
  | .gone => K .gone
  | _ => False
theorem gcB_ok {x : VB} {K : VB → Prop} (hk : gcB os h x K) : ∃ y d d', x.blks = [d] ∧ y.blks = [d'] ∧ (∀ h', KeepOK os h h' → RnB (toH h) (gI (gN os n)) (toH h') d d') ∧ K y := by
  unfold gcB at hk
  split at hk
  · rename_i T cs
    obtain ⟨r, h1, h2, _, hk⟩ := gcVs_ok (n := n) hk
    exact ⟨_, _, _, rfl, rfl, fun h' H => .var T _ _ h1 (h2 h' H), hk⟩
  · rename_i T pre m t xs post
    obtain ⟨c, hk⟩ := hk.ok
    obtain ⟨pre', h1, h2, _, hk⟩ := gcVs_ok (n := n) hk
    obtain ⟨post', h3, h4, _, hk⟩ := gcVs_ok (n := n) hk
    refine ⟨_, _, _, rfl, rfl, fun h' H => .var T _ _ (by simp only [List.length_append, h1, h3]) fun i hi => ?_, hk⟩
    by_cases c1 : i < (toDL pre).length
    · rw [List.append_assoc, List.append_assoc, getD_app1 (A := toDL pre) c1, getD_app1 (A := toDL pre') (by rw [← h1]; exact c1)]
      exact h2 h' H i c1
    · rw [List.append_assoc, List.append_assoc, getD_app2 (A := toDL pre) (by omega), getD_app2 (A := toDL pre') (by rw [← h1]; omega), ← h1]
      simp only [List.length_append] at hi
      by_cases c2 : i - (toDL pre).length < (xs.map (encD t)).length
      · rw [getD_app1 c2, getD_app1 c2]
        obtain ⟨e, he, hee⟩ := List.mem_map.1 (getD_mem c2)
        rw [← hee]
        exact rn_enc H (lt4_ok c) e
      · rw [getD_app2 (by omega), getD_app2 (by omega)]
        exact h4 h' H _ (by omega)
  · obtain ⟨c, hk⟩ := hk.ok
    exact ⟨_, _, _, rfl, rfl, fun h' H => rn_row H (lt4_ok c) _ _, hk⟩
  · obtain ⟨r, h1, hk⟩ := gcEs_ok (n := n) hk
    exact ⟨_, _, _, rfl, rfl, fun h' H => h1 h' _ H, hk⟩
  · exact ⟨_, _, _, rfl, rfl, fun h' H => .froz _, hk⟩
  · exact ⟨_, _, _, rfl, rfl, fun h' H => .fvar _, hk⟩
  · exact ⟨_, _, _, rfl, rfl, fun h' H => .gone _, hk⟩
  · exact ⟨_, _, _, rfl, rfl, fun h' H => .gone _, hk⟩
  · exact hk.elim
end
end Go.Proofs.Ytkclhekkcffpoaa.Am
