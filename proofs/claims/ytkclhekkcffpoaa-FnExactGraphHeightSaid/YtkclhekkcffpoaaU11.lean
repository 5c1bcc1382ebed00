/- The plain machine with types: calls: what comes back. -/
import Derived.Test.YtkclhekkcffpoaaU10
namespace Go.Proofs.Ytkclhekkcffpoaa.Am
set_option linter.unusedSimpArgs false
set_option linter.unusedVariables false
open Go Go.RowKit

variable {P : Program} {os fs : List Nat} {n : Nat} {h : VH}

mutual
def noMemV : V → Bool
  | .lst .. | .box .. | .iptr .. | .obo .. => false
  | .agg cs => noMemVs cs
  | .tup cs => noMemVs cs
  | .clo _ cs => noMemVs cs
  | .ifc _ v => noMemV v
  | _ => true
def noMemVs : List V → Bool
  | [] => true
  | v :: l => noMemV v && noMemVs l
end
theorem noMem_hr (k : Nat) (o : Option Nat) : noMem (hrD k o) = true := by cases o <;> rfl
theorem noMem_hp (k : Nat) (o : Option Nat) : noMem (hpD k o) = true := by cases o <;> rfl
mutual
theorem noMemV_ok : ∀ v : V, noMemV v = true → noMem v.toD = true
  | .agg cs, hv => by simp only [noMemV] at hv; simp only [V.toD, noMem, noMemVs_ok cs hv]
  | .tup cs, hv => by simp only [noMemV] at hv; simp only [V.toD, noMem, noMemVs_ok cs hv]
  | .clo f cs, hv => by simp only [noMemV] at hv; simp only [V.toD, noMem, noMemVs_ok cs hv]
  | .ifc T v, hv => by simp only [noMemV] at hv; simp only [V.toD, noMem, noMemV_ok v hv]
  | .hro k o, _ => noMem_hr k o
  | .hpo k o, _ => noMem_hp k o
  | .lst .., hv | .box .., hv | .iptr .., hv | .obo .., hv => by simp only [noMemV] at hv; cases hv
  | .int .., _ | .bool _, _ | .tt, _ | .ff, _ | .str _, _ | .nilp, _ | .nils, _ | .nilf, _ | .nili, _ | .ref _, _ | .ptr .., _ | .eptr .., _ | .vref .., _ | .aptr .., _ | .fref .., _ | .fptr .., _ | .feptr .., _ | .faptr .., _ | .undef, _ | .junk, _ => by simp only [V.toD, noMem]
theorem noMemVs_ok : ∀ l : List V, noMemVs l = true → noMemL (toDL l) = true
  | [], _ => rfl
  | v :: l, hv => by
    simp only [noMemVs, Bool.and_eq_true] at hv
    simp only [toDL, noMemL, noMemV_ok v hv.1, noMemVs_ok l hv.2, Bool.and_self]
end
/-- no slice or pointer within an element -/
def Ty.flat : Ty → Bool
  | .int _ | .bool | .str | .txn | .slt | .hr _ | .hp _ => true
  | _ => false
theorem flat_noMem {t : Ty} (h : t.flat = true) (x : t.den) : (encD t x).cells.all noMem = true := by
  cases t <;> first | (cases h; done) | rfl | skip
  · simp only [encD, (hrD_one _ x).2]; simp [noMem_hr]
  · simp only [encD, (hpD_one _ x).2]; simp [noMem_hp]
theorem flat_noMem' {t : Ty} (h : t.flat = true) (x : t.den) : noMem (encD t x) = true := by
  cases t <;> first | (cases h; done) | rfl | skip
  · exact noMem_hr _ x
  · exact noMem_hp _ x
def noMemVB : VB → Bool
  | .var _ cs => noMemVs cs
  | .vari _ pre _ t _ post => noMemVs pre && noMemVs post && t.flat
  | .row _ t _ => t.flat
  | .lit _ vs => vs.all fun v => noMemVs v.cells
  | .froz _ _ | .fvb _ _ => false
  | .fvar _ t _ => t.flat
  | .fvari _ _ t _ => t.flat
  | .frow _ t _ => t.flat
  | .moved .. | .gone => true
theorem noMemL_iff (l : List D) : noMemL l = true ↔ ∀ d ∈ l, noMem d = true := by rw [noMemL_all, List.all_eq_true]
theorem noMemVB_ok {x : VB} (h : noMemVB x = true) : ∀ d ∈ x.blks, noMemB d = true := by
  intro d hd
  have kc : ∀ (t : Ty) (xs : List t.den), t.flat = true → ∀ e ∈ xs.map (encD t), e.cells.all noMem = true := by
    intro t xs ht e he
    obtain ⟨x, _, rfl⟩ := List.mem_map.1 he
    exact flat_noMem ht x
  have kd : ∀ (t : Ty) (xs : List t.den), t.flat = true → ∀ e ∈ xs.map (encD t), noMem e = true := by
    intro t xs ht e he
    obtain ⟨x, _, rfl⟩ := List.mem_map.1 he
    exact flat_noMem' ht x
  cases x with
  | var T cs =>
    obtain rfl := List.mem_singleton.1 hd
    simp only [noMemB, ← noMemL_all]
    exact noMemVs_ok cs h
  | vari T pre m t xs post =>
    obtain rfl := List.mem_singleton.1 hd
    simp only [noMemVB, Bool.and_eq_true] at h
    simp only [noMemB, List.all_append, ← noMemL_all, noMemVs_ok _ h.1.1, noMemVs_ok _ h.1.2, Bool.true_and, Bool.and_true]
    rw [noMemL_iff]
    exact kd t xs h.2
  | row E t xs =>
    obtain rfl := List.mem_singleton.1 hd
    simp only [noMemB, List.all_eq_true]
    intro e he
    exact List.all_eq_true.1 (kc t xs h e he)
  | lit E vs =>
    obtain rfl := List.mem_singleton.1 hd
    simp only [noMemVB, List.all_eq_true] at h
    simp only [noMemB, toDL_eq, List.all_map, List.all_eq_true]
    intro v hv
    have := noMemVs_ok _ (h v hv)
    rw [noMemL_all] at this
    simp only [Function.comp, toD_cells]
    exact this
  | froz t xs => cases h
  | fvb t x => cases h
  | fvar T t xs =>
    obtain ⟨e, _, rfl⟩ := List.mem_map.1 hd
    exact flat_noMem h e
  | fvari T m t xss =>
    obtain ⟨xs, _, rfl⟩ := List.mem_map.1 hd
    simp only [noMemB, List.all_eq_true]
    exact kd t xs h
  | frow E t xss =>
    obtain ⟨xs, _, rfl⟩ := List.mem_map.1 hd
    simp only [noMemB, List.all_eq_true]
    intro e he
    exact List.all_eq_true.1 (kc t xs h e he)
  | moved k i => obtain rfl := List.mem_singleton.1 hd; rfl
  | gone => obtain rfl := List.mem_singleton.1 hd; rfl

/-! ### New names -/
mutual
def renK (g : Nat → Nat) (v : V) (K : V → Prop) : Prop :=
  match v with
  | .ref b => natK (g b) fun b => K (.ref b)
  | .vref b o n => natK (g b) fun b => K (.vref b o n)
  | .ptr b o => natK (g b) fun b => K (.ptr b o)
  | .eptr b i o => natK (g b) fun b => K (.eptr b i o)
  | .aptr b p i => natK (g b) fun b => K (.aptr b p i)
  | .fref k i => Chk (Nat.beq (g k) k) (K (.fref k i))
  | .fptr k i o => Chk (Nat.beq (g k) k) (K (.fptr k i o))
  | .feptr k i j o => Chk (Nat.beq (g k) k) (K (.feptr k i j o))
  | .faptr k i p j => Chk (Nat.beq (g k) k) (K (.faptr k i p j))
  | .hro k o => Chk (Nat.beq (g k) k) (K (.hro k o))
  | .hpo k o => Chk (Nat.beq (g k) k) (K (.hpo k o))
  | .agg cs => rensK g cs fun cs => K (.agg cs)
  | .tup cs => rensK g cs fun cs => K (.tup cs)
  | .clo f cs => rensK g cs fun cs => K (.clo f cs)
  | .ifc T v => renK g v fun v => K (.ifc T v)
  | .int k n => K (.int k n)
  | .bool b => K (.bool b)
  | .tt => K .tt
  | .ff => K .ff
  | .str s => K (.str s)
  | .lst t xs => K (.lst t xs)
  | .box t x => K (.box t x)
  | .nilp => K .nilp
  | .nils => K .nils
  | .nilf => K .nilf
  | .nili => K .nili
  | .iptr t x o => K (.iptr t x o)
  | .obo t o => K (.obo t o)
  | .undef => K .undef
  | .junk => K .junk
def rensK (g : Nat → Nat) (l : List V) (K : List V → Prop) : Prop :=
  match l with
  | [] => K []
  | v :: l => renK g v fun v => rensK g l fun l => K (v :: l)
end
theorem ren_hr {g : Nat → Nat} {k : Nat} (hk : g k = k) (o : Option Nat) : renD (gI g) (hrD k o) = hrD k o := by
  cases o with
  | none => rfl
  | some i => simp [hrD, renD, hk]
theorem ren_hp {g : Nat → Nat} {k : Nat} (hk : g k = k) (o : Option Nat) : renD (gI g) (hpD k o) = hpD k o := by
  cases o with
  | none => rfl
  | some i => simp [hpD, renD, hk]
mutual
theorem renK_ok {g : Nat → Nat} : ∀ {v : V} {K : V → Prop}, renK g v K → ∃ r, renD (gI g) v.toD = r.toD ∧ K r
  | .ref b, K, h => ⟨.ref (g b), rfl, natK_ok (by simpa only [renK] using h)⟩
  | .vref b o n, K, h => ⟨.vref (g b) o n, rfl, natK_ok (by simpa only [renK] using h)⟩
  | .ptr b o, K, h => ⟨.ptr (g b) o, rfl, natK_ok (by simpa only [renK] using h)⟩
  | .eptr b i o, K, h => ⟨.eptr (g b) i o, rfl, natK_ok (by simpa only [renK] using h)⟩
  | .aptr b p i, K, h => ⟨.aptr (g b) p i, rfl, natK_ok (by simpa only [renK] using h)⟩
  | .fref k i, K, h => by simp only [renK] at h; obtain ⟨c, h⟩ := h.ok; exact ⟨.fref k i, by simp [V.toD, renD, Nat.eq_of_beq_eq_true c], h⟩
  | .fptr k i o, K, h => by simp only [renK] at h; obtain ⟨c, h⟩ := h.ok; exact ⟨.fptr k i o, by simp [V.toD, renD, Nat.eq_of_beq_eq_true c], h⟩
  | .feptr k i j o, K, h => by simp only [renK] at h; obtain ⟨c, h⟩ := h.ok; exact ⟨.feptr k i j o, by simp [V.toD, renD, Nat.eq_of_beq_eq_true c], h⟩
  | .faptr k i p j, K, h => by simp only [renK] at h; obtain ⟨c, h⟩ := h.ok; exact ⟨.faptr k i p j, by simp [V.toD, renD, Nat.eq_of_beq_eq_true c], h⟩
  | .hro k o, K, h => by simp only [renK] at h; obtain ⟨c, h⟩ := h.ok; exact ⟨.hro k o, ren_hr (Nat.eq_of_beq_eq_true c) o, h⟩
  | .hpo k o, K, h => by simp only [renK] at h; obtain ⟨c, h⟩ := h.ok; exact ⟨.hpo k o, ren_hp (Nat.eq_of_beq_eq_true c) o, h⟩
  | .agg cs, K, h => by
    simp only [renK] at h
    obtain ⟨r, h1, h2⟩ := rensK_ok h
    exact ⟨.agg r, by simp only [V.toD, renD, h1], h2⟩
  | .tup cs, K, h => by
    simp only [renK] at h
    obtain ⟨r, h1, h2⟩ := rensK_ok h
    exact ⟨.tup r, by simp only [V.toD, renD, h1], h2⟩
  | .clo f cs, K, h => by
    simp only [renK] at h
    obtain ⟨r, h1, h2⟩ := rensK_ok h
    exact ⟨.clo f r, by simp only [V.toD, renD, h1], h2⟩
  | .ifc T v, K, h => by
    simp only [renK] at h
    obtain ⟨r, h1, h2⟩ := renK_ok h
    exact ⟨.ifc T r, by simp only [V.toD, renD, h1], h2⟩
  | .int k n, K, h => ⟨.int k n, rfl, by simpa only [renK] using h⟩
  | .bool b, K, h => ⟨.bool b, rfl, by simpa only [renK] using h⟩
  | .tt, K, h => ⟨.tt, rfl, by simpa only [renK] using h⟩
  | .ff, K, h => ⟨.ff, rfl, by simpa only [renK] using h⟩
  | .str s, K, h => ⟨.str s, rfl, by simpa only [renK] using h⟩
  | .lst t xs, K, h => ⟨.lst t xs, rfl, by simpa only [renK] using h⟩
  | .box t x, K, h => ⟨.box t x, rfl, by simpa only [renK] using h⟩
  | .nilp, K, h => ⟨.nilp, rfl, by simpa only [renK] using h⟩
  | .nils, K, h => ⟨.nils, rfl, by simpa only [renK] using h⟩
  | .nilf, K, h => ⟨.nilf, rfl, by simpa only [renK] using h⟩
  | .nili, K, h => ⟨.nili, rfl, by simpa only [renK] using h⟩
  | .iptr t x o, K, h => ⟨.iptr t x o, rfl, by simpa only [renK] using h⟩
  | .obo t o, K, h => ⟨.obo t o, by cases o <;> rfl, by simpa only [renK] using h⟩
  | .undef, K, h => ⟨.undef, rfl, by simpa only [renK] using h⟩
  | .junk, K, h => ⟨.junk, rfl, by simpa only [renK] using h⟩
theorem rensK_ok {g : Nat → Nat} : ∀ {l : List V} {K : List V → Prop}, rensK g l K → ∃ r, renL (gI g) (toDL l) = toDL r ∧ K r
  | [], K, h => ⟨[], rfl, by simpa only [rensK] using h⟩
  | v :: l, K, h => by
    simp only [rensK] at h
    obtain ⟨v', h1, h2⟩ := renK_ok h
    obtain ⟨l', h3, h4⟩ := rensK_ok h2
    exact ⟨v' :: l', by simp only [toDL, renL, h1, h3], h4⟩
end
def fixB (g : Nat → Nat) (l : List Nat) : Bool := l.all fun k => Nat.beq (g k) k
theorem fixB_ok {g : Nat → Nat} {l : List Nat} (h : fixB g l = true) : ∀ k ∈ l, g k = k := by
  unfold fixB at h
  rw [List.all_eq_true] at h
  exact fun k hk => Nat.eq_of_beq_eq_true (h k hk)
theorem ren_enc {g : Nat → Nat} {t : Ty} (ht : ∀ k ∈ t.fams, g k = k) (x : t.den) : renD (gI g) (encD t x) = encD t x := by
  cases t <;> try rfl
  case ob t => cases x <;> rfl
  case hr k => exact ren_hr (ht k (by simp [Ty.fams])) x
  case hp k => exact ren_hp (ht k (by simp [Ty.fams])) x
  case vtxo k => simp only [encD, renD, renL, ren_hr (ht k (by simp [Ty.fams]))]
  case pplm k => simp only [encD, vtxC, List.cons_append, List.nil_append, renD, renL, ren_hr (ht k (by simp [Ty.fams])), intsD]
  case pplo k k' => simp only [encD, renD, renL, ren_hr (ht k (by simp [Ty.fams])), ren_hr (ht k' (by simp [Ty.fams]))]
  case nod k => simp only [encD, vtxC, List.cons_append, List.nil_append, renD, renL, ren_hr (ht k (by simp [Ty.fams])), intsD]
def renBK (g : Nat → Nat) (x : VB) (K : VB → Prop) : Prop :=
  match x with
  | .var T cs => rensK g cs fun cs => K (.var T cs)
  | .vari T pre m t xs post => Chk (fixB g t.fams) (rensK g pre fun pre => rensK g post fun post => K (.vari T pre m t xs post))
  | .row E t xs => Chk (fixB g t.fams) (K (.row E t xs))
  | .lit E vs => rensK g vs fun vs => K (.lit E vs)
  | .froz t xs => K (.froz t xs)
  | .fvb t x => K (.fvb t x)
  | .fvar T t xs => Chk (fixB g t.fams) (K (.fvar T t xs))
  | .fvari T m t xss => Chk (fixB g t.fams) (K (.fvari T m t xss))
  | .frow E t xss => Chk (fixB g t.fams) (K (.frow E t xss))
  | .moved k i => natK (g k) fun k => K (.moved k i)
  | .gone => K .gone
theorem ren_map {g : Nat → Nat} {t : Ty} (ht : ∀ k ∈ t.fams, g k = k) (xs : List t.den) : (xs.map (encD t)).map (renD (gI g)) = xs.map (encD t) := by
  rw [List.map_map]
  exact List.map_congr_left fun x _ => ren_enc ht x
theorem renBK_ok {g : Nat → Nat} {x : VB} {K : VB → Prop} (h : renBK g x K) : ∃ y, y.blks = x.blks.map (renB (gI g)) ∧ K y := by
  unfold renBK at h
  split at h
  · obtain ⟨r, h1, h2⟩ := rensK_ok h
    exact ⟨_, by simp only [VB.blks, List.map_cons, List.map_nil, renB, ← renL_eq, h1], h2⟩
  · rename_i T pre m t xs post
    obtain ⟨c, h⟩ := h.ok
    obtain ⟨r, h1, h2⟩ := rensK_ok h
    obtain ⟨r2, h3, h4⟩ := rensK_ok h2
    refine ⟨_, ?_, h4⟩
    rw [renL_eq] at h1 h3
    simp only [VB.blks, List.map_cons, List.map_nil, renB, List.map_append, h1, h3, ren_map (fixB_ok c)]
  · rename_i E t xs
    obtain ⟨c, h⟩ := h.ok
    exact ⟨_, by simp only [VB.blks, List.map_cons, List.map_nil, renB, ren_map (fixB_ok c)], h⟩
  · obtain ⟨r, h1, h2⟩ := rensK_ok h
    exact ⟨_, by simp only [VB.blks, List.map_cons, List.map_nil, renB, ← renL_eq, h1], h2⟩
  · exact ⟨_, rfl, h⟩
  · exact ⟨_, rfl, h⟩
  · rename_i T t xs
    obtain ⟨c, h⟩ := h.ok
    refine ⟨_, ?_, h⟩
    simp only [VB.blks, List.map_map]
    refine List.map_congr_left fun x _ => ?_
    simp only [Function.comp, renB]
    rw [← renD_cells, ren_enc (fixB_ok c)]
  · rename_i T m t xss
    obtain ⟨c, h⟩ := h.ok
    refine ⟨_, ?_, h⟩
    simp only [VB.blks, List.map_map]
    refine List.map_congr_left fun xs _ => ?_
    simp only [Function.comp, renB, ren_map (fixB_ok c)]
  · rename_i E t xss
    obtain ⟨c, h⟩ := h.ok
    refine ⟨_, ?_, h⟩
    simp only [VB.blks, List.map_map]
    refine List.map_congr_left fun xs _ => ?_
    simp only [Function.comp, renB, ren_map (fixB_ok c)]
  · exact ⟨_, rfl, natK_ok h⟩
  · exact ⟨_, rfl, h⟩
def newsK (g : Nat → Nat) : VH → (VH → Prop) → Prop
  | [], K => K []
  | (k, x) :: l, K => renBK g x fun y => natK (g k) fun b => newsK g l fun u => K ((b, y) :: u)
inductive RenVH (g : Nat → Nat) : VH → VH → Prop where
  | nil : RenVH g [] []
  | cons {k : Nat} {x y : VB} {l u : VH} (hy : y.blks = x.blks.map (renB (gI g))) (hl : RenVH g l u) : RenVH g ((k, x) :: l) ((g k, y) :: u)
theorem newsK_ok {g : Nat → Nat} : ∀ {l : VH} {K : VH → Prop}, newsK g l K → ∃ u, RenVH g l u ∧ K u
  | [], K, h => ⟨[], .nil, h⟩
  | (k, x) :: l, K, h => by
    obtain ⟨y, h1, h2⟩ := renBK_ok h
    obtain ⟨u, h3, h4⟩ := newsK_ok (natK_ok h2)
    exact ⟨(g k, y) :: u, .cons h1 h3, h4⟩
theorem RenVH.look {g : Nat → Nat} (hg : ∀ a b, g a = g b → a = b) {l u : VH} (hr : RenVH g l u) : (∀ k, (Am.look l k = none → Am.look u (g k) = none) ∧ ∀ x, Am.look l k = some x → ∃ y, Am.look u (g k) = some y ∧ y.blks = x.blks.map (renB (gI g))) ∧ ∀ b, (∀ k, Am.look l k ≠ none → g k ≠ b) → Am.look u b = none := by
  induction hr with
  | nil => exact ⟨fun k => ⟨fun _ => rfl, fun x hx => by cases hx⟩, fun b _ => rfl⟩
  | @cons k0 x0 y0 l u hy hl ih =>
    refine ⟨fun k => ?_, fun b hb => ?_⟩
    · by_cases e : k = k0
      · subst e
        refine ⟨fun hn => by simp [Am.look] at hn, fun x hx => ⟨y0, by simp [Am.look], ?_⟩⟩
        simp [Am.look] at hx
        subst hx
        exact hy
      · have e' : ¬ g k = g k0 := fun he => e (hg _ _ he)
        simp only [Am.look, if_neg e, if_neg e']
        exact ih.1 k
    · have e' : ¬ b = g k0 := fun he => hb k0 (by simp [Am.look]) he.symm
      simp only [Am.look, if_neg e']
      refine ih.2 b fun k hk => hb k ?_
      simp only [Am.look]
      split
      · simp
      · exact hk
theorem RenVH.keys {g : Nat → Nat} {l u : VH} (hr : RenVH g l u) : u.map (·.1) = l.map (fun p => g p.1) := by
  induction hr with
  | nil => rfl
  | cons hy hl ih => simp [ih]
end Go.Proofs.Ytkclhekkcffpoaa.Am
