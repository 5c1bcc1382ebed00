/- The plain machine with types: calls: names, views. -/
import Derived.Test.YtkclhekkcffpoaaU8
namespace Go.Proofs.Ytkclhekkcffpoaa.Am
set_option linter.unusedSimpArgs false
set_option linter.unusedVariables false
open Go Go.RowKit

/-- Called with vs and the groups hin, the function f hands back r and leaves hout. -/
def ConV (P : Program) (f : FuncId) (vs : List V) (hin : VH) (r : V) (hout : VH) : Prop := Con P f (toDL vs) (toH hin) r.toD (toH hout)
/-- a call that is to be met by a contract -/
def CallA (P : Program) (f : FuncId) (vs : List V) (hin : VH) (K : V → VH → Prop) : Prop := ∃ r hout, ConV P f vs hin r hout ∧ K r hout

/-! ### Names: below 4 there are families, which keep theirs; then the blocks that are handed over, then new ones -/
def nameO (n : Nat) : List Nat → Nat → Nat
  | [], i => n + i
  | o :: _, 0 => o
  | _ :: os, i + 1 => nameO n os i
def gN (os : List Nat) (n k : Nat) : Nat := match k with
  | 0 => 0
  | 1 => 1
  | 2 => 2
  | 3 => 3
  | k + 4 => nameO n os k
abbrev gI (g : Nat → Nat) : Id → Id := fun b => (g b.1, b.2)
def osOK (os : List Nat) (n : Nat) : Bool := nodupN os && (os.all fun o => Nat.ble 4 o && Nat.blt o n) && Nat.ble 4 n
theorem nameO_lt {n : Nat} : ∀ {os : List Nat} {i b : Nat}, os[i]? = some b → nameO n os i = b
  | [], i, b, h => by simp at h
  | o :: os, 0, b, h => by simpa [nameO] using h
  | o :: os, i + 1, b, h => by simpa [nameO] using nameO_lt (os := os) (i := i) (by simpa using h)
theorem nameO_ge {n : Nat} : ∀ {os : List Nat} {i : Nat}, os.length ≤ i → nameO n os i = n + (i - os.length)
  | [], i, _ => by simp [nameO]
  | o :: os, 0, h => by simp at h
  | o :: os, i + 1, h => by
    have := nameO_ge (n := n) (os := os) (i := i) (by simpa using h)
    simp only [nameO, this, List.length_cons]
    omega
theorem gN_low (os : List Nat) (n : Nat) {k : Nat} (hk : k < 4) : gN os n k = k := by
  match k, hk with
  | 0, _ | 1, _ | 2, _ | 3, _ => rfl
theorem gN_high (os : List Nat) (n m : Nat) : gN os n (4 + m) = nameO n os m := by rw [Nat.add_comm]; rfl
theorem osOK_ok {os : List Nat} {n : Nat} (h : osOK os n = true) : os.Nodup ∧ (∀ o ∈ os, 4 ≤ o ∧ o < n) ∧ 4 ≤ n := by
  unfold osOK at h
  simp only [Bool.and_eq_true, List.all_eq_true] at h
  obtain ⟨⟨h1, h2⟩, h3⟩ := h
  exact ⟨nodupN_ok h1, fun o ho => ⟨Nat.le_of_ble_eq_true (h2 o ho).1, by have := (h2 o ho).2; simpa [Nat.blt_eq] using this⟩, Nat.le_of_ble_eq_true h3⟩
theorem gN_case (os : List Nat) (n k : Nat) : (k < 4 ∧ gN os n k = k) ∨ (∃ m b, k = 4 + m ∧ os[m]? = some b ∧ gN os n k = b) ∨ (∃ m, k = 4 + m ∧ os.length ≤ m ∧ gN os n k = n + (m - os.length)) := by
  by_cases hk : k < 4
  · exact .inl ⟨hk, gN_low os n hk⟩
  · obtain ⟨m, rfl⟩ : ∃ m, k = 4 + m := ⟨k - 4, by omega⟩
    rw [gN_high]
    by_cases hm : m < os.length
    · exact .inr (.inl ⟨m, os[m], rfl, List.getElem?_eq_getElem hm, nameO_lt (List.getElem?_eq_getElem hm)⟩)
    · exact .inr (.inr ⟨m, rfl, by omega, nameO_ge (by omega)⟩)
theorem gN_inj {os : List Nat} {n : Nat} (h : osOK os n = true) {a b : Nat} (he : gN os n a = gN os n b) : a = b := by
  obtain ⟨h1, h2, h3⟩ := osOK_ok h
  rcases gN_case os n a with ⟨a1, a2⟩ | ⟨m, x, rfl, a1, a2⟩ | ⟨m, rfl, a1, a2⟩ <;> rcases gN_case os n b with ⟨b1, b2⟩ | ⟨m', y, rfl, b1, b2⟩ | ⟨m', rfl, b1, b2⟩ <;> rw [a2, b2] at he
  · exact he
  · have := h2 y (List.mem_of_getElem? b1); omega
  · omega
  · have := h2 x (List.mem_of_getElem? a1); omega
  · subst he
    have e1 := (List.getElem?_eq_some_iff.1 a1).1
    have := (List.getElem?_inj e1 h1).1 (a1.trans b1.symm)
    omega
  · have := h2 x (List.mem_of_getElem? a1); omega
  · omega
  · have := h2 y (List.mem_of_getElem? b1); omega
  · omega
theorem gI_inj {os : List Nat} {n : Nat} (h : osOK os n = true) {a b : Id} (he : gI (gN os n) a = gI (gN os n) b) : a = b := by
  obtain ⟨a1, a2⟩ := a
  obtain ⟨b1, b2⟩ := b
  simp only [gI, Prod.mk.injEq] at he ⊢
  exact ⟨gN_inj h he.1, he.2⟩
/-- the number of block b among those that are handed over -/
def posK (b : Nat) : List Nat → Nat → (Option Nat → Prop) → Prop
  | [], _, K => K none
  | o :: os, i, K => bif Nat.beq o b then K (some i) else natK (i + 1) fun i => posK b os i K
theorem posK_ok {b : Nat} : ∀ {os : List Nat} {i : Nat} {K : Option Nat → Prop}, posK b os i K → ∃ r, (r = none → b ∉ os) ∧ (∀ j, r = some j → ∃ m, j = i + m ∧ os[m]? = some b) ∧ K r
  | [], i, K, hk => ⟨none, by simp, by simp, hk⟩
  | o :: os, i, K, hk => by
    simp only [posK] at hk
    cases hb : Nat.beq o b with
    | true =>
      rw [hb] at hk
      obtain rfl := Nat.eq_of_beq_eq_true hb
      exact ⟨some i, by simp, fun j hj => ⟨0, by simpa using hj.symm, rfl⟩, hk⟩
    | false =>
      rw [hb] at hk
      simp only [cond_false] at hk
      have hk := natK_ok hk
      obtain ⟨r, h1, h2, h3⟩ := posK_ok hk
      refine ⟨r, fun hr hm => ?_, fun j hj => ?_, h3⟩
      · rcases List.mem_cons.1 hm with rfl | hm
        · simp at hb
        · exact h1 hr hm
      · obtain ⟨m, e1, e2⟩ := h2 j hj
        exact ⟨m + 1, by omega, by simpa using e2⟩

/-! ### Views -/
def Ty.fams : Ty → List Nat
  | .hr k | .hp k | .vtxo k | .pplm k | .nod k => [k]
  | .pplo k k' => [k, k']
  | _ => []
def subL (a b : List Nat) : Bool := a.all fun x => b.contains x
theorem subL_ok {a b : List Nat} (h : subL a b = true) : ∀ x ∈ a, x ∈ b := by
  unfold subL at h
  rw [List.all_eq_true] at h
  intro x hx
  simpa using h x hx
mutual
/-- a value as the callee sees it; what is not handed over is read -/
def viewV (os fs : List Nat) (h : VH) (v : V) (K : V → List Nat → Prop) : Prop :=
  match v with
  | .ref b => posK b os 4 fun r => (match r with
    | some i => K (.ref i) []
    | none => (match lookO h b with
      | some (.row _ t xs) => Chk t.pure (K (.lst t xs) [b])
      | some (.froz t xs) => K (.lst t xs) [b]
      | _ => False))
  | .ptr b o => posK b os 4 fun r => (match r with
    | some i => K (.ptr i o) []
    | none => (match lookO h b, o with
      | some (.fvb t x), 0 => K (.box t x) [b]
      | _, _ => False))
  | .eptr b j o => posK b os 4 fun r => (match r with | some i => K (.eptr i j o) [] | none => False)
  | .vref b o m => posK b os 4 fun r => (match r with | some i => K (.vref i o m) [] | none => False)
  | .aptr b p j => posK b os 4 fun r => (match r with | some i => K (.aptr i p j) [] | none => False)
  | .fref k i => Chk (fs.contains k) (K (.fref k i) [])
  | .fptr k i o => Chk (fs.contains k) (K (.fptr k i o) [])
  | .feptr k i j o => Chk (fs.contains k) (K (.feptr k i j o) [])
  | .faptr k i p j => Chk (fs.contains k) (K (.faptr k i p j) [])
  | .hro k o => Chk (fs.contains k) (K (.hro k o) [])
  | .hpo k o => Chk (fs.contains k) (K (.hpo k o) [])
  | .agg cs => viewVs os fs h cs fun cs ws => K (.agg cs) ws
  | .clo f cs => viewVs os fs h cs fun cs ws => K (.clo f cs) ws
  | .ifc T v => viewV os fs h v fun v ws => K (.ifc T v) ws
  | .nils => K (.lst (.int .i64) []) []
  | .int k n => K (.int k n) []
  | .bool b => K (.bool b) []
  | .tt => K .tt []
  | .ff => K .ff []
  | .str s => K (.str s) []
  | .lst t xs => K (.lst t xs) []
  | .box t x => K (.box t x) []
  | .nilp => K .nilp []
  | .nilf => K .nilf []
  | .nili => K .nili []
  | .obo t o => K (.obo t o) []
  | .junk => K .junk []
  | _ => False
def viewVs (os fs : List Nat) (h : VH) (l : List V) (K : List V → List Nat → Prop) : Prop :=
  match l with
  | [] => K [] []
  | v :: l => viewV os fs h v fun v ws => viewVs os fs h l fun l ws' => K (v :: l) (ws ++ ws')
end
/-- what may be read -/
def RdOK (h : VH) (os : List Nat) (b : Nat) : Prop := b ∉ os ∧ ((∃ E t, ∃ xs : List (Ty.den t), t.pure = true ∧ look h b = some (.row E t xs)) ∨ (∃ t, ∃ xs : List (Ty.den t), look h b = some (.froz t xs)) ∨ ∃ t, ∃ x : Ty.den t, look h b = some (.fvb t x))
/-- the callee's blocks -/
structure HinOK (os fs : List Nat) (h : VH) (hin : HL) : Prop where
  low : ∀ k ∈ fs, k < 4
  sgl : ∀ m b, os[m]? = some b → Live hin (4 + m, 0)
  fam : ∀ k ∈ fs, ∀ i, Live (toH h) (k, i) → Live hin (k, i)
theorem vlive_sgl {os fs : List Nat} {n : Nat} {h : VH} {hin : HL} (H : HinOK os fs h hin) {m b : Nat} (hb : os[m]? = some b) : VLive (toH h) (gI (gN os n)) hin fs (4 + m, 0) ∧ gI (gN os n) (4 + m, 0) = (b, 0) :=
  ⟨.inl (H.sgl m b hb), by simp only [gI, gN_high, nameO_lt hb]⟩
theorem vlive_fam {os fs : List Nat} {n : Nat} {h : VH} {hin : HL} (H : HinOK os fs h hin) {k : Nat} (hk : k ∈ fs) (i : Nat) : VLive (toH h) (gI (gN os n)) hin fs (k, i) ∧ gI (gN os n) (k, i) = (k, i) := by
  have e : gI (gN os n) (k, i) = (k, i) := by simp only [gI, gN_low os n (H.low k hk)]
  exact ⟨.inr ⟨by rw [e]; exact hk, fun hl => H.fam k hk i (by rw [e] at hl; exact hl)⟩, e⟩
section
variable {os fs : List Nat} {n : Nat} {h : VH} {hin : HL} {W : List Id}
theorem view_ref (H : HinOK os fs h hin) {m b : Nat} (hb : os[m]? = some b) : View (toH h) (gI (gN os n)) hin W fs (.ref (b, 0)) (.ref (4 + m, 0)) := by
  obtain ⟨h1, h2⟩ := vlive_sgl (n := n) H hb
  have := View.ref (W := W) _ h1
  rwa [h2] at this
theorem view_ptr (H : HinOK os fs h hin) {m b : Nat} (hb : os[m]? = some b) (o : Nat) : View (toH h) (gI (gN os n)) hin W fs (.ptr (b, 0) o) (.ptr (4 + m, 0) o) := by
  obtain ⟨h1, h2⟩ := vlive_sgl (n := n) H hb
  have := View.ptr (W := W) _ o h1
  rwa [h2] at this
theorem view_eptr (H : HinOK os fs h hin) {m b : Nat} (hb : os[m]? = some b) (j o : Nat) : View (toH h) (gI (gN os n)) hin W fs (.eptr (b, 0) j o) (.eptr (4 + m, 0) j o) := by
  obtain ⟨h1, h2⟩ := vlive_sgl (n := n) H hb
  have := View.eptr (W := W) _ j o h1
  rwa [h2] at this
theorem view_vref (H : HinOK os fs h hin) {m b : Nat} (hb : os[m]? = some b) (o q : Nat) : View (toH h) (gI (gN os n)) hin W fs (.vref (b, 0) o q) (.vref (4 + m, 0) o q) := by
  obtain ⟨h1, h2⟩ := vlive_sgl (n := n) H hb
  have := View.vref (W := W) _ o q h1
  rwa [h2] at this
theorem view_fref (H : HinOK os fs h hin) {k : Nat} (hk : k ∈ fs) (i : Nat) : View (toH h) (gI (gN os n)) hin W fs (.ref (k, i)) (.ref (k, i)) := by
  obtain ⟨h1, h2⟩ := vlive_fam (n := n) H hk i
  have := View.ref (W := W) _ h1
  rwa [h2] at this
theorem view_fptr (H : HinOK os fs h hin) {k : Nat} (hk : k ∈ fs) (i o : Nat) : View (toH h) (gI (gN os n)) hin W fs (.ptr (k, i) o) (.ptr (k, i) o) := by
  obtain ⟨h1, h2⟩ := vlive_fam (n := n) H hk i
  have := View.ptr (W := W) _ o h1
  rwa [h2] at this
theorem view_feptr (H : HinOK os fs h hin) {k : Nat} (hk : k ∈ fs) (i j o : Nat) : View (toH h) (gI (gN os n)) hin W fs (.eptr (k, i) j o) (.eptr (k, i) j o) := by
  obtain ⟨h1, h2⟩ := vlive_fam (n := n) H hk i
  have := View.eptr (W := W) _ j o h1
  rwa [h2] at this
theorem view_hr (H : HinOK os fs h hin) {k : Nat} (hk : k ∈ fs) (o : Option Nat) : View (toH h) (gI (gN os n)) hin W fs (hrD k o) (hrD k o) := by
  cases o with
  | none => exact .pure 0 _ _ rfl (fun b hb => by cases hb)
  | some i => exact view_fref H hk i
theorem view_hp (H : HinOK os fs h hin) {k : Nat} (hk : k ∈ fs) (o : Option Nat) : View (toH h) (gI (gN os n)) hin W fs (hpD k o) (hpD k o) := by
  cases o with
  | none => exact .pure 0 _ _ rfl (fun b hb => by cases hb)
  | some i => exact view_fptr H hk i 0
theorem view_leaf {d d' : D} {g : Id → Id} {hh : HL} (hd : leaf d = some d') : View hh g hin W fs d d' := .pure 0 _ _ hd (fun b hb => by cases hb)
theorem view_agg {cs : List D} {g : Id → Id} {hh : HL} (hc : ∀ c ∈ cs, View hh g hin W fs c c) : View hh g hin W fs (.agg cs) (.agg cs) := .agg cs cs rfl fun i hi => hc _ (getD_mem hi)
theorem view_enc (H : HinOK os fs h hin) {t : Ty} (ht : ∀ k ∈ t.fams, k ∈ fs) (x : t.den) : View (toH h) (gI (gN os n)) hin W fs (encD t x) (encD t x) := by
  by_cases hp : t.pure = true
  · by_cases hag : ∃ cs, encD t x = .agg cs
    · obtain ⟨cs, he⟩ := hag
      have := pure_leaf hp x
      rw [he] at this ⊢
      exact view_agg fun c hc => view_leaf (this c hc)
    · have hc : (encD t x).cells = [encD t x] := cells_single fun cs hcs => hag ⟨cs, hcs⟩
      exact view_leaf (pure_leaf hp x _ (by rw [hc]; exact List.mem_singleton.2 rfl))
  · have lf : ∀ d : D, leaf d = some d → View (toH h) (gI (gN os n)) hin W fs d d := fun d hd => view_leaf hd
    cases t <;> simp only [Ty.pure, not_true_eq_false] at hp
    case hr k => exact view_hr H (ht k (by simp [Ty.fams])) x
    case hp k => exact view_hp H (ht k (by simp [Ty.fams])) x
    case vtxo k =>
      refine view_agg fun c hc => ?_
      simp only [List.mem_cons, List.not_mem_nil, or_false] at hc
      rcases hc with rfl | rfl | rfl | rfl
      · exact lf _ rfl
      · exact lf _ rfl
      · exact view_hr H (ht k (by simp [Ty.fams])) _
      · exact lf _ rfl
    case pplm k =>
      refine view_agg fun c hc => ?_
      simp only [vtxC, List.cons_append, List.nil_append, List.mem_cons, List.not_mem_nil, or_false] at hc
      rcases hc with rfl | rfl | rfl | rfl | rfl
      · exact lf _ rfl
      · exact lf _ rfl
      · exact lf _ rfl
      · exact lf _ rfl
      · exact view_hr H (ht k (by simp [Ty.fams])) _
    case pplo k k' =>
      refine view_agg fun c hc => ?_
      simp only [List.mem_cons, List.not_mem_nil, or_false] at hc
      rcases hc with rfl | rfl | rfl | rfl | rfl
      · exact lf _ rfl
      · exact lf _ rfl
      · exact view_hr H (ht k (by simp [Ty.fams])) _
      · exact lf _ rfl
      · exact view_hr H (ht k' (by simp [Ty.fams])) _
    case nod k =>
      refine view_agg fun c hc => ?_
      simp only [vtxC, List.cons_append, List.nil_append, List.mem_cons, List.not_mem_nil, or_false] at hc
      rcases hc with rfl | rfl | rfl | rfl | rfl | rfl
      · exact lf _ rfl
      · exact lf _ rfl
      · exact lf _ rfl
      · exact lf _ rfl
      · exact lf _ rfl
      · exact view_hr H (ht k (by simp [Ty.fams])) _
theorem view_rd {b : Nat} (hw : (b, 0) ∈ W) {t : Ty} {xs : List t.den} {g : Id → Id} (hb : (∃ E, t.pure = true ∧ look h b = some (.row E t xs)) ∨ look h b = some (.froz t xs)) : View (toH h) g hin W fs (.ref (b, 0)) (.lst (xs.map (encD t))) := by
  refine .pure 1 _ _ ?_ fun c hc => ?_
  · rcases hb with ⟨E, hp, hb⟩ | hb
    · have hl := look_at (i := 0) hb (d := .row E (xs.map (encD t))) rfl
      simp only [purD, hl]
      rw [show (fun x => leaf x) = leaf from rfl, row_pure hp]
      rfl
    · have hl := look_at (i := 0) hb (d := .froz (xs.map (encD t))) rfl
      simp only [purD, hl]
  · unfold idsD at hc
    rcases List.mem_cons.1 hc with rfl | hc
    · exact hw
    · exfalso
      split at hc
      · rw [List.mem_flatMap] at hc
        obtain ⟨e, _, hc⟩ := hc
        rw [List.mem_flatMap] at hc
        obtain ⟨d, _, hc⟩ := hc
        cases hc
      · cases hc
end
end Go.Proofs.Ytkclhekkcffpoaa.Am
