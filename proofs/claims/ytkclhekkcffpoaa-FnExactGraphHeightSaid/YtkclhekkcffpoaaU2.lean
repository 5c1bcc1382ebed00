/- The plain machine with types: what is known of the program's types; the parts of a step. -/
import Derived.Test.YtkclhekkcffpoaaU1
namespace Go.Proofs.Ytkclhekkcffpoaa.Am
set_option linter.unusedSimpArgs false
set_option linter.unusedVariables false
open Go Go.RowKit

inductive TK where
  | int (k : IntKind) | bool | str | slice (E : TypeId) | ptr (E : TypeId) | ifc | func
  /-- the fields' types, places and sizes -/
  | struct (fs : List (Nat × Nat × Nat))
  | arr (n : Nat) (E : TypeId)
structure TI where
  k : TK
  sz : Nat
  nb : Nat
  z : Option V
  ty : Option Ty
  own : Bool := false
def TI.agg (ti : TI) : Bool := match ti.k with | .struct _ => true | .arr .. => true | _ => false

def TK.ok (P : Program) (T : TypeId) : TK → Prop
  | .int k => P.underlying T = some (.int k)
  | .bool => P.underlying T = some .bool
  | .str => P.underlying T = some .string
  | .slice E => P.underlying T = some (.slice E)
  | .ptr E => P.underlying T = some (.pointer E)
  | .ifc => isIfc P T = true
  | .func => True
  | .struct fs => (∀ i ty off s, fs[i]? = some (ty, off, s) → fieldP P T i = some (ty, off) ∧ (0 < s → fieldT P T i = some off)) ∧ placesT P T = some (fs.map fun f => (f.2.1, f.2.2))
  | .arr n E => P.underlying T = some (.array n E)
structure TI.ok (P : Program) (T : TypeId) (ti : TI) : Prop where
  und : ti.k.ok P T
  size : sizeT P T = some ti.sz
  agg : isAggT P T = some ti.agg
  zero : ∀ z, ti.z = some z → ofZero P T = some z.toD
  elem : ti.z.isSome = true → 0 < ti.sz → elemT P T = some (ti.sz, ti.nb)

def vB : Value → V → Bool
  | .int k n, .int k' n' => decide (k = k') && n == n'
  | .bool b, .bool b' => b == b'
  | .string s, .str s' => decide (s = s')
  | .pointer none, .nilp => true
  | .slice none 0 0, .nils => true
  | .nilFunc, .nilf => true
  | .nilIface, .nili => true
  | _, _ => false
theorem vB_ok {v : Value} {x : V} (h : vB v x = true) : ofVal v = some x.toD := by
  unfold vB at h
  split at h
  · simp only [Bool.and_eq_true, decide_eq_true_eq, beq_iff_eq] at h
    obtain ⟨rfl, rfl⟩ := h
    rfl
  · simp only [beq_iff_eq] at h
    subst h
    rfl
  · simp only [decide_eq_true_eq] at h
    subst h
    rfl
  · rfl
  · rfl
  · rfl
  · rfl
  · cases h
def vsB : List Value → List V → Bool
  | [], [] => true
  | v :: vs, x :: xs => vB v x && vsB vs xs
  | _, _ => false
theorem vsB_ok : ∀ {vs : List Value} {xs : List V}, vsB vs xs = true → vs.mapM ofVal = some (toDL xs)
  | [], [], _ => rfl
  | [], _ :: _, h => by cases h
  | _ :: _, [], h => by cases h
  | v :: vs, x :: xs, h => by
    simp only [vsB, Bool.and_eq_true] at h
    simp [List.mapM_cons, vB_ok h.1, vsB_ok h.2, toDL]
def zB : Option Value → Option V → Bool
  | _, none => true
  | some (.agg vs), some (.agg xs) => vsB vs.toList xs
  | some (.agg _), some _ => false
  | some v, some x => vB v x
  | none, some _ => false
def kB (P : Program) (T : TypeId) (k : TK) : Bool :=
  match k, P.underlying T with
  | .int k, some (.int k') => decide (k = k')
  | .bool, some .bool => true
  | .str, some .string => true
  | .slice E, some (.slice E') => E == E'
  | .ptr E, some (.pointer E') => E == E'
  | .ifc, some (.interface _) => true
  | .func, some (.func ..) => true
  | .struct fs, some (.struct a) => decide (fs.map (fun f => (f.1, f.2.1)) = a.toList.map fun f => (f.type, f.offset)) && fs.all fun f => match P.info? f.1 with | some i => i.size == f.2.2 | none => false
  | .arr n E, some (.array n' E') => n == n' && E == E'
  | _, _ => false
def tiB (P : Program) (T : TypeId) (ti : TI) : Bool :=
  kB P T ti.k && (match P.info? T with
    | some i => i.size == ti.sz && i.bytes == ti.nb && zB i.zero ti.z && (match i.zero with | some z => z.cells.size == i.size | none => true)
    | none => false)

theorem mapM_some {α β : Type} {f : α → Option β} {g : α → β} : ∀ {l : List α}, (∀ x ∈ l, f x = some (g x)) → l.mapM f = some (l.map g)
  | [], _ => rfl
  | a :: l, h => by simp [List.mapM_cons, h a (List.mem_cons_self ..), mapM_some fun x hx => h x (List.mem_cons_of_mem _ hx)]

theorem zB_ok {P : Program} {T : TypeId} {i : TypeInfo} (hi : P.info? T = some i) {z : V} (h : zB i.zero (some z) = true) : ofZero P T = some z.toD := by
  unfold ofZero
  rw [hi]
  simp only [Option.bind_some]
  unfold zB at h
  split at h
  · rename_i e; cases e
  · rename_i vs xs e1 e2
    simp only [Option.some.injEq] at e2
    subst e2
    rw [e1]
    simp only [vsB_ok h, Option.map_some, V.toD]
  · cases h
  · rename_i v x hne e1 e2
    simp only [Option.some.injEq] at e2
    subst e2
    rw [e1]
    split
    · rename_i vs e
      simp only [Option.some.injEq] at e
      subst e
      exact absurd rfl (hne vs)
    · rename_i e
      simp only [Option.some.injEq] at e
      subst e
      exact vB_ok h
    · rename_i e; cases e
  · cases h

theorem kB_ok {P : Program} {T : TypeId} {k : TK} (h : kB P T k = true) : k.ok P T := by
  unfold kB at h
  split at h
  · rename_i e; simp only [decide_eq_true_eq] at h; subst h; exact e
  · rename_i e; exact e
  · rename_i e; exact e
  · rename_i e; simp only [beq_iff_eq] at h; subst h; exact e
  · rename_i e; simp only [beq_iff_eq] at h; subst h; exact e
  · rename_i e; show isIfc P T = true; unfold isIfc; rw [e]
  · trivial
  · rename_i fs a e
    simp only [Bool.and_eq_true, decide_eq_true_eq, List.all_eq_true] at h
    obtain ⟨h1, h2⟩ := h
    have hsz : ∀ f ∈ fs, ∃ i, P.info? f.1 = some i ∧ i.size = f.2.2 := by
      intro f hf
      have := h2 f hf
      split at this
      · rename_i i hi; exact ⟨i, hi, by simpa using this⟩
      · cases this
    refine ⟨fun i ty off s hi => ?_, ?_⟩
    · have hm : (fs.map fun f => (f.1, f.2.1))[i]? = some (ty, off) := by rw [List.getElem?_map, hi]; rfl
      rw [h1, List.getElem?_map] at hm
      obtain ⟨fd, hfd, he⟩ := Option.map_eq_some_iff.1 hm
      simp only [Prod.mk.injEq] at he
      obtain ⟨rfl, rfl⟩ := he
      have hfd' : a[i]? = some fd := by simpa using hfd
      obtain ⟨ii, hi1, hi2⟩ := hsz _ (List.mem_of_getElem? hi)
      simp only at hi1 hi2
      refine ⟨by unfold fieldP; simp [e, hfd'], fun hs => ?_⟩
      unfold fieldT
      have : sizeT P fd.type = some s := by unfold sizeT; rw [hi1]; simp [hi2]
      simp only [e, hfd', this]
      cases s with
      | zero => omega
      | succ s => rfl
    · unfold placesT
      simp only [e]
      have hl : a.toList.length = fs.length := by have := congrArg List.length h1; simpa using this.symm
      have key : ∀ (l : List Field) (gs : List (Nat × Nat × Nat)), gs.map (fun f => (f.1, f.2.1)) = l.map (fun f => (f.type, f.offset)) → (∀ f ∈ gs, ∃ i, P.info? f.1 = some i ∧ i.size = f.2.2) →
          (l.mapM fun f => (P.info? f.type).map fun i => (f.offset, i.size)) = some (gs.map fun f => (f.2.1, f.2.2)) := by
        intro l
        induction l with
        | nil =>
          intro gs hg _
          cases gs with
          | nil => rfl
          | cons g gs => simp at hg
        | cons x l ih =>
          intro gs hg hs
          cases gs with
          | nil => simp at hg
          | cons g gs =>
            simp only [List.map_cons, List.cons.injEq, Prod.mk.injEq] at hg
            obtain ⟨⟨g1, g2⟩, g3⟩ := hg
            obtain ⟨i, hi1, hi2⟩ := hs g (List.mem_cons_self ..)
            rw [g1] at hi1
            simp [List.mapM_cons, hi1, ih gs g3 fun f hf => hs f (List.mem_cons_of_mem _ hf), hi2, g2]
      exact key _ _ h1 hsz
  · rename_i e; simp only [Bool.and_eq_true, beq_iff_eq] at h; obtain ⟨rfl, rfl⟩ := h; exact e
  · cases h

theorem tiB_ok {P : Program} {T : TypeId} {ti : TI} (h : tiB P T ti = true) : ti.ok P T := by
  unfold tiB at h
  simp only [Bool.and_eq_true] at h
  obtain ⟨hk, h⟩ := h
  split at h
  · rename_i i hi
    simp only [Bool.and_eq_true, beq_iff_eq] at h
    obtain ⟨⟨⟨h1, h2⟩, h3⟩, h4⟩ := h
    refine ⟨kB_ok hk, by unfold sizeT; rw [hi]; simp [h1], ?_, fun z hz => zB_ok hi (by rw [← hz]; exact h3), fun hz hp => ?_⟩
    · unfold isAggT TI.agg
      unfold kB at hk
      split at hk <;> simp_all
    · unfold elemT
      rw [hi]
      simp only
      cases hzz : i.zero with
      | none =>
        rw [hzz] at h3
        cases hz' : ti.z with
        | none => rw [hz'] at hz; cases hz
        | some z => rw [hz'] at h3; simp [zB] at h3
      | some z =>
        rw [hzz] at h4
        simp only [beq_iff_eq] at h4
        show (if z.cells.size = i.size ∧ 0 < i.size then some (i.size, i.bytes) else none) = _
        rw [if_pos ⟨h4, by omega⟩, h1, h2]
  · cases h

/-- the table of the types -/
abbrev TT := List (Nat × TI)
def TT.ok (P : Program) (Θ : TT) : Prop := ∀ T ti, look Θ T = some ti → ti.ok P T
def TT.okB (P : Program) (Θ : TT) : Bool := Θ.all fun p => tiB P p.1 p.2
theorem TT.okB_ok {P : Program} {Θ : TT} (h : Θ.okB P = true) : Θ.ok P := fun T ti hl => tiB_ok (by
  unfold TT.okB at h
  rw [List.all_eq_true] at h
  exact h _ (look_mem hl))

/-! ### marks of what is to be shown -/
def Need (φ K : Prop) : Prop := φ ∧ K
def inR : IntKind → Int → Prop
  | .i8, n => -128 ≤ n ∧ n ≤ 127
  | .i16, n => -32768 ≤ n ∧ n ≤ 32767
  | .i32, n => -2147483648 ≤ n ∧ n ≤ 2147483647
  | .i64, n => -9223372036854775808 ≤ n ∧ n ≤ 9223372036854775807
  | .u8, n => 0 ≤ n ∧ n ≤ 255
  | .u16, n => 0 ≤ n ∧ n ≤ 65535
  | .u32, n => 0 ≤ n ∧ n ≤ 4294967295
  | .u64, n => 0 ≤ n ∧ n ≤ 18446744073709551615
theorem inR_wrap {k : IntKind} {n : Int} (h : inR k n) : k.wrap n = n := by
  unfold inR at h
  cases k <;> simp only at h <;> (unfold IntKind.wrap; simp [IntKind.bits, IntKind.signed]; omega)
/-- a sum, a product ..: z within the bounds of k; else it wraps -/
def Ari (k : IntKind) (z : Int) (K : Int → Prop) : Prop := (inR k z ∧ K z) ∨ K (k.wrap z)
theorem Ari.ok {k : IntKind} {z : Int} {K : Int → Prop} (h : Ari k z K) : K (k.wrap z) := by
  rcases h with ⟨h1, h2⟩ | h
  · rw [inR_wrap h1]; exact h2
  · exact h
/-- element i -/
def Get {α : Type} (xs : List α) (i : Nat) (K : α → Prop) : Prop := ∃ x, xs[i]? = some x ∧ K x
def Idx {α : Type} (xs : List α) (i : Int) (K : Nat → α → Prop) : Prop := 0 ≤ i ∧ ∃ x, xs[i.toNat]? = some x ∧ K i.toNat x
/-- a condition -/
def Cnd (b : Bool) (A B : Prop) : Prop := (b = true → A) ∧ (b = false → B)

/-! ### parts -/
def lookK {α : Type} : List (Nat × α) → Nat → (α → Prop) → Prop
  | [], _, _ => False
  | (k, a) :: l, x, K => bif Nat.beq x k then K a else lookK l x K
theorem lookK_ok {α : Type} : ∀ {l : List (Nat × α)} {x : Nat} {K : α → Prop}, lookK l x K → ∃ a, look l x = some a ∧ K a
  | [], _, _, h => h.elim
  | (k, a) :: l, x, K, h => by
    simp only [lookK] at h
    simp only [look]
    by_cases e : x = k
    · subst e
      simp only [Nat.beq_refl, cond_true] at h
      exact ⟨a, by simp, h⟩
    · have : Nat.beq x k = false := by
        cases hb : Nat.beq x k with
        | false => rfl
        | true => exact absurd (Nat.eq_of_beq_eq_true hb) e
      rw [this] at h
      simp only [cond_false] at h
      rw [if_neg e]
      exact lookK_ok h
/-- block b -/
def blkK (h : VH) (b : Nat) (K : VB → Prop) : Prop := lookK h b K
theorem blkK_ok {h : VH} {b : Nat} {K : VB → Prop} (hk : blkK h b K) : ∃ x, look h b = some x ∧ K x := lookK_ok hk
/-- what D-level finds -/
theorem look_at {h : VH} {k i : Nat} {x : VB} {d : Blk} (h1 : look h k = some x) (h2 : x.blks[i]? = some d) : look (toH h) (k, i) = some d := by rw [look_toH, h1]; exact h2
def ofValV : Value → Option V
  | .int k n => some (.int k n)
  | .bool true => some .tt
  | .bool false => some .ff
  | .string s => some (.str s)
  | .pointer none => some .nilp
  | .slice none 0 0 => some .nils
  | .nilFunc => some .nilf
  | .nilIface => some .nili
  | _ => none
theorem ofValV_ok {v : Value} {x : V} (h : ofValV v = some x) : ofVal v = some x.toD := by
  unfold ofValV at h
  split at h <;> first | (simp only [Option.some.injEq] at h; subst h; rfl) | cases h
/-- an operand -/
def evO (t : VT) (x : Operand) (K : V → Prop) : Prop :=
  match x with
  | .tmp k => lookK t k K
  | .const v => (match ofValV v with | some d => K d | none => False)
  | _ => False
theorem evO_ok {t : VT} {x : Operand} {K : V → Prop} (h : evO t x K) : ∃ v, evalD (toT t) x = some v.toD ∧ K v := by
  unfold evO at h
  split at h
  · obtain ⟨v, h1, h2⟩ := lookK_ok h
    exact ⟨v, by simp only [evalD, look_toT, h1, Option.map_some], h2⟩
  · split at h
    · rename_i d hd
      exact ⟨d, ofValV_ok hd, h⟩
    · exact h.elim
  · exact h.elim
def evOs (t : VT) : List Operand → (List V → Prop) → Prop
  | [], K => K []
  | x :: l, K => evO t x fun v => evOs t l fun vs => K (v :: vs)
theorem evOs_ok {t : VT} : ∀ {l : List Operand} {K : List V → Prop}, evOs t l K → ∃ vs, evalDs (toT t) l = some (toDL vs) ∧ K vs
  | [], K, h => ⟨[], rfl, h⟩
  | x :: l, K, h => by
    obtain ⟨v, h1, h2⟩ := evO_ok h
    obtain ⟨vs, h3, h4⟩ := evOs_ok h2
    exact ⟨v :: vs, evalDs_cons h1 h3, h4⟩
def toP (l : List (Nat × V)) : List (Nat × D) := l.map fun p => (p.1, p.2.toD)
def evPs (t : VT) : List (Nat × Operand) → (List (Nat × V) → Prop) → Prop
  | [], K => K []
  | (k, x) :: l, K => evO t x fun v => evPs t l fun vs => K ((k, v) :: vs)
theorem evPs_ok {t : VT} : ∀ {l : List (Nat × Operand)} {K : List (Nat × V) → Prop}, evPs t l K → ∃ vs, evalPs (toT t) l = some (toP vs) ∧ K vs
  | [], K, h => ⟨[], rfl, h⟩
  | (k, x) :: l, K, h => by
    obtain ⟨v, h1, h2⟩ := evO_ok h
    obtain ⟨vs, h3, h4⟩ := evPs_ok h2
    exact ⟨(k, v) :: vs, evalPs_cons h1 h3, h4⟩
def nthK {α : Type} : List α → Nat → (α → Prop) → Prop
  | [], _, _ => False
  | c :: _, 0, K => K c
  | _ :: cs, n + 1, K => nthK cs n K
theorem nthK_ok {α : Type} : ∀ {l : List α} {n : Nat} {K : α → Prop}, nthK l n K → ∃ x, l[n]? = some x ∧ K x
  | [], _, _, h => h.elim
  | c :: _, 0, K, h => ⟨c, rfl, h⟩
  | _ :: cs, n + 1, K, h => by
    obtain ⟨x, h1, h2⟩ := nthK_ok (l := cs) (n := n) h
    exact ⟨x, by simpa using h1, h2⟩
def takeN : List V → Nat → (List V → Prop) → Prop
  | _, 0, K => K []
  | [], _ + 1, _ => False
  | c :: cs, n + 1, K => takeN cs n fun r => K (c :: r)
theorem takeN_ok : ∀ {l : List V} {n : Nat} {K : List V → Prop}, takeN l n K → n ≤ l.length ∧ K (l.take n)
  | l, 0, K, h => ⟨Nat.zero_le _, by cases l <;> simpa [takeN] using h⟩
  | [], _ + 1, _, h => h.elim
  | c :: cs, n + 1, K, h => by
    obtain ⟨h1, h2⟩ := takeN_ok (l := cs) (n := n) h
    exact ⟨by simpa using h1, by simpa using h2⟩
def subK : List V → Nat → Nat → (List V → Prop) → Prop
  | l, 0, s, K => takeN l s K
  | [], _ + 1, _, _ => False
  | _ :: cs, o + 1, s, K => subK cs o s K
theorem subK_ok : ∀ {l : List V} {o s : Nat} {K : List V → Prop}, subK l o s K → o + s ≤ l.length ∧ K ((l.drop o).take s)
  | l, 0, s, K, h => by
    have h' : takeN l s K := by cases l <;> simpa [subK] using h
    obtain ⟨h1, h2⟩ := takeN_ok h'
    exact ⟨by omega, by simpa using h2⟩
  | [], _ + 1, _, _, h => h.elim
  | _ :: cs, o + 1, s, K, h => by
    obtain ⟨h1, h2⟩ := subK_ok (l := cs) (o := o) h
    exact ⟨by simp only [List.length_cons]; omega, by simpa using h2⟩
/-- m is laid over l from o on -/
def overK : List V → List V → (List V → Prop) → Prop
  | l, [], K => K l
  | [], _ :: _, _ => False
  | _ :: l, x :: m, K => overK l m fun r => K (x :: r)
def splK : List V → Nat → List V → (List V → Prop) → Prop
  | l, 0, m, K => overK l m K
  | [], _ + 1, _, _ => False
  | c :: l, o + 1, m, K => splK l o m fun r => K (c :: r)
theorem overK_ok : ∀ {l m : List V} {K : List V → Prop}, overK l m K → m.length ≤ l.length ∧ K (m ++ l.drop m.length)
  | l, [], K, h => ⟨Nat.zero_le _, by cases l <;> simpa [overK] using h⟩
  | [], _ :: _, _, h => h.elim
  | _ :: l, x :: m, K, h => by
    obtain ⟨h1, h2⟩ := overK_ok (l := l) (m := m) h
    exact ⟨by simpa using h1, by simpa using h2⟩
theorem splK_ok : ∀ {l : List V} {o : Nat} {m : List V} {K : List V → Prop}, splK l o m K → o + m.length ≤ l.length ∧ K (l.take o ++ m ++ l.drop (o + m.length))
  | l, 0, m, K, h => by
    have h' : overK l m K := by cases l <;> simpa [splK] using h
    obtain ⟨h1, h2⟩ := overK_ok h'
    exact ⟨by omega, by simpa using h2⟩
  | [], _ + 1, _, _, h => h.elim
  | c :: l, o + 1, m, K, h => by
    obtain ⟨h1, h2⟩ := splK_ok (l := l) (o := o) (m := m) h
    refine ⟨by simp only [List.length_cons]; omega, ?_⟩
    have : o + 1 + m.length = (o + m.length) + 1 := by omega
    rw [this]
    simpa using h2
theorem toDL_len (l : List V) : (toDL l).length = l.length := by rw [toDL_eq, List.length_map]
theorem toDL_spl (l m : List V) (o : Nat) : splice (toDL l) o (toDL m) = toDL (l.take o ++ m ++ l.drop (o + m.length)) := by
  simp only [splice, toDL_eq, List.map_append, List.map_take, List.map_drop, List.length_map]
def V.cells : V → List V
  | .agg cs => cs
  | v => [v]
theorem toD_cells (v : V) : v.toD.cells = toDL v.cells := by
  cases v
  case hro k o => cases o <;> rfl
  case hpo k o => cases o <;> rfl
  case obo t o => cases o <;> rfl
  all_goals rfl
/-- the value of a type of which ti tells, at place o -/
def takeK (ti : TI) (cs : List V) (o : Nat) (K : V → Prop) : Prop := bif ti.agg then subK cs o ti.sz fun r => K (.agg r) else nthK cs o K
theorem takeK_ok {P : Program} {T : TypeId} {ti : TI} (ht : ti.ok P T) {cs : List V} {o : Nat} {K : V → Prop} (h : takeK ti cs o K) : ∃ v, takeVal P T (toDL cs) o = some v.toD ∧ K v := by
  unfold takeK at h
  have ha := ht.agg
  cases hb : ti.agg with
  | true =>
    rw [hb] at h ha
    obtain ⟨h1, h2⟩ := subK_ok h
    refine ⟨_, takeA ha ht.size (by rw [toDL_len]; exact h1) ?_, h2⟩
    simp only [toDL_eq, ← List.map_take, ← List.map_drop]
  | false =>
    rw [hb] at h ha
    obtain ⟨v, h1, h2⟩ := nthK_ok h
    exact ⟨v, take1 ha (by rw [toDL_eq, List.getElem?_map, h1]; rfl), h2⟩
theorem takeVal_left {P : Program} {T : TypeId} {A B : List D} {o : Nat} {d : D} (h : takeVal P T A o = some d) : takeVal P T (A ++ B) o = some d := by
  unfold takeVal at h ⊢
  cases h1 : isAggT P T with
  | none => rw [h1] at h; simp at h
  | some b =>
    cases b with
    | true =>
      cases h2 : sizeT P T with
      | none => rw [h1, h2] at h; simp at h
      | some s =>
        rw [h1, h2] at h
        simp only at h ⊢
        split at h
        · rename_i hle
          rw [if_pos (by rw [List.length_append]; omega), ← h]
          congr 2
          rw [List.drop_append_of_le_length (by omega), List.take_append_of_le_length (by rw [List.length_drop]; omega)]
        · cases h
    | false =>
      rw [h1] at h
      simp only at h ⊢
      have hlt := (List.getElem?_eq_some_iff.1 h).1
      rw [List.getElem?_append_left hlt]
      exact h
theorem takeVal_right {P : Program} {T : TypeId} {A B : List D} {o : Nat} {d : D} (h : takeVal P T B o = some d) : takeVal P T (A ++ B) (A.length + o) = some d := by
  unfold takeVal at h ⊢
  cases h1 : isAggT P T with
  | none => rw [h1] at h; simp at h
  | some b =>
    cases b with
    | true =>
      cases h2 : sizeT P T with
      | none => rw [h1, h2] at h; simp at h
      | some s =>
        rw [h1, h2] at h
        simp only at h ⊢
        split at h
        · rename_i hle
          rw [if_pos (by rw [List.length_append]; omega), ← h]
          congr 2
          rw [List.drop_append, List.drop_of_length_le (by omega), List.nil_append, Nat.add_sub_cancel_left]
        · cases h
    | false =>
      rw [h1] at h
      simp only at h ⊢
      rw [List.getElem?_append_right (by omega)]
      simpa using h
end Go.Proofs.Ytkclhekkcffpoaa.Am
