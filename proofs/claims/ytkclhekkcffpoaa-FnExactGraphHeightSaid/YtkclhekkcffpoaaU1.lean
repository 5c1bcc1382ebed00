/- The plain machine with types: kinds of data, values, blocks. -/
import Derived.Test.YtkclhekkcffpoaaB19
namespace Go.Proofs.Ytkclhekkcffpoaa.Am
set_option linter.unusedSimpArgs false
set_option linter.unusedVariables false
open Go Go.RowKit

structure Txn where
  a : Int
  b : Int
  s : Int
  e : Int
structure Led where
  b : List Int
  f : Int
structure Vtx where
  round : Int
  author : Int
  parents : List Int
  digest : Int
structure Ppl where
  v : Vtx
  members : List Int
structure Wrl where
  com : List Int
  lead : List Int
  bad : Int
  views : List (List Vtx)
  props : List Ppl
structure Evt where
  kind : Int
  a : Int
  b : Int
  v : Vtx
structure Slt where
  round : Int
  author : Int
deriving DecidableEq
/-- with parents, members in rows of the call's own -/
structure VtxO where
  round : Int
  author : Int
  parents : Option Nat
  digest : Int
structure PplM where
  v : Vtx
  members : Option Nat
structure PplO where
  v : VtxO
  members : Option Nat
structure Nod where
  v : Vtx
  index : Int
  parents : Option Nat
structure Odd where
  v : Vtx
  wave : Int

/-- the kinds of data that a slice may hold; hr k: a slice, a row of family k; hp k: a pointer to a variable of family k; ob t: a pointer to what is only read -/
inductive Ty where
  | int (k : IntKind) | bool | str | lst (t : Ty) | txn | led | vtx | ppl | wrl | evt | slt | odd | ob (t : Ty)
  | hr (k : Nat) | hp (k : Nat) | vtxo (k : Nat) | pplm (k : Nat) | pplo (k k' : Nat) | nod (k : Nat)
  deriving DecidableEq

abbrev Ty.den : Ty → Type
  | .int _ => Int
  | .bool => Bool
  | .str => ByteArray
  | .lst t => List t.den
  | .txn => Txn
  | .led => Led
  | .vtx => Vtx
  | .ppl => Ppl
  | .wrl => Wrl
  | .evt => Evt
  | .slt => Slt
  | .odd => Odd
  | .ob t => Option t.den
  | .hr _ => Option Nat
  | .hp _ => Option Nat
  | .vtxo _ => VtxO
  | .pplm _ => PplM
  | .pplo .. => PplO
  | .nod _ => Nod

def intsD (l : List Int) : D := .lst (l.map (.int .i64))
def vtxC (v : Vtx) : List D := [.int .i64 v.round, .int .i64 v.author, intsD v.parents, .int .i64 v.digest]
def vtxsD (l : List Vtx) : D := .lst (l.map fun v => .agg (vtxC v))
def pplC (p : Ppl) : List D := vtxC p.v ++ [intsD p.members]
def hrD (k : Nat) : Option Nat → D
  | some i => .ref (k, i)
  | none => .lst []
def hpD (k : Nat) : Option Nat → D
  | some i => .ptr (k, i) 0
  | none => .nilp
def encD : (t : Ty) → t.den → D
  | .int k, n => .int k n
  | .bool, b => .bool b
  | .str, s => .str s
  | .lst t, xs => .lst (xs.map (encD t))
  | .txn, x => .agg [.int .i64 x.a, .int .i64 x.b, .int .i64 x.s, .int .i64 x.e]
  | .led, x => .agg [intsD x.b, .int .i64 x.f]
  | .vtx, x => .agg (vtxC x)
  | .ppl, x => .agg (pplC x)
  | .wrl, x => .agg [intsD x.com, intsD x.lead, .int .i64 x.bad, .lst (x.views.map vtxsD), .lst (x.props.map fun p => .agg (pplC p))]
  | .evt, x => .agg ([.int .i64 x.kind, .int .i64 x.a, .int .i64 x.b] ++ vtxC x.v)
  | .slt, x => .agg [.int .i64 x.round, .int .i64 x.author]
  | .odd, x => .agg (vtxC x.v ++ [.int .i64 x.wave])
  | .ob t, some x => .box (encD t x).cells
  | .ob _, none => .nilp
  | .hr k, o => hrD k o
  | .hp k, o => hpD k o
  | .vtxo k, x => .agg [.int .i64 x.round, .int .i64 x.author, hrD k x.parents, .int .i64 x.digest]
  | .pplm k, x => .agg (vtxC x.v ++ [hrD k x.members])
  | .pplo k k', x => .agg [.int .i64 x.v.round, .int .i64 x.v.author, hrD k x.v.parents, .int .i64 x.v.digest, hrD k' x.members]
  | .nod k, x => .agg (vtxC x.v ++ [.int .i64 x.index, hrD k x.parents])

inductive V where
  | int (k : IntKind) (n : Int)
  | bool (b : Bool)
  /-- what is known to be true, false -/
  | tt
  | ff
  | str (s : ByteArray)
  /-- a slice that is only read -/
  | lst (t : Ty) (xs : List t.den)
  /-- a pointer to what is only read -/
  | box (t : Ty) (x : t.den)
  | agg (cs : List V)
  | tup (cs : List V)
  | nilp
  | nils
  | nilf
  | nili
  | ifc (T : TypeId) (v : V)
  | clo (f : FuncId) (cs : List V)
  | ref (b : Nat)
  | ptr (b o : Nat)
  | eptr (b i o : Nat)
  | iptr (t : Ty) (x : t.den) (o : Nat)
  | vref (b o n : Nat)
  /-- place i of an array that lies from p on in variable b -/
  | aptr (b p i : Nat)
  /-- row i of family k; variable i of family k; element j of such a row; place j of an array within such a variable -/
  | fref (k i : Nat)
  | fptr (k i o : Nat)
  | feptr (k i j o : Nat)
  | faptr (k i p j : Nat)
  /-- what may be nil -/
  | hro (k : Nat) (o : Option Nat)
  | hpo (k : Nat) (o : Option Nat)
  | obo (t : Ty) (o : Option t.den)
  | undef
  | junk

mutual
def V.toD : V → D
  | .int k n => .int k n
  | .bool b => .bool b
  | .tt => .bool true
  | .ff => .bool false
  | .str s => .str s
  | .lst t xs => .lst (xs.map (encD t))
  | .box t x => .box (encD t x).cells
  | .agg cs => .agg (toDL cs)
  | .tup cs => .tup (toDL cs)
  | .nilp => .nilp
  | .nils => .nils
  | .nilf => .nilf
  | .nili => .nili
  | .ifc T v => .ifc T v.toD
  | .clo f cs => .clo f (toDL cs)
  | .ref b => .ref (b, 0)
  | .ptr b o => .ptr (b, 0) o
  | .eptr b i o => .eptr (b, 0) i o
  | .iptr t x o => .iptr (encD t x) o
  | .vref b o n => .vref (b, 0) o n
  | .aptr b p i => .ptr (b, 0) (p + i)
  | .fref k i => .ref (k, i)
  | .fptr k i o => .ptr (k, i) o
  | .feptr k i j o => .eptr (k, i) j o
  | .faptr k i p j => .ptr (k, i) (p + j)
  | .hro k o => hrD k o
  | .hpo k o => hpD k o
  | .obo t o => encD (.ob t) o
  | .undef => .undef
  | .junk => .junk
def toDL : List V → List D
  | [] => []
  | v :: l => v.toD :: toDL l
end
theorem toDL_eq : ∀ l : List V, toDL l = l.map V.toD
  | [] => rfl
  | v :: l => by simp [toDL, toDL_eq l]

def ints (l : List Int) : V := .lst (.int .i64) l
def vtxV (v : Vtx) : List V := [.int .i64 v.round, .int .i64 v.author, .lst (.int .i64) v.parents, .int .i64 v.digest]
/-- data, its cells laid open -/
def enc : (t : Ty) → t.den → V
  | .int k, n => .int k n
  | .bool, b => .bool b
  | .str, s => .str s
  | .lst t, xs => .lst t xs
  | .txn, x => .agg [.int .i64 x.a, .int .i64 x.b, .int .i64 x.s, .int .i64 x.e]
  | .led, x => .agg [.lst (.int .i64) x.b, .int .i64 x.f]
  | .vtx, x => .agg [.int .i64 x.round, .int .i64 x.author, .lst (.int .i64) x.parents, .int .i64 x.digest]
  | .ppl, x => .agg [.int .i64 x.v.round, .int .i64 x.v.author, .lst (.int .i64) x.v.parents, .int .i64 x.v.digest, .lst (.int .i64) x.members]
  | .wrl, x => .agg [.lst (.int .i64) x.com, .lst (.int .i64) x.lead, .int .i64 x.bad, .lst (.lst .vtx) x.views, .lst .ppl x.props]
  | .evt, x => .agg [.int .i64 x.kind, .int .i64 x.a, .int .i64 x.b, .int .i64 x.v.round, .int .i64 x.v.author, .lst (.int .i64) x.v.parents, .int .i64 x.v.digest]
  | .slt, x => .agg [.int .i64 x.round, .int .i64 x.author]
  | .odd, x => .agg [.int .i64 x.v.round, .int .i64 x.v.author, .lst (.int .i64) x.v.parents, .int .i64 x.v.digest, .int .i64 x.wave]
  | .ob t, o => .obo t o
  | .hr k, o => .hro k o
  | .hp k, o => .hpo k o
  | .vtxo k, x => .agg [.int .i64 x.round, .int .i64 x.author, .hro k x.parents, .int .i64 x.digest]
  | .pplm k, x => .agg [.int .i64 x.v.round, .int .i64 x.v.author, .lst (.int .i64) x.v.parents, .int .i64 x.v.digest, .hro k x.members]
  | .pplo k k', x => .agg [.int .i64 x.v.round, .int .i64 x.v.author, .hro k x.v.parents, .int .i64 x.v.digest, .hro k' x.members]
  | .nod k, x => .agg [.int .i64 x.v.round, .int .i64 x.v.author, .lst (.int .i64) x.v.parents, .int .i64 x.v.digest, .int .i64 x.index, .hro k x.parents]

theorem ints_map (l : List Int) : l.map (encD (.int .i64)) = l.map (D.int .i64) := rfl
theorem enc_toD : ∀ (t : Ty) (x : t.den), (enc t x).toD = encD t x
  | .int _, _ | .bool, _ | .str, _ | .lst _, _ | .txn, _ | .ob _, _ | .hr _, _ | .hp _, _ => by simp [enc, encD, V.toD, toDL]
  | .led, x => by simp [enc, encD, V.toD, toDL, intsD, ints_map]
  | .vtx, x | .vtxo _, x => by simp [enc, encD, V.toD, toDL, intsD, ints_map, vtxC]
  | .ppl, x | .pplm _, x | .pplo .., x | .nod _, x | .odd, x => by simp [enc, encD, V.toD, toDL, intsD, ints_map, vtxC, pplC]
  | .wrl, x => by
    have : (fun g => D.lst (List.map (encD .vtx) g)) = vtxsD := funext fun g => rfl
    have h2 : (encD (.lst .vtx)) = fun g => D.lst (List.map (encD .vtx) g) := funext fun g => rfl
    have h3 : (encD .ppl) = fun p => D.agg (pplC p) := funext fun g => rfl
    simp only [enc, encD, V.toD, toDL, intsD, h2, h3, this]
    rfl
  | .evt, x => by simp [enc, encD, V.toD, toDL, intsD, ints_map, vtxC]
  | .slt, x => by simp [enc, encD, V.toD, toDL]

/-- how many cells an element takes -/
def Ty.sz : Ty → Nat
  | .txn => 4
  | .led => 2
  | .vtx => 4
  | .ppl => 5
  | .wrl => 5
  | .evt => 7
  | .slt => 2
  | .odd => 5
  | .vtxo _ => 4
  | .pplm _ => 5
  | .pplo .. => 5
  | .nod _ => 6
  | _ => 1
/-- no row of the call's own, no pointer to one within -/
def Ty.pure : Ty → Bool
  | .hr _ | .hp _ | .vtxo _ | .pplm _ | .pplo .. | .nod _ => false
  | _ => true
theorem hrD_one (k : Nat) (o : Option Nat) : (hrD k o).one = true ∧ (hrD k o).cells = [hrD k o] := by cases o <;> exact ⟨rfl, rfl⟩
theorem hpD_one (k : Nat) (o : Option Nat) : (hpD k o).one = true ∧ (hpD k o).cells = [hpD k o] := by cases o <;> exact ⟨rfl, rfl⟩
theorem encD_wf : ∀ (t : Ty) (x : t.den), wfC t.sz (encD t x)
  | .int _, _ | .bool, _ | .str, _ | .lst _, _ | .txn, _ | .led, _ | .vtx, _ | .ppl, _ | .wrl, _ | .evt, _ | .slt, _ | .odd, _ => ⟨rfl, rfl⟩
  | .ob _, some _ | .ob _, none => ⟨rfl, rfl⟩
  | .hr k, o => ⟨by simp only [encD, (hrD_one k o).2]; rfl, by simp only [encD, (hrD_one k o).2]; simp [(hrD_one k o).1]⟩
  | .hp k, o => ⟨by simp only [encD, (hpD_one k o).2]; rfl, by simp only [encD, (hpD_one k o).2]; simp [(hpD_one k o).1]⟩
  | .vtxo _, ⟨_, _, none, _⟩ | .vtxo _, ⟨_, _, some _, _⟩ => ⟨rfl, rfl⟩
  | .pplm _, ⟨_, none⟩ | .pplm _, ⟨_, some _⟩ => ⟨rfl, rfl⟩
  | .pplo .., ⟨⟨_, _, none, _⟩, none⟩ | .pplo .., ⟨⟨_, _, some _, _⟩, none⟩ | .pplo .., ⟨⟨_, _, none, _⟩, some _⟩ | .pplo .., ⟨⟨_, _, some _, _⟩, some _⟩ => ⟨rfl, rfl⟩
  | .nod _, ⟨_, _, none⟩ | .nod _, ⟨_, _, some _⟩ => ⟨rfl, rfl⟩
theorem encD_pure {t : Ty} (h : t.pure = true) (x : t.den) : wfE t.sz (encD t x) := by
  cases t
  case ob t => cases x <;> exact ⟨rfl, rfl⟩
  all_goals first | exact ⟨rfl, rfl⟩ | cases h
theorem Ty.sz_pos : ∀ t : Ty, 0 < t.sz := by intro t; cases t <;> simp [Ty.sz]

/-- lists, as of another kind -/
def castL (t t' : Ty) (xs : List t'.den) : Option (List t.den) :=
  match decEq t' t with
  | isTrue h => some (h ▸ xs)
  | isFalse _ => match xs with
    | [] => some []
    | _ => none
theorem castL_ok {t t' : Ty} {xs : List t'.den} {ys : List t.den} (h : castL t t' xs = some ys) : xs.map (encD t') = ys.map (encD t) := by
  unfold castL at h
  split at h
  · rename_i e _
    subst e
    simp only [Option.some.injEq] at h
    subst h
    rfl
  · split at h
    · simp only [Option.some.injEq] at h
      subst h
      rfl
    · cases h
def castT (t t' : Ty) (x : t'.den) : Option t.den :=
  match decEq t' t with
  | isTrue h => some (h ▸ x)
  | isFalse _ => none
theorem castT_ok {t t' : Ty} {x : t'.den} {y : t.den} (h : castT t t' x = some y) : encD t' x = encD t y := by
  unfold castT at h
  split at h
  · rename_i e _
    subst e
    simp only [Option.some.injEq] at h
    subst h
    rfl
  · cases h
def decI : V → Option (List Int)
  | .lst t ps => castL (.int .i64) t ps
  | .nils => none
  | _ => none
theorem decI_ok {v : V} {l : List Int} (h : decI v = some l) : v.toD = intsD l := by
  unfold decI at h
  split at h
  · simp only [V.toD]; rw [castL_ok h]; rfl
  · cases h
  · cases h
def decR (k : Nat) : V → Option (Option Nat)
  | .hro k' o => bif Nat.beq k' k then some o else none
  | .fref k' i => bif Nat.beq k' k then some (some i) else none
  | .lst _ [] => some none
  | _ => none
theorem beq_cond {α : Type} {a b : Nat} {x : Option α} {z : α} (h : (bif Nat.beq a b then x else none) = some z) : a = b ∧ x = some z := by
  cases hb : Nat.beq a b with
  | true => rw [hb] at h; exact ⟨Nat.eq_of_beq_eq_true hb, h⟩
  | false => rw [hb] at h; cases h
theorem decR_ok {k : Nat} {v : V} {o : Option Nat} (h : decR k v = some o) : v.toD = hrD k o := by
  unfold decR at h
  split at h
  · rename_i k' _
    cases hb : Nat.beq k' k with
    | true => rw [hb] at h; cases Nat.eq_of_beq_eq_true hb; cases h; rfl
    | false => rw [hb] at h; cases h
  · rename_i k' _
    cases hb : Nat.beq k' k with
    | true => rw [hb] at h; cases Nat.eq_of_beq_eq_true hb; cases h; rfl
    | false => rw [hb] at h; cases h
  · simp only [Option.some.injEq] at h; subst h; rfl
  · cases h
def decP (k : Nat) : V → Option (Option Nat)
  | .hpo k' o => bif Nat.beq k' k then some o else none
  | .fptr k' i 0 => bif Nat.beq k' k then some (some i) else none
  | .nilp => some none
  | _ => none
theorem decP_ok {k : Nat} {v : V} {o : Option Nat} (h : decP k v = some o) : v.toD = hpD k o := by
  unfold decP at h
  split at h
  · rename_i k' _
    cases hb : Nat.beq k' k with
    | true => rw [hb] at h; cases Nat.eq_of_beq_eq_true hb; cases h; rfl
    | false => rw [hb] at h; cases h
  · rename_i k' _
    cases hb : Nat.beq k' k with
    | true => rw [hb] at h; cases Nat.eq_of_beq_eq_true hb; cases h; rfl
    | false => rw [hb] at h; cases h
  · simp only [Option.some.injEq] at h; subst h; rfl
  · cases h
def decB (t : Ty) : V → Option (Option t.den)
  | .obo t' o => (match o with | none => some none | some x => (castT t t' x).map some)
  | .box t' x => (castT t t' x).map some
  | .nilp => some none
  | _ => none
theorem decB_ok {t : Ty} {v : V} {o : Option t.den} (h : decB t v = some o) : v.toD = encD (.ob t) o := by
  unfold decB at h
  split at h
  · split at h
    · simp only [Option.some.injEq] at h; subst h; rfl
    · obtain ⟨y, h1, rfl⟩ := Option.map_eq_some_iff.1 h
      simp only [V.toD, encD, castT_ok h1]
  · obtain ⟨y, h1, rfl⟩ := Option.map_eq_some_iff.1 h
    simp only [V.toD, encD, castT_ok h1]
  · simp only [Option.some.injEq] at h; subst h; rfl
  · cases h
/-- what a value is as data of kind t -/
def dec : (t : Ty) → V → Option t.den
  | .int k, .int k' n => match decEq k' k with
    | isTrue _ => some n
    | isFalse _ => none
  | .bool, .bool b => some b
  | .bool, .tt => some true
  | .bool, .ff => some false
  | .str, .str s => some s
  | .lst t, .lst t' xs => castL t t' xs
  | .txn, .agg [.int .i64 a, .int .i64 b, .int .i64 s, .int .i64 e] => some ⟨a, b, s, e⟩
  | .led, .agg [b, .int .i64 f] => (decI b).map fun b => ⟨b, f⟩
  | .vtx, .agg [.int .i64 r, .int .i64 a, ps, .int .i64 d] => (decI ps).map fun ps => ⟨r, a, ps, d⟩
  | .ppl, .agg [.int .i64 r, .int .i64 a, ps, .int .i64 d, ms] => (decI ps).bind fun ps => (decI ms).map fun ms => ⟨⟨r, a, ps, d⟩, ms⟩
  | .wrl, .agg [c, l, .int .i64 b, .lst t3 vs, .lst t4 ps] => (decI c).bind fun c => (decI l).bind fun l => (castL (.lst .vtx) t3 vs).bind fun vs => (castL .ppl t4 ps).map fun ps => ⟨c, l, b, vs, ps⟩
  | .evt, .agg [.int .i64 k, .int .i64 x, .int .i64 y, .int .i64 r, .int .i64 a, ps, .int .i64 d] => (decI ps).map fun ps => ⟨k, x, y, ⟨r, a, ps, d⟩⟩
  | .slt, .agg [.int .i64 r, .int .i64 a] => some ⟨r, a⟩
  | .odd, .agg [.int .i64 r, .int .i64 a, ps, .int .i64 d, .int .i64 w] => (decI ps).map fun ps => ⟨⟨r, a, ps, d⟩, w⟩
  | .ob t, v => decB t v
  | .hr k, v => decR k v
  | .hp k, v => decP k v
  | .vtxo k, .agg [.int .i64 r, .int .i64 a, ps, .int .i64 d] => (decR k ps).map fun ps => ⟨r, a, ps, d⟩
  | .pplm k, .agg [.int .i64 r, .int .i64 a, ps, .int .i64 d, ms] => (decI ps).bind fun ps => (decR k ms).map fun ms => ⟨⟨r, a, ps, d⟩, ms⟩
  | .pplo k k', .agg [.int .i64 r, .int .i64 a, ps, .int .i64 d, ms] => (decR k ps).bind fun ps => (decR k' ms).map fun ms => ⟨⟨r, a, ps, d⟩, ms⟩
  | .nod k, .agg [.int .i64 r, .int .i64 a, ps, .int .i64 d, .int .i64 i, ns] => (decI ps).bind fun ps => (decR k ns).map fun ns => ⟨⟨r, a, ps, d⟩, i, ns⟩
  | _, _ => none
theorem dec_ok {t : Ty} {v : V} {x : t.den} (h : dec t v = some x) : v.toD = encD t x := by
  unfold dec at h
  split at h
  · split at h
    · rename_i e _
      subst e
      simp only [Option.some.injEq] at h
      subst h
      rfl
    · cases h
  · simp only [Option.some.injEq] at h; subst h; rfl
  · simp only [Option.some.injEq] at h; subst h; rfl
  · simp only [Option.some.injEq] at h; subst h; rfl
  · simp only [Option.some.injEq] at h; subst h; rfl
  · simp only [V.toD, encD, castL_ok h]
  · simp only [Option.some.injEq] at h; subst h; rfl
  · obtain ⟨b', h1, rfl⟩ := Option.map_eq_some_iff.1 h
    simp only [V.toD, toDL, encD, decI_ok h1]
  · obtain ⟨b', h1, rfl⟩ := Option.map_eq_some_iff.1 h
    simp only [V.toD, toDL, encD, vtxC, decI_ok h1]
  · obtain ⟨b', h1, h⟩ := Option.bind_eq_some_iff.1 h
    obtain ⟨c', h2, rfl⟩ := Option.map_eq_some_iff.1 h
    simp [V.toD, toDL, encD, vtxC, pplC, decI_ok h1, decI_ok h2]
  · obtain ⟨b', h1, h⟩ := Option.bind_eq_some_iff.1 h
    obtain ⟨c', h2, h⟩ := Option.bind_eq_some_iff.1 h
    obtain ⟨d', h3, h⟩ := Option.bind_eq_some_iff.1 h
    obtain ⟨e', h4, rfl⟩ := Option.map_eq_some_iff.1 h
    simp only [V.toD, toDL, encD, decI_ok h1, decI_ok h2, castL_ok h3, castL_ok h4]
    rfl
  · obtain ⟨b', h1, rfl⟩ := Option.map_eq_some_iff.1 h
    simp [V.toD, toDL, encD, vtxC, decI_ok h1]
  · simp only [Option.some.injEq] at h; subst h; rfl
  · obtain ⟨b', h1, rfl⟩ := Option.map_eq_some_iff.1 h
    simp [V.toD, toDL, encD, vtxC, decI_ok h1]
  · exact decB_ok h
  · exact decR_ok h
  · exact decP_ok h
  · obtain ⟨b', h1, rfl⟩ := Option.map_eq_some_iff.1 h
    simp only [V.toD, toDL, encD, decR_ok h1]
  · obtain ⟨b', h1, h⟩ := Option.bind_eq_some_iff.1 h
    obtain ⟨c', h2, rfl⟩ := Option.map_eq_some_iff.1 h
    simp [V.toD, toDL, encD, vtxC, decI_ok h1, decR_ok h2]
  · obtain ⟨b', h1, h⟩ := Option.bind_eq_some_iff.1 h
    obtain ⟨c', h2, rfl⟩ := Option.map_eq_some_iff.1 h
    simp [V.toD, toDL, encD, decR_ok h1, decR_ok h2]
  · obtain ⟨b', h1, h⟩ := Option.bind_eq_some_iff.1 h
    obtain ⟨c', h2, rfl⟩ := Option.map_eq_some_iff.1 h
    simp [V.toD, toDL, encD, vtxC, decI_ok h1, decR_ok h2]
  · cases h

inductive VB where
  | var (T : TypeId) (cs : List V)
  /-- a variable with an array of m cells between -/
  | vari (T : TypeId) (pre : List V) (m : Nat) (t : Ty) (xs : List t.den) (post : List V)
  | row (E : TypeId) (t : Ty) (xs : List t.den)
  /-- a row of a few elements -/
  | lit (E : TypeId) (vs : List V)
  | froz (t : Ty) (xs : List t.den)
  | fvb (t : Ty) (x : t.den)
  /-- families: of variables, of arrays, of rows -/
  | fvar (T : TypeId) (t : Ty) (xs : List t.den)
  | fvari (T : TypeId) (m : Nat) (t : Ty) (xss : List (List t.den))
  | frow (E : TypeId) (t : Ty) (xss : List (List t.den))
  | moved (k i : Nat)
  | gone
def VB.blks : VB → List Blk
  | .var T cs => [.var T (toDL cs)]
  | .vari T pre _ t xs post => [.var T (toDL pre ++ xs.map (encD t) ++ toDL post)]
  | .row E t xs => [.row E (xs.map (encD t))]
  | .lit E vs => [.row E (toDL vs)]
  | .froz t xs => [.froz (xs.map (encD t))]
  | .fvb t x => [.fvar (encD t x).cells]
  | .fvar T t xs => xs.map fun x => .var T (encD t x).cells
  | .fvari T _ t xss => xss.map fun xs => .var T (xs.map (encD t))
  | .frow E t xss => xss.map fun xs => .row E (xs.map (encD t))
  | .moved k i => [.moved (k, i)]
  | .gone => [.gone]
/-- one block -/
def VB.sgl : VB → Bool
  | .fvar .. | .fvari .. | .frow .. => false
  | _ => true
theorem VB.sgl_ok {x : VB} (h : x.sgl = true) : ∃ d, x.blks = [d] := by cases x <;> first | exact ⟨_, rfl⟩ | cases h

abbrev VT := List (Nat × V)
abbrev VH := List (Nat × VB)
def toT : VT → List (Nat × D) := List.map fun p => (p.1, p.2.toD)
def fam (k : Nat) (l : List Blk) : HL := l.zipIdx.map fun p => ((k, p.2), p.1)
def toHx : List Nat → VH → HL
  | _, [] => []
  | s, (k, x) :: l => (bif s.contains k then [] else fam k x.blks) ++ toHx (k :: s) l
def toH (h : VH) : HL := toHx [] h
structure VSt where
  t : VT
  h : VH
  n : Nat
def VSt.toD (σ : VSt) : St := ⟨toT σ.t, toH σ.h, σ.n⟩

theorem look_map {κ α β : Type} [DecidableEq κ] (f : α → β) : ∀ (l : List (κ × α)) (k : κ), look (l.map fun p => (p.1, f p.2)) k = (look l k).map f
  | [], k => rfl
  | (x, d) :: l, k => by
    simp only [List.map_cons, look, look_map f l k]
    split <;> rfl
theorem look_toT (t : VT) (k : Nat) : look (toT t) k = (look t k).map V.toD := look_map _ _ _
theorem look_app {κ α : Type} [DecidableEq κ] : ∀ (l m : List (κ × α)) (k : κ), look (l ++ m) k = match look l k with | some x => some x | none => look m k
  | [], m, k => rfl
  | (x, a) :: l, m, k => by
    simp only [List.cons_append, look]
    split
    · rfl
    · exact look_app l m k
theorem look_fam (k : Nat) (l : List Blk) (b : Id) : look (fam k l) b = if b.1 = k then l[b.2]? else none := by
  have key : ∀ (l : List Blk) (s : Nat), look ((l.zipIdx s).map fun p => ((k, p.2), p.1)) b = if b.1 = k ∧ s ≤ b.2 then l[b.2 - s]? else none := by
    intro l
    induction l with
    | nil => intro s; simp [look]
    | cons x l ih =>
      intro s
      simp only [List.zipIdx_cons, List.map_cons, look, ih]
      obtain ⟨b1, b2⟩ := b
      simp only [Prod.mk.injEq]
      by_cases h1 : b1 = k
      · by_cases h2 : b2 = s
        · subst h2; simp [h1]
        · by_cases h3 : s ≤ b2
          · rw [if_neg (by simp [h2]), if_pos ⟨h1, by omega⟩, if_pos ⟨h1, h3⟩, show b2 - s = (b2 - (s + 1)) + 1 by omega]
            rfl
          · rw [if_neg (by simp [h2]), if_neg (by omega), if_neg (by omega)]
      · simp [h1]
  unfold fam
  rw [key l 0]
  simp
theorem look_toHx : ∀ (h : VH) (s : List Nat) (b : Id), look (toHx s h) b = if b.1 ∈ s then none else (look h b.1).bind fun x => x.blks[b.2]?
  | [], s, b => by simp [toHx, look]
  | (k, x) :: l, s, b => by
    simp only [toHx, look_app, look_toHx l, look]
    by_cases hs : b.1 ∈ s
    · rw [if_pos (List.mem_cons_of_mem _ hs), if_pos hs]
      by_cases hk : k ∈ s
      · simp [hk, look]
      · have hc : s.contains k = false := by simpa using hk
        have hne : b.1 ≠ k := fun e => hk (e ▸ hs)
        rw [hc, cond_false, look_fam, if_neg hne]
    · rw [if_neg hs]
      by_cases hb : b.1 = k
      · have hc : s.contains k = false := by rw [← hb]; simpa using hs
        rw [hc, cond_false, look_fam, if_pos hb, if_pos hb, if_pos (by rw [hb]; exact List.mem_cons_self ..)]
        simp only [Option.bind_some]
        cases x.blks[b.2]? <;> rfl
      · rw [if_neg hb, if_neg (by simp only [List.mem_cons, not_or]; exact ⟨hb, hs⟩)]
        have : look (bif s.contains k then [] else fam k x.blks) b = none := by
          cases s.contains k with
          | true => rfl
          | false => rw [cond_false, look_fam, if_neg hb]
        rw [this]
theorem look_toH (h : VH) (b : Id) : look (toH h) b = (look h b.1).bind fun x => x.blks[b.2]? := by
  unfold toH
  rw [look_toHx]
  simp
end Go.Proofs.Ytkclhekkcffpoaa.Am
