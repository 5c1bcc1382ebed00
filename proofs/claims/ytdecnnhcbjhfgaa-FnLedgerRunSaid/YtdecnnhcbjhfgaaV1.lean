/- The plain machine with types: kinds of data, values. -/
import Derived.Test.YtdecnnhcbjhfgaaAm19
namespace Go.Proofs.Ytdecnnhcbjhfgaa.Am
set_option linter.unusedSimpArgs false
set_option linter.unusedVariables false
open Go Go.RowKit

structure Txn where
  a : Int
  b : Int
  s : Int
  e : Int
structure Led where
  b : List Int
  f : Int
structure Vtx where
  round : Int
  author : Int
  parents : List Int
  digest : Int
structure Ppl where
  v : Vtx
  members : List Int
structure Wrl where
  com : List Int
  lead : List Int
  bad : Int
  views : List (List Vtx)
  props : List Ppl
structure Evt where
  kind : Int
  a : Int
  b : Int
  v : Vtx
structure Slt where
  round : Int
  author : Int
deriving DecidableEq

/-- the kinds of data that a slice may hold -/
inductive Ty where
  | int (k : IntKind) | bool | str | lst (t : Ty) | txn | led | vtx | ppl | wrl | evt | slt
  deriving DecidableEq

abbrev Ty.den : Ty → Type
  | .int _ => Int
  | .bool => Bool
  | .str => ByteArray
  | .lst t => List t.den
  | .txn => Txn
  | .led => Led
  | .vtx => Vtx
  | .ppl => Ppl
  | .wrl => Wrl
  | .evt => Evt
  | .slt => Slt

def intsD (l : List Int) : D := .lst (l.map (.int .i64))
def vtxC (v : Vtx) : List D := [.int .i64 v.round, .int .i64 v.author, intsD v.parents, .int .i64 v.digest]
def vtxsD (l : List Vtx) : D := .lst (l.map fun v => .agg (vtxC v))
def pplC (p : Ppl) : List D := vtxC p.v ++ [intsD p.members]
def encD : (t : Ty) → t.den → D
  | .int k, n => .int k n
  | .bool, b => .bool b
  | .str, s => .str s
  | .lst t, xs => .lst (xs.map (encD t))
  | .txn, x => .agg [.int .i64 x.a, .int .i64 x.b, .int .i64 x.s, .int .i64 x.e]
  | .led, x => .agg [intsD x.b, .int .i64 x.f]
  | .vtx, x => .agg (vtxC x)
  | .ppl, x => .agg (pplC x)
  | .wrl, x => .agg [intsD x.com, intsD x.lead, .int .i64 x.bad, .lst (x.views.map vtxsD), .lst (x.props.map fun p => .agg (pplC p))]
  | .evt, x => .agg ([.int .i64 x.kind, .int .i64 x.a, .int .i64 x.b] ++ vtxC x.v)
  | .slt, x => .agg [.int .i64 x.round, .int .i64 x.author]

inductive V where
  | int (k : IntKind) (n : Int)
  | bool (b : Bool)
  /-- what is known to be true, false -/
  | tt
  | ff
  | str (s : ByteArray)
  /-- a slice that is only read -/
  | lst (t : Ty) (xs : List t.den)
  /-- a pointer to what is only read -/
  | box (t : Ty) (x : t.den)
  | agg (cs : List V)
  | tup (cs : List V)
  | nilp
  | nils
  | ref (b : Nat)
  | ptr (b o : Nat)
  | eptr (b i o : Nat)
  | iptr (t : Ty) (x : t.den) (o : Nat)
  | vref (b o n : Nat)
  /-- place i of an array that lies from p on in variable b -/
  | aptr (b p i : Nat)
  | undef

mutual
def V.toD : V → D
  | .int k n => .int k n
  | .bool b => .bool b
  | .tt => .bool true
  | .ff => .bool false
  | .str s => .str s
  | .lst t xs => .lst (xs.map (encD t))
  | .box t x => .box (encD t x).cells
  | .agg cs => .agg (toDL cs)
  | .tup cs => .tup (toDL cs)
  | .nilp => .nilp
  | .nils => .nils
  | .ref b => .ref b
  | .ptr b o => .ptr b o
  | .eptr b i o => .eptr b i o
  | .iptr t x o => .iptr (encD t x) o
  | .vref b o n => .vref b o n
  | .aptr b p i => .ptr b (p + i)
  | .undef => .undef
def toDL : List V → List D
  | [] => []
  | v :: l => v.toD :: toDL l
end
theorem toDL_eq : ∀ l : List V, toDL l = l.map V.toD
  | [] => rfl
  | v :: l => by simp [toDL, toDL_eq l]

def ints (l : List Int) : V := .lst (.int .i64) l
def vtxV (v : Vtx) : List V := [.int .i64 v.round, .int .i64 v.author, .lst (.int .i64) v.parents, .int .i64 v.digest]
/-- data, its cells laid open -/
def enc : (t : Ty) → t.den → V
  | .int k, n => .int k n
  | .bool, b => .bool b
  | .str, s => .str s
  | .lst t, xs => .lst t xs
  | .txn, x => .agg [.int .i64 x.a, .int .i64 x.b, .int .i64 x.s, .int .i64 x.e]
  | .led, x => .agg [.lst (.int .i64) x.b, .int .i64 x.f]
  | .vtx, x => .agg [.int .i64 x.round, .int .i64 x.author, .lst (.int .i64) x.parents, .int .i64 x.digest]
  | .ppl, x => .agg [.int .i64 x.v.round, .int .i64 x.v.author, .lst (.int .i64) x.v.parents, .int .i64 x.v.digest, .lst (.int .i64) x.members]
  | .wrl, x => .agg [.lst (.int .i64) x.com, .lst (.int .i64) x.lead, .int .i64 x.bad, .lst (.lst .vtx) x.views, .lst .ppl x.props]
  | .evt, x => .agg [.int .i64 x.kind, .int .i64 x.a, .int .i64 x.b, .int .i64 x.v.round, .int .i64 x.v.author, .lst (.int .i64) x.v.parents, .int .i64 x.v.digest]
  | .slt, x => .agg [.int .i64 x.round, .int .i64 x.author]

theorem ints_map (l : List Int) : l.map (encD (.int .i64)) = l.map (D.int .i64) := rfl
theorem vtx_map (l : List Vtx) : l.map (encD .vtx) = l.map fun v => .agg (vtxC v) := rfl
theorem enc_toD : ∀ (t : Ty) (x : t.den), (enc t x).toD = encD t x
  | .int _, _ | .bool, _ | .str, _ | .lst _, _ | .txn, _ => by simp [enc, encD, V.toD, toDL]
  | .led, x => by simp [enc, encD, V.toD, toDL, intsD, ints_map]
  | .vtx, x => by simp [enc, encD, V.toD, toDL, intsD, ints_map, vtxC]
  | .ppl, x => by simp [enc, encD, V.toD, toDL, intsD, ints_map, vtxC, pplC]
  | .wrl, x => by
    have : (fun g => D.lst (List.map (encD .vtx) g)) = vtxsD := funext fun g => rfl
    have h2 : (encD (.lst .vtx)) = fun g => D.lst (List.map (encD .vtx) g) := funext fun g => rfl
    have h3 : (encD .ppl) = fun p => D.agg (pplC p) := funext fun g => rfl
    simp only [enc, encD, V.toD, toDL, intsD, h2, h3, this]
    rfl
  | .evt, x => by simp [enc, encD, V.toD, toDL, intsD, ints_map, vtxC]
  | .slt, x => by simp [enc, encD, V.toD, toDL]

/-- how many cells an element takes -/
def Ty.sz : Ty → Nat
  | .txn => 4
  | .led => 2
  | .vtx => 4
  | .ppl => 5
  | .wrl => 5
  | .evt => 7
  | .slt => 2
  | _ => 1
theorem encD_wf : ∀ (t : Ty) (x : t.den), wfE t.sz (encD t x)
  | .int _, _ | .bool, _ | .str, _ | .lst _, _ | .txn, _ | .led, _ | .vtx, _ | .ppl, _ | .wrl, _ | .evt, _ | .slt, _ => ⟨rfl, rfl⟩
theorem Ty.sz_pos : ∀ t : Ty, 0 < t.sz
  | .int _ | .bool | .str | .lst _ | .txn | .led | .vtx | .ppl | .wrl | .evt | .slt => by simp [Ty.sz]

/-- what the cells of a value are as data of kind t -/
def castL (t t' : Ty) (xs : List t'.den) : Option (List t.den) :=
  match decEq t' t with
  | isTrue h => some (h ▸ xs)
  | isFalse _ => match xs with
    | [] => some []
    | _ => none
theorem castL_ok {t t' : Ty} {xs : List t'.den} {ys : List t.den} (h : castL t t' xs = some ys) : xs.map (encD t') = ys.map (encD t) := by
  unfold castL at h
  split at h
  · rename_i e _
    subst e
    simp only [Option.some.injEq] at h
    subst h
    rfl
  · split at h
    · simp only [Option.some.injEq] at h
      subst h
      rfl
    · cases h
def dec : (t : Ty) → V → Option t.den
  | .int k, .int k' n => match decEq k' k with
    | isTrue _ => some n
    | isFalse _ => none
  | .bool, .bool b => some b
  | .bool, .tt => some true
  | .bool, .ff => some false
  | .str, .str s => some s
  | .lst t, .lst t' xs => castL t t' xs
  | .txn, .agg [.int .i64 a, .int .i64 b, .int .i64 s, .int .i64 e] => some ⟨a, b, s, e⟩
  | .led, .agg [.lst t b, .int .i64 f] => match castL (.int .i64) t b with
    | some b => some ⟨b, f⟩
    | none => none
  | .vtx, .agg [.int .i64 r, .int .i64 a, .lst t ps, .int .i64 d] => match castL (.int .i64) t ps with
    | some ps => some ⟨r, a, ps, d⟩
    | none => none
  | .ppl, .agg [.int .i64 r, .int .i64 a, .lst t ps, .int .i64 d, .lst t' ms] => match castL (.int .i64) t ps, castL (.int .i64) t' ms with
    | some ps, some ms => some ⟨⟨r, a, ps, d⟩, ms⟩
    | _, _ => none
  | .wrl, .agg [.lst t1 c, .lst t2 l, .int .i64 b, .lst t3 vs, .lst t4 ps] => match castL (.int .i64) t1 c, castL (.int .i64) t2 l, castL (.lst .vtx) t3 vs, castL .ppl t4 ps with
    | some c, some l, some vs, some ps => some ⟨c, l, b, vs, ps⟩
    | _, _, _, _ => none
  | .evt, .agg [.int .i64 k, .int .i64 x, .int .i64 y, .int .i64 r, .int .i64 a, .lst t ps, .int .i64 d] => match castL (.int .i64) t ps with
    | some ps => some ⟨k, x, y, ⟨r, a, ps, d⟩⟩
    | none => none
  | .slt, .agg [.int .i64 r, .int .i64 a] => some ⟨r, a⟩
  | _, _ => none
theorem castI {t : Ty} {xs : List t.den} {ys : List Int} (h : castL (.int .i64) t xs = some ys) : D.lst (xs.map (encD t)) = intsD ys := by rw [castL_ok h]; rfl
theorem dec_ok {t : Ty} {v : V} {x : t.den} (h : dec t v = some x) : v.toD = encD t x := by
  unfold dec at h
  split at h
  · split at h
    · rename_i e _
      subst e
      simp only [Option.some.injEq] at h
      subst h
      rfl
    · cases h
  · simp only [Option.some.injEq] at h; subst h; rfl
  · simp only [Option.some.injEq] at h; subst h; rfl
  · simp only [Option.some.injEq] at h; subst h; rfl
  · simp only [Option.some.injEq] at h; subst h; rfl
  · simp only [V.toD, encD, castL_ok h]
  · simp only [Option.some.injEq] at h; subst h; rfl
  · split at h
    · rename_i h1
      simp only [Option.some.injEq] at h; subst h
      simp only [V.toD, toDL, encD, castI h1]
    · cases h
  · split at h
    · rename_i h1
      simp only [Option.some.injEq] at h; subst h
      simp only [V.toD, toDL, encD, castI h1, vtxC]
    · cases h
  · split at h
    · rename_i h1 h2
      simp only [Option.some.injEq] at h; subst h
      simp [V.toD, toDL, encD, castI h1, castI h2, vtxC, pplC]
    · cases h
  · split at h
    · rename_i h1 h2 h3 h4
      simp only [Option.some.injEq] at h; subst h
      simp only [V.toD, toDL, encD, castI h1, castI h2, castL_ok h3, castL_ok h4]
      rfl
    · cases h
  · split at h
    · rename_i h1
      simp only [Option.some.injEq] at h; subst h
      simp [V.toD, toDL, encD, castI h1, vtxC]
    · cases h
  · simp only [Option.some.injEq] at h; subst h; rfl
  · cases h

inductive VB where
  | var (T : TypeId) (cs : List V)
  /-- a variable with an array of m cells between -/
  | vari (T : TypeId) (pre : List V) (m : Nat) (t : Ty) (xs : List t.den) (post : List V)
  | row (E : TypeId) (t : Ty) (xs : List t.den)
  | froz (t : Ty) (xs : List t.den)
  | gone
def VB.toD : VB → Blk
  | .var T cs => .var T (toDL cs)
  | .vari T pre _ t xs post => .var T (toDL pre ++ xs.map (encD t) ++ toDL post)
  | .row E t xs => .row E (xs.map (encD t))
  | .froz t xs => .froz (xs.map (encD t))
  | .gone => .gone

abbrev VT := List (Nat × V)
abbrev VH := List (Nat × VB)
def toT : VT → List (Nat × D) := List.map fun p => (p.1, p.2.toD)
def toH : VH → List (Nat × Blk) := List.map fun p => (p.1, p.2.toD)
structure VSt where
  t : VT
  h : VH
  n : Nat
def VSt.toD (σ : VSt) : St := ⟨toT σ.t, toH σ.h, σ.n⟩

theorem look_map {α β : Type} (f : α → β) : ∀ (l : List (Nat × α)) (k : Nat), look (l.map fun p => (p.1, f p.2)) k = (look l k).map f
  | [], k => rfl
  | (x, d) :: l, k => by
    simp only [List.map_cons, look, look_map f l k]
    split <;> rfl
theorem look_toT (t : VT) (k : Nat) : look (toT t) k = (look t k).map V.toD := look_map _ _ _
theorem look_toH (h : VH) (k : Nat) : look (toH h) k = (look h k).map VB.toD := look_map _ _ _
end Go.Proofs.Ytdecnnhcbjhfgaa.Am
