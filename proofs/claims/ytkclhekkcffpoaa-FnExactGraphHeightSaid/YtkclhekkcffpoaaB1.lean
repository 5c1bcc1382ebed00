/- A plain machine over data: values, blocks, and what they stand for in a world. -/
import Derived.Orders
import Derived.BigRegion
import Derived.WalkKit
import Derived.Below
import Derived.Laws.AppendOwn
namespace Go.Proofs.Ytkclhekkcffpoaa.Am
set_option linter.unusedSimpArgs false
set_option linter.unusedVariables false
open Go Go.RowKit

/-- a block's name: its group, its place within it -/
abbrev Id := Nat × Nat

/-- data -/
inductive D where
  | int (k : IntKind) (n : Int)
  | bool (b : Bool)
  | str (s : ByteArray)
  /-- a slice that is only read: its elements -/
  | lst (l : List D)
  | agg (cs : List D)
  | tup (cs : List D)
  /-- a pointer to what is only read: its cells -/
  | box (cs : List D)
  | nilp
  | nils
  | nilf
  | nili
  /-- a value within an interface -/
  | ifc (T : TypeId) (d : D)
  /-- a function with what it has captured -/
  | clo (f : FuncId) (cs : List D)
  /-- the call's own row b, as a slice -/
  | ref (b : Id)
  /-- cell o of the call's own block b -/
  | ptr (b : Id) (o : Nat)
  /-- cell o of element i of the call's own row b -/
  | eptr (b : Id) (i o : Nat)
  /-- cell o of an element that is only read -/
  | iptr (e : D) (o : Nat)
  /-- cells o to o + n of the call's own variable b, as a slice -/
  | vref (b : Id) (o n : Nat)
  | undef
  /-- whatever one cell holds -/
  | junk
  deriving Inhabited

/-- the cells of an element -/
def D.cells : D → List D
  | .agg cs => cs
  | d => [d]
/-- how many cells an element takes -/
def szl (l : List D) : Nat := match l with | [] => 0 | e :: _ => e.cells.length

def D.pure0 : D → Bool
  | .int .. | .bool _ | .str _ | .lst _ | .box _ | .nilp | .nils | .nilf | .nili => true
  | _ => false
/-- is it one cell? -/
def D.one : D → Bool
  | .agg _ | .tup _ | .undef => false
  | _ => true
/-- an element of s cells -/
def wfE (s : Nat) (e : D) : Prop := e.cells.length = s ∧ e.cells.all D.pure0 = true
def wfC (s : Nat) (e : D) : Prop := e.cells.length = s ∧ e.cells.all D.one = true

/-- In w, within the blocks of ok, the value v reads as d. -/
inductive Rep (ok : Nat → Prop) (w : World) : D → Value → Prop where
  | int (k : IntKind) (n : Int) : Rep ok w (.int k n) (.int k n)
  | bool (b : Bool) : Rep ok w (.bool b) (.bool b)
  | str (s : ByteArray) : Rep ok w (.str s) (.string s)
  | none (a : Option Addr) (cap : Nat) (ha : a = none → cap = 0) (hcap : cap ≤ maxLen) : Rep ok w (.lst []) (.slice a 0 cap)
  | lst (l : List D) (n b off cap : Nat) (f : Nat → Nat → Value) (hn : l.length = n) (hcap : n ≤ cap) (hmax : cap ≤ maxLen) (hok : ok b)
      (hsz : ∀ e ∈ l, wfE (szl l) e) (hpos : 0 < szl l)
      (hc : ∀ i j, i < n → j < szl l → w.cell? ⟨b, off + i * szl l + j, .none⟩ = some (f i j))
      (hr : ∀ i j, i < n → j < szl l → Rep ok w ((l.getD i .undef).cells.getD j .undef) (f i j)) :
      Rep ok w (.lst l) (.slice (some ⟨b, off, .none⟩) n cap)
  | agg (cs : List D) (vs : Array Value) (hl : cs.length = vs.size) (h : ∀ i, i < cs.length → Rep ok w (cs.getD i .undef) (vs.getD i undef)) : Rep ok w (.agg cs) (.agg vs)
  | tup (cs : List D) (vs : Array Value) (hl : cs.length = vs.size) (h : ∀ i, i < cs.length → Rep ok w (cs.getD i .undef) (vs.getD i undef)) : Rep ok w (.tup cs) (.tuple vs)
  | box (cs : List D) (b off : Nat) (f : Nat → Value) (hok : ok b) (hpos : 0 < cs.length)
      (hc : ∀ j, j < cs.length → w.cell? ⟨b, off + j, .none⟩ = some (f j))
      (hr : ∀ j, j < cs.length → Rep ok w (cs.getD j .undef) (f j)) : Rep ok w (.box cs) (.pointer (some ⟨b, off, .none⟩))
  | nilp : Rep ok w .nilp (.pointer .none)
  | nils : Rep ok w .nils (.slice .none 0 0)
  | nilf : Rep ok w .nilf .nilFunc
  | nili : Rep ok w .nili .nilIface

theorem Rep.mono {ok ok' : Nat → Prop} {w w' : World} {d : D} {v : Value} (h : Rep ok w d v) (hm : ∀ b, ok b → ok' b ∧ w'.heap[b]? = w.heap[b]?) : Rep ok' w' d v := by
  induction h with
  | int k n => exact .int k n
  | bool b => exact .bool b
  | str s => exact .str s
  | none a cap ha hcap => exact .none a cap ha hcap
  | lst l n b off cap f hn hcap hmax hok hsz hpos hc hr ih =>
    exact .lst l n b off cap f hn hcap hmax (hm b hok).1 hsz hpos (fun i j hi hj => (World.cell?_of_block (w := w) (hm b hok).2).trans (hc i j hi hj)) ih
  | agg cs vs hl h ih => exact .agg cs vs hl ih
  | tup cs vs hl h ih => exact .tup cs vs hl ih
  | box cs b off f hok hpos hc hr ih => exact .box cs b off f (hm b hok).1 hpos (fun j hj => (World.cell?_of_block (w := w) (hm b hok).2).trans (hc j hj)) ih
  | nilp => exact .nilp
  | nils => exact .nils
  | nilf => exact .nilf
  | nili => exact .nili

/-- a block of the call's own -/
inductive Blk where
  /-- a variable of type T -/
  | var (T : TypeId) (cs : List D)
  /-- a slice's row, elements of type E -/
  | row (E : TypeId) (l : List D)
  /-- a row that is no more written -/
  | froz (l : List D)
  /-- a variable that is no more written -/
  | fvar (cs : List D)
  /-- it has got another name -/
  | moved (b : Id)
  /-- nothing is known of it any more -/
  | gone
  deriving Inhabited

def Blk.mutable : Blk → Bool
  | .var .. | .row .. => true
  | _ => false
def Blk.live : Blk → Bool
  | .gone | .moved _ => false
  | _ => true

/-- where a block lies: its number; a row's capacity, its elements' cells, its length -/
structure Pl where
  blk : Nat
  cap : Nat := 0
  sz : Nat := 0
  len : Nat := 0

/-- In w the value v is d, which may point to blocks of the call's own (L: those that there are); ρ: where they lie. -/
inductive C (ρ : Id → Pl) (L : Id → Prop) (ok : Nat → Prop) (w : World) : D → Value → Prop where
  | pure {d : D} {v : Value} (h : Rep ok w d v) : C ρ L ok w d v
  | ref (b : Id) (hb : L b) : C ρ L ok w (.ref b) (.slice (some ⟨(ρ b).blk, 0, none⟩) (ρ b).len (ρ b).cap)
  | ptr (b : Id) (o : Nat) (hb : L b) : C ρ L ok w (.ptr b o) (.pointer (some ⟨(ρ b).blk, o, none⟩))
  | eptr (b : Id) (i o : Nat) (hb : L b) : C ρ L ok w (.eptr b i o) (.pointer (some ⟨(ρ b).blk, i * (ρ b).sz + o, none⟩))
  | iptr (e : D) (o b off : Nat) (f : Nat → Value) (hok : ok b)
      (hc : ∀ j, j < e.cells.length → w.cell? ⟨b, off + j, none⟩ = some (f j)) (hr : ∀ j, j < e.cells.length → Rep ok w (e.cells.getD j .undef) (f j)) :
      C ρ L ok w (.iptr e o) (.pointer (some ⟨b, off + o, none⟩))
  | vref (b : Id) (o n : Nat) (hb : L b) (hn : n ≤ maxLen) : C ρ L ok w (.vref b o n) (.slice (some ⟨(ρ b).blk, o, none⟩) n n)
  | agg (cs : List D) (vs : Array Value) (hl : cs.length = vs.size) (h : ∀ i, i < cs.length → C ρ L ok w (cs.getD i .undef) (vs.getD i undef)) : C ρ L ok w (.agg cs) (.agg vs)
  | tup (cs : List D) (vs : Array Value) (hl : cs.length = vs.size) (h : ∀ i, i < cs.length → C ρ L ok w (cs.getD i .undef) (vs.getD i undef)) : C ρ L ok w (.tup cs) (.tuple vs)
  | ifc (T : TypeId) (d : D) (v : Value) (h : C ρ L ok w d v) : C ρ L ok w (.ifc T d) (.iface T v)
  | clo (f : FuncId) (cs : List D) (vs : Array Value) (hl : cs.length = vs.size) (h : ∀ i, i < cs.length → C ρ L ok w (cs.getD i .undef) (vs.getD i undef)) : C ρ L ok w (.clo f cs) (.func (.func f) #[] vs)
  | any (v : Value) : C ρ L ok w .undef v
  | junk (v : Value) (hv : v.oneCell' = true) : C ρ L ok w .junk v

theorem C.mono {ρ ρ' : Id → Pl} {L L' : Id → Prop} {ok ok' : Nat → Prop} {w w' : World} {d : D} {v : Value} (h : C ρ L ok w d v) (hl : ∀ b, L b → L' b ∧ ρ' b = ρ b)
    (hm : ∀ b, ok b → ok' b ∧ w'.heap[b]? = w.heap[b]?) : C ρ' L' ok' w' d v := by
  induction h with
  | pure h => exact .pure (h.mono hm)
  | ref b hb => rw [← (hl b hb).2]; exact .ref b (hl b hb).1
  | ptr b o hb => rw [← (hl b hb).2]; exact .ptr b o (hl b hb).1
  | eptr b i o hb => rw [← (hl b hb).2]; exact .eptr b i o (hl b hb).1
  | vref b o n hb hn => rw [← (hl b hb).2]; exact .vref b o n (hl b hb).1 hn
  | iptr e o b off f hok hc hr =>
    exact .iptr e o b off f (hm b hok).1 (fun j hj => (World.cell?_of_block (w := w) (hm b hok).2).trans (hc j hj)) fun j hj => (hr j hj).mono hm
  | agg cs vs hl' h ih => exact .agg cs vs hl' ih
  | tup cs vs hl' h ih => exact .tup cs vs hl' ih
  | ifc T d v h ih => exact .ifc T d v ih
  | clo f cs vs hl' h ih => exact .clo f cs vs hl' ih
  | any v => exact .any v
  | junk v hv => exact .junk v hv

def look {κ α : Type} [DecidableEq κ] : List (κ × α) → κ → Option α
  | [], _ => none
  | (k, a) :: l, x => if x = k then some a else look l x
def put {κ α : Type} [DecidableEq κ] (x : κ) (a : α) : List (κ × α) → List (κ × α)
  | [] => [(x, a)]
  | (k, b) :: l => if x = k then (k, a) :: l else (k, b) :: put x a l
theorem look_put {κ α : Type} [DecidableEq κ] (x : κ) (a : α) (l : List (κ × α)) (y : κ) : look (put x a l) y = if y = x then some a else look l y := by
  induction l with
  | nil => simp [put, look]
  | cons p l ih =>
    obtain ⟨k, b⟩ := p
    simp only [put]
    by_cases h : x = k
    · subst h
      simp only [if_true, look]
      split <;> rfl
    · simp only [h, if_false, look, ih]
      by_cases h1 : y = k
      · subst h1
        simp [Ne.symm h]
      · simp [h1]
def puts {κ α : Type} [DecidableEq κ] (u : List (κ × α)) (l : List (κ × α)) : List (κ × α) := u.foldl (fun l x => put x.1 x.2 l) l

abbrev HL := List (Id × Blk)
def Live (h : HL) (b : Id) : Prop := (look h b).isSome
/-- where data may lie: in blocks that are allowed (A), and none of those that may be written -/
def okOf (A : Nat → Prop) (ρ : Id → Pl) (h : HL) (w : World) (k : Nat) : Prop := (k < w.heap.size ∧ A k) ∧ ∀ b x, look h b = some x → x.mutable = true → (ρ b).blk ≠ k

/-- Of what was there, only the blocks of S have turned. -/
structure Fr (S : Nat → Prop) (w w' : World) : Prop where
  os : w'.os = w.os
  tape : w'.tape = w.tape
  output : w'.output = w.output
  size : w.heap.size ≤ w'.heap.size
  block : ∀ i, i < w.heap.size → ¬ S i → w'.heap[i]? = w.heap[i]?

theorem Fr.refl (S : Nat → Prop) (w : World) : Fr S w w := ⟨rfl, rfl, rfl, Nat.le_refl _, fun _ _ _ => rfl⟩
/-- what comes later may write new blocks, too -/
theorem Fr.andThen {S T : Nat → Prop} {a b c : World} (h : Fr S a b) (k : Fr T b c) (ht : ∀ i, i < b.heap.size → T i → S i ∨ a.heap.size ≤ i) : Fr S a c :=
  ⟨k.os.trans h.os, k.tape.trans h.tape, k.output.trans h.output, Nat.le_trans h.size k.size, fun i hi hn => (k.block i (Nat.lt_of_lt_of_le hi h.size) fun hm => by
    rcases ht i (Nat.lt_of_lt_of_le hi h.size) hm with h' | h'
    · exact hn h'
    · omega).trans (h.block i hi hn)⟩
theorem Fr.mono {S T : Nat → Prop} {a b : World} (h : Fr S a b) (hs : ∀ i, S i → T i) : Fr T a b := ⟨h.os, h.tape, h.output, h.size, fun i hi hn => h.block i hi fun hm => hn (hs i hm)⟩

/-- what is known of a block -/
def BlkOK (P : Program) (A : Nat → Prop) (ρ : Id → Pl) (h : HL) (w : World) (b : Id) : Blk → Prop
  | .var T cs => ∃ c : Array Value, w.heap[(ρ b).blk]? = some (.cells c T (0, 0)) ∧ c.size = cs.length ∧ ∀ j, j < cs.length → C ρ (Live h) (okOf A ρ h w) w (cs.getD j .undef) (c.getD j undef)
  | .row E l => ∃ c : Array Value, w.heap[(ρ b).blk]? = some (.cells c E (0, 0)) ∧ c.size = (ρ b).cap * (ρ b).sz ∧ l.length = (ρ b).len ∧ (ρ b).len ≤ (ρ b).cap ∧ (ρ b).cap ≤ maxLen ∧ 0 < (ρ b).sz ∧
      (P.info? E).map (·.size) = some (ρ b).sz ∧ (∀ e ∈ l, wfC (ρ b).sz e) ∧
      ∀ i j, i < l.length → j < (ρ b).sz → C ρ (Live h) (okOf A ρ h w) w ((l.getD i .undef).cells.getD j .undef) (c.getD (i * (ρ b).sz + j) undef)
  | .froz l => Rep (okOf A ρ h w) w (.lst l) (.slice (some ⟨(ρ b).blk, 0, none⟩) (ρ b).len (ρ b).cap)
  | .fvar cs => Rep (okOf A ρ h w) w (.box cs) (.pointer (some ⟨(ρ b).blk, 0, none⟩))
  | .moved b' => Live h b' ∧ ρ b = ρ b'
  | .gone => True

/-- The frame a and the world w are as t and h say. -/
structure Sim (P : Program) (w0 : World) (S A : Nat → Prop) (N : Nat) (ρ : Id → Pl) (t : List (Nat × D)) (h : HL) (a : Act) (w : World) : Prop where
  base : ∀ k, w0.heap.size ≤ k → A k
  inS : ∀ k, S k → A k
  fr : Fr S w0 w
  defers : a.defers = []
  size : a.tmps.size = N
  tmp : ∀ k d, look t k = some d → k < N ∧ C ρ (Live h) (okOf A ρ h w) w d (a.tmps.getD k undef)
  blk : ∀ b x, look h b = some x → BlkOK P A ρ h w b x
  own : ∀ b x, look h b = some x → x.live = true → (ρ b).blk < w.heap.size ∧ (S (ρ b).blk ∨ w0.heap.size ≤ (ρ b).blk)
  inj : ∀ b b' x x', look h b = some x → look h b' = some x' → x.live = true → x'.live = true → (ρ b).blk = (ρ b').blk → b = b'

variable {P : Program} {w0 : World} {S A : Nat → Prop} {N : Nat} {ρ : Id → Pl} {t : List (Nat × D)} {h : HL} {a : Act} {w : World}

theorem BlkOK.mono' {ρ' : Id → Pl} {h' : HL} {w' : World} {b b2 : Id} {x : Blk} (hx : BlkOK P A ρ h w b x) (e : ρ' b2 = ρ b) (hρ : ∀ b, Live h b → Live h' b ∧ ρ' b = ρ b)
    (hok : ∀ k, okOf A ρ h w k → okOf A ρ' h' w' k ∧ w'.heap[k]? = w.heap[k]?) (hs : x.mutable = true → w'.heap[(ρ b).blk]? = w.heap[(ρ b).blk]?) : BlkOK P A ρ' h' w' b2 x := by
  cases x with
  | var T cs =>
    obtain ⟨c, h1, h2, h3⟩ := hx
    exact ⟨c, by rw [e, hs rfl]; exact h1, h2, fun j hj => (h3 j hj).mono hρ hok⟩
  | row E l =>
    obtain ⟨c, h1, h2, h3, h4, h5, h6, h7, h8, h9⟩ := hx
    simp only [BlkOK, e]
    exact ⟨c, by rw [hs rfl]; exact h1, h2, h3, h4, h5, h6, h7, h8, fun i j hi hj => (h9 i j hi hj).mono hρ hok⟩
  | froz l => simp only [BlkOK, e]; exact Rep.mono hx hok
  | fvar cs => simp only [BlkOK, e]; exact Rep.mono hx hok
  | moved b' => exact ⟨(hρ b' hx.1).1, e.trans (hx.2.trans (hρ b' hx.1).2.symm)⟩
  | gone => trivial
theorem BlkOK.mono {ρ' : Id → Pl} {h' : HL} {w' : World} {b : Id} {x : Blk} (hx : BlkOK P A ρ h w b x) (hb : Live h b) (hρ : ∀ b, Live h b → Live h' b ∧ ρ' b = ρ b)
    (hok : ∀ k, okOf A ρ h w k → okOf A ρ' h' w' k ∧ w'.heap[k]? = w.heap[k]?) (hs : x.mutable = true → w'.heap[(ρ b).blk]? = w.heap[(ρ b).blk]?) : BlkOK P A ρ' h' w' b x :=
  hx.mono' (hρ b hb).2 hρ hok hs

/-- the general step -/
theorem Sim.step (s : Sim P w0 S A N ρ t h a w) {ρ' : Id → Pl} {h' : HL} {w' : World} (hfr : Fr S w0 w') (hρ : ∀ b, Live h b → Live h' b ∧ ρ' b = ρ b)
    (hok : ∀ k, okOf A ρ h w k → okOf A ρ' h' w' k ∧ w'.heap[k]? = w.heap[k]?)
    (hb : ∀ b x, look h' b = some x → (look h b = some x ∧ (x.mutable = true → w'.heap[(ρ b).blk]? = w.heap[(ρ b).blk]?)) ∨
      (BlkOK P A ρ' h' w' b x ∧ (x.live = true → (ρ' b).blk < w'.heap.size ∧ (S (ρ' b).blk ∨ w0.heap.size ≤ (ρ' b).blk))))
    (hw : w.heap.size ≤ w'.heap.size)
    (hinj : ∀ b b' x x', look h' b = some x → look h' b' = some x' → x.live = true → x'.live = true → (ρ' b).blk = (ρ' b').blk → b = b') : Sim P w0 S A N ρ' t h' a w' where
  base := s.base
  inS := s.inS
  fr := hfr
  defers := s.defers
  size := s.size
  tmp := fun k d hk => ⟨(s.tmp k d hk).1, (s.tmp k d hk).2.mono hρ hok⟩
  blk := fun b x hx => by
    rcases hb b x hx with ⟨h1, h2⟩ | ⟨h1, _⟩
    · exact (s.blk b x h1).mono (by simp [Live, h1]) hρ hok h2
    · exact h1
  own := fun b x hx hl => by
    rcases hb b x hx with ⟨h1, h2⟩ | ⟨_, h1⟩
    · have := s.own b x h1 hl
      rw [(hρ b (by simp [Live, h1])).2]
      exact ⟨Nat.lt_of_lt_of_le this.1 hw, this.2⟩
    · exact h1 hl
  inj := hinj

theorem Sim.putT (s : Sim P w0 S A N ρ t h a w) {d : D} {v : Value} (dst : Nat) (hd : dst < N) (hc : C ρ (Live h) (okOf A ρ h w) w d v) : Sim P w0 S A N ρ (put dst d t) h (a.put (some dst) v) w where
  base := s.base
  inS := s.inS
  fr := s.fr
  defers := s.defers
  size := by simpa [Act.put] using s.size
  tmp := fun k d' hk => by
    rw [look_put] at hk
    by_cases e : k = dst
    · subst e
      simp only [if_true, Option.some.injEq] at hk
      subst hk
      refine ⟨hd, ?_⟩
      have : k < a.tmps.size := by rw [s.size]; exact hd
      simpa [Act.put, Array.getD_eq_getD_getElem?, this] using hc
    · simp only [e, if_false] at hk
      have := s.tmp k d' hk
      refine ⟨this.1, ?_⟩
      simpa [Act.put, Array.getD_eq_getD_getElem?, Array.getElem?_setIfInBounds_ne (Ne.symm e)] using this.2
  blk := s.blk
  own := s.own
  inj := s.inj

theorem Sim.drew (s : Sim P w0 S A N ρ t h a w) (n : Nat) : Sim P w0 S A N ρ t h a { w with drawn := n } := by
  refine s.step ⟨s.fr.os, s.fr.tape, s.fr.output, s.fr.size, s.fr.block⟩ (fun b hb => ⟨hb, rfl⟩) (fun k hk => ⟨hk, rfl⟩) (fun b x hx => .inl ⟨hx, fun _ => rfl⟩) (Nat.le_refl _) s.inj

end Go.Proofs.Ytkclhekkcffpoaa.Am
