/- The plain machine: contracts, calls. -/
import Derived.Test.YtkclhekkcffpoaaB9
import Derived.Calls
namespace Go.Proofs.Ytkclhekkcffpoaa.Am
set_option linter.unusedSimpArgs false
set_option linter.unusedVariables false
open Go Go.RowKit

variable {P : Program} {w0 : World} {S A : Nat → Prop} {N : Nat} {ρ : Id → Pl} {t : List (Nat × D)} {h : HL} {a : Act} {w : World}

def emptyA : Act := ⟨#[], []⟩
/-- the blocks that are handed over -/
def inB (ρ : Id → Pl) (hin : HL) (k : Nat) : Prop := ∃ b x, look hin b = some x ∧ x.live = true ∧ (ρ b).blk = k

/-- Called with ds and the blocks hin, the function f hands back r, and leaves hout. -/
def Con (P : Program) (f : FuncId) (ds : List D) (hin : HL) (r : D) (hout : HL) : Prop :=
  (∃ fn, P.funcs[f]? = some fn ∧ fn.body.isNone = false ∧ (fn.name == "runtime.NumGoroutine") = false) ∧
  ∀ (w : World) (A : Nat → Prop) (ρ : Id → Pl) (vs : Array Value), Sim P w (inB ρ hin) A 0 ρ [] hin emptyA w → ds.length = vs.size →
    (∀ i, i < ds.length → C ρ (Live hin) (okOf A ρ hin w) w (ds.getD i .undef) (vs.getD i undef)) →
    Calls P f vs w fun e w' => ∃ u ρ', e = .returned u ∧ (∀ b, Live hin b → ρ' b = ρ b ∧ Live hout b) ∧ Sim P w (inB ρ hin) A 0 ρ' [] hout emptyA w' ∧ C ρ' (Live hout) (okOf A ρ' hout w') w' r u

mutual
def renD (g : Id → Id) : D → D
  | .ref b => .ref (g b)
  | .vref b o n => .vref (g b) o n
  | .ptr b o => .ptr (g b) o
  | .eptr b i o => .eptr (g b) i o
  | .ifc T d => .ifc T (renD g d)
  | .clo f cs => .clo f (renL g cs)
  | .agg cs => .agg (renL g cs)
  | .tup cs => .tup (renL g cs)
  | d => d
def renL (g : Id → Id) : List D → List D
  | [] => []
  | d :: l => renD g d :: renL g l
end
theorem renL_eq (g : Id → Id) : ∀ l, renL g l = l.map (renD g)
  | [] => by simp [renL]
  | d :: l => by simp [renL, renL_eq g l]
def renB (g : Id → Id) : Blk → Blk
  | .var T cs => .var T (cs.map (renD g))
  | .row E l => .row E (l.map (renD g))
  | .moved b => .moved (g b)
  | x => x
def renH (g : Id → Id) (h : HL) : HL := h.map fun p => (g p.1, renB g p.2)
theorem renD_cells (g : Id → Id) (d : D) : (renD g d).cells = d.cells.map (renD g) := by
  cases d <;> simp [renD, D.cells, renL_eq]
theorem renD_one (g : Id → Id) (d : D) : (renD g d).one = d.one := by cases d <;> simp [renD, D.one]
theorem renD_pure0 (g : Id → Id) {d : D} (h : d.pure0 = true) : renD g d = d := by cases d <;> first | rfl | cases h
theorem renB_mutable (g : Id → Id) (x : Blk) : (renB g x).mutable = x.mutable := by cases x <;> rfl
theorem renB_live (g : Id → Id) (x : Blk) : (renB g x).live = x.live := by cases x <;> rfl

theorem Rep.ren {ok : Nat → Prop} {d : D} {v : Value} (g : Id → Id) (hr : Rep ok w d v) : Rep ok w (renD g d) v := by
  induction hr with
  | agg cs vs hl h ih =>
    simp only [renD, renL_eq]
    refine .agg _ _ (by simpa using hl) fun i hi => ?_
    have hi' : i < cs.length := by simpa using hi
    have := ih i hi'
    simpa [List.getD_eq_getElem?_getD, hi'] using this
  | tup cs vs hl h ih =>
    simp only [renD, renL_eq]
    refine .tup _ _ (by simpa using hl) fun i hi => ?_
    have hi' : i < cs.length := by simpa using hi
    have := ih i hi'
    simpa [List.getD_eq_getElem?_getD, hi'] using this
  | int k n => exact .int k n
  | bool b => exact .bool b
  | str s => exact .str s
  | none a cap ha hcap => exact .none a cap ha hcap
  | lst l n b off cap f hn hcap hmax hok hsz hpos hc hr ih => exact .lst l n b off cap f hn hcap hmax hok hsz hpos hc hr
  | box cs b off f hok hpos hc hr ih => exact .box cs b off f hok hpos hc hr
  | nilp => exact .nilp
  | nils => exact .nils
  | nilf => exact .nilf
  | nili => exact .nili
theorem C.ren {ρ ρ' : Id → Pl} {L L' : Id → Prop} {ok ok' : Nat → Prop} {d : D} {v : Value} (g : Id → Id) (hc : C ρ L ok w d v) (hl : ∀ b, L b → L' (g b) ∧ ρ' (g b) = ρ b) (hm : ∀ k, ok k → ok' k) : C ρ' L' ok' w (renD g d) v := by
  induction hc with
  | pure hr => exact .pure ((hr.mono fun k hk => ⟨hm k hk, rfl⟩).ren g)
  | ref b hb => simp only [renD]; rw [← (hl b hb).2]; exact .ref (g b) (hl b hb).1
  | ptr b o hb => simp only [renD]; rw [← (hl b hb).2]; exact .ptr (g b) o (hl b hb).1
  | eptr b i o hb => simp only [renD]; rw [← (hl b hb).2]; exact .eptr (g b) i o (hl b hb).1
  | vref b o n hb hn => simp only [renD]; rw [← (hl b hb).2]; exact .vref (g b) o n (hl b hb).1 hn
  | iptr e o b off f hok hc hr => exact .iptr e o b off f (hm b hok) hc fun j hj => (hr j hj).mono fun k hk => ⟨hm k hk, rfl⟩
  | agg cs vs hl' h ih =>
    simp only [renD, renL_eq]
    refine .agg _ _ (by simpa using hl') fun i hi => ?_
    have hi' : i < cs.length := by simpa using hi
    have := ih i hi'
    simpa [List.getD_eq_getElem?_getD, hi'] using this
  | tup cs vs hl' h ih =>
    simp only [renD, renL_eq]
    refine .tup _ _ (by simpa using hl') fun i hi => ?_
    have hi' : i < cs.length := by simpa using hi
    have := ih i hi'
    simpa [List.getD_eq_getElem?_getD, hi'] using this
  | clo f cs vs hl' h ih =>
    simp only [renD, renL_eq]
    refine .clo _ _ _ (by simpa using hl') fun i hi => ?_
    have hi' : i < cs.length := by simpa using hi
    have := ih i hi'
    simpa [List.getD_eq_getElem?_getD, hi'] using this
  | ifc T d v h ih => exact .ifc T _ v ih
  | any v => exact .any v
  | junk v hv => exact .junk v hv

mutual
/-- no slice or pointer within -/
def noMem : D → Bool
  | .lst [] => true
  | .lst _ | .box _ | .iptr .. => false
  | .ifc _ d => noMem d
  | .clo _ cs => noMemL cs
  | .agg cs => noMemL cs
  | .tup cs => noMemL cs
  | _ => true
def noMemL : List D → Bool
  | [] => true
  | d :: l => noMem d && noMemL l
end
theorem noMemL_all : ∀ l, noMemL l = l.all noMem
  | [] => by simp [noMemL]
  | d :: l => by simp [noMemL, noMemL_all l]
theorem noMem_at {cs : List D} (hn : noMemL cs = true) {i : Nat} (hi : i < cs.length) : noMem (cs.getD i .undef) = true := by
  rw [noMemL_all, List.all_eq_true] at hn
  exact hn _ (getD_mem hi)
theorem Rep.free {ok ok' : Nat → Prop} {d : D} {v : Value} (hr : Rep ok w d v) (hn : noMem d = true) : Rep ok' w d v := by
  induction hr with
  | int k n => exact .int k n
  | bool b => exact .bool b
  | str s => exact .str s
  | none a cap ha hcap => exact .none a cap ha hcap
  | nilp => exact .nilp
  | nils => exact .nils
  | nilf => exact .nilf
  | nili => exact .nili
  | agg cs vs hl h ih =>
    simp only [noMem] at hn
    exact .agg cs vs hl fun i hi => ih i hi (noMem_at hn hi)
  | tup cs vs hl h ih =>
    simp only [noMem] at hn
    exact .tup cs vs hl fun i hi => ih i hi (noMem_at hn hi)
  | lst l n b off cap f hn' hcap hmax hok hsz hpos hc hr ih =>
    cases l with
    | nil => subst hn'; exact .none _ _ (fun h => by cases h) hmax
    | cons e l => simp [noMem] at hn
  | box cs b off f hok hpos hc hr ih => simp [noMem] at hn
theorem C.free {L : Id → Prop} {ok ok' : Nat → Prop} {d : D} {v : Value} (hc : C ρ L ok w d v) (hn : noMem d = true) : C ρ L ok' w d v := by
  induction hc with
  | pure hr => exact .pure (hr.free hn)
  | ref b hb => exact .ref b hb
  | ptr b o hb => exact .ptr b o hb
  | eptr b i o hb => exact .eptr b i o hb
  | vref b o n hb hn' => exact .vref b o n hb hn'
  | iptr e o b off f hok hc hr => simp [noMem] at hn
  | agg cs vs hl h ih =>
    simp only [noMem] at hn
    exact .agg cs vs hl fun i hi => ih i hi (noMem_at hn hi)
  | tup cs vs hl h ih =>
    simp only [noMem] at hn
    exact .tup cs vs hl fun i hi => ih i hi (noMem_at hn hi)
  | clo f cs vs hl h ih =>
    simp only [noMem] at hn
    exact .clo f cs vs hl fun i hi => ih i hi (noMem_at hn hi)
  | ifc T d v h ih => simp only [noMem] at hn; exact .ifc T d v (ih hn)
  | any v => exact .any v
  | junk v hv => exact .junk v hv
def noMemB : Blk → Bool
  | .var _ cs => cs.all noMem
  | .row _ l => l.all fun e => e.cells.all noMem
  | .froz l => l.isEmpty
  | .fvar _ => false
  | _ => true

/-- b is a block of the callee's; or of a family that is handed over whole -/
def VLive (h : HL) (g : Id → Id) (hin : HL) (F : List Nat) (b : Id) : Prop := Live hin b ∨ ((g b).1 ∈ F ∧ (Live h (g b) → Live hin b))
theorem VLive.at {h : HL} {g : Id → Id} {hin : HL} {F : List Nat} {b : Id} (hv : VLive h g hin F b) (hl : Live h (g b)) : Live hin b := hv.elim id fun h => h.2 hl
/-- How the callee sees what the caller hands it: g: the caller's names of the callee's blocks; hin: these; W: the blocks that are only read. -/
inductive View (h : HL) (g : Id → Id) (hin : HL) (W : List Id) (F : List Nat) : D → D → Prop where
  | ref (b : Id) (hb : VLive h g hin F b) : View h g hin W F (.ref (g b)) (.ref b)
  | ptr (b : Id) (o : Nat) (hb : VLive h g hin F b) : View h g hin W F (.ptr (g b) o) (.ptr b o)
  | eptr (b : Id) (i o : Nat) (hb : VLive h g hin F b) : View h g hin W F (.eptr (g b) i o) (.eptr b i o)
  | vref (b : Id) (o n : Nat) (hb : VLive h g hin F b) : View h g hin W F (.vref (g b) o n) (.vref b o n)
  | pure (k : Nat) (d d' : D) (hd : purD h k d = some d') (hw : ∀ b ∈ idsD h k d, b ∈ W) : View h g hin W F d d'
  | nils : View h g hin W F .nils .nils
  | agg (cs cs' : List D) (hl : cs.length = cs'.length) (hc : ∀ i, i < cs.length → View h g hin W F (cs.getD i .undef) (cs'.getD i .undef)) : View h g hin W F (.agg cs) (.agg cs')
  | clo (f : FuncId) (cs cs' : List D) (hl : cs.length = cs'.length) (hc : ∀ i, i < cs.length → View h g hin W F (cs.getD i .undef) (cs'.getD i .undef)) : View h g hin W F (.clo f cs) (.clo f cs')
  | ifc (T : TypeId) (d d' : D) (hd : View h g hin W F d d') : View h g hin W F (.ifc T d) (.ifc T d')
  | junk : View h g hin W F .junk .junk
/-- .. a block -/
inductive ViewB (h : HL) (g : Id → Id) (hin : HL) (W : List Id) (F : List Nat) : Blk → Blk → Prop where
  | var (T : TypeId) (cs cs' : List D) (hl : cs.length = cs'.length) (hc : ∀ i, i < cs.length → View h g hin W F (cs.getD i .undef) (cs'.getD i .undef)) : ViewB h g hin W F (.var T cs) (.var T cs')
  | row (E : TypeId) (l l' : List D) (hl : l.length = l'.length) (hc : ∀ i, i < l.length → View h g hin W F (l.getD i .undef) (l'.getD i .undef)) : ViewB h g hin W F (.row E l) (.row E l')

/-- a call -/
structure CallOK (P : Program) (f : FuncId) (h : HL) (n : Nat) (ds : List D) (d : D) (u : HL) (fs : List Nat) where
  g : Id → Id
  W : List Id
  F : List Nat
  ds' : List D
  hin : HL
  r : D
  hout : HL
  con : Con P f ds' hin r hout
  len : ds.length = ds'.length
  args : ∀ i, i < ds.length → View h g hin W F (ds.getD i .undef) (ds'.getD i .undef)
  blks : ∀ b x', look hin b = some x' → ∃ x, look h (g b) = some x ∧ ViewB h g hin W F x x'
  keys : (hout.map (·.1)).Nodup
  inj : ∀ b b', Live hout b → Live hout b' → g b = g b' → b = b'
  sub : ∀ b, Live hin b → Live hout b
  new : ∀ b, Live hout b → ¬ Live hin b → look h (g b) = none
  apart : ∀ b ∈ W, ∀ b', Live hin b' → g b' ≠ b
  foot : (∀ b, Live hout b → (g b).1 ∈ fs ∨ n ≤ (g b).1) ∧ (∀ b ∈ W, b.1 ∈ fs) ∧ ∀ k ∈ F, k ∈ fs
  res : d = renD g r
  upd : (noMem r = true ∧ (∀ p ∈ hout, noMemB p.2 = true) ∧ u = renH g hout) ∨ ((∀ b ∈ W, ∀ x, look h b = some x → x.mutable = true → (frzB h b).isSome = true) ∧ u = frz h W ++ renH g hout)

theorem purD_one {k : Nat} {d d' : D} (hd : purD h k d = some d') : d.one = true ∧ d'.one = true := by
  refine ⟨?_, pure0_one (purD_pure k d d' hd)⟩
  cases d with
  | agg cs => rw [purD_agg] at hd; cases hd
  | tup cs => cases k <;> cases hd
  | undef => cases k <;> cases hd
  | _ => rfl
theorem View.one {g : Id → Id} {hin : HL} {W : List Id} {F : List Nat} {d d' : D} (hv : View h g hin W F d d') : d'.one = d.one := by
  cases hv with
  | pure k _ _ hd hw => rw [(purD_one hd).1, (purD_one hd).2]
  | _ => rfl
theorem View.wf {g : Id → Id} {hin : HL} {W : List Id} {F : List Nat} {s : Nat} {d d' : D} (hv : View h g hin W F d d') (hw : wfC s d) : wfC s d' ∧ ∀ j, j < s → View h g hin W F (d.cells.getD j .undef) (d'.cells.getD j .undef) := by
  by_cases hag : ∃ cs, d = .agg cs
  · obtain ⟨cs, rfl⟩ := hag
    cases hv with
    | pure k _ _ hd _ => rw [purD_agg] at hd; cases hd
    | agg _ cs' hl hc =>
      have h1 : cs.length = s := hw.1
      refine ⟨⟨by show cs'.length = s; omega, ?_⟩, fun j hj => hc j (by omega)⟩
      rw [List.all_eq_true]
      intro x hx
      obtain ⟨j, hj, rfl⟩ := mem_getD' hx
      have hj' : j < cs.length := by simp only [D.cells] at hj; omega
      have h2 := hw.2
      rw [List.all_eq_true] at h2
      rw [show (D.agg cs').cells = cs' from rfl, (hc j hj').one]
      exact h2 _ (getD_mem hj')
  · have hc : d.cells = [d] := cells_single fun cs hcs => hag ⟨cs, hcs⟩
    have h1 : s = 1 := by have := hw.1; rw [hc] at this; simpa using this.symm
    subst h1
    have h2 : d.one = true := by have := hw.2; rw [hc] at this; simpa using this
    have h3 : d'.one = true := by rw [hv.one]; exact h2
    rw [one_cells h3, hc]
    refine ⟨⟨by rw [one_cells h3]; rfl, by rw [one_cells h3]; simp [h3]⟩, fun j hj => ?_⟩
    obtain rfl : j = 0 := by omega
    exact hv
theorem ViewB.live {g : Id → Id} {hin : HL} {W : List Id} {F : List Nat} {x x' : Blk} (hv : ViewB h g hin W F x x') : x.live = true ∧ x'.live = true ∧ x.mutable = true ∧ x'.mutable = true := by
  cases hv <;> exact ⟨rfl, rfl, rfl, rfl⟩
end Go.Proofs.Ytkclhekkcffpoaa.Am
