/- The plain machine: contracts, calls. -/
import Derived.Test.YtdecnnhcbjhfgaaAm9
import Derived.Calls
namespace Go.Proofs.Ytdecnnhcbjhfgaa.Am
set_option linter.unusedSimpArgs false
set_option linter.unusedVariables false
open Go Go.RowKit

variable {P : Program} {w0 : World} {S A : Nat → Prop} {N : Nat} {ρ : Nat → Pl} {t : List (Nat × D)} {h : List (Nat × Blk)} {a : Act} {w : World}

def idx (bs : List Blk) : List (Nat × Blk) := (bs.zipIdx 0).map fun x => (x.2, x.1)
theorem look_zip : ∀ (bs : List Blk) (k b : Nat), look ((bs.zipIdx k).map fun x => (x.2, x.1)) b = if k ≤ b then bs[b - k]? else none
  | [], k, b => by simp [look]
  | x :: bs, k, b => by
    simp only [List.zipIdx_cons, List.map_cons, look, look_zip bs (k + 1) b]
    by_cases h1 : b = k
    · subst h1; simp
    · by_cases h2 : k ≤ b
      · rw [if_neg h1, if_pos (by omega), if_pos h2, show b - k = (b - (k + 1)) + 1 by omega]
        rfl
      · rw [if_neg h1, if_neg (by omega), if_neg h2]
theorem look_idx (bs : List Blk) (b : Nat) : look (idx bs) b = bs[b]? := by simp [idx, look_zip]

def emptyA : Act := ⟨#[], []⟩
/-- the blocks that are handed over -/
def inB (ρ : Nat → Pl) (n : Nat) (k : Nat) : Prop := ∃ b, b < n ∧ (ρ b).blk = k

abbrev Fn := List D → List Blk → Option (D × List Blk)
/-- F is what the function f does, to its arguments and to the blocks that they point to. -/
def Sound (P : Program) (f : FuncId) (F : Fn) : Prop :=
  (∃ fn, P.funcs[f]? = some fn ∧ fn.body.isNone = false ∧ (fn.name == "runtime.NumGoroutine") = false) ∧
  ∀ ds hin r hout, F ds hin = some (r, hout) → ∀ (w : World) (A : Nat → Prop) (ρ : Nat → Pl) (vs : Array Value), Sim P w (inB ρ hin.length) A 0 ρ [] (idx hin) emptyA w → ds.length = vs.size →
    (∀ i, i < ds.length → C ρ (Live (idx hin)) (okOf A ρ (idx hin) w) w (ds.getD i .undef) (vs.getD i undef)) →
    Calls P f vs w fun e w' => ∃ u ρ', e = .returned u ∧ (∀ b, b < hin.length → ρ' b = ρ b) ∧ hin.length ≤ hout.length ∧ Sim P w (inB ρ hin.length) A 0 ρ' [] (idx hout) emptyA w' ∧ C ρ' (Live (idx hout)) (okOf A ρ' (idx hout) w') w' r u

mutual
def renD (g : Nat → Nat) : D → D
  | .ref b => .ref (g b)
  | .vref b o n => .vref (g b) o n
  | .ptr b o => .ptr (g b) o
  | .eptr b i o => .eptr (g b) i o
  | .agg cs => .agg (renL g cs)
  | .tup cs => .tup (renL g cs)
  | d => d
def renL (g : Nat → Nat) : List D → List D
  | [] => []
  | d :: l => renD g d :: renL g l
end
theorem renL_eq (g : Nat → Nat) : ∀ l, renL g l = l.map (renD g)
  | [] => by simp [renL]
  | d :: l => by simp [renL, renL_eq g l]
def renB (g : Nat → Nat) : Blk → Blk
  | .var T cs => .var T (cs.map (renD g))
  | x => x

theorem Rep.ren {ok : Nat → Prop} {d : D} {v : Value} (g : Nat → Nat) (hr : Rep ok w d v) : Rep ok w (renD g d) v := by
  induction hr with
  | int k n => simp only [renD]; exact .int k n
  | bool b => simp only [renD]; exact .bool b
  | str s => simp only [renD]; exact .str s
  | none a cap ha hcap => simp only [renD]; exact .none a cap ha hcap
  | lst l n b off cap f hn hcap hmax hok hsz hpos hc hr ih => simp only [renD]; exact .lst l n b off cap f hn hcap hmax hok hsz hpos hc hr
  | agg cs vs hl h ih =>
    simp only [renD, renL_eq]
    refine .agg _ _ (by simpa using hl) fun i hi => ?_
    have hi' : i < cs.length := by simpa using hi
    have := ih i hi'
    simpa [List.getD_eq_getElem?_getD, hi'] using this
  | tup cs vs hl h ih =>
    simp only [renD, renL_eq]
    refine .tup _ _ (by simpa using hl) fun i hi => ?_
    have hi' : i < cs.length := by simpa using hi
    have := ih i hi'
    simpa [List.getD_eq_getElem?_getD, hi'] using this
  | box cs b off f hok hpos hc hr ih => simp only [renD]; exact .box cs b off f hok hpos hc hr
  | nilp => simp only [renD]; exact .nilp
  | nils => simp only [renD]; exact .nils

theorem C.ren {ρ ρ' : Nat → Pl} {L L' ok ok' : Nat → Prop} {d : D} {v : Value} (g : Nat → Nat) (hc : C ρ L ok w d v) (hl : ∀ b, L b → L' (g b) ∧ ρ' (g b) = ρ b) (hm : ∀ k, ok k → ok' k) : C ρ' L' ok' w (renD g d) v := by
  induction hc with
  | pure h => exact .pure ((h.ren g).mono fun b hb => ⟨hm b hb, rfl⟩)
  | ref b hb => simp only [renD]; rw [← (hl b hb).2]; exact .ref _ (hl b hb).1
  | ptr b o hb => simp only [renD]; rw [← (hl b hb).2]; exact .ptr _ o (hl b hb).1
  | eptr b i o hb => simp only [renD]; rw [← (hl b hb).2]; exact .eptr _ i o (hl b hb).1
  | vref b o n hb hn => simp only [renD]; rw [← (hl b hb).2]; exact .vref _ o n (hl b hb).1 hn
  | iptr e o b off f hok hc hr => simp only [renD]; exact .iptr e o b off f (hm b hok) hc fun j hj => (hr j hj).mono fun b hb => ⟨hm b hb, rfl⟩
  | agg cs vs hl' h ih =>
    simp only [renD, renL_eq]
    refine .agg _ _ (by simpa using hl') fun i hi => ?_
    have hi' : i < cs.length := by simpa using hi
    have := ih i hi'
    simpa [List.getD_eq_getElem?_getD, hi'] using this
  | tup cs vs hl' h ih =>
    simp only [renD, renL_eq]
    refine .tup _ _ (by simpa using hl') fun i hi => ?_
    have hi' : i < cs.length := by simpa using hi
    have := ih i hi'
    simpa [List.getD_eq_getElem?_getD, hi'] using this
  | any v => simp only [renD]; exact .any v

mutual
/-- no slice or pointer within -/
def noMem : D → Bool
  | .lst _ | .box _ | .iptr .. => false
  | .agg cs => noMemL cs
  | .tup cs => noMemL cs
  | _ => true
def noMemL : List D → Bool
  | [] => true
  | d :: l => noMem d && noMemL l
end
theorem noMemL_all : ∀ l, noMemL l = l.all noMem
  | [] => by simp [noMemL]
  | d :: l => by simp [noMemL, noMemL_all l]
theorem Rep.free {ok ok' : Nat → Prop} {d : D} {v : Value} (hr : Rep ok w d v) (hn : noMem d = true) : Rep ok' w d v := by
  induction hr with
  | int k n => exact .int k n
  | bool b => exact .bool b
  | str s => exact .str s
  | agg cs vs hl h ih =>
    refine .agg _ _ hl fun i hi => ih i hi ?_
    simp only [noMem, noMemL_all, List.all_eq_true] at hn
    exact hn _ (by rw [List.getD_eq_getElem?_getD, List.getElem?_eq_getElem hi]; exact List.getElem_mem hi)
  | tup cs vs hl h ih =>
    refine .tup _ _ hl fun i hi => ih i hi ?_
    simp only [noMem, noMemL_all, List.all_eq_true] at hn
    exact hn _ (by rw [List.getD_eq_getElem?_getD, List.getElem?_eq_getElem hi]; exact List.getElem_mem hi)
  | nilp => exact .nilp
  | nils => exact .nils
  | _ => simp [noMem] at hn
theorem C.free {L ok ok' : Nat → Prop} {d : D} {v : Value} (hc : C ρ L ok w d v) (hn : noMem d = true) : C ρ L ok' w d v := by
  induction hc with
  | pure h => exact .pure (h.free hn)
  | ref b hb => exact .ref b hb
  | ptr b o hb => exact .ptr b o hb
  | eptr b i o hb => exact .eptr b i o hb
  | vref b o n hb hmx => exact .vref b o n hb hmx
  | iptr e o b off f hok hc hr => simp [noMem] at hn
  | agg cs vs hl h ih =>
    refine .agg _ _ hl fun i hi => ih i hi ?_
    simp only [noMem, noMemL_all, List.all_eq_true] at hn
    exact hn _ (by rw [List.getD_eq_getElem?_getD, List.getElem?_eq_getElem hi]; exact List.getElem_mem hi)
  | tup cs vs hl h ih =>
    refine .tup _ _ hl fun i hi => ih i hi ?_
    simp only [noMem, noMemL_all, List.all_eq_true] at hn
    exact hn _ (by rw [List.getD_eq_getElem?_getD, List.getElem?_eq_getElem hi]; exact List.getElem_mem hi)
  | any v => exact .any v
def noMemB : Blk → Bool
  | .var _ cs => cs.all noMem
  | .row _ l => l.all fun e => e.cells.all noMem
  | .froz l => l.isEmpty
  | .gone => true

/-- what a handed-over block holds -/
def purB (h : List (Nat × Blk)) : Blk → Option Blk
  | .var T cs => (cs.mapM (pur0 h)).map (.var T)
  | _ => none
def idsB : Blk → List Nat
  | .var _ cs => cs.flatMap ids0
  | _ => []
def ptrsOf (ds : List D) : List Nat := ds.filterMap fun d => match d with | .ptr b 0 => some b | _ => none
def argOf (h : List (Nat × Blk)) (ps : List Nat) (d : D) : Option D :=
  match d with
  | .ptr b 0 => some (.ptr (ps.idxOf b) 0)
  | d => pur h d
/-- the caller's names of the callee's blocks -/
def nameOf (ps : List Nat) (n : Nat) (i : Nat) : Nat := if i < ps.length then ps.getD i 0 else n + (i - ps.length)

def news (ps : List Nat) (n : Nat) (hout : List Blk) : List (Nat × Blk) := (hout.zipIdx 0).map fun x => (nameOf ps n x.2, renB (nameOf ps n) x.1)

/-- a call of a function that does F; fl: nothing of what it hands back is memory that is only read -/
def aCall (F : Fn) (h : List (Nat × Blk)) (n : Nat) (ds : List D) : Option (D × List (Nat × Blk)) :=
  let ps := ptrsOf ds
  match ds.mapM (argOf h ps), (ps.mapM fun b => (look h b).bind (purB h)) with
  | some ds', some hin => if ps.Nodup then (match F ds' hin with
    | some (r, hout) =>
      if noMem r && hout.all noMemB then some (renD (nameOf ps n) r, news ps n hout)
      else some (renD (nameOf ps n) r, frz h (ds.flatMap ids ++ (ps.flatMap fun b => ((look h b).map idsB).getD [])) ++ news ps n hout)
    | none => none) else none
  | _, _ => none
end Go.Proofs.Ytdecnnhcbjhfgaa.Am
