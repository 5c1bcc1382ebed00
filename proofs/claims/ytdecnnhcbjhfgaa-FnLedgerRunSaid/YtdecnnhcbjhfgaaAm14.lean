/- The plain machine: what an operation looks at. -/
import Derived.Test.YtdecnnhcbjhfgaaAm13
namespace Go.Proofs.Ytdecnnhcbjhfgaa.Am
set_option linter.unusedSimpArgs false
set_option linter.unusedVariables false
open Go Go.RowKit

variable {P : Program} {w0 : World} {S A : Nat → Prop} {N : Nat} {ρ : Nat → Pl} {t : List (Nat × D)} {h h' : List (Nat × Blk)} {a : Act} {w : World}

def idsA0 : D → List Nat
  | .ref b => [b]
  | .ptr b _ => [b]
  | .eptr b _ _ => [b]
  | .vref b _ _ => [b]
  | _ => []
def idsA : D → List Nat
  | .agg cs => cs.flatMap idsA0
  | .tup cs => cs.flatMap idsA0
  | d => idsA0 d
/-- whether an operation looks at memory -/
def looks : Op → Bool
  | .load .. => true
  | .store .. => true
  | .buildSlice .. => true
  | .convert .. => true
  | .slice .. => true
  | .indexAddr .. => true
  | .call .. => true
  | _ => false
/-- the blocks that an operation may look at -/
def fsOf (h : List (Nat × Blk)) (t : List (Nat × D)) (op : Op) : List Nat := bif looks op then
    (op.operands.toList.filterMap (evalD t)).flatMap idsA ++ ((op.operands.toList.filterMap (evalD t)).flatMap idsA).flatMap fun b => ((look h b).map idsB).getD []
  else []

def Agree (fs : List Nat) (h h' : List (Nat × Blk)) : Prop := ∀ b ∈ fs, look h b = look h' b

theorem ids0_sub (d : D) : ∀ b ∈ ids0 d, b ∈ idsA0 d := by cases d <;> simp [ids0, idsA0]
theorem ids_sub (d : D) : ∀ b ∈ ids d, b ∈ idsA d := by
  intro b hb
  cases d <;> simp only [ids, idsA, List.mem_flatMap] at hb ⊢ <;> first
    | exact ids0_sub _ b hb
    | (obtain ⟨c, hc, hb⟩ := hb; exact ⟨c, hc, ids0_sub c b hb⟩)

theorem elems_local {d : D} (ha : Agree (idsA d) h h') : elems h d = elems h' d := by
  cases d <;> try rfl
  case ref b => simp only [elems, ha b (by simp [idsA, idsA0])]
  case vref b o n => simp only [elems, ha b (by simp [idsA, idsA0])]
theorem pur0_local {d : D} (ha : Agree (idsA0 d) h h') : pur0 h d = pur0 h' d := by
  cases d <;> try rfl
  rename_i b
  simp only [pur0, ha b (by simp [idsA0])]
theorem mapM_congr' {α β : Type} {f g : α → Option β} : ∀ {l : List α}, (∀ x ∈ l, f x = g x) → l.mapM f = l.mapM g
  | [], _ => rfl
  | x :: l, h => by
    simp only [List.mapM_cons, h x (List.mem_cons_self ..), mapM_congr' fun y hy => h y (List.mem_cons_of_mem _ hy)]
theorem pur_local {d : D} (ha : Agree (idsA d) h h') : pur h d = pur h' d := by
  cases d <;> simp only [pur]
  case agg cs => rw [mapM_congr' fun c hc => pur0_local fun b hb => ha b (List.mem_flatMap.2 ⟨c, hc, hb⟩)]
  case tup cs => rw [mapM_congr' fun c hc => pur0_local fun b hb => ha b (List.mem_flatMap.2 ⟨c, hc, hb⟩)]
  all_goals exact pur0_local ha
theorem frz_local {bs : List Nat} (ha : Agree bs h h') : frz h bs = frz h' bs := by
  unfold frz
  induction bs with
  | nil => rfl
  | cons b bs ih =>
    simp only [List.filterMap_cons, ha b (List.mem_cons_self ..), ih fun x hx => ha x (List.mem_cons_of_mem _ hx)]
theorem aLoad_local {T : TypeId} {d : D} (ha : Agree (idsA d) h h') : aLoad P h T d = aLoad P h' T d := by
  cases d <;> try rfl
  case ptr b o => simp only [aLoad, ha b (by simp [idsA, idsA0])]
  case eptr b i o => simp only [aLoad, ha b (by simp [idsA, idsA0])]
theorem look_puts_congr {u : List (Nat × Blk)} {b : Nat} (hb : look h b = look h' b) : look (puts u h) b = look (puts u h') b := by
  induction u generalizing h h' with
  | nil => exact hb
  | cons x u ih =>
    show look (puts u (put x.1 x.2 h)) b = look (puts u (put x.1 x.2 h')) b
    refine ih ?_
    rw [look_put, look_put, hb]
theorem aStore_local {T : TypeId} {d e : D} (ha : Agree (idsA d) h h') : aStore P h T d e = aStore P h' T d e := by
  cases d <;> try rfl
  case ptr b o => simp only [aStore, ha b (by simp [idsA, idsA0])]
  case eptr b i o => simp only [aStore, ha b (by simp [idsA, idsA0])]
theorem aIndexAddr_local {T : TypeId} {d e : D} (ha : Agree (idsA d) h h') : aIndexAddr P h T d e = aIndexAddr P h' T d e := by
  unfold aIndexAddr
  rw [elems_local ha]
  cases d <;> try rfl
  case ref b => simp only [ha b (by simp [idsA, idsA0])]
theorem aLen_local {T : TypeId} {d : D} (ha : Agree (idsA d) h h') : aLen P h T d = aLen P h' T d := by
  unfold aLen; rw [elems_local ha]
theorem aConv_local {s T : TypeId} {d : D} (ha : Agree (idsA d) h h') : aConv P h s T d = aConv P h' s T d := by
  unfold aConv; rw [elems_local ha]
theorem aAppend_local {n : Nat} {T : TypeId} {d e : D} (ha : Agree (idsA d) h h') (he : Agree (idsA e) h h') : aAppend P h n T d e = aAppend P h' n T d e := by
  unfold aAppend
  rw [elems_local he]
  cases d <;> try rfl
  case ref b => simp only [ha b (by simp [idsA, idsA0])]
theorem aCopy_local {T : TypeId} {d e : D} (ha : Agree (idsA d) h h') (he : Agree (idsA e) h h') : aCopy P h T d e = aCopy P h' T d e := by
  unfold aCopy
  rw [elems_local he]
  cases P.underlying T with
  | none => rfl
  | some ty =>
    cases ty <;> try rfl
    cases d <;> try rfl
    rename_i b o n
    have hb : look h b = look h' b := ha b (by simp [idsA, idsA0])
    dsimp only
    rw [hb]
theorem aSlice_local {T : TypeId} {d : D} {l r : Option D} (ha : Agree (idsA d) h h') : aSlice P h T d l r = aSlice P h' T d l r := by
  unfold aSlice
  rw [elems_local ha]
  cases d <;> try rfl
  case ref b => simp only [ha b (by simp [idsA, idsA0])]
  case ptr b o =>
    have e : look h b = look h' b := ha b (by simp [idsA, idsA0])
    cases P.underlying T with
    | none => rfl
    | some ty =>
      cases ty <;> try rfl
      dsimp only
      rw [e]

theorem purB_local {x : Blk} (ha : Agree (idsB x) h h') : purB h x = purB h' x := by
  cases x <;> try rfl
  rename_i T cs
  simp only [purB]
  rw [mapM_congr' fun c hc => ?_]
  cases c <;> try rfl
  rename_i b
  exact pur0_local fun b' hb' => ha b' (List.mem_flatMap.2 ⟨_, hc, by simpa [ids0, idsA0] using hb'⟩)
theorem aCall_local {F : Fn} {n : Nat} {ds : List D} (ha : Agree (ds.flatMap idsA) h h') (hb : Agree ((ds.flatMap idsA).flatMap fun b => ((look h b).map idsB).getD []) h h') : aCall F h n ds = aCall F h' n ds := by
  have hp : ∀ b ∈ ptrsOf ds, look h b = look h' b := fun b hb => ha b (List.mem_flatMap.2 ⟨_, mem_ptrs hb, by simp [idsA, idsA0]⟩)
  have e1 : ds.mapM (argOf h (ptrsOf ds)) = ds.mapM (argOf h' (ptrsOf ds)) := mapM_congr' fun d hd => by
    unfold argOf
    split
    · rfl
    · exact pur_local fun b hb => ha b (List.mem_flatMap.2 ⟨d, hd, hb⟩)
  have e2 : ((ptrsOf ds).mapM fun b => (look h b).bind (purB h)) = ((ptrsOf ds).mapM fun b => (look h' b).bind (purB h')) := mapM_congr' fun b hbp => by
    rw [← hp b hbp]
    cases hl : look h b with
    | none => rfl
    | some x =>
      refine purB_local fun b' hb' => hb b' (List.mem_flatMap.2 ⟨b, List.mem_flatMap.2 ⟨_, mem_ptrs hbp, by simp [idsA, idsA0]⟩, ?_⟩)
      rw [hl]; exact hb'
  have e3 : ((ptrsOf ds).flatMap fun b => ((look h b).map idsB).getD []) = ((ptrsOf ds).flatMap fun b => ((look h' b).map idsB).getD []) := by
    have : ∀ (l : List Nat), (∀ b ∈ l, look h b = look h' b) → (l.flatMap fun b => ((look h b).map idsB).getD []) = (l.flatMap fun b => ((look h' b).map idsB).getD []) := by
      intro l hl
      induction l with
      | nil => rfl
      | cons b l ih => simp only [List.flatMap_cons, hl b (List.mem_cons_self ..), ih fun x hx => hl x (List.mem_cons_of_mem _ hx)]
    exact this _ hp
  have e4 : frz h (ds.flatMap ids ++ ((ptrsOf ds).flatMap fun b => ((look h b).map idsB).getD [])) = frz h' (ds.flatMap ids ++ ((ptrsOf ds).flatMap fun b => ((look h' b).map idsB).getD [])) := by
    rw [← e3]
    refine frz_local fun b hbm => ?_
    rcases List.mem_append.1 hbm with q | q
    · obtain ⟨d, hd, hbd⟩ := List.mem_flatMap.1 q
      exact ha b (List.mem_flatMap.2 ⟨d, hd, ids_sub d b hbd⟩)
    · obtain ⟨c, hc, hbc⟩ := List.mem_flatMap.1 q
      exact hb b (List.mem_flatMap.2 ⟨c, List.mem_flatMap.2 ⟨_, mem_ptrs hc, by simp [idsA, idsA0]⟩, hbc⟩)
  unfold aCall
  simp only [e1, e2, e4]

theorem evalDs_congr {t' : List (Nat × D)} {xs : List Operand} (ht : ∀ x ∈ xs, evalD t x = evalD t' x) : evalDs t xs = evalDs t' xs := mapM_congr' ht
theorem evalPs_congr {t' : List (Nat × D)} {xs : List (Nat × Operand)} (ht : ∀ x ∈ xs, evalD t x.2 = evalD t' x.2) : evalPs t xs = evalPs t' xs := mapM_congr' fun x hx => by rw [ht x hx]
theorem evalO_congr {t' : List (Nat × D)} {x : Option Operand} (ht : ∀ y ∈ x, evalD t y = evalD t' y) : evalO t x = evalO t' x := by
  cases x with
  | none => rfl
  | some x => simp only [evalO, ht x rfl]

set_option maxHeartbeats 1000000 in
theorem aop_t {t' : List (Nat × D)} {Γ : Env} {op : Op} {n : Nat} (ht : ∀ x ∈ op.operands, evalD t x = evalD t' x) : aop P Γ op t h n = aop P Γ op t' h n := by
  cases op <;> simp only [Op.operands] at ht <;> try rfl
  case move x => simp only [aop, ht x (by simp)]
  case assign x => simp only [aop, ht x (by simp)]
  case pick c x y => simp only [aop, ht c (by simp), ht x (by simp), ht y (by simp)]
  case box T x => simp only [aop, ht x (by simp)]
  case build T ps => simp only [aop]; rw [evalPs_congr fun x hx => ht x.2 (by simp; exact ⟨x.1, by simpa using hx⟩)]
  case buildSlice T len ps => simp only [aop]; rw [evalPs_congr fun x hx => ht x.2 (by simp; exact ⟨x.1, by simpa using hx⟩)]
  case load T x => simp only [aop, ht x (by simp)]
  case store T x y => simp only [aop, ht x (by simp), ht y (by simp)]
  case nilCheck x => simp only [aop, ht x (by simp)]
  case binOp o T x y yT => simp only [aop, ht x (by simp), ht y (by simp)]
  case unOp o T x => simp only [aop, ht x (by simp)]
  case convert s T x => simp only [aop, ht x (by simp)]
  case makeSlice T x y => simp only [aop, ht x (by simp), ht y (by simp)]
  case slice T x lo hi mx =>
    cases mx with
    | some m => rfl
    | none =>
      have e1 : evalO t lo = evalO t' lo := evalO_congr fun y hy => ht y (by simp only [Option.mem_def] at hy; subst hy; simp)
      have e2 : evalO t hi = evalO t' hi := evalO_congr fun y hy => ht y (by simp only [Option.mem_def] at hy; subst hy; simp)
      simp only [aop, ht x (by simp), e1, e2]
  case fieldAddr T x f => simp only [aop, ht x (by simp)]
  case field T x f => simp only [aop, ht x (by simp)]
  case indexAddr T x y => simp only [aop, ht x (by simp), ht y (by simp)]
  case index T x y => simp only [aop, ht x (by simp), ht y (by simp)]
  case extract x i => simp only [aop, ht x (by simp)]
  case call c =>
    obtain ⟨callee, args, argTypes⟩ := c
    have hargs : ∀ x ∈ args.toList, evalD t x = evalD t' x := fun x hx => ht x (by simp [Call.operands]; exact .inr (by simpa using hx))
    simp only [aop, aCallOp]
    cases callee with
    | builtin b =>
      simp only
      rw [evalDs_congr hargs]
    | value f =>
      cases f <;> try rfl
      simp only [aCallF]
      rw [evalDs_congr hargs]
    | invoke r m => rfl
end Go.Proofs.Ytdecnnhcbjhfgaa.Am
