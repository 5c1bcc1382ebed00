/- The plain machine: one operation. -/
import Derived.Test.YtkclhekkcffpoaaB12
namespace Go.Proofs.Ytkclhekkcffpoaa.Am
set_option linter.unusedSimpArgs false
set_option linter.unusedVariables false
open Go Go.RowKit

variable {P : Program} {w0 : World} {S A : Nat → Prop} {N : Nat} {ρ : Id → Pl} {t : List (Nat × D)} {h : HL} {a : Act} {w : World}

def isPtr : D → Bool
  | .ptr .. | .eptr .. | .iptr .. | .box _ => true
  | _ => false
/-- a pointer held against nil -/
def aBinP (P : Program) (op : BinOp) (T : TypeId) (d1 d2 : D) : Option D :=
  match P.underlying T with
  | some (.pointer _) => (match d1, d2, op with
    | .nilp, .nilp, .eql => some (.bool true)
    | .nilp, .nilp, .neq => some (.bool false)
    | .nilp, d, .eql => if isPtr d then some (.bool false) else none
    | .nilp, d, .neq => if isPtr d then some (.bool true) else none
    | d, .nilp, .eql => if isPtr d then some (.bool false) else none
    | d, .nilp, .neq => if isPtr d then some (.bool true) else none
    | _, _, _ => none)
  | _ => none
def aBoolEq (op : BinOp) (T : TypeId) (P : Program) (d1 d2 : D) : Option D :=
  match P.underlying T with
  | some .bool => (match d1, d2, op with
    | .bool x, .bool y, .eql => some (.bool (x == y))
    | .bool x, .bool y, .neq => some (.bool !(x == y))
    | _, _, _ => none)
  | _ => none

theorem mapM_len {α β : Type} {f : α → Option β} : ∀ {l : List α} {l' : List β}, l.mapM f = some l' → l'.length = l.length ∧ ∀ i, i < l.length → ∀ x, l[i]? = some x → ∃ y, f x = some y ∧ l'[i]? = some y
  | [], l', h => by simp at h; subst h; simp
  | d :: l, l', h => by
    simp only [List.mapM_cons, Option.bind_eq_bind, Option.bind_eq_some_iff, Option.pure_def, Option.some.injEq] at h
    obtain ⟨d', h1, l2, h2, rfl⟩ := h
    obtain ⟨e, ih⟩ := mapM_len h2
    refine ⟨by simp [e], fun i hi x hx => ?_⟩
    cases i with
    | zero => simp at hx; subst hx; exact ⟨d', h1, by simp⟩
    | succ i => simpa using ih i (by simpa using hi) x (by simpa using hx)
def evalDs (t : List (Nat × D)) (xs : List Operand) : Option (List D) := xs.mapM (evalD t)
def evalPs (t : List (Nat × D)) (xs : List (Nat × Operand)) : Option (List (Nat × D)) := xs.mapM fun x => (evalD t x.2).map fun d => (x.1, d)
def evalO (t : List (Nat × D)) : Option Operand → Option (Option D)
  | none => some none
  | some x => (evalD t x).map some

/-! ### interfaces -/
def aIfc (P : Program) (T : TypeId) : Bool := match P.underlying T with | some (.interface _) => false | some _ => true | none => false
def isIfc (P : Program) (T : TypeId) : Bool := match P.underlying T with | some (.interface _) => true | _ => false
/-- a value of a type that is no interface, out of one -/
def aAssert (P : Program) (T : TypeId) (ok : Bool) (d : D) : Option D :=
  if aIfc P T then (match d with
    | .ifc T' e => if T' = T then some (if ok then .tup [e, .bool true] else e) else if ok then (ofZero P T).map fun z => .tup [z, .bool false] else none
    | .nili => if ok then (ofZero P T).map fun z => .tup [z, .bool false] else none
    | _ => none) else none
theorem aIfc_ok {T : TypeId} (h : aIfc P T = true) : ∃ d, P.underlying T = some d ∧ ∀ x, d ≠ .interface x := by
  unfold aIfc at h
  split at h
  · cases h
  · rename_i d h1 h2; exact ⟨d, h2, fun x e => h1 x e⟩
  · cases h
theorem aAssert_ok {T xT : TypeId} {ok : Bool} {d d' : D} {v : Value} {L : Id → Prop} {ok' : Nat → Prop} (hd : aAssert P T ok d = some d') (hv : C ρ L ok' w d v) : ∃ v', (Instr.typeAssert v xT T ok).run P w = .ok v' w ∧ C ρ L ok' w d' v' := by
  unfold aAssert at hd
  split at hd
  · rename_i hi
    obtain ⟨td, hu, hne⟩ := aIfc_ok hi
    have pair : ∀ {e : D} {x : Value} {b : Bool}, C ρ L ok' w e x → C ρ L ok' w (.tup [e, .bool b]) (.tuple #[x, .bool b]) := by
      intro e x b he
      refine .tup _ _ rfl fun i hi => ?_
      match i, hi with
      | 0, _ => exact he
      | 1, _ => exact .pure (.bool b)
    split at hd
    · rename_i T' e
      obtain ⟨x, rfl, hx⟩ := hv.ifc_inv
      split at hd
      · rename_i hT
        subst hT
        simp only [Option.some.injEq] at hd
        subst hd
        cases ok with
        | true => exact ⟨.tuple #[x, .bool true], by cases td <;> simp [Instr.typeAssert, run_underlying hu] <;> exact absurd rfl (hne _), pair hx⟩
        | false => exact ⟨x, by cases td <;> simp [Instr.typeAssert, run_underlying hu] <;> exact absurd rfl (hne _), hx⟩
      · rename_i hT
        split at hd
        · rename_i hok
          subst hok
          obtain ⟨z, hz, rfl⟩ := Option.map_eq_some_iff.1 hd
          obtain ⟨zv, z1, z2, _⟩ := ofZero_ok hz ok' w
          exact ⟨.tuple #[zv, .bool false], by cases td <;> simp [Instr.typeAssert, run_underlying hu, hT, z1] <;> exact absurd rfl (hne _), pair (.pure z2)⟩
        · cases hd
    · obtain rfl := hv.nili_inv
      split at hd
      · rename_i hok
        subst hok
        obtain ⟨z, hz, rfl⟩ := Option.map_eq_some_iff.1 hd
        obtain ⟨zv, z1, z2, _⟩ := ofZero_ok hz ok' w
        exact ⟨.tuple #[zv, .bool false], by cases td <;> simp [Instr.typeAssert, run_underlying hu, z1] <;> exact absurd rfl (hne _), pair (.pure z2)⟩
      · cases hd
    · cases hd
  · cases hd

/-- copy, into a variable's own cells -/
def aCopy (P : Program) (h : HL) (T : TypeId) (d e : D) : Option (D × HL) :=
  match P.underlying T, d with
  | some (.slice E), .vref b o m => (match sizeT P E, elems h e, look h b with
    | some 1, some ys, some (.var T' cs) => if o + min ys.length m ≤ cs.length ∧ ys.all D.pure0 = true then some (.int .i64 (min ys.length m : Nat), [(b, .var T' (splice cs o (ys.take m)))]) else none
    | _, _, _ => none)
  | _, _ => none

theorem Sim.copy (s : Sim P w0 S A N ρ t h a w) {T T' ty : TypeId} {d e r : D} {u : HL} {v ve : Value} (hd : aCopy P h T d e = some (r, u)) (hv : C ρ (Live h) (okOf A ρ h w) w d v) (hve : C ρ (Live h) (okOf A ρ h w) w e ve) :
    ∃ v' w', (Builtin.copy_ #[T, T'] ty #[v, ve]).run P w = .ok v' w' ∧ Sim P w0 S A N ρ t (puts u h) a w' ∧ C ρ (Live (puts u h)) (okOf A ρ (puts u h) w') w' r v' := by
  unfold aCopy at hd
  split at hd
  · rename_i E b o m hu
    obtain ⟨hl, hmx, rfl⟩ := hv.vref_inv
    split at hd
    · rename_i ys T1 cs hs he hb
      split at hd
      · rename_i hc
        obtain ⟨hle, hp⟩ := hc
        rw [List.all_eq_true] at hp
        simp only [Option.some.injEq, Prod.mk.injEq] at hd
        obtain ⟨rfl, rfl⟩ := hd
        obtain ⟨a', cap, rfl, h1, h2, h3, h4⟩ := s.slice he hve
        obtain ⟨c, g1, g2, g3⟩ := s.blk b _ hb
        have hlen : (ys.take m).length = min ys.length m := by simp [Nat.min_comm]
        obtain ⟨vs, k1, k2, k3⟩ : ∃ vs : List Value, (Builtin.firstCells 1 (min ys.length m) (.slice a' ys.length cap)).run P w = .ok vs.toArray w ∧ vs.length = (ys.take m).length ∧ ∀ j, j < (ys.take m).length → C ρ (Live h) (okOf A ρ h w) w ((ys.take m).getD j .undef) (vs.getD j undef) := by
          by_cases hne : ys = []
          · subst hne
            refine ⟨[], ?_, by simp, fun j hj => by simp at hj⟩
            cases a' with
            | none => exact run_firstCells_none w _ _ _ _
            | some ad => exact run_firstCells_some w 1 _ ad _ _ [] (by simp) (fun j v h => by simp at h)
          · obtain ⟨b', off, f, rfl, p1, p2, p3, p4⟩ := h4 hne
            have hz : szl ys = 1 := by
              cases ys with
              | nil => exact absurd rfl hne
              | cons y ys => simp [szl, cells_pure0 (hp y (List.mem_cons_self ..))]
            rw [hz] at p3 p4
            refine ⟨(List.range (min ys.length m)).map fun i => f i 0, run_firstCells_some w 1 _ _ _ _ _ (by simp) (fun j v hj => ?_), by simp [Nat.min_comm], fun j hj => ?_⟩
            · have hj' : j < min ys.length m := by
                have := (List.getElem?_eq_some_iff.1 hj).1
                simpa using this
              simp [hj'] at hj
              subst hj
              have := p3 j 0 (by omega) (by omega)
              have e2 : (⟨b', off, none⟩ : Addr).add j = ⟨b', off + j, none⟩ := by
                by_cases hj0 : j = 0
                · subst hj0; rfl
                · simp [Addr.add, hj0]
              rw [e2]
              simpa using this
            · rw [hlen] at hj
              have hj2 : j < ys.length := by omega
              have hj3 : j < m := by omega
              have := p4 j 0 hj2 (by omega)
              have e1 : (ys.take m).getD j .undef = ys.getD j .undef := by simp [List.getD_eq_getElem?_getD, List.getElem?_take, hj3]
              have hm : ys.getD j .undef ∈ ys := by rw [List.getD_eq_getElem?_getD, List.getElem?_eq_getElem hj2]; exact List.getElem_mem hj2
              rw [e1]
              rw [cells_pure0 (hp _ hm)] at this
              have hj4 : j < min ys.length m := hj
              have e3 : ((List.range (min ys.length m)).map fun i => f i 0).getD j undef = f j 0 := by
                rw [List.getD_eq_getElem?_getD, List.getElem?_map, List.getElem?_range hj4]
                rfl
              rw [e3]
              exact this
        have hone : ∀ x ∈ vs, x.oneCell' = true := by
          intro x hx
          obtain ⟨j, hj, rfl⟩ := List.getElem_of_mem hx
          have hj' : j < (ys.take m).length := by omega
          have hm : (ys.take m).getD j .undef ∈ ys := by
            rw [List.getD_eq_getElem?_getD, List.getElem?_eq_getElem hj']; exact List.mem_of_mem_take (List.getElem_mem hj')
          have := (k3 j hj').oneCell (pure0_one (hp _ hm))
          simpa [List.getD_eq_getElem?_getD, hj] using this
        have hst := run_storeCells_at P (ρ b).blk o T1 vs 0 c w g1 (by omega) hone
        refine ⟨_, w.setRow (ρ b).blk (c.toList.take o ++ vs ++ c.toList.drop (o + vs.length)).toArray, ?_, s.write (y := .var T1 (splice cs o (ys.take m))) hb rfl _ fun hC hR => ⟨_, setRow_heap w _ c _ T1 _ g1, ?_, fun j hj => ?_⟩, .int _ _⟩
        · have hmin : Nat.min ys.length m = min ys.length m := rfl
          have hst' : (storeCells ⟨(ρ b).blk, o, none⟩ vs).run P w = .ok () (w.setRow (ρ b).blk (c.toList.take o ++ vs ++ c.toList.drop (o + vs.length)).toArray) := by simpa using hst
          simp only [Builtin.copy_, run_underlying hu, Builtin.lenOf, run_size hs, hmin, k1, Sem.run_bind, Sem.run_pure, Result.andThen_ok]
          simp [run_underlying hu, run_size hs, hmin, k1, hst', Builtin.lenOf]
          rfl
        · simp only [List.size_toArray, splice]
          rw [length_splice _ _ _ (by have e := Array.length_toList (xs := c); omega), length_splice _ _ _ (by omega)]
          simpa using g2
        · rw [arr_getD]
          have hj' : j < cs.length := by rw [splice, length_splice _ _ _ (by omega)] at hj; exact hj
          exact splice_ok (Q := fun d v => C _ _ _ _ d v) (by simpa using g2.symm) k2.symm (by omega) (fun j hj => hC _ _ (by rw [← arr_getD']; exact g3 j hj)) (fun j hj => hC _ _ (k3 j hj)) j hj'
      · cases hd
    · cases hd
  · cases hd

/-- .. into a row -/
def aBuiltin (P : Program) (m : Bool) (b : Builtin) (ds : List D) (Ts : List TypeId) (h : HL) (n : Nat) : Option (D × HL) :=
  match b, ds, Ts with
  | .len, [d], [T] => (aLen P h T d).map fun r => (r, [])
  | .append, [d, e], [T, T'] => if T = T' then aAppend P h (n, 0) T d e else none
  | .copy, [d, e], [T, _] => aCopy P h T d e
  | .min, [.int k x, .int k' y], _ => if k = k' then some (.int k (if y < x then y else x), []) else none
  | .max, [.int k x, .int k' y], _ => if k = k' then some (.int k (if x < y then y else x), []) else none
  | _, _, _ => none
def evalF (t : List (Nat × D)) (h : HL) (x : Operand) : Option D := (evalD t x).map (fwd h)
def evalFs (t : List (Nat × D)) (h : HL) (xs : List Operand) : Option (List D) := xs.mapM (evalF t h)
def evalFPs (t : List (Nat × D)) (h : HL) (xs : List (Nat × Operand)) : Option (List (Nat × D)) := xs.mapM fun x => (evalF t h x.2).map fun d => (x.1, d)

/-- an operation, but for calls of functions; m: what it hands on is no more written; a row stays the call's own -/
def aop (P : Program) (m : Bool) (op : Op) (t : List (Nat × D)) (h : HL) (n : Nat) : Option (D × HL) :=
  match op with
  | .move x => (evalD t x).map fun d => (d, [])
  | .assign x => (evalD t x).map fun d => (d, [])
  | .pick c x y => (match evalD t c with
    | some (.bool true) => (evalD t x).map fun d => (d, [])
    | some (.bool false) => (evalD t y).map fun d => (d, [])
    | _ => none)
  | .alloc T => (ofZero P T).map fun z => (.ptr (n, 0) 0, [((n, 0), .var T z.cells)])
  | .box T x => (evalD t x).bind fun d => if d.whole = true then some (.ptr (n, 0) 0, [((n, 0), .var T d.cells)]) else none
  | .build T ps => (evalPs t ps.toList).bind fun ds => (aBuild P T ds).map fun d => (d, [])
  | .buildSlice T len ps => (evalFPs t h ps.toList).bind fun ds => aBuildSlice P (n, 0) T len (ds.map fun x => (x.1, nzE x.2))
  | .load T x => (evalF t h x).bind fun d => (aLoad P h T d).map fun d => (d, [])
  | .store T x y => (evalF t h x).bind fun d => (evalF t h y).bind fun e => (aStore P h T d (nzM (!m) e)).map fun u => (.undef, u)
  | .nilCheck x => (evalD t x).bind fun d => if isPtr d then some (d, []) else none
  | .binOp op T x y _ => (evalF t h x).bind fun d => (evalF t h y).bind fun e => (match aBin op d e with
    | some r => some (r, [])
    | none => (match aBinP P op T d e with
      | some r => some (r, [])
      | none => (aBoolEq op T P d e).map fun r => (r, [])))
  | .unOp op _ x => (evalD t x).bind fun d => (aUn op d).map fun d => (d, [])
  | .convert src dst x => (evalF t h x).bind fun d => (aConv P h src dst d).map fun d => (d, [])
  | .makeInterface T x => (evalD t x).bind fun d => if aIfc P T = true then some (.ifc T d, []) else none
  | .makeFunc (.func f) first captured => if first.size = 0 then (evalDs t captured.toList).map fun ds => (.clo f ds, []) else none
  | .typeAssert x _ T ok => (evalD t x).bind fun d => (aAssert P T ok d).map fun d => (d, [])
  | .makeSlice T l c => (evalD t l).bind fun d => (evalD t c).bind fun e => aMake P m (n, 0) T d e
  | .slice T x lo hi none => (evalF t h x).bind fun d => (evalO t lo).bind fun l => (evalO t hi).bind fun r => aSlice P h m (n, 0) T d l r
  | .fieldAddr T x f => (evalD t x).bind fun d => (aField P T f d).map fun d => (d, [])
  | .field T x f => (evalD t x).bind fun d => (aPart P T f d).map fun d => (d, [])
  | .indexAddr T x i => (evalF t h x).bind fun d => (evalD t i).bind fun e => (aIndexAddr P h T d e).map fun d => (d, [])
  | .index T x i => (evalD t x).bind fun d => (evalD t i).bind fun e => (aIndex P T d e).map fun d => (d, [])
  | .extract x i => (evalD t x).bind fun d => (aExtract i d).map fun d => (d, [])
  | .call ⟨.builtin b, args, argTypes⟩ => (evalFs t h args.toList).bind fun ds => aBuiltin P m b ds argTypes.toList h n
  | _ => none

theorem C.nz0 {L : Id → Prop} {ok : Nat → Prop} {d : D} {v : Value} (h : C ρ L ok w d v) : C ρ L ok w (Am.nz0 d) v := by
  by_cases hd : d = .nils
  · subst hd
    obtain rfl := h.nils_inv
    exact .pure (Rep.nz0 .nils)
  · have : Am.nz0 d = d := by cases d <;> first | rfl | exact absurd rfl hd
    rw [this]; exact h
theorem C.nzE {L : Id → Prop} {ok : Nat → Prop} {d : D} {v : Value} (h : C ρ L ok w d v) : C ρ L ok w (Am.nzE d) v := by
  by_cases hd : ∃ cs, d = .agg cs
  · obtain ⟨cs, rfl⟩ := hd
    obtain ⟨vs, rfl, hl, hc⟩ := h.agg_inv
    refine .agg _ _ (by simpa using hl) fun i hi => ?_
    have hi' : i < cs.length := by simpa using hi
    have := (hc i hi').nz0
    simpa [List.getD_eq_getElem?_getD, hi'] using this
  · have : Am.nzE d = Am.nz0 d := by cases d <;> first | rfl | exact absurd ⟨_, rfl⟩ hd
    rw [this]; exact h.nz0
theorem C.nzM {L : Id → Prop} {ok : Nat → Prop} {d : D} {v : Value} (h : C ρ L ok w d v) (q : Bool) : C ρ L ok w (Am.nzM q d) v := by
  unfold Am.nzM; split
  · exact h
  · exact h.nzE
theorem wp_value {o : Oper} {v : Value} {w' : World} {K : Act → World → Prop} {Q : Exit → Act → World → Prop} (hr : (execOp a.eval o).run P w = .ok (.value v) w') (hk : K (a.put o.dst v) w') : o.wp P a w K Q := by
  unfold Oper.wp; rw [hr]; exact hk
theorem wp_skip' {o : Oper} {w' : World} {K : Act → World → Prop} {Q : Exit → Act → World → Prop} (hr : (execOp a.eval o).run P w = .ok .skip w') (hk : K (a.put o.dst undef) w') : o.wp P a w K Q := by
  unfold Oper.wp; rw [hr]; exact hk

/-- the state behind an operation -/
def Done (P : Program) (w0 : World) (S A : Nat → Prop) (N : Nat) (ρ : Id → Pl) (t : List (Nat × D)) (h h' : HL) (a : Act) (dst : Option Tmp) (d : D) (a' : Act) (w' : World) : Prop :=
  ∃ v ρ', a' = a.put dst v ∧ Ext h ρ ρ' ∧ Sim P w0 S A N ρ' t h' a w' ∧ C ρ' (Live h') (okOf A ρ' h' w') w' d v

theorem Sim.evalDs (s : Sim P w0 S A N ρ t h a w) {xs : List Operand} {ds : List D} (hd : Am.evalDs t xs = some ds) : ds.length = (xs.map a.eval).length ∧ ∀ i, i < ds.length → C ρ (Live h) (okOf A ρ h w) w (ds.getD i .undef) ((xs.map a.eval).getD i undef) := by
  obtain ⟨e, q⟩ := mapM_len hd
  refine ⟨by simp [e], fun i hi => ?_⟩
  have hi' : i < xs.length := by omega
  obtain ⟨y, hy1, hy2⟩ := q i hi' _ (List.getElem?_eq_getElem hi')
  have := s.eval hy1
  simpa [List.getD_eq_getElem?_getD, hy2, hi'] using this
theorem Sim.evalPs (s : Sim P w0 S A N ρ t h a w) {xs : List (Nat × Operand)} {ds : List (Nat × D)} (hd : Am.evalPs t xs = some ds) : ds.length = (xs.map fun x => (x.1, a.eval x.2)).length ∧
    ∀ i, i < ds.length → (ds.getD i (0, .undef)).1 = ((xs.map fun x => (x.1, a.eval x.2)).getD i (0, undef)).1 ∧ C ρ (Live h) (okOf A ρ h w) w (ds.getD i (0, .undef)).2 ((xs.map fun x => (x.1, a.eval x.2)).getD i (0, undef)).2 := by
  obtain ⟨e, q⟩ := mapM_len hd
  refine ⟨by simp [e], fun i hi => ?_⟩
  have hi' : i < xs.length := by omega
  obtain ⟨y, hy1, hy2⟩ := q i hi' _ (List.getElem?_eq_getElem hi')
  obtain ⟨d, hd1, rfl⟩ := Option.map_eq_some_iff.1 hy1
  have := s.eval hd1
  simp only [List.getD_eq_getElem?_getD, hy2, List.getElem?_map, List.getElem?_eq_getElem hi', Option.map_some, Option.getD_some]
  exact ⟨trivial, this⟩

theorem C.isPtr_inv {L : Id → Prop} {ok : Nat → Prop} {d : D} {v : Value} (hp : isPtr d = true) (hc : C ρ L ok w d v) : ∃ ad, v = .pointer (some ad) := by
  cases d <;> simp [isPtr] at hp
  · cases hc.box_inv with | box _ b off f hok hpos hc hr => exact ⟨_, rfl⟩
  · obtain ⟨_, rfl⟩ := hc.ptr_inv; exact ⟨_, rfl⟩
  · obtain ⟨_, rfl⟩ := hc.eptr_inv; exact ⟨_, rfl⟩
  · obtain ⟨b, off, f, rfl, _⟩ := hc.iptr_inv; exact ⟨_, rfl⟩

theorem aBinP_ok {op : BinOp} {T : TypeId} {x y : Operand} {d1 d2 d : D} {v1 v2 : Value} {L : Id → Prop} {ok : Nat → Prop} (hd : aBinP P op T d1 d2 = some d) (h1 : C ρ L ok w d1 v1) (h2 : C ρ L ok w d2 v2) :
    ∃ v, (do eqGuard op T x y v1 v2; binOp op T v1 v2 : Sem Value).run P w = .ok v w ∧ Rep ok w d v := by
  unfold aBinP at hd
  split at hd
  · rename_i e hu
    have hg : ∀ (p q : Option Addr), eqGuard op T x y (.pointer p) (.pointer q) = pure () := by intro p q; unfold eqGuard; split <;> rfl
    have r1 : ∀ (q : Option Addr), (Op.equal T (.pointer none) (.pointer q)).run P w = .ok q.isNone w := by
      intro q
      have := fun (k : Nat) => (show (Op.equalIn (k + 1) T (.pointer none) (.pointer q)).run P w = .ok q.isNone w by simp [Op.equalIn, run_underlying hu])
      exact this 9999
    have r2 : ∀ (ad : Addr), (Op.equal T (.pointer (some ad)) (.pointer none)).run P w = .ok false w := by
      intro ad
      have := fun (k : Nat) => (show (Op.equalIn (k + 1) T (.pointer (some ad)) (.pointer none)).run P w = .ok false w by simp [Op.equalIn, run_underlying hu])
      exact this 9999
    split at hd
    · obtain rfl := h1.nilp_inv; obtain rfl := h2.nilp_inv
      simp only [Option.some.injEq] at hd; subst hd
      exact ⟨_, by rw [hg]; simp [binOp, r1], .bool _⟩
    · obtain rfl := h1.nilp_inv; obtain rfl := h2.nilp_inv
      simp only [Option.some.injEq] at hd; subst hd
      exact ⟨_, by rw [hg]; simp [binOp, r1], .bool _⟩
    · split at hd
      · rename_i hp
        obtain rfl := h1.nilp_inv; obtain ⟨ad, rfl⟩ := h2.isPtr_inv hp
        simp only [Option.some.injEq] at hd; subst hd
        exact ⟨_, by rw [hg]; simp [binOp, r1], .bool _⟩
      · cases hd
    · split at hd
      · rename_i hp
        obtain rfl := h1.nilp_inv; obtain ⟨ad, rfl⟩ := h2.isPtr_inv hp
        simp only [Option.some.injEq] at hd; subst hd
        exact ⟨_, by rw [hg]; simp [binOp, r1], .bool _⟩
      · cases hd
    · split at hd
      · rename_i hp
        obtain rfl := h2.nilp_inv; obtain ⟨ad, rfl⟩ := h1.isPtr_inv hp
        simp only [Option.some.injEq] at hd; subst hd
        exact ⟨_, by rw [hg]; simp [binOp, r2], .bool _⟩
      · cases hd
    · split at hd
      · rename_i hp
        obtain rfl := h2.nilp_inv; obtain ⟨ad, rfl⟩ := h1.isPtr_inv hp
        simp only [Option.some.injEq] at hd; subst hd
        exact ⟨_, by rw [hg]; simp [binOp, r2], .bool _⟩
      · cases hd
    · cases hd
  · cases hd

theorem aBoolEq_ok {op : BinOp} {T : TypeId} {x y : Operand} {d1 d2 d : D} {v1 v2 : Value} {L : Id → Prop} {ok : Nat → Prop} (hd : aBoolEq op T P d1 d2 = some d) (h1 : C ρ L ok w d1 v1) (h2 : C ρ L ok w d2 v2) :
    ∃ v, (do eqGuard op T x y v1 v2; binOp op T v1 v2 : Sem Value).run P w = .ok v w ∧ Rep ok w d v := by
  unfold aBoolEq at hd
  split at hd
  · rename_i hu
    have hg : ∀ p q, eqGuard op T x y (.bool p) (.bool q) = pure () := by intro p q; unfold eqGuard; split <;> rfl
    have r1 : ∀ p q, (Op.equal T (.bool p) (.bool q)).run P w = .ok (p == q) w := by
      intro p q
      have := fun (k : Nat) => (show (Op.equalIn (k + 1) T (.bool p) (.bool q)).run P w = .ok (p == q) w by simp [Op.equalIn, run_underlying hu])
      exact this 9999
    split at hd
    · obtain rfl := h1.bool_inv; obtain rfl := h2.bool_inv
      simp only [Option.some.injEq] at hd; subst hd
      exact ⟨_, by rw [hg]; simp [binOp, r1], .bool _⟩
    · obtain rfl := h1.bool_inv; obtain rfl := h2.bool_inv
      simp only [Option.some.injEq] at hd; subst hd
      exact ⟨_, by rw [hg]; simp [binOp, r1], .bool _⟩
    · cases hd
  · cases hd

theorem evalDs_one {xs : List Operand} {d : D} (hd : Am.evalDs t xs = some [d]) : ∃ x, xs = [x] ∧ evalD t x = some d := by
  obtain ⟨e, q⟩ := mapM_len hd
  match xs, e with
  | [x], _ =>
    obtain ⟨y, h1, h2⟩ := q 0 (by simp) x rfl
    simp at h2
    exact ⟨x, rfl, by rw [h1, h2]⟩
theorem evalDs_two {xs : List Operand} {d e : D} (hd : Am.evalDs t xs = some [d, e]) : ∃ x y, xs = [x, y] ∧ evalD t x = some d ∧ evalD t y = some e := by
  obtain ⟨el, q⟩ := mapM_len hd
  match xs, el with
  | [x, y], _ =>
    obtain ⟨z1, h1, h2⟩ := q 0 (by simp) x rfl
    obtain ⟨z2, h3, h4⟩ := q 1 (by simp) y rfl
    simp at h2 h4
    exact ⟨x, y, rfl, by rw [h1, h2], by rw [h3, h4]⟩

theorem Sim.evalF (s : Sim P w0 S A N ρ t h a w) {x : Operand} {d : D} (hd : Am.evalF t h x = some d) : C ρ (Live h) (okOf A ρ h w) w d (a.eval x) := by
  obtain ⟨d0, h1, rfl⟩ := Option.map_eq_some_iff.1 hd
  exact s.fwd (s.eval h1)
theorem Sim.evalFs (s : Sim P w0 S A N ρ t h a w) {xs : List Operand} {ds : List D} (hd : Am.evalFs t h xs = some ds) : ds.length = (xs.map a.eval).length ∧ ∀ i, i < ds.length → C ρ (Live h) (okOf A ρ h w) w (ds.getD i .undef) ((xs.map a.eval).getD i undef) := by
  obtain ⟨e, q⟩ := mapM_len hd
  refine ⟨by simp [e], fun i hi => ?_⟩
  have hi' : i < xs.length := by omega
  obtain ⟨y, hy1, hy2⟩ := q i hi' _ (List.getElem?_eq_getElem hi')
  have := s.evalF hy1
  simpa [List.getD_eq_getElem?_getD, hy2, hi'] using this
theorem Sim.evalFPs (s : Sim P w0 S A N ρ t h a w) {xs : List (Nat × Operand)} {ds : List (Nat × D)} (hd : Am.evalFPs t h xs = some ds) : ds.length = (xs.map fun x => (x.1, a.eval x.2)).length ∧
    ∀ i, i < ds.length → (ds.getD i (0, .undef)).1 = ((xs.map fun x => (x.1, a.eval x.2)).getD i (0, undef)).1 ∧ C ρ (Live h) (okOf A ρ h w) w (ds.getD i (0, .undef)).2 ((xs.map fun x => (x.1, a.eval x.2)).getD i (0, undef)).2 := by
  obtain ⟨e, q⟩ := mapM_len hd
  refine ⟨by simp [e], fun i hi => ?_⟩
  have hi' : i < xs.length := by omega
  obtain ⟨y, hy1, hy2⟩ := q i hi' _ (List.getElem?_eq_getElem hi')
  obtain ⟨d, hd1, rfl⟩ := Option.map_eq_some_iff.1 hy1
  have := s.evalF hd1
  simp only [List.getD_eq_getElem?_getD, hy2, List.getElem?_map, List.getElem?_eq_getElem hi', Option.map_some, Option.getD_some]
  exact ⟨trivial, this⟩
theorem evalFs_one {xs : List Operand} {d : D} (hd : Am.evalFs t h xs = some [d]) : ∃ x, xs = [x] ∧ Am.evalF t h x = some d := by
  obtain ⟨e, q⟩ := mapM_len hd
  match xs, e with
  | [x], _ =>
    obtain ⟨y, h1, h2⟩ := q 0 (by simp) x rfl
    simp at h2
    exact ⟨x, rfl, by rw [h1, h2]⟩
theorem evalFs_two {xs : List Operand} {d e : D} (hd : Am.evalFs t h xs = some [d, e]) : ∃ x y, xs = [x, y] ∧ Am.evalF t h x = some d ∧ Am.evalF t h y = some e := by
  obtain ⟨el, q⟩ := mapM_len hd
  match xs, el with
  | [x, y], _ =>
    obtain ⟨z1, h1, h2⟩ := q 0 (by simp) x rfl
    obtain ⟨z2, h3, h4⟩ := q 1 (by simp) y rfl
    simp at h2 h4
    exact ⟨x, y, rfl, by rw [h1, h2], by rw [h3, h4]⟩
theorem Sim.freezeAll (s : Sim P w0 S A N ρ t h a w) (bs : List Id) : Sim P w0 S A N ρ t (puts (frz h bs) h) a w := (s.frz_ok bs).1
/-- what reads as d' once the blocks bs are no more written -/
theorem Sim.pur1' (s : Sim P w0 S A N ρ t h a w) {d d' : D} {v : Value} {bs : List Id} (hd : Am.pur h 1 d = some d') (hf : frzOK h bs = true) (hb : ∀ b ∈ ids1 d, b ∈ bs) (hv : C ρ (Live h) (okOf A ρ h w) w d v) : Rep (okOf A ρ (puts (frz h bs) h) w) w d' v := by
  obtain ⟨q1, q2, q3⟩ := s.frz_ok bs
  have hok : ∀ k, okOf A ρ h w k → okOf A ρ (puts (frz h bs) h) w k := fun k hk => ⟨hk.1, fun b y hy hmu => by
    rcases q2 b with q | ⟨y', z1, z2⟩
    · rw [q] at hy; exact hk.2 b y hy hmu
    · rw [z2] at hy
      obtain rfl := Option.some.inj hy
      rw [(frzB_old z1).2.1] at hmu; cases hmu⟩
  refine s.pur hok hd (fun b hb1 x hx hmu => ?_) hv
  rw [ids1_ok] at hb1
  obtain ⟨y, hy⟩ := Option.isSome_iff_exists.1 (frzOK_at hf b (hb b hb1) x hx hmu)
  have hfr := q3 b (hb b hb1) y hy
  have hyo := frzB_old hy
  refine ⟨⟨(q1.own b _ hfr hyo.2.2).1, (q1.own b _ hfr hyo.2.2).2.elim (q1.inS _) (q1.base _)⟩, fun b' z hz hmz he => ?_⟩
  have := q1.inj b' b z _ hz hfr (mutable_live hmz) hyo.2.2 he
  rw [this, hfr] at hz
  obtain rfl := Option.some.inj hz
  rw [hyo.2.1] at hmz; cases hmz
theorem live_frz {bs : List Id} {b : Id} (hb : Live h b) : Live (puts (frz h bs) h) b := by
  unfold Live at *
  rw [look_puts_frz]
  split
  · rfl
  · exact hb
theorem look_frz_none {bs : List Id} {b : Id} (hb : look h b = none) : look (puts (frz h bs) h) b = none := by
  rw [look_puts_frz]
  have : frzB h b = none := by unfold frzB; rw [hb]
  rw [this]
  simpa using hb

set_option maxHeartbeats 1000000 in
theorem Sim.op (s : Sim P w0 S A N ρ t h a w) {m : Bool} {o : Oper} {n : Nat} {d : D} {u : HL} (hd : aop P m o.op t h n = some (d, u)) (hn : look h (n, 0) = none) :
    o.wp P a w (Done P w0 S A N ρ t h (puts u h) a o.dst d) (fun _ _ _ => False) := by
  obtain ⟨dst, op, ty, pos, after, guard⟩ := o
  simp only at hd ⊢
  have quiet : ∀ {v : Value} {d' : D}, (execOp a.eval ⟨dst, op, ty, pos, after, guard⟩).run P w = .ok (.value v) w → C ρ (Live h) (okOf A ρ h w) w d' v → d' = d → u = [] → Oper.wp P ⟨dst, op, ty, pos, after, guard⟩ a w (Done P w0 S A N ρ t h (puts u h) a dst d) (fun _ _ _ => False) := by
    rintro v d' hr hc rfl rfl
    exact wp_value hr ⟨v, ρ, rfl, Ext.refl _ _, s, hc⟩
  cases op <;> simp only [aop] at hd
  case move x =>
    obtain ⟨d', h1, h2⟩ := Option.map_eq_some_iff.1 hd
    simp only [Prod.mk.injEq] at h2
    exact quiet (by simp [execOp]) (s.eval h1) h2.1 h2.2.symm
  case assign x =>
    obtain ⟨d', h1, h2⟩ := Option.map_eq_some_iff.1 hd
    simp only [Prod.mk.injEq] at h2
    exact quiet (by simp [execOp]) (s.eval h1) h2.1 h2.2.symm
  case pick c x y =>
    split at hd
    · rename_i hc
      obtain ⟨d', h1, h2⟩ := Option.map_eq_some_iff.1 hd
      simp only [Prod.mk.injEq] at h2
      exact quiet (by simp [execOp, (s.eval hc).bool_inv, asBool]) (s.eval h1) h2.1 h2.2.symm
    · rename_i hc
      obtain ⟨d', h1, h2⟩ := Option.map_eq_some_iff.1 hd
      simp only [Prod.mk.injEq] at h2
      exact quiet (by simp [execOp, (s.eval hc).bool_inv, asBool]) (s.eval h1) h2.1 h2.2.symm
    · cases hd
  case alloc T =>
    obtain ⟨z, h1, h2⟩ := Option.map_eq_some_iff.1 hd
    simp only [Prod.mk.injEq] at h2
    obtain ⟨rfl, rfl⟩ := h2
    obtain ⟨v, r1, r2, r3, _⟩ := ofZero_ok h1 (okOf A ρ h w) w
    obtain ⟨ρ', e0, e1, e2⟩ := s.newVar hn (T := T) r3 (.pure r2)
    refine wp_value (v := .pointer (some ⟨(ρ' (n, 0)).blk, 0, none⟩)) (w' := w.alloc (.cells v.cells T (0, 0))) ?_ ⟨_, ρ', rfl, e0, e2, .ptr (n, 0) 0 ?_⟩
    · simp [execOp, Instr.alloc, r1, e1]
    · show Live (put (n, 0) _ h) (n, 0)
      unfold Live; rw [look_put]; simp
  case box T x =>
    obtain ⟨z, h1, h2⟩ := Option.bind_eq_some_iff.1 hd
    split at h2
    · rename_i hw
      simp only [Option.some.injEq, Prod.mk.injEq] at h2
      obtain ⟨rfl, rfl⟩ := h2
      obtain ⟨ρ', e0, e1, e2⟩ := s.newVar hn (T := T) hw (s.eval h1)
      refine wp_value (v := .pointer (some ⟨(ρ' (n, 0)).blk, 0, none⟩)) (w' := w.alloc (.cells (a.eval x).cells T (0, 0))) ?_ ⟨_, ρ', rfl, e0, e2, .ptr (n, 0) 0 ?_⟩
      · simp [execOp, Instr.box, e1]
      · show Live (put (n, 0) _ h) (n, 0)
        unfold Live; rw [look_put]; simp
    · cases h2
  case build T ps =>
    obtain ⟨ds, h1, h2⟩ := Option.bind_eq_some_iff.1 hd
    obtain ⟨d', h3, h4⟩ := Option.map_eq_some_iff.1 h2
    simp only [Prod.mk.injEq] at h4
    obtain ⟨e, q⟩ := s.evalPs h1
    obtain ⟨v, r1, r2⟩ := aBuild_ok (P := P) (vs := ps.map fun x => (x.1, a.eval x.2)) h3 (by simpa using e) (by simpa using q)
    exact quiet (by simp [execOp, r1]) r2 h4.1 h4.2.symm
  case buildSlice T len ps =>
    obtain ⟨ds, h1, h2⟩ := Option.bind_eq_some_iff.1 hd
    obtain ⟨e, q⟩ := s.evalFPs h1
    obtain ⟨v, w', ρ', r0, r1, r2, r3⟩ := s.buildSlice hn (vs := ps.map fun x => (x.1, a.eval x.2)) h2 (by simpa using e) (fun i hi => by
      have hi' : i < ds.length := by simpa using hi
      have := q i hi'
      have e1 : (ds.map fun x => (x.1, nzE x.2)).getD i (0, .undef) = ((ds.getD i (0, .undef)).1, nzE (ds.getD i (0, .undef)).2) := by simp [List.getD_eq_getElem?_getD, hi']
      rw [e1]
      exact ⟨by simpa using this.1, by simpa using this.2.nzE⟩)
    exact wp_value (v := v) (w' := w') (by simp [execOp, r1]) ⟨_, ρ', rfl, r0, r2, r3⟩
  case load T x =>
    obtain ⟨z, h1, h2⟩ := Option.bind_eq_some_iff.1 hd
    obtain ⟨d', h3, h4⟩ := Option.map_eq_some_iff.1 h2
    simp only [Prod.mk.injEq] at h4
    obtain ⟨v, r1, r2⟩ := s.load h3 (s.evalF h1)
    exact quiet (by simp [execOp, r1]) r2 h4.1 h4.2.symm
  case store T x y =>
    obtain ⟨z1, h1, h2⟩ := Option.bind_eq_some_iff.1 hd
    obtain ⟨z2, h3, h4⟩ := Option.bind_eq_some_iff.1 h2
    obtain ⟨u', h7, h8⟩ := Option.map_eq_some_iff.1 h4
    simp only [Prod.mk.injEq] at h8
    obtain ⟨rfl, rfl⟩ := h8
    obtain ⟨w', r1, r2⟩ := s.store h7 (s.evalF h1) ((s.evalF h3).nzM _)
    exact wp_skip' (by simp [execOp, r1]) ⟨_, ρ, rfl, Ext.refl _ _, r2, .any _⟩
  case nilCheck x =>
    obtain ⟨z, h1, h2⟩ := Option.bind_eq_some_iff.1 hd
    split at h2
    · rename_i hp
      simp only [Option.some.injEq, Prod.mk.injEq] at h2
      have hc := s.eval h1
      obtain ⟨ad, e⟩ := hc.isPtr_inv hp
      exact quiet (v := a.eval x) (by simp [execOp, e]) hc h2.1 h2.2.symm
    · cases h2
  case binOp op T x y yT =>
    obtain ⟨z1, h1, h2⟩ := Option.bind_eq_some_iff.1 hd
    obtain ⟨z2, h3, h4⟩ := Option.bind_eq_some_iff.1 h2
    have fin : ∀ {r : D} {v : Value}, (do eqGuard op T x y (a.eval x) (a.eval y); binOp op T (a.eval x) (a.eval y) : Sem Value).run P w = .ok v w → Rep (okOf A ρ h w) w r v → r = d → u = [] → _ := fun hr hv e1 e2 =>
      quiet (by simp only [execOp]; rw [Sem.run_bind, hr]; simp) (.pure hv) e1 e2
    split at h4
    · rename_i r hr
      simp only [Option.some.injEq, Prod.mk.injEq] at h4
      obtain ⟨v, r1, r2⟩ := aBin_ok (P := P) (T := T) (x := x) (y := y) hr (s.evalF h1) (s.evalF h3)
      exact fin r1 r2 h4.1 h4.2.symm
    · split at h4
      · rename_i r hr
        simp only [Option.some.injEq, Prod.mk.injEq] at h4
        obtain ⟨v, r1, r2⟩ := aBinP_ok (P := P) (T := T) (x := x) (y := y) hr (s.evalF h1) (s.evalF h3)
        exact fin r1 r2 h4.1 h4.2.symm
      · obtain ⟨r, hr, h5⟩ := Option.map_eq_some_iff.1 h4
        simp only [Prod.mk.injEq] at h5
        obtain ⟨v, r1, r2⟩ := aBoolEq_ok (P := P) (T := T) (x := x) (y := y) hr (s.evalF h1) (s.evalF h3)
        exact fin r1 r2 h5.1 h5.2.symm
  case unOp op T x =>
    obtain ⟨z, h1, h2⟩ := Option.bind_eq_some_iff.1 hd
    obtain ⟨d', h3, h4⟩ := Option.map_eq_some_iff.1 h2
    simp only [Prod.mk.injEq] at h4
    obtain ⟨v, r1, r2⟩ := aUn_ok (P := P) h3 (s.eval h1)
    exact quiet (by simp [execOp, r1]) (.pure r2) h4.1 h4.2.symm
  case convert src dst' x =>
    obtain ⟨z, h1, h2⟩ := Option.bind_eq_some_iff.1 hd
    obtain ⟨d', h3, h4⟩ := Option.map_eq_some_iff.1 h2
    simp only [Prod.mk.injEq] at h4
    obtain ⟨v, r1, r2⟩ := s.conv h3 (s.evalF h1)
    exact quiet (by simp [execOp, r1]) r2 h4.1 h4.2.symm
  case makeInterface T x =>
    obtain ⟨z, h1, h2⟩ := Option.bind_eq_some_iff.1 hd
    split at h2
    · rename_i hi
      simp only [Option.some.injEq, Prod.mk.injEq] at h2
      obtain ⟨td, hu, hne⟩ := aIfc_ok hi
      exact quiet (v := .iface T (a.eval x)) (by cases td <;> simp [execOp, Instr.makeInterface, run_underlying hu] <;> exact absurd rfl (hne _)) (.ifc _ _ _ (s.eval h1)) h2.1 h2.2.symm
    · cases h2
  case makeFunc fn first captured =>
    cases fn <;> simp only [reduceCtorEq] at hd
    rename_i f
    split at hd
    · rename_i hz
      obtain ⟨ds, h1, h2⟩ := Option.map_eq_some_iff.1 hd
      simp only [Prod.mk.injEq] at h2
      obtain ⟨e, q⟩ := s.evalDs h1
      have hfe : first = #[] := Array.eq_empty_of_size_eq_zero hz
      subst hfe
      refine quiet (v := .func (.func f) #[] (captured.map a.eval)) (by simp [execOp, Instr.makeFunc]) (.clo f ds _ (by simpa using e) fun i hi => ?_) h2.1 h2.2.symm
      have := q i hi
      rw [arr_getD']
      simpa using this
    · cases hd
  case typeAssert x xT T ok =>
    obtain ⟨z, h1, h2⟩ := Option.bind_eq_some_iff.1 hd
    obtain ⟨d', h3, h4⟩ := Option.map_eq_some_iff.1 h2
    simp only [Prod.mk.injEq] at h4
    obtain ⟨v, r1, r2⟩ := aAssert_ok (P := P) (xT := xT) h3 (s.eval h1)
    exact quiet (by simp [execOp, r1]) r2 h4.1 h4.2.symm
  case makeSlice T l c =>
    obtain ⟨z1, h1, h2⟩ := Option.bind_eq_some_iff.1 hd
    obtain ⟨z2, h3, h4⟩ := Option.bind_eq_some_iff.1 h2
    obtain ⟨v, w', ρ', r0, r1, r2, r3⟩ := s.make hn h4 (s.eval h1) (s.eval h3)
    exact wp_value (v := v) (w' := w') (by simp [execOp, r1]) ⟨_, ρ', rfl, r0, r2, r3⟩
  case slice T x lo hi mx =>
    cases mx with
    | some m => cases hd
    | none =>
      obtain ⟨z, h1, h2⟩ := Option.bind_eq_some_iff.1 hd
      obtain ⟨l, h3, h4⟩ := Option.bind_eq_some_iff.1 h2
      obtain ⟨r, h5, h6⟩ := Option.bind_eq_some_iff.1 h4
      have bo : ∀ {m : Option Operand} {r : Option D}, evalO t m = some r → (r = none ∧ m.map a.eval = none) ∨ ∃ d' v', r = some d' ∧ m.map a.eval = some v' ∧ C ρ (Live h) (okOf A ρ h w) w d' v' := by
        intro m r hm
        cases m with
        | none => simp only [evalO, Option.some.injEq] at hm; exact .inl ⟨hm.symm, rfl⟩
        | some x =>
          obtain ⟨d', q1, q2⟩ := Option.map_eq_some_iff.1 hm
          exact .inr ⟨d', _, q2.symm, rfl, s.eval q1⟩
      obtain ⟨v, ρ', r0, r1, r2, r3⟩ := s.cut h6 (fun _ => hn) (s.evalF h1) (bo h3) (bo h5)
      exact wp_value (v := v) (w' := w) (by simp [execOp, r1]) ⟨_, ρ', rfl, r0, r2, r3⟩
  case fieldAddr T x f =>
    obtain ⟨z, h1, h2⟩ := Option.bind_eq_some_iff.1 hd
    obtain ⟨d', h3, h4⟩ := Option.map_eq_some_iff.1 h2
    simp only [Prod.mk.injEq] at h4
    obtain ⟨v, r1, r2⟩ := aField_ok (P := P) h3 (s.eval h1)
    exact quiet (by simp [execOp, r1]) r2 h4.1 h4.2.symm
  case field T x f =>
    obtain ⟨z, h1, h2⟩ := Option.bind_eq_some_iff.1 hd
    obtain ⟨d', h3, h4⟩ := Option.map_eq_some_iff.1 h2
    simp only [Prod.mk.injEq] at h4
    obtain ⟨v, r1, r2⟩ := aPart_ok (P := P) h3 (s.eval h1)
    exact quiet (by simp [execOp, r1]) r2 h4.1 h4.2.symm
  case indexAddr T x i =>
    obtain ⟨z1, h1, h2⟩ := Option.bind_eq_some_iff.1 hd
    obtain ⟨z2, h3, h4⟩ := Option.bind_eq_some_iff.1 h2
    obtain ⟨d', h5, h6⟩ := Option.map_eq_some_iff.1 h4
    simp only [Prod.mk.injEq] at h6
    obtain ⟨v, r1, r2⟩ := s.indexAddr h5 (s.evalF h1) (s.eval h3)
    exact quiet (by simp [execOp, r1]) r2 h6.1 h6.2.symm
  case index T x i =>
    obtain ⟨z1, h1, h2⟩ := Option.bind_eq_some_iff.1 hd
    obtain ⟨z2, h3, h4⟩ := Option.bind_eq_some_iff.1 h2
    obtain ⟨d', h5, h6⟩ := Option.map_eq_some_iff.1 h4
    simp only [Prod.mk.injEq] at h6
    obtain ⟨v, r1, r2⟩ := aIndex_ok (P := P) h5 (s.eval h1) (s.eval h3)
    exact quiet (by simp [execOp, r1]) r2 h6.1 h6.2.symm
  case extract x i =>
    obtain ⟨z, h1, h2⟩ := Option.bind_eq_some_iff.1 hd
    obtain ⟨d', h3, h4⟩ := Option.map_eq_some_iff.1 h2
    simp only [Prod.mk.injEq] at h4
    obtain ⟨v, r1, r2⟩ := aExtract_ok (P := P) h3 (s.eval h1)
    exact quiet (by simp [execOp, r1]) r2 h4.1 h4.2.symm
  case call c =>
    obtain ⟨callee, args, argTypes⟩ := c
    cases callee with
    | value f => cases hd
    | invoke r nm => cases hd
    | builtin b =>
      simp only at hd
      obtain ⟨ds, hds, hd2⟩ := Option.bind_eq_some_iff.1 hd
      clear hd
      have hd := hd2
      clear hd2
      unfold aBuiltin at hd
      split at hd
      · rename_i d1 T hta
        obtain ⟨x, hca, h1⟩ := evalFs_one hds
        have ea : args = #[x] := Array.ext' (by simpa using hca)
        have et : argTypes = #[T] := Array.ext' (by simpa using hta)
        subst ea et
        obtain ⟨d', h3, h4⟩ := Option.map_eq_some_iff.1 hd
        simp only [Prod.mk.injEq] at h4
        obtain ⟨v, r1, r2⟩ := s.len (ty := ty) h3 (s.evalF h1)
        refine quiet (v := v) ?_ r2 h4.1 h4.2.symm
        simp only [execOp, resolve, invoke, builtin, Sem.run_bind, Sem.run_pure, Result.andThen_ok, List.map_toArray, List.map_cons, List.map_nil, r1]
      · rename_i z1 z2 T T' hta
        obtain ⟨x, y, hca, h1, h3⟩ := evalFs_two hds
        have ea : args = #[x, y] := Array.ext' (by simpa using hca)
        have et : argTypes = #[T, T'] := Array.ext' (by simpa using hta)
        subst ea et
        split at hd
        · rename_i hT
          subst hT
          obtain ⟨v, w', ρ', r0, r1, r2, r3⟩ := s.append (ty := ty) hd (fun _ => hn) (s.evalF h1) (s.evalF h3)
          refine wp_value (v := v) (w' := w') ?_ ⟨_, ρ', rfl, r0, r2, r3⟩
          simp only [execOp, resolve, invoke, builtin, Sem.run_bind, Sem.run_pure, Result.andThen_ok, List.map_toArray, List.map_cons, List.map_nil, r1]
        · cases hd
      · rename_i z1 z2 T T' hta
        obtain ⟨x, y, hca, h1, h3⟩ := evalFs_two hds
        have ea : args = #[x, y] := Array.ext' (by simpa using hca)
        have et : argTypes = #[T, T'] := Array.ext' (by simpa using hta)
        subst ea et
        obtain ⟨v, w', r1, r2, r3⟩ := s.copy (ty := ty) (T' := T') hd (s.evalF h1) (s.evalF h3)
        refine wp_value (v := v) (w' := w') ?_ ⟨_, ρ, rfl, ?_, r2, r3⟩
        · simp only [execOp, resolve, invoke, builtin, Sem.run_bind, Sem.run_pure, Result.andThen_ok, List.map_toArray, List.map_cons, List.map_nil, r1]
        · exact Ext.refl _ _
      · rename_i k p k' q
        obtain ⟨x, y, hca, h1, h3⟩ := evalFs_two hds
        have ea : args = #[x, y] := Array.ext' (by simpa using hca)
        subst ea
        split at hd
        · rename_i hk
          subst hk
          simp only [Option.some.injEq, Prod.mk.injEq] at hd
          refine quiet (v := .int k (if q < p then q else p)) ?_ (.int _ _) hd.1 hd.2.symm
          simp [execOp, resolve, invoke, builtin, Builtin.min_, Builtin.min2, (s.evalF h1).int_inv, (s.evalF h3).int_inv]
        · cases hd
      · rename_i k p k' q
        obtain ⟨x, y, hca, h1, h3⟩ := evalFs_two hds
        have ea : args = #[x, y] := Array.ext' (by simpa using hca)
        subst ea
        split at hd
        · rename_i hk
          subst hk
          simp only [Option.some.injEq, Prod.mk.injEq] at hd
          refine quiet (v := .int k (if p < q then q else p)) ?_ (.int _ _) hd.1 hd.2.symm
          simp [execOp, resolve, invoke, builtin, Builtin.max_, Builtin.max2, (s.evalF h1).int_inv, (s.evalF h3).int_inv]
        · cases hd
      · cases hd
  all_goals cases hd
end Go.Proofs.Ytkclhekkcffpoaa.Am
