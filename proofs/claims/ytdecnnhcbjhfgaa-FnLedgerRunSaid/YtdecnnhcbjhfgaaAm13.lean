/- The plain machine: one operation. -/
import Derived.Test.YtdecnnhcbjhfgaaAm12
namespace Go.Proofs.Ytdecnnhcbjhfgaa.Am
set_option linter.unusedSimpArgs false
set_option linter.unusedVariables false
open Go Go.RowKit

variable {P : Program} {w0 : World} {S A : Nat → Prop} {N : Nat} {ρ : Nat → Pl} {t : List (Nat × D)} {h : List (Nat × Blk)} {a : Act} {w : World}

abbrev Env := List (Nat × Fn)

def isPtr : D → Bool
  | .ptr .. | .eptr .. | .iptr .. | .box _ => true
  | _ => false
/-- a pointer held against nil -/
def aBinP (P : Program) (op : BinOp) (T : TypeId) (d1 d2 : D) : Option D :=
  match P.underlying T with
  | some (.pointer _) => (match d1, d2, op with
    | .nilp, .nilp, .eql => some (.bool true)
    | .nilp, .nilp, .neq => some (.bool false)
    | .nilp, d, .eql => if isPtr d then some (.bool false) else none
    | .nilp, d, .neq => if isPtr d then some (.bool true) else none
    | d, .nilp, .eql => if isPtr d then some (.bool false) else none
    | d, .nilp, .neq => if isPtr d then some (.bool true) else none
    | _, _, _ => none)
  | _ => none
def aBoolEq (op : BinOp) (T : TypeId) (P : Program) (d1 d2 : D) : Option D :=
  match P.underlying T with
  | some .bool => (match d1, d2, op with
    | .bool x, .bool y, .eql => some (.bool (x == y))
    | .bool x, .bool y, .neq => some (.bool !(x == y))
    | _, _, _ => none)
  | _ => none

def evalDs (t : List (Nat × D)) (xs : List Operand) : Option (List D) := xs.mapM (evalD t)
def evalPs (t : List (Nat × D)) (xs : List (Nat × Operand)) : Option (List (Nat × D)) := xs.mapM fun x => (evalD t x.2).map fun d => (x.1, d)
def evalO (t : List (Nat × D)) : Option Operand → Option (Option D)
  | none => some none
  | some x => (evalD t x).map some

/-- copy, into a variable's own cells -/
def aCopy (P : Program) (h : List (Nat × Blk)) (T : TypeId) (d e : D) : Option (D × List (Nat × Blk)) :=
  match P.underlying T, d with
  | some (.slice E), .vref b o m => (match sizeT P E, elems h e, look h b with
    | some 1, some ys, some (.var T' cs) => if o + min ys.length m ≤ cs.length ∧ ys.all D.pure0 = true then some (.int .i64 (min ys.length m : Nat), [(b, .var T' (splice cs o (ys.take m)))]) else none
    | _, _, _ => none)
  | _, _ => none

theorem Sim.copy (s : Sim P w0 S A N ρ t h a w) {T T' ty : TypeId} {d e r : D} {u : List (Nat × Blk)} {v ve : Value} (hd : aCopy P h T d e = some (r, u)) (hv : C ρ (Live h) (okOf A ρ h w) w d v) (hve : C ρ (Live h) (okOf A ρ h w) w e ve) :
    ∃ v' w', (Builtin.copy_ #[T, T'] ty #[v, ve]).run P w = .ok v' w' ∧ Sim P w0 S A N ρ t (puts u h) a w' ∧ C ρ (Live (puts u h)) (okOf A ρ (puts u h) w') w' r v' := by
  unfold aCopy at hd
  split at hd
  · rename_i E b o m hu
    obtain ⟨hl, hmx, rfl⟩ := hv.vref_inv
    split at hd
    · rename_i ys T1 cs hs he hb
      split at hd
      · rename_i hc
        obtain ⟨hle, hp⟩ := hc
        rw [List.all_eq_true] at hp
        simp only [Option.some.injEq, Prod.mk.injEq] at hd
        obtain ⟨rfl, rfl⟩ := hd
        obtain ⟨a', cap, rfl, h1, h2, h3, h4⟩ := s.slice he hve
        obtain ⟨c, g1, g2, g3⟩ := s.blk b _ hb
        have hlen : (ys.take m).length = min ys.length m := by simp [Nat.min_comm]
        obtain ⟨vs, k1, k2, k3⟩ : ∃ vs : List Value, (Builtin.firstCells 1 (min ys.length m) (.slice a' ys.length cap)).run P w = .ok vs.toArray w ∧ vs.length = (ys.take m).length ∧ ∀ j, j < (ys.take m).length → Rep (okOf A ρ h w) w ((ys.take m).getD j .undef) (vs.getD j undef) := by
          by_cases hne : ys = []
          · subst hne
            refine ⟨[], ?_, by simp, fun j hj => by simp at hj⟩
            cases a' with
            | none => exact run_firstCells_none w _ _ _ _
            | some ad => exact run_firstCells_some w 1 _ ad _ _ [] (by simp) (fun j v h => by simp at h)
          · obtain ⟨b', off, f, rfl, p1, p2, p3, p4⟩ := h4 hne
            have hz : szl ys = 1 := by
              cases ys with
              | nil => exact absurd rfl hne
              | cons y ys => simp [szl, cells_pure0 (hp y (List.mem_cons_self ..))]
            rw [hz] at p3 p4
            refine ⟨(List.range (min ys.length m)).map fun i => f i 0, run_firstCells_some w 1 _ _ _ _ _ (by simp) (fun j v hj => ?_), by simp [Nat.min_comm], fun j hj => ?_⟩
            · have hj' : j < min ys.length m := by
                have := (List.getElem?_eq_some_iff.1 hj).1
                simpa using this
              simp [hj'] at hj
              subst hj
              have := p3 j 0 (by omega) (by omega)
              have e2 : (⟨b', off, none⟩ : Addr).add j = ⟨b', off + j, none⟩ := by
                by_cases hj0 : j = 0
                · subst hj0; rfl
                · simp [Addr.add, hj0]
              rw [e2]
              simpa using this
            · rw [hlen] at hj
              have hj2 : j < ys.length := by omega
              have hj3 : j < m := by omega
              have := p4 j 0 hj2 (by omega)
              have e1 : (ys.take m).getD j .undef = ys.getD j .undef := by simp [List.getD_eq_getElem?_getD, List.getElem?_take, hj3]
              have hm : ys.getD j .undef ∈ ys := by rw [List.getD_eq_getElem?_getD, List.getElem?_eq_getElem hj2]; exact List.getElem_mem hj2
              rw [e1]
              rw [cells_pure0 (hp _ hm)] at this
              have hj4 : j < min ys.length m := hj
              have e3 : ((List.range (min ys.length m)).map fun i => f i 0).getD j undef = f j 0 := by
                rw [List.getD_eq_getElem?_getD, List.getElem?_map, List.getElem?_range hj4]
                rfl
              rw [e3]
              exact this
        have hone : ∀ x ∈ vs, x.oneCell' = true := by
          intro x hx
          obtain ⟨j, hj, rfl⟩ := List.getElem_of_mem hx
          have hj' : j < (ys.take m).length := by omega
          have hm : (ys.take m).getD j .undef ∈ ys := by
            rw [List.getD_eq_getElem?_getD, List.getElem?_eq_getElem hj']; exact List.mem_of_mem_take (List.getElem_mem hj')
          have := (C.pure (ρ := ρ) (L := Live h) (k3 j hj')).oneCell (pure0_one (hp _ hm))
          simpa [List.getD_eq_getElem?_getD, hj] using this
        have hst := run_storeCells_at P (ρ b).blk o T1 vs 0 c w g1 (by omega) hone
        refine ⟨_, w.setRow (ρ b).blk (c.toList.take o ++ vs ++ c.toList.drop (o + vs.length)).toArray, ?_, s.write (y := .var T1 (splice cs o (ys.take m))) hb rfl _ fun hC hR => ⟨_, setRow_heap w _ c _ T1 _ g1, ?_, fun j hj => ?_⟩, .int _ _⟩
        · have hmin : Nat.min ys.length m = min ys.length m := rfl
          have hst' : (storeCells ⟨(ρ b).blk, o, none⟩ vs).run P w = .ok () (w.setRow (ρ b).blk (c.toList.take o ++ vs ++ c.toList.drop (o + vs.length)).toArray) := by simpa using hst
          simp only [Builtin.copy_, run_underlying hu, Builtin.lenOf, run_size hs, hmin, k1, Sem.run_bind, Sem.run_pure, Result.andThen_ok]
          simp [run_underlying hu, run_size hs, hmin, k1, hst', Builtin.lenOf]
          rfl
        · simp only [List.size_toArray, splice]
          rw [length_splice _ _ _ (by have e := Array.length_toList (xs := c); omega), length_splice _ _ _ (by omega)]
          simpa using g2
        · rw [arr_getD]
          have hj' : j < cs.length := by rw [splice, length_splice _ _ _ (by omega)] at hj; exact hj
          exact splice_ok (Q := fun d v => C _ _ _ _ d v) (by simpa using g2.symm) k2.symm (by omega) (fun j hj => hC _ _ (by rw [← arr_getD']; exact g3 j hj)) (fun j hj => .pure (hR _ _ (k3 j hj))) j hj'
      · cases hd
    · cases hd
  · cases hd

def aBuiltin (P : Program) (b : Builtin) (ds : List D) (Ts : List TypeId) (h : List (Nat × Blk)) (n : Nat) : Option (D × List (Nat × Blk)) :=
  match b, ds, Ts with
  | .len, [d], [T] => (aLen P h T d).map fun r => (r, [])
  | .append, [d, e], [T, T'] => if T = T' then aAppend P h n T d e else none
  | .copy, [d, e], [T, _] => aCopy P h T d e
  | .min, [.int k x, .int k' y], _ => if k = k' then some (.int k (if y < x then y else x), []) else none
  | .max, [.int k x, .int k' y], _ => if k = k' then some (.int k (if x < y then y else x), []) else none
  | _, _, _ => none
def aCallF (Γ : Env) (f : FuncId) (xs : List Operand) (t : List (Nat × D)) (h : List (Nat × Blk)) (n : Nat) : Option (D × List (Nat × Blk)) :=
  match look Γ f with
  | some F => (evalDs t xs).bind fun ds => aCall F h n ds
  | none => none
def aCallOp (P : Program) (Γ : Env) (c : Call) (t : List (Nat × D)) (h : List (Nat × Blk)) (n : Nat) : Option (D × List (Nat × Blk)) :=
  match c.callee with
  | .builtin b => (evalDs t c.args.toList).bind fun ds => aBuiltin P b ds c.argTypes.toList h n
  | .value (.func f) => aCallF Γ f c.args.toList t h n
  | _ => none

def aop (P : Program) (Γ : Env) (op : Op) (t : List (Nat × D)) (h : List (Nat × Blk)) (n : Nat) : Option (D × List (Nat × Blk)) :=
  match op with
  | .move x => (evalD t x).map fun d => (d, [])
  | .assign x => (evalD t x).map fun d => (d, [])
  | .pick c x y => (match evalD t c with
    | some (.bool true) => (evalD t x).map fun d => (d, [])
    | some (.bool false) => (evalD t y).map fun d => (d, [])
    | _ => none)
  | .alloc T => (ofZero P T).map fun z => (.ptr n 0, [(n, .var T z.cells)])
  | .box T x => (evalD t x).bind fun d => if d.whole = true then some (.ptr n 0, [(n, .var T d.cells)]) else none
  | .build T ps => (evalPs t ps.toList).bind fun ds => (aBuild P T ds).map fun d => (d, [])
  | .buildSlice T len ps => (evalPs t ps.toList).bind fun ds => (ds.mapM fun x => (pur h x.2).map fun d => (x.1, d)).bind fun ds' =>
      (aBuildSlice P n T len ds').map fun r => (r.1, frz h (ds.flatMap fun x => ids x.2) ++ r.2)
  | .load T x => (evalD t x).bind fun d => (aLoad P h T d).map fun d => (d, [])
  | .store T x y => (evalD t x).bind fun d => (evalD t y).bind fun e => (match d with
    | .eptr .. => (pur h e).bind fun e' => (aStore P (puts (frz h (ids e)) h) T d e').map fun u => (.undef, frz h (ids e) ++ u)
    | _ => (aStore P h T d e).map fun u => (.undef, u))
  | .nilCheck x => (evalD t x).bind fun d => if isPtr d then some (d, []) else none
  | .binOp op T x y _ => (evalD t x).bind fun d => (evalD t y).bind fun e => (match aBin op d e with
    | some r => some (r, [])
    | none => (match aBinP P op T d e with
      | some r => some (r, [])
      | none => (aBoolEq op T P d e).map fun r => (r, [])))
  | .unOp op _ x => (evalD t x).bind fun d => (aUn op d).map fun d => (d, [])
  | .convert src dst x => (evalD t x).bind fun d => (aConv P h src dst d).map fun d => (d, [])
  | .makeSlice T l c => (evalD t l).bind fun d => (evalD t c).bind fun e => aMake P n T d e
  | .slice T x lo hi none => (evalD t x).bind fun d => (evalO t lo).bind fun l => (evalO t hi).bind fun r => aSlice P h T d l r
  | .fieldAddr T x f => (evalD t x).bind fun d => (aField P T f d).map fun d => (d, [])
  | .field T x f => (evalD t x).bind fun d => (aPart P T f d).map fun d => (d, [])
  | .indexAddr T x i => (evalD t x).bind fun d => (evalD t i).bind fun e => (aIndexAddr P h T d e).map fun d => (d, [])
  | .index T x i => (evalD t x).bind fun d => (evalD t i).bind fun e => (aIndex P T d e).map fun d => (d, [])
  | .extract x i => (evalD t x).bind fun d => (aExtract i d).map fun d => (d, [])
  | .call c => aCallOp P Γ c t h n
  | _ => none

theorem wp_value {o : Oper} {v : Value} {w' : World} {K : Act → World → Prop} {Q : Exit → Act → World → Prop} (hr : (execOp a.eval o).run P w = .ok (.value v) w') (hk : K (a.put o.dst v) w') : o.wp P a w K Q := by
  unfold Oper.wp; rw [hr]; exact hk
theorem wp_skip' {o : Oper} {w' : World} {K : Act → World → Prop} {Q : Exit → Act → World → Prop} (hr : (execOp a.eval o).run P w = .ok .skip w') (hk : K (a.put o.dst undef) w') : o.wp P a w K Q := by
  unfold Oper.wp; rw [hr]; exact hk

/-- the state behind an operation -/
def Done (P : Program) (w0 : World) (S A : Nat → Prop) (N : Nat) (ρ : Nat → Pl) (t : List (Nat × D)) (h h' : List (Nat × Blk)) (a : Act) (dst : Option Tmp) (d : D) (a' : Act) (w' : World) : Prop :=
  ∃ v ρ', a' = a.put dst v ∧ Ext h ρ ρ' ∧ Sim P w0 S A N ρ' t h' a w' ∧ C ρ' (Live h') (okOf A ρ' h' w') w' d v

theorem Sim.evalDs (s : Sim P w0 S A N ρ t h a w) {xs : List Operand} {ds : List D} (hd : Am.evalDs t xs = some ds) : ds.length = (xs.map a.eval).length ∧ ∀ i, i < ds.length → C ρ (Live h) (okOf A ρ h w) w (ds.getD i .undef) ((xs.map a.eval).getD i undef) := by
  obtain ⟨e, q⟩ := mapM_len hd
  refine ⟨by simp [e], fun i hi => ?_⟩
  have hi' : i < xs.length := by omega
  obtain ⟨y, hy1, hy2⟩ := q i hi' _ (List.getElem?_eq_getElem hi')
  have := s.eval hy1
  simpa [List.getD_eq_getElem?_getD, hy2, hi'] using this
theorem Sim.evalPs (s : Sim P w0 S A N ρ t h a w) {xs : List (Nat × Operand)} {ds : List (Nat × D)} (hd : Am.evalPs t xs = some ds) : ds.length = (xs.map fun x => (x.1, a.eval x.2)).length ∧
    ∀ i, i < ds.length → (ds.getD i (0, .undef)).1 = ((xs.map fun x => (x.1, a.eval x.2)).getD i (0, undef)).1 ∧ C ρ (Live h) (okOf A ρ h w) w (ds.getD i (0, .undef)).2 ((xs.map fun x => (x.1, a.eval x.2)).getD i (0, undef)).2 := by
  obtain ⟨e, q⟩ := mapM_len hd
  refine ⟨by simp [e], fun i hi => ?_⟩
  have hi' : i < xs.length := by omega
  obtain ⟨y, hy1, hy2⟩ := q i hi' _ (List.getElem?_eq_getElem hi')
  obtain ⟨d, hd1, rfl⟩ := Option.map_eq_some_iff.1 hy1
  have := s.eval hd1
  simp only [List.getD_eq_getElem?_getD, hy2, List.getElem?_map, List.getElem?_eq_getElem hi', Option.map_some, Option.getD_some]
  exact ⟨trivial, this⟩

theorem C.isPtr_inv {L ok : Nat → Prop} {d : D} {v : Value} (hp : isPtr d = true) (hc : C ρ L ok w d v) : ∃ ad, v = .pointer (some ad) := by
  cases d <;> simp [isPtr] at hp
  · cases hc.box_inv with | box _ b off f hok hpos hc hr => exact ⟨_, rfl⟩
  · obtain ⟨_, rfl⟩ := hc.ptr_inv; exact ⟨_, rfl⟩
  · obtain ⟨_, rfl⟩ := hc.eptr_inv; exact ⟨_, rfl⟩
  · obtain ⟨b, off, f, rfl, _⟩ := hc.iptr_inv; exact ⟨_, rfl⟩

theorem aBinP_ok {op : BinOp} {T : TypeId} {x y : Operand} {d1 d2 d : D} {v1 v2 : Value} {L ok : Nat → Prop} (hd : aBinP P op T d1 d2 = some d) (h1 : C ρ L ok w d1 v1) (h2 : C ρ L ok w d2 v2) :
    ∃ v, (do eqGuard op T x y v1 v2; binOp op T v1 v2 : Sem Value).run P w = .ok v w ∧ Rep ok w d v := by
  unfold aBinP at hd
  split at hd
  · rename_i e hu
    have hg : ∀ (p q : Option Addr), eqGuard op T x y (.pointer p) (.pointer q) = pure () := by intro p q; unfold eqGuard; split <;> rfl
    have r1 : ∀ (q : Option Addr), (Op.equal T (.pointer none) (.pointer q)).run P w = .ok q.isNone w := by
      intro q
      have := fun (k : Nat) => (show (Op.equalIn (k + 1) T (.pointer none) (.pointer q)).run P w = .ok q.isNone w by simp [Op.equalIn, run_underlying hu])
      exact this 9999
    have r2 : ∀ (ad : Addr), (Op.equal T (.pointer (some ad)) (.pointer none)).run P w = .ok false w := by
      intro ad
      have := fun (k : Nat) => (show (Op.equalIn (k + 1) T (.pointer (some ad)) (.pointer none)).run P w = .ok false w by simp [Op.equalIn, run_underlying hu])
      exact this 9999
    split at hd
    · obtain rfl := h1.nilp_inv; obtain rfl := h2.nilp_inv
      simp only [Option.some.injEq] at hd; subst hd
      exact ⟨_, by rw [hg]; simp [binOp, r1], .bool _⟩
    · obtain rfl := h1.nilp_inv; obtain rfl := h2.nilp_inv
      simp only [Option.some.injEq] at hd; subst hd
      exact ⟨_, by rw [hg]; simp [binOp, r1], .bool _⟩
    · split at hd
      · rename_i hp
        obtain rfl := h1.nilp_inv; obtain ⟨ad, rfl⟩ := h2.isPtr_inv hp
        simp only [Option.some.injEq] at hd; subst hd
        exact ⟨_, by rw [hg]; simp [binOp, r1], .bool _⟩
      · cases hd
    · split at hd
      · rename_i hp
        obtain rfl := h1.nilp_inv; obtain ⟨ad, rfl⟩ := h2.isPtr_inv hp
        simp only [Option.some.injEq] at hd; subst hd
        exact ⟨_, by rw [hg]; simp [binOp, r1], .bool _⟩
      · cases hd
    · split at hd
      · rename_i hp
        obtain rfl := h2.nilp_inv; obtain ⟨ad, rfl⟩ := h1.isPtr_inv hp
        simp only [Option.some.injEq] at hd; subst hd
        exact ⟨_, by rw [hg]; simp [binOp, r2], .bool _⟩
      · cases hd
    · split at hd
      · rename_i hp
        obtain rfl := h2.nilp_inv; obtain ⟨ad, rfl⟩ := h1.isPtr_inv hp
        simp only [Option.some.injEq] at hd; subst hd
        exact ⟨_, by rw [hg]; simp [binOp, r2], .bool _⟩
      · cases hd
    · cases hd
  · cases hd

theorem aBoolEq_ok {op : BinOp} {T : TypeId} {x y : Operand} {d1 d2 d : D} {v1 v2 : Value} {L ok : Nat → Prop} (hd : aBoolEq op T P d1 d2 = some d) (h1 : C ρ L ok w d1 v1) (h2 : C ρ L ok w d2 v2) :
    ∃ v, (do eqGuard op T x y v1 v2; binOp op T v1 v2 : Sem Value).run P w = .ok v w ∧ Rep ok w d v := by
  unfold aBoolEq at hd
  split at hd
  · rename_i hu
    have hg : ∀ p q, eqGuard op T x y (.bool p) (.bool q) = pure () := by intro p q; unfold eqGuard; split <;> rfl
    have r1 : ∀ p q, (Op.equal T (.bool p) (.bool q)).run P w = .ok (p == q) w := by
      intro p q
      have := fun (k : Nat) => (show (Op.equalIn (k + 1) T (.bool p) (.bool q)).run P w = .ok (p == q) w by simp [Op.equalIn, run_underlying hu])
      exact this 9999
    split at hd
    · obtain rfl := h1.bool_inv; obtain rfl := h2.bool_inv
      simp only [Option.some.injEq] at hd; subst hd
      exact ⟨_, by rw [hg]; simp [binOp, r1], .bool _⟩
    · obtain rfl := h1.bool_inv; obtain rfl := h2.bool_inv
      simp only [Option.some.injEq] at hd; subst hd
      exact ⟨_, by rw [hg]; simp [binOp, r1], .bool _⟩
    · cases hd
  · cases hd

theorem evalDs_one {xs : List Operand} {d : D} (hd : Am.evalDs t xs = some [d]) : ∃ x, xs = [x] ∧ evalD t x = some d := by
  obtain ⟨e, q⟩ := mapM_len hd
  match xs, e with
  | [x], _ =>
    obtain ⟨y, h1, h2⟩ := q 0 (by simp) x rfl
    simp at h2
    exact ⟨x, rfl, by rw [h1, h2]⟩
theorem evalDs_two {xs : List Operand} {d e : D} (hd : Am.evalDs t xs = some [d, e]) : ∃ x y, xs = [x, y] ∧ evalD t x = some d ∧ evalD t y = some e := by
  obtain ⟨el, q⟩ := mapM_len hd
  match xs, el with
  | [x, y], _ =>
    obtain ⟨z1, h1, h2⟩ := q 0 (by simp) x rfl
    obtain ⟨z2, h3, h4⟩ := q 1 (by simp) y rfl
    simp at h2 h4
    exact ⟨x, y, rfl, by rw [h1, h2], by rw [h3, h4]⟩

def Env.ok (P : Program) (Γ : Env) : Prop := ∀ f F, look Γ f = some F → Sound P f F

set_option maxHeartbeats 1000000 in
theorem Sim.op (s : Sim P w0 S A N ρ t h a w) {Γ : Env} (hΓ : Γ.ok P) {o : Oper} {n : Nat} {d : D} {u : List (Nat × Blk)} (hd : aop P Γ o.op t h n = some (d, u)) (hnew : ∀ x ∈ u, n ≤ x.1 → look h x.1 = none) :
    o.wp P a w (Done P w0 S A N ρ t h (puts u h) a o.dst d) (fun _ _ _ => False) := by
  obtain ⟨dst, op, ty, pos, after, guard⟩ := o
  simp only at hd ⊢
  have quiet : ∀ {v : Value} {d' : D}, (execOp a.eval ⟨dst, op, ty, pos, after, guard⟩).run P w = .ok (.value v) w → C ρ (Live h) (okOf A ρ h w) w d' v → d' = d → u = [] → Oper.wp P ⟨dst, op, ty, pos, after, guard⟩ a w (Done P w0 S A N ρ t h (puts u h) a dst d) (fun _ _ _ => False) := by
    rintro v d' hr hc rfl rfl
    exact wp_value hr ⟨v, ρ, rfl, Ext.refl _ _, s, hc⟩
  cases op <;> simp only [aop] at hd
  case move x =>
    obtain ⟨d', h1, h2⟩ := Option.map_eq_some_iff.1 hd
    simp only [Prod.mk.injEq] at h2
    exact quiet (by simp [execOp]) (s.eval h1) h2.1 h2.2.symm
  case assign x =>
    obtain ⟨d', h1, h2⟩ := Option.map_eq_some_iff.1 hd
    simp only [Prod.mk.injEq] at h2
    exact quiet (by simp [execOp]) (s.eval h1) h2.1 h2.2.symm
  case pick c x y =>
    split at hd
    · rename_i hc
      obtain ⟨d', h1, h2⟩ := Option.map_eq_some_iff.1 hd
      simp only [Prod.mk.injEq] at h2
      exact quiet (by simp [execOp, (s.eval hc).bool_inv, asBool]) (s.eval h1) h2.1 h2.2.symm
    · rename_i hc
      obtain ⟨d', h1, h2⟩ := Option.map_eq_some_iff.1 hd
      simp only [Prod.mk.injEq] at h2
      exact quiet (by simp [execOp, (s.eval hc).bool_inv, asBool]) (s.eval h1) h2.1 h2.2.symm
    · cases hd
  case alloc T =>
    obtain ⟨z, h1, h2⟩ := Option.map_eq_some_iff.1 hd
    simp only [Prod.mk.injEq] at h2
    obtain ⟨rfl, rfl⟩ := h2
    obtain ⟨v, r1, r2, r3, _⟩ := ofZero_ok h1 (okOf A ρ h w) w
    have hn := hnew (n, .var T z.cells) (by simp) (Nat.le_refl _)
    obtain ⟨ρ', e0, e1, e2⟩ := s.newVar hn (T := T) r3 (.pure r2)
    refine wp_value (v := .pointer (some ⟨(ρ' n).blk, 0, none⟩)) (w' := w.alloc (.cells v.cells T (0, 0))) ?_ ⟨_, ρ', rfl, e0, e2, .ptr n 0 ?_⟩
    · simp [execOp, Instr.alloc, r1, e1]
    · show Live (put n _ h) n
      unfold Live; rw [look_put]; simp
  case box T x =>
    obtain ⟨z, h1, h2⟩ := Option.bind_eq_some_iff.1 hd
    split at h2
    · rename_i hw
      simp only [Option.some.injEq, Prod.mk.injEq] at h2
      obtain ⟨rfl, rfl⟩ := h2
      have hn := hnew (n, .var T z.cells) (by simp) (Nat.le_refl _)
      obtain ⟨ρ', e0, e1, e2⟩ := s.newVar hn (T := T) hw (s.eval h1)
      refine wp_value (v := .pointer (some ⟨(ρ' n).blk, 0, none⟩)) (w' := w.alloc (.cells (a.eval x).cells T (0, 0))) ?_ ⟨_, ρ', rfl, e0, e2, .ptr n 0 ?_⟩
      · simp [execOp, Instr.box, e1]
      · show Live (put n _ h) n
        unfold Live; rw [look_put]; simp
    · cases h2
  case build T ps =>
    obtain ⟨ds, h1, h2⟩ := Option.bind_eq_some_iff.1 hd
    obtain ⟨d', h3, h4⟩ := Option.map_eq_some_iff.1 h2
    simp only [Prod.mk.injEq] at h4
    obtain ⟨e, q⟩ := s.evalPs h1
    obtain ⟨v, r1, r2⟩ := aBuild_ok (P := P) (vs := ps.map fun x => (x.1, a.eval x.2)) h3 (by simpa using e) (by simpa using q)
    exact quiet (by simp [execOp, r1]) r2 h4.1 h4.2.symm
  case buildSlice T len ps =>
    obtain ⟨ds, h1, h2⟩ := Option.bind_eq_some_iff.1 hd
    obtain ⟨ds', h3, h4⟩ := Option.bind_eq_some_iff.1 h2
    obtain ⟨⟨rd, ru⟩, h5, h6⟩ := Option.map_eq_some_iff.1 h4
    simp only [Prod.mk.injEq] at h6
    obtain ⟨rfl, rfl⟩ := h6
    obtain ⟨e, q⟩ := s.evalPs h1
    obtain ⟨e2, q2⟩ := mapM_len h3
    generalize hbs : (ds.flatMap fun x => ids x.2) = bs at *
    have s1 := s.freezeAll bs
    obtain ⟨f1, f2, f3⟩ := s.frz_ok bs h s fun _ => .inl rfl
    have hn : look (puts (frz h bs) h) n = none := by
      have hm : ∃ x, (n, x) ∈ ru := by
        unfold aBuildSlice at h5
        split at h5
        · split at h5
          · split at h5
            · simp only [Option.some.injEq, Prod.mk.injEq] at h5
              obtain ⟨_, rfl⟩ := h5
              exact ⟨_, List.mem_singleton.2 rfl⟩
            · cases h5
          · cases h5
        · cases h5
      obtain ⟨x, hx⟩ := hm
      have := hnew (n, x) (List.mem_append_right _ hx) (Nat.le_refl _)
      rcases f2 n with q | ⟨E, l, q1, _⟩
      · exact q.trans this
      · rw [this] at q1; cases q1
    obtain ⟨v, w', ρ', r0, r1, r2, r3⟩ := s1.buildSlice hn (vs := ps.map fun x => (x.1, a.eval x.2)) h5 (by simp [e2, e]) (fun i hi => by
      have hi' : i < ds.length := by omega
      obtain ⟨y, y1, y2⟩ := q2 i hi' _ (List.getElem?_eq_getElem hi')
      obtain ⟨d', d1, rfl⟩ := Option.map_eq_some_iff.1 y1
      obtain ⟨p1, p2⟩ := q i hi'
      have eg : ds.getD i (0, .undef) = ds[i] := by simp [List.getD_eq_getElem?_getD, hi']
      have eg' : ds'.getD i (0, .undef) = (ds[i].1, d') := by simp [List.getD_eq_getElem?_getD, y2]
      rw [eg] at p1 p2
      rw [eg']
      refine ⟨by simpa using p1, .pure ?_⟩
      have := s.pur (bs := bs) d1 (fun b hb => by rw [← hbs]; exact List.mem_flatMap.2 ⟨_, List.getElem_mem hi', hb⟩) p2
      simpa using this)
    rw [puts_append]
    refine wp_value (v := v) (w' := w') (by simp [execOp, r1]) ⟨_, ρ', rfl, fun b hb => r0 b ?_, r2, r3⟩
    rcases f2 b with q | ⟨E, l, _, q2⟩
    · simpa [Live, q] using hb
    · simp [Live, q2]
  case load T x =>
    obtain ⟨z, h1, h2⟩ := Option.bind_eq_some_iff.1 hd
    obtain ⟨d', h3, h4⟩ := Option.map_eq_some_iff.1 h2
    simp only [Prod.mk.injEq] at h4
    obtain ⟨v, r1, r2⟩ := s.load h3 (s.eval h1)
    exact quiet (by simp [execOp, r1]) r2 h4.1 h4.2.symm
  case store T x y =>
    obtain ⟨z1, h1, h2⟩ := Option.bind_eq_some_iff.1 hd
    obtain ⟨z2, h3, h4⟩ := Option.bind_eq_some_iff.1 h2
    split at h4
    · rename_i b i o
      obtain ⟨e', h5, h6⟩ := Option.bind_eq_some_iff.1 h4
      obtain ⟨u', h7, h8⟩ := Option.map_eq_some_iff.1 h6
      simp only [Prod.mk.injEq] at h8
      obtain ⟨rfl, rfl⟩ := h8
      have s1 := s.freezeAll (ids z2)
      obtain ⟨f1, f2, f3⟩ := s.frz_ok (ids z2) h s fun _ => .inl rfl
      have hp := s.pur (bs := ids z2) h5 (fun b hb => hb) (s.eval h3)
      obtain ⟨w', r1, r2⟩ := s1.store h7 (s1.eval h1) (.pure hp)
      rw [puts_append]
      exact wp_skip' (by simp [execOp, r1]) ⟨_, ρ, rfl, Ext.refl _ _, r2, .any _⟩
    · obtain ⟨u', h7, h8⟩ := Option.map_eq_some_iff.1 h4
      simp only [Prod.mk.injEq] at h8
      obtain ⟨rfl, rfl⟩ := h8
      obtain ⟨w', r1, r2⟩ := s.store h7 (s.eval h1) (s.eval h3)
      exact wp_skip' (by simp [execOp, r1]) ⟨_, ρ, rfl, Ext.refl _ _, r2, .any _⟩
  case nilCheck x =>
    obtain ⟨z, h1, h2⟩ := Option.bind_eq_some_iff.1 hd
    split at h2
    · rename_i hp
      simp only [Option.some.injEq, Prod.mk.injEq] at h2
      have hc := s.eval h1
      obtain ⟨ad, e⟩ := hc.isPtr_inv hp
      exact quiet (v := a.eval x) (by simp [execOp, e]) hc h2.1 h2.2.symm
    · cases h2
  case binOp op T x y yT =>
    obtain ⟨z1, h1, h2⟩ := Option.bind_eq_some_iff.1 hd
    obtain ⟨z2, h3, h4⟩ := Option.bind_eq_some_iff.1 h2
    have fin : ∀ {r : D} {v : Value}, (do eqGuard op T x y (a.eval x) (a.eval y); binOp op T (a.eval x) (a.eval y) : Sem Value).run P w = .ok v w → Rep (okOf A ρ h w) w r v → r = d → u = [] → _ := fun hr hv e1 e2 =>
      quiet (by simp only [execOp]; rw [Sem.run_bind, hr]; simp) (.pure hv) e1 e2
    split at h4
    · rename_i r hr
      simp only [Option.some.injEq, Prod.mk.injEq] at h4
      obtain ⟨v, r1, r2⟩ := aBin_ok (P := P) (T := T) (x := x) (y := y) hr (s.eval h1) (s.eval h3)
      exact fin r1 r2 h4.1 h4.2.symm
    · split at h4
      · rename_i r hr
        simp only [Option.some.injEq, Prod.mk.injEq] at h4
        obtain ⟨v, r1, r2⟩ := aBinP_ok (P := P) (T := T) (x := x) (y := y) hr (s.eval h1) (s.eval h3)
        exact fin r1 r2 h4.1 h4.2.symm
      · obtain ⟨r, hr, h5⟩ := Option.map_eq_some_iff.1 h4
        simp only [Prod.mk.injEq] at h5
        obtain ⟨v, r1, r2⟩ := aBoolEq_ok (P := P) (T := T) (x := x) (y := y) hr (s.eval h1) (s.eval h3)
        exact fin r1 r2 h5.1 h5.2.symm
  case unOp op T x =>
    obtain ⟨z, h1, h2⟩ := Option.bind_eq_some_iff.1 hd
    obtain ⟨d', h3, h4⟩ := Option.map_eq_some_iff.1 h2
    simp only [Prod.mk.injEq] at h4
    obtain ⟨v, r1, r2⟩ := aUn_ok (P := P) h3 (s.eval h1)
    exact quiet (by simp [execOp, r1]) (.pure r2) h4.1 h4.2.symm
  case convert src dst' x =>
    obtain ⟨z, h1, h2⟩ := Option.bind_eq_some_iff.1 hd
    obtain ⟨d', h3, h4⟩ := Option.map_eq_some_iff.1 h2
    simp only [Prod.mk.injEq] at h4
    obtain ⟨v, r1, r2⟩ := s.conv h3 (s.eval h1)
    exact quiet (by simp [execOp, r1]) r2 h4.1 h4.2.symm
  case makeSlice T l c =>
    obtain ⟨z1, h1, h2⟩ := Option.bind_eq_some_iff.1 hd
    obtain ⟨z2, h3, h4⟩ := Option.bind_eq_some_iff.1 h2
    have hn : look h n = none := by
      unfold aMake at h4
      split at h4
      · split at h4
        · split at h4
          · simp only [Option.some.injEq, Prod.mk.injEq] at h4
            obtain ⟨_, rfl⟩ := h4
            exact hnew (n, _) (List.mem_singleton.2 rfl) (Nat.le_refl _)
          · cases h4
        · cases h4
      · cases h4
    obtain ⟨v, w', ρ', r0, r1, r2, r3⟩ := s.make hn h4 (s.eval h1) (s.eval h3)
    exact wp_value (v := v) (w' := w') (by simp [execOp, r1]) ⟨_, ρ', rfl, r0, r2, r3⟩
  case slice T x lo hi mx =>
    cases mx with
    | some m => cases hd
    | none =>
      obtain ⟨z, h1, h2⟩ := Option.bind_eq_some_iff.1 hd
      obtain ⟨l, h3, h4⟩ := Option.bind_eq_some_iff.1 h2
      obtain ⟨r, h5, h6⟩ := Option.bind_eq_some_iff.1 h4
      have bo : ∀ {m : Option Operand} {r : Option D}, evalO t m = some r → (r = none ∧ m.map a.eval = none) ∨ ∃ d' v', r = some d' ∧ m.map a.eval = some v' ∧ C ρ (Live h) (okOf A ρ h w) w d' v' := by
        intro m r hm
        cases m with
        | none => simp only [evalO, Option.some.injEq] at hm; exact .inl ⟨hm.symm, rfl⟩
        | some x =>
          obtain ⟨d', q1, q2⟩ := Option.map_eq_some_iff.1 hm
          exact .inr ⟨d', _, q2.symm, rfl, s.eval q1⟩
      obtain ⟨v, r1, r2, r3⟩ := s.cut h6 (s.eval h1) (bo h3) (bo h5)
      exact wp_value (v := v) (w' := w) (by simp [execOp, r1]) ⟨_, ρ, rfl, Ext.refl _ _, r2, r3⟩
  case fieldAddr T x f =>
    obtain ⟨z, h1, h2⟩ := Option.bind_eq_some_iff.1 hd
    obtain ⟨d', h3, h4⟩ := Option.map_eq_some_iff.1 h2
    simp only [Prod.mk.injEq] at h4
    obtain ⟨v, r1, r2⟩ := aField_ok (P := P) h3 (s.eval h1)
    exact quiet (by simp [execOp, r1]) r2 h4.1 h4.2.symm
  case field T x f =>
    obtain ⟨z, h1, h2⟩ := Option.bind_eq_some_iff.1 hd
    obtain ⟨d', h3, h4⟩ := Option.map_eq_some_iff.1 h2
    simp only [Prod.mk.injEq] at h4
    obtain ⟨v, r1, r2⟩ := aPart_ok (P := P) h3 (s.eval h1)
    exact quiet (by simp [execOp, r1]) r2 h4.1 h4.2.symm
  case indexAddr T x i =>
    obtain ⟨z1, h1, h2⟩ := Option.bind_eq_some_iff.1 hd
    obtain ⟨z2, h3, h4⟩ := Option.bind_eq_some_iff.1 h2
    obtain ⟨d', h5, h6⟩ := Option.map_eq_some_iff.1 h4
    simp only [Prod.mk.injEq] at h6
    obtain ⟨v, r1, r2⟩ := s.indexAddr h5 (s.eval h1) (s.eval h3)
    exact quiet (by simp [execOp, r1]) r2 h6.1 h6.2.symm
  case index T x i =>
    obtain ⟨z1, h1, h2⟩ := Option.bind_eq_some_iff.1 hd
    obtain ⟨z2, h3, h4⟩ := Option.bind_eq_some_iff.1 h2
    obtain ⟨d', h5, h6⟩ := Option.map_eq_some_iff.1 h4
    simp only [Prod.mk.injEq] at h6
    obtain ⟨v, r1, r2⟩ := aIndex_ok (P := P) h5 (s.eval h1) (s.eval h3)
    exact quiet (by simp [execOp, r1]) r2 h6.1 h6.2.symm
  case extract x i =>
    obtain ⟨z, h1, h2⟩ := Option.bind_eq_some_iff.1 hd
    obtain ⟨d', h3, h4⟩ := Option.map_eq_some_iff.1 h2
    simp only [Prod.mk.injEq] at h4
    obtain ⟨v, r1, r2⟩ := aExtract_ok (P := P) h3 (s.eval h1)
    exact quiet (by simp [execOp, r1]) r2 h4.1 h4.2.symm
  case call c =>
    obtain ⟨callee, args, argTypes⟩ := c
    unfold aCallOp at hd
    simp only at hd
    split at hd
    · rename_i b
      obtain ⟨ds, hds, hd2⟩ := Option.bind_eq_some_iff.1 hd
      clear hd
      have hd := hd2
      clear hd2
      unfold aBuiltin at hd
      split at hd
      · rename_i d1 T hta
        obtain ⟨x, hca, h1⟩ := evalDs_one hds
        have ea : args = #[x] := Array.ext' (by simpa using hca)
        have et : argTypes = #[T] := Array.ext' (by simpa using hta)
        subst ea et
        obtain ⟨d', h3, h4⟩ := Option.map_eq_some_iff.1 hd
        simp only [Prod.mk.injEq] at h4
        obtain ⟨v, r1, r2⟩ := s.len (ty := ty) h3 (s.eval h1)
        refine quiet (v := v) ?_ r2 h4.1 h4.2.symm
        simp only [execOp, resolve, invoke, builtin, Sem.run_bind, Sem.run_pure, Result.andThen_ok, List.map_toArray, List.map_cons, List.map_nil, r1]
      · rename_i z1 z2 T T' hta
        obtain ⟨x, y, hca, h1, h3⟩ := evalDs_two hds
        have ea : args = #[x, y] := Array.ext' (by simpa using hca)
        have et : argTypes = #[T, T'] := Array.ext' (by simpa using hta)
        subst ea et
        split at hd
        · rename_i hT
          subst hT
          have h4 := hd
          have hn : u ≠ [] → look h n = none := by
            intro hu
            have hm : ∃ x, (n, x) ∈ u := by
              unfold aAppend at h4
              split at h4
              · split at h4
                · split at h4
                  · split at h4
                    · split at h4
                      · split at h4
                        · simp only [Option.some.injEq, Prod.mk.injEq] at h4
                          obtain ⟨_, rfl⟩ := h4
                          exact ⟨_, List.mem_cons_of_mem _ (List.mem_singleton.2 rfl)⟩
                        · cases h4
                      · cases h4
                    · split at h4
                      · simp only [Option.some.injEq, Prod.mk.injEq] at h4
                        exact absurd h4.2.symm hu
                      · split at h4
                        · simp only [Option.some.injEq, Prod.mk.injEq] at h4
                          obtain ⟨_, rfl⟩ := h4
                          exact ⟨_, List.mem_singleton.2 rfl⟩
                        · cases h4
                    · cases h4
                  · cases h4
                · cases h4
              · cases h4
            obtain ⟨x, hx⟩ := hm
            exact hnew _ hx (Nat.le_refl _)
          obtain ⟨v, w', ρ', r0, r1, r2, r3⟩ := s.append (ty := ty) h4 hn (s.eval h1) (s.eval h3)
          refine wp_value (v := v) (w' := w') ?_ ⟨_, ρ', rfl, r0, r2, r3⟩
          simp only [execOp, resolve, invoke, builtin, Sem.run_bind, Sem.run_pure, Result.andThen_ok, List.map_toArray, List.map_cons, List.map_nil, r1]
        · cases hd
      · rename_i z1 z2 T T' hta
        obtain ⟨x, y, hca, h1, h3⟩ := evalDs_two hds
        have ea : args = #[x, y] := Array.ext' (by simpa using hca)
        have et : argTypes = #[T, T'] := Array.ext' (by simpa using hta)
        subst ea et
        obtain ⟨v, w', r1, r2, r3⟩ := s.copy (ty := ty) (T' := T') hd (s.eval h1) (s.eval h3)
        refine wp_value (v := v) (w' := w') ?_ ⟨_, ρ, rfl, ?_, r2, r3⟩
        · simp only [execOp, resolve, invoke, builtin, Sem.run_bind, Sem.run_pure, Result.andThen_ok, List.map_toArray, List.map_cons, List.map_nil, r1]
        · exact Ext.refl _ _
      · rename_i k p k' q
        obtain ⟨x, y, hca, h1, h3⟩ := evalDs_two hds
        have ea : args = #[x, y] := Array.ext' (by simpa using hca)
        subst ea
        split at hd
        · rename_i hk
          subst hk
          simp only [Option.some.injEq, Prod.mk.injEq] at hd
          refine quiet (v := .int k (if q < p then q else p)) ?_ (.int _ _) hd.1 hd.2.symm
          simp [execOp, resolve, invoke, builtin, Builtin.min_, Builtin.min2, (s.eval h1).int_inv, (s.eval h3).int_inv]
        · cases hd
      · rename_i k p k' q
        obtain ⟨x, y, hca, h1, h3⟩ := evalDs_two hds
        have ea : args = #[x, y] := Array.ext' (by simpa using hca)
        subst ea
        split at hd
        · rename_i hk
          subst hk
          simp only [Option.some.injEq, Prod.mk.injEq] at hd
          refine quiet (v := .int k (if p < q then q else p)) ?_ (.int _ _) hd.1 hd.2.symm
          simp [execOp, resolve, invoke, builtin, Builtin.max_, Builtin.max2, (s.eval h1).int_inv, (s.eval h3).int_inv]
        · cases hd
      · cases hd
    · rename_i f
      unfold aCallF at hd
      split at hd
      · rename_i F hF
        obtain ⟨ds, h1, h2⟩ := Option.bind_eq_some_iff.1 hd
        have hS := hΓ f F hF
        obtain ⟨e, q⟩ := s.evalDs h1
        have hc := s.call hS h2 hnew (vs := (args.map a.eval)) (by rw [e]; simp) (fun i hi => by
          have := q i hi
          rw [arr_getD']
          simpa using this)
        obtain ⟨fn, hf1, hf2, hf3⟩ := hS.1
        have hrun : (execOp a.eval ⟨dst, .call ⟨.value (.func f), args, argTypes⟩, ty, pos, after, guard⟩).run P w = .ok (.enter f (args.map a.eval)) w := by
          have hf2' : ¬ fn.body = none := by intro e; rw [e] at hf2; cases hf2
          have hf3' : ¬ fn.name = "runtime.NumGoroutine" := by simpa using hf3
          simp [execOp, resolve, Act.eval, Deferred.ofValue, invoke, callFunc, hf1, hf2', hf3']
        unfold Oper.wp
        rw [hrun]
        refine hc.mono ?_
        rintro e' w' ⟨v, ρ2, rfl, g0, g1, g2⟩
        exact ⟨v, ρ2, rfl, g0, g1, g2⟩
      · cases hd
    · cases hd
  all_goals cases hd
end Go.Proofs.Ytdecnnhcbjhfgaa.Am
