/- The plain machine: an operation, in whatever state that agrees on what it looks at. -/
import Derived.Test.YtkclhekkcffpoaaB13
import Derived.Test.YtkclhekkcffpoaaReg
namespace Go.Proofs.Ytkclhekkcffpoaa.Am
set_option linter.unusedSimpArgs false
set_option linter.unusedVariables false
open Go Go.RowKit

variable {P : Program} {w0 : World} {S A : Nat → Prop} {N : Nat} {ρ : Id → Pl} {t : List (Nat × D)} {h h' : HL} {a : Act} {w : World}

theorem aLoad_local {T : TypeId} {d : D} (ha : Agree (grp (allIds d)) h h') : aLoad P h T d = aLoad P h' T d := by
  cases d <;> try rfl
  case ptr b o => simp only [aLoad, ha b (grp_mem (by simp [allIds]))]
  case eptr b i o => simp only [aLoad, ha b (grp_mem (by simp [allIds]))]
theorem aStore_local {T : TypeId} {d e : D} (ha : Agree (grp (allIds d)) h h') : aStore P h T d e = aStore P h' T d e := by
  cases d <;> try rfl
  case ptr b o => simp only [aStore, ha b (grp_mem (by simp [allIds]))]
  case eptr b i o => simp only [aStore, ha b (grp_mem (by simp [allIds]))]
theorem aIndexAddr_local {T : TypeId} {d e : D} (ha : Agree (grp (allIds d)) h h') : aIndexAddr P h T d e = aIndexAddr P h' T d e := by
  unfold aIndexAddr
  rw [elems_local ha]
  cases d <;> try rfl
  case ref b => simp only [ha b (grp_mem (by simp [allIds]))]
theorem aLen_local {T : TypeId} {d : D} (ha : Agree (grp (allIds d)) h h') : aLen P h T d = aLen P h' T d := by
  unfold aLen; rw [elems_local ha]
theorem aConv_local {s T : TypeId} {d : D} (ha : Agree (grp (allIds d)) h h') : aConv P h s T d = aConv P h' s T d := by
  unfold aConv; rw [elems_local ha]
theorem aAppend_local {n : Id} {T : TypeId} {d e : D} (ha : Agree (grp (allIds d)) h h') (he : Agree (grp (allIds e)) h h') : aAppend P h n T d e = aAppend P h' n T d e := by
  unfold aAppend
  rw [elems_local he]
  cases d <;> try rfl
  case ref b => simp only [ha b (grp_mem (by simp [allIds]))]
theorem aCopy_local {T : TypeId} {d e : D} (ha : Agree (grp (allIds d)) h h') (he : Agree (grp (allIds e)) h h') : aCopy P h T d e = aCopy P h' T d e := by
  unfold aCopy
  rw [elems_local he]
  cases P.underlying T with
  | none => rfl
  | some ty =>
    cases ty <;> try rfl
    cases d <;> try rfl
    rename_i b o n
    have hb : look h b = look h' b := ha b (grp_mem (by simp [allIds]))
    dsimp only
    rw [hb]
theorem aSlice_local {q : Bool} {n : Id} {T : TypeId} {d : D} {l r : Option D} (ha : Agree (grp (allIds d)) h h') : aSlice P h q n T d l r = aSlice P h' q n T d l r := by
  unfold aSlice
  rw [elems_local ha]
  cases d <;> try rfl
  case ref b => simp only [ha b (grp_mem (by simp [allIds]))]
  case ptr b o =>
    have e : look h b = look h' b := ha b (grp_mem (by simp [allIds]))
    cases P.underlying T with
    | none => rfl
    | some ty =>
      cases ty <;> try rfl
      dsimp only
      rw [e]


theorem bind_congr_some {α β : Type} {o : Option α} {f g : α → Option β} (h : ∀ x, o = some x → f x = g x) : o.bind f = o.bind g := by
  cases o with
  | none => rfl
  | some x => exact h x rfl
theorem evalDs_congr {t' : List (Nat × D)} {xs : List Operand} (ht : ∀ x ∈ xs, evalD t x = evalD t' x) : evalDs t xs = evalDs t' xs := mapM_congr' ht
theorem evalPs_congr {t' : List (Nat × D)} {xs : List (Nat × Operand)} (ht : ∀ x ∈ xs, evalD t x.2 = evalD t' x.2) : evalPs t xs = evalPs t' xs := mapM_congr' fun x hx => by rw [ht x hx]
theorem evalO_congr {t' : List (Nat × D)} {x : Option Operand} (ht : ∀ y ∈ x, evalD t y = evalD t' y) : evalO t x = evalO t' x := by
  cases x with
  | none => rfl
  | some x => simp only [evalO, ht x rfl]

/-- the groups of the blocks that an operand may lead to -/
def seeO (t : List (Nat × D)) (h : HL) (x : Operand) : List Nat := match evalD t x with | some d => grp (allIds d) ++ grp (allIds (fwd h d)) | none => []
def seeOs (t : List (Nat × D)) (h : HL) (xs : List Operand) : List Nat := xs.flatMap (seeO t h)
theorem evalF_local {x : Operand} {fs : List Nat} (hs : ∀ k ∈ seeO t h x, k ∈ fs) (ha : Agree fs h h') : evalF t h x = evalF t h' x ∧ ∀ d, evalF t h x = some d → Agree (grp (allIds d)) h h' := by
  unfold seeO at hs
  unfold evalF
  cases hd : evalD t x with
  | none => exact ⟨rfl, fun d h => by cases h⟩
  | some d =>
    rw [hd] at hs
    simp only [Option.map_some, Option.some.injEq]
    refine ⟨fwd_local fun b hb => ha b (hs _ (List.mem_append_left _ hb)), ?_⟩
    rintro _ rfl
    exact fun b hb => ha b (hs _ (List.mem_append_right _ hb))
theorem evalFs_local {xs : List Operand} {fs : List Nat} (hs : ∀ x ∈ xs, ∀ k ∈ seeO t h x, k ∈ fs) (ha : Agree fs h h') : evalFs t h xs = evalFs t h' xs ∧ ∀ ds, evalFs t h xs = some ds → ∀ d ∈ ds, Agree (grp (allIds d)) h h' := by
  refine ⟨mapM_congr' fun x hx => (evalF_local (hs x hx) ha).1, fun ds hd d hm => ?_⟩
  obtain ⟨e, q⟩ := mapM_len hd
  obtain ⟨i, hi, rfl⟩ := List.getElem_of_mem hm
  have hi' : i < xs.length := by omega
  obtain ⟨y, h1, h2⟩ := q i hi' _ (List.getElem?_eq_getElem hi')
  rw [List.getElem?_eq_getElem hi] at h2
  obtain rfl := Option.some.inj h2
  exact (evalF_local (hs _ (List.getElem_mem hi')) ha).2 _ h1
theorem evalFPs_local {xs : List (Nat × Operand)} {fs : List Nat} (hs : ∀ x ∈ xs, ∀ k ∈ seeO t h x.2, k ∈ fs) (ha : Agree fs h h') : evalFPs t h xs = evalFPs t h' xs ∧ ∀ ds, evalFPs t h xs = some ds → ∀ d ∈ ds, Agree (grp (allIds d.2)) h h' := by
  refine ⟨mapM_congr' fun x hx => by rw [(evalF_local (hs x hx) ha).1], fun ds hd d hm => ?_⟩
  obtain ⟨e, q⟩ := mapM_len hd
  obtain ⟨i, hi, rfl⟩ := List.getElem_of_mem hm
  have hi' : i < xs.length := by omega
  obtain ⟨y, h1, h2⟩ := q i hi' _ (List.getElem?_eq_getElem hi')
  rw [List.getElem?_eq_getElem hi] at h2
  obtain rfl := Option.some.inj h2
  obtain ⟨d, hd, he⟩ := Option.map_eq_some_iff.1 h1
  rw [← he]
  exact (evalF_local (hs _ (List.getElem_mem hi')) ha).2 _ hd

set_option maxHeartbeats 1000000 in
theorem aop_t {t' : List (Nat × D)} {m : Bool} {op : Op} {n : Nat} (ht : ∀ x ∈ op.operands, evalD t x = evalD t' x) : aop P m op t h n = aop P m op t' h n := by
  have hf : ∀ x ∈ op.operands, evalF t h x = evalF t' h x := fun x hx => by unfold evalF; rw [ht x hx]
  cases op <;> simp only [Op.operands] at ht hf <;> try rfl
  case move x => simp only [aop, ht x (by simp)]
  case assign x => simp only [aop, ht x (by simp)]
  case pick c x y => simp only [aop, ht c (by simp), ht x (by simp), ht y (by simp)]
  case box T x => simp only [aop, ht x (by simp)]
  case build T ps => simp only [aop]; rw [evalPs_congr fun x hx => ht x.2 (by simp; exact ⟨x.1, by simpa using hx⟩)]
  case buildSlice T len ps =>
    have e : evalFPs t h ps.toList = evalFPs t' h ps.toList := mapM_congr' fun x hx => by rw [hf x.2 (by simp; exact ⟨x.1, by simpa using hx⟩)]
    simp only [aop, e]
  case load T x => simp only [aop, hf x (by simp)]
  case store T x y => simp only [aop, hf x (by simp), hf y (by simp)]
  case nilCheck x => simp only [aop, ht x (by simp)]
  case binOp o T x y yT => simp only [aop, hf x (by simp), hf y (by simp)]
  case unOp o T x => simp only [aop, ht x (by simp)]
  case convert s T x => simp only [aop, hf x (by simp)]
  case makeInterface T x => simp only [aop, ht x (by simp)]
  case makeFunc fn first captured =>
    cases fn <;> try rfl
    simp only [aop]
    split
    · rw [evalDs_congr fun x hx => ht x (by simp; exact .inr (by simpa using hx))]
    · rfl
  case typeAssert x T T' ok => simp only [aop, ht x (by simp)]
  case makeSlice T x y => simp only [aop, ht x (by simp), ht y (by simp)]
  case slice T x lo hi mx =>
    cases mx with
    | some m => rfl
    | none =>
      have e1 : evalO t lo = evalO t' lo := evalO_congr fun y hy => ht y (by simp only [Option.mem_def] at hy; subst hy; simp)
      have e2 : evalO t hi = evalO t' hi := evalO_congr fun y hy => ht y (by simp only [Option.mem_def] at hy; subst hy; simp)
      simp only [aop, hf x (by simp), e1, e2]
  case fieldAddr T x f => simp only [aop, ht x (by simp)]
  case field T x f => simp only [aop, ht x (by simp)]
  case indexAddr T x y => simp only [aop, hf x (by simp), ht y (by simp)]
  case index T x y => simp only [aop, ht x (by simp), ht y (by simp)]
  case extract x i => simp only [aop, ht x (by simp)]
  case call c =>
    obtain ⟨callee, args, argTypes⟩ := c
    cases callee with
    | builtin b =>
      have e : evalFs t h args.toList = evalFs t' h args.toList := mapM_congr' fun x hx => hf x (by simp only [Call.operands, Array.mem_append]; exact .inr (Array.mem_toList_iff.1 hx))
      simp only [aop, e]
    | value f => rfl
    | invoke r m => rfl

/-- whether an operation looks at memory -/
def looks : Op → Bool
  | .load .. | .store .. | .buildSlice .. | .convert .. | .slice .. | .indexAddr .. | .binOp .. | .call .. => true
  | _ => false
def see (t : List (Nat × D)) (h : HL) (op : Op) : List Nat := bif looks op then seeOs t h op.operands.toList else []

set_option maxHeartbeats 1000000 in
theorem aop_h {m : Bool} {op : Op} {n : Nat} {fs : List Nat} (hs : ∀ k ∈ see t h op, k ∈ fs) (ha : Agree fs h h') : aop P m op t h n = aop P m op t h' n := by
  have hx : looks op = true → ∀ x ∈ op.operands, evalF t h x = evalF t h' x ∧ ∀ d, evalF t h x = some d → Agree (grp (allIds d)) h h' := by
    intro hl x hx
    refine evalF_local (fs := fs) (fun k hk => hs k ?_) ha
    unfold see
    rw [hl]
    exact List.mem_flatMap.2 ⟨x, Array.mem_toList_iff.2 hx, hk⟩
  have sub : looks op = true → ∀ x ∈ op.operands, ∀ k ∈ seeO t h x, k ∈ fs := by
    intro hl x hx k hk
    refine hs k ?_
    unfold see
    rw [hl]
    exact List.mem_flatMap.2 ⟨x, Array.mem_toList_iff.2 hx, hk⟩
  have lk1 : ∀ {d : D}, Agree (grp (allIds d)) h h' → ∀ b ∈ ids1 d, look h b = look h' b := fun hd b hb => hd b (grp_mem (ids1_sub _ b hb))
  cases op <;> try rfl
  case makeFunc fn first captured => cases fn <;> rfl
  case buildSlice T len ps =>
    simp only [aop]
    obtain ⟨e1, e2⟩ := evalFPs_local (h' := h') (xs := ps.toList) (fs := fs) (fun x hx => sub rfl x.2 (by simp [Op.operands]; exact ⟨x.1, by simpa using hx⟩)) ha
    rw [← e1]
  case load T x =>
    simp only [aop]
    obtain ⟨e1, e2⟩ := hx rfl x (by simp [Op.operands])
    rw [← e1]
    refine bind_congr_some fun d hd => ?_
    rw [aLoad_local (e2 d hd)]
  case store T x y =>
    simp only [aop]
    obtain ⟨e1, e2⟩ := hx rfl x (by simp [Op.operands])
    obtain ⟨e3, e4⟩ := hx rfl y (by simp [Op.operands])
    rw [← e1, ← e3]
    refine bind_congr_some fun d hd => ?_
    refine bind_congr_some fun e he => ?_
    rw [aStore_local (e2 d hd)]
  case binOp o T x y yT =>
    simp only [aop]
    rw [← (hx rfl x (by simp [Op.operands])).1, ← (hx rfl y (by simp [Op.operands])).1]
  case convert s T x =>
    simp only [aop]
    obtain ⟨e1, e2⟩ := hx rfl x (by simp [Op.operands])
    rw [← e1]
    refine bind_congr_some fun d hd => ?_
    rw [aConv_local (e2 d hd)]
  case slice T x lo hi mx =>
    cases mx with
    | some m => rfl
    | none =>
      simp only [aop]
      obtain ⟨e1, e2⟩ := hx rfl x (by simp [Op.operands])
      rw [← e1]
      refine bind_congr_some fun d hd => ?_
      refine bind_congr_some fun l _ => ?_
      refine bind_congr_some fun r _ => ?_
      rw [aSlice_local (e2 d hd)]
  case indexAddr T x y =>
    simp only [aop]
    obtain ⟨e1, e2⟩ := hx rfl x (by simp [Op.operands])
    rw [← e1]
    refine bind_congr_some fun d hd => ?_
    refine bind_congr_some fun e he => ?_
    rw [aIndexAddr_local (e2 d hd)]
  case call c =>
    obtain ⟨callee, args, argTypes⟩ := c
    cases callee with
    | builtin b =>
      simp only [aop]
      obtain ⟨e1, e2⟩ := evalFs_local (h' := h') (xs := args.toList) (fs := fs) (fun x hx => sub rfl x (by simp only [Op.operands, Call.operands, Array.mem_append]; exact .inr (Array.mem_toList_iff.1 hx))) ha
      rw [← e1]
      refine bind_congr_some fun ds hds => ?_
      have e3 := e2 ds hds
      unfold aBuiltin
      split
      · rw [aLen_local (e3 _ (by simp))]
      · rw [aAppend_local (e3 _ (by simp)) (e3 _ (by simp))]
      · rw [aCopy_local (e3 _ (by simp)) (e3 _ (by simp))]
      · rfl
      · rfl
      · rfl
    | value f => rfl
    | invoke r m => rfl

/-- What an operation does, in whatever state agrees on what it looks at; n: the first group that is free; f: what it looks at. -/
def OpS (P : Program) (N : Nat) (o : Oper) (t : List (Nat × D)) (h : HL) (d : D) (u : HL) (f : List Nat) : Prop :=
  ∀ t' h', (∀ x ∈ o.op.operands, evalD t x = evalD t' x) → Agree f h h' → ∀ w0 S A ρ a w, Sim P w0 S A N ρ t' h' a w → o.wp P a w (Done P w0 S A N ρ t' h' (puts u h') a o.dst d) (fun _ _ _ => False)

theorem opS_aop {m : Bool} {o : Oper} {n : Nat} {d : D} {u : HL} {f : List Nat} (hn : look h (n, 0) = none) (hd : aop P m o.op t h n = some (d, u)) (hf : ∀ k ∈ see t h o.op, k ∈ f) (hnf : n ∈ f) : OpS P N o t h d u f := by
  intro t' h' ht ha w0 S A ρ a w s
  refine s.op (m := m) (n := n) ?_ (by rw [← ha (n, 0) hnf]; exact hn)
  rw [← aop_h (t := t') (h := h) (fs := f) ?_ ha, ← aop_t ht]
  · exact hd
  · have : see t' h o.op = see t h o.op := by
      unfold see
      cases hl : looks o.op with
      | false => rfl
      | true =>
        simp only [cond_true, seeOs]
        have hx : ∀ x ∈ o.op.operands.toList, seeO t' h x = seeO t h x := fun x hx => by unfold seeO; rw [ht x (Array.mem_toList_iff.1 hx)]
        generalize o.op.operands.toList = l at hx
        induction l with
        | nil => rfl
        | cons x l ih => rw [List.flatMap_cons, List.flatMap_cons, hx x (List.mem_cons_self ..), ih fun y hy => hx y (List.mem_cons_of_mem _ hy)]
    rw [this]
    exact hf
/-- .. with some blocks frozen ahead of it -/
theorem opS_frz {o : Oper} {bs : List Id} {d : D} {u1 : HL} {f : List Nat} (hf : ∀ k ∈ grp bs, k ∈ f) (hd : OpS P N o t (puts (frz h bs) h) d u1 f) : OpS P N o t h d (frz h bs ++ u1) f := by
  intro t' h' ht ha w0 S A ρ a w s
  have e : frz h bs = frz h' bs := frz_local fun b hb => ha b (hf _ (grp_mem hb))
  rw [puts_append, e]
  have hag : Agree f (puts (frz h bs) h) (puts (frz h' bs) h') := by rw [← e]; exact ha.puts _
  refine Reg.wp_exit_mono (K := Done P w0 S A N ρ t' (puts (frz h' bs) h') (puts u1 (puts (frz h' bs) h')) a o.dst d) ?_ (hd t' (puts (frz h' bs) h') ht hag w0 S A ρ a w (s.frz_ok bs).1)
  rintro a' w' ⟨v, ρ2, rfl, g1, g2, g3⟩
  exact ⟨v, ρ2, rfl, fun b hb => g1 b (live_frz hb), g2, g3⟩
/-- .. with other names given ahead of it -/
theorem opS_moves {o : Oper} {ms : List (Id × Id)} {d : D} {u0 u1 : HL} {f : List Nat} (hm : movesU h ms = some u0) (hf : ∀ k ∈ grp (ms.flatMap fun m => [m.1, m.2]), k ∈ f) (hd : OpS P N o t (puts u0 h) d u1 f) : OpS P N o t h d (u0 ++ u1) f := by
  intro t' h' ht ha w0 S A ρ a w s
  have hm' : movesU h' ms = some u0 := by rw [← movesU_local ms (ha.sub hf)]; exact hm
  obtain ⟨ρ', e1, e2, s1⟩ := s.moves ms u0 hm'
  rw [puts_append]
  refine Reg.wp_exit_mono (K := Done P w0 S A N ρ' t' (puts u0 h') (puts u1 (puts u0 h')) a o.dst d) ?_ (hd t' (puts u0 h') ht (ha.puts u0) w0 S A ρ' a w s1)
  rintro a' w' ⟨v, ρ2, rfl, g1, g2, g3⟩
  exact ⟨v, ρ2, rfl, fun b hb => (g1 b (e2 b hb)).trans (e1 b hb), g2, g3⟩

theorem purD_local : ∀ (k : Nat) {d : D}, (∀ b ∈ idsD h k d, look h b = look h' b) → purD h k d = purD h' k d ∧ idsD h k d = idsD h' k d
  | 0, d, _ => ⟨rfl, rfl⟩
  | k + 1, d, hb => by
    cases d <;> try exact ⟨rfl, rfl⟩
    case ref b =>
      have hb0 := hb b (by unfold idsD; exact List.mem_cons_self ..)
      unfold purD idsD
      simp only [← hb0]
      cases hl : look h b with
      | none => exact ⟨rfl, rfl⟩
      | some x =>
        cases x <;> try exact ⟨rfl, rfl⟩
        rename_i E l
        have hb1 : ∀ e ∈ l, ∀ d ∈ e.cells, ∀ b ∈ idsD h k d, look h b = look h' b := fun e he d hd b' hb' => hb b' (by
          unfold idsD
          simp only [hl]
          exact List.mem_cons_of_mem _ (List.mem_flatMap.2 ⟨e, he, List.mem_flatMap.2 ⟨d, hd, hb'⟩⟩))
        constructor
        · simp only
          rw [mapM_congr' fun e he => ?_]
          unfold purE
          split
          · rename_i cs
            have := mapM_congr' (l := cs) (f := purD h k) (g := purD h' k) fun d hd => (purD_local k (hb1 _ he d hd)).1
            rw [this]
          · rename_i hna
            refine (purD_local k (hb1 _ he _ ?_)).1
            rw [cells_single fun cs hcs => hna cs hcs]
            exact List.mem_singleton.2 rfl
        · simp only
          congr 1
          have fc : ∀ {α : Type} {l : List α} {f g : α → List Id}, (∀ x ∈ l, f x = g x) → l.flatMap f = l.flatMap g := by
            intro α l f g hfg
            induction l with
            | nil => rfl
            | cons x l ih => rw [List.flatMap_cons, List.flatMap_cons, hfg x (List.mem_cons_self ..), ih fun y hy => hfg y (List.mem_cons_of_mem _ hy)]
          exact fc fun e he => fc fun d hd => (purD_local k (hb1 e he d hd)).2
    case ptr b o =>
      cases o with
      | succ o => exact ⟨rfl, rfl⟩
      | zero =>
        have hb0 := hb b (by unfold idsD; exact List.mem_cons_self ..)
        unfold purD idsD
        simp only [← hb0]
        cases hl : look h b with
        | none => exact ⟨rfl, rfl⟩
        | some x =>
          cases x <;> try exact ⟨rfl, rfl⟩
          rename_i T cs
          have hb1 : ∀ d ∈ cs, ∀ b ∈ idsD h k d, look h b = look h' b := fun d hd b' hb' => hb b' (by
            unfold idsD
            simp only [hl]
            exact List.mem_cons_of_mem _ (List.mem_flatMap.2 ⟨d, hd, hb'⟩))
          constructor
          · simp only
            rw [mapM_congr' fun d hd => (purD_local k (hb1 d hd)).1]
          · simp only
            congr 1
            have fc : ∀ {α : Type} {l : List α} {f g : α → List Id}, (∀ x ∈ l, f x = g x) → l.flatMap f = l.flatMap g := by
              intro α l f g hfg
              induction l with
              | nil => rfl
              | cons x l ih => rw [List.flatMap_cons, List.flatMap_cons, hfg x (List.mem_cons_self ..), ih fun y hy => hfg y (List.mem_cons_of_mem _ hy)]
            exact fc fun d hd => (purD_local k (hb1 d hd)).2
theorem VLive.local {g : Id → Id} {hin : HL} {F : List Nat} {b : Id} (hF : ∀ b : Id, b.1 ∈ F → look h b = look h' b) (hv : VLive h g hin F b) : VLive h' g hin F b := by
  rcases hv with hv | ⟨h1, h2⟩
  · exact .inl hv
  · refine .inr ⟨h1, fun hl => h2 ?_⟩
    unfold Live at hl ⊢
    rw [hF _ h1]; exact hl
theorem View.local {g : Id → Id} {hin : HL} {W : List Id} {F : List Nat} {d d' : D} (hW : ∀ b ∈ W, look h b = look h' b) (hF : ∀ b : Id, b.1 ∈ F → look h b = look h' b) (hv : View h g hin W F d d') : View h' g hin W F d d' := by
  induction hv with
  | ref b hb => exact .ref b (hb.local hF)
  | ptr b o hb => exact .ptr b o (hb.local hF)
  | eptr b i o hb => exact .eptr b i o (hb.local hF)
  | vref b o n hb => exact .vref b o n (hb.local hF)
  | pure k d d' hd hw =>
    obtain ⟨e1, e2⟩ := purD_local k fun b hb => hW b (hw b hb)
    exact .pure k d d' (by rw [← e1]; exact hd) (fun b hb => hw b (by rw [e2]; exact hb))
  | nils => exact .nils
  | agg cs cs' hl hc ih => exact .agg cs cs' hl ih
  | clo f cs cs' hl hc ih => exact .clo f cs cs' hl ih
  | ifc T d d' hd ih => exact .ifc T d d' ih
  | junk => exact .junk
theorem ViewB.local {g : Id → Id} {hin : HL} {W : List Id} {F : List Nat} {x x' : Blk} (hW : ∀ b ∈ W, look h b = look h' b) (hF : ∀ b : Id, b.1 ∈ F → look h b = look h' b) (hv : ViewB h g hin W F x x') : ViewB h' g hin W F x x' := by
  cases hv with
  | var T cs cs' hl hc => exact .var T cs cs' hl fun i hi => (hc i hi).local hW hF
  | row E l l' hl hc => exact .row E l l' hl fun i hi => (hc i hi).local hW hF

/-- a call of the function f, by its name or by a value -/
def calls (t : List (Nat × D)) (h : HL) (o : Oper) (f : FuncId) (ds : List D) : Prop :=
  ∃ args Ts, (o.op = .call ⟨.value (.func f), args, Ts⟩ ∧ evalFs t h args.toList = some ds) ∨
    ∃ k cs ds0, o.op = .call ⟨.value (.tmp k), args, Ts⟩ ∧ evalF t h (.tmp k) = some (.clo f cs) ∧ evalFs t h args.toList = some ds0 ∧ ds = ds0 ++ cs

theorem opS_call {o : Oper} {f : FuncId} {n : Nat} {ds : List D} {d : D} {u : HL} {fs : List Nat} (hn : ∀ b, n ≤ b.1 → look h b = none) (hc : calls t h o f ds) (c : CallOK P f h n ds d u fs) (hf : ∀ k ∈ seeOs t h o.op.operands.toList, k ∈ fs)
    (hfn : ∀ b, Live c.hout b → (c.g b).1 ∈ fs) : OpS P N o t h d u fs := by
  intro t' h' ht ha w0 S A ρ a w s
  have hW : ∀ b ∈ c.W, look h b = look h' b := fun b hb => ha b (c.foot.2.1 b hb)
  have hF : ∀ b : Id, b.1 ∈ c.F → look h b = look h' b := fun b hb => ha b (c.foot.2.2 _ hb)
  have c' : CallOK P f h' n ds d u fs := by
    refine ⟨c.g, c.W, c.F, c.ds', c.hin, c.r, c.hout, c.con, c.len, fun i hi => (c.args i hi).local hW hF, fun b x' hx => ?_, c.keys, c.inj, c.sub, fun b hb hb' => ?_, c.apart, c.foot, c.res, ?_⟩
    · obtain ⟨x, h1, h2⟩ := c.blks b x' hx
      exact ⟨x, by rw [← ha _ (hfn b (c.sub b (by simp [Live, hx])))]; exact h1, h2.local hW hF⟩
    · rw [← ha _ (hfn b hb)]; exact c.new b hb hb'
    · rcases c.upd with h1 | ⟨h1, h2⟩
      · exact .inl h1
      · refine .inr ⟨fun b hb x hx hmu => ?_, h2.trans (by rw [frz_local hW])⟩
        rw [← frzB_local (hW b hb)]
        exact h1 b hb x (by rw [hW b hb]; exact hx) hmu
  have ev : ∀ x ∈ o.op.operands, evalF t' h' x = evalF t h x := by
    intro x hx
    have e1 : evalF t' h' x = evalF t h' x := by unfold evalF; rw [ht x hx]
    rw [e1]
    exact (evalF_local (fun k hk => hf k (List.mem_flatMap.2 ⟨x, Array.mem_toList_iff.2 hx, hk⟩)) ha).1.symm
  obtain ⟨fn, hf1, hf2, hf3⟩ := c.con.1
  have hf2' : ¬ fn.body = none := by intro e; rw [e] at hf2; cases hf2
  have hf3' : ¬ fn.name = "runtime.NumGoroutine" := by simpa using hf3
  obtain ⟨args, Ts, hcase⟩ := hc
  obtain ⟨dst, op, ty, pos, after, guard⟩ := o
  simp only at hcase ev ⊢
  rcases hcase with ⟨rfl, hargs⟩ | ⟨k, cs, ds0, rfl, hclo, hargs, rfl⟩
  · have hargs' : evalFs t' h' args.toList = some ds := by
      rw [← hargs]
      exact mapM_congr' fun x hx => ev x (by simp only [Op.operands, Call.operands, Array.mem_append]; exact .inr (Array.mem_toList_iff.1 hx))
    obtain ⟨e, q⟩ := s.evalFs hargs'
    have hcl := s.call c' (vs := args.map a.eval) (by rw [e]; simp) (fun i hi => by
      have := q i hi
      rw [arr_getD']
      simpa using this)
    have hrun : (execOp a.eval ⟨dst, .call ⟨.value (.func f), args, Ts⟩, ty, pos, after, guard⟩).run P w = .ok (.enter f (args.map a.eval)) w := by
      simp [execOp, resolve, Act.eval, Deferred.ofValue, invoke, callFunc, hf1, hf2', hf3']
    unfold Oper.wp
    rw [hrun]
    refine hcl.mono ?_
    rintro e' w' ⟨v, ρ2, rfl, g0, g1, g2⟩
    exact ⟨v, ρ2, rfl, g0, g1, g2⟩
  · have hargs' : evalFs t' h' args.toList = some ds0 := by
      rw [← hargs]
      exact mapM_congr' fun x hx => ev x (by simp only [Op.operands, Call.operands, Array.mem_append]; exact .inr (Array.mem_toList_iff.1 hx))
    have hclo' : evalF t' h' (.tmp k) = some (.clo f cs) := by rw [ev (.tmp k) (by simp [Op.operands, Call.operands])]; exact hclo
    obtain ⟨vs, hv1, hv2, hv3⟩ := (s.evalF hclo').clo_inv
    obtain ⟨e, q⟩ := s.evalFs hargs'
    have hl0 : ds0.length = (args.map a.eval).size := by rw [e]; simp
    have hcl := s.call c' (vs := args.map a.eval ++ vs) (by rw [List.length_append, Array.size_append]; omega) (fun i hi => by
      by_cases hlt : i < ds0.length
      · have := q i hlt
        have h1 : i < (args.map a.eval).size := by omega
        have h2 : i < args.size := by simpa using h1
        simpa [List.getD_eq_getElem?_getD, List.getElem?_append_left hlt, Array.getD_eq_getD_getElem?, Array.getElem?_append_left h1, h2] using this
      · have hi2 : i - ds0.length < cs.length := by rw [List.length_append] at hi; omega
        have := hv3 (i - ds0.length) hi2
        have h1 : ¬ i < (args.map a.eval).size := by omega
        have e1 : (ds0 ++ cs).getD i .undef = cs.getD (i - ds0.length) .undef := by simp only [List.getD_eq_getElem?_getD, List.getElem?_append_right (Nat.le_of_not_lt hlt)]
        have e2 : (args.map a.eval ++ vs).getD i undef = vs.getD (i - ds0.length) undef := by
          simp only [Array.getD_eq_getD_getElem?]
          rw [Array.getElem?_append_right (Nat.le_of_not_lt h1), hl0]
        rw [e1, e2]
        exact this)
    have hrun : (execOp a.eval ⟨dst, .call ⟨.value (.tmp k), args, Ts⟩, ty, pos, after, guard⟩).run P w = .ok (.enter f (args.map a.eval ++ vs)) w := by
      simp [execOp, resolve, hv1, Deferred.ofValue, invoke, callFunc, hf1, hf2', hf3']
    unfold Oper.wp
    rw [hrun]
    refine hcl.mono ?_
    rintro e' w' ⟨v, ρ2, rfl, g0, g1, g2⟩
    exact ⟨v, ρ2, rfl, g0, g1, g2⟩
end Go.Proofs.Ytkclhekkcffpoaa.Am
