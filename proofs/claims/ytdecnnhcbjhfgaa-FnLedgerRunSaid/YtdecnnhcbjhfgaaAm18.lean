/- The plain machine: what is no more wanted is forgotten; a function's contract from its code. -/
import Derived.Test.YtdecnnhcbjhfgaaAm17
namespace Go.Proofs.Ytdecnnhcbjhfgaa.Am
set_option linter.unusedSimpArgs false
set_option linter.unusedVariables false
open Go Go.RowKit

variable {P : Program} {w0 : World} {S A : Nat → Prop} {N K : Nat} {ρ : Nat → Pl} {t : List (Nat × D)} {h : List (Nat × Blk)} {a : Act} {w : World}

mutual
def allIds : D → List Nat
  | .ref b => [b]
  | .ptr b _ => [b]
  | .eptr b _ _ => [b]
  | .vref b _ _ => [b]
  | .agg cs => allIdsL cs
  | .tup cs => allIdsL cs
  | _ => []
def allIdsL : List D → List Nat
  | [] => []
  | d :: l => allIds d ++ allIdsL l
end
theorem allIdsL_mem {l : List D} {d : D} (hd : d ∈ l) : ∀ b ∈ allIds d, b ∈ allIdsL l := by
  induction l with
  | nil => cases hd
  | cons x l ih =>
    intro b hb
    simp only [allIdsL, List.mem_append]
    rcases List.mem_cons.1 hd with rfl | hd
    · exact .inl hb
    · exact .inr (ih hd b hb)
theorem getD_mem {l : List D} {i : Nat} (hi : i < l.length) : l.getD i .undef ∈ l := by
  rw [List.getD_eq_getElem?_getD, List.getElem?_eq_getElem hi]; exact List.getElem_mem hi

theorem C.restrict {L ok M : Nat → Prop} {d : D} {v : Value} (hc : C ρ L ok w d v) (hm : ∀ b ∈ allIds d, M b) : C ρ (fun b => L b ∧ M b) ok w d v := by
  induction hc with
  | pure h => exact .pure h
  | ref b hb => exact .ref b ⟨hb, hm b (by simp [allIds])⟩
  | ptr b o hb => exact .ptr b o ⟨hb, hm b (by simp [allIds])⟩
  | eptr b i o hb => exact .eptr b i o ⟨hb, hm b (by simp [allIds])⟩
  | vref b o n hb hn => exact .vref b o n ⟨hb, hm b (by simp [allIds])⟩ hn
  | iptr e o b off f hok hc hr => exact .iptr e o b off f hok hc hr
  | agg cs vs hl h ih => exact .agg cs vs hl fun i hi => ih i hi fun b hb => hm b (by simp only [allIds]; exact allIdsL_mem (getD_mem hi) b hb)
  | tup cs vs hl h ih => exact .tup cs vs hl fun i hi => ih i hi fun b hb => hm b (by simp only [allIds]; exact allIdsL_mem (getD_mem hi) b hb)
  | any v => exact .any v

/-- a row that is no more written is a list -/
def nrm0 (h : List (Nat × Blk)) (b : Nat) : D := match look h b with | some (.froz l) => .lst l | _ => .ref b
mutual
def nrm (h : List (Nat × Blk)) : D → D
  | .ref b => nrm0 h b
  | .agg cs => .agg (nrmL h cs)
  | .tup cs => .tup (nrmL h cs)
  | d => d
def nrmL (h : List (Nat × Blk)) : List D → List D
  | [] => []
  | d :: l => nrm h d :: nrmL h l
end
theorem nrmL_eq : ∀ l, nrmL h l = l.map (nrm h)
  | [] => by simp [nrmL]
  | d :: l => by simp [nrmL, nrmL_eq l]
theorem Rep.nrm {ok : Nat → Prop} {d : D} {v : Value} (h : List (Nat × Blk)) (hr : Rep ok w d v) : Rep ok w (Am.nrm h d) v := by
  induction hr with
  | int k n => simp only [Am.nrm]; exact .int k n
  | bool b => simp only [Am.nrm]; exact .bool b
  | str s => simp only [Am.nrm]; exact .str s
  | none a cap ha hcap => simp only [Am.nrm]; exact .none a cap ha hcap
  | lst l n b off cap f hn hcap hmax hok hsz hpos hc hr ih => simp only [Am.nrm]; exact .lst l n b off cap f hn hcap hmax hok hsz hpos hc hr
  | agg cs vs hl h ih =>
    simp only [Am.nrm, nrmL_eq]
    refine .agg _ _ (by simpa using hl) fun i hi => ?_
    have hi' : i < cs.length := by simpa using hi
    have := ih i hi'
    simpa [List.getD_eq_getElem?_getD, hi'] using this
  | tup cs vs hl h ih =>
    simp only [Am.nrm, nrmL_eq]
    refine .tup _ _ (by simpa using hl) fun i hi => ?_
    have hi' : i < cs.length := by simpa using hi
    have := ih i hi'
    simpa [List.getD_eq_getElem?_getD, hi'] using this
  | box cs b off f hok hpos hc hr ih => simp only [Am.nrm]; exact .box cs b off f hok hpos hc hr
  | nilp => simp only [Am.nrm]; exact .nilp
  | nils => simp only [Am.nrm]; exact .nils
theorem Sim.nrm (s : Sim P w0 S A N ρ t h a w) {d : D} {v : Value} (hc : C ρ (Live h) (okOf A ρ h w) w d v) : C ρ (Live h) (okOf A ρ h w) w (Am.nrm h d) v := by
  induction hc with
  | pure hr => exact .pure (hr.nrm h)
  | ref b hb =>
    simp only [Am.nrm, nrm0]
    split
    · rename_i l hl
      exact .pure (s.blk b _ hl)
    · exact .ref b hb
  | ptr b o hb => simp only [Am.nrm]; exact .ptr b o hb
  | eptr b i o hb => simp only [Am.nrm]; exact .eptr b i o hb
  | vref b o n hb hn => simp only [Am.nrm]; exact .vref b o n hb hn
  | iptr e o b off f hok hc hr => simp only [Am.nrm]; exact .iptr e o b off f hok hc hr
  | agg cs vs hl h ih =>
    simp only [Am.nrm, nrmL_eq]
    refine .agg _ _ (by simpa using hl) fun i hi => ?_
    have hi' : i < cs.length := by simpa using hi
    have := ih i hi'
    simpa [List.getD_eq_getElem?_getD, hi'] using this
  | tup cs vs hl h ih =>
    simp only [Am.nrm, nrmL_eq]
    refine .tup _ _ (by simpa using hl) fun i hi => ?_
    have hi' : i < cs.length := by simpa using hi
    have := ih i hi'
    simpa [List.getD_eq_getElem?_getD, hi'] using this
  | any v => simp only [Am.nrm]; exact .any v

/-- a block, its values with the lists that they are -/
def nrmB (h : List (Nat × Blk)) : Blk → Blk
  | .var T cs => .var T (cs.map (nrm h))
  | x => x
def idsOfB : Blk → List Nat
  | .var _ cs => cs.flatMap allIds
  | _ => []
def dedup (l : List Nat) : List Nat := l.foldl (fun acc b => if acc.contains b then acc else acc ++ [b]) []
/-- the blocks that are kept, in their new order, are closed -/
def closedB (K : Nat) (h : List (Nat × Blk)) (bs : List Nat) : Bool :=
  decide (bs.Nodup) && decide (bs.take K = List.range K) && bs.all fun b => match look h b with
    | some x => (idsOfB (nrmB h x)).all fun c => bs.contains c
    | none => false
def keep (h : List (Nat × Blk)) (bs : List Nat) : List (Nat × Blk) := idx (bs.map fun b => match look h b with | some x => renB (fun c => bs.idxOf c) (nrmB h x) | none => .gone)

theorem look_keep {bs : List Nat} {i : Nat} {b : Nat} (hi : bs[i]? = some b) {x : Blk} (hx : look h b = some x) : look (keep h bs) i = some (renB (fun c => bs.idxOf c) (nrmB h x)) := by
  rw [keep, look_idx, List.getElem?_map, hi]
  simp [hx]
theorem keep_inv {bs : List Nat} (hcl : ∀ b ∈ bs, ∃ x, look h b = some x) {i : Nat} {y : Blk} (hy : look (keep h bs) i = some y) : ∃ b x, bs[i]? = some b ∧ look h b = some x ∧ y = renB (fun c => bs.idxOf c) (nrmB h x) := by
  rw [keep, look_idx, List.getElem?_map] at hy
  obtain ⟨b, hb, he⟩ := Option.map_eq_some_iff.1 hy
  obtain ⟨x, hx⟩ := hcl b (List.mem_of_getElem? hb)
  rw [hx] at he
  exact ⟨b, x, hb, hx, he.symm⟩
theorem nrmB_mutable (x : Blk) : (nrmB h x).mutable = x.mutable := by cases x <;> rfl
theorem nrmB_live (x : Blk) : (nrmB h x).live = x.live := by cases x <;> rfl

/-- what is kept -/
theorem Sim.keep (s : Sim P w0 S A N ρ t h a w) {bs : List Nat} (hcl : closedB K h bs = true) :
    ∃ ρ', (∀ i b, bs[i]? = some b → ρ' i = ρ b) ∧ (∀ N' a', a'.defers = [] → a'.tmps.size = N' → Sim P w0 S A N' ρ' [] (Am.keep h bs) a' w) ∧
      ∀ d v, (∀ b ∈ allIds (Am.nrm h d), b ∈ bs) → C ρ (Live h) (okOf A ρ h w) w d v → C ρ' (Live (Am.keep h bs)) (okOf A ρ' (Am.keep h bs) w) w (renD (fun c => bs.idxOf c) (Am.nrm h d)) v := by
  unfold closedB at hcl
  simp only [Bool.and_eq_true, decide_eq_true_eq, List.all_eq_true] at hcl
  obtain ⟨⟨hnd, hK⟩, hall⟩ := hcl
  have hex : ∀ b ∈ bs, ∃ x, look h b = some x := by
    intro b hb
    have := hall b hb
    cases hl : look h b with
    | none => rw [hl] at this; cases this
    | some x => exact ⟨x, rfl⟩
  have hids : ∀ b ∈ bs, ∀ x, look h b = some x → ∀ c ∈ idsOfB (nrmB h x), c ∈ bs := by
    intro b hb x hx c hc
    have := hall b hb
    rw [hx] at this
    simp only [List.all_eq_true] at this
    simpa using this c hc
  let g : Nat → Nat := fun c => bs.idxOf c
  let ρ' : Nat → Pl := fun i => ρ (bs.getD i 0)
  have hg : ∀ b ∈ bs, bs[g b]? = some b ∧ ρ' (g b) = ρ b := by
    intro b hb
    have hlt : bs.idxOf b < bs.length := List.idxOf_lt_length_of_mem hb
    have e : bs[bs.idxOf b]? = some b := by rw [List.getElem?_eq_getElem hlt]; simp
    exact ⟨e, by simp only [ρ', g, List.getD_eq_getElem?_getD, e, Option.getD_some]⟩
  have hi : ∀ i b, bs[i]? = some b → ρ' i = ρ b := fun i b hb => by simp only [ρ', List.getD_eq_getElem?_getD, hb, Option.getD_some]
  have hok : ∀ k, okOf A ρ h w k → okOf A ρ' (Am.keep h bs) w k := by
    rintro k ⟨hk, hm⟩
    refine ⟨hk, fun i y hy hmu => ?_⟩
    obtain ⟨b, x, h1, h2, rfl⟩ := keep_inv hex hy
    rw [hi i b h1]
    rw [renB_mutable, nrmB_mutable] at hmu
    exact hm b x h2 hmu
  have hlive : ∀ b, Live h b ∧ b ∈ bs → Live (Am.keep h bs) (g b) ∧ ρ' (g b) = ρ b := by
    rintro b ⟨hl, hb⟩
    obtain ⟨x, hx⟩ := hex b hb
    exact ⟨by simp [Live, look_keep (hg b hb).1 hx], (hg b hb).2⟩
  have conv : ∀ d v, (∀ b ∈ allIds (Am.nrm h d), b ∈ bs) → C ρ (Live h) (okOf A ρ h w) w d v → C ρ' (Live (Am.keep h bs)) (okOf A ρ' (Am.keep h bs) w) w (renD g (Am.nrm h d)) v := by
    intro d v hb hc
    exact ((s.nrm hc).restrict (M := fun b => b ∈ bs) hb).ren g hlive hok
  refine ⟨ρ', hi, fun N' a' hd' hs' => ⟨s.base, s.inS, s.fr, hd', hs', fun k d hk => (by cases hk), fun i y hy => ?_, fun i y hy hl => ?_, fun i j y z hy hz hl hl' he => ?_⟩, conv⟩
  · obtain ⟨b, x, h1, h2, rfl⟩ := keep_inv hex hy
    have hb := s.blk b x h2
    have hmem := List.mem_of_getElem? h1
    cases x with
    | var T cs =>
      obtain ⟨c, c1, c2, c3⟩ := hb
      simp only [nrmB, renB, BlkOK, hi i b h1]
      refine ⟨c, c1, by simpa using c2, fun j hj => ?_⟩
      have hj' : j < cs.length := by simpa using hj
      have := conv _ _ (fun c hc => hids b hmem _ h2 c (by
        simp only [nrmB, idsOfB, List.mem_flatMap, List.mem_map]
        exact ⟨_, ⟨_, getD_mem hj', rfl⟩, hc⟩)) (c3 j hj')
      simpa [List.getD_eq_getElem?_getD, hj'] using this
    | row E l =>
      obtain ⟨c, c1, c2, c3, c4, c5, c6, c7, c8, c9⟩ := hb
      simp only [nrmB, renB, BlkOK, hi i b h1]
      exact ⟨c, c1, c2, c3, c4, c5, c6, c7, c8, fun k j hk hj => (c9 k j hk hj).mono fun k hk => ⟨hok k hk, rfl⟩⟩
    | froz l =>
      simp only [nrmB, renB, BlkOK, hi i b h1] at hb ⊢
      exact hb.mono fun k hk => ⟨hok k hk, rfl⟩
    | gone => trivial
  · obtain ⟨b, x, h1, h2, rfl⟩ := keep_inv hex hy
    rw [hi i b h1]
    rw [renB_live, nrmB_live] at hl
    exact s.own b x h2 hl
  · obtain ⟨b, x, h1, h2, rfl⟩ := keep_inv hex hy
    obtain ⟨b', x', h1', h2', rfl⟩ := keep_inv hex hz
    rw [hi i b h1, hi j b' h1'] at he
    rw [renB_live, nrmB_live] at hl hl'
    have hbb := s.inj b b' x x' h2 h2' hl hl' he
    subst hbb
    have i1 := (List.getElem?_eq_some_iff.1 h1).1
    have i2 := (List.getElem?_eq_some_iff.1 h1').1
    exact nodup_get hnd i1 i2 (by simp [List.getD_eq_getElem?_getD, h1, h1'])

/-- what the kept temporaries lead to -/
def reach (h : List (Nat × Blk)) : Nat → List Nat → List Nat
  | 0, bs => bs
  | n + 1, bs => reach h n (dedup (bs ++ bs.flatMap fun b => match look h b with | some x => idsOfB (nrmB h x) | none => []))

def keepT (t : List (Nat × D)) (ts : List Nat) : List (Nat × D) := ts.filterMap fun k => (look t k).map fun d => (k, d)
/-- only the temporaries ts are kept, and what they lead to, under new names -/
def gc (K : Nat) (ts : List Nat) (σ : St) : Option St :=
  let ds := (keepT σ.t ts).map fun x => (x.1, nrm σ.h x.2)
  let bs := reach σ.h 2 (dedup (List.range K ++ ds.flatMap fun x => allIds x.2))
  if closedB K σ.h bs && ds.all fun x => (allIds x.2).all fun b => bs.contains b then some ⟨ds.map fun x => (x.1, renD (fun c => bs.idxOf c) x.2), keep σ.h bs, bs.length⟩ else none

theorem look_mapD (f : D → D) : ∀ (l : List (Nat × D)) (k : Nat), look (l.map fun x => (x.1, f x.2)) k = (look l k).map f
  | [], k => rfl
  | (x, d) :: l, k => by
    simp only [List.map_cons, look, look_mapD f l k]
    split <;> rfl
theorem look_keepT {t : List (Nat × D)} : ∀ {ts : List Nat} {k : Nat} {d : D}, look (keepT t ts) k = some d → look t k = some d
  | [], k, d, h => by simp [keepT, look] at h
  | x :: ts, k, d, h => by
    unfold keepT at h
    rw [List.filterMap_cons] at h
    cases hx : look t x with
    | none => rw [hx] at h; exact look_keepT (ts := ts) h
    | some d' =>
      rw [hx] at h
      simp only [Option.map_some, look] at h
      split at h
      · rename_i e; subst e; rw [hx]; exact h
      · exact look_keepT (ts := ts) h

theorem gc_ok {σ σ' : St} {ts : List Nat} (hg : gc K ts σ = some σ') : Weak P N K σ σ' := by
  rintro w0 S A ρ0 a w ⟨hn, hK, ρ, hρ, s⟩
  unfold gc at hg
  simp only at hg
  generalize hbs : reach σ.h 2 (dedup (List.range K ++ ((keepT σ.t ts).map fun x => (x.1, nrm σ.h x.2)).flatMap fun x => allIds x.2)) = bs at hg
  split at hg
  · rename_i hc
    simp only [Bool.and_eq_true, List.all_eq_true] at hc
    obtain ⟨hcl, hds⟩ := hc
    simp only [Option.some.injEq] at hg
    subst hg
    obtain ⟨ρ', h1, h2, h3⟩ := s.keep hcl
    have hcl' := hcl
    unfold closedB at hcl'
    simp only [Bool.and_eq_true, decide_eq_true_eq] at hcl'
    have htake := hcl'.1.2
    have hbK : ∀ b, b < K → bs[b]? = some b := by
      intro b hb
      have : (bs.take K)[b]? = some b := by rw [htake]; simp [hb]
      rw [List.getElem?_take, if_pos hb] at this
      exact this
    have hex : ∀ b ∈ bs, ∃ x, look σ.h b = some x := by
      intro b hb
      have := hcl'.2
      rw [List.all_eq_true] at this
      have := this b hb
      cases hl : look σ.h b with
      | none => rw [hl] at this; cases this
      | some x => exact ⟨x, rfl⟩
    refine ⟨fun b hb => ?_, fun b hb => ?_, ρ', fun b hb => (h1 b b (hbK b hb)).trans (hρ b hb), ?_⟩
    · show look (keep σ.h bs) b = none
      rw [keep, look_idx, List.getElem?_eq_none (by simpa using hb)]
    · obtain ⟨x, hx⟩ := hex b (List.mem_of_getElem? (hbK b hb))
      simp [Live, look_keep (hbK b hb) hx]
    · have s' := h2 N a s.defers s.size
      refine ⟨s'.base, s'.inS, s'.fr, s'.defers, s'.size, fun k d hk => ?_, s'.blk, s'.own, s'.inj⟩
      rw [List.map_map] at hk
      have hk2 : look ((keepT σ.t ts).map fun x => (x.1, (fun d => renD (fun c => bs.idxOf c) (nrm σ.h d)) x.2)) k = some d := hk
      have hk3 := (look_mapD (fun d => renD (fun c => bs.idxOf c) (nrm σ.h d)) (keepT σ.t ts) k).symm.trans hk2
      obtain ⟨d0, hd0, rfl⟩ := Option.map_eq_some_iff.1 hk3
      have hkt := look_keepT hd0
      refine ⟨(s.tmp k d0 hkt).1, h3 d0 _ (fun b hb => ?_) (s.tmp k d0 hkt).2⟩
      have hmem : ∀ (l : List (Nat × D)), look l k = some d0 → (k, d0) ∈ l := by
        intro l
        induction l with
        | nil => intro h; simp [look] at h
        | cons x l ih =>
          obtain ⟨x1, x2⟩ := x
          intro h
          simp only [look] at h
          split at h
          · rename_i e; subst e; simp only [Option.some.injEq] at h; subst h; exact List.mem_cons_self ..
          · exact List.mem_cons_of_mem _ (ih h)
      have := hds (k, nrm σ.h d0) (List.mem_map.2 ⟨_, hmem _ hd0, rfl⟩) b hb
      simpa using this
  · cases hg

/-! ### A function's contract -/
def resD (P : Program) (σ : St) : ResultVar → Option D
  | .tmp k => some ((look σ.t k).getD .undef)
  | .cell k T => (look σ.t k).bind fun d => if isPtr d then aLoad P σ.h T d else none
def one (ds : List D) : D := match ds with | [d] => d | ds => .tup ds
/-- what is handed back; pr: as lists that are only read -/
def resOut (P : Program) (rs : List ResultVar) (K : Nat) (pr : Bool) (σ : St) : Option (D × List Blk) :=
  match rs.mapM (resD P σ) with
  | some ds =>
    let d := one ds
    let h := if pr then puts (frz σ.h (allIds d)) σ.h else σ.h
    let bs := reach h 2 (dedup (List.range K ++ allIds (nrm h d)))
    if closedB K h bs && (allIds (nrm h d)).all (fun b => bs.contains b) then some (renD (fun c => bs.idxOf c) (nrm h d), bs.map fun b => match look h b with | some x => renB (fun c => bs.idxOf c) (nrmB h x) | none => .gone) else none
  | none => none

theorem Sim.results (s : Sim P w0 S A N ρ t h a w) {n : Nat} {f : ResultVar → Sem Value} (hf : ∀ r, f r = (match r with | .tmp t => pure (a.tmps.getD t undef) | .cell x T => do loadVar T (← asAddr (a.tmps.getD x undef)))) : ∀ {rs : List ResultVar} {ds : List D}, rs.mapM (resD P ⟨t, h, n⟩) = some ds →
    ∃ vs : List Value, (rs.mapM f).run P w = .ok vs w ∧ ds.length = vs.length ∧ ∀ i, i < ds.length → C ρ (Live h) (okOf A ρ h w) w (ds.getD i .undef) (vs.getD i undef)
  | [], ds, hd => by
    simp at hd
    subst hd
    exact ⟨[], by simp, rfl, by simp⟩
  | r :: rs, ds, hd => by
    simp only [List.mapM_cons, Option.bind_eq_bind, Option.bind_eq_some_iff, Option.pure_def, Option.some.injEq] at hd
    obtain ⟨d, h1, ds', h2, rfl⟩ := hd
    obtain ⟨vs, r1, r2, r3⟩ := s.results hf h2
    have hv : ∃ v, (f r).run P w = .ok v w ∧ C ρ (Live h) (okOf A ρ h w) w d v := by
      rw [hf]
      cases r with
      | tmp k =>
        simp only [resD, Option.some.injEq] at h1
        subst h1
        refine ⟨a.tmps.getD k undef, rfl, ?_⟩
        cases hk : look t k with
        | none => exact .any _
        | some d => exact (s.tmp k d hk).2
      | cell k T =>
        simp only [resD] at h1
        obtain ⟨d0, q1, q2⟩ := Option.bind_eq_some_iff.1 h1
        split at q2
        · rename_i hp
          have hc := (s.tmp k d0 q1).2
          obtain ⟨ad, e⟩ := hc.isPtr_inv hp
          obtain ⟨v, l1, l2⟩ := s.load q2 hc
          refine ⟨v, ?_, l2⟩
          show ((do loadVar T (← asAddr (a.tmps.getD k undef))) : Sem Value).run P w = .ok v w
          rw [e] at l1 ⊢
          simpa [Instr.loadAt, Instr.sureAddr, asAddr] using l1
        · cases q2
    obtain ⟨v, v1, v2⟩ := hv
    refine ⟨v :: vs, by simp [v1, r1], by simp [r2], fun i hi => ?_⟩
    cases i with
    | zero => simpa using v2
    | succ i => simpa using r3 i (by simpa using hi)

def resF (tmps : Array Value) : ResultVar → Sem Value
  | .tmp t => pure (tmps.getD t undef)
  | .cell x T => do loadVar T (← asAddr (tmps.getD x undef))
theorem results_eq (fn : Func) (tmps : Array Value) : results fn tmps = (fn.results.mapM (resF tmps) >>= fun vs => pure (if h : vs.size = 1 then vs[0] else .tuple vs)) := rfl

theorem one_ok {L ok : Nat → Prop} {ds : List D} {vs : List Value} (hl : ds.length = vs.length) (hc : ∀ i, i < ds.length → C ρ L ok w (ds.getD i .undef) (vs.getD i undef)) : C ρ L ok w (one ds) (if h : vs.toArray.size = 1 then vs.toArray[0] else .tuple vs.toArray) := by
  match ds, vs, hl with
  | [], [], _ => exact .tup [] #[] rfl fun i hi => by simp at hi
  | [d], [v], _ => simpa [one] using hc 0 (by simp)
  | d :: d' :: ds, v :: v' :: vs, hl =>
    simp only [one]
    rw [dif_neg (by simp)]
    refine .tup _ _ (by simpa using hl) fun i hi => ?_
    have := hc i hi
    rw [arr_getD]
    exact this

def argsT (ds : List D) : List (Nat × D) := (ds.zipIdx 0).map fun x => (x.2, x.1)
theorem look_args : ∀ (ds : List D) (k b : Nat), look ((ds.zipIdx k).map fun x => (x.2, x.1)) b = if k ≤ b then ds[b - k]? else none
  | [], k, b => by simp [look]
  | x :: bs, k, b => by
    simp only [List.zipIdx_cons, List.map_cons, look, look_args bs (k + 1) b]
    by_cases h1 : b = k
    · subst h1; simp
    · by_cases h2 : k ≤ b
      · rw [if_neg h1, if_pos (by omega), if_pos h2, show b - k = (b - (k + 1)) + 1 by omega]
        rfl
      · rw [if_neg h1, if_neg (by omega), if_neg h2]

/-! ### lengths that memory allows -/
def bnd : Nat → D → Prop
  | 0, _ => True
  | k + 1, .lst l => l.length ≤ 9223372036854775807 ∧ ∀ e ∈ l, ∀ c ∈ e.cells, bnd k c
  | k + 1, .agg cs => ∀ c ∈ cs, bnd k c
  | k + 1, .tup cs => ∀ c ∈ cs, bnd k c
  | k + 1, .box cs => ∀ c ∈ cs, bnd k c
  | _ + 1, _ => True
theorem mem_getD' {l : List D} {c : D} (h : c ∈ l) : ∃ i, i < l.length ∧ l.getD i .undef = c := by
  obtain ⟨i, hi, rfl⟩ := List.mem_iff_getElem.1 h
  exact ⟨i, hi, by rw [List.getD_eq_getElem?_getD, List.getElem?_eq_getElem hi]; rfl⟩
theorem Rep.bnd {ok : Nat → Prop} {w : World} : ∀ (k : Nat) {d : D} {v : Value}, Rep ok w d v → Am.bnd k d
  | 0, _, _, _ => trivial
  | k + 1, d, v, h => by
    cases h with
    | none a cap ha hcap => exact ⟨by simp, fun e he => by cases he⟩
    | lst l n b off cap f hn hcap hmax hok hsz hpos hc hr =>
      have hm : maxLen = 9223372036854775807 := rfl
      refine ⟨by omega, fun e he c hc' => ?_⟩
      obtain ⟨i, hi, rfl⟩ := mem_getD' he
      obtain ⟨j, hj, rfl⟩ := mem_getD' hc'
      have hs := (hsz _ he).1
      exact (hr i j (by omega) (by omega)).bnd k
    | agg cs vs hl h => intro c hc; obtain ⟨i, hi, rfl⟩ := mem_getD' hc; exact (h i hi).bnd k
    | tup cs vs hl h => intro c hc; obtain ⟨i, hi, rfl⟩ := mem_getD' hc; exact (h i hi).bnd k
    | box cs b off f hok hpos hc hr => intro c hc'; obtain ⟨i, hi, rfl⟩ := mem_getD' hc'; exact (hr i hi).bnd k
    | _ => trivial
theorem C.bnd {ρ : Nat → Pl} {L ok : Nat → Prop} {w : World} : ∀ (k : Nat) {d : D} {v : Value}, C ρ L ok w d v → Am.bnd k d
  | 0, _, _, _ => trivial
  | k + 1, d, v, h => by
    cases h with
    | pure h => exact h.bnd (k + 1)
    | agg cs vs hl h => intro c hc; obtain ⟨i, hi, rfl⟩ := mem_getD' hc; exact (h i hi).bnd k
    | tup cs vs hl h => intro c hc; obtain ⟨i, hi, rfl⟩ := mem_getD' hc; exact (h i hi).bnd k
    | _ => trivial
/-- of a block -/
def bndB (k : Nat) : Blk → Prop
  | .var _ cs => ∀ c ∈ cs, bnd k c
  | .row _ l => l.length ≤ 9223372036854775807 ∧ ∀ e ∈ l, ∀ c ∈ e.cells, bnd k c
  | _ => True
theorem Sim.bndB (s : Sim P w0 S A N ρ t h a w) (k : Nat) {b : Nat} {x : Blk} (hb : look h b = some x) : Am.bndB k x := by
  have hx := s.blk b x hb
  cases x with
  | var T cs =>
    obtain ⟨c, h1, h2, h3⟩ := hx
    intro e he
    obtain ⟨i, hi, rfl⟩ := mem_getD' he
    exact (h3 i hi).bnd k
  | row E l =>
    obtain ⟨c, h1, h2, h3, h4, h5, h6, h7, h8, h9⟩ := hx
    have hm : maxLen = 9223372036854775807 := rfl
    refine ⟨by omega, fun e he d hd => ?_⟩
    obtain ⟨i, hi, rfl⟩ := mem_getD' he
    obtain ⟨j, hj, rfl⟩ := mem_getD' hd
    have hs := (h8 _ he).1
    exact (h9 i j hi (by omega)).bnd k
  | _ => trivial

theorem sound_of {f : FuncId} {fn : Func} {c : Code} (hf : P.funcs[f]? = some fn) (hb : fn.body = some c) (hname : (fn.name == "runtime.NumGoroutine") = false) {N : Nat} {rs : List ResultVar} (hN : fn.ntmps = N) (hrs : fn.results.toList = rs) {F : Fn} (pr : Bool)
    (hF : ∀ ds hin r hout, F ds hin = some (r, hout) → (∀ d ∈ ds, bnd 6 d) → (∀ x ∈ hin, bndB 6 x) → ds.length ≤ N ∧ ∃ e σ', Brings P N hin.length c ⟨argsT ds, idx hin, hin.length⟩ e σ' ∧ (RealS P N hin.length σ' → (e = .normal ∨ e = .ret) ∧ resOut P rs hin.length pr σ' = some (r, hout))) : Sound P f F := by
  subst hN hrs
  refine ⟨⟨fn, hf, by rw [hb]; rfl, hname⟩, fun ds hin r hout heF w A ρ vs s hlen hv => ?_⟩
  obtain ⟨hle, e, σ, hA, hfin⟩ := hF ds hin r hout heF (fun d hd => by
    obtain ⟨i, hi, rfl⟩ := mem_getD' hd
    exact (hv i hi).bnd 6) (fun x hx => by
    obtain ⟨i, hi, rfl⟩ := List.mem_iff_getElem.1 hx
    exact s.bndB 6 (b := i) (by rw [look_idx, List.getElem?_eq_getElem hi]))
  refine calls_of_wp hf hb ?_
  have hs0 : SimS P w (inB ρ hin.length) A fn.ntmps ρ hin.length ⟨argsT ds, idx hin, hin.length⟩ { tmps := vs ++ Array.replicate (fn.ntmps - vs.size) undef, defers := [] } w := by
    refine ⟨fun b hb => ?_, fun b hb => ?_, ρ, fun b hb => rfl, s.base, s.inS, s.fr, rfl, by simp; omega, fun k d hk => ?_, s.blk, s.own, s.inj⟩
    · show look (idx hin) b = none
      rw [look_idx, List.getElem?_eq_none hb]
    · show Live (idx hin) b
      simp [Live, look_idx, hb]
    · have hk2 : look ((ds.zipIdx 0).map fun x => (x.2, x.1)) k = some d := hk
      rw [look_args] at hk2
      simp only [Nat.zero_le, if_true, Nat.sub_zero] at hk2
      have hk' : k < ds.length := (List.getElem?_eq_some_iff.1 hk2).1
      refine ⟨by omega, ?_⟩
      have := hv k hk'
      rw [List.getD_eq_getElem?_getD, hk2] at this
      have hkv : k < vs.size := by omega
      simpa [Array.getD_eq_getD_getElem?, Array.getElem?_append, hkv] using this
  refine wp_mono (hA _ _ _ ρ _ w hs0) ?_
  clear heF hA
  rintro e' a' w' ⟨rfl, hs1⟩
  obtain ⟨he, hres⟩ := hfin ⟨_, _, _, _, _, _, hs1⟩
  clear hfin
  obtain ⟨hn, hK, ρ1, hρ1, s1⟩ := hs1
  unfold resOut at hres
  split at hres
  · rename_i rds hrds
    simp only at hres
    obtain ⟨vs', r1, r2, r3⟩ := s1.results (f := resF a'.tmps) (fun r => by cases r <;> rfl) hrds
    have hone := one_ok r2 r3
    have hrun : (results fn a'.tmps).run P w' = .ok (if h : vs'.toArray.size = 1 then vs'.toArray[0] else .tuple vs'.toArray) w' := by
      rw [results_eq, Array.mapM_eq_mapM_toList, Sem.run_bind, map_eq_pure_bind, Sem.run_bind, r1]
      rfl
    generalize hu : (if h : vs'.toArray.size = 1 then vs'.toArray[0] else Value.tuple vs'.toArray) = u at *
    generalize hd : one rds = d at *
    obtain ⟨h1, s2, hc2⟩ : ∃ h1, Sim P w (inB ρ hin.length) A fn.ntmps ρ1 σ.t h1 a' w' ∧ (h1 = if pr then puts (frz σ.h (allIds d)) σ.h else σ.h) ∧ C ρ1 (Live h1) (okOf A ρ1 h1 w') w' d u := by
      cases pr with
      | false => exact ⟨σ.h, s1, rfl, hone⟩
      | true =>
        obtain ⟨f1, f2, f3⟩ := s1.frz_ok (allIds d) σ.h s1 fun _ => .inl rfl
        refine ⟨_, f1, rfl, hone.mono (fun b hb => ⟨?_, rfl⟩) (fun k hk => ⟨⟨hk.1, fun b y hy hmu => ?_⟩, rfl⟩)⟩
        · rcases f2 b with q | ⟨E, l, _, q2⟩
          · simpa [Live, q] using hb
          · simp [Live, q2]
        · rcases f2 b with q | ⟨E, l, q1, q2⟩
          · rw [q] at hy; exact hk.2 b y hy hmu
          · rw [q2] at hy
            obtain rfl := Option.some.inj hy
            simp [Blk.mutable] at hmu
    obtain ⟨hh1, hc2⟩ := hc2
    rw [← hh1] at hres
    generalize hbs : reach h1 2 (dedup (List.range hin.length ++ allIds (Am.nrm h1 d))) = bs at hres
    split at hres
    · rename_i hcc
      simp only [Bool.and_eq_true, List.all_eq_true] at hcc
      obtain ⟨hcl, hall⟩ := hcc
      simp only [Option.some.injEq, Prod.mk.injEq] at hres
      obtain ⟨rfl, rfl⟩ := hres
      obtain ⟨ρ', k1, k2, k3⟩ := s2.keep hcl
      have hcl' := hcl
      unfold closedB at hcl'
      simp only [Bool.and_eq_true, decide_eq_true_eq] at hcl'
      have htake := hcl'.1.2
      have hbK : ∀ b, b < hin.length → bs[b]? = some b := by
        intro b hb
        have : (bs.take hin.length)[b]? = some b := by rw [htake]; simp [hb]
        rw [List.getElem?_take, if_pos hb] at this
        exact this
      have hKlen : hin.length ≤ bs.length := by
        have := congrArg List.length htake
        simp at this
        omega
      have fin : ∃ v ρ'', Ending.returned u = .returned v ∧ (∀ b, b < hin.length → ρ'' b = ρ b) ∧ hin.length ≤ (bs.map fun b => match look h1 b with | some x => renB (fun c => bs.idxOf c) (nrmB h1 x) | none => .gone).length ∧
          Sim P w (inB ρ hin.length) A 0 ρ'' [] (idx (bs.map fun b => match look h1 b with | some x => renB (fun c => bs.idxOf c) (nrmB h1 x) | none => .gone)) emptyA w' ∧
          C ρ'' (Live (idx (bs.map fun b => match look h1 b with | some x => renB (fun c => bs.idxOf c) (nrmB h1 x) | none => .gone))) (okOf A ρ'' (idx (bs.map fun b => match look h1 b with | some x => renB (fun c => bs.idxOf c) (nrmB h1 x) | none => .gone)) w') w' (renD (fun c => bs.idxOf c) (Am.nrm h1 d)) v :=
        ⟨u, ρ', rfl, fun b hb => (k1 b b (hbK b hb)).trans (hρ1 b hb), by simpa using hKlen, k2 0 emptyA rfl rfl, k3 d u (fun b hb => by simpa using hall b hb) hc2⟩
      rcases he with rfl | rfl
      · exact ⟨s1.defers, u, hrun, fin⟩
      · exact ⟨s1.defers, u, hrun, fin⟩
    · exact absurd hres (by simp)
  · exact absurd hres (by simp)


/-- Called with ds and the blocks hin, the function f hands back r, and leaves hout. -/
def Con (P : Program) (f : FuncId) (ds : List D) (hin : List Blk) (r : D) (hout : List Blk) : Prop := ∃ F, Sound P f F ∧ F ds hin = some (r, hout)
open Classical in
theorem con_of {f : FuncId} {fn : Func} {c : Code} (hf : P.funcs[f]? = some fn) (hb : fn.body = some c) (hname : (fn.name == "runtime.NumGoroutine") = false) {N : Nat} {rs : List ResultVar} (hN : fn.ntmps = N) (hrs : fn.results.toList = rs) (pr : Bool) {ds : List D} {hin : List Blk} {r : D} {hout : List Blk}
    (hl : ds.length ≤ N) (h : (∀ d ∈ ds, bnd 6 d) → (∀ x ∈ hin, bndB 6 x) → ∃ e σ, Brings P N hin.length c ⟨argsT ds, idx hin, hin.length⟩ e σ ∧ (RealS P N hin.length σ → (e = .normal ∨ e = .ret) ∧ resOut P rs hin.length pr σ = some (r, hout))) : Con P f ds hin r hout := by
  refine ⟨fun ds' hin' => if ds' = ds ∧ hin' = hin then some (r, hout) else none, sound_of hf hb hname hN hrs pr fun ds' hin' r' hout' hF hb1 hb2 => ?_, by simp⟩
  split at hF
  · rename_i hc
    obtain ⟨rfl, rfl⟩ := hc
    simp only [Option.some.injEq, Prod.mk.injEq] at hF
    obtain ⟨rfl, rfl⟩ := hF
    exact ⟨hl, h hb1 hb2⟩
  · cases hF
end Go.Proofs.Ytdecnnhcbjhfgaa.Am
