/- The plain machine: what is no more wanted is forgotten; a function's contract from its code. -/
import Derived.Test.YtkclhekkcffpoaaB17
namespace Go.Proofs.Ytkclhekkcffpoaa.Am
set_option linter.unusedSimpArgs false
set_option linter.unusedVariables false
open Go Go.RowKit

variable {P : Program} {w0 : World} {S A : Nat → Prop} {N : Nat} {K : Id → Prop} {ρ : Id → Pl} {t : List (Nat × D)} {h h' : HL} {a : Act} {w : World}

/-- The same data, under new names: h: the blocks; h': these, as they are called then; g: what they were called. -/
inductive Rn (h : HL) (g : Id → Id) (h' : HL) : D → D → Prop where
  | ref (b : Id) (hb : Live h (g b) → Live h' b) : Rn h g h' (.ref (g b)) (.ref b)
  | ptr (b : Id) (o : Nat) (hb : Live h (g b) → Live h' b) : Rn h g h' (.ptr (g b) o) (.ptr b o)
  | eptr (b : Id) (i o : Nat) (hb : Live h (g b) → Live h' b) : Rn h g h' (.eptr (g b) i o) (.eptr b i o)
  | vref (b : Id) (o n : Nat) (hb : Live h (g b) → Live h' b) : Rn h g h' (.vref (g b) o n) (.vref b o n)
  | lst (b : Id) (l : List D) (hb : look h b = some (.froz l)) : Rn h g h' (.ref b) (.lst l)
  | box (b : Id) (cs : List D) (hb : look h b = some (.fvar cs)) : Rn h g h' (.ptr b 0) (.box cs)
  | fwd (d d' : D) (hd : Rn h g h' (fwd h d) d') : Rn h g h' d d'
  | pure (d : D) (hd : d.pure0 = true) : Rn h g h' d d
  | nils : Rn h g h' .nils (.lst [])
  | iptr (e : D) (o : Nat) : Rn h g h' (.iptr e o) (.iptr e o)
  | agg (cs cs' : List D) (hl : cs.length = cs'.length) (hc : ∀ i, i < cs.length → Rn h g h' (cs.getD i .undef) (cs'.getD i .undef)) : Rn h g h' (.agg cs) (.agg cs')
  | tup (cs cs' : List D) (hl : cs.length = cs'.length) (hc : ∀ i, i < cs.length → Rn h g h' (cs.getD i .undef) (cs'.getD i .undef)) : Rn h g h' (.tup cs) (.tup cs')
  | clo (f : FuncId) (cs cs' : List D) (hl : cs.length = cs'.length) (hc : ∀ i, i < cs.length → Rn h g h' (cs.getD i .undef) (cs'.getD i .undef)) : Rn h g h' (.clo f cs) (.clo f cs')
  | ifc (T : TypeId) (d d' : D) (hd : Rn h g h' d d') : Rn h g h' (.ifc T d) (.ifc T d')
  | undef (d : D) : Rn h g h' d .undef
  | junk : Rn h g h' .junk .junk
inductive RnB (h : HL) (g : Id → Id) (h' : HL) : Blk → Blk → Prop where
  | var (T : TypeId) (cs cs' : List D) (hl : cs.length = cs'.length) (hc : ∀ i, i < cs.length → Rn h g h' (cs.getD i .undef) (cs'.getD i .undef)) : RnB h g h' (.var T cs) (.var T cs')
  | row (E : TypeId) (l l' : List D) (hl : l.length = l'.length) (hc : ∀ i, i < l.length → Rn h g h' (l.getD i .undef) (l'.getD i .undef) ∧ ∀ s, wfC s (l.getD i .undef) → wfC s (l'.getD i .undef) ∧ ∀ j, j < s → Rn h g h' ((l.getD i .undef).cells.getD j .undef) ((l'.getD i .undef).cells.getD j .undef)) : RnB h g h' (.row E l) (.row E l')
  | froz (l : List D) : RnB h g h' (.froz l) (.froz l)
  | fvar (cs : List D) : RnB h g h' (.fvar cs) (.fvar cs)
  | gone (x : Blk) : RnB h g h' x .gone
structure Ren (h : HL) (g : Id → Id) (h' : HL) : Prop where
  blk : ∀ b x', look h' b = some x' → ∃ x, look h (g b) = some x ∧ RnB h g h' x x'
  inj : ∀ b c x y, look h' b = some x → look h' c = some y → x.live = true → y.live = true → g b = g c → b = c
theorem RnB.live {g : Id → Id} {x x' : Blk} (hr : RnB h g h' x x') : (x'.live = true → x.live = true) ∧ (x'.mutable = true → x.mutable = true) := by
  cases hr with
  | var T cs cs' hl hc => exact ⟨fun _ => rfl, fun _ => rfl⟩
  | row E l l' hl hc => exact ⟨fun _ => rfl, fun _ => rfl⟩
  | froz l => exact ⟨fun _ => rfl, fun h => h⟩
  | fvar cs => exact ⟨fun _ => rfl, fun h => h⟩
  | gone => exact ⟨fun h => absurd h (by decide), fun h => absurd h (by decide)⟩

theorem Sim.rn (s : Sim P w0 S A N ρ t h a w) {g : Id → Id} {ok' : Nat → Prop} (hok : ∀ k, okOf A ρ h w k → ok' k) {d d' : D} {v : Value} (hr : Rn h g h' d d') : C ρ (Live h) (okOf A ρ h w) w d v → C (fun b => ρ (g b)) (Live h') ok' w d' v := by
  induction hr generalizing v with
  | ref b hb => intro hc; obtain ⟨hl, rfl⟩ := hc.ref_inv; exact .ref (ρ := fun b => ρ (g b)) b (hb hl)
  | ptr b o hb => intro hc; obtain ⟨hl, rfl⟩ := hc.ptr_inv; exact .ptr (ρ := fun b => ρ (g b)) b o (hb hl)
  | eptr b i o hb => intro hc; obtain ⟨hl, rfl⟩ := hc.eptr_inv; exact .eptr (ρ := fun b => ρ (g b)) b i o (hb hl)
  | vref b o n hb => intro hc; obtain ⟨hl, hn, rfl⟩ := hc.vref_inv; exact .vref (ρ := fun b => ρ (g b)) b o n (hb hl) hn
  | lst b l hb => intro hc; obtain ⟨_, rfl⟩ := hc.ref_inv; exact .pure (Rep.mono (s.blk b _ hb) fun k hk => ⟨hok k hk, rfl⟩)
  | box b cs hb => intro hc; obtain ⟨_, rfl⟩ := hc.ptr_inv; exact .pure (Rep.mono (s.blk b _ hb) fun k hk => ⟨hok k hk, rfl⟩)
  | fwd d d' hd ih => intro hc; exact ih (s.fwd hc)
  | pure d hd => intro hc; exact .pure ((hc.rep0 hd).mono fun k hk => ⟨hok k hk, rfl⟩)
  | nils => intro hc; obtain rfl := hc.nils_inv; exact .pure (.none _ _ (fun _ => rfl) (by unfold maxLen; omega))
  | iptr e o =>
    intro hc
    obtain ⟨b, off, f, rfl, h1, h2, h3⟩ := hc.iptr_inv
    exact .iptr e o b off f (hok b h1) h2 fun j hj => (h3 j hj).mono fun k hk => ⟨hok k hk, rfl⟩
  | agg cs cs' hl hcs ih =>
    intro hc
    obtain ⟨vs, rfl, h1, h2⟩ := hc.agg_inv
    exact .agg _ _ (by omega) fun i hi => ih i (by omega) (h2 i (by omega))
  | tup cs cs' hl hcs ih =>
    intro hc
    obtain ⟨vs, rfl, h1, h2⟩ := hc.tup_inv
    exact .tup _ _ (by omega) fun i hi => ih i (by omega) (h2 i (by omega))
  | clo f cs cs' hl hcs ih =>
    intro hc
    obtain ⟨vs, rfl, h1, h2⟩ := hc.clo_inv
    exact .clo _ _ _ (by omega) fun i hi => ih i (by omega) (h2 i (by omega))
  | ifc T d d' hd ih =>
    intro hc
    obtain ⟨v', rfl, h1⟩ := hc.ifc_inv
    exact .ifc _ _ _ (ih h1)
  | undef d => intro hc; exact .any _
  | junk => intro hc; exact .junk _ hc.junk_inv
/-- the blocks under new names -/
theorem Sim.ren (s : Sim P w0 S A N ρ t h a w) {g : Id → Id} (hr : Ren h g h') {N' : Nat} {a' : Act} {t' : List (Nat × D)} (hd : a'.defers = []) (hs : a'.tmps.size = N')
    (ht : ∀ k d', look t' k = some d' → k < N' ∧ ∃ d, C ρ (Live h) (okOf A ρ h w) w d (a'.tmps.getD k undef) ∧ Rn h g h' d d') : Sim P w0 S A N' (fun b => ρ (g b)) t' h' a' w ∧ ∀ k, okOf A ρ h w k → okOf A (fun b => ρ (g b)) h' w k := by
  have hok : ∀ k, okOf A ρ h w k → okOf A (fun b => ρ (g b)) h' w k := by
    rintro k ⟨hk, hm⟩
    refine ⟨hk, fun b x' hx hmu => ?_⟩
    obtain ⟨x, h1, h2⟩ := hr.blk b x' hx
    exact hm _ x h1 (h2.live.2 hmu)
  refine ⟨⟨s.base, s.inS, s.fr, hd, hs, fun k d' hk => ?_, fun b x' hx => ?_, fun b x' hx hl => ?_, fun b c x' y' hx hy hlx hly he => ?_⟩, hok⟩
  · obtain ⟨h1, d, h2, h3⟩ := ht k d' hk
    exact ⟨h1, s.rn hok h3 h2⟩
  · obtain ⟨x, h1, h2⟩ := hr.blk b x' hx
    have hb := s.blk _ x h1
    cases h2 with
    | var T cs cs' hl hc =>
      obtain ⟨c, c1, c2, c3⟩ := hb
      exact ⟨c, c1, by omega, fun j hj => s.rn hok (hc j (by omega)) (c3 j (by omega))⟩
    | row E l l' hl hc =>
      obtain ⟨c, c1, c2, c3, c4, c5, c6, c7, c8, c9⟩ := hb
      refine ⟨c, c1, c2, by rw [← hl]; exact c3, c4, c5, c6, c7, fun e he => ?_, fun i j hi hj => ?_⟩
      · obtain ⟨i, hi, rfl⟩ := mem_getD' he
        exact ((hc i (by omega)).2 _ (c8 _ (getD_mem (by omega)))).1
      · exact s.rn hok (((hc i (by omega)).2 _ (c8 _ (getD_mem (by omega)))).2 j hj) (c9 i j (by omega) hj)
    | froz l => exact Rep.mono hb fun k hk => ⟨hok k hk, rfl⟩
    | fvar cs => exact Rep.mono hb fun k hk => ⟨hok k hk, rfl⟩
    | gone x => trivial
  · obtain ⟨x, h1, h2⟩ := hr.blk b x' hx
    exact s.own _ x h1 (h2.live.1 hl)
  · obtain ⟨x, h1, h2⟩ := hr.blk b x' hx
    obtain ⟨y, h3, h4⟩ := hr.blk c y' hy
    exact hr.inj b c x' y' hx hy hlx hly (s.inj _ _ x y h1 h3 (h2.live.1 hlx) (h4.live.1 hly) he)
/-- only what is wanted is kept, under new names -/
theorem weak_ren {σ σ' : St} {g : Id → Id} (hr : Ren σ.h g σ'.h) (ht : ∀ k d', look σ'.t k = some d' → ∃ d, look σ.t k = some d ∧ Rn σ.h g σ'.h d d') (hK : ∀ b, K b → Live σ.h b → g b = b ∧ Live σ'.h b) (hn : ∀ b : Id, σ'.n ≤ b.1 → look σ'.h b = none) : Weak P N K σ σ' := by
  rintro w0 S A ρ0 a w ⟨_, hK0, ρ, hρ, s⟩
  refine ⟨hn, fun b hb => (hK b hb (hK0 b hb)).2, fun b => ρ (g b), fun b hb => by show ρ (g b) = _; rw [(hK b hb (hK0 b hb)).1]; exact hρ b hb, (s.ren hr s.defers s.size fun k d' hk => ?_).1⟩
  obtain ⟨d, h1, h2⟩ := ht k d' hk
  exact ⟨(s.tmp k d h1).1, d, (s.tmp k d h1).2, h2⟩
/-- some rows, some variables are no more written -/
theorem weak_frz {σ : St} (bs : List Id) : Weak P N K σ ⟨σ.t, puts (frz σ.h bs) σ.h, σ.n⟩ := by
  rintro w0 S A ρ0 a w ⟨h1, hK0, ρ, hρ, s⟩
  refine ⟨fun b hb => look_frz_none (h1 b hb), fun b hb => live_frz (hK0 b hb), ρ, hρ, (s.frz_ok bs).1⟩
/-- blocks get other names -/
theorem weak_moves {σ : St} {ms : List (Id × Id)} {u : HL} (hu : movesU σ.h ms = some u) (hm : ∀ m ∈ ms, m.2.1 < σ.n) : Weak P N K σ ⟨σ.t, puts u σ.h, σ.n⟩ := by
  rintro w0 S A ρ0 a w ⟨h1, hK0, ρ, hρ, s⟩
  obtain ⟨ρ', e1, e2, s1⟩ := s.moves ms u hu
  refine ⟨fun b hb => ?_, fun b hb => e2 b (hK0 b hb), ρ', fun b hb => (e1 b (hK0 b hb)).trans (hρ b hb), s1⟩
  have key : ∀ (ms : List (Id × Id)) (g u : HL), movesU g ms = some u → (∀ m ∈ ms, m.2.1 < σ.n) → (∀ b : Id, σ.n ≤ b.1 → look g b = none) → look (puts u g) b = none := by
    intro ms
    induction ms with
    | nil => intro g u hu _ hg; simp only [movesU, Option.some.injEq] at hu; subst hu; exact hg b hb
    | cons m ms ih =>
      obtain ⟨x, c⟩ := m
      intro g u hu hm hg
      simp only [movesU] at hu
      split at hu
      · rename_i y hy
        split at hu
        · obtain ⟨u', q1, rfl⟩ := Option.map_eq_some_iff.1 hu
          rw [puts_append]
          refine ih _ u' q1 (fun m hm' => hm m (List.mem_cons_of_mem _ hm')) fun b' hb' => ?_
          show look (put c y (put x (.moved c) g)) b' = none
          rw [look_put, if_neg, look_put, if_neg]
          · exact hg b' hb'
          · rintro rfl; rw [hg b' hb'] at hy; cases hy
          · rintro rfl; have := hm (x, b') (List.mem_cons_self ..); simp only at this; omega
        · cases hu
      · cases hu
  exact key ms σ.h u hu hm h1
/-- a free group is left out -/
theorem weak_skip {σ : St} {n : Nat} (hn : σ.n ≤ n) : Weak P N K σ ⟨σ.t, σ.h, n⟩ := by
  rintro w0 S A ρ0 a w ⟨h1, hK0, ρ, hρ, s⟩
  exact ⟨fun b hb => h1 b (Nat.le_trans hn hb), hK0, ρ, hρ, s⟩

/-! ### A function's contract -/
def resD (P : Program) (σ : St) : ResultVar → Option D
  | .tmp k => some ((look σ.t k).getD .undef)
  | .cell k T => (look σ.t k).bind fun d => if isPtr d then aLoad P σ.h T d else none
def one (ds : List D) : D := match ds with | [d] => d | ds => .tup ds
/-- what is handed back -/
def ResOut (P : Program) (rs : List ResultVar) (K : Id → Prop) (σ : St) (r : D) (hout : HL) : Prop :=
  ∃ ds bs g, rs.mapM (resD P σ) = some ds ∧ Rn (puts (frz σ.h bs) σ.h) g hout (one ds) r ∧ Ren (puts (frz σ.h bs) σ.h) g hout ∧ ∀ b, K b → Live σ.h b → g b = b ∧ Live hout b

theorem Sim.results (s : Sim P w0 S A N ρ t h a w) {n : Nat} {f : ResultVar → Sem Value} (hf : ∀ r, f r = (match r with | .tmp t => pure (a.tmps.getD t undef) | .cell x T => do loadVar T (← asAddr (a.tmps.getD x undef)))) : ∀ {rs : List ResultVar} {ds : List D}, rs.mapM (resD P ⟨t, h, n⟩) = some ds →
    ∃ vs : List Value, (rs.mapM f).run P w = .ok vs w ∧ ds.length = vs.length ∧ ∀ i, i < ds.length → C ρ (Live h) (okOf A ρ h w) w (ds.getD i .undef) (vs.getD i undef)
  | [], ds, hd => by
    simp at hd
    subst hd
    exact ⟨[], by simp, rfl, by simp⟩
  | r :: rs, ds, hd => by
    simp only [List.mapM_cons, Option.bind_eq_bind, Option.bind_eq_some_iff, Option.pure_def, Option.some.injEq] at hd
    obtain ⟨d, h1, ds', h2, rfl⟩ := hd
    obtain ⟨vs, r1, r2, r3⟩ := s.results hf h2
    have hv : ∃ v, (f r).run P w = .ok v w ∧ C ρ (Live h) (okOf A ρ h w) w d v := by
      rw [hf]
      cases r with
      | tmp k =>
        simp only [resD, Option.some.injEq] at h1
        subst h1
        refine ⟨a.tmps.getD k undef, rfl, ?_⟩
        cases hk : look t k with
        | none => exact .any _
        | some d => exact (s.tmp k d hk).2
      | cell k T =>
        simp only [resD] at h1
        obtain ⟨d0, q1, q2⟩ := Option.bind_eq_some_iff.1 h1
        split at q2
        · rename_i hp
          have hc := (s.tmp k d0 q1).2
          obtain ⟨ad, e⟩ := hc.isPtr_inv hp
          obtain ⟨v, l1, l2⟩ := s.load q2 hc
          refine ⟨v, ?_, l2⟩
          show ((do loadVar T (← asAddr (a.tmps.getD k undef))) : Sem Value).run P w = .ok v w
          rw [e] at l1 ⊢
          simpa [Instr.loadAt, Instr.sureAddr, asAddr] using l1
        · cases q2
    obtain ⟨v, v1, v2⟩ := hv
    refine ⟨v :: vs, by simp [v1, r1], by simp [r2], fun i hi => ?_⟩
    cases i with
    | zero => simpa using v2
    | succ i => simpa using r3 i (by simpa using hi)

def resF (tmps : Array Value) : ResultVar → Sem Value
  | .tmp t => pure (tmps.getD t undef)
  | .cell x T => do loadVar T (← asAddr (tmps.getD x undef))
theorem results_eq (fn : Func) (tmps : Array Value) : results fn tmps = (fn.results.mapM (resF tmps) >>= fun vs => pure (if h : vs.size = 1 then vs[0] else .tuple vs)) := rfl

theorem one_ok {L : Id → Prop} {ok : Nat → Prop} {ds : List D} {vs : List Value} (hl : ds.length = vs.length) (hc : ∀ i, i < ds.length → C ρ L ok w (ds.getD i .undef) (vs.getD i undef)) : C ρ L ok w (one ds) (if h : vs.toArray.size = 1 then vs.toArray[0] else .tuple vs.toArray) := by
  match ds, vs, hl with
  | [], [], _ => exact .tup [] #[] rfl fun i hi => by simp at hi
  | [d], [v], _ => simpa [one] using hc 0 (by simp)
  | d :: d' :: ds, v :: v' :: vs, hl =>
    simp only [one]
    rw [dif_neg (by simp)]
    refine .tup _ _ (by simpa using hl) fun i hi => ?_
    have := hc i hi
    rw [arr_getD]
    exact this

def argsT (ds : List D) : List (Nat × D) := (ds.zipIdx 0).map fun x => (x.2, x.1)
theorem look_args : ∀ (ds : List D) (k b : Nat), look ((ds.zipIdx k).map fun x => (x.2, x.1)) b = if k ≤ b then ds[b - k]? else none
  | [], k, b => by simp [look]
  | x :: bs, k, b => by
    simp only [List.zipIdx_cons, List.map_cons, look, look_args bs (k + 1) b]
    by_cases h1 : b = k
    · subst h1; simp
    · by_cases h2 : k ≤ b
      · rw [if_neg h1, if_pos (by omega), if_pos h2, show b - k = (b - (k + 1)) + 1 by omega]
        rfl
      · rw [if_neg h1, if_neg (by omega), if_neg h2]

/-! ### lengths that memory allows -/
def bnd : Nat → D → Prop
  | 0, _ => True
  | k + 1, .lst l => l.length ≤ 9223372036854775807 ∧ ∀ e ∈ l, ∀ c ∈ e.cells, bnd k c
  | k + 1, .agg cs => ∀ c ∈ cs, bnd k c
  | k + 1, .tup cs => ∀ c ∈ cs, bnd k c
  | k + 1, .box cs => ∀ c ∈ cs, bnd k c
  | _ + 1, _ => True
theorem Rep.bnd {ok : Nat → Prop} {w : World} : ∀ (k : Nat) {d : D} {v : Value}, Rep ok w d v → Am.bnd k d
  | 0, _, _, _ => trivial
  | k + 1, d, v, h => by
    cases h with
    | none a cap ha hcap => exact ⟨by simp, fun e he => by cases he⟩
    | lst l n b off cap f hn hcap hmax hok hsz hpos hc hr =>
      have hm : maxLen = 9223372036854775807 := rfl
      refine ⟨by omega, fun e he c hc' => ?_⟩
      obtain ⟨i, hi, rfl⟩ := mem_getD' he
      obtain ⟨j, hj, rfl⟩ := mem_getD' hc'
      have hs := (hsz _ he).1
      exact (hr i j (by omega) (by omega)).bnd k
    | agg cs vs hl h => intro c hc; obtain ⟨i, hi, rfl⟩ := mem_getD' hc; exact (h i hi).bnd k
    | tup cs vs hl h => intro c hc; obtain ⟨i, hi, rfl⟩ := mem_getD' hc; exact (h i hi).bnd k
    | box cs b off f hok hpos hc hr => intro c hc'; obtain ⟨i, hi, rfl⟩ := mem_getD' hc'; exact (hr i hi).bnd k
    | _ => trivial
theorem C.bnd {ρ : Id → Pl} {L : Id → Prop} {ok : Nat → Prop} {w : World} : ∀ (k : Nat) {d : D} {v : Value}, C ρ L ok w d v → Am.bnd k d
  | 0, _, _, _ => trivial
  | k + 1, d, v, h => by
    cases h with
    | pure h => exact h.bnd (k + 1)
    | agg cs vs hl h => intro c hc; obtain ⟨i, hi, rfl⟩ := mem_getD' hc; exact (h i hi).bnd k
    | tup cs vs hl h => intro c hc; obtain ⟨i, hi, rfl⟩ := mem_getD' hc; exact (h i hi).bnd k
    | _ => trivial
/-- of a block -/
def bndB (k : Nat) : Blk → Prop
  | .var _ cs => ∀ c ∈ cs, bnd k c
  | .row _ l => l.length ≤ 9223372036854775807 ∧ ∀ e ∈ l, ∀ c ∈ e.cells, bnd k c
  | _ => True
theorem Sim.bndB (s : Sim P w0 S A N ρ t h a w) (k : Nat) {b : Id} {x : Blk} (hb : look h b = some x) : Am.bndB k x := by
  have hx := s.blk b x hb
  cases x with
  | var T cs =>
    obtain ⟨c, h1, h2, h3⟩ := hx
    intro e he
    obtain ⟨i, hi, rfl⟩ := mem_getD' he
    exact (h3 i hi).bnd k
  | row E l =>
    obtain ⟨c, h1, h2, h3, h4, h5, h6, h7, h8, h9⟩ := hx
    have hm : maxLen = 9223372036854775807 := rfl
    refine ⟨by omega, fun e he d hd => ?_⟩
    obtain ⟨i, hi, rfl⟩ := mem_getD' he
    obtain ⟨j, hj, rfl⟩ := mem_getD' hd
    have hs := (h8 _ he).1
    exact (h9 i j hi (by omega)).bnd k
  | _ => trivial


theorem con_of {f : FuncId} {fn : Func} {c : Code} (hf : P.funcs[f]? = some fn) (hb : fn.body = some c) (hname : (fn.name == "runtime.NumGoroutine") = false) {N : Nat} {rs : List ResultVar} (hN : fn.ntmps = N) (hrs : fn.results.toList = rs) {ds : List D} {hin : HL} {n0 : Nat} {r : D} {hout : HL}
    (hl : ds.length ≤ N) (hn0 : ∀ b : Id, n0 ≤ b.1 → look hin b = none)
    (hF : (∀ d ∈ ds, bnd 6 d) → (∀ b x, look hin b = some x → bndB 6 x) → ∃ e σ, Brings P N (Live hin) c ⟨argsT ds, hin, n0⟩ e σ ∧ (RealS P N (Live hin) σ → (e = .normal ∨ e = .ret) ∧ ResOut P rs (Live hin) σ r hout)) : Con P f ds hin r hout := by
  subst hN hrs
  refine ⟨⟨fn, hf, by rw [hb]; rfl, hname⟩, fun w A ρ vs s hlen hv => ?_⟩
  obtain ⟨e, σ, hA, hfin⟩ := hF (fun d hd => by
    obtain ⟨i, hi, rfl⟩ := mem_getD' hd
    exact (hv i hi).bnd 6) (fun b x hx => s.bndB 6 hx)
  refine calls_of_wp hf hb ?_
  have hs0 : SimS P w (inB ρ hin) A fn.ntmps ρ (Live hin) ⟨argsT ds, hin, n0⟩ { tmps := vs ++ Array.replicate (fn.ntmps - vs.size) undef, defers := [] } w := by
    refine ⟨hn0, fun b hb => hb, ρ, fun b hb => rfl, s.base, s.inS, s.fr, rfl, by simp; omega, fun k d hk => ?_, s.blk, s.own, s.inj⟩
    have hk2 : look ((ds.zipIdx 0).map fun x => (x.2, x.1)) k = some d := hk
    rw [look_args] at hk2
    simp only [Nat.zero_le, if_true, Nat.sub_zero] at hk2
    have hk' : k < ds.length := (List.getElem?_eq_some_iff.1 hk2).1
    refine ⟨by omega, ?_⟩
    have := hv k hk'
    rw [List.getD_eq_getElem?_getD, hk2] at this
    have hkv : k < vs.size := by omega
    simpa [Array.getD_eq_getD_getElem?, Array.getElem?_append, hkv] using this
  refine wp_mono (hA _ _ _ ρ _ w hs0) ?_
  clear hA
  rintro e' a' w' ⟨rfl, hs1⟩
  obtain ⟨he, ds', bs, g, hrds, hrn, hren, hkeep⟩ := hfin ⟨_, _, _, _, _, _, hs1⟩
  clear hfin
  obtain ⟨hn, hK, ρ1, hρ1, s1⟩ := hs1
  obtain ⟨vs', r1, r2, r3⟩ := s1.results (f := resF a'.tmps) (fun r => by cases r <;> rfl) hrds
  have hone := one_ok r2 r3
  have hrun : (results fn a'.tmps).run P w' = .ok (if h : vs'.toArray.size = 1 then vs'.toArray[0] else .tuple vs'.toArray) w' := by
    rw [results_eq, Array.mapM_eq_mapM_toList, Sem.run_bind, map_eq_pure_bind, Sem.run_bind, r1]
    rfl
  generalize (if h : vs'.toArray.size = 1 then vs'.toArray[0] else Value.tuple vs'.toArray) = u at *
  obtain ⟨q1, q2, q3⟩ := s1.frz_ok bs
  have hcu : C ρ1 (Live (puts (frz σ.h bs) σ.h)) (okOf A ρ1 (puts (frz σ.h bs) σ.h) w') w' (one ds') u := hone.mono (fun b hb => ⟨live_frz hb, rfl⟩) (fun k hk => ⟨⟨hk.1, fun b y hy hmu => by
    rcases q2 b with q | ⟨y', z1, z2⟩
    · rw [q] at hy; exact hk.2 b y hy hmu
    · rw [z2] at hy
      obtain rfl := Option.some.inj hy
      rw [(frzB_old z1).2.1] at hmu; cases hmu⟩, rfl⟩)
  obtain ⟨s3, hok3⟩ := q1.ren (N' := 0) (a' := emptyA) (t' := []) hren rfl rfl (fun k d' hk => by cases hk)
  have fin : ∃ v ρ'', Ending.returned u = .returned v ∧ (∀ b, Live hin b → ρ'' b = ρ b ∧ Live hout b) ∧ Sim P w (inB ρ hin) A 0 ρ'' [] hout emptyA w' ∧ C ρ'' (Live hout) (okOf A ρ'' hout w') w' r v :=
    ⟨u, fun b => ρ1 (g b), rfl, fun b hb => ⟨by show ρ1 (g b) = _; rw [(hkeep b hb (hK b hb)).1]; exact hρ1 b hb, (hkeep b hb (hK b hb)).2⟩, s3, q1.rn hok3 hrn hcu⟩
  rcases he with rfl | rfl
  · exact ⟨s1.defers, u, hrun, fin⟩
  · exact ⟨s1.defers, u, hrun, fin⟩
end Go.Proofs.Ytkclhekkcffpoaa.Am
