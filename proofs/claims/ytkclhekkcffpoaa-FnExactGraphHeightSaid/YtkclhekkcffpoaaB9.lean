/- The plain machine: slices of slices; freezing what is handed on. -/
import Derived.Test.YtkclhekkcffpoaaB8
namespace Go.Proofs.Ytkclhekkcffpoaa.Am
set_option linter.unusedSimpArgs false
set_option linter.unusedVariables false
open Go Go.RowKit

variable {P : Program} {w0 : World} {S A : Nat → Prop} {N : Nat} {ρ : Id → Pl} {t : List (Nat × D)} {h : HL} {a : Act} {w : World}

theorem getD_cut (l : List D) (hh ll i : Nat) (hi : i < hh - ll) : ((l.take hh).drop ll).getD i .undef = l.getD (ll + i) .undef := by
  have : ll + i < hh := by omega
  simp only [List.getD_eq_getElem?_getD, List.getElem?_drop, List.getElem?_take, this, if_true]

theorem rep_cut {ok : Nat → Prop} {T E : TypeId} {l : List D} {v : Value} {s hh ll : Nat} (hr : Rep ok w (.lst l) v) (hu : P.underlying T = some (.slice E)) (hs : sizeT P E = some s) (hso : szOr s l = s) (h1 : hh ≤ l.length) (h2 : ll ≤ hh)
    {lo hi : Option Value} (hlo : (lo = none ∧ ll = 0) ∨ ∃ k, lo = some (.int k (ll : Nat))) (hhi : (hi = none ∧ hh = l.length) ∨ ∃ k, hi = some (.int k (hh : Nat))) :
    ∃ v', (Instr.sliceAt T v lo hi none).run P w = .ok v' w ∧ Rep ok w (.lst ((l.take hh).drop ll)) v' := by
  obtain ⟨a', cap, rfl, hcap, hmax, ha⟩ : ∃ a cap, v = .slice a l.length cap ∧ l.length ≤ cap ∧ cap ≤ maxLen ∧ (a = none → cap = 0) := by
    cases hr with
    | none a cap ha hcap => exact ⟨a, cap, rfl, Nat.zero_le _, hcap, ha⟩
    | lst _ n b off cap f hn hcap hmax hok hsz hpos hc hr => subst hn; exact ⟨_, cap, rfl, hcap, hmax, fun h => by cases h⟩
  refine ⟨.slice (if cap = ll then a' else a'.map (·.add (ll * s))) (hh - ll) (cap - ll), ?_, ?_⟩
  · have b1 : ((hh : Nat) : Int) ≤ (cap : Nat) := by omega
    have b2 : ((ll : Nat) : Int) ≤ (hh : Nat) := by omega
    rcases hlo with ⟨rfl, rfl⟩ | ⟨k, rfl⟩ <;> rcases hhi with ⟨rfl, rfl⟩ | ⟨k', rfl⟩ <;>
      simp [Instr.sliceAt, Instr.slice, run_underlying hu, Instr.sliceBounds, Instr.sliceBound, asIntOf, run_size hs, h2] <;> (try (intro h; omega)) <;> (try omega)
    all_goals (first | (rw [if_pos (by omega)]; simp [run_size hs]; done) | skip)
    all_goals (try (rw [if_pos (by omega)]; simp [run_size hs]; rw [if_pos (by omega)]; simp [run_size hs]))
  · by_cases he : hh = ll
    · have : (l.take hh).drop ll = [] := List.eq_nil_of_length_eq_zero (by simp; omega)
      rw [this, show hh - ll = 0 by omega]
      refine Rep.none _ _ (fun h => ?_) (by omega)
      split at h
      · omega
      · cases a' with
        | none => have := ha rfl; omega
        | some ad => cases h
    · have hne : l ≠ [] := by rintro rfl; simp at h1; omega
      have hsz := szOr_ne hne hso
      cases hr with
      | none a cap ha hcap => exact absurd rfl hne
      | lst _ n b off cap f hn hcap' hmax' hok hwf hpos hc hr' =>
        have hlen : ((l.take hh).drop ll).length = hh - ll := by simp; omega
        have hmem : ∀ e ∈ (l.take hh).drop ll, e ∈ l := fun e he => List.mem_of_mem_take (List.mem_of_mem_drop he)
        have hsz2 : szl ((l.take hh).drop ll) = szl l := by
          cases hL : (l.take hh).drop ll with
          | nil => rw [hL] at hlen; simp at hlen; omega
          | cons e0 L0 => exact (hwf e0 (hmem e0 (by rw [hL]; exact List.mem_cons_self ..))).1
        rw [if_neg (by omega)]
        simp only [Option.map_some, add_none]
        refine .lst _ _ b (off + ll * s) _ (fun i j => f (ll + i) j) hlen (by omega) (by omega) hok (fun e he => by rw [hsz2]; exact hwf e (hmem e he)) (by rw [hsz2]; exact hpos) (fun i j hi hj => ?_) (fun i j hi hj => ?_)
        · rw [hsz2] at hj ⊢
          rw [← hc (ll + i) j (by omega) hj, hsz, Nat.add_mul]
          congr 2
          omega
        · rw [hsz2] at hj
          rw [getD_cut l hh ll i hi]
          exact hr' (ll + i) j (by omega) hj

theorem aBound_ok {L : Id → Prop} {ok : Nat → Prop} {len dflt k : Nat} {d : Option D} {v : Option Value} (hd : aBound len d dflt = some k) (hv : (d = none ∧ v = none) ∨ ∃ d' v', d = some d' ∧ v = some v' ∧ C ρ L ok w d' v') (hdf : dflt ≤ len) :
    k ≤ len ∧ ((v = none ∧ k = dflt) ∨ ∃ q, v = some (.int q (k : Nat))) := by
  unfold aBound at hd
  rcases hv with ⟨rfl, rfl⟩ | ⟨d', v', rfl, rfl, hc⟩
  · simp only [Option.some.injEq] at hd
    subst hd
    exact ⟨hdf, .inl ⟨rfl, rfl⟩⟩
  · split at hd
    · rename_i he; cases he
    · rename_i q i he
      obtain rfl := Option.some.inj he
      obtain rfl := hc.int_inv
      split at hd
      · rename_i hi
        simp only [Option.some.injEq] at hd
        subst hd
        refine ⟨by omega, .inr ⟨q, ?_⟩⟩
        congr 2
        omega
      · cases hd
    · cases hd

/-- a block's memory, by another name -/
theorem Sim.again (s : Sim P w0 S A N ρ t h a w) {b n : Id} {x y : Blk} {p : Pl} (hb : look h b = some x) (hxl : x.live = true) (hn : look h n = none) (hp : p.blk = (ρ b).blk) (hym : y.mutable = true → x.mutable = true)
    (hy : (∀ d v, C ρ (Live h) (okOf A ρ h w) w d v → C (at' ρ n p) (Live (put n y (put b .gone h))) (okOf A (at' ρ n p) (put n y (put b .gone h)) w) w d v) → BlkOK P A (at' ρ n p) (put n y (put b .gone h)) w n y) :
    Ext h ρ (at' ρ n p) ∧ Sim P w0 S A N (at' ρ n p) t (put n y (put b .gone h)) a w := by
  have key : ∀ b' z, look (put n y (put b .gone h)) b' = some z → (b' = n ∧ z = y) ∨ (b' = b ∧ z = .gone) ∨ (b' ≠ n ∧ b' ≠ b ∧ look h b' = some z) := by
    intro b' z hz
    rw [look_put, look_put] at hz
    by_cases e : b' = n
    · rw [if_pos e] at hz; exact .inl ⟨e, (Option.some.inj hz).symm⟩
    · rw [if_neg e] at hz
      by_cases e2 : b' = b
      · rw [if_pos e2] at hz; exact .inr (.inl ⟨e2, (Option.some.inj hz).symm⟩)
      · rw [if_neg e2] at hz; exact .inr (.inr ⟨e, e2, hz⟩)
  have hρ : ∀ b', Live h b' → Live (put n y (put b .gone h)) b' ∧ at' ρ n p b' = ρ b' := fun b' hb' => ⟨hb'.put.put, at'_ne ρ _ (hb'.ne hn)⟩
  have hok : ∀ k, okOf A ρ h w k → okOf A (at' ρ n p) (put n y (put b .gone h)) w k ∧ w.heap[k]? = w.heap[k]? := by
    rintro k ⟨hk, hm⟩
    refine ⟨⟨hk, fun b' z hz hmu => ?_⟩, rfl⟩
    rcases key b' z hz with ⟨rfl, rfl⟩ | ⟨rfl, rfl⟩ | ⟨e1, _, hz⟩
    · rw [at'_same, hp]; exact hm b x hb (hym hmu)
    · cases hmu
    · rw [at'_ne ρ _ e1]; exact hm b' z hz hmu
  refine ⟨Ext.at hn _, s.step s.fr hρ hok (fun b' z hz => ?_) (Nat.le_refl _) (fun b1 b3 y1 y3 hy1 hy3 hl1 hl3 he => ?_)⟩
  · rcases key b' z hz with ⟨rfl, rfl⟩ | ⟨rfl, rfl⟩ | ⟨e1, e2, hz⟩
    · refine .inr ⟨hy fun d v hc => hc.mono hρ hok, fun hl => ?_⟩
      rw [at'_same, hp]; exact s.own b x hb hxl
    · exact .inr ⟨trivial, fun hl => by cases hl⟩
    · exact .inl ⟨hz, fun _ => rfl⟩
  · rcases key b1 y1 hy1 with ⟨e1, f1⟩ | ⟨e1, f1⟩ | ⟨e1, g1, f1⟩
    · rcases key b3 y3 hy3 with ⟨e3, f3⟩ | ⟨e3, f3⟩ | ⟨e3, g3, f3⟩
      · rw [e1, e3]
      · rw [f3] at hl3; cases hl3
      · rw [e1, at'_same, at'_ne ρ _ e3, hp] at he
        exact absurd (s.inj b b3 x y3 hb f3 hxl hl3 he).symm g3
    · rw [f1] at hl1; cases hl1
    · rcases key b3 y3 hy3 with ⟨e3, f3⟩ | ⟨e3, f3⟩ | ⟨e3, g3, f3⟩
      · rw [e3, at'_same, at'_ne ρ _ e1, hp] at he
        exact absurd (s.inj b1 b y1 x f1 hb hl1 hxl he) g1
      · rw [f3] at hl3; cases hl3
      · rw [at'_ne ρ _ e1, at'_ne ρ _ e3] at he
        exact s.inj b1 b3 y1 y3 f1 f3 hl1 hl3 he
/-- the first elements of a row -/
theorem Sim.shrink (s : Sim P w0 S A N ρ t h a w) {b n : Id} {E : TypeId} {l : List D} (hb : look h b = some (.row E l)) (hn : look h n = none) {k : Nat} (hk : k ≤ l.length) :
    Ext h ρ (at' ρ n { ρ b with len := k }) ∧ Sim P w0 S A N (at' ρ n { ρ b with len := k }) t (put n (.row E (l.take k)) (put b .gone h)) a w := by
  obtain ⟨c, h1, h2, h3, h4, h5, h6, h7, h8, h9⟩ := s.blk b _ hb
  refine s.again hb rfl hn rfl (fun _ => rfl) fun hC => ?_
  simp only [BlkOK, at'_same]
  refine ⟨c, h1, h2, by simp; omega, by omega, h5, h6, h7, fun e he => h8 e (List.mem_of_mem_take he), fun i j hi hj => ?_⟩
  have hi1 : i < k := by simp at hi; omega
  have hi2 : i < l.length := by omega
  have e : (l.take k).getD i .undef = l.getD i .undef := by simp [List.getD_eq_getElem?_getD, List.getElem?_take, hi1]
  rw [e]
  exact hC _ _ (h9 i j hi2 hj)

theorem Sim.cut (s : Sim P w0 S A N ρ t h a w) {T : TypeId} {d d' : D} {lo hi : Option D} {u : HL} {v : Value} {vlo vhi : Option Value} {q : Bool} {n : Id} (hd : aSlice P h q n T d lo hi = some (d', u)) (hn : q = true → look h n = none)
    (hv : C ρ (Live h) (okOf A ρ h w) w d v) (hlo : (lo = none ∧ vlo = none) ∨ ∃ d' v', lo = some d' ∧ vlo = some v' ∧ C ρ (Live h) (okOf A ρ h w) w d' v') (hhi : (hi = none ∧ vhi = none) ∨ ∃ d' v', hi = some d' ∧ vhi = some v' ∧ C ρ (Live h) (okOf A ρ h w) w d' v') :
    ∃ v' ρ', Ext h ρ ρ' ∧ (Instr.sliceAt T v vlo vhi none).run P w = .ok v' w ∧ Sim P w0 S A N ρ' t (puts u h) a w ∧ C ρ' (Live (puts u h)) (okOf A ρ' (puts u h) w) w d' v' := by
  unfold aSlice at hd
  split at hd
  · rename_i hu
    split at hd
    · rename_i str
      obtain rfl := hv.str_inv
      split at hd
      · rename_i hh hbh
        obtain ⟨q1, q2⟩ := aBound_ok hbh hhi (Nat.le_refl _)
        split at hd
        · rename_i ll hbl
          obtain ⟨q3, q4⟩ := aBound_ok hbl hlo (Nat.zero_le _)
          simp only [Option.some.injEq, Prod.mk.injEq] at hd
          obtain ⟨rfl, rfl⟩ := hd
          refine ⟨.string (str.extract ll hh), ρ, Ext.refl _ _, ?_, s, .str _⟩
          have b1 : ((hh : Nat) : Int) ≤ (str.size : Nat) := by omega
          have b2 : ((ll : Nat) : Int) ≤ (hh : Nat) := by omega
          rcases q4 with ⟨rfl, rfl⟩ | ⟨k, rfl⟩ <;> rcases q2 with ⟨rfl, rfl⟩ | ⟨k', rfl⟩ <;>
            simp [Instr.sliceAt, Instr.slice, run_underlying hu, Instr.sliceBounds, Instr.sliceBound, asIntOf, q1, q3]
        · cases hd
      · cases hd
    · cases hd
  · rename_i E hu
    split at hd
    · rename_i sz l hs hl
      split at hd
      · rename_i hso
        split at hd
        · rename_i hh hbh
          obtain ⟨q1, q2⟩ := aBound_ok hbh hhi (Nat.le_refl _)
          split at hd
          · rename_i ll hbl
            obtain ⟨q3, q4⟩ := aBound_ok hbl hlo (Nat.zero_le _)
            have q4' : (vlo = none ∧ ll = 0) ∨ ∃ k, vlo = some (.int k (ll : Nat)) := q4
            have fin : ∀ {h' : HL}, Rep (okOf A ρ h' w) w (.lst l) v → ∃ v', (Instr.sliceAt T v vlo vhi none).run P w = .ok v' w ∧ C ρ (Live h') (okOf A ρ h' w) w (.lst ((l.take hh).drop ll)) v' := by
              intro h' hr
              obtain ⟨v', e1, e2⟩ := rep_cut (P := P) hr hu hs hso q1 q3 q4' q2
              exact ⟨v', e1, .pure e2⟩
            split at hd
            · rename_i b
              obtain ⟨hlb, rfl⟩ := hv.ref_inv
              split at hd
              · rename_i E' l' hb
                simp only [Am.elems, hb, Option.some.injEq] at hl
                subst hl
                split at hd
                · rename_i hq
                  split at hd
                  · rename_i hl0
                    subst hl0
                    simp only [Option.some.injEq, Prod.mk.injEq] at hd
                    obtain ⟨rfl, rfl⟩ := hd
                    obtain ⟨x1, x2⟩ := s.shrink hb (hn hq) q1
                    have hbk := s.blk b _ hb
                    obtain ⟨c, h1, h2, h3, h4, h5, h6, h7, h8, h9⟩ := hbk
                    have hL : Live (puts [(b, Blk.gone), (n, .row E' (l'.take hh))] h) n := by
                      show Live (put n _ (put b _ h)) n
                      unfold Live; rw [look_put]; simp
                    refine ⟨.slice (some ⟨(ρ b).blk, 0, none⟩) hh (ρ b).cap, _, x1, ?_, x2, ?_⟩
                    · have b1 : ((hh : Nat) : Int) ≤ ((ρ b).cap : Nat) := by omega
                      have b2 : ((0 : Nat) : Int) ≤ (hh : Nat) := by omega
                      have a0 : ((⟨(ρ b).blk, 0, none⟩ : Addr).add 0) = ⟨(ρ b).blk, 0, none⟩ := rfl
                      rcases q4' with ⟨rfl, _⟩ | ⟨k, rfl⟩ <;> rcases q2 with ⟨rfl, rfl⟩ | ⟨k', rfl⟩ <;>
                        simp [Instr.sliceAt, Instr.slice, run_underlying hu, Instr.sliceBounds, Instr.sliceBound, asIntOf, run_size hs, h3, h4, a0] <;> (try omega)
                      all_goals (try (rw [if_pos (by omega)]; simp [run_size hs, a0]))
                    · have := C.ref (ρ := at' ρ n { ρ b with len := hh }) (L := Live (puts [(b, Blk.gone), (n, .row E' (l'.take hh))] h)) (ok := okOf A (at' ρ n { ρ b with len := hh }) (puts [(b, Blk.gone), (n, .row E' (l'.take hh))] h) w) (w := w) n hL
                      simpa only [at'_same] using this
                  · cases hd
                · split at hd
                  · rename_i hpu
                    simp only [Option.some.injEq, Prod.mk.injEq] at hd
                    obtain ⟨rfl, rfl⟩ := hd
                    rw [List.all_eq_true] at hpu
                    have s' := s.freeze hb hpu
                    have hbk := s'.blk b (.froz l') (by rw [look_put]; simp)
                    obtain ⟨v', e1, e2⟩ := fin hbk
                    exact ⟨v', ρ, Ext.refl _ _, e1, s', e2⟩
                  · cases hd
              · rename_i hnr
                simp only [Option.some.injEq, Prod.mk.injEq] at hd
                obtain ⟨rfl, rfl⟩ := hd
                simp only [Am.elems] at hl
                split at hl
                · rename_i E' l' hb; exact absurd hb (hnr E' l')
                · rename_i l' hb
                  simp only [Option.some.injEq] at hl; subst hl
                  obtain ⟨v', e1, e2⟩ := fin (s.blk b _ hb)
                  exact ⟨v', ρ, Ext.refl _ _, e1, s, e2⟩
                · cases hl
            · cases hd
            · rename_i hnr hnv
              simp only [Option.some.injEq, Prod.mk.injEq] at hd
              obtain ⟨rfl, rfl⟩ := hd
              have hr : Rep (okOf A ρ h w) w (.lst l) v := by
                unfold Am.elems at hl
                split at hl
                · simp only [Option.some.injEq] at hl; subst hl; exact hv.lst_inv
                · simp only [Option.some.injEq] at hl; subst hl
                  obtain rfl := hv.nils_inv
                  exact .none _ _ (fun _ => rfl) (by unfold maxLen; omega)
                · rename_i b; exact absurd rfl (hnr b)
                · rename_i b o n; exact absurd rfl (hnv b o n)
                · cases hl
              obtain ⟨v', e1, e2⟩ := fin hr
              exact ⟨v', ρ, Ext.refl _ _, e1, s, e2⟩
          · cases hd
        · cases hd
      · cases hd
    · cases hd
  · rename_i n E hu
    split at hd
    · rename_i b o
      split at hd
      · rename_i T' cs hs hb
        split at hd
        · rename_i hmax
          simp only [Option.some.injEq, Prod.mk.injEq] at hd
          obtain ⟨rfl, rfl⟩ := hd
          obtain ⟨hl, rfl⟩ := hv.ptr_inv
          rcases hlo with ⟨_, rfl⟩ | ⟨_, _, h1, _⟩
          · rcases hhi with ⟨_, rfl⟩ | ⟨_, _, h1, _⟩
            · refine ⟨.slice (some ⟨(ρ b).blk, o, none⟩) n n, ρ, Ext.refl _ _, ?_, s, .vref b o n hl hmax⟩
              simp [Instr.sliceAt, Instr.slice, run_underlying hu, Instr.sliceBounds, run_size hs, Instr.sureAddr, asAddr, add_none]
            · cases h1
          · cases h1
        · cases hd
      · cases hd
    · cases hd
  · cases hd

/-! ### What is handed on is no more written -/
theorem nz0_pure (d : D) (h : d.pure0 = true) : (nz0 d).pure0 = true := nz0_pure0 h
def leaf (d : D) : Option D := if d.pure0 = true then some (nz0 d) else none
theorem leaf_ok {d d' : D} (h : leaf d = some d') : d.pure0 = true ∧ d' = nz0 d ∧ d'.pure0 = true := by
  unfold leaf at h
  split at h
  · rename_i hp
    simp only [Option.some.injEq] at h
    subst h
    exact ⟨hp, rfl, nz0_pure0 hp⟩
  · cases h
def purE (f : D → Option D) : D → Option D
  | .agg cs => (cs.mapM f).map .agg
  | d => f d
/-- what a value reads as, down to depth k -/
def purD (h : HL) : Nat → D → Option D
  | 0, d => leaf d
  | k + 1, d => match d with
    | .ref b => (match look h b with
      | some (.row _ l) => (l.mapM (purE (purD h k))).map .lst
      | some (.froz l) => some (.lst l)
      | _ => none)
    | .ptr b 0 => (match look h b with
      | some (.var _ cs) => if cs = [] then none else (cs.mapM (purD h k)).map .box
      | some (.fvar cs) => some (.box cs)
      | _ => none)
    | d => leaf d
/-- the blocks that it looks at -/
def idsD (h : HL) : Nat → D → List Id
  | 0, _ => []
  | k + 1, d => match d with
    | .ref b => b :: (match look h b with
      | some (.row _ l) => l.flatMap fun e => e.cells.flatMap (idsD h k)
      | _ => [])
    | .ptr b 0 => b :: (match look h b with
      | some (.var _ cs) => cs.flatMap (idsD h k)
      | _ => [])
    | _ => []
def pur (h : HL) (k : Nat) : D → Option D
  | .agg cs => (cs.mapM (purD h k)).map .agg
  | .tup cs => (cs.mapM (purD h k)).map .tup
  | d => purD h k d
def ids (h : HL) (k : Nat) : D → List Id
  | .agg cs => cs.flatMap (idsD h k)
  | .tup cs => cs.flatMap (idsD h k)
  | d => idsD h k d

theorem mapM_get {α β : Type} {f : α → Option β} {a0 : α} {b0 : β} : ∀ {cs : List α} {cs' : List β}, cs.mapM f = some cs' → cs'.length = cs.length ∧ ∀ i, i < cs.length → f (cs.getD i a0) = some (cs'.getD i b0)
  | [], cs', h => by simp at h; subst h; simp
  | d :: cs, cs', h => by
    simp only [List.mapM_cons, Option.bind_eq_bind, Option.bind_eq_some_iff, Option.pure_def, Option.some.injEq] at h
    obtain ⟨d', h1, cs2, h2, rfl⟩ := h
    obtain ⟨e, ih⟩ := mapM_get (a0 := a0) (b0 := b0) h2
    refine ⟨by simp [e], fun i hi => ?_⟩
    cases i with
    | zero => simpa using h1
    | succ i => simpa using ih i (by simpa using hi)
theorem getD_mem {l : List D} {i : Nat} (hi : i < l.length) : l.getD i .undef ∈ l := by
  rw [List.getD_eq_getElem?_getD, List.getElem?_eq_getElem hi]; exact List.getElem_mem hi
theorem mem_getD' {l : List D} {c : D} (h : c ∈ l) : ∃ i, i < l.length ∧ l.getD i .undef = c := by
  obtain ⟨i, hi, rfl⟩ := List.mem_iff_getElem.1 h
  exact ⟨i, hi, by rw [List.getD_eq_getElem?_getD, List.getElem?_eq_getElem hi]; rfl⟩

theorem purE_ok {f : D → Option D} (hf : ∀ d d', f d = some d' → d'.pure0 = true) (hna : ∀ cs, f (.agg cs) = none) {e e' : D} {s : Nat} (he : wfC s e) (h : purE f e = some e') :
    wfE s e' ∧ ∀ j, j < s → f (e.cells.getD j .undef) = some (e'.cells.getD j .undef) := by
  by_cases hag : ∃ cs, e = .agg cs
  · obtain ⟨cs, rfl⟩ := hag
    simp only [purE] at h
    obtain ⟨cs', h1, rfl⟩ := Option.map_eq_some_iff.1 h
    obtain ⟨e1, q⟩ := mapM_get (a0 := .undef) (b0 := .undef) h1
    have hl : cs.length = s := he.1
    refine ⟨⟨by show cs'.length = s; omega, ?_⟩, fun j hj => q j (by omega)⟩
    rw [List.all_eq_true]
    intro x hx
    obtain ⟨j, hj, rfl⟩ := mem_getD' hx
    exact hf _ _ (q j (by simp only [D.cells] at hj; omega))
  · have h2 : purE f e = f e := by cases e <;> first | rfl | exact absurd ⟨_, rfl⟩ hag
    rw [h2] at h
    have hc : e.cells = [e] := cells_single fun cs hcs => hag ⟨cs, hcs⟩
    have hp := hf _ _ h
    have hs : s = 1 := by have := he.1; rw [hc] at this; simpa using this.symm
    subst hs
    rw [hc]
    refine ⟨⟨by rw [cells_pure0 hp]; rfl, by rw [cells_pure0 hp]; simp [hp]⟩, fun j hj => ?_⟩
    obtain rfl : j = 0 := by omega
    rw [cells_pure0 hp]
    exact h

/-- a row's cells, as data -/
theorem rep_of_row {ok : Nat → Prop} {c : Array Value} {E : TypeId} {l l' : List D} {blk sz len cap : Nat} {f : D → Option D} (hf : ∀ d d', f d = some d' → d'.pure0 = true) (hna : ∀ cs, f (.agg cs) = none) (hl : l.mapM (purE f) = some l')
    (h1 : w.heap[blk]? = some (.cells c E (0, 0))) (h2 : c.size = cap * sz) (h3 : l.length = len) (h4 : len ≤ cap) (h5 : cap ≤ maxLen) (h6 : 0 < sz) (h8 : ∀ e ∈ l, wfC sz e) (hok : ok blk)
    (hr : ∀ i j d', i < l.length → j < sz → f ((l.getD i .undef).cells.getD j .undef) = some d' → Rep ok w d' (c.getD (i * sz + j) undef)) : Rep ok w (.lst l') (.slice (some ⟨blk, 0, none⟩) len cap) := by
  obtain ⟨e1, q⟩ := mapM_get (a0 := .undef) (b0 := .undef) hl
  have qe : ∀ i, i < l.length → wfE sz (l'.getD i .undef) ∧ ∀ j, j < sz → f ((l.getD i .undef).cells.getD j .undef) = some ((l'.getD i .undef).cells.getD j .undef) := fun i hi => purE_ok hf hna (h8 _ (getD_mem hi)) (q i hi)
  cases hl' : l' with
  | nil =>
    rw [hl'] at e1
    simp only [List.length_nil] at e1
    obtain rfl : len = 0 := by omega
    exact .none _ _ (fun h => by cases h) h5
  | cons e0 l0 =>
    rw [← hl']
    have hwf : ∀ e ∈ l', wfE sz e := fun e he => by
      obtain ⟨i, hi, rfl⟩ := mem_getD' he
      exact (qe i (by omega)).1
    have hsz : szl l' = sz := by rw [hl']; exact (hwf e0 (by rw [hl']; exact List.mem_cons_self ..)).1
    refine .lst _ _ _ _ _ (fun i j => c.getD (i * sz + j) undef) (by omega) h4 h5 hok (fun e he => by rw [hsz]; exact hwf e he) (by rw [hsz]; exact h6) (fun i j hi hj => ?_) (fun i j hi hj => ?_)
    · rw [hsz] at hj ⊢
      have hlt' : i * sz + j < c.size := by
        rw [h2]
        have : (i + 1) * sz ≤ cap * sz := Nat.mul_le_mul_right _ (by omega)
        rw [Nat.add_mul] at this
        omega
      simp [World.cell?, h1, hlt', Array.getD_eq_getD_getElem?]
    · rw [hsz] at hj
      exact hr i j _ (by omega) hj ((qe i (by omega)).2 j hj)

theorem purD_pure : ∀ (k : Nat) (d d' : D), purD h k d = some d' → d'.pure0 = true
  | 0, d, d', hd => (leaf_ok hd).2.2
  | k + 1, d, d', hd => by
    unfold purD at hd
    split at hd
    · split at hd
      · obtain ⟨_, _, rfl⟩ := Option.map_eq_some_iff.1 hd; rfl
      · simp only [Option.some.injEq] at hd; subst hd; rfl
      · cases hd
    · split at hd
      · split at hd
        · cases hd
        · obtain ⟨_, _, rfl⟩ := Option.map_eq_some_iff.1 hd; rfl
      · simp only [Option.some.injEq] at hd; subst hd; rfl
      · cases hd
    · exact (leaf_ok hd).2.2
theorem purD_agg (k : Nat) (cs : List D) : purD h k (.agg cs) = none := by cases k <;> rfl
theorem C.leaf {L : Id → Prop} {ok : Nat → Prop} {d d' : D} {v : Value} (hd : Am.leaf d = some d') (hv : C ρ L ok w d v) : Rep ok w d' v := by
  obtain ⟨h1, rfl, _⟩ := leaf_ok hd
  exact (hv.rep0 h1).nz0

/-- a value as it reads in whatever set of blocks holds its rows -/
theorem Sim.purD (s : Sim P w0 S A N ρ t h a w) {ok' : Nat → Prop} (hok : ∀ k, okOf A ρ h w k → ok' k) : ∀ (k : Nat) (d d' : D) (v : Value), purD h k d = some d' →
    (∀ b ∈ idsD h k d, ∀ x, look h b = some x → x.mutable = true → ok' (ρ b).blk) → C ρ (Live h) (okOf A ρ h w) w d v → Rep ok' w d' v
  | 0, d, d', v, hd, _, hv => (hv.leaf hd).mono fun k hk => ⟨hok k hk, rfl⟩
  | k + 1, d, d', v, hd, hb, hv => by
    unfold Am.purD at hd
    split at hd
    · rename_i b
      obtain ⟨hl, rfl⟩ := hv.ref_inv
      split at hd
      · rename_i E l hlk
        obtain ⟨l', hl', rfl⟩ := Option.map_eq_some_iff.1 hd
        obtain ⟨c, h1, h2, h3, h4, h5, h6, h7, h8, h9⟩ := s.blk b _ hlk
        refine rep_of_row (purD_pure k) (purD_agg k) hl' h1 h2 h3 h4 h5 h6 h8 (hb b (by unfold idsD; exact List.mem_cons_self ..) _ hlk rfl) fun i j d' hi hj hd' => ?_
        refine s.purD hok k _ _ _ hd' (fun b' hb' => hb b' ?_) (h9 i j hi hj)
        unfold idsD
        simp only [hlk]
        refine List.mem_cons_of_mem _ (List.mem_flatMap.2 ⟨_, getD_mem hi, List.mem_flatMap.2 ⟨_, ?_, hb'⟩⟩)
        exact getD_mem (by rw [(h8 _ (getD_mem hi)).1]; exact hj)
      · rename_i l hlk
        simp only [Option.some.injEq] at hd; subst hd
        exact Rep.mono (s.blk b _ hlk) fun k hk => ⟨hok k hk, rfl⟩
      · cases hd
    · rename_i b
      obtain ⟨hl, rfl⟩ := hv.ptr_inv
      split at hd
      · rename_i T cs hlk
        split at hd
        · cases hd
        · rename_i hne
          obtain ⟨cs', hl', rfl⟩ := Option.map_eq_some_iff.1 hd
          obtain ⟨c, h1, h2, h3⟩ := s.blk b _ hlk
          obtain ⟨e1, q⟩ := mapM_get (a0 := .undef) (b0 := .undef) hl'
          have hpos : 0 < cs.length := List.length_pos_iff.2 hne
          refine .box cs' _ 0 (fun j => c.getD j undef) (hb b (by unfold idsD; exact List.mem_cons_self ..) _ hlk rfl) (by omega) (fun j hj => ?_) (fun j hj => ?_)
          · have hlt2 : j < c.size := by omega
            simp [World.cell?, h1, hlt2, Array.getD_eq_getD_getElem?]
          · refine s.purD hok k _ _ _ (q j (by omega)) (fun b' hb' => hb b' ?_) (h3 j (by omega))
            unfold idsD
            simp only [hlk]
            exact List.mem_cons_of_mem _ (List.mem_flatMap.2 ⟨_, getD_mem (by omega), hb'⟩)
      · rename_i cs hlk
        simp only [Option.some.injEq] at hd; subst hd
        exact Rep.mono (s.blk b _ hlk) fun k hk => ⟨hok k hk, rfl⟩
      · cases hd
    · exact (hv.leaf hd).mono fun k hk => ⟨hok k hk, rfl⟩
theorem Sim.pur (s : Sim P w0 S A N ρ t h a w) {ok' : Nat → Prop} (hok : ∀ k, okOf A ρ h w k → ok' k) {k : Nat} {d d' : D} {v : Value} (hd : pur h k d = some d')
    (hb : ∀ b ∈ ids h k d, ∀ x, look h b = some x → x.mutable = true → ok' (ρ b).blk) (hv : C ρ (Live h) (okOf A ρ h w) w d v) : Rep ok' w d' v := by
  unfold Am.pur at hd
  split at hd
  · rename_i cs
    obtain ⟨cs', h1, rfl⟩ := Option.map_eq_some_iff.1 hd
    obtain ⟨e, q⟩ := mapM_get (a0 := .undef) (b0 := .undef) h1
    obtain ⟨vs, rfl, hl, hc⟩ := hv.agg_inv
    refine .agg _ _ (by omega) fun i hi => s.purD hok k _ _ _ (q i (by omega)) (fun b' hb' => hb b' ?_) (hc i (by omega))
    exact List.mem_flatMap.2 ⟨_, getD_mem (by omega), hb'⟩
  · rename_i cs
    obtain ⟨cs', h1, rfl⟩ := Option.map_eq_some_iff.1 hd
    obtain ⟨e, q⟩ := mapM_get (a0 := .undef) (b0 := .undef) h1
    obtain ⟨vs, rfl, hl, hc⟩ := hv.tup_inv
    refine .tup _ _ (by omega) fun i hi => s.purD hok k _ _ _ (q i (by omega)) (fun b' hb' => hb b' ?_) (hc i (by omega))
    exact List.mem_flatMap.2 ⟨_, getD_mem (by omega), hb'⟩
  · rename_i h1 h2
    refine s.purD hok k _ _ _ hd (fun b' hb' => hb b' ?_) hv
    unfold ids
    split
    · exact absurd rfl (h1 _)
    · exact absurd rfl (h2 _)
    · exact hb'

/-! ### Rows and variables that are no more written -/
def frzB (h : HL) (b : Id) : Option Blk :=
  match look h b with
  | some (.row _ l) => (l.mapM (purE leaf)).map .froz
  | some (.var _ cs) => if cs = [] then none else (cs.mapM leaf).map .fvar
  | _ => none
def frz (h : HL) (bs : List Id) : HL := bs.filterMap fun b => (frzB h b).map fun y => (b, y)
theorem leaf_agg (cs : List D) : leaf (.agg cs) = none := rfl

/-- some blocks are no more written -/
theorem Sim.stills (s : Sim P w0 S A N ρ t h a w) {h2 : HL} (hh : ∀ b, look h2 b = look h b ∨ ∃ y, frzB h b = some y ∧ look h2 b = some y) : Sim P w0 S A N ρ t h2 a w := by
  have fz : ∀ b y, frzB h b = some y → (∃ x, look h b = some x ∧ x.mutable = true) ∧ y.mutable = false ∧ y.live = true := by
    intro b y hy
    unfold frzB at hy
    split at hy
    · rename_i E l hl
      obtain ⟨_, _, rfl⟩ := Option.map_eq_some_iff.1 hy
      exact ⟨⟨_, hl, rfl⟩, rfl, rfl⟩
    · rename_i T cs hl
      split at hy
      · cases hy
      · obtain ⟨_, _, rfl⟩ := Option.map_eq_some_iff.1 hy
        exact ⟨⟨_, hl, rfl⟩, rfl, rfl⟩
    · cases hy
  have mu : ∀ b y, look h2 b = some y → y.mutable = true → look h b = some y := by
    intro b y hy hmu
    rcases hh b with e | ⟨z, hz, e⟩
    · rw [← e]; exact hy
    · rw [e] at hy
      obtain rfl := Option.some.inj hy
      rw [(fz b z hz).2.1] at hmu; cases hmu
  have old : ∀ b y, look h2 b = some y → y.live = true → ∃ x, look h b = some x ∧ x.live = true := by
    intro b y hy hl
    rcases hh b with e | ⟨z, hz, e⟩
    · exact ⟨y, by rw [← e]; exact hy, hl⟩
    · obtain ⟨⟨x, h1, h2⟩, _⟩ := fz b z hz
      exact ⟨x, h1, by cases x <;> simp_all [Blk.mutable, Blk.live]⟩
  have hlv : ∀ b, Live h b → Live h2 b ∧ ρ b = ρ b := by
    intro b hb
    rcases hh b with e | ⟨z, hz, e⟩
    · exact ⟨by simpa [Live, e] using hb, rfl⟩
    · exact ⟨by simp [Live, e], rfl⟩
  have hok : ∀ k, okOf A ρ h w k → okOf A ρ h2 w k ∧ w.heap[k]? = w.heap[k]? := fun k hk => ⟨⟨hk.1, fun b y hy hmu => hk.2 b y (mu b y hy hmu) hmu⟩, rfl⟩
  refine s.step s.fr hlv hok (fun b y hy => ?_) (Nat.le_refl _) (fun b1 b2 y1 y2 hy1 hy2 hl1 hl2 he => ?_)
  · rcases hh b with e | ⟨z, hz, e⟩
    · exact .inl ⟨by rw [← e]; exact hy, fun _ => rfl⟩
    · rw [e] at hy
      obtain rfl := Option.some.inj hy
      obtain ⟨⟨x, hx, hxm⟩, hzm, hzl⟩ := fz b z hz
      have hxl : x.live = true := by cases x <;> simp_all [Blk.mutable, Blk.live]
      have hown := s.own b x hx hxl
      have hself : okOf A ρ h2 w (ρ b).blk := by
        refine ⟨⟨hown.1, hown.2.elim (s.inS _) (s.base _)⟩, fun b' y' hy' hmu he => ?_⟩
        have h3 := mu b' y' hy' hmu
        have := s.inj b' b y' x h3 hx (by cases y' <;> simp_all [Blk.mutable, Blk.live]) hxl he
        subst this
        rw [e] at hy'
        obtain rfl := Option.some.inj hy'
        rw [hzm] at hmu; cases hmu
      refine .inr ⟨?_, fun _ => hown⟩
      unfold frzB at hz
      split at hz
      · rename_i E l hl
        rw [hx] at hl
        obtain rfl := Option.some.inj hl
        obtain ⟨l', hl', rfl⟩ := Option.map_eq_some_iff.1 hz
        obtain ⟨c, h1, h2', h3, h4, h5, h6, h7, h8, h9⟩ := s.blk b _ hx
        exact rep_of_row (fun d d' hd => (leaf_ok hd).2.2) leaf_agg hl' h1 h2' h3 h4 h5 h6 h8 hself fun i j d' hi hj hd' => ((h9 i j hi hj).leaf hd').mono hok
      · rename_i T cs hl
        rw [hx] at hl
        obtain rfl := Option.some.inj hl
        split at hz
        · cases hz
        · rename_i hne
          obtain ⟨cs', hl', rfl⟩ := Option.map_eq_some_iff.1 hz
          obtain ⟨c, h1, h2', h3⟩ := s.blk b _ hx
          obtain ⟨e1, q⟩ := mapM_get (a0 := .undef) (b0 := .undef) hl'
          have hpos : 0 < cs.length := List.length_pos_iff.2 hne
          refine .box cs' _ 0 (fun j => c.getD j undef) hself (by omega) (fun j hj => ?_) (fun j hj => ((h3 j (by omega)).leaf (q j (by omega))).mono hok)
          have hlt2 : j < c.size := by omega
          simp [World.cell?, h1, hlt2, Array.getD_eq_getD_getElem?]
      · cases hz
  · obtain ⟨x1, a1, a2⟩ := old b1 y1 hy1 hl1
    obtain ⟨x2, c1, c2⟩ := old b2 y2 hy2 hl2
    exact s.inj b1 b2 x1 x2 a1 c1 a2 c2 he
theorem look_puts_frz (bs : List Id) (h' : HL) (b : Id) : look (puts (frz h bs) h') b = match (if b ∈ bs then frzB h b else none) with | some y => some y | none => look h' b := by
  induction bs generalizing h' with
  | nil => simp [frz, puts]
  | cons x bs ih =>
    cases hx : frzB h x with
    | none =>
      have e : frz h (x :: bs) = frz h bs := by simp [frz, hx]
      rw [e, ih]
      by_cases hb : b = x
      · subst hb; simp [hx]
      · simp [hb]
    | some y =>
      have e : frz h (x :: bs) = (x, y) :: frz h bs := by simp [frz, hx]
      rw [e]
      show look (puts (frz h bs) (put x y h')) b = _
      rw [ih, look_put]
      by_cases hb : b = x
      · subst hb
        simp only [List.mem_cons, true_or, if_true, hx]
        by_cases hm : b ∈ bs
        · simp [hm]
        · simp [hm]
      · simp [hb]
theorem Sim.frz_ok (s : Sim P w0 S A N ρ t h a w) (bs : List Id) : Sim P w0 S A N ρ t (puts (frz h bs) h) a w ∧ (∀ b, look (puts (frz h bs) h) b = look h b ∨ ∃ y, frzB h b = some y ∧ look (puts (frz h bs) h) b = some y) ∧
    ∀ b ∈ bs, ∀ y, frzB h b = some y → look (puts (frz h bs) h) b = some y := by
  have key : ∀ b, look (puts (frz h bs) h) b = look h b ∨ ∃ y, frzB h b = some y ∧ look (puts (frz h bs) h) b = some y := by
    intro b
    rw [look_puts_frz]
    by_cases hb : b ∈ bs
    · rw [if_pos hb]
      cases hy : frzB h b with
      | none => exact .inl rfl
      | some y => exact .inr ⟨y, rfl, rfl⟩
    · rw [if_neg hb]; exact .inl rfl
  refine ⟨s.stills key, key, fun b hb y hy => ?_⟩
  rw [look_puts_frz, if_pos hb, hy]
theorem frzB_old {b : Id} {y : Blk} (hy : frzB h b = some y) : (∃ x, look h b = some x ∧ x.mutable = true) ∧ y.mutable = false ∧ y.live = true := by
  unfold frzB at hy
  split at hy
  · rename_i E l hl
    obtain ⟨_, _, rfl⟩ := Option.map_eq_some_iff.1 hy
    exact ⟨⟨_, hl, rfl⟩, rfl, rfl⟩
  · rename_i T cs hl
    split at hy
    · cases hy
    · obtain ⟨_, _, rfl⟩ := Option.map_eq_some_iff.1 hy
      exact ⟨⟨_, hl, rfl⟩, rfl, rfl⟩
  · cases hy
end Go.Proofs.Ytkclhekkcffpoaa.Am
