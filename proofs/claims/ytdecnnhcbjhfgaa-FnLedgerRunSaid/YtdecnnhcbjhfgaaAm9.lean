/- The plain machine: slices of slices; freezing what is handed on. -/
import Derived.Test.YtdecnnhcbjhfgaaAm8
namespace Go.Proofs.Ytdecnnhcbjhfgaa.Am
set_option linter.unusedSimpArgs false
set_option linter.unusedVariables false
open Go Go.RowKit

variable {P : Program} {w0 : World} {S A : Nat → Prop} {N : Nat} {ρ : Nat → Pl} {t : List (Nat × D)} {h : List (Nat × Blk)} {a : Act} {w : World}

theorem getD_cut (l : List D) (hh ll i : Nat) (hi : i < hh - ll) : ((l.take hh).drop ll).getD i .undef = l.getD (ll + i) .undef := by
  have : ll + i < hh := by omega
  simp only [List.getD_eq_getElem?_getD, List.getElem?_drop, List.getElem?_take, this, if_true]

theorem rep_cut {ok : Nat → Prop} {T E : TypeId} {l : List D} {v : Value} {s hh ll : Nat} (hr : Rep ok w (.lst l) v) (hu : P.underlying T = some (.slice E)) (hs : sizeT P E = some s) (hso : szOr s l = s) (h1 : hh ≤ l.length) (h2 : ll ≤ hh)
    {lo hi : Option Value} (hlo : (lo = none ∧ ll = 0) ∨ ∃ k, lo = some (.int k (ll : Nat))) (hhi : (hi = none ∧ hh = l.length) ∨ ∃ k, hi = some (.int k (hh : Nat))) :
    ∃ v', (Instr.sliceAt T v lo hi none).run P w = .ok v' w ∧ Rep ok w (.lst ((l.take hh).drop ll)) v' := by
  obtain ⟨a', cap, rfl, hcap, hmax, ha⟩ : ∃ a cap, v = .slice a l.length cap ∧ l.length ≤ cap ∧ cap ≤ maxLen ∧ (a = none → cap = 0) := by
    cases hr with
    | none a cap ha hcap => exact ⟨a, cap, rfl, Nat.zero_le _, hcap, ha⟩
    | lst _ n b off cap f hn hcap hmax hok hsz hpos hc hr => subst hn; exact ⟨_, cap, rfl, hcap, hmax, fun h => by cases h⟩
  refine ⟨.slice (if cap = ll then a' else a'.map (·.add (ll * s))) (hh - ll) (cap - ll), ?_, ?_⟩
  · have b1 : ((hh : Nat) : Int) ≤ (cap : Nat) := by omega
    have b2 : ((ll : Nat) : Int) ≤ (hh : Nat) := by omega
    rcases hlo with ⟨rfl, rfl⟩ | ⟨k, rfl⟩ <;> rcases hhi with ⟨rfl, rfl⟩ | ⟨k', rfl⟩ <;>
      simp [Instr.sliceAt, Instr.slice, run_underlying hu, Instr.sliceBounds, Instr.sliceBound, asIntOf, run_size hs, h2] <;> (try (intro h; omega)) <;> (try omega)
    all_goals (first | (rw [if_pos (by omega)]; simp [run_size hs]; done) | skip)
    all_goals (try (rw [if_pos (by omega)]; simp [run_size hs]; rw [if_pos (by omega)]; simp [run_size hs]))
  · by_cases he : hh = ll
    · have : (l.take hh).drop ll = [] := List.eq_nil_of_length_eq_zero (by simp; omega)
      rw [this, show hh - ll = 0 by omega]
      refine Rep.none _ _ (fun h => ?_) (by omega)
      split at h
      · omega
      · cases a' with
        | none => have := ha rfl; omega
        | some ad => cases h
    · have hne : l ≠ [] := by rintro rfl; simp at h1; omega
      have hsz := szOr_ne hne hso
      cases hr with
      | none a cap ha hcap => exact absurd rfl hne
      | lst _ n b off cap f hn hcap' hmax' hok hwf hpos hc hr' =>
        have hlen : ((l.take hh).drop ll).length = hh - ll := by simp; omega
        have hmem : ∀ e ∈ (l.take hh).drop ll, e ∈ l := fun e he => List.mem_of_mem_take (List.mem_of_mem_drop he)
        have hsz2 : szl ((l.take hh).drop ll) = szl l := by
          cases hL : (l.take hh).drop ll with
          | nil => rw [hL] at hlen; simp at hlen; omega
          | cons e0 L0 => exact (hwf e0 (hmem e0 (by rw [hL]; exact List.mem_cons_self ..))).1
        rw [if_neg (by omega)]
        simp only [Option.map_some, add_none]
        refine .lst _ _ b (off + ll * s) _ (fun i j => f (ll + i) j) hlen (by omega) (by omega) hok (fun e he => by rw [hsz2]; exact hwf e (hmem e he)) (by rw [hsz2]; exact hpos) (fun i j hi hj => ?_) (fun i j hi hj => ?_)
        · rw [hsz2] at hj ⊢
          rw [← hc (ll + i) j (by omega) hj, hsz, Nat.add_mul]
          congr 2
          omega
        · rw [hsz2] at hj
          rw [getD_cut l hh ll i hi]
          exact hr' (ll + i) j (by omega) hj

theorem aBound_ok {L ok : Nat → Prop} {len dflt k : Nat} {d : Option D} {v : Option Value} (hd : aBound len d dflt = some k) (hv : (d = none ∧ v = none) ∨ ∃ d' v', d = some d' ∧ v = some v' ∧ C ρ L ok w d' v') (hdf : dflt ≤ len) :
    k ≤ len ∧ ((v = none ∧ k = dflt) ∨ ∃ q, v = some (.int q (k : Nat))) := by
  unfold aBound at hd
  rcases hv with ⟨rfl, rfl⟩ | ⟨d', v', rfl, rfl, hc⟩
  · simp only [Option.some.injEq] at hd
    subst hd
    exact ⟨hdf, .inl ⟨rfl, rfl⟩⟩
  · split at hd
    · rename_i he; cases he
    · rename_i q i he
      obtain rfl := Option.some.inj he
      obtain rfl := hc.int_inv
      split at hd
      · rename_i hi
        simp only [Option.some.injEq] at hd
        subst hd
        refine ⟨by omega, .inr ⟨q, ?_⟩⟩
        congr 2
        omega
      · cases hd
    · cases hd

theorem Sim.cut (s : Sim P w0 S A N ρ t h a w) {T : TypeId} {d d' : D} {lo hi : Option D} {u : List (Nat × Blk)} {v : Value} {vlo vhi : Option Value} (hd : aSlice P h T d lo hi = some (d', u))
    (hv : C ρ (Live h) (okOf A ρ h w) w d v) (hlo : (lo = none ∧ vlo = none) ∨ ∃ d' v', lo = some d' ∧ vlo = some v' ∧ C ρ (Live h) (okOf A ρ h w) w d' v') (hhi : (hi = none ∧ vhi = none) ∨ ∃ d' v', hi = some d' ∧ vhi = some v' ∧ C ρ (Live h) (okOf A ρ h w) w d' v') :
    ∃ v', (Instr.sliceAt T v vlo vhi none).run P w = .ok v' w ∧ Sim P w0 S A N ρ t (puts u h) a w ∧ C ρ (Live (puts u h)) (okOf A ρ (puts u h) w) w d' v' := by
  unfold aSlice at hd
  split at hd
  · rename_i hu
    split at hd
    · rename_i str
      obtain rfl := hv.str_inv
      split at hd
      · rename_i hh hbh
        obtain ⟨q1, q2⟩ := aBound_ok hbh hhi (Nat.le_refl _)
        split at hd
        · rename_i ll hbl
          obtain ⟨q3, q4⟩ := aBound_ok hbl hlo (Nat.zero_le _)
          simp only [Option.some.injEq, Prod.mk.injEq] at hd
          obtain ⟨rfl, rfl⟩ := hd
          refine ⟨.string (str.extract ll hh), ?_, s, .str _⟩
          have b1 : ((hh : Nat) : Int) ≤ (str.size : Nat) := by omega
          have b2 : ((ll : Nat) : Int) ≤ (hh : Nat) := by omega
          rcases q4 with ⟨rfl, rfl⟩ | ⟨k, rfl⟩ <;> rcases q2 with ⟨rfl, rfl⟩ | ⟨k', rfl⟩ <;>
            simp [Instr.sliceAt, Instr.slice, run_underlying hu, Instr.sliceBounds, Instr.sliceBound, asIntOf, q1, q3]
        · cases hd
      · cases hd
    · cases hd
  · rename_i E hu
    split at hd
    · rename_i sz l hs hl
      split at hd
      · rename_i hso
        split at hd
        · rename_i hh hbh
          obtain ⟨q1, q2⟩ := aBound_ok hbh hhi (Nat.le_refl _)
          split at hd
          · rename_i ll hbl
            obtain ⟨q3, q4⟩ := aBound_ok hbl hlo (Nat.zero_le _)
            have q4' : (vlo = none ∧ ll = 0) ∨ ∃ k, vlo = some (.int k (ll : Nat)) := q4
            have fin : ∀ {h' : List (Nat × Blk)}, Rep (okOf A ρ h' w) w (.lst l) v → ∃ v', (Instr.sliceAt T v vlo vhi none).run P w = .ok v' w ∧ C ρ (Live h') (okOf A ρ h' w) w (.lst ((l.take hh).drop ll)) v' := by
              intro h' hr
              obtain ⟨v', e1, e2⟩ := rep_cut (P := P) hr hu hs hso q1 q3 q4' q2
              exact ⟨v', e1, .pure e2⟩
            split at hd
            · rename_i b
              obtain ⟨hlb, rfl⟩ := hv.ref_inv
              split at hd
              · rename_i E' l' hb
                simp only [Am.elems, hb, Option.some.injEq] at hl
                subst hl
                simp only [Option.some.injEq, Prod.mk.injEq] at hd
                obtain ⟨rfl, rfl⟩ := hd
                have s' := s.freeze hb
                have hbk := s'.blk b (.froz l') (by rw [look_put]; simp)
                obtain ⟨v', e1, e2⟩ := fin hbk
                exact ⟨v', e1, s', e2⟩
              · rename_i hnr
                simp only [Option.some.injEq, Prod.mk.injEq] at hd
                obtain ⟨rfl, rfl⟩ := hd
                simp only [Am.elems] at hl
                split at hl
                · rename_i E' l' hb; exact absurd hb (hnr E' l')
                · rename_i l' hb
                  simp only [Option.some.injEq] at hl; subst hl
                  obtain ⟨v', e1, e2⟩ := fin (s.blk b _ hb)
                  exact ⟨v', e1, s, e2⟩
                · cases hl
            · cases hd
            · rename_i hnr hnv
              simp only [Option.some.injEq, Prod.mk.injEq] at hd
              obtain ⟨rfl, rfl⟩ := hd
              have hr : Rep (okOf A ρ h w) w (.lst l) v := by
                unfold Am.elems at hl
                split at hl
                · simp only [Option.some.injEq] at hl; subst hl; exact hv.lst_inv
                · simp only [Option.some.injEq] at hl; subst hl
                  obtain rfl := hv.nils_inv
                  exact .none _ _ (fun _ => rfl) (by unfold maxLen; omega)
                · rename_i b; exact absurd rfl (hnr b)
                · rename_i b o n; exact absurd rfl (hnv b o n)
                · cases hl
              obtain ⟨v', e1, e2⟩ := fin hr
              exact ⟨v', e1, s, e2⟩
          · cases hd
        · cases hd
      · cases hd
    · cases hd
  · rename_i n E hu
    split at hd
    · rename_i b o
      split at hd
      · rename_i T' cs hs hb
        split at hd
        · rename_i hmax
          simp only [Option.some.injEq, Prod.mk.injEq] at hd
          obtain ⟨rfl, rfl⟩ := hd
          obtain ⟨hl, rfl⟩ := hv.ptr_inv
          rcases hlo with ⟨_, rfl⟩ | ⟨_, _, h1, _⟩
          · rcases hhi with ⟨_, rfl⟩ | ⟨_, _, h1, _⟩
            · refine ⟨.slice (some ⟨(ρ b).blk, o, none⟩) n n, ?_, s, .vref b o n hl hmax⟩
              simp [Instr.sliceAt, Instr.slice, run_underlying hu, Instr.sliceBounds, run_size hs, Instr.sureAddr, asAddr, add_none]
            · cases h1
          · cases h1
        · cases hd
      · cases hd
    · cases hd
  · cases hd

/-! ### What is handed on is no more written -/
def pur0 (h : List (Nat × Blk)) : D → Option D
  | .ref b => (match look h b with
    | some (.row _ l) => some (.lst l)
    | some (.froz l) => some (.lst l)
    | _ => none)
  | .nils => some (.lst [])
  | d => if d.pure0 = true then some d else none
/-- what a value reads as -/
def pur (h : List (Nat × Blk)) : D → Option D
  | .agg cs => (cs.mapM (pur0 h)).map .agg
  | .tup cs => (cs.mapM (pur0 h)).map .tup
  | d => pur0 h d
def ids0 : D → List Nat
  | .ref b => [b]
  | _ => []
def ids : D → List Nat
  | .agg cs => cs.flatMap ids0
  | .tup cs => cs.flatMap ids0
  | d => ids0 d
/-- its rows are no more written -/
def frz (h : List (Nat × Blk)) (bs : List Nat) : List (Nat × Blk) := bs.filterMap fun b => match look h b with | some (.row _ l) => some (b, .froz l) | _ => none

theorem Sim.frz_ok (s : Sim P w0 S A N ρ t h a w) : ∀ (bs : List Nat) (h' : List (Nat × Blk)), Sim P w0 S A N ρ t h' a w → (∀ b, look h' b = look h b ∨ ∃ E l, look h b = some (.row E l) ∧ look h' b = some (.froz l)) →
    Sim P w0 S A N ρ t (puts (frz h bs) h') a w ∧ (∀ b, look (puts (frz h bs) h') b = look h b ∨ ∃ E l, look h b = some (.row E l) ∧ look (puts (frz h bs) h') b = some (.froz l)) ∧
      (∀ b E l, b ∈ bs → look h b = some (.row E l) → look (puts (frz h bs) h') b = some (.froz l))
  | [], h', s', hh => ⟨s', hh, fun b E l hb => by cases hb⟩
  | b :: bs, h', s', hh => by
    cases hb : look h b with
    | none =>
      have e : frz h (b :: bs) = frz h bs := by simp [frz, hb]
      rw [e]
      obtain ⟨r1, r2, r3⟩ := s.frz_ok bs h' s' hh
      refine ⟨r1, r2, fun b' E l hb' hl => ?_⟩
      rcases List.mem_cons.1 hb' with rfl | h'
      · rw [hb] at hl; cases hl
      · exact r3 b' E l h' hl
    | some x =>
      cases x with
      | row E l =>
        have e : frz h (b :: bs) = (b, .froz l) :: frz h bs := by simp [frz, hb]
        rw [e]
        have hs2 : Sim P w0 S A N ρ t (put b (.froz l) h') a w ∧ (∀ b', look (put b (.froz l) h') b' = look h b' ∨ ∃ E2 l2, look h b' = some (.row E2 l2) ∧ look (put b (.froz l) h') b' = some (.froz l2)) := by
          constructor
          · rcases hh b with h1 | ⟨E', l', h1, h2⟩
            · exact s'.freeze (h1.trans hb)
            · rw [hb] at h1
              simp only [Option.some.injEq, Blk.row.injEq] at h1
              obtain ⟨rfl, rfl⟩ := h1
              refine s'.step s'.fr (fun b' hb' => ⟨hb'.put, rfl⟩) (fun k hk => ⟨⟨hk.1, fun b' y hy hmu => ?_⟩, rfl⟩) (fun b' y hy => ?_) (Nat.le_refl _) (fun b1 b2 y1 y2 hy1 hy2 hl1 hl2 he => ?_)
              · rw [look_put] at hy
                by_cases e : b' = b
                · simp only [e, if_true, Option.some.injEq] at hy; subst hy; simp [Blk.mutable] at hmu
                · simp only [e, if_false] at hy; exact hk.2 b' y hy hmu
              · rw [look_put] at hy
                by_cases e : b' = b
                · subst e; simp only [if_true, Option.some.injEq] at hy; subst hy; exact .inl ⟨h2, fun _ => rfl⟩
                · simp only [e, if_false] at hy; exact .inl ⟨hy, fun _ => rfl⟩
              · have q : ∀ b1 y1, look (put b (.froz l) h') b1 = some y1 → look h' b1 = some y1 := by
                  intro b1 y1 hy
                  rw [look_put] at hy
                  by_cases e : b1 = b
                  · subst e; simp only [if_true, Option.some.injEq] at hy; subst hy; exact h2
                  · simp only [e, if_false] at hy; exact hy
                exact s'.inj b1 b2 y1 y2 (q _ _ hy1) (q _ _ hy2) hl1 hl2 he
          · intro b'
            simp only [look_put]
            by_cases e : b' = b
            · subst e; exact .inr ⟨E, l, hb, by simp⟩
            · simp only [e, if_false]; exact hh b'
        obtain ⟨r1, r2, r3⟩ := s.frz_ok bs (put b (.froz l) h') hs2.1 hs2.2
        refine ⟨r1, r2, fun b' E' l' hb' hl => ?_⟩
        rcases List.mem_cons.1 hb' with rfl | hm
        · rw [hb] at hl
          simp only [Option.some.injEq, Blk.row.injEq] at hl
          obtain ⟨rfl, rfl⟩ := hl
          rcases r2 b' with q | ⟨E2, l2, q1, q2⟩
          · -- the later freezings leave it
            have := hs2.2 b'
            by_cases hmm : b' ∈ bs
            · exact r3 b' _ _ hmm hb
            · have key : ∀ (us : List (Nat × Blk)) (g : List (Nat × Blk)), (∀ x ∈ us, x.1 ≠ b') → look (puts us g) b' = look g b' := by
                intro us
                induction us with
                | nil => intro g _; rfl
                | cons x us ih =>
                  intro g hx
                  show look (puts us (put x.1 x.2 g)) b' = look g b'
                  rw [ih _ fun y hy => hx y (List.mem_cons_of_mem _ hy), look_put, if_neg (Ne.symm (hx x (List.mem_cons_self ..)))]
              have hk := key (frz h bs) (put b' (.froz l) h') (by
                intro x hx
                obtain ⟨c, hc, hx'⟩ := List.mem_filterMap.1 hx
                rintro rfl
                cases hlc : look h c with
                | none => rw [hlc] at hx'; cases hx'
                | some y =>
                  rw [hlc] at hx'
                  cases y <;> simp at hx'
                  subst hx'
                  exact hmm hc)
              show look (puts (frz h bs) (put b' (.froz l) h')) b' = some (.froz l)
              rw [hk, look_put]
              simp
          · rw [hb] at q1
            simp only [Option.some.injEq, Blk.row.injEq] at q1
            obtain ⟨rfl, rfl⟩ := q1
            exact q2
        · exact r3 b' E' l' hm hl
      | _ =>
        have e : frz h (b :: bs) = frz h bs := by simp [frz, hb]
        rw [e]
        obtain ⟨r1, r2, r3⟩ := s.frz_ok bs h' s' hh
        refine ⟨r1, r2, fun b' E l hb' hl => ?_⟩
        rcases List.mem_cons.1 hb' with rfl | h'
        · rw [hb] at hl; cases hl
        · exact r3 b' E l h' hl

theorem Sim.freezeAll (s : Sim P w0 S A N ρ t h a w) (bs : List Nat) : Sim P w0 S A N ρ t (puts (frz h bs) h) a w := (s.frz_ok bs h s fun _ => .inl rfl).1

/-- once its rows are no more written, a value reads as it says -/
theorem Sim.pur0 (s : Sim P w0 S A N ρ t h a w) {bs : List Nat} {d d' : D} {v : Value} (hd : pur0 h d = some d') (hb : ∀ b ∈ ids0 d, b ∈ bs) (hv : C ρ (Live h) (okOf A ρ h w) w d v) : Rep (okOf A ρ (puts (frz h bs) h) w) w d' v := by
  obtain ⟨r1, r2, r3⟩ := s.frz_ok bs h s fun _ => .inl rfl
  have hok : ∀ k, okOf A ρ h w k → okOf A ρ (puts (frz h bs) h) w k ∧ w.heap[k]? = w.heap[k]? := by
    rintro k ⟨hk, hm⟩
    refine ⟨⟨hk, fun b y hy hmu => ?_⟩, rfl⟩
    rcases r2 b with q | ⟨E, l, q1, q2⟩
    · rw [q] at hy; exact hm b y hy hmu
    · rw [q2] at hy
      simp only [Option.some.injEq] at hy
      subst hy
      simp [Blk.mutable] at hmu
  unfold Am.pur0 at hd
  split at hd
  · rename_i b
    obtain ⟨hl, rfl⟩ := hv.ref_inv
    split at hd
    · rename_i E l hlk
      simp only [Option.some.injEq] at hd; subst hd
      have := r1.blk b _ (r3 b E l (hb b (by simp [ids0])) hlk)
      exact this
    · rename_i l hlk
      simp only [Option.some.injEq] at hd; subst hd
      exact Rep.mono (s.blk b _ hlk) hok
    · cases hd
  · simp only [Option.some.injEq] at hd; subst hd
    obtain rfl := hv.nils_inv
    exact .none _ _ (fun _ => rfl) (by unfold maxLen; omega)
  · split at hd
    · rename_i hp
      simp only [Option.some.injEq] at hd; subst hd
      exact (hv.rep0 hp).mono hok
    · cases hd

theorem mapM_pur0 {f : D → Option D} : ∀ {cs cs' : List D}, cs.mapM f = some cs' → cs'.length = cs.length ∧ ∀ i, i < cs.length → f (cs.getD i .undef) = some (cs'.getD i .undef)
  | [], cs', h => by simp at h; subst h; simp
  | d :: cs, cs', h => by
    simp only [List.mapM_cons, Option.bind_eq_bind, Option.bind_eq_some_iff, Option.pure_def, Option.some.injEq] at h
    obtain ⟨d', h1, cs2, h2, rfl⟩ := h
    obtain ⟨e, ih⟩ := mapM_pur0 h2
    refine ⟨by simp [e], fun i hi => ?_⟩
    cases i with
    | zero => simpa using h1
    | succ i => simpa using ih i (by simpa using hi)

theorem Sim.pur (s : Sim P w0 S A N ρ t h a w) {bs : List Nat} {d d' : D} {v : Value} (hd : pur h d = some d') (hb : ∀ b ∈ ids d, b ∈ bs) (hv : C ρ (Live h) (okOf A ρ h w) w d v) : Rep (okOf A ρ (puts (frz h bs) h) w) w d' v := by
  have all : ∀ {cs cs' : List D} {vs : Array Value}, cs.mapM (Am.pur0 h) = some cs' → (∀ b ∈ cs.flatMap ids0, b ∈ bs) → cs.length = vs.size → (∀ i, i < cs.length → C ρ (Live h) (okOf A ρ h w) w (cs.getD i .undef) (vs.getD i undef)) →
      cs'.length = vs.size ∧ ∀ i, i < cs'.length → Rep (okOf A ρ (puts (frz h bs) h) w) w (cs'.getD i .undef) (vs.getD i undef) := by
    intro cs cs' vs hm hb hl hc
    obtain ⟨e, hq⟩ := mapM_pur0 hm
    refine ⟨by omega, fun i hi => s.pur0 (hq i (by omega)) (fun b hbi => hb b ?_) (hc i (by omega))⟩
    have hi' : i < cs.length := by omega
    refine List.mem_flatMap.2 ⟨cs.getD i .undef, ?_, hbi⟩
    rw [List.getD_eq_getElem?_getD, List.getElem?_eq_getElem hi']
    exact List.getElem_mem hi'
  unfold Am.pur at hd
  split at hd
  · obtain ⟨cs', hm, rfl⟩ := Option.map_eq_some_iff.1 hd
    obtain ⟨vs, rfl, hl, hc⟩ := hv.agg_inv
    obtain ⟨e, hq⟩ := all hm hb hl hc
    exact .agg _ _ e hq
  · obtain ⟨cs', hm, rfl⟩ := Option.map_eq_some_iff.1 hd
    obtain ⟨vs, rfl, hl, hc⟩ := hv.tup_inv
    obtain ⟨e, hq⟩ := all hm hb hl hc
    exact .tup _ _ e hq
  · rename_i hna hnt
    refine s.pur0 hd (fun b hbi => hb b ?_) hv
    cases d <;> first | exact hbi | exact absurd rfl (hna _) | exact absurd rfl (hnt _)
end Go.Proofs.Ytdecnnhcbjhfgaa.Am
