/- The plain machine: a call keeps the frame and the world as they are said to be. -/
import Derived.Test.YtdecnnhcbjhfgaaAm10
namespace Go.Proofs.Ytdecnnhcbjhfgaa.Am
set_option linter.unusedSimpArgs false
set_option linter.unusedVariables false
open Go Go.RowKit

variable {P : Program} {w0 : World} {S A : Nat → Prop} {N : Nat} {ρ : Nat → Pl} {t : List (Nat × D)} {h : List (Nat × Blk)} {a : Act} {w : World}

theorem look_puts_other {α : Type} : ∀ (us g : List (Nat × α)) (b : Nat), (∀ x ∈ us, x.1 ≠ b) → look (puts us g) b = look g b
  | [], g, b, _ => rfl
  | x :: us, g, b, hx => by
    show look (puts us (put x.1 x.2 g)) b = look g b
    rw [look_puts_other us _ b fun y hy => hx y (List.mem_cons_of_mem _ hy), look_put, if_neg (Ne.symm (hx x (List.mem_cons_self ..)))]
theorem look_puts_mem {α : Type} : ∀ (us g : List (Nat × α)) (b : Nat) (y : α), (us.map (·.1)).Nodup → (b, y) ∈ us → look (puts us g) b = some y
  | [], g, b, y, _, hm => by cases hm
  | x :: us, g, b, y, hn, hm => by
    simp only [List.map_cons, List.nodup_cons] at hn
    show look (puts us (put x.1 x.2 g)) b = some y
    rcases List.mem_cons.1 hm with rfl | hm
    · rw [look_puts_other us _ b fun z hz e => hn.1 (List.mem_map.2 ⟨z, hz, e⟩), look_put]
      simp
    · exact look_puts_mem us _ b y hn.2 hm
theorem puts_append {α : Type} (u v g : List (Nat × α)) : puts (u ++ v) g = puts v (puts u g) := by simp [puts, List.foldl_append]

/-- a value as it reads in whatever set of blocks holds its rows -/
theorem Sim.pur0' (s : Sim P w0 S A N ρ t h a w) {ok' : Nat → Prop} {d d' : D} {v : Value} (hd : Am.pur0 h d = some d') (hok : ∀ k, okOf A ρ h w k → ok' k) (hrow : ∀ b ∈ ids0 d, ∀ E l, look h b = some (.row E l) → ok' (ρ b).blk) (hv : C ρ (Live h) (okOf A ρ h w) w d v) : Rep ok' w d' v := by
  unfold Am.pur0 at hd
  split at hd
  · rename_i b
    obtain ⟨hl, rfl⟩ := hv.ref_inv
    split at hd
    · rename_i E l hlk
      simp only [Option.some.injEq] at hd; subst hd
      have hb := s.blk b _ hlk
      have hsl := SliceAt.of_row hb
      obtain ⟨c, h1, h2, h3, h4, h5, h6, h7, h8, h9⟩ := hb
      cases l with
      | nil =>
        simp only [List.length_nil] at h3
        rw [← h3]
        exact .none _ _ (fun h => by cases h) h5
      | cons e0 l0 =>
        obtain ⟨a', cap, e1, e2, e3, e4, e5⟩ := hsl
        obtain ⟨b', off, f, rfl, p1, p2, p3, p4⟩ := e5 (by simp)
        simp only [Value.slice.injEq, Option.some.injEq, Addr.mk.injEq] at e1
        obtain ⟨⟨q1, q2, _⟩, q3, q4⟩ := e1
        subst q1 q2
        rw [q3, q4]
        exact .lst _ _ _ _ cap f rfl (by omega) (by omega) (hrow b (by simp [ids0]) E _ hlk) p2 p1 p3 fun i j hi hj => (p4 i j hi hj).mono fun k hk => ⟨hok k hk, rfl⟩
    · rename_i l hlk
      simp only [Option.some.injEq] at hd; subst hd
      exact Rep.mono (s.blk b _ hlk) fun k hk => ⟨hok k hk, rfl⟩
    · cases hd
  · simp only [Option.some.injEq] at hd; subst hd
    obtain rfl := hv.nils_inv
    exact .none _ _ (fun _ => rfl) (by unfold maxLen; omega)
  · split at hd
    · rename_i hp
      simp only [Option.some.injEq] at hd; subst hd
      exact (hv.rep0 hp).mono fun k hk => ⟨hok k hk, rfl⟩
    · cases hd

theorem Sim.pur' (s : Sim P w0 S A N ρ t h a w) {ok' : Nat → Prop} {d d' : D} {v : Value} (hd : Am.pur h d = some d') (hok : ∀ k, okOf A ρ h w k → ok' k) (hrow : ∀ b ∈ ids d, ∀ E l, look h b = some (.row E l) → ok' (ρ b).blk) (hv : C ρ (Live h) (okOf A ρ h w) w d v) : Rep ok' w d' v := by
  have all : ∀ {cs cs' : List D} {vs : Array Value}, cs.mapM (Am.pur0 h) = some cs' → (∀ b ∈ cs.flatMap ids0, ∀ E l, look h b = some (.row E l) → ok' (ρ b).blk) → cs.length = vs.size → (∀ i, i < cs.length → C ρ (Live h) (okOf A ρ h w) w (cs.getD i .undef) (vs.getD i undef)) →
      cs'.length = vs.size ∧ ∀ i, i < cs'.length → Rep ok' w (cs'.getD i .undef) (vs.getD i undef) := by
    intro cs cs' vs hm hb hl hc
    obtain ⟨e, hq⟩ := mapM_pur0 hm
    refine ⟨by omega, fun i hi => s.pur0' (hq i (by omega)) hok (fun b hbi => hb b ?_) (hc i (by omega))⟩
    have hi' : i < cs.length := by omega
    refine List.mem_flatMap.2 ⟨cs.getD i .undef, ?_, hbi⟩
    rw [List.getD_eq_getElem?_getD, List.getElem?_eq_getElem hi']
    exact List.getElem_mem hi'
  unfold Am.pur at hd
  split at hd
  · obtain ⟨cs', hm, rfl⟩ := Option.map_eq_some_iff.1 hd
    obtain ⟨vs, rfl, hl, hc⟩ := hv.agg_inv
    obtain ⟨e, hq⟩ := all hm hrow hl hc
    exact .agg _ _ e hq
  · obtain ⟨cs', hm, rfl⟩ := Option.map_eq_some_iff.1 hd
    obtain ⟨vs, rfl, hl, hc⟩ := hv.tup_inv
    obtain ⟨e, hq⟩ := all hm hrow hl hc
    exact .tup _ _ e hq
  · rename_i hna hnt
    refine s.pur0' hd hok (fun b hbi => hrow b ?_) hv
    cases d <;> first | exact hbi | exact absurd rfl (hna _) | exact absurd rfl (hnt _)

theorem Rep.lst_nil {ok ok' : Nat → Prop} {w w' : World} {v : Value} (h : Rep ok w (.lst []) v) : Rep ok' w' (.lst []) v := by
  cases h with
  | none a cap ha hcap => exact .none _ _ ha hcap
  | lst _ n b off cap f hn hcap hmax hok hsz hpos hc hr => simp [szl] at hpos
theorem mutable_live {x : Blk} (h : x.mutable = true) : x.live = true := by cases x <;> first | rfl | cases h
theorem renB_mutable (g : Nat → Nat) (x : Blk) : (renB g x).mutable = x.mutable := by cases x <;> rfl
theorem renB_live (g : Nat → Nat) (x : Blk) : (renB g x).live = x.live := by cases x <;> rfl

theorem BlkOK.ren {A' : Nat → Prop} {ρ' : Nat → Pl} {h' : List (Nat × Blk)} (g : Nat → Nat) {i : Nat} {x : Blk} (hb : BlkOK P A ρ h w i x) (he : ρ' (g i) = ρ i) {good : D → Prop}
    (hc : ∀ d v, good d → C ρ (Live h) (okOf A ρ h w) w d v → C ρ' (Live h') (okOf A' ρ' h' w) w (renD g d) v) (hr : ∀ d v, good d → Rep (okOf A ρ h w) w d v → Rep (okOf A' ρ' h' w) w d v)
    (hg : match x with | .var _ cs => ∀ d ∈ cs, good d | .row _ l => ∀ e ∈ l, ∀ d ∈ e.cells, good d | .froz l => l = [] ∨ good (.lst l) | .gone => True) : BlkOK P A' ρ' h' w (g i) (renB g x) := by
  cases x with
  | var T cs =>
    obtain ⟨c, h1, h2, h3⟩ := hb
    simp only [renB, BlkOK, he]
    refine ⟨c, h1, by simpa using h2, fun j hj => ?_⟩
    have hj' : j < cs.length := by simpa using hj
    have := hc _ _ (hg (cs.getD j .undef) (by rw [List.getD_eq_getElem?_getD, List.getElem?_eq_getElem hj']; exact List.getElem_mem hj')) (h3 j hj')
    simpa [List.getD_eq_getElem?_getD, hj'] using this
  | row E l =>
    obtain ⟨c, h1, h2, h3, h4, h5, h6, h7, h8, h9⟩ := hb
    simp only [renB, BlkOK, he]
    refine ⟨c, h1, h2, h3, h4, h5, h6, h7, h8, fun k j hk hj => hr _ _ ?_ (h9 k j hk hj)⟩
    have hm : l.getD k .undef ∈ l := by rw [List.getD_eq_getElem?_getD, List.getElem?_eq_getElem hk]; exact List.getElem_mem hk
    refine hg _ hm _ ?_
    have hj' : j < (l.getD k .undef).cells.length := by rw [(h8 _ hm).1]; exact hj
    rw [List.getD_eq_getElem?_getD (i := j), List.getElem?_eq_getElem hj']
    exact List.getElem_mem hj'
  | froz l =>
    simp only [renB, BlkOK, he] at hb ⊢
    rcases hg with rfl | hg
    · exact hb.lst_nil
    · exact hr _ _ hg hb
  | gone => trivial

theorem mapM_len {α β : Type} {f : α → Option β} : ∀ {l : List α} {l' : List β}, l.mapM f = some l' → l'.length = l.length ∧ ∀ i, i < l.length → ∀ x, l[i]? = some x → ∃ y, f x = some y ∧ l'[i]? = some y
  | [], l', h => by simp at h; subst h; simp
  | d :: l, l', h => by
    simp only [List.mapM_cons, Option.bind_eq_bind, Option.bind_eq_some_iff, Option.pure_def, Option.some.injEq] at h
    obtain ⟨d', h1, l2, h2, rfl⟩ := h
    obtain ⟨e, ih⟩ := mapM_len h2
    refine ⟨by simp [e], fun i hi x hx => ?_⟩
    cases i with
    | zero => simp at hx; subst hx; exact ⟨d', h1, by simp⟩
    | succ i => simpa using ih i (by simpa using hi) x (by simpa using hx)

theorem nodup_get {l : List Nat} (hn : l.Nodup) {i j : Nat} (hi : i < l.length) (hj : j < l.length) (he : l.getD i 0 = l.getD j 0) : i = j := by
  simp only [List.getD_eq_getElem?_getD, List.getElem?_eq_getElem hi, List.getElem?_eq_getElem hj, Option.getD_some] at he
  rcases Nat.lt_trichotomy i j with hlt | heq | hgt
  · exact absurd he (List.pairwise_iff_getElem.1 hn i j hi hj hlt)
  · exact heq
  · exact absurd he.symm (List.pairwise_iff_getElem.1 hn j i hj hi hgt)

set_option maxHeartbeats 1000000 in
/-- what is known once the callee has returned -/
theorem Sim.back {ps : List Nat} {n : Nat} {hin hout : List Blk} {r : D} {h1 : List (Nat × Blk)} (s1 : Sim P w0 S A N ρ t h1 a w) (hnd : ps.Nodup) (hlen : hin.length = ps.length) (hvar : ∀ b ∈ ps, ∃ T cs, look h1 b = some (.var T cs))
    (hnew : ∀ j, j < hout.length - ps.length → look h1 (n + j) = none) {K : Nat → Prop} {ρ' : Nat → Pl} {w' : World} {u : Value} (hρ : ∀ b, b < hin.length → ρ' b = ρ (ps.getD b 0)) (hle : hin.length ≤ hout.length)
    (sc : Sim P w (inB (fun i => ρ (ps.getD i 0)) hin.length) K 0 ρ' [] (idx hout) emptyA w') (hr : C ρ' (Live (idx hout)) (okOf K ρ' (idx hout) w') w' r u)
    (hmode : (noMem r = true ∧ ∀ x ∈ hout, noMemB x = true) ∨ ∀ k, K k → okOf A ρ h1 w k ∨ inB (fun i => ρ (ps.getD i 0)) hin.length k ∨ w.heap.size ≤ k) :
    ∃ ρ2, Ext h1 ρ ρ2 ∧ Sim P w0 S A N ρ2 t (puts (news ps n hout) h1) a w' ∧ C ρ2 (Live (puts (news ps n hout) h1)) (okOf A ρ2 (puts (news ps n hout) h1) w') w' (renD (nameOf ps n) r) u := by
  have hps : ∀ i, i < ps.length → ps.getD i 0 ∈ ps := fun i hi => by rw [List.getD_eq_getElem?_getD, List.getElem?_eq_getElem hi]; exact List.getElem_mem hi
  have hnp : ∀ j, j < hout.length - ps.length → n + j ∉ ps := fun j hj hm => by
    obtain ⟨T, cs, e⟩ := hvar _ hm
    rw [hnew j hj] at e; cases e
  let g := nameOf ps n
  have g1 : ∀ i, i < ps.length → g i = ps.getD i 0 := fun i hi => by simp only [g, nameOf, if_pos hi]
  have g2 : ∀ i, ¬ i < ps.length → g i = n + (i - ps.length) := fun i hi => by simp only [g, nameOf, if_neg hi]
  have ginj : ∀ i j, i < hout.length → j < hout.length → g i = g j → i = j := by
    intro i j hi hj he
    by_cases a1 : i < ps.length <;> by_cases a2 : j < ps.length
    · rw [g1 i a1, g1 j a2] at he; exact nodup_get hnd a1 a2 he
    · rw [g1 i a1, g2 j a2] at he
      exact absurd (he ▸ hps i a1) (hnp _ (by omega))
    · rw [g2 i a1, g1 j a2] at he
      exact absurd (he.symm ▸ hps j a2) (hnp _ (by omega))
    · rw [g2 i a1, g2 j a2] at he; omega
  let ρ2 : Nat → Pl := fun b => if b ∈ ps then ρ b else if n ≤ b ∧ b < n + (hout.length - ps.length) then ρ' (ps.length + (b - n)) else ρ b
  have r1 : ∀ i, i < hout.length → ρ2 (g i) = ρ' i := by
    intro i hi
    by_cases a1 : i < ps.length
    · rw [g1 i a1]; simp only [ρ2, if_pos (hps i a1)]; exact (hρ i (by omega)).symm
    · rw [g2 i a1]
      simp only [ρ2]
      rw [if_neg (hnp _ (by omega)), if_pos ⟨by omega, by omega⟩, show ps.length + (n + (i - ps.length) - n) = i by omega]
  have hkeys : ((news ps n hout).map (·.1)).Nodup := by
    simp only [news, List.map_map]
    rw [List.Nodup, List.pairwise_map]
    refine List.Pairwise.imp_of_mem (R := fun x y : Blk × Nat => x.2 < y.2) ?_ ?_
    · rintro ⟨x, i⟩ ⟨y, j⟩ hx hy hlt
      have b1 := (List.mem_zipIdx hx).2.1
      have b2 := (List.mem_zipIdx hy).2.1
      simp only at b1 b2 hlt
      intro e
      have := ginj i j (by omega) (by omega) e
      omega
    · have := List.pairwise_lt_range' (s := 0) (n := hout.length)
      rw [← List.zipIdx_map_snd 0 hout, List.pairwise_map] at this
      exact this
  have hmem : ∀ i x, hout[i]? = some x → (g i, renB g x) ∈ news ps n hout := by
    intro i x hx
    refine List.mem_map.2 ⟨(x, i), List.mk_mem_zipIdx_iff_getElem?.2 hx, rfl⟩
  let h2 := puts (news ps n hout) h1
  have l1 : ∀ i x, hout[i]? = some x → look h2 (g i) = some (renB g x) := fun i x hx => look_puts_mem _ _ _ _ hkeys (hmem i x hx)
  have l2 : ∀ b, (∀ i, i < hout.length → g i ≠ b) → look h2 b = look h1 b := by
    intro b hb
    refine look_puts_other _ _ _ ?_
    rintro ⟨k, y⟩ hx
    obtain ⟨⟨x, i⟩, hm, he⟩ := List.mem_map.1 hx
    simp only [Prod.mk.injEq] at he
    have := (List.mem_zipIdx hm).2.1
    rw [← he.1]
    exact hb i (by omega)
  have cases2 : ∀ b y, look h2 b = some y → (∃ i x, hout[i]? = some x ∧ i < hout.length ∧ b = g i ∧ y = renB g x) ∨ (look h1 b = some y ∧ ∀ i, i < hout.length → g i ≠ b) := by
    intro b y hy
    by_cases hb : ∃ i, i < hout.length ∧ g i = b
    · obtain ⟨i, hi, rfl⟩ := hb
      have e : hout[i]? = some hout[i] := List.getElem?_eq_getElem hi
      rw [l1 i _ e] at hy
      exact .inl ⟨i, _, e, hi, rfl, (Option.some.inj hy).symm⟩
    · have hb' : ∀ i, i < hout.length → g i ≠ b := fun i hi e => hb ⟨i, hi, e⟩
      rw [l2 b hb'] at hy
      exact .inr ⟨hy, hb'⟩
  have rother : ∀ b, Live h1 b → (∀ i, i < hout.length → g i ≠ b) → ρ2 b = ρ b := by
    intro b hl hb
    simp only [ρ2]
    by_cases hp : b ∈ ps
    · simp [hp]
    · rw [if_neg hp, if_neg]
      rintro ⟨q1, q2⟩
      have := hnew (b - n) (by omega)
      rw [show n + (b - n) = b by omega] at this
      simp [Live, this] at hl
  have hlive : ∀ b, Live h1 b → Live h2 b ∧ ρ2 b = ρ b := by
    intro b hl
    by_cases hb : ∃ i, i < hout.length ∧ g i = b
    · obtain ⟨i, hi, rfl⟩ := hb
      refine ⟨by simp [Live, l1 i _ (List.getElem?_eq_getElem hi)], ?_⟩
      by_cases a1 : i < ps.length
      · rw [r1 i hi, g1 i a1]; exact hρ i (by omega)
      · rw [g2 i a1] at hl
        simp [Live, hnew _ (show i - ps.length < hout.length - ps.length by omega)] at hl
    · have hb' : ∀ i, i < hout.length → g i ≠ b := fun i hi e => hb ⟨i, hi, e⟩
      exact ⟨by simpa [Live, l2 b hb'] using hl, rother b hl hb'⟩
  have hvl : ∀ b ∈ ps, ∃ x, look h1 b = some x ∧ x.mutable = true ∧ x.live = true := fun b hb => by
    obtain ⟨T, cs, e⟩ := hvar b hb
    exact ⟨_, e, rfl, rfl⟩
  have hin_own : ∀ k, inB (fun i => ρ (ps.getD i 0)) hin.length k → k < w.heap.size ∧ (S k ∨ w0.heap.size ≤ k) := by
    rintro k ⟨b, hb, rfl⟩
    obtain ⟨x, e, _, hl⟩ := hvl _ (hps b (by omega))
    exact s1.own _ x e hl
  -- what is in no block of the caller's own, before, is in none after
  have hok : ∀ k, okOf A ρ h1 w k → okOf A ρ2 h2 w' k ∧ w'.heap[k]? = w.heap[k]? := by
    rintro k ⟨⟨hk, hA⟩, hm⟩
    have hni : ¬ inB (fun i => ρ (ps.getD i 0)) hin.length k := by
      rintro ⟨b, hb, rfl⟩
      obtain ⟨x, e, hmu, _⟩ := hvl _ (hps b (by omega))
      exact hm _ x e hmu rfl
    refine ⟨⟨⟨Nat.lt_of_lt_of_le hk sc.fr.size, hA⟩, fun b y hy hmu => ?_⟩, sc.fr.block k hk hni⟩
    rcases cases2 b y hy with ⟨i, x, hx, hi, rfl, rfl⟩ | ⟨hy1, hne⟩
    · rw [r1 i hi]
      have hxl : x.live = true := mutable_live (by rw [← renB_mutable g]; exact hmu)
      have := sc.own i x (by rw [look_idx]; exact hx) hxl
      rcases this.2 with ⟨b', hb', e⟩ | h'
      · intro e2
        exact hni ⟨b', hb', e.trans e2⟩
      · omega
    · rw [rother b (by simp [Live, hy1]) hne]
      exact hm b y hy1 hmu
  -- .. and what the callee hands back
  have hokc : ¬ (noMem r = true ∧ ∀ x ∈ hout, noMemB x = true) → ∀ k, okOf K ρ' (idx hout) w' k → okOf A ρ2 h2 w' k := by
    intro hnf k hk
    have hKm := hmode.resolve_left hnf
    obtain ⟨⟨hk1, hK⟩, hm⟩ := hk
    refine ⟨⟨hk1, ?_⟩, fun b y hy hmu => ?_⟩
    · rcases hKm k hK with h' | h' | h'
      · exact h'.1.2
      · exact (hin_own k h').2.elim (s1.inS _) (s1.base _)
      · exact s1.base _ (by have := s1.fr.size; omega)
    · rcases cases2 b y hy with ⟨i, x, hx, hi, rfl, rfl⟩ | ⟨hy1, hne⟩
      · rw [r1 i hi]
        exact hm i x (by rw [look_idx]; exact hx) (by rw [← renB_mutable g]; exact hmu)
      · rw [rother b (by simp [Live, hy1]) hne]
        have hbl := s1.own b y hy1 (mutable_live hmu)
        rcases hKm k hK with h' | h' | h'
        · exact h'.2 b y hy1 hmu
        · obtain ⟨i, hi, rfl⟩ := h'
          obtain ⟨x, e, _, hl⟩ := hvl _ (hps i (by omega))
          intro he
          have := s1.inj b _ y x hy1 e (mutable_live hmu) hl he
          exact hne i (by omega) (by rw [g1 i (by omega)]; exact this.symm)
        · omega
  have hgl : ∀ b, Live (idx hout) b → Live h2 (g b) ∧ ρ2 (g b) = ρ' b := by
    intro b hb
    have hb' : b < hout.length := by
      simp only [Live, look_idx] at hb
      rcases Nat.lt_or_ge b hout.length with h' | h'
      · exact h'
      · rw [List.getElem?_eq_none h'] at hb; cases hb
    exact ⟨by simp [Live, l1 b _ (List.getElem?_eq_getElem hb')], r1 b hb'⟩
  have convC : ∀ d v, ((noMem r = true ∧ ∀ x ∈ hout, noMemB x = true) → noMem d = true) → C ρ' (Live (idx hout)) (okOf K ρ' (idx hout) w') w' d v → C ρ2 (Live h2) (okOf A ρ2 h2 w') w' (renD g d) v := by
    intro d v hd hc
    by_cases hf : noMem r = true ∧ ∀ x ∈ hout, noMemB x = true
    · exact (hc.free (ok' := fun _ => False) (hd hf)).ren g hgl (fun k h => h.elim)
    · exact hc.ren g hgl (hokc hf)
  have convR : ∀ d v, ((noMem r = true ∧ ∀ x ∈ hout, noMemB x = true) → noMem d = true) → Rep (okOf K ρ' (idx hout) w') w' d v → Rep (okOf A ρ2 h2 w') w' d v := by
    intro d v hd hc
    by_cases hf : noMem r = true ∧ ∀ x ∈ hout, noMemB x = true
    · exact hc.free (hd hf)
    · exact hc.mono fun k hk => ⟨hokc hf k hk, rfl⟩
  refine ⟨ρ2, fun b hb => (hlive b hb).2, s1.step (s1.fr.andThen sc.fr fun k hk hi => (hin_own k hi).2) hlive hok (fun b y hy => ?_) sc.fr.size (fun b1 b2 y1 y2 hy1 hy2 hl1 hl2 he => ?_), convC r u (fun hf => hf.1) hr⟩
  · rcases cases2 b y hy with ⟨i, x, hx, hi, rfl, rfl⟩ | ⟨hy1, hne⟩
    · right
      have hlx := look_idx hout i
      rw [hx] at hlx
      refine ⟨BlkOK.ren g (sc.blk i x hlx) (r1 i hi) (good := fun d => (noMem r = true ∧ ∀ x ∈ hout, noMemB x = true) → noMem d = true) (fun d v hd hc => convC d v hd hc) (fun d v hd hc => convR d v hd hc) ?_, fun hl => ?_⟩
      · have hm : x ∈ hout := List.mem_of_getElem? hx
        cases x with
        | var T cs => exact fun d hd hf => by have := hf.2 _ hm; simp only [noMemB, List.all_eq_true] at this; exact this d hd
        | row E l => exact fun e he d hd hf => by have := hf.2 _ hm; simp only [noMemB, List.all_eq_true] at this; exact this e he d hd
        | froz l =>
          by_cases hf : noMem r = true ∧ ∀ x ∈ hout, noMemB x = true
          · have := hf.2 _ hm
            simp only [noMemB, List.isEmpty_iff] at this
            exact .inl this
          · exact .inr fun h => absurd h hf
        | gone => trivial
      · have hxl : x.live = true := by rw [← renB_live g]; exact hl
        have := sc.own i x hlx hxl
        rw [r1 i hi]
        refine ⟨this.1, ?_⟩
        rcases this.2 with h' | h'
        · exact (hin_own _ h').2
        · exact .inr (Nat.le_trans s1.fr.size h')
    · left
      refine ⟨hy1, fun hmu => ?_⟩
      have hl : y.live = true := mutable_live hmu
      refine sc.fr.block _ (s1.own b y hy1 hl).1 ?_
      rintro ⟨i, hi, e⟩
      obtain ⟨x, e2, _, hxl⟩ := hvl _ (hps i (by omega))
      have := s1.inj _ b x y e2 hy1 hxl hl e
      exact hne i (by omega) (by rw [g1 i (by omega)]; exact this)
  · rcases cases2 b1 y1 hy1 with ⟨i, x, hx, hi, rfl, rfl⟩ | ⟨q1, hne1⟩ <;> rcases cases2 b2 y2 hy2 with ⟨j, x', hx', hj, rfl, rfl⟩ | ⟨q2, hne2⟩
    · rw [r1 i hi, r1 j hj] at he
      have := sc.inj i j x x' (by rw [look_idx]; exact hx) (by rw [look_idx]; exact hx') (by rw [← renB_live g]; exact hl1) (by rw [← renB_live g]; exact hl2) he
      rw [this]
    · exfalso
      have hxl : x.live = true := by rw [← renB_live g]; exact hl1
      have ho := sc.own i x (by rw [look_idx]; exact hx) hxl
      rw [r1 i hi, rother b2 (by simp [Live, q2]) hne2] at he
      have hb2 := (s1.own b2 y2 q2 hl2).1
      rcases ho.2 with ⟨b', hb', e⟩ | h'
      · obtain ⟨z, e2, _, hzl⟩ := hvl _ (hps b' (by omega))
        have := s1.inj _ b2 z y2 e2 q2 hzl hl2 (e.trans he)
        exact hne2 b' (by omega) (by rw [g1 b' (by omega)]; exact this)
      · omega
    · exfalso
      have hxl : x'.live = true := by rw [← renB_live g]; exact hl2
      have ho := sc.own j x' (by rw [look_idx]; exact hx') hxl
      rw [r1 j hj, rother b1 (by simp [Live, q1]) hne1] at he
      have hb1 := (s1.own b1 y1 q1 hl1).1
      rcases ho.2 with ⟨b', hb', e⟩ | h'
      · obtain ⟨z, e2, _, hzl⟩ := hvl _ (hps b' (by omega))
        have := s1.inj _ b1 z y1 e2 q1 hzl hl1 (e.trans he.symm)
        exact hne1 b' (by omega) (by rw [g1 b' (by omega)]; exact this)
      · omega
    · rw [rother b1 (by simp [Live, q1]) hne1, rother b2 (by simp [Live, q2]) hne2] at he
      exact s1.inj b1 b2 y1 y2 q1 q2 hl1 hl2 he
end Go.Proofs.Ytdecnnhcbjhfgaa.Am
