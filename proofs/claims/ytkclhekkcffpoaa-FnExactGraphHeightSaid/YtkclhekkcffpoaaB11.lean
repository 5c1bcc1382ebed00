/- The plain machine: the callee's start, and what is known once it has returned. -/
import Derived.Test.YtkclhekkcffpoaaB10
namespace Go.Proofs.Ytkclhekkcffpoaa.Am
set_option linter.unusedSimpArgs false
set_option linter.unusedVariables false
open Go Go.RowKit

variable {P : Program} {w0 : World} {S A : Nat → Prop} {N : Nat} {ρ : Id → Pl} {t : List (Nat × D)} {h : HL} {a : Act} {w : World}

theorem look_puts_other {κ α : Type} [DecidableEq κ] : ∀ (us g : List (κ × α)) (b : κ), (∀ x ∈ us, x.1 ≠ b) → look (puts us g) b = look g b
  | [], g, b, _ => rfl
  | x :: us, g, b, hx => by
    show look (puts us (put x.1 x.2 g)) b = look g b
    rw [look_puts_other us _ b fun y hy => hx y (List.mem_cons_of_mem _ hy), look_put, if_neg (Ne.symm (hx x (List.mem_cons_self ..)))]
theorem look_puts_mem {κ α : Type} [DecidableEq κ] : ∀ (us g : List (κ × α)) (b : κ) (y : α), (us.map (·.1)).Nodup → (b, y) ∈ us → look (puts us g) b = some y
  | [], g, b, y, _, hm => by cases hm
  | x :: us, g, b, y, hn, hm => by
    simp only [List.map_cons, List.nodup_cons] at hn
    show look (puts us (put x.1 x.2 g)) b = some y
    rcases List.mem_cons.1 hm with rfl | hm
    · rw [look_puts_other us _ b fun z hz e => hn.1 (List.mem_map.2 ⟨z, hz, e⟩), look_put]
      simp
    · exact look_puts_mem us _ b y hn.2 hm
theorem puts_append {κ α : Type} [DecidableEq κ] (u v g : List (κ × α)) : puts (u ++ v) g = puts v (puts u g) := by simp [puts, List.foldl_append]
theorem look_mem {κ α : Type} [DecidableEq κ] : ∀ {l : List (κ × α)} {k : κ} {a : α}, look l k = some a → (k, a) ∈ l
  | [], k, a, h => by cases h
  | (x, b) :: l, k, a, h => by
    simp only [look] at h
    split at h
    · rename_i e; subst e; simp only [Option.some.injEq] at h; subst h; exact List.mem_cons_self ..
    · exact List.mem_cons_of_mem _ (look_mem h)
theorem mem_look {κ α : Type} [DecidableEq κ] : ∀ {l : List (κ × α)} {k : κ} {a : α}, (l.map (·.1)).Nodup → (k, a) ∈ l → look l k = some a
  | [], k, a, _, h => by cases h
  | (x, b) :: l, k, a, hn, h => by
    simp only [List.map_cons, List.nodup_cons] at hn
    simp only [look]
    rcases List.mem_cons.1 h with e | h
    · simp only [Prod.mk.injEq] at e; obtain ⟨rfl, rfl⟩ := e; simp
    · rw [if_neg]
      · exact mem_look hn.2 h
      · intro e
        exact hn.1 (List.mem_map.2 ⟨(k, a), h, e⟩)
theorem mutable_live {x : Blk} (h : x.mutable = true) : x.live = true := by cases x <;> simp_all [Blk.mutable, Blk.live]

/-- a value, as the callee sees it -/
theorem Sim.view (s : Sim P w0 S A N ρ t h a w) {g : Id → Id} {hin : HL} {W : List Id} {F : List Nat} {ok' : Nat → Prop} (hok : ∀ k, okOf A ρ h w k → ok' k) (hW : ∀ b ∈ W, ∀ x, look h b = some x → x.mutable = true → ok' (ρ b).blk) {d d' : D} {v : Value}
    (hv : View h g hin W F d d') : C ρ (Live h) (okOf A ρ h w) w d v → C (fun b => ρ (g b)) (Live hin) ok' w d' v := by
  induction hv generalizing v with
  | ref b hb => intro hc; obtain ⟨hl, rfl⟩ := hc.ref_inv; exact .ref (ρ := fun b => ρ (g b)) b (hb.at hl)
  | ptr b o hb => intro hc; obtain ⟨hl, rfl⟩ := hc.ptr_inv; exact .ptr (ρ := fun b => ρ (g b)) b o (hb.at hl)
  | eptr b i o hb => intro hc; obtain ⟨hl, rfl⟩ := hc.eptr_inv; exact .eptr (ρ := fun b => ρ (g b)) b i o (hb.at hl)
  | vref b o n hb => intro hc; obtain ⟨hl, hn, rfl⟩ := hc.vref_inv; exact .vref (ρ := fun b => ρ (g b)) b o n (hb.at hl) hn
  | pure k d d' hd hw => intro hc; exact .pure (s.purD hok k _ _ _ hd (fun b hb => hW b (hw b hb)) hc)
  | nils => intro hc; obtain rfl := hc.nils_inv; exact .pure .nils
  | agg cs cs' hl hcs ih =>
    intro hc
    obtain ⟨vs, rfl, h1, h2⟩ := hc.agg_inv
    exact .agg _ _ (by omega) fun i hi => ih i (by omega) (h2 i (by omega))
  | clo f cs cs' hl hcs ih =>
    intro hc
    obtain ⟨vs, rfl, h1, h2⟩ := hc.clo_inv
    exact .clo _ _ _ (by omega) fun i hi => ih i (by omega) (h2 i (by omega))
  | ifc T d d' hd ih =>
    intro hc
    obtain ⟨v', rfl, h1⟩ := hc.ifc_inv
    exact .ifc _ _ _ (ih h1)
  | junk => intro hc; exact .junk _ hc.junk_inv

/-- the callee's start -/
theorem Sim.into (s : Sim P w0 S A N ρ t h a w) {ds ds' : List D} {g : Id → Id} {hin : HL} {W : List Id} {F : List Nat} {K : Nat → Prop} (hlen : ds.length = ds'.length) (hargs : ∀ i, i < ds.length → View h g hin W F (ds.getD i .undef) (ds'.getD i .undef))
    (hblk : ∀ b x', look hin b = some x' → ∃ x, look h (g b) = some x ∧ ViewB h g hin W F x x') (hinj : ∀ b b', Live hin b → Live hin b' → g b = g b' → b = b') (hapart : ∀ b ∈ W, ∀ b', Live hin b' → g b' ≠ b)
    (hK : ∀ k, w.heap.size ≤ k → K k) (hKi : ∀ k, inB (fun b => ρ (g b)) hin k → K k) (hKo : ∀ k, okOf A ρ h w k → K k) (hKr : ∀ b ∈ W, ∀ x, look h b = some x → x.mutable = true → K (ρ b).blk)
    {vs : Array Value} (hl : ds.length = vs.size) (hv : ∀ i, i < ds.length → C ρ (Live h) (okOf A ρ h w) w (ds.getD i .undef) (vs.getD i undef)) :
    Sim P w (inB (fun b => ρ (g b)) hin) K 0 (fun b => ρ (g b)) [] hin emptyA w ∧ ds'.length = vs.size ∧
      ∀ i, i < ds'.length → C (fun b => ρ (g b)) (Live hin) (okOf K (fun b => ρ (g b)) hin w) w (ds'.getD i .undef) (vs.getD i undef) := by
  have hmut : ∀ b x', look hin b = some x' → ∃ x, look h (g b) = some x ∧ x.mutable = true ∧ x.live = true := fun b x' hx => by
    obtain ⟨x, h1, h2⟩ := hblk b x' hx
    exact ⟨x, h1, h2.live.2.2.1, h2.live.1⟩
  have hok : ∀ k, okOf A ρ h w k → okOf K (fun b => ρ (g b)) hin w k := by
    rintro k hk
    refine ⟨⟨hk.1.1, hKo k hk⟩, fun b x' hx _ => ?_⟩
    obtain ⟨x, h1, h2, _⟩ := hmut b x' hx
    exact hk.2 _ x h1 h2
  have hW : ∀ b ∈ W, ∀ x, look h b = some x → x.mutable = true → okOf K (fun b => ρ (g b)) hin w (ρ b).blk := by
    intro b hb x hx hmu
    refine ⟨⟨(s.own b _ hx (mutable_live hmu)).1, hKr b hb x hx hmu⟩, fun b' x' hx' _ he => ?_⟩
    obtain ⟨y, h1, h2, h3⟩ := hmut b' x' hx'
    exact hapart b hb b' (by simp [Live, hx']) (s.inj _ b y x h1 hx h3 (mutable_live hmu) he)
  have cv : ∀ {d d' : D} {v : Value}, View h g hin W F d d' → C ρ (Live h) (okOf A ρ h w) w d v → C (fun b => ρ (g b)) (Live hin) (okOf K (fun b => ρ (g b)) hin w) w d' v := fun hv hc => s.view hok hW hv hc
  refine ⟨⟨hK, hKi, Fr.refl _ _, rfl, rfl, fun k d hk => (by cases hk), fun b x' hx => ?_, fun b x' hx hlv => ?_, fun b b' x x' hx hx' _ _ he => ?_⟩, by omega, fun i hi => cv (hargs i (by omega)) (hv i (by omega))⟩
  · obtain ⟨x, h1, h2⟩ := hblk b x' hx
    cases h2 with
    | var T cs cs' hl hc =>
      obtain ⟨c, c1, c2, c3⟩ := s.blk _ _ h1
      exact ⟨c, c1, by omega, fun j hj => cv (hc j (by omega)) (c3 j (by omega))⟩
    | row E l l' hl hc =>
      obtain ⟨c, h1, h2, h3, h4, h5, h6, h7, h8, h9⟩ := s.blk _ _ h1
      refine ⟨c, h1, h2, by rw [← hl]; exact h3, h4, h5, h6, h7, fun e he => ?_, fun i j hi hj => ?_⟩
      · obtain ⟨i, hi, rfl⟩ := mem_getD' he
        exact ((hc i (by omega)).wf (h8 _ (getD_mem (by omega)))).1
      · exact cv (((hc i (by omega)).wf (h8 _ (getD_mem (by omega)))).2 j hj) (h9 i j (by omega) hj)
  · obtain ⟨x, h1, h2, h3⟩ := hmut b x' hx
    exact ⟨(s.own _ x h1 h3).1, .inl ⟨b, x', hx, hlv, rfl⟩⟩
  · obtain ⟨y, h1, _, h3⟩ := hmut b x hx
    obtain ⟨y', h1', _, h3'⟩ := hmut b' x' hx'
    exact hinj b b' (by simp [Live, hx]) (by simp [Live, hx']) (s.inj _ _ y y' h1 h1' h3 h3' he)

theorem Rep.lst_nil {ok ok' : Nat → Prop} {w w' : World} {v : Value} (h : Rep ok w (.lst []) v) : Rep ok' w' (.lst []) v := by
  cases h with
  | none a cap ha hcap => exact .none a cap ha hcap
  | lst _ n b off cap f hn hcap hmax hok hsz hpos hc hr => simp [szl] at hpos
theorem BlkOK.ren {A' : Nat → Prop} {ρ' : Id → Pl} {h' : HL} (g : Id → Id) {i : Id} {x : Blk} (hb : BlkOK P A ρ h w i x) (he : ρ' (g i) = ρ i) {good : D → Prop}
    (hlv : ∀ b, Live h b → Live h' (g b) ∧ ρ' (g b) = ρ b)
    (hc : ∀ d v, good d → C ρ (Live h) (okOf A ρ h w) w d v → C ρ' (Live h') (okOf A' ρ' h' w) w (renD g d) v) (hr : ∀ d v, good d → Rep (okOf A ρ h w) w d v → Rep (okOf A' ρ' h' w) w d v)
    (hg : match x with | .var _ cs => ∀ d ∈ cs, good d | .row _ l => ∀ e ∈ l, ∀ d ∈ e.cells, good d | .froz l => l = [] ∨ good (.lst l) | .fvar cs => good (.box cs) | _ => True) : BlkOK P A' ρ' h' w (g i) (renB g x) := by
  cases x with
  | var T cs =>
    obtain ⟨c, h1, h2, h3⟩ := hb
    simp only [renB, BlkOK, he]
    refine ⟨c, h1, by simpa using h2, fun j hj => ?_⟩
    have hj' : j < cs.length := by simpa using hj
    have := hc _ _ (hg (cs.getD j .undef) (getD_mem hj')) (h3 j hj')
    simpa [List.getD_eq_getElem?_getD, hj'] using this
  | row E l =>
    obtain ⟨c, h1, h2, h3, h4, h5, h6, h7, h8, h9⟩ := hb
    simp only [renB, BlkOK, he]
    refine ⟨c, h1, h2, by simpa using h3, h4, h5, h6, h7, fun e he' => ?_, fun k j hk hj => ?_⟩
    · obtain ⟨e0, he0, rfl⟩ := List.mem_map.1 he'
      refine ⟨by rw [renD_cells, List.length_map]; exact (h8 e0 he0).1, ?_⟩
      have := (h8 e0 he0).2
      rw [List.all_eq_true] at this ⊢
      rw [renD_cells]
      intro y hy
      obtain ⟨z, hz, rfl⟩ := List.mem_map.1 hy
      rw [renD_one]
      exact this z hz
    · have hk' : k < l.length := by simpa using hk
      have hj' : j < (l.getD k .undef).cells.length := by rw [(h8 _ (getD_mem hk')).1]; exact hj
      have := hc _ _ (hg _ (getD_mem hk') _ (getD_mem hj')) (h9 k j hk' hj)
      have e1 : (l.map (renD g)).getD k .undef = renD g (l.getD k .undef) := by simp [List.getD_eq_getElem?_getD, hk']
      have e2 : ((l.getD k .undef).cells.map (renD g)).getD j .undef = renD g ((l.getD k .undef).cells.getD j .undef) := by
        rw [List.getD_eq_getElem?_getD, List.getElem?_map, List.getElem?_eq_getElem hj', List.getD_eq_getElem?_getD (i := j), List.getElem?_eq_getElem hj']; rfl
      rw [e1, renD_cells, e2]
      exact this
  | froz l =>
    simp only [renB, BlkOK, he] at hb ⊢
    rcases hg with rfl | hg
    · exact hb.lst_nil
    · exact hr _ _ hg hb
  | fvar cs =>
    simp only [renB, BlkOK, he] at hb ⊢
    exact hr _ _ hg hb
  | moved b => exact ⟨(hlv b hb.1).1, by rw [he, hb.2, (hlv b hb.1).2]⟩
  | gone => trivial

set_option maxHeartbeats 1000000 in
open Classical in
/-- what is known once the callee has returned -/
theorem Sim.back {g : Id → Id} {hin hout : HL} {r : D} {h1 : HL} (s1 : Sim P w0 S A N ρ t h1 a w) (hmut : ∀ b x', look hin b = some x' → ∃ x, look h1 (g b) = some x ∧ x.mutable = true ∧ x.live = true)
    (hinl : ∀ b x', look hin b = some x' → x'.live = true) (hkeys : (hout.map (·.1)).Nodup) (hinj : ∀ b b', Live hout b → Live hout b' → g b = g b' → b = b') (hnew : ∀ b, Live hout b → ¬ Live hin b → look h1 (g b) = none)
    {K : Nat → Prop} {ρ' : Id → Pl} {w' : World} {u : Value} (hρ : ∀ b, Live hin b → ρ' b = ρ (g b) ∧ Live hout b)
    (sc : Sim P w (inB (fun b => ρ (g b)) hin) K 0 ρ' [] hout emptyA w') (hr : C ρ' (Live hout) (okOf K ρ' hout w') w' r u)
    (hmode : (noMem r = true ∧ ∀ p ∈ hout, noMemB p.2 = true) ∨ ∀ k, K k → okOf A ρ h1 w k ∨ inB (fun b => ρ (g b)) hin k ∨ w.heap.size ≤ k) :
    ∃ ρ2, Ext h1 ρ ρ2 ∧ Sim P w0 S A N ρ2 t (puts (renH g hout) h1) a w' ∧ C ρ2 (Live (puts (renH g hout) h1)) (okOf A ρ2 (puts (renH g hout) h1) w') w' (renD g r) u := by
  let ρ2 : Id → Pl := fun b => if hb : ∃ c, Live hout c ∧ g c = b then ρ' (Classical.choose hb) else ρ b
  have r1 : ∀ b, Live hout b → ρ2 (g b) = ρ' b := by
    intro b hb
    have he : ∃ c, Live hout c ∧ g c = g b := ⟨b, hb, rfl⟩
    simp only [ρ2]
    rw [dif_pos he]
    have := Classical.choose_spec he
    rw [hinj _ b this.1 hb this.2]
  have hkeys2 : ((renH g hout).map (·.1)).Nodup := by
    have e : (renH g hout).map (·.1) = (hout.map (·.1)).map g := by simp [renH]
    rw [e, List.Nodup, List.pairwise_map]
    refine List.Pairwise.imp_of_mem ?_ hkeys
    intro x y hx hy hne e
    obtain ⟨⟨x1, x2⟩, hx', rfl⟩ := List.mem_map.1 hx
    obtain ⟨⟨y1, y2⟩, hy', rfl⟩ := List.mem_map.1 hy
    exact hne (hinj _ _ (by simp [Live, mem_look hkeys hx']) (by simp [Live, mem_look hkeys hy']) e)
  let h2 := puts (renH g hout) h1
  have l1 : ∀ b x, look hout b = some x → look h2 (g b) = some (renB g x) := fun b x hx => look_puts_mem _ _ _ _ hkeys2 (List.mem_map.2 ⟨(b, x), look_mem hx, rfl⟩)
  have l2 : ∀ b, (∀ c, Live hout c → g c ≠ b) → look h2 b = look h1 b := by
    intro b hb
    refine look_puts_other _ _ _ ?_
    rintro ⟨k, y⟩ hx
    obtain ⟨⟨c, x⟩, hm, he⟩ := List.mem_map.1 hx
    simp only [Prod.mk.injEq] at he
    rw [← he.1]
    exact hb c (by simp [Live, mem_look hkeys hm])
  have cases2 : ∀ b y, look h2 b = some y → (∃ c x, look hout c = some x ∧ b = g c ∧ y = renB g x) ∨ (look h1 b = some y ∧ ∀ c, Live hout c → g c ≠ b) := by
    intro b y hy
    by_cases hb : ∃ c, Live hout c ∧ g c = b
    · obtain ⟨c, hc, rfl⟩ := hb
      obtain ⟨x, hx⟩ := Option.isSome_iff_exists.1 hc
      rw [l1 c x hx] at hy
      exact .inl ⟨c, x, hx, rfl, (Option.some.inj hy).symm⟩
    · have hb' : ∀ c, Live hout c → g c ≠ b := fun c hc e => hb ⟨c, hc, e⟩
      rw [l2 b hb'] at hy
      exact .inr ⟨hy, hb'⟩
  have rother : ∀ b, (∀ c, Live hout c → g c ≠ b) → ρ2 b = ρ b := by
    intro b hb
    simp only [ρ2]
    rw [dif_neg]
    rintro ⟨c, hc, e⟩
    exact hb c hc e
  have hlive : ∀ b, Live h1 b → Live h2 b ∧ ρ2 b = ρ b := by
    intro b hl
    by_cases hb : ∃ c, Live hout c ∧ g c = b
    · obtain ⟨c, hc, rfl⟩ := hb
      obtain ⟨x, hx⟩ := Option.isSome_iff_exists.1 hc
      refine ⟨by simp [Live, l1 c x hx], ?_⟩
      by_cases a1 : Live hin c
      · rw [r1 c hc]; exact (hρ c a1).1
      · simp [Live, hnew c hc a1] at hl
    · have hb' : ∀ c, Live hout c → g c ≠ b := fun c hc e => hb ⟨c, hc, e⟩
      exact ⟨by simpa [Live, l2 b hb'] using hl, rother b hb'⟩
  have hin_own : ∀ k, inB (fun b => ρ (g b)) hin k → k < w.heap.size ∧ (S k ∨ w0.heap.size ≤ k) := by
    rintro k ⟨b, x', hx, _, rfl⟩
    obtain ⟨x, e, _, hl⟩ := hmut b x' hx
    exact s1.own _ x e hl
  -- what is in no block of the caller's own, before, is in none after
  have hok : ∀ k, okOf A ρ h1 w k → okOf A ρ2 h2 w' k ∧ w'.heap[k]? = w.heap[k]? := by
    rintro k ⟨⟨hk, hA⟩, hm⟩
    have hni : ¬ inB (fun b => ρ (g b)) hin k := by
      rintro ⟨b, x', hx, _, rfl⟩
      obtain ⟨x, e, hmu, _⟩ := hmut b x' hx
      exact hm _ x e hmu rfl
    refine ⟨⟨⟨Nat.lt_of_lt_of_le hk sc.fr.size, hA⟩, fun b y hy hmu => ?_⟩, sc.fr.block k hk hni⟩
    rcases cases2 b y hy with ⟨c, x, hx, rfl, rfl⟩ | ⟨hy1, hne⟩
    · rw [r1 c (by simp [Live, hx])]
      have hxl : x.live = true := mutable_live (by rw [← renB_mutable g]; exact hmu)
      have := sc.own c x hx hxl
      rcases this.2 with h' | h'
      · intro e2; subst e2; exact hni h'
      · omega
    · rw [rother b hne]
      exact hm b y hy1 hmu
  -- .. and what the callee hands back
  have hokc : ¬ (noMem r = true ∧ ∀ p ∈ hout, noMemB p.2 = true) → ∀ k, okOf K ρ' hout w' k → okOf A ρ2 h2 w' k := by
    intro hnf k hk
    have hKm := hmode.resolve_left hnf
    obtain ⟨⟨hk1, hK⟩, hm⟩ := hk
    refine ⟨⟨hk1, ?_⟩, fun b y hy hmu => ?_⟩
    · rcases hKm k hK with h' | h' | h'
      · exact h'.1.2
      · exact (hin_own k h').2.elim (s1.inS _) (s1.base _)
      · exact s1.base _ (by have := s1.fr.size; omega)
    · rcases cases2 b y hy with ⟨c, x, hx, rfl, rfl⟩ | ⟨hy1, hne⟩
      · rw [r1 c (by simp [Live, hx])]
        exact hm c x hx (by rw [← renB_mutable g]; exact hmu)
      · rw [rother b hne]
        have hbl := s1.own b y hy1 (mutable_live hmu)
        rcases hKm k hK with h' | h' | h'
        · exact h'.2 b y hy1 hmu
        · obtain ⟨c, x', hx, _, rfl⟩ := h'
          obtain ⟨x, e, _, hl⟩ := hmut c x' hx
          intro he
          have := s1.inj b _ y x hy1 e (mutable_live hmu) hl he
          exact hne c (hρ c (by simp [Live, hx])).2 this.symm
        · omega
  have hgl : ∀ b, Live hout b → Live h2 (g b) ∧ ρ2 (g b) = ρ' b := by
    intro b hb
    obtain ⟨x, hx⟩ := Option.isSome_iff_exists.1 hb
    exact ⟨by simp [Live, l1 b x hx], r1 b hb⟩
  have convC : ∀ d v, ((noMem r = true ∧ ∀ p ∈ hout, noMemB p.2 = true) → noMem d = true) → C ρ' (Live hout) (okOf K ρ' hout w') w' d v → C ρ2 (Live h2) (okOf A ρ2 h2 w') w' (renD g d) v := by
    intro d v hd hc
    by_cases hf : noMem r = true ∧ ∀ p ∈ hout, noMemB p.2 = true
    · exact (hc.free (ok' := fun _ => False) (hd hf)).ren g hgl (fun k h => h.elim)
    · exact hc.ren g hgl (hokc hf)
  have convR : ∀ d v, ((noMem r = true ∧ ∀ p ∈ hout, noMemB p.2 = true) → noMem d = true) → Rep (okOf K ρ' hout w') w' d v → Rep (okOf A ρ2 h2 w') w' d v := by
    intro d v hd hc
    by_cases hf : noMem r = true ∧ ∀ p ∈ hout, noMemB p.2 = true
    · exact hc.free (hd hf)
    · exact hc.mono fun k hk => ⟨hokc hf k hk, rfl⟩
  refine ⟨ρ2, fun b hb => (hlive b hb).2, s1.step (s1.fr.andThen sc.fr fun k hk hi => (hin_own k hi).2) hlive hok (fun b y hy => ?_) sc.fr.size (fun b1 b2 y1 y2 hy1 hy2 hl1 hl2 he => ?_), convC r u (fun hf => hf.1) hr⟩
  · rcases cases2 b y hy with ⟨c, x, hx, rfl, rfl⟩ | ⟨hy1, hne⟩
    · right
      have hlc : Live hout c := by simp [Live, hx]
      refine ⟨BlkOK.ren g (sc.blk c x hx) (r1 c hlc) (good := fun d => (noMem r = true ∧ ∀ p ∈ hout, noMemB p.2 = true) → noMem d = true) hgl (fun d v hd hc => convC d v hd hc) (fun d v hd hc => convR d v hd hc) ?_, fun hl => ?_⟩
      · have hm : (c, x) ∈ hout := look_mem hx
        cases x with
        | var T cs => exact fun d hd hf => by have := hf.2 _ hm; simp only [noMemB, List.all_eq_true] at this; exact this d hd
        | row E l => exact fun e he d hd hf => by have := hf.2 _ hm; simp only [noMemB, List.all_eq_true] at this; exact this e he d hd
        | froz l =>
          by_cases hf : noMem r = true ∧ ∀ p ∈ hout, noMemB p.2 = true
          · have := hf.2 _ hm
            simp only [noMemB, List.isEmpty_iff] at this
            exact .inl this
          · exact .inr fun h => absurd h hf
        | fvar cs => exact fun hf => by have := hf.2 _ hm; simp [noMemB] at this
        | moved b => trivial
        | gone => trivial
      · have hxl : x.live = true := by rw [← renB_live g]; exact hl
        have := sc.own c x hx hxl
        rw [r1 c hlc]
        refine ⟨this.1, ?_⟩
        rcases this.2 with h' | h'
        · exact (hin_own _ h').2
        · exact .inr (Nat.le_trans s1.fr.size h')
    · left
      refine ⟨hy1, fun hmu => ?_⟩
      have hl : y.live = true := mutable_live hmu
      refine sc.fr.block _ (s1.own b y hy1 hl).1 ?_
      rintro ⟨c, x', hx, _, e⟩
      obtain ⟨x, e2, _, hxl⟩ := hmut c x' hx
      have := s1.inj _ b x y e2 hy1 hxl hl e
      exact hne c (hρ c (by simp [Live, hx])).2 this
  · have other : ∀ b c x y, look hout c = some x → x.live = true → look h1 b = some y → y.live = true → (∀ c, Live hout c → g c ≠ b) → ρ' c = ρ' c → (ρ' c).blk = (ρ b).blk → False := by
      intro b c x y hx hxl hy hyl hne _ he
      have ho := sc.own c x hx hxl
      have hb2 := (s1.own b y hy hyl).1
      rcases ho.2 with ⟨b', z', hz, _, e⟩ | h'
      · obtain ⟨z, e2, _, hzl⟩ := hmut b' z' hz
        have := s1.inj _ b z y e2 hy hzl hyl (e.trans he)
        exact hne b' (hρ b' (by simp [Live, hz])).2 this
      · omega
    rcases cases2 b1 y1 hy1 with ⟨c, x, hx, rfl, rfl⟩ | ⟨q1, hne1⟩ <;> rcases cases2 b2 y2 hy2 with ⟨c', x', hx', rfl, rfl⟩ | ⟨q2, hne2⟩
    · rw [r1 c (by simp [Live, hx]), r1 c' (by simp [Live, hx'])] at he
      rw [sc.inj c c' x x' hx hx' (by rw [← renB_live g]; exact hl1) (by rw [← renB_live g]; exact hl2) he]
    · rw [r1 c (by simp [Live, hx]), rother b2 hne2] at he
      exact (other b2 c x y2 hx (by rw [← renB_live g]; exact hl1) q2 hl2 hne2 rfl he).elim
    · rw [r1 c' (by simp [Live, hx']), rother b1 hne1] at he
      exact (other b1 c' x' y1 hx' (by rw [← renB_live g]; exact hl2) q1 hl1 hne1 rfl he.symm).elim
    · rw [rother b1 hne1, rother b2 hne2] at he
      exact s1.inj b1 b2 y1 y2 q1 q2 hl1 hl2 he

theorem Sim.call (s : Sim P w0 S A N ρ t h a w) {f : FuncId} {n : Nat} {ds : List D} {d : D} {u : HL} {fs : List Nat} (c : CallOK P f h n ds d u fs)
    {vs : Array Value} (hl : ds.length = vs.size) (hv : ∀ i, i < ds.length → C ρ (Live h) (okOf A ρ h w) w (ds.getD i .undef) (vs.getD i undef)) :
    Calls P f vs w fun e w' => ∃ v ρ2, e = .returned v ∧ Ext h ρ ρ2 ∧ Sim P w0 S A N ρ2 t (puts u h) a w' ∧ C ρ2 (Live (puts u h)) (okOf A ρ2 (puts u h) w') w' d v := by
  obtain ⟨g, W, F, ds', hin, r, hout, con, len, args, blks, keys, inj, sub, new, apart, foot, rfl, upd⟩ := c
  have hmut : ∀ b x', look hin b = some x' → ∃ x, look h (g b) = some x ∧ x.mutable = true ∧ x.live = true := fun b x' hx => by
    obtain ⟨x, h1, h2⟩ := blks b x' hx
    exact ⟨x, h1, h2.live.2.2.1, h2.live.1⟩
  have hinl : ∀ b x', look hin b = some x' → x'.live = true := fun b x' hx => by
    obtain ⟨x, h1, h2⟩ := blks b x' hx
    exact h2.live.2.1
  have inj' : ∀ b b', Live hin b → Live hin b' → g b = g b' → b = b' := fun b b' hb hb' => inj b b' (sub b hb) (sub b' hb')
  rcases upd with ⟨f1, f2, rfl⟩ | ⟨f1, rfl⟩
  · obtain ⟨p3, p4, p5⟩ := s.into (K := fun _ => True) len args blks inj' apart (fun _ _ => trivial) (fun _ _ => trivial) (fun _ _ => trivial) (fun _ _ _ _ _ => trivial) hl hv
    refine (con.2 w _ _ vs p3 p4 p5).mono ?_
    rintro e w' ⟨v, ρ', rfl, h1, h3, h4⟩
    obtain ⟨ρ2, g0, g1, g2⟩ := s.back hmut hinl keys inj new h1 h3 h4 (.inl ⟨f1, f2⟩)
    exact ⟨v, ρ2, rfl, g0, g1, g2⟩
  · obtain ⟨q1, q2, q3⟩ := s.frz_ok W
    have keepM : ∀ b x, look h b = some x → (∀ c ∈ W, c ≠ b) → look (puts (frz h W) h) b = some x := by
      intro b x hx hne
      rw [look_puts_frz, if_neg (fun hm => hne b hm rfl)]
      exact hx
    have hok1 : ∀ k, okOf A ρ h w k → okOf A ρ (puts (frz h W) h) w k := by
      rintro k ⟨hk, hm⟩
      refine ⟨hk, fun b y hy hmu => ?_⟩
      rcases q2 b with q | ⟨y', z1, z2⟩
      · rw [q] at hy; exact hm b y hy hmu
      · rw [z2] at hy
        obtain rfl := Option.some.inj hy
        rw [(frzB_old z1).2.1] at hmu; cases hmu
    have hrow1 : ∀ b ∈ W, ∀ x, look h b = some x → x.mutable = true → okOf A ρ (puts (frz h W) h) w (ρ b).blk := by
      intro b hb x hx hmu
      obtain ⟨y, hy⟩ := Option.isSome_iff_exists.1 (f1 b hb x hx hmu)
      have hfr := q3 b hb y hy
      have hyo := frzB_old hy
      refine ⟨⟨(q1.own b _ hfr hyo.2.2).1, (q1.own b _ hfr hyo.2.2).2.elim (q1.inS _) (q1.base _)⟩, fun b' z hz hmz he => ?_⟩
      have := q1.inj b' b z _ hz hfr (mutable_live hmz) hyo.2.2 he
      rw [this, hfr] at hz
      obtain rfl := Option.some.inj hz
      rw [hyo.2.1] at hmz; cases hmz
    obtain ⟨p3, p4, p5⟩ := s.into (K := fun k => okOf A ρ (puts (frz h W) h) w k ∨ inB (fun b => ρ (g b)) hin k ∨ w.heap.size ≤ k) len args blks inj' apart (fun _ h => .inr (.inr h)) (fun _ h => .inr (.inl h)) (fun k h => .inl (hok1 k h)) (fun b hb x hx hmu => .inl (hrow1 b hb x hx hmu)) hl hv
    refine (con.2 w _ _ vs p3 p4 p5).mono ?_
    rintro e w' ⟨v, ρ', rfl, h1, h3, h4⟩
    have hmut1 : ∀ b x', look hin b = some x' → ∃ x, look (puts (frz h W) h) (g b) = some x ∧ x.mutable = true ∧ x.live = true := by
      intro b x' hx
      obtain ⟨x, e1, e2, e3⟩ := hmut b x' hx
      exact ⟨x, keepM _ x e1 (fun c hc e => apart c hc b (by simp [Live, hx]) e.symm), e2, e3⟩
    have new1 : ∀ b, Live hout b → ¬ Live hin b → look (puts (frz h W) h) (g b) = none := by
      intro b hb hb'
      have := new b hb hb'
      rcases q2 (g b) with q | ⟨y', z1, _⟩
      · exact q.trans this
      · obtain ⟨⟨x, hx, _⟩, _⟩ := frzB_old z1
        rw [this] at hx; cases hx
    obtain ⟨ρ2, g0, g1, g2⟩ := q1.back hmut1 hinl keys inj new1 h1 h3 h4 (.inr fun k hk => hk)
    rw [puts_append]
    refine ⟨v, ρ2, rfl, fun b hb => g0 b ?_, g1, g2⟩
    rcases q2 b with q | ⟨y, _, z2⟩
    · simpa [Live, q] using hb
    · simp [Live, z2]
end Go.Proofs.Ytkclhekkcffpoaa.Am
