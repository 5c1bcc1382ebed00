/- The plain machine: blocks that have got another name; what an operation looks at. -/
import Derived.Test.YtkclhekkcffpoaaB11
namespace Go.Proofs.Ytkclhekkcffpoaa.Am
set_option linter.unusedSimpArgs false
set_option linter.unusedVariables false
open Go Go.RowKit

variable {P : Program} {w0 : World} {S A : Nat → Prop} {N : Nat} {ρ : Id → Pl} {t : List (Nat × D)} {h h' : HL} {a : Act} {w : World}

mutual
def allIds : D → List Id
  | .ref b => [b]
  | .ptr b _ => [b]
  | .eptr b _ _ => [b]
  | .vref b _ _ => [b]
  | .ifc _ d => allIds d
  | .clo _ cs => allIdsL cs
  | .agg cs => allIdsL cs
  | .tup cs => allIdsL cs
  | _ => []
def allIdsL : List D → List Id
  | [] => []
  | d :: l => allIds d ++ allIdsL l
end
theorem allIdsL_mem {l : List D} {d : D} (hd : d ∈ l) : ∀ b ∈ allIds d, b ∈ allIdsL l := by
  induction l with
  | nil => cases hd
  | cons x l ih =>
    intro b hb
    simp only [allIdsL, List.mem_append]
    rcases List.mem_cons.1 hd with rfl | hd
    · exact .inl hb
    · exact .inr (ih hd b hb)
theorem allIdsL_eq : ∀ l : List D, allIdsL l = l.flatMap allIds
  | [] => rfl
  | d :: l => by simp [allIdsL, allIdsL_eq l]

/-! ### Last names: what is no more written is data -/
mutual
def fwd (h : HL) : D → D
  | .ref b => (match look h b with | some (.moved c) => .ref c | some (.froz l) => .lst l | _ => .ref b)
  | .ptr b o => (match look h b with | some (.moved c) => .ptr c o | some (.fvar cs) => (match o with | 0 => .box cs | o + 1 => .iptr (.agg cs) (o + 1)) | _ => .ptr b o)
  | .eptr b i o => (match look h b with | some (.moved c) => .eptr c i o | _ => .eptr b i o)
  | .vref b o n => (match look h b with | some (.moved c) => .vref c o n | _ => .vref b o n)
  | .ifc T d => .ifc T (fwd h d)
  | .clo f cs => .clo f (fwdL h cs)
  | .agg cs => .agg (fwdL h cs)
  | .tup cs => .tup (fwdL h cs)
  | d => d
def fwdL (h : HL) : List D → List D
  | [] => []
  | d :: l => fwd h d :: fwdL h l
end
theorem fwdL_eq (h : HL) : ∀ l, fwdL h l = l.map (fwd h)
  | [] => by simp [fwdL]
  | d :: l => by simp [fwdL, fwdL_eq h l]
theorem Rep.fwd {ok : Nat → Prop} {d : D} {v : Value} (h : HL) (hr : Rep ok w d v) : Rep ok w (fwd h d) v := by
  induction hr with
  | agg cs vs hl hh ih =>
    simp only [Am.fwd, fwdL_eq]
    refine .agg _ _ (by simpa using hl) fun i hi => ?_
    have hi' : i < cs.length := by simpa using hi
    have := ih i hi'
    simpa [List.getD_eq_getElem?_getD, hi'] using this
  | tup cs vs hl hh ih =>
    simp only [Am.fwd, fwdL_eq]
    refine .tup _ _ (by simpa using hl) fun i hi => ?_
    have hi' : i < cs.length := by simpa using hi
    have := ih i hi'
    simpa [List.getD_eq_getElem?_getD, hi'] using this
  | int k n => exact .int k n
  | bool b => exact .bool b
  | str s => exact .str s
  | none a cap ha hcap => exact .none a cap ha hcap
  | lst l n b off cap f hn hcap hmax hok hsz hpos hc hr ih => exact .lst l n b off cap f hn hcap hmax hok hsz hpos hc hr
  | box cs b off f hok hpos hc hr ih => exact .box cs b off f hok hpos hc hr
  | nilp => exact .nilp
  | nils => exact .nils
  | nilf => exact .nilf
  | nili => exact .nili
theorem Sim.fwd (s : Sim P w0 S A N ρ t h a w) {d : D} {v : Value} (hc : C ρ (Live h) (okOf A ρ h w) w d v) : C ρ (Live h) (okOf A ρ h w) w (fwd h d) v := by
  induction hc with
  | pure hr => exact .pure (hr.fwd h)
  | ref b hb =>
    simp only [Am.fwd]
    split
    · rename_i c hl
      have := s.blk b _ hl
      rw [this.2]; exact .ref c this.1
    · rename_i l hl; exact .pure (s.blk b _ hl)
    · exact .ref b hb
  | ptr b o hb =>
    simp only [Am.fwd]
    split
    · rename_i c hl
      have := s.blk b _ hl
      rw [this.2]; exact .ptr c o this.1
    · rename_i cs hl
      have hbk : Rep _ _ _ _ := s.blk b _ hl
      split
      · exact .pure hbk
      · rename_i o
        generalize (ρ b).blk = blk at *
        cases hbk with
        | box _ _ off f hok hpos h1 h2 =>
          have := C.iptr (ρ := ρ) (L := Live h) (ok := okOf A ρ h w) (w := w) (.agg cs) (o + 1) blk 0 f hok h1 h2
          simpa using this
    · exact .ptr b o hb
  | eptr b i o hb =>
    simp only [Am.fwd]
    split
    · rename_i c hl
      have := s.blk b _ hl
      rw [this.2]; exact .eptr c i o this.1
    · exact .eptr b i o hb
  | vref b o n hb hn =>
    simp only [Am.fwd]
    split
    · rename_i c hl
      have := s.blk b _ hl
      rw [this.2]; exact .vref c o n this.1 hn
    · exact .vref b o n hb hn
  | iptr e o b off f hok h1 h2 => exact .iptr e o b off f hok h1 h2
  | agg cs vs hl hh ih =>
    simp only [Am.fwd, fwdL_eq]
    refine .agg _ _ (by simpa using hl) fun i hi => ?_
    have hi' : i < cs.length := by simpa using hi
    have := ih i hi'
    simpa [List.getD_eq_getElem?_getD, hi'] using this
  | tup cs vs hl hh ih =>
    simp only [Am.fwd, fwdL_eq]
    refine .tup _ _ (by simpa using hl) fun i hi => ?_
    have hi' : i < cs.length := by simpa using hi
    have := ih i hi'
    simpa [List.getD_eq_getElem?_getD, hi'] using this
  | clo f cs vs hl hh ih =>
    simp only [Am.fwd, fwdL_eq]
    refine .clo _ _ _ (by simpa using hl) fun i hi => ?_
    have hi' : i < cs.length := by simpa using hi
    have := ih i hi'
    simpa [List.getD_eq_getElem?_getD, hi'] using this
  | ifc T d v hh ih => exact .ifc T _ v ih
  | any v => exact .any v
  | junk v hv => exact .junk v hv
/-- blocks get other names, one after the other -/
def movesU : HL → List (Id × Id) → Option HL
  | _, [] => some []
  | h, (b, c) :: ms => match look h b with
    | some x => if x.live = true ∧ look h c = none then (movesU (puts [(b, .moved c), (c, x)] h) ms).map fun u => [(b, .moved c), (c, x)] ++ u else none
    | none => none
theorem Sim.moves (s : Sim P w0 S A N ρ t h a w) : ∀ (ms : List (Id × Id)) (u : HL), movesU h ms = some u → ∃ ρ', Ext h ρ ρ' ∧ (∀ b, Live h b → Live (puts u h) b) ∧ Sim P w0 S A N ρ' t (puts u h) a w := by
  intro ms
  induction ms generalizing h ρ with
  | nil =>
    intro u hu
    simp only [movesU, Option.some.injEq] at hu
    subst hu
    exact ⟨ρ, Ext.refl _ _, fun b hb => hb, s⟩
  | cons m ms ih =>
    obtain ⟨b, c⟩ := m
    intro u hu
    simp only [movesU] at hu
    split at hu
    · rename_i x hx
      split at hu
      · rename_i hcond
        obtain ⟨u', h1, rfl⟩ := Option.map_eq_some_iff.1 hu
        obtain ⟨e1, s1⟩ := s.move hx hcond.1 hcond.2
        obtain ⟨ρ', e2, e3, s2⟩ := ih (h := puts [(b, .moved c), (c, x)] h) s1 u' h1
        have hl : ∀ b', Live h b' → Live (puts [(b, .moved c), (c, x)] h) b' := fun b' hb' => Live.put (Live.put hb')
        rw [puts_append]
        exact ⟨ρ', fun b' hb' => (e2 b' (hl b' hb')).trans (e1 b' hb'), fun b' hb' => e3 b' (hl b' hb'), s2⟩
      · cases hu
    · cases hu

/-! ### What a function of the blocks looks at -/
/-- alike within the groups fs -/
def Agree (fs : List Nat) (h h' : HL) : Prop := ∀ b : Id, b.1 ∈ fs → look h b = look h' b
def grp (bs : List Id) : List Nat := bs.map (·.1)
theorem grp_mem {bs : List Id} {b : Id} (hb : b ∈ bs) : b.1 ∈ grp bs := List.mem_map.2 ⟨b, hb, rfl⟩
theorem Agree.sub {fs gs : List Nat} (ha : Agree fs h h') (hs : ∀ k ∈ gs, k ∈ fs) : Agree gs h h' := fun b hb => ha b (hs _ hb)
theorem Agree.at {fs : List Nat} (ha : Agree fs h h') {bs : List Id} (hs : ∀ k ∈ grp bs, k ∈ fs) {b : Id} (hb : b ∈ bs) : look h b = look h' b := ha b (hs _ (grp_mem hb))
theorem mapM_congr' {α β : Type} {f g : α → Option β} : ∀ {l : List α}, (∀ x ∈ l, f x = g x) → l.mapM f = l.mapM g
  | [], _ => rfl
  | x :: l, h => by simp only [List.mapM_cons, h x (List.mem_cons_self ..), mapM_congr' fun y hy => h y (List.mem_cons_of_mem _ hy)]
theorem look_puts_congr {u : HL} {b : Id} (hb : look h b = look h' b) : look (puts u h) b = look (puts u h') b := by
  induction u generalizing h h' with
  | nil => exact hb
  | cons x u ih =>
    show look (puts u (put x.1 x.2 h)) b = look (puts u (put x.1 x.2 h')) b
    refine ih ?_
    rw [look_put, look_put, hb]
theorem Agree.puts {fs : List Nat} (ha : Agree fs h h') (u : HL) : Agree fs (puts u h) (puts u h') := fun b hb => look_puts_congr (ha b hb)
mutual
theorem fwd_of : ∀ {d : D}, (∀ b ∈ allIds d, look h b = look h' b) → fwd h d = fwd h' d
  | .ref b, hb => by simp only [fwd, hb b (by simp [allIds])]
  | .ptr b o, hb => by simp only [fwd, hb b (by simp [allIds])]
  | .eptr b i o, hb => by simp only [fwd, hb b (by simp [allIds])]
  | .vref b o n, hb => by simp only [fwd, hb b (by simp [allIds])]
  | .ifc T d, hb => by simp only [fwd, fwd_of (d := d) fun b h1 => hb b (by simpa [allIds] using h1)]
  | .clo f cs, hb => by simp only [fwd, fwdL_of (l := cs) fun b h1 => hb b (by simpa [allIds] using h1)]
  | .agg cs, hb => by simp only [fwd, fwdL_of (l := cs) fun b h1 => hb b (by simpa [allIds] using h1)]
  | .tup cs, hb => by simp only [fwd, fwdL_of (l := cs) fun b h1 => hb b (by simpa [allIds] using h1)]
  | .int .., _ | .bool _, _ | .str _, _ | .lst _, _ | .box _, _ | .nilp, _ | .nils, _ | .nilf, _ | .nili, _ | .iptr .., _ | .undef, _ | .junk, _ => by simp only [fwd]
theorem fwdL_of : ∀ {l : List D}, (∀ b ∈ allIdsL l, look h b = look h' b) → fwdL h l = fwdL h' l
  | [], _ => by simp only [fwdL]
  | d :: l, hb => by
    simp only [fwdL, fwd_of (d := d) fun b h1 => hb b (by simp [allIdsL, h1]), fwdL_of (l := l) fun b h1 => hb b (by simp [allIdsL, h1])]
end
theorem fwd_local {d : D} (ha : Agree (grp (allIds d)) h h') : fwd h d = fwd h' d := fwd_of fun b hb => ha b (grp_mem hb)
theorem elems_local {d : D} (ha : Agree (grp (allIds d)) h h') : elems h d = elems h' d := by
  cases d <;> simp only [elems]
  · rename_i b; rw [ha b (grp_mem (by simp [allIds]))]
  · rename_i b o n; rw [ha b (grp_mem (by simp [allIds]))]
theorem purD1_local {d : D} (ha : Agree (grp (allIds d)) h h') : purD h 1 d = purD h' 1 d := by
  unfold purD
  split
  · rename_i b
    have := ha b (grp_mem (by simp [allIds]))
    rw [this]
    rfl
  · rename_i b
    have := ha b (grp_mem (by simp [allIds]))
    rw [this]
    rfl
  · rfl
theorem pur1_local {d : D} (ha : Agree (grp (allIds d)) h h') : pur h 1 d = pur h' 1 d := by
  unfold pur
  split
  · rename_i cs
    rw [mapM_congr' fun x hx => purD1_local (h := h) (h' := h') fun b hb => ha b ?_]
    obtain ⟨c, hc, e⟩ := List.mem_map.1 hb
    rw [← e]
    exact grp_mem (by simp only [allIds]; exact allIdsL_mem hx c hc)
  · rename_i cs
    rw [mapM_congr' fun x hx => purD1_local (h := h) (h' := h') fun b hb => ha b ?_]
    obtain ⟨c, hc, e⟩ := List.mem_map.1 hb
    rw [← e]
    exact grp_mem (by simp only [allIds]; exact allIdsL_mem hx c hc)
  · exact purD1_local ha
def ids1_0 : D → List Id
  | .ref b => [b]
  | .ptr b 0 => [b]
  | _ => []
def ids1 : D → List Id
  | .agg cs => cs.flatMap ids1_0
  | .tup cs => cs.flatMap ids1_0
  | d => ids1_0 d
theorem idsD1 (d : D) : idsD h 1 d = ids1_0 d := by
  unfold idsD ids1_0
  split
  · refine congrArg (List.cons _) ?_
    split
    · rw [List.flatMap_eq_nil_iff]; intro e _; rw [List.flatMap_eq_nil_iff]; intro d _; rfl
    · rfl
  · refine congrArg (List.cons _) ?_
    split
    · rw [List.flatMap_eq_nil_iff]; intro d _; rfl
    · rfl
  · rename_i h1 h2
    split
    · exact absurd rfl (h1 _)
    · exact absurd rfl (h2 _)
    · rfl
theorem ids1_ok (d : D) : ids h 1 d = ids1 d := by
  have e : idsD h 1 = ids1_0 := funext fun d => idsD1 d
  unfold ids ids1
  rw [e]
  cases d <;> rfl
theorem ids1_sub (d : D) : ∀ b ∈ ids1 d, b ∈ allIds d := by
  have h0 : ∀ d, ∀ b ∈ ids1_0 d, b ∈ allIds d := by
    intro d b hb
    unfold ids1_0 at hb
    split at hb
    · simpa [allIds] using hb
    · simpa [allIds] using hb
    · cases hb
  intro b hb
  unfold ids1 at hb
  split at hb
  · obtain ⟨x, hx, hb⟩ := List.mem_flatMap.1 hb
    simp only [allIds]; exact allIdsL_mem hx b (h0 x b hb)
  · obtain ⟨x, hx, hb⟩ := List.mem_flatMap.1 hb
    simp only [allIds]; exact allIdsL_mem hx b (h0 x b hb)
  · exact h0 _ b hb
theorem frzB_local {b : Id} (hb : look h b = look h' b) : frzB h b = frzB h' b := by unfold frzB; rw [hb]
theorem filterMap_congr' {α β : Type} {f g : α → Option β} : ∀ {l : List α}, (∀ x ∈ l, f x = g x) → l.filterMap f = l.filterMap g
  | [], _ => rfl
  | x :: l, h => by simp only [List.filterMap_cons, h x (List.mem_cons_self ..), filterMap_congr' fun y hy => h y (List.mem_cons_of_mem _ hy)]
theorem frz_local {bs : List Id} (hb : ∀ b ∈ bs, look h b = look h' b) : frz h bs = frz h' bs := filterMap_congr' fun b h1 => by rw [frzB_local (hb b h1)]
/-- what is to be frozen can be -/
def frzOK (h : HL) (bs : List Id) : Bool := bs.all fun b => match look h b with | some x => !x.mutable || (frzB h b).isSome | none => true
theorem frzOK_local {bs : List Id} (hb : ∀ b ∈ bs, look h b = look h' b) : frzOK h bs = frzOK h' bs := by
  unfold frzOK
  rw [Bool.eq_iff_iff, List.all_eq_true, List.all_eq_true]
  constructor
  · intro h1 b hm
    have := h1 b hm
    rw [hb b hm, frzB_local (hb b hm)] at this
    exact this
  · intro h1 b hm
    have := h1 b hm
    rw [← hb b hm, ← frzB_local (hb b hm)] at this
    exact this
theorem frzOK_at {bs : List Id} (hf : frzOK h bs = true) : ∀ b ∈ bs, ∀ x, look h b = some x → x.mutable = true → (frzB h b).isSome = true := by
  intro b hb x hx hmu
  unfold frzOK at hf
  rw [List.all_eq_true] at hf
  have := hf b hb
  simpa [hx, hmu] using this
/-- what it reads as, once its rows are no more written -/
theorem Sim.pur1 (s : Sim P w0 S A N ρ t h a w) {d d' : D} {v : Value} (hd : Am.pur h 1 d = some d') (hf : frzOK h (ids1 d) = true) (hv : C ρ (Live h) (okOf A ρ h w) w d v) :
    Sim P w0 S A N ρ t (puts (frz h (ids1 d)) h) a w ∧ (∀ b, Live h b → Live (puts (frz h (ids1 d)) h) b) ∧ Rep (okOf A ρ (puts (frz h (ids1 d)) h) w) w d' v := by
  obtain ⟨q1, q2, q3⟩ := s.frz_ok (ids1 d)
  have hok : ∀ k, okOf A ρ h w k → okOf A ρ (puts (frz h (ids1 d)) h) w k := fun k hk => ⟨hk.1, fun b y hy hmu => by
    rcases q2 b with q | ⟨y', z1, z2⟩
    · rw [q] at hy; exact hk.2 b y hy hmu
    · rw [z2] at hy
      obtain rfl := Option.some.inj hy
      rw [(frzB_old z1).2.1] at hmu; cases hmu⟩
  refine ⟨q1, fun b hb => ?_, s.pur hok hd (fun b hb x hx hmu => ?_) hv⟩
  · rcases q2 b with q | ⟨y, _, z2⟩
    · simpa [Live, q] using hb
    · simp [Live, z2]
  · rw [ids1_ok] at hb
    obtain ⟨y, hy⟩ := Option.isSome_iff_exists.1 (frzOK_at hf b hb x hx hmu)
    have hfr := q3 b hb y hy
    have hyo := frzB_old hy
    refine ⟨⟨(q1.own b _ hfr hyo.2.2).1, (q1.own b _ hfr hyo.2.2).2.elim (q1.inS _) (q1.base _)⟩, fun b' z hz hmz he => ?_⟩
    have := q1.inj b' b z _ hz hfr (mutable_live hmz) hyo.2.2 he
    rw [this, hfr] at hz
    obtain rfl := Option.some.inj hz
    rw [hyo.2.1] at hmz; cases hmz
theorem movesU_local : ∀ (ms : List (Id × Id)) {h h' : HL}, Agree (grp (ms.flatMap fun m => [m.1, m.2])) h h' → movesU h ms = movesU h' ms
  | [], _, _, _ => rfl
  | (b, c) :: ms, h, h', ha => by
    have e1 := ha b (grp_mem (by simp))
    have e2 := ha c (grp_mem (by simp))
    simp only [movesU, e1, e2]
    split
    · rename_i x hx
      rw [movesU_local ms (h := puts [(b, .moved c), (c, x)] h) (h' := puts [(b, .moved c), (c, x)] h') fun d hd => look_puts_congr (ha d ?_)]
      unfold grp at hd ⊢
      simp only [List.flatMap_cons, List.map_append]
      exact List.mem_append_right _ hd
    · rfl
theorem movesU_keys : ∀ (ms : List (Id × Id)) {h u : HL}, movesU h ms = some u → ∀ x ∈ u, x.1 ∈ ms.flatMap fun m => [m.1, m.2]
  | [], h, u, hu => by simp only [movesU, Option.some.injEq] at hu; subst hu; simp
  | (b, c) :: ms, h, u, hu => by
    simp only [movesU] at hu
    split at hu
    · split at hu
      · obtain ⟨u', h1, rfl⟩ := Option.map_eq_some_iff.1 hu
        intro x hx
        simp only [List.cons_append, List.nil_append, List.mem_cons] at hx
        rcases hx with rfl | rfl | hx
        · simp
        · simp
        · have := movesU_keys ms h1 x hx
          simp only [List.flatMap_cons]
          exact List.mem_append_right _ this
      · cases hu
    · cases hu
end Go.Proofs.Ytkclhekkcffpoaa.Am
