/- The plain machine: calls. -/
import Derived.Test.YtdecnnhcbjhfgaaAm11
namespace Go.Proofs.Ytdecnnhcbjhfgaa.Am
set_option linter.unusedSimpArgs false
set_option linter.unusedVariables false
open Go Go.RowKit

variable {P : Program} {w0 : World} {S A : Nat → Prop} {N : Nat} {ρ : Nat → Pl} {t : List (Nat × D)} {h : List (Nat × Blk)} {a : Act} {w : World}

theorem mem_ptrs {ds : List D} {b : Nat} (hb : b ∈ ptrsOf ds) : D.ptr b 0 ∈ ds := by
  obtain ⟨d, hd, he⟩ := List.mem_filterMap.1 hb
  split at he
  · simp only [Option.some.injEq] at he; subst he; exact hd
  · cases he
theorem ptrs_mem {ds : List D} {b : Nat} (hb : D.ptr b 0 ∈ ds) : b ∈ ptrsOf ds := List.mem_filterMap.2 ⟨_, hb, rfl⟩

/-- the callee's start -/
theorem Sim.into (s : Sim P w0 S A N ρ t h a w) {ds ds' : List D} {hin : List Blk} {bs : List Nat} {K : Nat → Prop} (hd : ds.mapM (argOf h (ptrsOf ds)) = some ds') (hh : (ptrsOf ds).mapM (fun b => (look h b).bind (purB h)) = some hin) (hnd : (ptrsOf ds).Nodup)
    (hK : ∀ k, w.heap.size ≤ k → K k) (hKi : ∀ k, inB (fun i => ρ ((ptrsOf ds).getD i 0)) hin.length k → K k) (hKo : ∀ k, okOf A ρ h w k → K k)
    (hKr : ∀ b ∈ bs, ∀ E l, look h b = some (.row E l) → K (ρ b).blk) (hbs : ∀ b ∈ ds.flatMap ids ++ ((ptrsOf ds).flatMap fun b => ((look h b).map idsB).getD []), b ∈ bs)
    {vs : Array Value} (hl : ds.length = vs.size) (hv : ∀ i, i < ds.length → C ρ (Live h) (okOf A ρ h w) w (ds.getD i .undef) (vs.getD i undef)) :
    hin.length = (ptrsOf ds).length ∧ (∀ b ∈ ptrsOf ds, ∃ T cs, look h b = some (.var T cs)) ∧ Sim P w (inB (fun i => ρ ((ptrsOf ds).getD i 0)) hin.length) K 0 (fun i => ρ ((ptrsOf ds).getD i 0)) [] (idx hin) emptyA w ∧ ds'.length = vs.size ∧
      ∀ i, i < ds'.length → C (fun i => ρ ((ptrsOf ds).getD i 0)) (Live (idx hin)) (okOf K (fun i => ρ ((ptrsOf ds).getD i 0)) (idx hin) w) w (ds'.getD i .undef) (vs.getD i undef) := by
  generalize hps : ptrsOf ds = ps at *
  obtain ⟨e1, q1⟩ := mapM_len hd
  obtain ⟨e2, q2⟩ := mapM_len hh
  have get : ∀ i, i < ps.length → ps[i]? = some (ps.getD i 0) := fun i hi => by simp [List.getD_eq_getElem?_getD, hi]
  have pm : ∀ i, i < ps.length → ps.getD i 0 ∈ ps := fun i hi => List.mem_of_getElem? (get i hi)
  have info : ∀ i, i < ps.length → ∃ T cs cs', look h (ps.getD i 0) = some (.var T cs) ∧ cs.mapM (Am.pur0 h) = some cs' ∧ hin[i]? = some (.var T cs') := by
    intro i hi
    obtain ⟨y, hy1, hy2⟩ := q2 i hi _ (get i hi)
    obtain ⟨x, hx, hxb⟩ := Option.bind_eq_some_iff.1 hy1
    cases x with
    | var T cs =>
      obtain ⟨cs', hm, rfl⟩ := Option.map_eq_some_iff.1 hxb
      exact ⟨T, cs, cs', hx, hm, hy2⟩
    | row E l => simp [purB] at hxb
    | froz l => simp [purB] at hxb
    | gone => simp [purB] at hxb
  let ρc : Nat → Pl := fun i => ρ (ps.getD i 0)
  have npass : ∀ k, (∀ b ∈ ps, (ρ b).blk ≠ k) → ∀ b x, look (idx hin) b = some x → x.mutable = true → (ρc b).blk ≠ k := by
    intro k hk b x hx _
    rw [look_idx] at hx
    have hb : b < ps.length := by have := (List.getElem?_eq_some_iff.1 hx).1; omega
    exact hk _ (pm b hb)
  have hok : ∀ k, okOf A ρ h w k → okOf K ρc (idx hin) w k := by
    rintro k hk
    refine ⟨⟨hk.1.1, hKo k hk⟩, npass k fun b hb => ?_⟩
    obtain ⟨i, hi, rfl⟩ := List.getElem_of_mem hb
    obtain ⟨T, cs, cs', hx, _⟩ := info i hi
    have : ps.getD i 0 = ps[i] := by simp [List.getD_eq_getElem?_getD, hi]
    rw [this] at hx
    exact hk.2 _ _ hx rfl
  have hrow : ∀ b ∈ bs, ∀ E l, look h b = some (.row E l) → okOf K ρc (idx hin) w (ρ b).blk := by
    intro b hb E l hl
    refine ⟨⟨(s.own b _ hl rfl).1, hKr b hb E l hl⟩, npass _ fun b' hb' he => ?_⟩
    obtain ⟨i, hi, rfl⟩ := List.getElem_of_mem hb'
    obtain ⟨T, cs, cs', hx, _⟩ := info i hi
    have e : ps.getD i 0 = ps[i] := by simp [List.getD_eq_getElem?_getD, hi]
    rw [e] at hx
    have := s.inj _ b _ _ hx hl rfl rfl he
    rw [this, hl] at hx
    cases hx
  have hblk : ∀ b x, look (idx hin) b = some x → BlkOK P K ρc (idx hin) w b x ∧ (ρc b).blk < w.heap.size ∧ inB ρc hin.length (ρc b).blk := by
    intro b x hx
    rw [look_idx] at hx
    have hb' : b < hin.length := (List.getElem?_eq_some_iff.1 hx).1
    have hb : b < ps.length := by omega
    obtain ⟨T, cs, cs', i1, i2, i3⟩ := info b hb
    rw [i3] at hx
    obtain rfl := Option.some.inj hx
    refine ⟨?_, (s.own _ _ i1 rfl).1, ⟨b, hb', rfl⟩⟩
    obtain ⟨c, c1, c2, c3⟩ := s.blk _ _ i1
    obtain ⟨m1, m2⟩ := mapM_pur0 i2
    refine ⟨c, c1, by omega, fun j hj => .pure ?_⟩
    refine s.pur0' (m2 j (by omega)) hok (fun b' hb' => ?_) (c3 j (by omega))
    refine hrow b' (hbs b' (List.mem_append_right _ (List.mem_flatMap.2 ⟨ps.getD b 0, pm b hb, ?_⟩)))
    rw [i1]
    simp only [Option.map_some, Option.getD_some, idsB]
    have hj' : j < cs.length := by omega
    refine List.mem_flatMap.2 ⟨cs.getD j .undef, ?_, hb'⟩
    rw [List.getD_eq_getElem?_getD, List.getElem?_eq_getElem hj']
    exact List.getElem_mem hj'
  refine ⟨e2, fun b hb => ?_, ⟨hK, hKi, Fr.refl _ _, rfl, rfl, fun k d hk => (by cases hk), fun b x hx => (hblk b x hx).1, fun b x hx _ => ⟨(hblk b x hx).2.1, .inl (hblk b x hx).2.2⟩, fun b b' x x' hx hx' _ _ he => ?_⟩, by omega, fun i hi => ?_⟩
  · obtain ⟨i, hi, rfl⟩ := List.getElem_of_mem hb
    obtain ⟨T, cs, cs', hx, _⟩ := info i hi
    have e : ps.getD i 0 = ps[i] := by simp [List.getD_eq_getElem?_getD, hi]
    rw [e] at hx
    exact ⟨T, cs, hx⟩
  · rw [look_idx] at hx hx'
    have hb : b < ps.length := by have := (List.getElem?_eq_some_iff.1 hx).1; omega
    have hb' : b' < ps.length := by have := (List.getElem?_eq_some_iff.1 hx').1; omega
    obtain ⟨T, cs, cs', i1, _⟩ := info b hb
    obtain ⟨T', cs2, cs2', j1, _⟩ := info b' hb'
    exact nodup_get hnd hb hb' (s.inj _ _ _ _ i1 j1 rfl rfl he)
  · have hi' : i < ds.length := by omega
    have hdi : ds[i]? = some (ds.getD i .undef) := by simp [List.getD_eq_getElem?_getD, hi']
    obtain ⟨y, hy1, hy2⟩ := q1 i hi' _ hdi
    have hyd : ds'.getD i .undef = y := by simp [List.getD_eq_getElem?_getD, hy2]
    rw [hyd]
    have hc := hv i hi'
    generalize hgd : ds.getD i .undef = d at *
    have hmem : d ∈ ds := List.mem_of_getElem? hdi
    unfold argOf at hy1
    split at hy1
    · rename_i b
      simp only [Option.some.injEq] at hy1
      subst hy1
      have hbp : b ∈ ps := by rw [← hps]; exact ptrs_mem hmem
      obtain ⟨hlb, hve⟩ := hc.ptr_inv
      rw [hve]
      have hix : ps.idxOf b < ps.length := List.idxOf_lt_length_of_mem hbp
      have hge : ps.getD (ps.idxOf b) 0 = b := by simp [List.getD_eq_getElem?_getD, hix]
      have := C.ptr (ρ := ρc) (L := Live (idx hin)) (ok := okOf K ρc (idx hin) w) (w := w) (ps.idxOf b) 0 (by simp [Live, look_idx]; omega)
      simp only [ρc, hge] at this
      exact this
    · refine .pure (s.pur' hy1 hok (fun b hb => hrow b (hbs b (List.mem_append_left _ (List.mem_flatMap.2 ⟨d, hmem, hb⟩)))) hc)

theorem Sim.call (s : Sim P w0 S A N ρ t h a w) {f : FuncId} {F : Fn} (hS : Sound P f F) {n : Nat} {ds : List D} {d : D} {u : List (Nat × Blk)} (hd : aCall F h n ds = some (d, u)) (hnew : ∀ x ∈ u, n ≤ x.1 → look h x.1 = none)
    {vs : Array Value} (hl : ds.length = vs.size) (hv : ∀ i, i < ds.length → C ρ (Live h) (okOf A ρ h w) w (ds.getD i .undef) (vs.getD i undef)) :
    Calls P f vs w fun e w' => ∃ v ρ2, e = .returned v ∧ Ext h ρ ρ2 ∧ Sim P w0 S A N ρ2 t (puts u h) a w' ∧ C ρ2 (Live (puts u h)) (okOf A ρ2 (puts u h) w') w' d v := by
  unfold aCall at hd
  simp only at hd
  split at hd
  · rename_i ds' hin hd1 hh1
    split at hd
    · rename_i hnd
      split at hd
      · rename_i r hout hF
        have hnews : ∀ j, j < hout.length - (ptrsOf ds).length → ∀ uu : List (Nat × Blk), (∀ x ∈ uu, n ≤ x.1 → look h x.1 = none) → news (ptrsOf ds) n hout ⊆ uu → look h (n + j) = none := by
          intro j hj uu hu hsub
          have hlt : (ptrsOf ds).length + j < hout.length := by omega
          have hm : (nameOf (ptrsOf ds) n ((ptrsOf ds).length + j), renB (nameOf (ptrsOf ds) n) hout[(ptrsOf ds).length + j]) ∈ news (ptrsOf ds) n hout :=
            List.mem_map.2 ⟨(hout[(ptrsOf ds).length + j], (ptrsOf ds).length + j), List.mk_mem_zipIdx_iff_getElem?.2 (List.getElem?_eq_getElem hlt), rfl⟩
          have hn : nameOf (ptrsOf ds) n ((ptrsOf ds).length + j) = n + j := by
            unfold nameOf
            rw [if_neg (by omega)]
            omega
          have := hu _ (hsub hm) (by rw [hn]; omega)
          rw [hn] at this
          exact this
        split at hd
        · rename_i hflat
          simp only [Option.some.injEq, Prod.mk.injEq] at hd
          obtain ⟨rfl, rfl⟩ := hd
          simp only [Bool.and_eq_true, List.all_eq_true] at hflat
          obtain ⟨p1, p2, p3, p4, p5⟩ := s.into (K := fun _ => True) (bs := ds.flatMap ids ++ ((ptrsOf ds).flatMap fun b => ((look h b).map idsB).getD [])) hd1 hh1 hnd (fun _ _ => trivial) (fun _ _ => trivial) (fun _ _ => trivial) (fun _ _ _ _ _ => trivial) (fun _ h => h) hl hv
          refine (hS.2 ds' hin r hout hF w _ _ vs p3 p4 p5).mono ?_
          rintro e w' ⟨v, ρ', rfl, h1, h2, h3, h4⟩
          obtain ⟨ρ2, g0, g1, g2⟩ := s.back hnd p1 p2 (fun j hj => hnews j hj _ hnew (fun _ h => h)) h1 h2 h3 h4 (.inl hflat)
          exact ⟨v, ρ2, rfl, g0, g1, g2⟩
        · simp only [Option.some.injEq, Prod.mk.injEq] at hd
          obtain ⟨rfl, rfl⟩ := hd
          generalize hbs : ds.flatMap ids ++ ((ptrsOf ds).flatMap fun b => ((look h b).map idsB).getD []) = bs at *
          obtain ⟨f1, f2, f3⟩ := s.frz_ok bs h s fun _ => .inl rfl
          have hok1 : ∀ k, okOf A ρ h w k → okOf A ρ (puts (frz h bs) h) w k := by
            rintro k ⟨hk, hm⟩
            refine ⟨hk, fun b y hy hmu => ?_⟩
            rcases f2 b with q | ⟨E, l, q1, q2⟩
            · rw [q] at hy; exact hm b y hy hmu
            · rw [q2] at hy
              obtain rfl := Option.some.inj hy
              simp [Blk.mutable] at hmu
          have hrow1 : ∀ b ∈ bs, ∀ E l, look h b = some (.row E l) → okOf A ρ (puts (frz h bs) h) w (ρ b).blk := by
            intro b hb E l hlk
            have hfr := f3 b E l hb hlk
            refine ⟨⟨(f1.own b _ hfr rfl).1, (f1.own b _ hfr rfl).2.elim (f1.inS _) (f1.base _)⟩, fun b' y hy hmu he => ?_⟩
            have := f1.inj b' b y _ hy hfr (mutable_live hmu) rfl he
            rw [this, hfr] at hy
            obtain rfl := Option.some.inj hy
            simp [Blk.mutable] at hmu
          obtain ⟨p1, p2, p3, p4, p5⟩ := s.into (K := fun k => okOf A ρ (puts (frz h bs) h) w k ∨ inB (fun i => ρ ((ptrsOf ds).getD i 0)) hin.length k ∨ w.heap.size ≤ k) (bs := bs) hd1 hh1 hnd (fun _ h => .inr (.inr h)) (fun _ h => .inr (.inl h)) (fun k h => .inl (hok1 k h)) (fun b hb E l h => .inl (hrow1 b hb E l h)) (fun b hb => by rw [← hbs]; exact hb) hl hv
          refine (hS.2 ds' hin r hout hF w _ _ vs p3 p4 p5).mono ?_
          rintro e w' ⟨v, ρ', rfl, h1, h2, h3, h4⟩
          have hvar1 : ∀ b ∈ ptrsOf ds, ∃ T cs, look (puts (frz h bs) h) b = some (.var T cs) := by
            intro b hb
            obtain ⟨T, cs, e⟩ := p2 b hb
            rcases f2 b with q | ⟨E, l, q1, _⟩
            · exact ⟨T, cs, q.trans e⟩
            · rw [e] at q1; cases q1
          have hnone : ∀ b, look h b = none → look (puts (frz h bs) h) b = none := by
            intro b hb
            rcases f2 b with q | ⟨E, l, q1, _⟩
            · exact q.trans hb
            · rw [hb] at q1; cases q1
          obtain ⟨ρ2, g0, g1, g2⟩ := f1.back hnd p1 hvar1 (fun j hj => hnone _ (hnews j hj _ hnew (List.subset_append_right _ _))) h1 h2 h3 h4 (.inr fun k hk => hk)
          rw [puts_append]
          refine ⟨v, ρ2, rfl, fun b hb => g0 b ?_, g1, g2⟩
          rcases f2 b with q | ⟨E, l, _, q2⟩
          · simpa [Live, q] using hb
          · simp [Live, q2]
      · cases hd
    · cases hd
  · cases hd
end Go.Proofs.Ytdecnnhcbjhfgaa.Am
