/- The plain machine with types: what is done ahead of an operation: rows are frozen, blocks are moved into families. -/
import Derived.Test.YtkclhekkcffpoaaU3
namespace Go.Proofs.Ytkclhekkcffpoaa.Am
set_option linter.unusedSimpArgs false
set_option linter.unusedVariables false
open Go Go.RowKit

variable {P : Program} {N : Nat}

/-- u, vu: what may be done ahead of an operation that looks at f -/
def PreOK (P : Program) (N : Nat) (h : VH) (u : HL) (vu : VH) (f : List Nat) : Prop :=
  UpdOK h u vu ∧ ∀ o t d u1, OpS P N o t (puts u (toH h)) d u1 f → OpS P N o t (toH h) d (u ++ u1) f
theorem pre_nil {h : VH} {f : List Nat} : PreOK P N h [] [] f := ⟨upd_nil, fun o t d u1 hd => hd⟩
theorem pre_app {h : VH} {u1 u2 : HL} {v1 v2 : VH} {f : List Nat} (h1 : PreOK P N h u1 v1 f) (h2 : PreOK P N (puts v1 h) u2 v2 f) : PreOK P N h (u1 ++ u2) (v1 ++ v2) f := by
  refine ⟨upd_app h1.1 h2.1, fun o t d u hd => ?_⟩
  rw [List.append_assoc]
  refine h1.2 o t d _ (opS_congr (fun b => (h1.1.1 b).symm) (h2.2 o t d u (opS_congr (fun b => ?_) hd)))
  rw [puts_append]
  exact look_puts_congr (h1.1.1 b)

/-! ### What is no more written -/
theorem pure_leaf {t : Ty} (ht : t.pure = true) (x : t.den) : ∀ c ∈ (encD t x).cells, leaf c = some c := by
  intro c hc
  have hp := (encD_pure ht x).2
  rw [List.all_eq_true] at hp
  have hne : c ≠ .nils := by
    rintro rfl
    cases t <;> simp [Ty.pure] at ht
    case ob t => cases x <;> simp [encD, D.cells] at hc
    all_goals simp [encD, D.cells, vtxC, pplC, intsD] at hc
  unfold leaf
  rw [if_pos (hp c hc)]
  congr 1
  cases c <;> first | rfl | exact absurd rfl hne
theorem mapM_self {f : D → Option D} : ∀ {l : List D}, (∀ c ∈ l, f c = some c) → l.mapM f = some l
  | [], _ => rfl
  | c :: l, hl => by simp [List.mapM_cons, hl c (List.mem_cons_self ..), mapM_self fun d hd => hl d (List.mem_cons_of_mem _ hd)]
theorem purE_pure {t : Ty} (ht : t.pure = true) (x : t.den) : purE leaf (encD t x) = some (encD t x) := by
  by_cases hag : ∃ cs, encD t x = .agg cs
  · obtain ⟨cs, he⟩ := hag
    have := pure_leaf ht x
    rw [he] at this ⊢
    simp only [purE, D.cells] at this ⊢
    rw [mapM_self this]
    rfl
  · have hc : (encD t x).cells = [encD t x] := cells_single fun cs hcs => hag ⟨cs, hcs⟩
    have h1 := pure_leaf ht x (encD t x) (by rw [hc]; exact List.mem_singleton.2 rfl)
    have h2 : purE leaf (encD t x) = leaf (encD t x) := by
      generalize encD t x = d at *
      cases d <;> first | rfl | exact absurd ⟨_, rfl⟩ hag
    rw [h2, h1]
theorem row_pure {t : Ty} (ht : t.pure = true) (xs : List t.den) : (xs.map (encD t)).mapM (purE leaf) = some (xs.map (encD t)) :=
  mapM_self fun c hc => by obtain ⟨x, _, rfl⟩ := List.mem_map.1 hc; exact purE_pure ht x
theorem frz1_row {h : VH} {b : Nat} {E : TypeId} {t : Ty} {xs : List t.den} (hb : look h b = some (.row E t xs)) (ht : t.pure = true) : frz (toH h) [(b, 0)] = [((b, 0), .froz (xs.map (encD t)))] := by
  have hl := look_at (i := 0) hb (d := .row E (xs.map (encD t))) rfl
  simp [frz, frzB, hl, row_pure ht]
theorem pre_row {h : VH} {b : Nat} {E : TypeId} {t : Ty} {xs : List t.den} {f : List Nat} (hb : look h b = some (.row E t xs)) (ht : t.pure = true) (hf : b ∈ f) : PreOK P N h (frz (toH h) [(b, 0)]) [(b, .froz t xs)] f := by
  refine ⟨by rw [frz1_row hb ht]; exact upd_set hb rfl rfl, fun o t d u1 hd => opS_frz (fun k hk => ?_) hd⟩
  simp only [grp, List.map_cons, List.map_nil, List.mem_singleton] at hk
  rw [hk]; exact hf
/-- a variable's content, by its last names -/
theorem pre_last {h : VH} {b : Nat} {x y : VB} {d : Blk} {f : List Nat} (hb : look h b = some x) (hx : x.blks = [d]) (hy : y.blks = [lastB (toH h) d]) (hf : b ∈ f ∧ ∀ c ∈ blkIds d, c.1 ∈ f) : PreOK P N h [((b, 0), lastB (toH h) d)] [(b, y)] f := by
  have hl := look_at (i := 0) hb (d := d) (by rw [hx]; rfl)
  refine ⟨upd_one (fun i hi => ?_) hy, fun o t d' u1 hd => opS_last hl hf hd⟩
  rw [look_toH, hb]
  simp only [Option.bind_some, hx]
  cases i with
  | zero => exact absurd rfl hi
  | succ i => rfl
theorem pre_fvb {h : VH} {b : Nat} {T : TypeId} {t : Ty} {x : t.den} {cs : List V} {f : List Nat} (hb : look h b = some (.var T cs)) (hc : toDL cs = (encD t x).cells) (ht : t.pure = true) (hf : b ∈ f) : PreOK P N h (frz (toH h) [(b, 0)]) [(b, .fvb t x)] f := by
  have hl := look_at (i := 0) hb (d := .var T (toDL cs)) rfl
  have hne : ¬ (encD t x).cells = [] := by
    intro e
    have h1 := (encD_wf t x).1
    have h2 := t.sz_pos
    rw [e] at h1
    simp at h1
    omega
  have e : frz (toH h) [(b, 0)] = [((b, 0), .fvar (encD t x).cells)] := by simp [frz, frzB, hl, hc, mapM_self (pure_leaf ht x), hne]
  refine ⟨by rw [e]; exact upd_set hb rfl rfl, fun o t d u1 hd => opS_frz (fun k hk => ?_) hd⟩
  simp only [grp, List.map_cons, List.map_nil, List.mem_singleton] at hk
  rw [hk]; exact hf
/-- a block becomes the next one of a family -/
theorem pre_move {h : VH} {b k : Nat} {x y z : VB} {d : Blk} {f : List Nat} (hb : look h b = some x) (hx : x.blks = [d]) (hl : d.live = true) (hk : look h k = some y) (hz : z.blks = y.blks ++ [d]) (hbk : b ≠ k) (hf : b ∈ f ∧ k ∈ f) :
    PreOK P N h [((b, 0), .moved (k, y.blks.length)), ((k, y.blks.length), d)] [(b, .moved k y.blks.length), (k, z)] f := by
  have hlb := look_at (i := 0) hb (d := d) (by rw [hx]; rfl)
  have hln : look (toH h) (k, y.blks.length) = none := by rw [look_toH, hk]; simp
  have hm : movesU (toH h) [((b, 0), (k, y.blks.length))] = some [((b, 0), .moved (k, y.blks.length)), ((k, y.blks.length), d)] := by
    simp only [movesU, hlb]
    rw [if_pos ⟨hl, hln⟩]
    rfl
  refine ⟨?_, fun o t d' u1 hd => opS_moves hm (fun g hg => ?_) hd⟩
  · have h1 : UpdOK h [((b, 0), .moved (k, y.blks.length))] [(b, .moved k y.blks.length)] := upd_one (fun i hi => by
      rw [look_toH, hb]
      simp only [Option.bind_some, hx]
      cases i with
      | zero => exact absurd rfl hi
      | succ i => rfl) rfl
    have hk' : look (puts [(b, VB.moved k y.blks.length)] h) k = some y := by
      show look (put b _ h) k = _
      rw [look_put, if_neg (Ne.symm hbk)]; exact hk
    have h2 := upd_push (y := z) hk' hz
    exact upd_app h1 h2
  · simp only [List.flatMap_cons, List.flatMap_nil, List.append_nil, grp, List.map_cons, List.map_nil, List.mem_cons, List.not_mem_nil, or_false] at hg
    rcases hg with rfl | rfl
    · exact hf.1
    · exact hf.2

/-! ### Fitting -/
inductive Sh where
  | any | frz | mr (k : Nat) | mp (k : Nat) | bx (t : Ty)
/-- what the cells of an element want -/
def Ty.shs : Ty → List Sh
  | .lst _ => [.frz]
  | .led => [.frz, .any]
  | .vtx => [.any, .any, .frz, .any]
  | .ppl => [.any, .any, .frz, .any, .frz]
  | .wrl => [.frz, .frz, .any, .frz, .frz]
  | .evt => [.any, .any, .any, .any, .any, .frz, .any]
  | .odd => [.any, .any, .frz, .any, .any]
  | .ob t => [.bx t]
  | .hr k => [.mr k]
  | .hp k => [.mp k]
  | .vtxo k => [.any, .any, .mr k, .any]
  | .pplm k => [.any, .any, .frz, .any, .mr k]
  | .pplo k k' => [.any, .any, .mr k, .any, .mr k']
  | .nod k => [.any, .any, .frz, .any, .any, .mr k]
  | _ => []
def putK {α : Type} (x : Nat) (a : α) : List (Nat × α) → (List (Nat × α) → Prop) → Prop
  | [], K => K [(x, a)]
  | (k, b) :: l, K => bif Nat.beq x k then K ((k, a) :: l) else putK x a l fun l' => K ((k, b) :: l')
theorem putK_ok {α : Type} {x : Nat} {a : α} : ∀ {l : List (Nat × α)} {K : List (Nat × α) → Prop}, putK x a l K → K (put x a l)
  | [], K, h => h
  | (k, b) :: l, K, h => by
    simp only [putK] at h
    simp only [put]
    by_cases e : x = k
    · subst e
      simp only [Nat.beq_refl, cond_true] at h
      simpa using h
    · have : Nat.beq x k = false := by
        cases hb : Nat.beq x k with
        | false => rfl
        | true => exact absurd (Nat.eq_of_beq_eq_true hb) e
      rw [this] at h
      rw [if_neg e]
      exact putK_ok h
def putsK {α : Type} : List (Nat × α) → List (Nat × α) → (List (Nat × α) → Prop) → Prop
  | [], l, K => K l
  | (x, a) :: u, l, K => putK x a l fun l' => putsK u l' K
theorem putsK_ok {α : Type} : ∀ {u l : List (Nat × α)} {K : List (Nat × α) → Prop}, putsK u l K → K (puts u l)
  | [], l, K, h => h
  | (x, a) :: u, l, K, h => putsK_ok (u := u) (putK_ok (K := fun l' => putsK u l' K) h)
/-- the groups that a value leads to -/
def grpV : V → List Nat
  | .ref b | .ptr b _ | .eptr b _ _ | .vref b _ _ | .aptr b _ _ => [b]
  | .fref k _ | .fptr k _ _ | .feptr k _ _ _ | .faptr k _ _ _ | .hro k _ | .hpo k _ => [k]
  | _ => []
mutual
def grpsV : V → List Nat
  | .agg cs => grpsVs cs
  | .tup cs => grpsVs cs
  | .clo _ cs => grpsVs cs
  | .ifc _ v => grpsV v
  | v => grpV v
def grpsVs : List V → List Nat
  | [] => []
  | v :: l => grpsV v ++ grpsVs l
end
mutual
theorem grpsV_ok : ∀ (v : V), ∀ b ∈ allIds v.toD, b.1 ∈ grpsV v
  | .agg cs, b, hb => by simp only [grpsV]; exact grpsVs_ok cs b (by simpa only [V.toD, allIds] using hb)
  | .tup cs, b, hb => by simp only [grpsV]; exact grpsVs_ok cs b (by simpa only [V.toD, allIds] using hb)
  | .clo f cs, b, hb => by simp only [grpsV]; exact grpsVs_ok cs b (by simpa only [V.toD, allIds] using hb)
  | .ifc T v, b, hb => by simp only [grpsV]; exact grpsV_ok v b (by simpa only [V.toD, allIds] using hb)
  | .ref c, b, hb | .ptr c _, b, hb | .eptr c _ _, b, hb | .vref c _ _, b, hb | .aptr c _ _, b, hb | .fref c _, b, hb | .fptr c _ _, b, hb | .feptr c _ _ _, b, hb | .faptr c _ _ _, b, hb => by
    simp only [V.toD, allIds, List.mem_singleton] at hb; subst hb; simp [grpsV, grpV]
  | .hro k o, b, hb => by
    cases o with
    | none => cases hb
    | some i => simp only [V.toD, hrD, allIds, List.mem_singleton] at hb; subst hb; simp [grpsV, grpV]
  | .hpo k o, b, hb => by
    cases o with
    | none => cases hb
    | some i => simp only [V.toD, hpD, allIds, List.mem_singleton] at hb; subst hb; simp [grpsV, grpV]
  | .obo t o, b, hb => by cases o <;> cases hb
  | .int .., b, hb | .bool _, b, hb | .tt, b, hb | .ff, b, hb | .str _, b, hb | .lst .., b, hb | .box .., b, hb | .nilp, b, hb | .nils, b, hb | .nilf, b, hb | .nili, b, hb | .iptr .., b, hb | .undef, b, hb | .junk, b, hb => by cases hb
theorem grpsVs_ok : ∀ (l : List V), ∀ b ∈ allIdsL (toDL l), b.1 ∈ grpsVs l
  | [], b, hb => by cases hb
  | v :: l, b, hb => by
    simp only [toDL, allIdsL, List.mem_append] at hb
    simp only [grpsVs, List.mem_append]
    rcases hb with hb | hb
    · exact .inl (grpsV_ok v b hb)
    · exact .inr (grpsVs_ok l b hb)
end
def nzV : V → V
  | .nils => .lst (.int .i64) []
  | v => v
theorem nzV_ok (v : V) : (nzV v).toD = nz0 v.toD := by
  cases v
  case hro k o => cases o <;> rfl
  case hpo k o => cases o <;> rfl
  case obo t o => cases o <;> rfl
  all_goals rfl
def nzVs : List V → List V
  | [] => []
  | v :: l => nzV v :: nzVs l
theorem nzVs_ok : ∀ l : List V, toDL (nzVs l) = (toDL l).map nz0
  | [] => rfl
  | v :: l => by simp only [nzVs, toDL, List.map_cons, nzV_ok, nzVs_ok l]
/-- an element, out of its cells -/
def mkV (t : Ty) (cs : List V) : V := bif t.sz == 1 then cs.headD .undef else .agg cs
/-- one cell, a row: f: the groups that may be looked at -/
def fitR (h : VH) (sh : Sh) (v : V) (K : VH → List Nat → Prop) : Prop :=
  match sh, v with
  | .frz, .ref b => (match lookO h b with
    | some (.row _ t xs) => Chk t.pure (K [(b, .froz t xs)] [b])
    | _ => K [] [])
  | .mr k, .ref b => (match lookO h b, lookO h k with
    | some (.row E t xs), some (.frow E' t' xss) => Chk (Nat.beq E E' && !Nat.beq b k) (match castL t' t xs with
      | some xs' => K [(b, .moved k xss.length), (k, .frow E' t' (xss ++ [xs']))] [b, k]
      | none => False)
    | _, _ => K [] [])
  | _, _ => K [] []
theorem fitR_ok {h : VH} {sh : Sh} {v : V} {K : VH → List Nat → Prop} (hk : fitR h sh v K) : ∃ u vu g, (∀ f : List Nat, (∀ k ∈ g, k ∈ f) → PreOK P N h u vu f) ∧ K vu g := by
  unfold fitR at hk
  split at hk
  · rename_i b
    split at hk
    · rename_i E t xs hb
      obtain ⟨c, hk⟩ := hk.ok
      rw [lookO_ok] at hb
      exact ⟨_, _, _, fun f hf => pre_row hb c (hf b (by simp)), hk⟩
    · exact ⟨[], [], [], fun f _ => pre_nil, hk⟩
  · rename_i k b
    split at hk
    · rename_i E t xs E' t' xss hb hk'
      obtain ⟨c, hk⟩ := hk.ok
      simp only [Bool.and_eq_true, Bool.not_eq_true'] at c
      obtain ⟨c1, c2⟩ := c
      obtain rfl := Nat.eq_of_beq_eq_true c1
      have hbk : b ≠ k := by rintro rfl; simp at c2
      rw [lookO_ok] at hb hk'
      split at hk
      · rename_i xs' hx
        have hce := castL_ok hx
        have hpre : ∀ f : List Nat, (∀ g ∈ [b, k], g ∈ f) → PreOK P N h [((b, 0), .moved (k, (VB.frow E t' xss).blks.length)), ((k, (VB.frow E t' xss).blks.length), .row E (xs.map (encD t)))] [(b, .moved k (VB.frow E t' xss).blks.length), (k, .frow E t' (xss ++ [xs']))] f := fun f hf =>
          pre_move hb rfl rfl hk' (by simp only [VB.blks, List.map_append, List.map_cons, List.map_nil, hce]) hbk ⟨hf b (by simp), hf k (by simp)⟩
        have e : (VB.frow E t' xss).blks.length = xss.length := by simp [VB.blks]
        rw [e] at hpre
        exact ⟨_, _, _, hpre, hk⟩
      · exact hk.elim
    · exact ⟨[], [], [], fun f _ => pre_nil, hk⟩
  · exact ⟨[], [], [], fun f _ => pre_nil, hk⟩
def fitRs (h : VH) : List Sh → List V → (VH → VH → List Nat → Prop) → Prop
  | sh :: shs, v :: vs, K => fitR h sh v fun vu g => putsK vu h fun h1 => fitRs h1 shs vs fun h2 vu2 g2 => K h2 (vu ++ vu2) (g ++ g2)
  | _, _, K => K h [] []
theorem fitRs_ok : ∀ {shs : List Sh} {vs : List V} {h : VH} {K : VH → VH → List Nat → Prop}, fitRs h shs vs K → ∃ u vu g, (∀ f : List Nat, (∀ k ∈ g, k ∈ f) → PreOK P N h u vu f) ∧ K (puts vu h) vu g
  | [], vs, h, K, hk => ⟨[], [], [], fun f _ => pre_nil, by cases vs <;> exact hk⟩
  | sh :: shs, [], h, K, hk => ⟨[], [], [], fun f _ => pre_nil, hk⟩
  | sh :: shs, v :: vs, h, K, hk => by
    obtain ⟨u1, v1, g1, p1, hk⟩ := fitR_ok (P := P) (N := N) hk
    have hk := putsK_ok hk
    obtain ⟨u2, v2, g2, p2, hk⟩ := fitRs_ok hk
    refine ⟨u1 ++ u2, v1 ++ v2, g1 ++ g2, fun f hf => pre_app (p1 f fun k hk => hf k (List.mem_append_left _ hk)) (p2 f fun k hk => hf k (List.mem_append_right _ hk)), ?_⟩
    rw [puts_append]
    exact hk
/-- a variable's content fits the kind t -/
def tameK (h : VH) (b : Nat) (T : TypeId) (cs : List V) (t : Ty) (K : VH → VH → List Nat → t.den → List V → Prop) : Prop :=
  fitRs h t.shs cs fun h1 vu1 g1 => (match lookO h1 b with
    | some (.var T' cs') => Chk (Nat.beq T T') (fwdVs h1 cs' fun cs2 => (match dec t (mkV t (nzVs cs2)) with
      | some x => Chk (lenB (nzVs cs2) t.sz) (putsK [(b, .var T (nzVs cs2))] h1 fun h2 => K h2 (vu1 ++ [(b, .var T (nzVs cs2))]) (g1 ++ b :: grpsVs cs') x (nzVs cs2))
      | none => False))
    | _ => False)
where
  lenB : List V → Nat → Bool
  | [], 0 => true
  | _ :: l, n + 1 => lenB l n
  | _, _ => false
theorem lenB_ok : ∀ {l : List V} {n : Nat}, tameK.lenB l n = true → l.length = n
  | [], 0, _ => rfl
  | _ :: l, n + 1, h => by simp [lenB_ok (l := l) (n := n) h]
  | [], _ + 1, h => by cases h
  | _ :: _, 0, h => by cases h
theorem mkV_cells {t : Ty} {cs : List V} {x : t.den} (hl : cs.length = t.sz) (hd : (mkV t cs).toD = encD t x) : toDL cs = (encD t x).cells := by
  unfold mkV at hd
  by_cases hs : t.sz = 1
  · have e : (t.sz == 1) = true := by simp [hs]
    rw [e, cond_true] at hd
    rw [hs] at hl
    match cs, hl with
    | [c], _ =>
      simp only [List.headD_cons] at hd
      have h1 := (encD_wf t x).2
      have hone : (encD t x).one = true := by
        cases hq : encD t x with
        | agg ds =>
          have hlen := (encD_wf t x).1
          rw [hq, hs] at hlen
          cases t <;> simp [Ty.sz] at hs <;> first | (cases hq; done) | (simp [encD] at hq; done) | (cases x <;> simp [encD, hrD, hpD] at hq; done)
        | tup ds => cases t <;> first | (simp [encD] at hq; done) | (cases x <;> simp [encD, hrD, hpD] at hq; done)
        | undef => cases t <;> first | (simp [encD] at hq; done) | (cases x <;> simp [encD, hrD, hpD] at hq; done)
        | _ => rfl
      rw [one_cells hone, ← hd]
      rfl
  · have e : (t.sz == 1) = false := by simp [hs]
    rw [e, cond_false] at hd
    rw [← hd]
    rfl
theorem fwdVs_last {h : VH} {T : TypeId} {cs cs2 : List V} (hf : fwdL (toH h) (toDL cs) = toDL cs2) : lastB (toH h) (.var T (toDL cs)) = .var T (toDL (nzVs cs2)) := by
  simp only [lastB]
  rw [nzVs_ok, ← hf, fwdL_eq, List.map_map]
  rfl
theorem tameK_ok {h : VH} {b : Nat} {T : TypeId} {cs : List V} {t : Ty} {K : VH → VH → List Nat → t.den → List V → Prop} (hk : tameK h b T cs t K) : ∃ u vu g x cs2, (∀ f : List Nat, (∀ k ∈ g, k ∈ f) → PreOK P N h u vu f) ∧ look (puts vu h) b = some (.var T cs2) ∧ toDL cs2 = (encD t x).cells ∧ b ∈ g ∧ K (puts vu h) vu g x cs2 := by
  unfold tameK at hk
  obtain ⟨u1, v1, g1, p1, hk⟩ := fitRs_ok (P := P) (N := N) hk
  split at hk
  · rename_i T' cs' hb
    obtain ⟨c, hk1⟩ := hk.ok
    obtain rfl := Nat.eq_of_beq_eq_true c
    rw [lookO_ok] at hb
    obtain ⟨cs2, f1, hk⟩ := fwdVs_ok hk1
    split at hk
    · rename_i x hx
      obtain ⟨c2, hk⟩ := hk.ok
      have hk := putsK_ok hk
      have hlast := fwdVs_last (T := T) f1
      refine ⟨u1 ++ [((b, 0), lastB (toH (puts v1 h)) (.var T (toDL cs')))], v1 ++ [(b, .var T (nzVs cs2))], g1 ++ b :: grpsVs cs', x, nzVs cs2, fun f hf => pre_app (p1 f fun k hk => hf k (List.mem_append_left _ hk)) (pre_last (y := .var T (nzVs cs2)) hb rfl (by rw [hlast]; rfl) ⟨hf b (by simp), fun c hc => hf c.1 ?_⟩), ?_, mkV_cells (lenB_ok c2) (dec_ok hx), by simp, ?_⟩
      · refine List.mem_append_right _ (List.mem_cons_of_mem _ (grpsVs_ok cs' c ?_))
        rw [allIdsL_eq]
        exact hc
      · rw [puts_append]
        show look (put b _ _) b = _
        rw [look_put]; simp
      · rw [puts_append]; exact hk
    · exact hk.elim
  · exact hk.elim
/-- one cell -/
def fitK (h : VH) (sh : Sh) (v : V) (K : VH → List Nat → Prop) : Prop :=
  match sh, v with
  | .bx t, .ptr b 0 => (match lookO h b with
    | some (.var T cs) => Chk t.pure (tameK h b T cs t fun _ vu g x _ => K (vu ++ [(b, .fvb t x)]) g)
    | _ => K [] [])
  | .mp k, .ptr b 0 => (match lookO h b, lookO h k with
    | some (.var T cs), some (.fvar _ t _) => Chk (!Nat.beq b k) (tameK h b T cs t fun h2 vu g x _ => (match lookO h2 k with
      | some (.fvar T' t' xs) => Chk (Nat.beq T T') (match castT t' t x with
        | some x' => K (vu ++ [(b, .moved k xs.length), (k, .fvar T' t' (xs ++ [x']))]) (k :: g)
        | none => False)
      | _ => False))
    | _, _ => K [] [])
  | sh, v => fitR h sh v K
theorem fitK_ok {h : VH} {sh : Sh} {v : V} {K : VH → List Nat → Prop} (hk : fitK h sh v K) : ∃ u vu g, (∀ f : List Nat, (∀ k ∈ g, k ∈ f) → PreOK P N h u vu f) ∧ K vu g := by
  unfold fitK at hk
  split at hk
  · rename_i t b
    split at hk
    · rename_i T cs hb
      obtain ⟨c, hk⟩ := hk.ok
      obtain ⟨u, vu, g, x, cs2, p1, p2, p3, p4, hk⟩ := tameK_ok (P := P) (N := N) hk
      exact ⟨_, _, _, fun f hf => pre_app (p1 f hf) (pre_fvb p2 p3 c (hf b p4)), hk⟩
    · exact ⟨[], [], [], fun f _ => pre_nil, hk⟩
  · rename_i k b
    split at hk
    · rename_i T cs T0 t xs0 hb hk0
      obtain ⟨c, hk⟩ := hk.ok
      have hbk : b ≠ k := by rintro rfl; simp at c
      obtain ⟨u, vu, g, x, cs2, p1, p2, p3, p4, hk⟩ := tameK_ok (P := P) (N := N) hk
      split at hk
      · rename_i T' t' xs hk'
        obtain ⟨c1, hk⟩ := hk.ok
        obtain rfl := Nat.eq_of_beq_eq_true c1
        rw [lookO_ok] at hk'
        split at hk
        · rename_i x' hx
          have hpre : ∀ f : List Nat, (∀ g' ∈ k :: g, g' ∈ f) → PreOK P N (puts vu h) [((b, 0), .moved (k, (VB.fvar T t' xs).blks.length)), ((k, (VB.fvar T t' xs).blks.length), .var T (toDL cs2))] [(b, .moved k (VB.fvar T t' xs).blks.length), (k, .fvar T t' (xs ++ [x']))] f := fun f hf =>
            pre_move p2 rfl rfl hk' (by simp only [VB.blks, List.map_append, List.map_cons, List.map_nil, p3, castT_ok hx]) hbk ⟨hf b (List.mem_cons_of_mem _ p4), hf k (by simp)⟩
          have e : (VB.fvar T t' xs).blks.length = xs.length := by simp [VB.blks]
          rw [e] at hpre
          exact ⟨_, _, _, fun f hf => pre_app (p1 f fun k hk => hf k (List.mem_cons_of_mem _ hk)) (hpre f hf), hk⟩
        · exact hk.elim
      · exact hk.elim
    · exact ⟨[], [], [], fun f _ => pre_nil, hk⟩
  · exact fitR_ok hk
def fitKs (h : VH) : List Sh → List V → (VH → VH → List Nat → Prop) → Prop
  | sh :: shs, v :: vs, K => fitK h sh v fun vu g => putsK vu h fun h1 => fitKs h1 shs vs fun h2 vu2 g2 => K h2 (vu ++ vu2) (g ++ g2)
  | _, _, K => K h [] []
theorem fitKs_ok : ∀ {shs : List Sh} {vs : List V} {h : VH} {K : VH → VH → List Nat → Prop}, fitKs h shs vs K → ∃ u vu g, (∀ f : List Nat, (∀ k ∈ g, k ∈ f) → PreOK P N h u vu f) ∧ K (puts vu h) vu g
  | [], vs, h, K, hk => ⟨[], [], [], fun f _ => pre_nil, by cases vs <;> exact hk⟩
  | sh :: shs, [], h, K, hk => ⟨[], [], [], fun f _ => pre_nil, hk⟩
  | sh :: shs, v :: vs, h, K, hk => by
    obtain ⟨u1, v1, g1, p1, hk⟩ := fitK_ok (P := P) (N := N) hk
    have hk := putsK_ok hk
    obtain ⟨u2, v2, g2, p2, hk⟩ := fitKs_ok hk
    refine ⟨u1 ++ u2, v1 ++ v2, g1 ++ g2, fun f hf => pre_app (p1 f fun k hk => hf k (List.mem_append_left _ hk)) (p2 f fun k hk => hf k (List.mem_append_right _ hk)), ?_⟩
    rw [puts_append]
    exact hk
end Go.Proofs.Ytkclhekkcffpoaa.Am
