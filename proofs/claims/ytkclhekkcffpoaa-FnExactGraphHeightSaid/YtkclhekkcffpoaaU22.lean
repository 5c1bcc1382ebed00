/- The plain machine with types: loops, results, contracts. -/
import Derived.Test.YtkclhekkcffpoaaU21
namespace Go.Proofs.Ytkclhekkcffpoaa.Am
set_option linter.unusedSimpArgs false
set_option linter.unusedVariables false
open Go Go.RowKit

variable {P : Program} {N : Nat} {K : Id → Prop} {Q : Exit → VSt → Prop} {σ : VSt} {h : VH}

/-! ### Rows that are no more written -/
def rowP (h : VH) : List Nat → List Nat
  | [] => []
  | b :: l => match lookO h b with
    | some (.row _ t _) => (match t.pure with | true => b :: rowP h l | false => rowP h l)
    | _ => rowP h l
theorem rowP_ok : ∀ {l : List Nat}, ∀ b ∈ rowP h l, RdOK h [] b
  | [], b, hb => by cases hb
  | c :: l, b, hb => by
    simp only [rowP] at hb
    split at hb
    · rename_i E t xs hc
      rw [lookO_ok] at hc
      split at hb
      · rename_i hp
        rcases List.mem_cons.1 hb with rfl | hb
        · exact ⟨by simp, .inl ⟨E, t, xs, hp, hc⟩⟩
        · exact rowP_ok b hb
      · exact rowP_ok b hb
    · exact rowP_ok b hb
def fzK (h : VH) (l : List Nat) (K : VH → Prop) : Prop := natsK (rowP h l) fun ws => wsK h ws fun u => putsK u h K
theorem fzK_ok {l : List Nat} {K : VH → Prop} (hk : fzK h l K) : ∃ h1, (∃ bs, ∀ b, look (puts (frz (toH h) bs) (toH h)) b = look (toH h1) b) ∧ K h1 := by
  have h1 := natsK_ok hk
  have h2 := wsK_ok h1
  have h3 := putsK_ok h2
  exact ⟨_, ⟨_, (upd_ws fun b hb => rowP_ok b hb).1.1⟩, h3⟩
theorem weak_fz {t : VT} {n : Nat} {h1 : VH} {bs : List Id} (he : ∀ b, look (puts (frz (toH h) bs) (toH h)) b = look (toH h1) b) : Weak P N K (VSt.toD ⟨t, h, n⟩) (VSt.toD ⟨t, h1, n⟩) :=
  Weak.trans (weak_frz bs) fun _ _ _ _ _ _ hs => hs.congr (fun _ => rfl) (fun b => (he b).symm) rfl
/-- of these temporaries, and of the variables that they point to -/
def fzN (t : VT) (h : VH) : List Nat → List Nat
  | [] => []
  | k :: l => (match lookO t k with
    | some (.ptr b _) => (match lookO h b with | some x => grpsB x | none => [])
    | some v => grpsV v
    | none => []) ++ fzN t h l
def zgcK (m : Nat) (fs ts : List Nat) (σ : VSt) (Q : VSt → Prop) : Prop :=
  match σ with | ⟨t0, h0, n0⟩ => fzK h0 (fzN t0 h0 fs) fun h => gcK m ts ⟨t0, h, n0⟩ Q
theorem zgcK_ok {m : Nat} (hK : KB m K) {fs ts : List Nat} {K1 : VSt → Prop} (h : zgcK m fs ts σ K1) : ∃ σ', Weak P N K σ.toD σ'.toD ∧ K1 σ' := by
  obtain ⟨t0, h0, n0⟩ := σ
  obtain ⟨h1, ⟨bs, he⟩, h2⟩ := fzK_ok h
  obtain ⟨σ', w1, h4⟩ := gcK_ok (P := P) (N := N) hK h2
  exact ⟨σ', Weak.trans (weak_fz he) w1, h4⟩

theorem at_weak {c : Code} {σ' : VSt} (hw : Weak P N K σ.toD σ'.toD) (h : At P N K c Q σ') : At P N K c Q σ := by
  obtain ⟨e, σ1, h1, h2⟩ := h
  exact ⟨e, σ1, .pre hw h1, h2⟩
/-- an empty family -/
theorem at_fam {c : Code} {t : VT} {n : Nat} (k : Nat) (x : VB) (hx : x.blks = []) (ha : At P N K c Q ⟨t, h ++ [(k, x)], n⟩) : At P N K c Q ⟨t, h, n⟩ := by
  refine at_weak (σ' := ⟨t, h ++ [(k, x)], n⟩) (fun _ _ _ _ _ _ hs => hs.congr (fun _ => rfl) (fun b => ?_) rfl) ha
  show look (toH (h ++ [(k, x)])) b = look (toH h) b
  rw [look_toH, look_toH, look_app]
  cases hl : look h b.1 with
  | some y => rfl
  | none =>
    simp only [look]
    split
    · simp [hx]
    · rfl
/-- what is behind a round -/
def backQ (back : VSt → Prop) (Q : Exit → VSt → Prop) : Exit → VSt → Prop
  | .normal, σ => back σ
  | e, σ => Q e σ
theorem back_n {back : VSt → Prop} (h : back σ) : backQ back Q .normal σ := h
theorem back_x {back : VSt → Prop} {id : Nat} (h : Q (.exit id) σ) : backQ back Q (.exit id) σ := h
theorem back_r {back : VSt → Prop} (h : Q .ret σ) : backQ back Q .ret σ := h
/-- A loop whose state at its head is known by a parameter; ahead of each round the rows of fs are frozen, and what ts does not lead to is forgotten. -/
theorem at_loop {α : Type} {c : Code} {m : Nat} (hK : KB m K) (fs ts : List Nat) (st : α → VSt) (p : α → Prop) (μ : α → Nat) (x0 : α) (h0 : p x0) (hg : zgcK m fs ts σ fun σ' => σ' = st x0)
    (round : ∀ x, p x → At P N K c (backQ (fun σ' => zgcK m fs ts σ' fun σ2 => ∃ y, p y ∧ μ y < μ x ∧ σ2 = st y) Q) (st x)) : At P N K (.loop c) Q σ := by
  have key : ∀ n x, μ x = n → p x → ∃ e σ', LoopB P N K c (st x).toD e σ'.toD ∧ (RealS P N K σ'.toD → Q e σ') := by
    intro n
    induction n using Nat.strongRecOn with
    | _ n ih =>
      intro x hn hp
      obtain ⟨e, σ1, h1, h2⟩ := round x hp
      cases e with
      | normal =>
        rcases Classical.em (RealS P N K σ1.toD) with hr | hr
        · obtain ⟨σ2, w1, y, q1, q2, rfl⟩ := zgcK_ok (P := P) (N := N) hK (h2 hr)
          obtain ⟨e, σ3, h3, h4⟩ := ih (μ y) (by omega) y rfl q1
          exact ⟨e, σ3, .round h1 (.pre w1 h3), h4⟩
        · exact ⟨.ret, σ1, .round h1 (.out (by simp) (brings_unreal hr _ _)), fun h => absurd h hr⟩
      | _ => exact ⟨_, σ1, .out (by simp) h1, h2⟩
  obtain ⟨σ0, w0, rfl⟩ := zgcK_ok (P := P) (N := N) hK hg
  obtain ⟨e, σ1, h1, h2⟩ := key _ x0 rfl h0
  exact ⟨e, σ1, .pre w0 (.loop h1), h2⟩

/-! ### results -/
def isPtrV : V → Bool
  | .ptr .. | .eptr .. | .iptr .. | .box .. | .aptr .. | .fptr .. | .feptr .. | .faptr .. => true
  | _ => false
theorem isPtrV_ok {v : V} (h : isPtrV v = true) : isPtr v.toD = true := by cases v <;> first | rfl | cases h
def resK (Θ : TT) (σ : VSt) : List ResultVar → (List V → Prop) → Prop
  | [], K => K []
  | .tmp k :: rs, K => (match lookO σ.t k with
    | some v => resK Θ σ rs fun vs => K (v :: vs)
    | none => resK Θ σ rs fun vs => K (.undef :: vs))
  | .cell k T :: rs, K => lookK σ.t k fun v => Chk (isPtrV v) (lookK Θ T fun ti => loadK ti σ.h v fun r => resK Θ σ rs fun vs => K (r :: vs))
theorem resK_ok {Θ : TT} (hΘ : Θ.ok P) : ∀ {rs : List ResultVar} {K : List V → Prop}, resK Θ σ rs K → ∃ vs, rs.mapM (resD P σ.toD) = some (toDL vs) ∧ K vs
  | [], K, h => ⟨[], rfl, h⟩
  | .tmp k :: rs, K, h => by
    simp only [resK, lookO_ok] at h
    split at h
    · rename_i v e
      obtain ⟨vs, h1, h2⟩ := resK_ok hΘ h
      have hr : resD P σ.toD (.tmp k) = some v.toD := by simp only [resD, VSt.toD, look_toT, e, Option.map_some, Option.getD_some]
      exact ⟨v :: vs, by simp only [List.mapM_cons, hr, h1, toDL]; rfl, h2⟩
    · rename_i e
      obtain ⟨vs, h1, h2⟩ := resK_ok hΘ h
      have hr : resD P σ.toD (.tmp k) = some V.undef.toD := by simp only [resD, VSt.toD, look_toT, e, Option.map_none, Option.getD_none]; rfl
      exact ⟨.undef :: vs, by simp only [List.mapM_cons, hr, h1, toDL]; rfl, h2⟩
  | .cell k T :: rs, K, h => by
    obtain ⟨v, l1, h1⟩ := lookK_ok h
    obtain ⟨c, h2⟩ := h1.ok
    obtain ⟨ti, l2, h3⟩ := lookK_ok h2
    obtain ⟨r, h4, h5⟩ := loadK_ok (hΘ _ _ l2) h3
    obtain ⟨vs, h6, h7⟩ := resK_ok hΘ h5
    refine ⟨r :: vs, ?_, h7⟩
    have hr : resD P σ.toD (.cell k T) = some r.toD := by
      simp only [resD, VSt.toD, look_toT, l1, Option.map_some, Option.bind_some, isPtrV_ok c, if_true, h4]
    simp only [List.mapM_cons, hr, h6, toDL]
    rfl
def oneV : List V → V
  | [v] => v
  | vs => .tup vs
theorem oneV_ok (vs : List V) : one (toDL vs) = (oneV vs).toD := by
  match vs with
  | [] => rfl
  | [v] => rfl
  | v :: v' :: vs => rfl
theorem fwd_look {g g' : HL} (he : ∀ b, look g b = look g' b) (d : D) : fwd g d = fwd g' d := fwd_of fun b _ => he b
theorem Rn.congr {h1 h2 h' : HL} {g : Id → Id} (he : ∀ b, look h1 b = look h2 b) {d d' : D} (hr : Rn h1 g h' d d') : Rn h2 g h' d d' := by
  have hl : ∀ b, Live h2 b → Live h1 b := fun b hb => by unfold Live at hb ⊢; rw [he]; exact hb
  induction hr with
  | ref b hb => exact .ref b fun h => hb (hl _ h)
  | ptr b o hb => exact .ptr b o fun h => hb (hl _ h)
  | eptr b i o hb => exact .eptr b i o fun h => hb (hl _ h)
  | vref b o n hb => exact .vref b o n fun h => hb (hl _ h)
  | lst b l hb => exact .lst b l (by rw [← he]; exact hb)
  | box b cs hb => exact .box b cs (by rw [← he]; exact hb)
  | fwd d d' hd ih => exact .fwd d d' (by rw [← fwd_look he]; exact ih)
  | pure d hd => exact .pure d hd
  | nils => exact .nils
  | iptr e o => exact .iptr e o
  | agg cs cs' hl hc ih => exact .agg cs cs' hl ih
  | tup cs cs' hl hc ih => exact .tup cs cs' hl ih
  | clo f cs cs' hl hc ih => exact .clo f cs cs' hl ih
  | ifc T d d' hd ih => exact .ifc T d d' ih
  | undef d => exact .undef d
  | junk => exact .junk
theorem Ren.congr {h1 h2 h' : HL} {g : Id → Id} (he : ∀ b, look h1 b = look h2 b) (hr : Ren h1 g h') : Ren h2 g h' := by
  refine ⟨fun b x' hx => ?_, hr.inj⟩
  obtain ⟨x, h3, h4⟩ := hr.blk b x' hx
  refine ⟨x, by rw [← he]; exact h3, ?_⟩
  cases h4 with
  | var T cs cs' hl hc => exact .var T cs cs' hl fun i hi => (hc i hi).congr he
  | row E l l' hl hc => exact .row E l l' hl fun i hi => ⟨(hc i hi).1.congr he, fun s hs => ⟨((hc i hi).2 s hs).1, fun j hj => (((hc i hi).2 s hs).2 j hj).congr he⟩⟩
  | froz l => exact .froz l
  | fvar cs => exact .fvar cs
  | gone x => exact .gone x
/-- what is handed back; pr: its rows are no more written -/
def finK (Θ : TT) (rs : List ResultVar) (m : Nat) (pr : Bool) (σ : VSt) (Q : V → VH → Prop) : Prop :=
  match σ with
  | ⟨t0, h0, n0⟩ => resK Θ ⟨t0, h0, n0⟩ rs fun vs => fzK h0 (match pr with | true => grpsV (oneV vs) | false => []) fun h => fwdV h (oneV vs) fun v => gcFromK h (addsN (List.range' 4 m) (liv4 h (grpsV v))) fun os => keepB m os h n0 fun hout => backV os v fun r => Q r hout
theorem finK_ok {Θ : TT} (hΘ : Θ.ok P) {rs : List ResultVar} {m : Nat} (hK : KB m K) {pr : Bool} {Q : V → VH → Prop} (h : finK Θ rs m pr σ Q) : ∃ r hout, ResOut P rs K σ.toD r.toD (toH hout) ∧ Q r hout := by
  obtain ⟨t0, h0, n0⟩ := σ
  obtain ⟨vs, r1, h1⟩ := resK_ok hΘ h
  obtain ⟨hh, ⟨bs, he⟩, h2⟩ := fzK_ok h1
  obtain ⟨v, f1, h3⟩ := fwdV_ok h2
  obtain ⟨os, h4⟩ := gcFromK_ok h3
  obtain ⟨hout, q1, q2, q3, q4, h5⟩ := keepB_ok h4
  obtain ⟨r, b1, _, h6⟩ := backV_ok (h := hh) (n := n0) h5
  refine ⟨r, hout, ⟨_, bs, _, r1, ?_, q2.congr fun b => (he b).symm, fun b hb hl => ?_⟩, h6⟩
  · refine Rn.congr (fun b => (he b).symm) ?_
    rw [oneV_ok]
    refine .fwd _ _ ?_
    rw [f1]
    exact b1 hout q1
  · refine q3 K hK b hb ?_
    have hl2 := live_frz (bs := bs) hl
    unfold Live at hl2 ⊢
    rw [← he]
    exact hl2

/-! ### families that nothing leads to are left out -/
theorem getD_ids {l : List D} {i : Nat} (hi : i < l.length) : ∀ b ∈ allIds (l.getD i .undef), b ∈ allIdsL l := by
  refine allIdsL_mem ?_
  rw [List.getD_eq_getElem?_getD, List.getElem?_eq_getElem hi]
  exact List.getElem_mem hi
theorem cells_ids (d : D) : ∀ c ∈ d.cells, ∀ b ∈ allIds c, b ∈ allIds d := by
  intro c hc b hb
  cases d with
  | agg cs => simp only [allIds]; exact allIdsL_mem hc b hb
  | _ => simp only [D.cells, List.mem_singleton] at hc; subst hc; exact hb
theorem Rn.sub {h h' h2 : HL} {g : Id → Id} {d d' : D} (hr : Rn h g h' d d') : (∀ b ∈ allIds d', Live h' b → Live h2 b) → Rn h g h2 d d' := by
  induction hr with
  | ref b hb => intro hs; exact .ref b fun h => hs b (by simp [allIds]) (hb h)
  | ptr b o hb => intro hs; exact .ptr b o fun h => hs b (by simp [allIds]) (hb h)
  | eptr b i o hb => intro hs; exact .eptr b i o fun h => hs b (by simp [allIds]) (hb h)
  | vref b o n hb => intro hs; exact .vref b o n fun h => hs b (by simp [allIds]) (hb h)
  | lst b l hb => intro _; exact .lst b l hb
  | box b cs hb => intro _; exact .box b cs hb
  | fwd d d' hd ih => intro hs; exact .fwd d d' (ih hs)
  | pure d hd => intro _; exact .pure d hd
  | nils => intro _; exact .nils
  | iptr e o => intro _; exact .iptr e o
  | agg cs cs' hl hc ih => intro hs; exact .agg cs cs' hl fun i hi => ih i hi fun b hb => hs b (by simp only [allIds]; exact getD_ids (by omega) b hb)
  | tup cs cs' hl hc ih => intro hs; exact .tup cs cs' hl fun i hi => ih i hi fun b hb => hs b (by simp only [allIds]; exact getD_ids (by omega) b hb)
  | clo f cs cs' hl hc ih => intro hs; exact .clo f cs cs' hl fun i hi => ih i hi fun b hb => hs b (by simp only [allIds]; exact getD_ids (by omega) b hb)
  | ifc T d d' hd ih => intro hs; exact .ifc T d d' (ih fun b hb => hs b (by simpa only [allIds] using hb))
  | undef d => intro _; exact .undef d
  | junk => intro _; exact .junk
def bIds : Blk → List Id
  | .var _ cs => allIdsL cs
  | .row _ l => allIdsL l
  | _ => []
theorem RnB.sub {h h' h2 : HL} {g : Id → Id} {x x' : Blk} (hr : RnB h g h' x x') (hs : ∀ b ∈ bIds x', Live h' b → Live h2 b) : RnB h g h2 x x' := by
  cases hr with
  | var T cs cs' hl hc => exact .var T cs cs' hl fun i hi => (hc i hi).sub fun b hb => hs b (getD_ids (by omega) b hb)
  | row E l l' hl hc =>
    refine .row E l l' hl fun i hi => ⟨(hc i hi).1.sub fun b hb => hs b (getD_ids (by omega) b hb), fun s hw => ⟨((hc i hi).2 s hw).1, fun j hj => (((hc i hi).2 s hw).2 j hj).sub fun b hb => hs b (getD_ids (i := i) (by omega) b ?_)⟩⟩
    have hw2 := ((hc i hi).2 s hw).1
    have hj2 : j < (l'.getD i .undef).cells.length := by rw [hw2.1]; exact hj
    refine cells_ids _ ((l'.getD i .undef).cells.getD j .undef) ?_ b hb
    rw [List.getD_eq_getElem?_getD (l := (l'.getD i .undef).cells), List.getElem?_eq_getElem hj2]
    exact List.getElem_mem _
  | froz l => exact .froz l
  | fvar cs => exact .fvar cs
  | gone x => exact .gone x
theorem enc_ids (t : Ty) (x : t.den) : ∀ b ∈ allIds (encD t x), b.1 ∈ t.fams := by
  have hh : ∀ (k : Nat) (o : Option Nat), ∀ b ∈ allIds (hrD k o), b.1 = k := fun k o b hb => by
    cases o with
    | none => cases hb
    | some i => simp only [hrD, allIds, List.mem_singleton] at hb; rw [hb]
  intro b hb
  cases t
  case hr k => simp only [encD] at hb; simp [Ty.fams, hh _ _ b hb]
  case hp k =>
    cases x with
    | none => cases hb
    | some i => simp only [encD, hpD, allIds, List.mem_singleton] at hb; rw [hb]; simp [Ty.fams]
  case vtxo k => simp only [encD, allIds, allIdsL, List.nil_append, List.append_nil] at hb; simp [Ty.fams, hh _ _ b hb]
  case pplm k => simp only [encD, vtxC, intsD, List.cons_append, allIds, allIdsL, List.nil_append, List.append_nil] at hb; simp [Ty.fams, hh _ _ b hb]
  case pplo k k' =>
    simp only [encD, allIds, allIdsL, List.nil_append, List.append_nil, List.mem_append] at hb
    rcases hb with hb | hb <;> simp [Ty.fams, hh _ _ b hb]
  case nod k => simp only [encD, vtxC, intsD, List.cons_append, allIds, allIdsL, List.nil_append, List.append_nil] at hb; simp [Ty.fams, hh _ _ b hb]
  case ob t => cases x <;> cases hb
  all_goals cases hb
theorem encs_ids (t : Ty) (xs : List t.den) : ∀ b ∈ allIdsL (xs.map (encD t)), b.1 ∈ t.fams := by
  intro b hb
  rw [allIdsL_eq, List.mem_flatMap] at hb
  obtain ⟨d, hd, hb⟩ := hb
  obtain ⟨x, _, rfl⟩ := List.mem_map.1 hd
  exact enc_ids t x b hb
theorem allIdsL_app {l m : List D} {b : Id} : b ∈ allIdsL (l ++ m) ↔ b ∈ allIdsL l ∨ b ∈ allIdsL m := by simp [allIdsL_eq]
theorem vb_ids (y : VB) : ∀ d ∈ y.blks, ∀ b ∈ bIds d, b.1 ∈ grpsB y ++ y.fams := by
  intro d hd b hb
  rw [List.mem_append]
  cases y with
  | var T cs => simp only [VB.blks, List.mem_singleton] at hd; subst hd; exact .inl (grpsVs_ok cs b hb)
  | vari T pre m t xs post =>
    simp only [VB.blks, List.mem_singleton] at hd
    subst hd
    simp only [bIds, allIdsL_app] at hb
    rcases hb with (hb | hb) | hb
    · exact .inl (List.mem_append_left _ (grpsVs_ok _ b hb))
    · exact .inr (encs_ids t xs b hb)
    · exact .inl (List.mem_append_right _ (grpsVs_ok _ b hb))
  | row E t xs => simp only [VB.blks, List.mem_singleton] at hd; subst hd; exact .inr (encs_ids t xs b hb)
  | lit E vs => simp only [VB.blks, List.mem_singleton] at hd; subst hd; exact .inl (grpsVs_ok vs b hb)
  | fvar T t xs =>
    obtain ⟨x, _, rfl⟩ := List.mem_map.1 hd
    simp only [bIds, allIdsL_eq, List.mem_flatMap] at hb
    obtain ⟨c, hc, hb⟩ := hb
    exact .inr (enc_ids t x b (cells_ids _ c hc b hb))
  | fvari T m t xss => obtain ⟨xs, _, rfl⟩ := List.mem_map.1 hd; exact .inr (encs_ids t xs b hb)
  | frow E t xss => obtain ⟨xs, _, rfl⟩ := List.mem_map.1 hd; exact .inr (encs_ids t xs b hb)
  | froz t xs => simp only [VB.blks, List.mem_singleton] at hd; subst hd; cases hb
  | fvb t x => simp only [VB.blks, List.mem_singleton] at hd; subst hd; cases hb
  | moved k i => simp only [VB.blks, List.mem_singleton] at hd; subst hd; cases hb
  | gone => simp only [VB.blks, List.mem_singleton] at hd; subst hd; cases hb
def hasFam : VH → Bool
  | [] => false
  | (k, _) :: l => Nat.blt k 4 || hasFam l
/-- is it kept? -/
def kpt (S : List Nat) (j : Nat) : Bool := Nat.ble 4 j || S.contains j
def kptA (S l : List Nat) : Bool := l.all (kpt S)
def passF (h : VH) (S : List Nat) : List Nat := h.flatMap fun p => match kpt S p.1 with | true => (grpsB p.2 ++ p.2.fams).filter fun k => Nat.blt k 4 | false => []
def okDrop (S fs0 : List Nat) (r : V) (h : VH) : Bool := kptA S fs0 && kptA S (grpsV r) && h.all fun p => !kpt S p.1 || kptA S (grpsB p.2 ++ p.2.fams)
def filtK (S : List Nat) : VH → (VH → Prop) → Prop
  | [], K => K []
  | (j, x) :: l, K => match kpt S j with
    | true => filtK S l fun r => K ((j, x) :: r)
    | false => filtK S l K
theorem filtK_ok {S : List Nat} : ∀ {l : VH} {K : VH → Prop}, filtK S l K → ∃ l', (∀ j, look l' j = if kpt S j = true then look l j else none) ∧ K l'
  | [], K, h => ⟨[], fun j => by simp [look], h⟩
  | (k, x) :: l, K, h => by
    simp only [filtK] at h
    split at h
    · rename_i e
      obtain ⟨l', h1, h2⟩ := filtK_ok (l := l) h
      refine ⟨_, fun j => ?_, h2⟩
      simp only [look, h1]
      by_cases ej : j = k
      · subst ej; simp [e]
      · simp [ej]
    · rename_i e
      obtain ⟨l', h1, h2⟩ := filtK_ok (l := l) h
      refine ⟨_, fun j => ?_, h2⟩
      simp only [look, h1]
      by_cases ej : j = k
      · subst ej; simp [e]
      · simp [ej]
def dropK (fs0 : List Nat) (r : V) (h : VH) (K : VH → Prop) : Prop :=
  match hasFam h with
  | false => K h
  | true => natsK (addsN [] (fs0 ++ (grpsV r).filter fun k => Nat.blt k 4)) fun S => natsK (addsN S (passF h S)) fun S => natsK (addsN S (passF h S)) fun S => natsK (addsN S (passF h S)) fun S => Chk (okDrop S fs0 r h) (filtK S h K)
theorem dropK_ok {fs0 : List Nat} {r : V} {rs : List ResultVar} {σ : VSt} {K : Id → Prop} (hK : ∀ b, K b → b.1 < 4 → b.1 ∈ fs0) {h : VH} {Q : VH → Prop} (hr : ResOut P rs K σ.toD r.toD (toH h)) (hk : dropK fs0 r h Q) : ∃ h', ResOut P rs K σ.toD r.toD (toH h') ∧ Q h' := by
  unfold dropK at hk
  split at hk
  · exact ⟨h, hr, hk⟩
  · have hk := natsK_ok (natsK_ok (natsK_ok (natsK_ok hk)))
    obtain ⟨c, hk⟩ := hk.ok
    generalize addsN _ (passF h _) = S at *
    simp only [okDrop, kptA, Bool.and_eq_true, List.all_eq_true, Bool.or_eq_true, Bool.not_eq_true'] at c
    obtain ⟨⟨c1, c2⟩, c3⟩ := c
    obtain ⟨h', h1, h2⟩ := filtK_ok hk
    refine ⟨h', ?_, h2⟩
    have hl : ∀ b : Id, look (toH h') b = if kpt S b.1 = true then look (toH h) b else none := by
      intro b
      rw [look_toH, look_toH, h1]
      split <;> rfl
    have hlv : ∀ b : Id, kpt S b.1 = true → Live (toH h) b → Live (toH h') b := by
      intro b hb hv
      unfold Live at hv ⊢
      rw [hl, if_pos hb]
      exact hv
    obtain ⟨ds, bs, g, r1, r2, r3, r4⟩ := hr
    refine ⟨ds, bs, g, r1, r2.sub fun b hb => hlv b (c2 _ (grpsV_ok r b hb)), ⟨fun b x' hx => ?_, fun b b2 x y hx hy => ?_⟩, fun b hb hv => ?_⟩
    · rw [hl] at hx
      split at hx
      · rename_i e
        obtain ⟨x, q1, q2⟩ := r3.blk b x' hx
        refine ⟨x, q1, q2.sub fun b2 hb2 => hlv b2 ?_⟩
        rw [look_toH] at hx
        obtain ⟨y, hy1, hy2⟩ := Option.bind_eq_some_iff.1 hx
        rcases c3 _ (look_mem hy1) with h0 | h0
        · simp only at h0; rw [e] at h0; cases h0
        · exact h0 _ (vb_ids y x' (List.mem_of_getElem? hy2) b2 hb2)
      · cases hx
    · rw [hl] at hx hy
      split at hx
      · split at hy
        · exact r3.inj b b2 x y hx hy
        · cases hy
      · cases hx
    · obtain ⟨q1, q2⟩ := r4 b hb hv
      refine ⟨q1, hlv b ?_ q2⟩
      rcases Nat.lt_or_ge b.1 4 with hlt | hge
      · exact c1 _ (hK b hb hlt)
      · have : Nat.ble 4 b.1 = true := by rw [Nat.ble_eq]; exact hge
        simp [kpt, this]
def famsIn (h : VH) : List Nat := (keysV h).filter fun k => Nat.blt k 4

/-! ### a function's contract -/
def finQ (Q : VSt → Prop) : Exit → VSt → Prop
  | .normal, σ => Q σ
  | .ret, σ => Q σ
  | _, _ => False
theorem fin_n {Q : VSt → Prop} (h : Q σ) : finQ Q .normal σ := h
theorem fin_r {Q : VSt → Prop} (h : Q σ) : finQ Q .ret σ := h
def argsV : List V → Nat → VT
  | [], _ => []
  | v :: l, k => (k, v) :: argsV l (k + 1)
theorem argsV_ok : ∀ (l : List V) (k : Nat), ((toDL l).zipIdx k).map (fun x => (x.2, x.1)) = toT (argsV l k)
  | [], k => rfl
  | v :: l, k => by simp [toDL, List.zipIdx_cons, argsV, argsV_ok l (k + 1), toT]
theorem fresh_hin {hin : VH} {n0 : Nat} (hl : ltV n0 hin = true) : ∀ b : Id, n0 ≤ b.1 → look (toH hin) b = none := by
  intro b hb
  rw [look_toH]
  cases hx : look hin b.1 with
  | none => rfl
  | some x =>
    have := ltV_ok hl b.1 (List.mem_map.2 ⟨_, look_mem hx, rfl⟩)
    omega

/-- The function f, called with vs and the blocks hin, comes to a result and blocks as R says. -/
theorem con_ex {Θ : TT} (hΘ : Θ.ok P) {f : FuncId} {fn : Func} {c : Code} (hf : P.funcs[f]? = some fn) (hb : fn.body = some c) (hname : (fn.name == "runtime.NumGoroutine") = false) (pr : Bool) {vs : List V} {hin : VH} (m n0 : Nat) (hn0 : 4 + m = n0) (hlt : ltV n0 hin = true) (hnd : nodupN (keysV hin) = true) (hl : Nat.ble vs.length fn.ntmps = true)
    {R : V → VH → Prop} {r0 : V} {hout0 : VH} (h0 : R r0 hout0)
    (h : ∀ K, KB m K → (∀ d ∈ toDL vs, bnd 6 d) → (∀ x ∈ hin, ∀ d ∈ x.2.blks, bndB 6 d) → At P fn.ntmps K c (finQ fun σ => finK Θ fn.results.toList m pr σ fun r hout => dropK (famsIn hin) r hout (R r)) ⟨argsV vs 0, hin, n0⟩) : ∃ r hout, R r hout ∧ ConV P f vs hin r hout := by
  have hlen : (toDL vs).length ≤ fn.ntmps := by rw [toDL_len]; exact Nat.le_of_ble_eq_true hl
  have e1 : argsT (toDL vs) = toT (argsV vs 0) := argsV_ok vs 0
  have hfr := fresh_hin hlt
  have hK : KB m (Live (toH hin)) := by
    intro b hb
    rcases Nat.lt_or_ge b.1 (4 + m) with hlt | hge
    · exact hlt
    · unfold Live at hb
      rw [hfr b (by omega)] at hb
      cases hb
  have hbnd : (∀ b x, look (toH hin) b = some x → bndB 6 x) → ∀ x ∈ hin, ∀ d ∈ x.2.blks, bndB 6 d := by
    rintro hq ⟨k, x⟩ hx d hd
    obtain ⟨i, hi⟩ := List.getElem?_of_mem hd
    exact hq (k, i) d (look_at (mem_look (by rw [keysV_ok]; exact nodupN_ok hnd) hx) hi)
  rcases Classical.em ((∀ d ∈ toDL vs, bnd 6 d) ∧ ∀ b x, look (toH hin) b = some x → bndB 6 x) with hbb | hbb
  · obtain ⟨e, σ', h1, h2⟩ := h _ hK hbb.1 (hbnd hbb.2)
    rcases Classical.em (RealS P fn.ntmps (Live (toH hin)) σ'.toD) with hr | hr
    · have h3 := h2 hr
      have hfin : (e = .normal ∨ e = .ret) ∧ finK Θ fn.results.toList m pr σ' fun r hout => dropK (famsIn hin) r hout (R r) := by
        cases e with
        | normal => exact ⟨.inl rfl, h3⟩
        | ret => exact ⟨.inr rfl, h3⟩
        | _ => exact h3.elim
      obtain ⟨r, hout1, q1, q2⟩ := finK_ok hΘ hK hfin.2
      obtain ⟨hout, q1, q2⟩ := dropK_ok (fun b hb hlt => by
        unfold Live at hb
        rw [look_toH] at hb
        obtain ⟨d, hd⟩ := Option.isSome_iff_exists.1 hb
        obtain ⟨y, hy, -⟩ := Option.bind_eq_some_iff.1 hd
        simp only [famsIn, List.mem_filter]
        exact ⟨by rw [← keysV_ok]; exact List.mem_map.2 ⟨_, look_mem hy, rfl⟩, by simpa [Nat.blt_eq] using hlt⟩) q1 q2
      refine ⟨r, hout, q2, con_of hf hb hname rfl rfl hlen hfr fun _ _ => ⟨e, σ'.toD, ?_, fun _ => ⟨hfin.1, q1⟩⟩⟩
      rw [e1]
      exact h1
    · refine ⟨r0, hout0, h0, con_of hf hb hname rfl rfl hlen hfr fun _ _ => ⟨e, σ'.toD, ?_, fun h => absurd h hr⟩⟩
      rw [e1]
      exact h1
  · exact ⟨r0, hout0, h0, con_of hf hb hname rfl rfl hlen hfr fun b1 b2 => absurd ⟨b1, b2⟩ hbb⟩
/-- it comes to r and hout -/
theorem con_eq {Θ : TT} (hΘ : Θ.ok P) {f : FuncId} {fn : Func} {c : Code} (hf : P.funcs[f]? = some fn) (hb : fn.body = some c) (hname : (fn.name == "runtime.NumGoroutine") = false) (pr : Bool) {vs : List V} {hin : VH} (m n0 : Nat) (hn0 : 4 + m = n0) (hlt : ltV n0 hin = true) (hnd : nodupN (keysV hin) = true) (hl : Nat.ble vs.length fn.ntmps = true) {r : V} {hout : VH}
    (h : ∀ K, KB m K → (∀ d ∈ toDL vs, bnd 6 d) → (∀ x ∈ hin, ∀ d ∈ x.2.blks, bndB 6 d) → At P fn.ntmps K c (finQ fun σ => finK Θ fn.results.toList m pr σ fun r' hout' => dropK (famsIn hin) r' hout' fun hout' => r' = r ∧ hout' = hout) ⟨argsV vs 0, hin, n0⟩) : ConV P f vs hin r hout := by
  obtain ⟨r', hout', ⟨rfl, rfl⟩, h2⟩ := con_ex hΘ hf hb hname pr m n0 hn0 hlt hnd hl (R := fun r' hout' => r' = r ∧ hout' = hout) ⟨rfl, rfl⟩ h
  exact h2
end Go.Proofs.Ytkclhekkcffpoaa.Am
