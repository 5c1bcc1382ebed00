/- The plain machine with types: loops, results, contracts. -/
import Derived.Test.YtdecnnhcbjhfgaaV7
namespace Go.Proofs.Ytdecnnhcbjhfgaa.Am
set_option linter.unusedSimpArgs false
set_option linter.unusedVariables false
open Go Go.RowKit

variable {P : Program} {N K : Nat} {Q : Exit → VSt → Prop} {σ : VSt}

theorem puts_frz_none {h : List (Nat × Blk)} {bs : List Nat} {b : Nat} (hn : look h b = none) : look (puts (frz h bs) h) b = none := by
  rw [look_puts_other _ _ _ fun x hx e => ?_]
  · exact hn
  · obtain ⟨c, _, hc⟩ := List.mem_filterMap.1 hx
    split at hc
    · rename_i hl
      simp only [Option.some.injEq] at hc
      subst hc
      simp only at e
      rw [e] at hl
      rw [hl] at hn
      cases hn
    · cases hc
theorem weak_frz {σ : St} (bs : List Nat) : Weak P N K σ ⟨σ.t, puts (frz σ.h bs) σ.h, σ.n⟩ := by
  intro w0 S A ρ0 a w hs
  obtain ⟨hn, hK, ρ, hρ, s⟩ := hs
  exact ⟨fun b hb => puts_frz_none (hn b hb), fun b hb => puts_live _ _ _ (hK b hb), ρ, hρ, s.freezeAll _⟩

/-- rows that are frozen: of these temporaries, and of the variables that they point to -/
def fzN (σ : VSt) (fs : List Nat) : List Nat := fs.flatMap fun k => match look σ.t k with
  | some (.ptr b _) => (match look σ.h b with | some x => idsVB x | none => [])
  | some v => allIdsV v
  | none => []
def zgcK (K0 : Nat) (fs ts : List Nat) (σ : VSt) (Q : VSt → Prop) : Prop :=
  match σ with | ⟨t0, h0, n0⟩ => natsK (fzN ⟨t0, h0, n0⟩ fs) fun bs => frzK h0 bs fun u => putsK u h0 fun h => gcK K0 ts ⟨t0, h, n0⟩ Q
theorem zgcK_ok {fs ts : List Nat} {K1 : VSt → Prop} (h : zgcK K fs ts σ K1) : ∃ σ', Weak P N K σ.toD σ'.toD ∧ K1 σ' := by
  have h1 := natsK_ok h
  obtain ⟨u, f1, h2⟩ := frzK_ok h1
  have h3 := putsK_ok h2
  obtain ⟨σ', w1, h4⟩ := gcK_ok (P := P) (N := N) h3
  refine ⟨σ', Weak.trans ?_ w1, h4⟩
  have := weak_frz (P := P) (N := N) (K := K) (σ := σ.toD) (fzN σ fs)
  simp only [VSt.toD] at this ⊢
  rw [f1, puts_toH] at this
  exact this

theorem at_weak {c : Code} {σ' : VSt} (hw : Weak P N K σ.toD σ'.toD) (h : At P N K c Q σ') : At P N K c Q σ := by
  obtain ⟨e, σ1, h1, h2⟩ := h
  exact ⟨e, σ1, .pre hw h1, h2⟩
/-- what is behind a round -/
def backQ (back : VSt → Prop) (Q : Exit → VSt → Prop) : Exit → VSt → Prop
  | .normal, σ => back σ
  | e, σ => Q e σ
theorem back_n {back : VSt → Prop} (h : back σ) : backQ back Q .normal σ := h
theorem back_x {back : VSt → Prop} {id : Nat} (h : Q (.exit id) σ) : backQ back Q (.exit id) σ := h
theorem back_r {back : VSt → Prop} (h : Q .ret σ) : backQ back Q .ret σ := h
/-- A loop whose state at its head is known by a parameter; ahead of each round the rows of fs are frozen, and what ts does not lead to is forgotten. -/
theorem at_loop {α : Type} {c : Code} (fs ts : List Nat) (st : α → VSt) (p : α → Prop) (m : α → Nat) (x0 : α) (h0 : p x0) (hg : zgcK K fs ts σ fun σ' => σ' = st x0)
    (round : ∀ x, p x → At P N K c (backQ (fun σ' => zgcK K fs ts σ' fun σ2 => ∃ y, p y ∧ m y < m x ∧ σ2 = st y) Q) (st x)) : At P N K (.loop c) Q σ := by
  have key : ∀ n x, m x = n → p x → ∃ e σ', LoopB P N K c (st x).toD e σ'.toD ∧ (RealS P N K σ'.toD → Q e σ') := by
    intro n
    induction n using Nat.strongRecOn with
    | _ n ih =>
      intro x hn hp
      obtain ⟨e, σ1, h1, h2⟩ := round x hp
      cases e with
      | normal =>
        rcases Classical.em (RealS P N K σ1.toD) with hr | hr
        · obtain ⟨σ2, w1, y, q1, q2, rfl⟩ := zgcK_ok (P := P) (N := N) (h2 hr)
          obtain ⟨e, σ3, h3, h4⟩ := ih (m y) (by omega) y rfl q1
          exact ⟨e, σ3, .round h1 (.pre w1 h3), h4⟩
        · exact ⟨.ret, σ1, .round h1 (.out (by simp) (brings_unreal hr _ _)), fun h => absurd h hr⟩
      | _ => exact ⟨_, σ1, .out (by simp) h1, h2⟩
  obtain ⟨σ0, w0, rfl⟩ := zgcK_ok (P := P) (N := N) hg
  obtain ⟨e, σ1, h1, h2⟩ := key _ x0 rfl h0
  exact ⟨e, σ1, .pre w0 (.loop h1), h2⟩

/-! ### results -/
def isPtrV : V → Bool
  | .ptr .. | .eptr .. | .iptr .. | .box .. | .aptr .. => true
  | _ => false
theorem isPtrV_ok (v : V) : isPtr v.toD = isPtrV v := by cases v <;> rfl
def resK (Θ : TT) (σ : VSt) : List ResultVar → (List V → Prop) → Prop
  | [], K => K []
  | .tmp k :: rs, K => (match look σ.t k with
    | some v => resK Θ σ rs fun vs => K (v :: vs)
    | none => resK Θ σ rs fun vs => K (.undef :: vs))
  | .cell k T :: rs, K => lookK σ.t k fun v => Chk (isPtrV v) (lookK Θ T fun ti => loadK ti σ.h v fun r => resK Θ σ rs fun vs => K (r :: vs))
theorem resK_ok {Θ : TT} (hΘ : Θ.ok P) : ∀ {rs : List ResultVar} {K : List V → Prop}, resK Θ σ rs K → ∃ vs, rs.mapM (resD P σ.toD) = some (toDL vs) ∧ K vs
  | [], K, h => ⟨[], rfl, h⟩
  | .tmp k :: rs, K, h => by
    simp only [resK] at h
    split at h
    · rename_i v e
      obtain ⟨vs, h1, h2⟩ := resK_ok hΘ h
      have hr : resD P σ.toD (.tmp k) = some v.toD := by simp only [resD, VSt.toD, look_toT, e, Option.map_some, Option.getD_some]
      exact ⟨v :: vs, by simp only [List.mapM_cons, hr, h1, toDL]; rfl, h2⟩
    · rename_i e
      obtain ⟨vs, h1, h2⟩ := resK_ok hΘ h
      have hr : resD P σ.toD (.tmp k) = some V.undef.toD := by simp only [resD, VSt.toD, look_toT, e, Option.map_none, Option.getD_none]; rfl
      exact ⟨.undef :: vs, by simp only [List.mapM_cons, hr, h1, toDL]; rfl, h2⟩
  | .cell k T :: rs, K, h => by
    obtain ⟨v, l1, h1⟩ := lookK_ok h
    obtain ⟨c, h2⟩ := h1.ok
    obtain ⟨ti, l2, h3⟩ := lookK_ok h2
    obtain ⟨r, h4, h5⟩ := loadK_ok (hΘ _ _ l2) h3
    obtain ⟨vs, h6, h7⟩ := resK_ok hΘ h5
    refine ⟨r :: vs, ?_, h7⟩
    have hr : resD P σ.toD (.cell k T) = some r.toD := by
      simp only [resD, VSt.toD, look_toT, l1, Option.map_some, Option.bind_some, isPtrV_ok, c, if_true, h4]
    simp only [List.mapM_cons, hr, h6, toDL]
    rfl
def oneV : List V → V
  | [v] => v
  | vs => .tup vs
theorem oneV_ok (vs : List V) : one (toDL vs) = (oneV vs).toD := by
  match vs with
  | [] => rfl
  | [v] => rfl
  | v :: v' :: vs => rfl
def outK (hn : VH) (bs : List Nat) : List Nat → (List VB → Prop) → Prop
  | [], K => K []
  | b :: l, K => lookK hn b fun x => renBK (fun c => bs.idxOf c) x fun y => outK hn bs l fun r => K (y :: r)
theorem outK_ok {h hn : VH} {bs : List Nat} (e : (toH h).map (fun p => (p.1, nrmB (toH h) p.2)) = toH hn) : ∀ {l : List Nat} {K : List VB → Prop}, outK hn bs l K → ∃ r, (l.map fun b => match look (toH h) b with | some x => renB (fun c => bs.idxOf c) (nrmB (toH h) x) | none => .gone) = r.map VB.toD ∧ K r
  | [], K, hk => ⟨[], rfl, hk⟩
  | b :: l, K, hk => by
    obtain ⟨x, h1, h2⟩ := lookK_ok hk
    obtain ⟨y, h3, h4⟩ := renBK_ok h2
    obtain ⟨r, h5, h6⟩ := outK_ok e h4
    refine ⟨y :: r, ?_, h6⟩
    have h7 : (look (toH h) b).map (nrmB (toH h)) = some x.toD := by rw [← look_map, e, look_toH, h1]; rfl
    obtain ⟨z, hz1, hz2⟩ := Option.map_eq_some_iff.1 h7
    simp only [List.map_cons, hz1, hz2, h3, h5]
/-- what is handed back; pr: its rows are no more written -/
def finK (Θ : TT) (rs : List ResultVar) (K0 : Nat) (pr : Bool) (σ : VSt) (Q : V → List VB → Prop) : Prop :=
  match σ with
  | ⟨t0, h0, n0⟩ => resK Θ ⟨t0, h0, n0⟩ rs fun vs => natsK (match pr with | true => allIdsV (oneV vs) | false => []) fun fb => frzK h0 fb fun u => putsK u h0 fun h => nrmHK h h fun hn => nrmK h (oneV vs) fun v => natsK (reachV hn 2 (dedup (List.range K0 ++ allIdsV v))) fun bs => Chk (closedV K0 hn bs && (allIdsV v).all fun b => bs.contains b) (renK (fun c => bs.idxOf c) v fun r => outK hn bs bs fun hout => Q r hout)
theorem finK_ok {Θ : TT} (hΘ : Θ.ok P) {rs : List ResultVar} {pr : Bool} {Q : V → List VB → Prop} (h : finK Θ rs K pr σ Q) : ∃ r hout, resOut P rs K pr σ.toD = some (r.toD, hout.map VB.toD) ∧ Q r hout := by
  obtain ⟨vs, r1, h1⟩ := resK_ok hΘ h
  have h2 := natsK_ok h1
  obtain ⟨u, f1, h3⟩ := frzK_ok h2
  have h4 := putsK_ok h3
  obtain ⟨hn, e, h5⟩ := nrmHK_ok h4
  obtain ⟨v, n1, h6⟩ := nrmK_ok h5
  have h7 := natsK_ok h6
  obtain ⟨c, h8⟩ := h7.ok
  obtain ⟨r, n2, h9⟩ := renK_ok h8
  obtain ⟨hout, o1, h10⟩ := outK_ok e h9
  simp only [Bool.and_eq_true, List.all_eq_true] at c
  refine ⟨r, hout, ?_, h10⟩
  unfold resOut
  rw [r1]
  simp only [oneV_ok]
  have hh : (if pr = true then puts (frz σ.toD.h (allIds (oneV vs).toD)) σ.toD.h else σ.toD.h) = toH (puts u σ.h) := by
    cases pr with
    | true =>
      simp only [if_true, allIdsV_ok, VSt.toD]
      rw [show frz (toH σ.h) (allIdsV (oneV vs)) = toH u from f1, puts_toH]
    | false =>
      have : toH u = [] := f1.symm
      have hu : u = [] := by cases u with | nil => rfl | cons _ _ => cases this
      subst hu
      rfl
  rw [hh]
  simp only [n1, allIdsV_ok, reachV_ok e]
  rw [if_pos]
  · rw [n2]
    have ho : ((reachV hn 2 (dedup (List.range K ++ allIdsV v))).map fun b => match look (toH (puts u σ.h)) b with | some x => renB (fun c => (reachV hn 2 (dedup (List.range K ++ allIdsV v))).idxOf c) (nrmB (toH (puts u σ.h)) x) | none => .gone) = hout.map VB.toD := o1
    exact congrArg (fun z => some (r.toD, z)) ho
  · simp only [Bool.and_eq_true, List.all_eq_true]
    exact ⟨closedV_ok e c.1, fun b hb => c.2 b hb⟩

/-! ### a function's contract -/
def finQ (Q : VSt → Prop) : Exit → VSt → Prop
  | .normal, σ => Q σ
  | .ret, σ => Q σ
  | _, _ => False
theorem fin_n {Q : VSt → Prop} (h : Q σ) : finQ Q .normal σ := h
theorem fin_r {Q : VSt → Prop} (h : Q σ) : finQ Q .ret σ := h
def argsV : List V → Nat → VT
  | [], _ => []
  | v :: l, k => (k, v) :: argsV l (k + 1)
theorem argsV_ok : ∀ (l : List V) (k : Nat), ((toDL l).zipIdx k).map (fun x => (x.2, x.1)) = toT (argsV l k)
  | [], k => rfl
  | v :: l, k => by simp [toDL, List.zipIdx_cons, argsV, argsV_ok l (k + 1), toT]
def argsB : List VB → Nat → VH
  | [], _ => []
  | v :: l, k => (k, v) :: argsB l (k + 1)
theorem argsB_ok : ∀ (l : List VB) (k : Nat), ((l.map VB.toD).zipIdx k).map (fun x => (x.2, x.1)) = toH (argsB l k)
  | [], k => rfl
  | v :: l, k => by simp [List.zipIdx_cons, argsB, argsB_ok l (k + 1), toH]

/-- The function f, called with vs and the blocks hin, comes to a result and blocks as R says. -/
theorem con_ex {Θ : TT} (hΘ : Θ.ok P) {f : FuncId} {fn : Func} {c : Code} (hf : P.funcs[f]? = some fn) (hb : fn.body = some c) (hname : (fn.name == "runtime.NumGoroutine") = false) (pr : Bool) {vs : List V} {hin : List VB} (hl : Nat.ble vs.length fn.ntmps = true)
    {R : V → List VB → Prop} {r0 : V} {hout0 : List VB} (h0 : R r0 hout0)
    (h : (∀ d ∈ toDL vs, bnd 6 d) → (∀ x ∈ hin.map VB.toD, bndB 6 x) → At P fn.ntmps hin.length c (finQ fun σ => finK Θ fn.results.toList hin.length pr σ R) ⟨argsV vs 0, argsB hin 0, hin.length⟩) : ∃ r hout, R r hout ∧ ConV P f vs hin r hout := by
  have hlen : (toDL vs).length ≤ fn.ntmps := by rw [toDL_len]; exact Nat.le_of_ble_eq_true hl
  have e1 : argsT (toDL vs) = toT (argsV vs 0) := argsV_ok vs 0
  have e2 : idx (hin.map VB.toD) = toH (argsB hin 0) := argsB_ok hin 0
  rcases Classical.em ((∀ d ∈ toDL vs, bnd 6 d) ∧ ∀ x ∈ hin.map VB.toD, bndB 6 x) with hbb | hbb
  · obtain ⟨e, σ', h1, h2⟩ := h hbb.1 hbb.2
    rcases Classical.em (RealS P fn.ntmps hin.length σ'.toD) with hr | hr
    · have h3 := h2 hr
      have hfin : (e = .normal ∨ e = .ret) ∧ finK Θ fn.results.toList hin.length pr σ' R := by
        cases e with
        | normal => exact ⟨.inl rfl, h3⟩
        | ret => exact ⟨.inr rfl, h3⟩
        | _ => exact h3.elim
      obtain ⟨r, hout, q1, q2⟩ := finK_ok hΘ hfin.2
      refine ⟨r, hout, q2, con_of hf hb hname rfl rfl pr hlen fun _ _ => ⟨e, σ'.toD, ?_, fun _ => ⟨hfin.1, by rw [List.length_map]; exact q1⟩⟩⟩
      rw [e1, e2, List.length_map]
      exact h1
    · refine ⟨r0, hout0, h0, con_of hf hb hname rfl rfl pr hlen fun _ _ => ⟨e, σ'.toD, ?_, fun h => absurd (by rw [List.length_map] at h; exact h) hr⟩⟩
      rw [e1, e2, List.length_map]
      exact h1
  · exact ⟨r0, hout0, h0, con_of hf hb hname rfl rfl pr hlen fun b1 b2 => absurd ⟨b1, b2⟩ hbb⟩
/-- it comes to r and hout -/
theorem con_eq {Θ : TT} (hΘ : Θ.ok P) {f : FuncId} {fn : Func} {c : Code} (hf : P.funcs[f]? = some fn) (hb : fn.body = some c) (hname : (fn.name == "runtime.NumGoroutine") = false) (pr : Bool) {vs : List V} {hin : List VB} (hl : Nat.ble vs.length fn.ntmps = true) {r : V} {hout : List VB}
    (h : (∀ d ∈ toDL vs, bnd 6 d) → (∀ x ∈ hin.map VB.toD, bndB 6 x) → At P fn.ntmps hin.length c (finQ fun σ => finK Θ fn.results.toList hin.length pr σ fun r' hout' => r' = r ∧ hout' = hout) ⟨argsV vs 0, argsB hin 0, hin.length⟩) : ConV P f vs hin r hout := by
  obtain ⟨r', hout', ⟨rfl, rfl⟩, h2⟩ := con_ex hΘ hf hb hname pr hl (R := fun r' hout' => r' = r ∧ hout' = hout) ⟨rfl, rfl⟩ h
  exact h2
end Go.Proofs.Ytdecnnhcbjhfgaa.Am
