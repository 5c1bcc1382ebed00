/- The plain machine with types: regions. -/
import Derived.Test.YtdecnnhcbjhfgaaV5
namespace Go.Proofs.Ytdecnnhcbjhfgaa.Am
set_option linter.unusedSimpArgs false
set_option linter.unusedVariables false
open Go Go.RowKit

variable {P : Program} {N : Nat}

def disj (a b : List Nat) : Bool := a.all fun x => !b.contains x
abbrev Fws := List (Nat × List Nat × List Nat)
def confB (dep : List Nat) (fws : Fws) (f ws : List Nat) : Bool :=
  fws.all fun x => (disj x.2.2 f && disj x.2.2 ws && disj ws x.2.1) || dep.contains x.1
def conf1 (fws : Fws) (f ws : List Nat) : Bool := fws.all fun x => disj x.2.2 f && disj x.2.2 ws && disj ws x.2.1
theorem conf1_ok {dep : List Nat} {fws : Fws} {f ws : List Nat} (h : conf1 fws f ws = true) : confB dep fws f ws = true := by
  unfold conf1 at h
  unfold confB
  rw [List.all_eq_true] at h ⊢
  intro x hx
  rw [h x hx]
  rfl
theorem conf_nil {dep : List Nat} {fws : Fws} : confB dep fws [] [] = true := by
  unfold confB
  rw [List.all_eq_true]
  intro x hx
  simp [disj]
/-- a fact that is reckoned elsewhere -/
def Mk (b : Bool) (K : Prop) : Prop := b = true ∧ K
def confK (dep : Unit → List Nat) (fws : Fws) (f ws : List Nat) (K : Prop) : Prop :=
  match conf1 fws f ws with
  | true => K
  | false => Mk (confB (dep ()) fws f ws) K
theorem confK_ok {dep : Unit → List Nat} {fws : Fws} {f ws : List Nat} {K : Prop} (h : confK dep fws f ws K) : confB (dep ()) fws f ws = true ∧ K := by
  unfold confK at h
  split at h
  · rename_i e; exact ⟨conf1_ok e, h⟩
  · exact h
def dstLt (N : Nat) (dst : Option Tmp) : Bool := match dst with | some d => Nat.blt d N | none => true

def idsV0 : V → List Nat
  | .ref b => [b]
  | .ptr b _ => [b]
  | .eptr b _ _ => [b]
  | .vref b _ _ => [b]
  | .aptr b _ _ => [b]
  | _ => []
def idsV : V → List Nat
  | .agg cs => cs.flatMap idsV0
  | .tup cs => cs.flatMap idsV0
  | v => idsV0 v
theorem idsV0_ok (v : V) : idsA0 v.toD = idsV0 v := by cases v <;> rfl
theorem idsVs_ok (l : List V) : (toDL l).flatMap idsA0 = l.flatMap idsV0 := by
  rw [toDL_eq, List.flatMap_map]
  exact congrArg (fun f => List.flatMap f l) (funext idsV0_ok)
theorem idsV_ok (v : V) : idsA v.toD = idsV v := by
  cases v <;> first | rfl | exact idsVs_ok _
def lookO {α : Type} : List (Nat × α) → Nat → Option α
  | [], _ => none
  | (k, a) :: l, x => bif Nat.beq x k then some a else lookO l x
theorem lookO_ok {α : Type} : ∀ (l : List (Nat × α)) (x : Nat), lookO l x = look l x
  | [], _ => rfl
  | (k, a) :: l, x => by
    simp only [lookO, look, lookO_ok l x]
    by_cases e : x = k
    · subst e; simp
    · have : Nat.beq x k = false := by
        cases hb : Nat.beq x k with
        | false => rfl
        | true => exact absurd (Nat.eq_of_beq_eq_true hb) e
      rw [this, if_neg e]
      rfl
def opV (t : VT) : Operand → List Nat
  | .tmp k => (match lookO t k with | some v => idsV v | none => [])
  | _ => []
theorem ofVal_ids {v : Value} {d : D} (h : ofVal v = some d) : idsA d = [] := by
  unfold ofVal at h
  split at h <;> first | (simp only [Option.some.injEq] at h; subst h; rfl) | cases h
theorem opV_ok (t : VT) (x : Operand) : (match evalD (toT t) x with | some d => idsA d | none => []) = opV t x := by
  cases x with
  | tmp k =>
    simp only [evalD, look_toT, opV, lookO_ok]
    cases look t k with
    | none => rfl
    | some v => exact idsV_ok v
  | const v =>
    simp only [evalD, opV]
    cases h : ofVal v with
    | none => rfl
    | some d => exact ofVal_ids h
  | _ => rfl
def idsVB : VB → List Nat
  | .var _ cs => cs.flatMap ids0V
  | .vari _ pre _ _ _ post => pre.flatMap ids0V ++ post.flatMap ids0V
  | _ => []
where ids0V : V → List Nat
  | .ref b => [b]
  | _ => []
theorem idsVB_ok (x : VB) : idsB x.toD = idsVB x := by
  cases x with
  | var T cs =>
    simp only [VB.toD, idsB, idsVB, toDL_eq, List.flatMap_map]
    exact congrArg (fun f => List.flatMap f cs) (funext fun v => by cases v <;> rfl)
  | vari T pre m t xs post =>
    have e : (xs.map (encD t)).flatMap ids0 = [] := by
      rw [List.flatMap_eq_nil_iff]
      intro d hd
      obtain ⟨z, _, rfl⟩ := List.mem_map.1 hd
      cases t <;> rfl
    have e2 : ∀ cs : List V, (toDL cs).flatMap ids0 = cs.flatMap idsVB.ids0V := fun cs => by
      rw [toDL_eq, List.flatMap_map]
      exact congrArg (fun f => List.flatMap f cs) (funext fun v => by cases v <;> rfl)
    simp only [VB.toD, idsB, idsVB, List.flatMap_append, e, e2, List.append_nil]
  | _ => rfl
def fsV (h : VH) (t : VT) (op : Op) : List Nat := bif looks op then
    op.operands.toList.flatMap (opV t) ++ (op.operands.toList.flatMap (opV t)).flatMap fun b => match lookO h b with | some x => idsVB x | none => []
  else []
theorem flatMap_filterMap {α β γ : Type} (f : α → Option β) (g : β → List γ) : ∀ l : List α, (l.filterMap f).flatMap g = l.flatMap fun a => match f a with | some b => g b | none => []
  | [] => rfl
  | a :: l => by
    rw [List.filterMap_cons]
    cases h : f a with
    | none => simp [h, flatMap_filterMap f g l]
    | some b => simp [h, flatMap_filterMap f g l]
theorem fsV_ok (h : VH) (t : VT) (op : Op) : fsOf (toH h) (toT t) op = fsV h t op := by
  have e1 : (op.operands.toList.filterMap (evalD (toT t))).flatMap idsA = op.operands.toList.flatMap (opV t) :=
    (flatMap_filterMap _ _ _).trans (congrArg (fun f => List.flatMap f op.operands.toList) (funext fun x => by
      have h0 := opV_ok t x
      cases he : evalD (toT t) x with
      | none => rw [he] at h0; exact h0
      | some d => rw [he] at h0; exact h0))
  unfold fsOf fsV
  cases looks op with
  | false => rfl
  | true =>
  simp only [e1, cond_true]
  congr 1
  refine congrArg (fun f => List.flatMap f _) (funext fun b => ?_)
  rw [look_toH, lookO_ok]
  cases look h b with
  | none => rfl
  | some x => exact idsVB_ok x

def putV (dst : Option Nat) (v : V) (t : VT) : VT := match dst with | some k => (k, v) :: t | none => t
theorem putV_ok (dst : Option Nat) (v : V) (t : VT) : toT (putV dst v t) = putD dst v.toD (toT t) := by cases dst <;> rfl
/-- how many names are new -/
def cntN (n : Nat) : VH → Nat
  | [] => 0
  | (x, _) :: u => bif Nat.ble n x then cntN n u + 1 else cntN n u
def ltN (n' : Nat) : VH → Bool
  | [] => true
  | (x, _) :: u => Nat.blt x n' && ltN n' u
theorem ltN_ok {n' : Nat} : ∀ {u : VH}, ltN n' u = true → ∀ x ∈ toH u, x.1 < n'
  | [], _, x, hx => by cases hx
  | (a, b) :: u, h, x, hx => by
    simp only [ltN, Bool.and_eq_true] at h
    rcases List.mem_cons.1 hx with rfl | hx
    · simpa [Nat.blt_eq] using h.1
    · exact ltN_ok h.2 x hx
def namesV : VH → List Nat
  | [] => []
  | (x, _) :: u => x :: namesV u
theorem namesV_ok : ∀ u : VH, (toH u).map (·.1) = namesV u
  | [] => rfl
  | (x, y) :: u => by
    have := namesV_ok u
    simp only [toH, List.map_cons, namesV] at this ⊢
    rw [this]

def natsK : List Nat → (List Nat → Prop) → Prop
  | [], K => K []
  | b :: l, K => natK b fun b => natsK l fun l => K (b :: l)
theorem natsK_ok : ∀ {l : List Nat} {K : List Nat → Prop}, natsK l K → K l
  | [], K, h => h
  | b :: l, K, h => natsK_ok (l := l) (K := fun l => K (b :: l)) (natK_ok (K := fun b => natsK l fun l => K (b :: l)) h)
def putVK (dst : Option Nat) (v : V) (t : VT) (K : VT → Prop) : Prop := match dst with | some k => K ((k, v) :: t) | none => K t
theorem putVK_ok {dst : Option Nat} {v : V} {t : VT} {K : VT → Prop} (h : putVK dst v t K) : K (putV dst v t) := by cases dst <;> exact h
/-- an operation that is carried out -/
def vrun (P : Program) (Θ : TT) (dep : Nat → List Nat) (chk : Bool) (N : Nat) (o : Oper) (k : Nat) (fws : Fws) (t : VT) (h : VH) (n : Nat) (K : Fws → VSt → Prop) : Prop :=
  Chk (dstLt N o.dst) (stepK P Θ o.op t h n fun d u => putVK o.dst d t fun t' => match u with
    | [] => (match chk with
      | false => K fws ⟨t', h, n⟩
      | true => natsK (fsV h t o.op) fun f => (match f with
        | [] => K fws ⟨t', h, n⟩
        | f => confK (fun _ => dep k) fws f [] (K ((k, f, []) :: fws) ⟨t', h, n⟩)))
    | u => natK (n + cntN n u) fun n' => Chk (ltN n' u) (putsK u h fun h' => match chk with
      | false => K fws ⟨t', h', n'⟩
      | true => natsK (fsV h t o.op) fun f => natsK (namesV u) fun ws => confK (fun _ => dep k) fws f ws (K ((k, f, ws) :: fws) ⟨t', h', n'⟩)))
/-- one that is left out -/
def vskip (N : Nat) (o : Oper) (t : VT) (h : VH) (n : Nat) (K : VSt → Prop) : Prop := Chk (dstLt N o.dst) (putVK o.dst .undef t fun t' => K ⟨t', h, n⟩)
/-- the operations of a region, in the order of the text -/
def vops (P : Program) (Θ : TT) (ops : Array Oper) (dep : Nat → List Nat) (chk : Bool) (N : Nat) : List Oper → Nat → Fws → VSt → (VSt → Prop) → Prop
  | [], _, _, σ, K => K σ
  | o :: l, k, fws, ⟨t, h, n⟩, K => match o.guard with
    | none => vrun P Θ dep chk N o k fws t h n fun fws' σ' => vops P Θ ops dep chk N l (k + 1) fws' σ' K
    | some (g, want) => (match (ops[g]?).bind (·.dst) with
      | some s => lookK t s fun v => (match v with
        | .tt => (match want with
            | true => vrun P Θ dep chk N o k fws t h n fun fws' σ' => vops P Θ ops dep chk N l (k + 1) fws' σ' K
            | false => vskip N o t h n fun σ' => vops P Θ ops dep chk N l (k + 1) fws σ' K)
        | .ff => (match want with
            | false => vrun P Θ dep chk N o k fws t h n fun fws' σ' => vops P Θ ops dep chk N l (k + 1) fws' σ' K
            | true => vskip N o t h n fun σ' => vops P Θ ops dep chk N l (k + 1) fws σ' K)
        | .bool b => Cnd b
          (match want with
            | true => vrun P Θ dep chk N o k fws ((s, .tt) :: t) h n fun fws' σ' => vops P Θ ops dep chk N l (k + 1) fws' σ' K
            | false => vskip N o ((s, .tt) :: t) h n fun σ' => vops P Θ ops dep chk N l (k + 1) fws σ' K)
          (match want with
            | false => vrun P Θ dep chk N o k fws ((s, .ff) :: t) h n fun fws' σ' => vops P Θ ops dep chk N l (k + 1) fws' σ' K
            | true => vskip N o ((s, .ff) :: t) h n fun σ' => vops P Θ ops dep chk N l (k + 1) fws σ' K)
        | _ => False)
      | none => False)

/-! ### what it is good for -/
theorem TRun.congr {ops : Array Oper} : ∀ {L : List (Oper × Rc)} {t t' : List (Nat × D)} {h : List (Nat × Blk)} {n : Nat}, (∀ x, look t x = look t' x) → TRun P ops N t h n L → TRun P ops N t' h n L
  | [], _, _, _, _, _, _ => trivial
  | (o, r) :: L, t, t', h, n, he, ⟨h1, h2, h3⟩ => by
    refine ⟨h1, ?_, TRun.congr (fun x => ?_) h3⟩
    · have hev : ∀ x, evalD t x = evalD t' x := fun x => evalD_look fun k _ => he k
      have hg : guardB ops t o = guardB ops t' o := guardB_congr fun k _ => he k
      rcases h2 with ⟨g1, ⟨Γ, hΓ, g2⟩, g3⟩ | ⟨g1, g2⟩
      · left
        refine ⟨hg ▸ g1, ⟨Γ, hΓ, ?_⟩, ?_⟩
        · rw [← aop_t (t := t) (t' := t') fun x _ => hev x]; exact g2
        · rw [g3]
          unfold fsOf
          rw [show evalD t = evalD t' from funext hev]
      · exact .inr ⟨hg ▸ g1, g2⟩
    · rw [look_putD, look_putD, he x]

/-- what has been looked at and written so far -/
def FwsOf (k : Nat) (pre : List (Oper × Rc)) (fws : Fws) : Prop :=
  pre.length = k ∧ ∀ i o r, pre[i]? = some (o, r) → (r.u ≠ [] ∨ r.f ≠ []) → (i, r.f, r.u.map (·.1)) ∈ fws

theorem stT_shift : ∀ (k k' : Nat) (l : List (Oper × Rc)) (t : List (Nat × D)), stT (fun _ => true) k l t = stT (fun _ => true) k' l t
  | _, _, [], _ => rfl
  | k, k', (o, r) :: l, t => stT_shift (k + 1) (k' + 1) l _
theorem stH_shift : ∀ (k k' : Nat) (l : List (Oper × Rc)) (t : List (Nat × Blk)), stH (fun _ => true) k l t = stH (fun _ => true) k' l t
  | _, _, [], _ => rfl
  | k, k', (o, r) :: l, t => stH_shift (k + 1) (k' + 1) l _

/-- The operations l, behind pre, bring σ to σ'. -/
def Runs (P : Program) (N : Nat) (ops : Array Oper) (dep : Nat → List Nat) (chk : Bool) (l : List Oper) (k : Nat) (fws : Fws) (σ σ' : VSt) : Prop :=
  ∀ pre : List (Oper × Rc), (chk = true → FwsOf k pre fws) → ∃ L : List (Oper × Rc), L.map (·.1) = l ∧ TRun P ops N (toT σ.t) (toH σ.h) σ.n L ∧
    (∀ x, look (toT σ'.t) x = look (stT (fun _ => true) 0 L (toT σ.t)) x) ∧ (∀ x, look (toH σ'.h) x = look (stH (fun _ => true) 0 L (toH σ.h)) x) ∧
    ((∀ b, σ.n ≤ b → look (toH σ.h) b = none) → ∀ b, σ'.n ≤ b → look (toH σ'.h) b = none) ∧
    (chk = true → ∀ i j oi ri oj rj, i < k + j → (pre ++ L)[i]? = some (oi, ri) → L[j]? = some (oj, rj) → (dep (k + j)).contains i = false → (∀ x ∈ ri.u, x.1 ∉ rj.f ∧ ∀ y ∈ rj.u, x.1 ≠ y.1) ∧ (∀ x ∈ rj.u, x.1 ∉ ri.f))

variable {ops : Array Oper} {dep : Nat → List Nat} {chk : Bool}

theorem Runs.nil {k : Nat} {fws : Fws} {σ : VSt} : Runs P N ops dep chk [] k fws σ σ := fun pre _ =>
  ⟨[], rfl, trivial, fun _ => rfl, fun _ => rfl, fun h => h, fun _ i j oi ri oj rj _ _ hj => by simp at hj⟩
theorem Runs.congr {l : List Oper} {k : Nat} {fws : Fws} {σ τ σ' : VSt} (h : Runs P N ops dep chk l k fws τ σ') (ht : ∀ x, look (toT τ.t) x = look (toT σ.t) x) (hh : τ.h = σ.h) (hn : τ.n = σ.n) : Runs P N ops dep chk l k fws σ σ' := by
  intro pre hpre
  obtain ⟨L, h1, h2, h3, h4, h5, h6⟩ := h pre hpre
  rw [hh] at h2 h4 h5
  rw [hn] at h2 h5
  exact ⟨L, h1, h2.congr ht, fun x => by rw [h3]; exact stT_start _ L 0 _ _ x (ht x), h4, h5, h6⟩

theorem disj_ok {a b : List Nat} (h : disj a b = true) : ∀ x ∈ a, x ∉ b := by
  intro x hx
  unfold disj at h
  rw [List.all_eq_true] at h
  simpa using h x hx

theorem Runs.step {o : Oper} {l : List Oper} {k : Nat} {fws : Fws} {σ σ' : VSt} {d : V} {u : VH} {n' : Nat} {Γ : Env} (hg : guardB ops (toT σ.t) o = some true) (hd : dstLt N o.dst = true) (hΓ : Γ.ok P) (ha : aop P Γ o.op (toT σ.t) (toH σ.h) σ.n = some (d.toD, toH u)) (hn : σ.n ≤ n') (hu : ltN n' u = true)
    (hc : chk = true → confB (dep k) fws (fsV σ.h σ.t o.op) (namesV u) = true) {fws' : Fws} (hf : chk = true → fws' = (k, fsV σ.h σ.t o.op, namesV u) :: fws ∨ (fws' = fws ∧ fsV σ.h σ.t o.op = [] ∧ u = [])) (h : Runs P N ops dep chk l (k + 1) fws' ⟨putV o.dst d σ.t, puts u σ.h, n'⟩ σ') : Runs P N ops dep chk (o :: l) k fws σ σ' := by
  intro pre hpre
  let r : Rc := ⟨d.toD, toH u, fsOf (toH σ.h) (toT σ.t) o.op, σ.n, n'⟩
  have hfs : r.f = fsV σ.h σ.t o.op := fsV_ok _ _ _
  obtain ⟨L, h1, h2, h3, h4, h5, h6⟩ := h (pre ++ [(o, r)]) (fun hchk => by
    obtain ⟨q1, q2⟩ := hpre hchk
    refine ⟨by simp [q1], fun i o' r' hi hne => ?_⟩
    have hmono : ∀ x ∈ fws, x ∈ fws' := by
      intro x hx
      rcases hf hchk with e | ⟨e, _⟩
      · rw [e]; exact List.mem_cons_of_mem _ hx
      · rw [e]; exact hx
    rcases Nat.lt_or_ge i pre.length with hlt | hge
    · rw [List.getElem?_append_left hlt] at hi
      exact hmono _ (q2 i o' r' hi hne)
    · rw [List.getElem?_append_right hge] at hi
      have : i - pre.length = 0 := by
        have := (List.getElem?_eq_some_iff.1 hi).1
        simpa using this
      rw [this] at hi
      simp only [List.getElem?_cons_zero, Option.some.injEq, Prod.mk.injEq] at hi
      obtain ⟨rfl, rfl⟩ := hi
      have hik : i = k := by omega
      rcases hf hchk with e | ⟨_, e1, e2⟩
      · rw [hik, e, ← namesV_ok, ← fsV_ok]
        exact List.mem_cons_self ..
      · exfalso
        rcases hne with hne | hne
        · exact hne (by show toH u = []; rw [e2]; rfl)
        · exact hne (by rw [hfs]; exact e1))
  have hdst : ∀ x, o.dst = some x → x < N := by
    intro x hx
    simpa [dstLt, hx, Nat.blt_eq] using hd
  rw [putV_ok, ← puts_toH] at h2
  refine ⟨(o, r) :: L, by simp [h1], ⟨⟨rfl, hn, ltN_ok hu, hdst⟩, .inl ⟨hg, ⟨Γ, hΓ, ha⟩, rfl⟩, h2⟩, fun x => (h3 x).trans ?_, fun x => (h4 x).trans ?_, fun hn0 b hb => h5 (fun b hb => ?_) b hb, fun hchk i j oi ri oj rj hij hi hj hdp => ?_⟩
  · show look (stT _ 0 L (toT (putV o.dst d σ.t))) x = look (stT _ 1 L (if (fun _ => true) 0 = true then _ else _)) x
    simp only [if_true, putV_ok]
    rw [stT_shift 0 1]
  · show look (stH _ 0 L (toH (puts u σ.h))) x = look (stH _ 1 L (if (fun _ => true) 0 = true then _ else _)) x
    simp only [if_true, ← puts_toH]
    rw [stH_shift 0 1]
  · show look (toH (puts u σ.h)) b = none
    have hb' : n' ≤ b := hb
    rw [← puts_toH, look_puts_other _ _ _ fun x hx e => by have := ltN_ok hu x hx; omega]
    exact hn0 b (by omega)
  · cases j with
    | zero =>
      simp only [List.getElem?_cons_zero, Option.some.injEq, Prod.mk.injEq] at hj
      obtain ⟨rfl, rfl⟩ := hj
      obtain ⟨q1, q2⟩ := hpre hchk
      rw [List.getElem?_append_left (by omega)] at hi
      by_cases hne : ri.u ≠ [] ∨ ri.f ≠ []
      · have hm := q2 i oi ri hi hne
        have hcf := hc hchk
        unfold confB at hcf
        rw [List.all_eq_true] at hcf
        have := hcf _ hm
        simp only [Nat.add_zero] at hdp
        simp only [hdp, Bool.or_false, Bool.and_eq_true] at this
        obtain ⟨⟨c1, c2⟩, c3⟩ := this
        rw [← fsV_ok] at c1
        rw [← namesV_ok] at c2 c3
        refine ⟨fun x hx => ⟨disj_ok c1 _ (List.mem_map.2 ⟨x, hx, rfl⟩), fun y hy he => disj_ok c2 _ (List.mem_map.2 ⟨x, hx, rfl⟩) (List.mem_map.2 ⟨y, hy, he.symm⟩)⟩, fun x hx => disj_ok c3 _ (List.mem_map.2 ⟨x, hx, rfl⟩)⟩
      · have e1 : ri.u = [] := by
          rcases Classical.em (ri.u = []) with h | h
          · exact h
          · exact absurd (.inl h) hne
        have e2 : ri.f = [] := by
          rcases Classical.em (ri.f = []) with h | h
          · exact h
          · exact absurd (.inr h) hne
        rw [e1, e2]
        exact ⟨fun x hx => (by cases hx), fun x hx h => (by cases h)⟩
    | succ j =>
      refine h6 hchk i j oi ri oj rj (by omega) (by simpa using hi) (by simpa using hj) (by rw [show k + 1 + j = k + (j + 1) by omega]; exact hdp)
theorem Runs.skip {o : Oper} {l : List Oper} {k : Nat} {fws : Fws} {σ σ' : VSt} (hg : guardB ops (toT σ.t) o = some false) (hd : dstLt N o.dst = true) (h : Runs P N ops dep chk l (k + 1) fws ⟨putV o.dst .undef σ.t, σ.h, σ.n⟩ σ') : Runs P N ops dep chk (o :: l) k fws σ σ' := by
  intro pre hpre
  let r : Rc := ⟨.undef, [], [], σ.n, σ.n⟩
  obtain ⟨L, h1, h2, h3, h4, h5, h6⟩ := h (pre ++ [(o, r)]) (fun hchk => by
    obtain ⟨q1, q2⟩ := hpre hchk
    refine ⟨by simp [q1], fun i o' r' hi hne => ?_⟩
    rcases Nat.lt_or_ge i pre.length with hlt | hge
    · rw [List.getElem?_append_left hlt] at hi
      exact q2 i o' r' hi hne
    · rw [List.getElem?_append_right hge] at hi
      have : i - pre.length = 0 := by
        have := (List.getElem?_eq_some_iff.1 hi).1
        simpa using this
      rw [this] at hi
      simp only [List.getElem?_cons_zero, Option.some.injEq, Prod.mk.injEq] at hi
      obtain ⟨rfl, rfl⟩ := hi
      simp [r] at hne)
  have hdst : ∀ x, o.dst = some x → x < N := by
    intro x hx
    simpa [dstLt, hx, Nat.blt_eq] using hd
  rw [putV_ok] at h2
  refine ⟨(o, r) :: L, by simp [h1], ⟨⟨rfl, Nat.le_refl _, by simp [r], hdst⟩, .inr ⟨hg, rfl, rfl, rfl⟩, h2⟩, fun x => (h3 x).trans ?_, fun x => (h4 x).trans ?_, h5, fun hchk i j oi ri oj rj hij hi hj hdp => ?_⟩
  · show look (stT _ 0 L (toT (putV o.dst .undef σ.t))) x = look (stT _ 1 L (if (fun _ => true) 0 = true then _ else _)) x
    simp only [if_true, putV_ok]
    rw [stT_shift 0 1]
    rfl
  · show look (stH _ 0 L (toH σ.h)) x = look (stH _ 1 L (if (fun _ => true) 0 = true then _ else _)) x
    simp only [if_true]
    rw [stH_shift 0 1]
    rfl
  · cases j with
    | zero =>
      simp only [List.getElem?_cons_zero, Option.some.injEq, Prod.mk.injEq] at hj
      obtain ⟨rfl, rfl⟩ := hj
      refine ⟨fun x hx => ⟨by simp [r], by simp [r]⟩, by simp [r]⟩
    | succ j =>
      refine h6 hchk i j oi ri oj rj (by omega) (by simpa using hi) (by simpa using hj) (by rw [show k + 1 + j = k + (j + 1) by omega]; exact hdp)

theorem vrun_ok {Θ : TT} (hΘ : Θ.ok P) {o : Oper} {k : Nat} {fws : Fws} {σ : VSt} {K : Fws → VSt → Prop} (h : vrun P Θ dep chk N o k fws σ.t σ.h σ.n K) :
    ∃ (Γ : Env) (d : V) (u : VH) (n' : Nat) (fws' : Fws), dstLt N o.dst = true ∧ Γ.ok P ∧ aop P Γ o.op (toT σ.t) (toH σ.h) σ.n = some (d.toD, toH u) ∧ σ.n ≤ n' ∧ ltN n' u = true ∧ (chk = true → confB (dep k) fws (fsV σ.h σ.t o.op) (namesV u) = true) ∧
      (chk = true → fws' = (k, fsV σ.h σ.t o.op, namesV u) :: fws ∨ (fws' = fws ∧ fsV σ.h σ.t o.op = [] ∧ u = [])) ∧ K fws' ⟨putV o.dst d σ.t, puts u σ.h, n'⟩ := by
  obtain ⟨hd, h1⟩ := Chk.ok h
  obtain ⟨Γ, d, u, hΓ, ha, h2⟩ := stepK_ok hΘ h1
  have h3 := putVK_ok h2
  split at h3
  · split at h3
    · exact ⟨Γ, d, [], σ.n, fws, hd, hΓ, ha, Nat.le_refl _, rfl, fun hc => (by cases hc), fun hc => (by cases hc), h3⟩
    · have h4 := natsK_ok h3
      split at h4
      · rename_i e
        exact ⟨Γ, d, [], σ.n, fws, hd, hΓ, ha, Nat.le_refl _, rfl, fun _ => by rw [e]; exact conf_nil, fun _ => .inr ⟨rfl, e, rfl⟩, h4⟩
      · obtain ⟨h5, h6⟩ := confK_ok h4
        exact ⟨Γ, d, [], σ.n, _, hd, hΓ, ha, Nat.le_refl _, rfl, fun _ => h5, fun _ => .inl rfl, h6⟩
  · have h4 := natK_ok h3
    obtain ⟨hl, h5⟩ := h4.ok
    have h6 := putsK_ok h5
    split at h6
    · exact ⟨Γ, d, _, _, fws, hd, hΓ, ha, Nat.le_add_right _ _, hl, fun hc => (by cases hc), fun hc => (by cases hc), h6⟩
    · obtain ⟨h7, h8⟩ := confK_ok (natsK_ok (natsK_ok h6))
      exact ⟨Γ, d, _, _, _, hd, hΓ, ha, Nat.le_add_right _ _, hl, fun _ => h7, fun _ => .inl rfl, h8⟩
theorem guardB_of {o : Oper} {t : VT} {g s : Nat} {want b : Bool} {v : V} (h1 : o.guard = some (g, want)) (h2 : (ops[g]?).bind (·.dst) = some s) (h3 : look t s = some v) (hv : v.toD = .bool b) : guardB ops (toT t) o = some (b == want) := by
  unfold guardB
  rw [h1]
  simp only [h2, look_toT, h3, Option.map_some, hv]
theorem look_shadow {t : VT} {s : Nat} {v v' : V} (h : look t s = some v) (he : v'.toD = v.toD) (x : Nat) : look (toT ((s, v') :: t)) x = look (toT t) x := by
  rw [look_toT, look_toT]
  show Option.map _ (if x = s then _ else _) = _
  split
  · rename_i e; subst e; rw [h]; simp [he]
  · rfl
theorem vops_ok {Θ : TT} (hΘ : Θ.ok P) : ∀ {l : List Oper} {k : Nat} {fws : Fws} {σ : VSt} {K : VSt → Prop}, vops P Θ ops dep chk N l k fws σ K → ∃ σ', K σ' ∧ Runs P N ops dep chk l k fws σ σ'
  | [], k, fws, σ, K, h => ⟨σ, h, Runs.nil⟩
  | o :: l, k, fws, σ, K, h => by
    have run : ∀ σ : VSt, guardB ops (toT σ.t) o = some true → (vrun P Θ dep chk N o k fws σ.t σ.h σ.n fun fws' σ' => vops P Θ ops dep chk N l (k + 1) fws' σ' K) → ∃ σ', K σ' ∧ Runs P N ops dep chk (o :: l) k fws σ σ' := by
      intro σ hg h
      obtain ⟨Γ, d, u, n', fws', h1, h2, h3, h4, h5, h6, h7, h8⟩ := vrun_ok hΘ h
      obtain ⟨σ', h9, h10⟩ := vops_ok hΘ h8
      exact ⟨σ', h9, Runs.step hg h1 h2 h3 h4 h5 h6 h7 h10⟩
    have skip : ∀ σ : VSt, guardB ops (toT σ.t) o = some false → (vskip N o σ.t σ.h σ.n fun σ' => vops P Θ ops dep chk N l (k + 1) fws σ' K) → ∃ σ', K σ' ∧ Runs P N ops dep chk (o :: l) k fws σ σ' := by
      intro σ hg h
      obtain ⟨hd, h7⟩ := Chk.ok h
      obtain ⟨σ', h8, h9⟩ := vops_ok hΘ (putVK_ok h7)
      exact ⟨σ', h8, Runs.skip hg hd h9⟩
    obtain ⟨st, sh, sn⟩ := σ
    unfold vops at h
    split at h
    · rename_i e
      exact run ⟨st, sh, sn⟩ (by unfold guardB; rw [e]) h
    · rename_i g want e
      split at h
      · rename_i s es
        obtain ⟨v, h1, h2⟩ := lookK_ok h
        split at h2
        · cases want with
          | true => exact run ⟨st, sh, sn⟩ (guardB_of e es (b := true) h1 rfl) h2
          | false => exact skip ⟨st, sh, sn⟩ (guardB_of e es (b := true) h1 rfl) h2
        · cases want with
          | true => exact skip ⟨st, sh, sn⟩ (guardB_of e es (b := false) h1 rfl) h2
          | false => exact run ⟨st, sh, sn⟩ (guardB_of e es (b := false) h1 rfl) h2
        · rename_i b
          cases b with
          | true =>
            have h3 := h2.1 rfl
            have hsh : ∀ x, look (toT ((s, .tt) :: st)) x = look (toT st) x := look_shadow h1 rfl
            cases want with
            | true =>
              obtain ⟨σ', k1, k2⟩ := run ⟨(s, .tt) :: st, sh, sn⟩ (guardB_of e es (b := true) (v := .tt) (by simp [look]) rfl) h3
              exact ⟨σ', k1, k2.congr hsh rfl rfl⟩
            | false =>
              obtain ⟨σ', k1, k2⟩ := skip ⟨(s, .tt) :: st, sh, sn⟩ (guardB_of e es (b := true) (v := .tt) (by simp [look]) rfl) h3
              exact ⟨σ', k1, k2.congr hsh rfl rfl⟩
          | false =>
            have h3 := h2.2 rfl
            have hsh : ∀ x, look (toT ((s, .ff) :: st)) x = look (toT st) x := look_shadow h1 rfl
            cases want with
            | true =>
              obtain ⟨σ', k1, k2⟩ := skip ⟨(s, .ff) :: st, sh, sn⟩ (guardB_of e es (b := false) (v := .ff) (by simp [look]) rfl) h3
              exact ⟨σ', k1, k2.congr hsh rfl rfl⟩
            | false =>
              obtain ⟨σ', k1, k2⟩ := run ⟨(s, .ff) :: st, sh, sn⟩ (guardB_of e es (b := false) (v := .ff) (by simp [look]) rfl) h3
              exact ⟨σ', k1, k2.congr hsh rfl rfl⟩
        · exact h2.elim
      · exact h.elim
end Go.Proofs.Ytdecnnhcbjhfgaa.Am
