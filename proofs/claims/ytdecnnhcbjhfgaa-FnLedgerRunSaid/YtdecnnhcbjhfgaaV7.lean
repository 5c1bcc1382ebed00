/- The plain machine with types: control. -/
import Derived.Test.YtdecnnhcbjhfgaaV6
namespace Go.Proofs.Ytdecnnhcbjhfgaa.Am
set_option linter.unusedSimpArgs false
set_option linter.unusedVariables false
open Go Go.RowKit

variable {P : Program} {N K : Nat}

/-- From σ the code comes to an exit and a state as Q says. -/
def At (P : Program) (N K : Nat) (c : Code) (Q : Exit → VSt → Prop) (σ : VSt) : Prop := ∃ e σ', Brings P N K c σ.toD e σ'.toD ∧ (RealS P N K σ'.toD → Q e σ')

theorem brings_unreal {c : Code} {σ : St} (h : ¬ RealS P N K σ) (e : Exit) (σ' : St) : Brings P N K c σ e σ' := fun w0 S A ρ0 a w hs => absurd ⟨w0, S, A, ρ0, a, w, hs⟩ h

variable {Q : Exit → VSt → Prop} {σ : VSt}

theorem At.real {c : Code} (h : RealS P N K σ.toD → At P N K c Q σ) : At P N K c Q σ := by
  rcases Classical.em (RealS P N K σ.toD) with hr | hr
  · exact h hr
  · exact ⟨.normal, σ, brings_unreal hr _ _, fun h => absurd h hr⟩
theorem At.mono {c : Code} {Q' : Exit → VSt → Prop} (h : At P N K c Q σ) (hq : ∀ e σ, Q e σ → Q' e σ) : At P N K c Q' σ := by
  obtain ⟨e, σ', h1, h2⟩ := h
  exact ⟨e, σ', h1, fun hr => hq _ _ (h2 hr)⟩

def thenQ (next : VSt → Prop) (Q : Exit → VSt → Prop) : Exit → VSt → Prop
  | .normal, σ => next σ
  | e, σ => Q e σ
theorem then_n {next : VSt → Prop} (h : next σ) : thenQ next Q .normal σ := h
theorem then_x {next : VSt → Prop} {id : Nat} (h : Q (.exit id) σ) : thenQ next Q (.exit id) σ := h
theorem then_r {next : VSt → Prop} (h : Q .ret σ) : thenQ next Q .ret σ := h
def blockQ (id : Nat) (Q : Exit → VSt → Prop) : Exit → VSt → Prop
  | .exit id', σ => bif Nat.beq id' id then Q .normal σ else Q (.exit id') σ
  | e, σ => Q e σ
theorem block_n {id : Nat} (h : Q .normal σ) : blockQ id Q .normal σ := h
theorem block_r {id : Nat} (h : Q .ret σ) : blockQ id Q .ret σ := h
theorem block_e {id : Nat} (h : Q .normal σ) : blockQ id Q (.exit id) σ := by simp only [blockQ, Nat.beq_refl, cond_true]; exact h
theorem block_x {id id' : Nat} (hne : Nat.beq id' id = false) (h : Q (.exit id') σ) : blockQ id Q (.exit id') σ := by simp only [blockQ, hne, cond_false]; exact h

theorem at_skip (h : Q .normal σ) : At P N K .skip Q σ := ⟨.normal, σ, .skip, fun _ => h⟩
theorem at_ret (h : Q .ret σ) : At P N K .ret Q σ := ⟨.ret, σ, .ret, fun _ => h⟩
theorem at_exit {id : Nat} (h : Q (.exit id) σ) : At P N K (.exit id) Q σ := ⟨.exit id, σ, .exit, fun _ => h⟩
theorem at_seq {x y : Code} (h : At P N K x (thenQ (At P N K y Q) Q) σ) : At P N K (.seq x y) Q σ := by
  obtain ⟨e, σ1, h1, h2⟩ := h
  rcases Classical.em (RealS P N K σ1.toD) with hr | hr
  · cases e with
    | normal =>
      obtain ⟨e2, σ2, h3, h4⟩ := h2 hr
      exact ⟨e2, σ2, .seqN h1 h3, h4⟩
    | _ => exact ⟨_, σ1, .seqX (by simp) h1, fun hr => h2 hr⟩
  · cases e with
    | normal => exact ⟨.normal, σ1, .seqN h1 (brings_unreal hr _ _), fun h => absurd h hr⟩
    | _ => exact ⟨_, σ1, .seqX (by simp) h1, fun h => absurd h hr⟩
theorem at_block {id : Nat} {c : Code} (h : At P N K c (blockQ id Q) σ) : At P N K (.block id c) Q σ := by
  obtain ⟨e, σ1, h1, h2⟩ := h
  cases e with
  | exit id' =>
    by_cases hid : id' = id
    · subst hid
      exact ⟨.normal, σ1, .blockE h1, fun hr => by have := h2 hr; simpa only [blockQ, Nat.beq_refl, cond_true] using this⟩
    · refine ⟨.exit id', σ1, .blockX (by simp [hid]) h1, fun hr => ?_⟩
      have hb : Nat.beq id' id = false := by
        cases hb : Nat.beq id' id with
        | false => rfl
        | true => exact absurd (Nat.eq_of_beq_eq_true hb) hid
      have := h2 hr
      simpa only [blockQ, hb, cond_false] using this
  | _ => exact ⟨_, σ1, .blockX (by simp) h1, h2⟩
/-- a condition in a temporary -/
def condK (c : Operand) (σ : VSt) (A B : VSt → Prop) : Prop :=
  match c, σ with
  | .tmp s, ⟨t, h, n⟩ => lookK t s fun v => (match v with
    | .tt => A ⟨t, h, n⟩
    | .ff => B ⟨t, h, n⟩
    | .bool b => Cnd b (A ⟨(s, .tt) :: t, h, n⟩) (B ⟨(s, .ff) :: t, h, n⟩)
    | _ => False)
  | .const (.bool true), σ => A σ
  | .const (.bool false), σ => B σ
  | _, _ => False
theorem SimS.congr {w0 : World} {S A : Nat → Prop} {ρ0 : Nat → Pl} {a : Act} {w : World} {σ σ' : St} (h : SimS P w0 S A N ρ0 K σ a w) (ht : ∀ x, look σ'.t x = look σ.t x) (hh : ∀ x, look σ'.h x = look σ.h x) (hn : σ'.n = σ.n) : SimS P w0 S A N ρ0 K σ' a w := by
  obtain ⟨h1, h2, ρ, h3, h4⟩ := h
  refine ⟨fun b hb => by rw [hh]; exact h1 b (by omega), fun b hb => ?_, ρ, h3, h4.congr ht hh⟩
  have := h2 b hb
  unfold Live at this ⊢
  rw [hh]
  exact this
theorem weak_shadow {s : Nat} {v v' : V} (h : look σ.t s = some v) (he : v'.toD = v.toD) : Weak P N K σ.toD (VSt.toD ⟨(s, v') :: σ.t, σ.h, σ.n⟩) :=
  fun _ _ _ _ _ _ hs => hs.congr (fun x => look_shadow h he x) (fun _ => rfl) rfl
theorem at_cond {c : Operand} {x y : Code} (h : condK c σ (At P N K x Q) (At P N K y Q)) : At P N K (.cond c x y) Q σ := by
  unfold condK at h
  split at h
  · rename_i s st sh sn
    obtain ⟨v, h1, h2⟩ := lookK_ok h
    split at h2
    · obtain ⟨e, σ1, h3, h4⟩ := h2
      exact ⟨e, σ1, .condT (by simp only [evalD, VSt.toD, look_toT, h1, Option.map_some, V.toD]) h3, h4⟩
    · obtain ⟨e, σ1, h3, h4⟩ := h2
      exact ⟨e, σ1, .condF (by simp only [evalD, VSt.toD, look_toT, h1, Option.map_some, V.toD]) h3, h4⟩
    · rename_i b
      have hev : evalD (VSt.toD ⟨st, sh, sn⟩).t (.tmp s) = some (.bool b) := by simp only [evalD, VSt.toD, look_toT, h1, Option.map_some, V.toD]
      cases b with
      | true =>
        obtain ⟨e, σ1, h3, h4⟩ := h2.1 rfl
        exact ⟨e, σ1, .condT hev (.pre (weak_shadow (σ := ⟨st, sh, sn⟩) h1 rfl) h3), h4⟩
      | false =>
        obtain ⟨e, σ1, h3, h4⟩ := h2.2 rfl
        exact ⟨e, σ1, .condF hev (.pre (weak_shadow (σ := ⟨st, sh, sn⟩) h1 rfl) h3), h4⟩
    · exact h2.elim
  · obtain ⟨e, σ1, h3, h4⟩ := h
    exact ⟨e, σ1, .condT rfl h3, h4⟩
  · obtain ⟨e, σ1, h3, h4⟩ := h
    exact ⟨e, σ1, .condF rfl h3, h4⟩
  · exact h.elim

/-! ### regions -/
theorem at_regS {Θ : TT} (hΘ : Θ.ok P) {id : Nat} {ops : Array Oper} (h : vops P Θ ops (fun _ => []) false N ops.toList 0 [] σ (Q .normal)) : At P N K (.region id ops false) Q σ := by
  obtain ⟨σ', h1, h2⟩ := vops_ok hΘ h
  obtain ⟨L, l1, l2, l3, l4, l5, _⟩ := h2 [] fun h => by cases h
  exact ⟨.normal, σ', .regionS l1 l2 l3 l4 l5, fun _ => h1⟩
/-- what an operation waits for, as a mask -/
def aftM (o : Oper) : Nat := o.after.toList.foldl (fun m e => bif Region.binds .any e then m ||| (1 <<< e.on) else m) 0
def ancM (ops : List Oper) : Nat → Nat → Nat
  | 0, m => m
  | j + 1, m => match m.testBit j with
    | true => ancM ops j (m ||| (match ops[j]? with | some o => aftM o | none => 0))
    | false => ancM ops j m
def depV (ops : Array Oper) (k : Nat) : List Nat :=
  match ops.toList[k]? with
  | some o => (List.range k).filter fun i => (ancM ops.toList k (aftM o)).testBit i
  | none => []
theorem at_regD {Θ : TT} (hΘ : Θ.ok P) (hm : P.follows .mixedOrders = true) {id : Nat} {ops : Array Oper} (hok : Reg.okB ops (depV ops) = true) (h : vops P Θ ops (depV ops) true N ops.toList 0 [] σ (Q .normal)) : At P N K (.region id ops true) Q σ := by
  obtain ⟨σ', h1, h2⟩ := vops_ok hΘ h
  obtain ⟨L, l1, l2, l3, l4, l5, l6⟩ := h2 [] fun _ => ⟨rfl, fun i o r hi => by simp at hi⟩
  refine ⟨.normal, σ', .regionD (depV ops) hm hok l1 l2 ?_ l3 l4 l5, fun _ => h1⟩
  intro i j oi ri oj rj hij hi hj hdp
  exact l6 rfl i j oi ri oj rj (by omega) (by simpa using hi) hj (by simpa using hdp)

/-! ### what is forgotten -/
mutual
def allIdsV : V → List Nat
  | .ref b => [b]
  | .ptr b _ => [b]
  | .eptr b _ _ => [b]
  | .vref b _ _ => [b]
  | .aptr b _ _ => [b]
  | .agg cs => allIdsVs cs
  | .tup cs => allIdsVs cs
  | _ => []
def allIdsVs : List V → List Nat
  | [] => []
  | v :: l => allIdsV v ++ allIdsVs l
end
mutual
theorem allIdsV_ok : ∀ v : V, allIds v.toD = allIdsV v
  | .lst .. | .box .. | .iptr .. | .int .. | .bool _ | .tt | .ff | .str _ | .nilp | .nils | .ref _ | .ptr .. | .eptr .. | .vref .. | .aptr .. | .undef => rfl
  | .agg cs => by simp only [V.toD, allIds, allIdsV, allIdsVs_ok cs]
  | .tup cs => by simp only [V.toD, allIds, allIdsV, allIdsVs_ok cs]
theorem allIdsVs_ok : ∀ l : List V, allIdsL (toDL l) = allIdsVs l
  | [] => rfl
  | v :: l => by simp only [toDL, allIdsL, allIdsVs, allIdsV_ok v, allIdsVs_ok l]
end
mutual
def nrmK (h : VH) (v : V) (K : V → Prop) : Prop :=
  match v with
  | .ref b => (match lookO h b with
    | some (.froz t xs) => K (.lst t xs)
    | _ => K (.ref b))
  | .agg cs => nrmsK h cs fun cs => K (.agg cs)
  | .tup cs => nrmsK h cs fun cs => K (.tup cs)
  | .vref b o n => K (.vref b o n)
  | .ptr b o => K (.ptr b o)
  | .eptr b i o => K (.eptr b i o)
  | .aptr b p i => K (.aptr b p i)
  | .int k n => K (.int k n)
  | .bool b => K (.bool b)
  | .tt => K (.bool true)
  | .ff => K (.bool false)
  | .str s => K (.str s)
  | .lst t xs => K (.lst t xs)
  | .box t x => K (.box t x)
  | .nilp => K .nilp
  | .nils => K .nils
  | .iptr t x o => K (.iptr t x o)
  | .undef => K .undef
def nrmsK (h : VH) (l : List V) (K : List V → Prop) : Prop :=
  match l with
  | [] => K []
  | v :: l => nrmK h v fun v => nrmsK h l fun l => K (v :: l)
end
mutual
theorem nrmK_ok {h : VH} : ∀ {v : V} {K : V → Prop}, nrmK h v K → ∃ r, nrm (toH h) v.toD = r.toD ∧ K r
  | .ref b, K, hk => by
    simp only [nrmK, lookO_ok] at hk
    split at hk
    · rename_i t xs e
      exact ⟨_, by simp only [V.toD, nrm, nrm0, look_toH, e, Option.map_some, VB.toD], hk⟩
    · rename_i hne
      refine ⟨_, ?_, hk⟩
      simp only [V.toD, nrm, nrm0, look_toH]
      split
      · rename_i l e
        cases hl : look h b with
        | none => rw [hl] at e; cases e
        | some x =>
          rw [hl] at e
          cases x with
          | froz t xs => exact absurd hl (hne t xs)
          | _ => simp [VB.toD] at e
      · rfl
  | .agg cs, K, hk => by
    simp only [nrmK] at hk
    obtain ⟨r, h1, h2⟩ := nrmsK_ok hk
    exact ⟨_, by simp only [V.toD, nrm, h1], h2⟩
  | .tup cs, K, hk => by
    simp only [nrmK] at hk
    obtain ⟨r, h1, h2⟩ := nrmsK_ok hk
    exact ⟨_, by simp only [V.toD, nrm, h1], h2⟩
  | .vref b o n, K, hk => ⟨_, rfl, by simpa only [nrmK] using hk⟩
  | .ptr b o, K, hk => ⟨_, rfl, by simpa only [nrmK] using hk⟩
  | .eptr b i o, K, hk => ⟨_, rfl, by simpa only [nrmK] using hk⟩
  | .aptr b p i, K, hk => ⟨_, rfl, by simpa only [nrmK] using hk⟩
  | .int k n, K, hk => ⟨_, rfl, by simpa only [nrmK] using hk⟩
  | .bool b, K, hk => ⟨_, rfl, by simpa only [nrmK] using hk⟩
  | .tt, K, hk => ⟨.bool true, rfl, by simpa only [nrmK] using hk⟩
  | .ff, K, hk => ⟨.bool false, rfl, by simpa only [nrmK] using hk⟩
  | .str s, K, hk => ⟨_, rfl, by simpa only [nrmK] using hk⟩
  | .lst t xs, K, hk => ⟨_, rfl, by simpa only [nrmK] using hk⟩
  | .box t x, K, hk => ⟨_, rfl, by simpa only [nrmK] using hk⟩
  | .nilp, K, hk => ⟨_, rfl, by simpa only [nrmK] using hk⟩
  | .nils, K, hk => ⟨_, rfl, by simpa only [nrmK] using hk⟩
  | .iptr t x o, K, hk => ⟨_, rfl, by simpa only [nrmK] using hk⟩
  | .undef, K, hk => ⟨_, rfl, by simpa only [nrmK] using hk⟩
theorem nrmsK_ok {h : VH} : ∀ {l : List V} {K : List V → Prop}, nrmsK h l K → ∃ r, nrmL (toH h) (toDL l) = toDL r ∧ K r
  | [], K, hk => ⟨[], rfl, by simpa only [nrmsK] using hk⟩
  | v :: l, K, hk => by
    simp only [nrmsK] at hk
    obtain ⟨v', h1, h2⟩ := nrmK_ok hk
    obtain ⟨l', h3, h4⟩ := nrmsK_ok h2
    exact ⟨v' :: l', by simp only [toDL, nrmL, h1, h3], h4⟩
end
def nrmBK (h : VH) (x : VB) (K : VB → Prop) : Prop :=
  match x with
  | .var T cs => nrmsK h cs fun cs => K (.var T cs)
  | .vari T pre m t xs post => Chk (t.sz == 1) (nrmsK h pre fun pre => nrmsK h post fun post => K (.vari T pre m t xs post))
  | .row E t xs => K (.row E t xs)
  | .froz t xs => K (.froz t xs)
  | .gone => K .gone
theorem nrmBK_ok {h : VH} {x : VB} {K : VB → Prop} (hk : nrmBK h x K) : ∃ y, nrmB (toH h) x.toD = y.toD ∧ K y := by
  unfold nrmBK at hk
  split at hk
  · obtain ⟨r, h1, h2⟩ := nrmsK_ok hk
    exact ⟨_, by simp only [VB.toD, nrmB, ← nrmL_eq, h1], h2⟩
  · rename_i T pre m t xs post
    obtain ⟨c, hk⟩ := hk.ok
    simp only [beq_iff_eq] at c
    obtain ⟨r, h1, h2⟩ := nrmsK_ok hk
    obtain ⟨r2, h3, h4⟩ := nrmsK_ok h2
    refine ⟨_, ?_, h4⟩
    rw [nrmL_eq] at h1 h3
    have e : (xs.map (encD t)).map (nrm (toH h)) = xs.map (encD t) := by
      rw [List.map_map]
      exact List.map_congr_left fun x _ => by cases t <;> first | rfl | cases c
    simp only [VB.toD, nrmB, List.map_append, h1, h3, e]
  · exact ⟨_, rfl, hk⟩
  · exact ⟨_, rfl, hk⟩
  · exact ⟨_, rfl, hk⟩
theorem enc_ids (t : Ty) (x : t.den) : allIds (encD t x) = [] := by cases t <;> rfl
def idsBV : VB → List Nat
  | .var _ cs => allIdsVs cs
  | .vari _ pre _ _ _ post => allIdsVs pre ++ allIdsVs post
  | _ => []
theorem allIdsL_eq : ∀ l : List D, l.flatMap allIds = allIdsL l
  | [] => rfl
  | d :: l => by simp only [List.flatMap_cons, allIdsL, allIdsL_eq l]
theorem idsBV_ok (x : VB) : idsOfB x.toD = idsBV x := by
  cases x with
  | var T cs => simp only [VB.toD, idsOfB, idsBV, allIdsL_eq, allIdsVs_ok]
  | vari T pre m t xs post =>
    have e : (xs.map (encD t)).flatMap allIds = [] := by
      rw [List.flatMap_eq_nil_iff]
      intro d hd
      obtain ⟨z, _, rfl⟩ := List.mem_map.1 hd
      exact enc_ids t z
    simp only [VB.toD, idsOfB, idsBV, List.flatMap_append, e, allIdsL_eq, allIdsVs_ok, List.append_nil]
  | _ => rfl
/-- blocks, all normal -/
def nrmHK (h0 : VH) : VH → (VH → Prop) → Prop
  | [], K => K []
  | (b, x) :: l, K => nrmBK h0 x fun y => nrmHK h0 l fun l => K ((b, y) :: l)
theorem nrmHK_ok {h0 : VH} : ∀ {l : VH} {K : VH → Prop}, nrmHK h0 l K → ∃ l', (toH l).map (fun p => (p.1, nrmB (toH h0) p.2)) = toH l' ∧ K l'
  | [], K, h => ⟨[], rfl, h⟩
  | (b, x) :: l, K, h => by
    obtain ⟨y, h1, h2⟩ := nrmBK_ok h
    obtain ⟨l', h3, h4⟩ := nrmHK_ok h2
    refine ⟨(b, y) :: l', ?_, h4⟩
    rw [show toH ((b, x) :: l) = (b, x.toD) :: toH l from rfl, List.map_cons, h3, h1]
    rfl
/-- the ids of the normal blocks -/
def idsN (hn : VH) (b : Nat) : List Nat := match look hn b with | some y => idsBV y | none => []
def reachV (hn : VH) : Nat → List Nat → List Nat
  | 0, bs => bs
  | n + 1, bs => reachV hn n (dedup (bs ++ bs.flatMap (idsN hn)))
theorem idsN_ok {h hn : VH} (e : (toH h).map (fun p => (p.1, nrmB (toH h) p.2)) = toH hn) (b : Nat) : (match look (toH h) b with | some x => idsOfB (nrmB (toH h) x) | none => []) = idsN hn b := by
  have h1 : (look (toH h) b).map (nrmB (toH h)) = (look hn b).map VB.toD := by rw [← look_toH, ← e, look_map]
  unfold idsN
  cases h2 : look (toH h) b with
  | none =>
    rw [h2] at h1
    cases h3 : look hn b with
    | none => rfl
    | some y => rw [h3] at h1; cases h1
  | some x =>
    rw [h2] at h1
    cases h3 : look hn b with
    | none => rw [h3] at h1; cases h1
    | some y =>
      rw [h3] at h1
      simp only [Option.map_some, Option.some.injEq] at h1
      simp only [h1, idsBV_ok]
theorem reachV_ok {h hn : VH} (e : (toH h).map (fun p => (p.1, nrmB (toH h) p.2)) = toH hn) : ∀ (n : Nat) (bs : List Nat), reach (toH h) n bs = reachV hn n bs
  | 0, bs => rfl
  | n + 1, bs => by
    simp only [reach, reachV, reachV_ok e n]
    congr 3
    exact congrArg (fun f => List.flatMap f bs) (funext fun b => idsN_ok e b)
/-- the kept blocks, in their order, under their new names -/
def keepK (hn : VH) (bs : List Nat) : List Nat → Nat → (VH → Prop) → Prop
  | [], _, K => K []
  | b :: l, i, K => lookK hn b fun x => renBK (fun c => bs.idxOf c) x fun y => natK i fun i => keepK hn bs l (i + 1) fun u => K ((i, y) :: u)
def closedV (K : Nat) (hn : VH) (bs : List Nat) : Bool := decide bs.Nodup && decide (bs.take K = List.range K) && bs.all fun b => (look hn b).isSome && (idsN hn b).all fun c => bs.contains c
theorem closedV_ok {h hn : VH} {K : Nat} {bs : List Nat} (e : (toH h).map (fun p => (p.1, nrmB (toH h) p.2)) = toH hn) (hc : closedV K hn bs = true) : closedB K (toH h) bs = true := by
  unfold closedV at hc
  unfold closedB
  simp only [Bool.and_eq_true, List.all_eq_true] at hc ⊢
  refine ⟨hc.1, fun b hb => ?_⟩
  have h2 := hc.2 b hb
  have h3 := idsN_ok e b
  have h1 : (look (toH h) b).map (nrmB (toH h)) = (look hn b).map VB.toD := by rw [← look_toH, ← e, look_map]
  cases hl : look (toH h) b with
  | none =>
    rw [hl] at h1
    cases h4 : look hn b with
    | none => rw [h4] at h2; simp at h2
    | some y => rw [h4] at h1; cases h1
  | some x =>
    rw [hl] at h3
    simp only at h3 ⊢
    rw [h3, List.all_eq_true]
    exact h2.2
theorem keepK_ok {h hn : VH} {bs : List Nat} (e : (toH h).map (fun p => (p.1, nrmB (toH h) p.2)) = toH hn) : ∀ {l : List Nat} {i : Nat} {K : VH → Prop}, keepK hn bs l i K → ∃ u, (((l.map fun b => match look (toH h) b with | some x => renB (fun c => bs.idxOf c) (nrmB (toH h) x) | none => .gone).zipIdx i).map fun x => (x.2, x.1)) = toH u ∧ K u
  | [], i, K, hk => ⟨[], rfl, hk⟩
  | b :: l, i, K, hk => by
    obtain ⟨x, h1, h2⟩ := lookK_ok hk
    obtain ⟨y, h3, h4⟩ := renBK_ok h2
    obtain ⟨u, h5, h6⟩ := keepK_ok e (natK_ok h4)
    refine ⟨(i, y) :: u, ?_, h6⟩
    have h7 : (look (toH h) b).map (nrmB (toH h)) = some x.toD := by rw [← look_map, e, look_toH, h1]; rfl
    obtain ⟨z, hz1, hz2⟩ := Option.map_eq_some_iff.1 h7
    simp only [List.map_cons, List.zipIdx_cons, hz1, hz2, h3, h5]
    rfl
/-- the temporaries that are kept -/
def keepTK (h : VH) (t : VT) : List Nat → (VT → Prop) → Prop
  | [], K => K []
  | k :: ts, K => (match look t k with
    | some v => nrmK h v fun v => keepTK h t ts fun r => K ((k, v) :: r)
    | none => keepTK h t ts K)
theorem keepTK_ok {h : VH} {t : VT} : ∀ {ts : List Nat} {K : VT → Prop}, keepTK h t ts K → ∃ r, ((keepT (toT t) ts).map fun x => (x.1, nrm (toH h) x.2)) = toT r ∧ K r
  | [], K, hk => ⟨[], rfl, hk⟩
  | k :: ts, K, hk => by
    unfold keepTK at hk
    cases hl : look t k with
    | none =>
      rw [hl] at hk
      obtain ⟨r, h1, h2⟩ := keepTK_ok hk
      refine ⟨r, ?_, h2⟩
      unfold keepT at h1 ⊢
      rw [List.filterMap_cons, look_toT, hl]
      exact h1
    | some v =>
      rw [hl] at hk
      obtain ⟨v', h1, h2⟩ := nrmK_ok hk
      obtain ⟨r, h3, h4⟩ := keepTK_ok h2
      refine ⟨(k, v') :: r, ?_, h4⟩
      unfold keepT at h3 ⊢
      rw [List.filterMap_cons, look_toT, hl]
      simp only [Option.map_some, List.map_cons, h1, h3]
      rfl
def renTK (g : Nat → Nat) : VT → (VT → Prop) → Prop
  | [], K => K []
  | (k, v) :: l, K => renK g v fun v => renTK g l fun l => K ((k, v) :: l)
theorem renTK_ok {g : Nat → Nat} : ∀ {l : VT} {K : VT → Prop}, renTK g l K → ∃ r, (toT l).map (fun x => (x.1, renD g x.2)) = toT r ∧ K r
  | [], K, h => ⟨[], rfl, h⟩
  | (k, v) :: l, K, h => by
    obtain ⟨v', h1, h2⟩ := renK_ok h
    obtain ⟨r, h3, h4⟩ := renTK_ok h2
    refine ⟨(k, v') :: r, ?_, h4⟩
    simp only [toT, List.map_cons, h1] at h3 ⊢
    rw [h3]
def idsT : VT → List Nat
  | [] => []
  | (_, v) :: l => allIdsV v ++ idsT l
theorem idsT_ok : ∀ t : VT, ((toT t).flatMap fun x => allIds x.2) = idsT t
  | [] => rfl
  | (k, v) :: l => by
    have := idsT_ok l
    simp only [toT, List.map_cons, List.flatMap_cons, idsT, allIdsV_ok] at this ⊢
    rw [this]
/-- only the temporaries ts are kept, and what they lead to, under new names -/
def gcK (K0 : Nat) (ts : List Nat) (σ : VSt) (K : VSt → Prop) : Prop :=
  match σ with
  | ⟨t0, h0, _⟩ => keepTK h0 t0 ts fun t => nrmHK h0 h0 fun hn => natsK (reachV hn 2 (dedup (List.range K0 ++ idsT t))) fun bs => Chk (closedV K0 hn bs && (idsT t).all fun b => bs.contains b) (renTK (fun c => bs.idxOf c) t fun t' => keepK hn bs bs 0 fun h' => natK bs.length fun n => K ⟨t', h', n⟩)
theorem gcK_ok {ts : List Nat} {K1 : VSt → Prop} (h : gcK K ts σ K1) : ∃ σ', Weak P N K σ.toD σ'.toD ∧ K1 σ' := by
  obtain ⟨t, t1, h1⟩ := keepTK_ok h
  obtain ⟨hn, e, h2⟩ := nrmHK_ok h1
  have h3 := natsK_ok h2
  obtain ⟨c, h4⟩ := h3.ok
  obtain ⟨t', t2, h5⟩ := renTK_ok h4
  obtain ⟨h', k1, h6⟩ := keepK_ok e h5
  have h7 := natK_ok h6
  simp only [Bool.and_eq_true, List.all_eq_true] at c
  refine ⟨_, gc_ok (ts := ts) ?_, h7⟩
  unfold gc
  simp only [VSt.toD, t1, idsT_ok, reachV_ok e]
  rw [if_pos]
  · have hk : keep (toH σ.h) (reachV hn 2 (dedup (List.range K ++ idsT t))) = toH h' := k1
    rw [t2, hk]
  · simp only [Bool.and_eq_true, List.all_eq_true]
    refine ⟨closedV_ok e c.1, fun x hx b hb => c.2 b ?_⟩
    rw [← idsT_ok]
    exact List.mem_flatMap.2 ⟨x, hx, hb⟩
end Go.Proofs.Ytdecnnhcbjhfgaa.Am
