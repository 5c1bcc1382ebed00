/- The plain machine: a region, in whatever order its operations are carried out. -/
import Derived.Test.YtkclhekkcffpoaaB15
import Derived.Test.YtkclhekkcffpoaaReg
namespace Go.Proofs.Ytkclhekkcffpoaa.Am
set_option linter.unusedSimpArgs false
set_option linter.unusedVariables false
open Go Go.RowKit

variable {P : Program} {w0 : World} {S A : Nat → Prop} {N : Nat} {ρ : Id → Pl} {t : List (Nat × D)} {h h' : HL} {a : Act} {w : World}

def guardB (ops : Array Oper) (t : List (Nat × D)) (o : Oper) : Option Bool :=
  match o.guard with
  | none => some true
  | some (g, want) => (match (ops[g]?).bind (·.dst) with
    | some k => (match look t k with
      | some (.bool b) => some (b == want)
      | some (.tup []) => some false
      | _ => none)
    | none => none)

theorem Sim.guard (s : Sim P w0 S A N ρ t h a w) {ops : Array Oper} {o : Oper} {b : Bool} (hg : guardB ops t o = some b) : Region.wanted o (yielded ops a.tmps) = b := by
  unfold guardB at hg
  unfold Region.wanted yielded
  split at hg
  · rename_i e
    simp only [Option.some.injEq] at hg
    rw [e, ← hg]
  · rename_i g want e
    rw [e]
    split at hg
    · rename_i k hk
      split at hg
      · rename_i bb hb
        simp only [Option.some.injEq] at hg
        obtain ⟨hlt, hc⟩ := s.tmp k _ hb
        have hv := hc.bool_inv
        have hlt' : k < a.tmps.size := by rw [s.size]; exact hlt
        have : a.tmps[k]? = some (.bool bb) := by
          rw [Array.getElem?_eq_getElem hlt']
          simpa [Array.getD_eq_getD_getElem?, hlt'] using hv
        simp only [hk, Option.bind_some, this]
        rw [← hg]
        cases bb <;> cases want <;> rfl
      · rename_i hb
        simp only [Option.some.injEq] at hg
        obtain ⟨hlt, hc⟩ := s.tmp k _ hb
        obtain ⟨vs, hv, -, -⟩ := hc.tup_inv
        have hlt' : k < a.tmps.size := by rw [s.size]; exact hlt
        have : a.tmps[k]? = some (.tuple vs) := by
          rw [Array.getElem?_eq_getElem hlt']
          simpa [Array.getD_eq_getD_getElem?, hlt'] using hv
        simp only [hk, Option.bind_some, this]
        rw [← hg]
        cases want <;> rfl
      · cases hg
    · cases hg

/-- a run in the order of the text -/
def TRun (P : Program) (ops : Array Oper) (N : Nat) (t : List (Nat × D)) (h : HL) (n : Nat) : List (Oper × Rc) → Prop
  | [] => True
  | (o, r) :: l => (r.n = n ∧ n ≤ r.n' ∧ (∀ x ∈ r.u, x.1.1 < r.n') ∧ (∀ d, o.dst = some d → d < N)) ∧
      ((guardB ops t o = some true ∧ OpS P N o t h r.d r.u r.f) ∨ (guardB ops t o = some false ∧ r.d = .tup [] ∧ r.u = [] ∧ r.f = [])) ∧
      TRun P ops N (putD o.dst r.d t) (puts r.u h) r.n' l

theorem stT_low (m : Nat → Bool) : ∀ (l : List (Oper × Rc)) (k : Nat) (t : List (Nat × D)), (∀ i, k ≤ i → m i = false) → stT m k l t = t
  | [], k, t, _ => rfl
  | (o, r) :: l, k, t, hm => by
    show stT m (k + 1) l (if m k = true then putD o.dst r.d t else t) = t
    rw [hm k (Nat.le_refl _)]
    exact stT_low m l (k + 1) t fun i hi => hm i (by omega)
theorem stH_low (m : Nat → Bool) : ∀ (l : List (Oper × Rc)) (k : Nat) (t : HL), (∀ i, k ≤ i → m i = false) → stH m k l t = t
  | [], k, t, _ => rfl
  | (o, r) :: l, k, t, hm => by
    show stH m (k + 1) l (if m k = true then puts r.u t else t) = t
    rw [hm k (Nat.le_refl _)]
    exact stH_low m l (k + 1) t fun i hi => hm i (by omega)

theorem TRun.at {ops : Array Oper} : ∀ {l : List (Oper × Rc)} {k n : Nat} {t : List (Nat × D)} {h : HL}, TRun P ops N t h n l → (∀ b : Id, n ≤ b.1 → look h b = none) → ∀ {j : Nat} {o : Oper} {r : Rc}, l[j]? = some (o, r) →
    ∃ tj hj, tj = stT (fun i => decide (i < k + j)) k l t ∧ hj = stH (fun i => decide (i < k + j)) k l h ∧ (∀ b : Id, r.n ≤ b.1 → look hj b = none) ∧ n ≤ r.n ∧ (r.n ≤ r.n' ∧ (∀ x ∈ r.u, x.1.1 < r.n') ∧ (∀ d, o.dst = some d → d < N)) ∧
      ((guardB ops tj o = some true ∧ OpS P N o tj hj r.d r.u r.f) ∨ (guardB ops tj o = some false ∧ r.d = .tup [] ∧ r.u = [] ∧ r.f = []))
  | [], _, _, _, _, _, _, j, o, r, hj => by simp at hj
  | (o0, r0) :: l, k, n, t, h, hT, hn, j, o, r, hj => by
    obtain ⟨⟨rfl, h1, h2, h3⟩, h4, h5⟩ := hT
    cases j with
    | zero =>
      simp only [List.getElem?_cons_zero, Option.some.injEq, Prod.mk.injEq] at hj
      obtain ⟨rfl, rfl⟩ := hj
      exact ⟨t, h, (stT_low _ _ _ _ fun i hi => by simp; omega).symm, (stH_low _ _ _ _ fun i hi => by simp; omega).symm, hn, Nat.le_refl _, ⟨h1, h2, h3⟩, h4⟩
    | succ j =>
      have hn' : ∀ b : Id, r0.n' ≤ b.1 → look (puts r0.u h) b = none := by
        intro b hb
        rw [look_puts_other _ _ _ fun x hx e => by have := h2 x hx; rw [e] at this; omega]
        exact hn b (by omega)
      obtain ⟨tj, hj', e1, e2, e3, e4, e5, e6⟩ := TRun.at (k := k + 1) h5 hn' (j := j) (o := o) (r := r) (by simpa using hj)
      refine ⟨tj, hj', ?_, ?_, e3, by omega, e5, e6⟩
      · rw [e1]
        show _ = stT _ (k + 1) l (if decide (k < k + (j + 1)) = true then putD o0.dst r0.d t else t)
        rw [if_pos (by simp)]
        congr 1
        funext i
        congr 1
        simp only [eq_iff_iff]
        omega
      · rw [e2]
        show _ = stH _ (k + 1) l (if decide (k < k + (j + 1)) = true then puts r0.u h else h)
        rw [if_pos (by simp)]
        congr 1
        funext i
        congr 1
        simp only [eq_iff_iff]
        omega

theorem puts_live : ∀ (u : HL) (h : HL) (b : Id), Live h b → Live (puts u h) b
  | [], h, b, hb => hb
  | x :: u, h, b, hb => puts_live u _ b hb.put
theorem stH_live (m : Nat → Bool) : ∀ (l : List (Oper × Rc)) (k : Nat) (h : HL) (b : Id), Live h b → Live (stH m k l h) b
  | [], k, h, b, hb => hb
  | (o, r) :: l, k, h, b, hb => by
    refine stH_live m l (k + 1) _ b ?_
    split
    · exact puts_live _ _ _ hb
    · exact hb

/-- what two operations that wait for neither do does not meet -/
def Conf (dep : Nat → List Nat) (L : List (Oper × Rc)) : Prop :=
  ∀ i j oi ri oj rj, i < j → L[i]? = some (oi, ri) → L[j]? = some (oj, rj) → (dep j).contains i = false →
    (∀ x ∈ ri.u, x.1.1 ∉ rj.f ∧ ∀ y ∈ rj.u, x.1.1 ≠ y.1.1) ∧ (∀ x ∈ rj.u, x.1.1 ∉ ri.f)

def msk (listed : Array Bool) (i : Nat) : Bool := listed.getD i false

theorem evalD_look {t t' : List (Nat × D)} {x : Operand} (h : ∀ k, x = .tmp k → look t k = look t' k) : evalD t x = evalD t' x := by
  cases x with
  | tmp k => exact h k rfl
  | _ => rfl

theorem looks_operand {ops : Array Oper} {o : Oper} {k : Nat} (hx : Operand.tmp k ∈ o.op.operands) : k ∈ o.looksAt ops :=
  List.mem_append_left _ (List.mem_filterMap.2 ⟨.tmp k, Array.mem_toList_iff.2 hx, rfl⟩)
theorem guardB_congr {ops : Array Oper} {o : Oper} {t t' : List (Nat × D)} (h : ∀ k ∈ o.looksAt ops, look t k = look t' k) : guardB ops t o = guardB ops t' o := by
  unfold guardB
  split
  · rfl
  · rename_i g want e
    split
    · rename_i k hk
      rw [h k (List.mem_append_right _ (by simp only [e]; rw [hk]; simp))]
    · rfl

set_option maxHeartbeats 1000000 in
theorem region_any {ops : Array Oper} {dep : Nat → List Nat} {Q : Exit → Act → World → Prop} {L : List (Oper × Rc)} {t0 : List (Nat × D)} {h0 : HL} {n0 : Nat} (hok : Reg.okB ops dep = true) (hL : L.map (·.1) = ops.toList)
    (hT : TRun P ops N t0 h0 n0 L) (hn : ∀ b : Id, n0 ≤ b.1 → look h0 b = none) (hC : Conf dep L) {ρ0 : Id → Pl} {L0 : Id → Prop} (hK : ∀ b, L0 b → Live h0 b)
    (hQ : ∀ ρ a w, (∀ b, L0 b → ρ b = ρ0 b) → Sim P w0 S A N ρ (stT (fun _ => true) 0 L t0) (stH (fun _ => true) 0 L h0) a w → Q .normal a w) :
    ∀ (fuel : Nat) (R : List Nat) (listed : Array Bool) (a : Act) (w : World) (ρ : Id → Pl), R.length ≤ fuel → listed.size = ops.size → (∀ i, i < ops.size → msk listed i = false → i ∈ R) →
      (∀ k o, ops[k]? = some o → msk listed k = true → ∀ e ∈ o.after, Region.binds .any e = true → msk listed e.on = true) →
      (∀ b, L0 b → ρ b = ρ0 b) → Sim P w0 S A N ρ (stT (msk listed) 0 L t0) (stH (msk listed) 0 L h0) a w → wpAny P .any ops Q fuel listed a w := by
  have hLg : ∀ i : Nat, (L[i]?).map (fun x : Oper × Rc => x.1) = ops[i]? := by
    intro i
    have := congrArg (fun l : List Oper => l[i]?) hL
    simpa using this
  have hLo : ∀ i o r, L[i]? = some (o, r) → ops[i]? = some o := fun i o r h => by rw [← hLg i, h]; rfl
  have hoL : ∀ i o, ops[i]? = some o → ∃ r, L[i]? = some (o, r) := fun i o h => by
    have e := hLg i
    rw [h] at e
    obtain ⟨⟨o', r⟩, h1, h2⟩ := Option.map_eq_some_iff.1 e
    simp only at h2
    subst h2
    exact ⟨r, h1⟩
  -- all is done
  have fin : ∀ (listed : Array Bool) (a : Act) (w : World) (ρ : Id → Pl), (∀ i, i < ops.size → msk listed i = true) → (∀ b, L0 b → ρ b = ρ0 b) → Sim P w0 S A N ρ (stT (msk listed) 0 L t0) (stH (msk listed) 0 L h0) a w → Q .normal a w := by
    intro listed a w ρ hall hρ s
    have hi : ∀ i o r, L[i]? = some (o, r) → msk listed (0 + i) ≠ (fun _ => true) (0 + i) → False := by
      intro i o r hl hne
      have := hLo i o r hl
      exact hne (by simpa using hall i (Array.getElem?_eq_some_iff.1 this).1)
    exact hQ ρ a w hρ (s.congr (fun x => (stT_mask L 0 t0 fun i o r hl hne => (hi i o r hl hne).elim).symm) fun b => (stH_mask L 0 h0 fun i o r hl hne => (hi i o r hl hne).elim).symm)
  -- nothing is ready: all is done
  have stuck : ∀ (listed : Array Bool), listed.size = ops.size → Region.ready .any ops listed = [] → ∀ i, i < ops.size → msk listed i = true := by
    intro listed hsz hr i
    induction i using Nat.strongRecOn with
    | _ i ih =>
      intro hi
      cases hm : msk listed i with
      | true => rfl
      | false =>
        exfalso
        have ho : ops[i]? = some ops[i] := Array.getElem?_eq_getElem hi
        have : i ∈ Region.ready .any ops listed := by
          refine List.mem_filter.2 ⟨List.mem_range.2 hi, ?_⟩
          have e1 : listed.getD i true = false := by
            have hi' : i < listed.size := by omega
            unfold msk at hm
            simp only [Array.getD_eq_getD_getElem?, Array.getElem?_eq_getElem hi', Option.getD_some] at hm ⊢
            exact hm
          rw [e1, ho]
          simp only [Option.map_some, Option.getD_some, Bool.not_false, Bool.true_and, Array.all_eq_true']
          intro e he
          cases hb : Region.binds .any e with
          | false => rfl
          | true =>
            have hlt := Reg.okB_back hok ho e he hb
            have := ih e.on hlt (by omega)
            simpa [msk] using this
        rw [hr] at this
        cases this
  -- who has been listed has all that it waits for
  have anc : ∀ (listed : Array Bool), (∀ k o, ops[k]? = some o → msk listed k = true → ∀ e ∈ o.after, Region.binds .any e = true → msk listed e.on = true) →
      ∀ k o, ops[k]? = some o → (∀ e ∈ o.after, Region.binds .any e = true → msk listed e.on = true) → ∀ j, (dep k).contains j = true → msk listed j = true := by
    intro listed hdc k
    induction k using Nat.strongRecOn with
    | _ k ih =>
      intro o ho hr j hj
      obtain ⟨e, he, hb, hc⟩ := Reg.okB_dep hok ho hj
      have h1 := hr e he hb
      rcases hc with rfl | hc
      · exact h1
      · have hlt := Reg.okB_back hok ho e he hb
        have hk := (Array.getElem?_eq_some_iff.1 ho).1
        have ho' : ops[e.on]? = some ops[e.on] := Array.getElem?_eq_getElem (by omega)
        exact ih e.on hlt _ ho' (hdc _ _ ho' h1) j (by simpa using hc)
  intro fuel
  induction fuel with
  | zero =>
    intro R listed a w ρ hR hsz hin hdc hρ s
    have hnil : R = [] := List.eq_nil_of_length_eq_zero (by omega)
    have hall : ∀ i, i < ops.size → msk listed i = true := fun i hi => by
      cases hm : msk listed i with
      | true => rfl
      | false => have := hin i hi hm; rw [hnil] at this; cases this
    refine ⟨?_, fin listed a w ρ hall hρ s⟩
    unfold Region.ready
    rw [List.filter_eq_nil_iff]
    intro i hi
    have hi' : i < listed.size := by have := List.mem_range.1 hi; omega
    have := hall i (List.mem_range.1 hi)
    unfold msk at this
    simp only [Array.getD_eq_getD_getElem?, Array.getElem?_eq_getElem hi', Option.getD_some] at this ⊢
    simp [this]
  | succ fuel ih =>
    intro R listed a w ρ hR hsz hin hdc hρ s
    refine ⟨fun hr => fin listed a w ρ (stuck listed hsz hr) hρ s, fun j hj => ?_⟩
    obtain ⟨hjr, hjc⟩ := List.mem_filter.1 hj
    have hjlt := List.mem_range.1 hjr
    have ho : ops[j]? = some ops[j] := Array.getElem?_eq_getElem hjlt
    generalize ops[j] = o at ho
    rw [ho] at hjc
    simp only [Option.map_some, Option.getD_some, Bool.and_eq_true, Array.all_eq_true'] at hjc
    obtain ⟨hjn, hja⟩ := hjc
    have hmj : msk listed j = false := by
      have hi' : j < listed.size := by omega
      unfold msk
      simp only [Array.getD_eq_getD_getElem?, Array.getElem?_eq_getElem hi', Option.getD_some] at hjn ⊢
      simpa using hjn
    have hwait : ∀ e ∈ o.after, Region.binds .any e = true → msk listed e.on = true := by
      intro e he hb
      have := hja e he
      rw [hb] at this
      simpa [msk] using this
    obtain ⟨r, hl⟩ := hoL j o ho
    obtain ⟨tj, hj', e1, e2, e3, _, ⟨e4, e5, e6⟩, e7⟩ := hT.at (k := 0) hn hl
    simp only [Nat.zero_add] at e1 e2
    -- where the masks differ
    have diff : ∀ i oi ri, L[i]? = some (oi, ri) → msk listed (0 + i) ≠ decide (0 + i < j) → i ≠ j ∧
        ((∀ d, oi.dst = some d → d ∉ o.looksAt ops ∧ o.dst ≠ some d) ∧ (∀ y ∈ ri.u, y.1.1 ∉ r.f ∧ ∀ x ∈ r.u, y.1.1 ≠ x.1.1)) := by
      intro i oi ri hi hne
      simp only [Nat.zero_add] at hne
      have hoi := hLo i oi ri hi
      by_cases hij : i < j
      · have hmi : msk listed i = false := by
          cases hm : msk listed i with
          | false => rfl
          | true => exact absurd (by simp [hm, hij]) hne
        refine ⟨by omega, ?_, ?_⟩
        · rcases Reg.okB_apart hok ho hoi hij with ⟨e, he, hb, hon⟩ | hap
          · have := hwait e he hb
            rw [hon, hmi] at this; cases this
          · have hsp := Oper.apart_spec hap
            exact fun d hd => ⟨hsp.1 d hd, hsp.2.1 d hd⟩
        · cases hdp : (dep j).contains i with
          | true => have := anc listed hdc j o ho hwait i hdp; rw [hmi] at this; cases this
          | false => exact fun y hy => (hC i j oi ri o r hij hi hl hdp).1 y hy
      · have hmi : msk listed i = true := by
          cases hm : msk listed i with
          | true => rfl
          | false => exact absurd (by simp [hm, hij]) hne
        have hne' : i ≠ j := by rintro rfl; rw [hmj] at hmi; cases hmi
        have hji : j < i := by omega
        refine ⟨hne', ?_, ?_⟩
        · rcases Reg.okB_apart hok hoi ho hji with ⟨e, he, hb, hon⟩ | hap
          · have := hdc i oi hoi hmi e he hb
            rw [hon, hmj] at this; cases this
          · have hsp := Oper.apart_spec hap
            exact fun d hd => ⟨hsp.2.2 d hd, fun he => hsp.2.1 d he hd⟩
        · cases hdp : (dep i).contains j with
          | true => have := anc listed hdc i oi hoi (hdc i oi hoi hmi) j hdp; rw [hmj] at this; cases this
          | false =>
            have hc := hC j i o r oi ri hji hl hi hdp
            exact fun y hy => ⟨hc.2 y hy, fun x hx he => (hc.1 x hx).2 y hy he.symm⟩
    have hTl : ∀ k ∈ o.looksAt ops, look (stT (msk listed) 0 L t0) k = look tj k := by
      intro k hk
      rw [e1]
      exact stT_mask L 0 t0 fun i oi ri hi hne hd => (((diff i oi ri hi hne).2.1 k hd).1) hk
    have hHf : ∀ b : Id, b.1 ∈ r.f → look (stH (msk listed) 0 L h0) b = look hj' b := by
      intro b hb
      rw [e2]
      refine stH_mask L 0 h0 fun i oi ri hi hne y hy he => ?_
      have := (diff i oi ri hi hne).2.2 y hy
      exact this.1 (he ▸ hb)
    have hgd : guardB ops (stT (msk listed) 0 L t0) o = guardB ops tj o := guardB_congr hTl
    -- what comes next
    have hmask : ∀ i, msk (listed.setIfInBounds j true) i = with' (msk listed) j i := by
      intro i
      have hj2 : j < listed.size := by omega
      unfold with' msk
      by_cases e : j = i
      · subst e; simp [Array.getD_eq_getD_getElem?, hj2]
      · have : (i == j) = false := by simp [Ne.symm e]
        rw [this, Bool.or_false]
        simp [Array.getD_eq_getD_getElem?, Array.getElem?_setIfInBounds_ne e]
    have hKl : ∀ b, L0 b → Live (stH (msk listed) 0 L h0) b := fun b hb => stH_live _ L 0 h0 b (hK b hb)
    have next : ∀ (ρ' : Id → Pl) (v : Value) (w' : World), Ext (stH (msk listed) 0 L h0) ρ ρ' → Sim P w0 S A N ρ' (putD o.dst r.d (stT (msk listed) 0 L t0)) (puts r.u (stH (msk listed) 0 L h0)) (a.put o.dst v) w' → wpAny P .any ops Q fuel (listed.setIfInBounds j true) (a.put o.dst v) w' := by
      intro ρ' v w' hex s'
      refine ih (R.erase j) _ _ _ ρ' ?_ (by simpa using hsz) ?_ ?_ (fun b hb => (hex b (hKl b hb)).trans (hρ b hb)) ?_
      · rw [List.length_erase_of_mem (hin j hjlt hmj)]; omega
      · intro i hi hm
        rw [hmask] at hm
        simp only [with', Bool.or_eq_false_iff, beq_eq_false_iff_ne] at hm
        exact (List.mem_erase_of_ne hm.2).2 (hin i hi hm.1)
      · intro k o' ho' hm e he hb
        rw [hmask] at hm ⊢
        simp only [with', Bool.or_eq_true, beq_iff_eq] at hm ⊢
        rcases hm with hm | rfl
        · exact .inl (hdc k o' ho' hm e he hb)
        · rw [ho] at ho'
          obtain rfl := Option.some.inj ho'
          exact .inl (hwait e he hb)
      · have hfun : msk (listed.setIfInBounds j true) = with' (msk listed) j := funext hmask
        rw [hfun]
        refine s'.congr (fun x => stT_add hmj L 0 t0 (Nat.zero_le _) (by simpa using hl) (fun i oi ri hi hlt hm x hx hd => ?_) x) (fun b => stH_add hmj L 0 h0 (Nat.zero_le _) (by simpa using hl) (fun i oi ri hi hlt hm x hx y hy he => ?_) b)
        · have hd' := diff i oi ri hi (by rw [hm]; simp; omega)
          exact (hd'.2.1 x hd).2 hx
        · have hd' := diff i oi ri hi (by rw [hm]; simp; omega)
          exact (hd'.2.2 y hy).2 x hx (congrArg Prod.fst he.symm)
    unfold wpOp
    rw [ho]
    simp only
    rcases e7 with ⟨g1, g2⟩ | ⟨g1, g2, g3, g4⟩
    · rw [s.guard (hgd.trans g1)]
      simp only [if_true]
      left
      have hw := g2 (stT (msk listed) 0 L t0) (stH (msk listed) 0 L h0) (fun x hx => (evalD_look fun k hk => hTl k (looks_operand (by rw [← hk]; exact hx))).symm) (fun b hb => (hHf b hb).symm) w0 S A ρ a w s
      refine Reg.wp_exit_mono (K := Done P w0 S A N ρ (stT (msk listed) 0 L t0) (stH (msk listed) 0 L h0) (puts r.u (stH (msk listed) 0 L h0)) a o.dst r.d) ?_ hw
      rintro a' w' ⟨v, ρ', rfl, hex, h1, h2⟩
      exact next ρ' v w' hex (h1.putO e6 h2)
    · rw [s.guard (hgd.trans g1)]
      simp only [Bool.false_eq_true, if_false]
      refine next ρ undef w (Ext.refl _ _) ?_
      rw [g2, g3]
      exact s.putO e6 (.tup [] #[] rfl fun i hi => absurd hi (Nat.not_lt_zero i))
end Go.Proofs.Ytkclhekkcffpoaa.Am
