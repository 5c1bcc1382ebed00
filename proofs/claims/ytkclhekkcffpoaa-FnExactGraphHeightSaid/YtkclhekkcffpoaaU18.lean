/- The plain machine with types: regions. -/
import Derived.Test.YtkclhekkcffpoaaU17
namespace Go.Proofs.Ytkclhekkcffpoaa.Am
set_option linter.unusedSimpArgs false
set_option linter.unusedVariables false
open Go Go.RowKit

variable {P : Program} {N : Nat}

def disj (a b : List Nat) : Bool := a.all fun x => !b.contains x
abbrev Fws := List (Nat × List Nat × List Nat)
def confB (dep : List Nat) (fws : Fws) (f ws : List Nat) : Bool :=
  fws.all fun x => (disj x.2.2 f && disj x.2.2 ws && disj ws x.2.1) || dep.contains x.1
def conf1 (fws : Fws) (f ws : List Nat) : Bool := fws.all fun x => disj x.2.2 f && disj x.2.2 ws && disj ws x.2.1
theorem conf1_ok {dep : List Nat} {fws : Fws} {f ws : List Nat} (h : conf1 fws f ws = true) : confB dep fws f ws = true := by
  unfold conf1 at h
  unfold confB
  rw [List.all_eq_true] at h ⊢
  intro x hx
  rw [h x hx]
  rfl
theorem conf_nil {dep : List Nat} {fws : Fws} : confB dep fws [] [] = true := by
  unfold confB
  rw [List.all_eq_true]
  intro x hx
  simp [disj]
/-- a fact that is reckoned elsewhere -/
def Mk (b : Bool) (K : Prop) : Prop := b = true ∧ K
def confK (dep : Unit → List Nat) (fws : Fws) (f ws : List Nat) (K : Prop) : Prop :=
  match conf1 fws f ws with
  | true => K
  | false => Mk (confB (dep ()) fws f ws) K
theorem confK_ok {dep : Unit → List Nat} {fws : Fws} {f ws : List Nat} {K : Prop} (h : confK dep fws f ws K) : confB (dep ()) fws f ws = true ∧ K := by
  unfold confK at h
  split at h
  · rename_i e; exact ⟨conf1_ok e, h⟩
  · exact h
def dstLt (N : Nat) (dst : Option Tmp) : Bool := match dst with | some d => Nat.blt d N | none => true

def putV (dst : Option Nat) (v : V) (t : VT) : VT := match dst with | some k => (k, v) :: t | none => t
theorem putV_ok (dst : Option Nat) (v : V) (t : VT) : toT (putV dst v t) = putD dst v.toD (toT t) := by cases dst <;> rfl
/-- how many names are new -/
def cntN (n : Nat) : VH → Nat
  | [] => 0
  | (x, _) :: u => bif Nat.ble n x then cntN n u + 1 else cntN n u
def putVK (dst : Option Nat) (v : V) (t : VT) (K : VT → Prop) : Prop := match dst with | some k => K ((k, v) :: t) | none => K t
theorem putVK_ok {dst : Option Nat} {v : V} {t : VT} {K : VT → Prop} (h : putVK dst v t K) : K (putV dst v t) := by cases dst <;> exact h
theorem addN_mem {l : List Nat} {b x : Nat} : x ∈ addN l b ↔ x ∈ l ∨ x = b := by
  unfold addN
  split
  · rename_i h
    refine ⟨.inl, fun h' => h'.elim id fun e => ?_⟩
    subst e
    simpa using h
  · simp
theorem addsN_mem : ∀ {bs l : List Nat} {x : Nat}, x ∈ addsN l bs ↔ x ∈ l ∨ x ∈ bs
  | [], l, x => by simp [addsN]
  | b :: bs, l, x => by
    simp only [addsN, addsN_mem, addN_mem, List.mem_cons]
    exact or_assoc
/-- a block that an operation leaves as it is, or not -/
def Unch (y x : VB) (A B : Prop) : Prop := (y = x ∧ A) ∨ B
def sameK (h : VH) : VH → (VH → List Nat → Prop) → Prop
  | [], K => K [] []
  | (k, x) :: u, K => match lookO h k with
    | some y => Unch y x (sameK h u fun r ds => K r (k :: ds)) (sameK h u fun r ds => K ((k, x) :: r) ds)
    | none => sameK h u fun r ds => K ((k, x) :: r) ds
def samesK (h u : VH) (K : VH → List Nat → Prop) : Prop := match nodupN (keysV u) with
  | true => sameK h u K
  | false => K u []
structure SameOK (h u u' : VH) (ds : List Nat) : Prop where
  sub : ∀ k ∈ keysV u', k ∈ keysV u
  out : ∀ k ∈ ds, k ∉ keysV u'
  rest : ∀ k ∈ keysV u, k ∉ ds → k ∈ keysV u'
  new : ∀ g : VH, ∀ k, k ∉ ds → look (puts u' g) k = look (puts u g) k
  old : ∀ g : VH, ∀ k ∈ ds, look (puts u g) k = look h k
theorem same_refl (h u : VH) : SameOK h u u [] := ⟨fun _ h => h, (by simp), fun _ h _ => h, fun _ _ _ => rfl, (by simp)⟩
theorem keysV_cons (k : Nat) (x : VB) (u : VH) : keysV ((k, x) :: u) = k :: keysV u := rfl
theorem keys_not {u : VH} {k : Nat} (h : k ∉ keysV u) : ∀ x ∈ u, x.1 ≠ k := fun x hx e => h (by rw [← keysV_ok]; exact List.mem_map.2 ⟨x, hx, e⟩)
theorem sameK_ok {h : VH} : ∀ {u : VH} {K : VH → List Nat → Prop}, (keysV u).Nodup → sameK h u K → ∃ u' ds, SameOK h u u' ds ∧ (∀ k ∈ ds, k ∈ keysV u) ∧ K u' ds
  | [], K, _, hk => ⟨[], [], same_refl h [], by simp, hk⟩
  | (k, x) :: u, K, hn, hk => by
    rw [keysV_cons, List.nodup_cons] at hn
    have keep : (sameK h u fun r ds => K ((k, x) :: r) ds) → ∃ u' ds, SameOK h ((k, x) :: u) u' ds ∧ (∀ j ∈ ds, j ∈ keysV ((k, x) :: u)) ∧ K u' ds := by
      intro hk
      obtain ⟨u', ds, s, hd, hk⟩ := sameK_ok hn.2 hk
      refine ⟨_, ds, ⟨fun j hj => ?_, fun j hj hc => ?_, fun j hj hne => ?_, fun g j hj => s.new _ j hj, fun g j hj => s.old _ j hj⟩, fun j hj => by rw [keysV_cons]; exact List.mem_cons_of_mem _ (hd j hj), hk⟩
      · rw [keysV_cons] at hj ⊢
        rcases List.mem_cons.1 hj with e | hj
        · rw [e]; exact List.mem_cons_self ..
        · exact List.mem_cons_of_mem _ (s.sub j hj)
      · rw [keysV_cons] at hc
        rcases List.mem_cons.1 hc with e | hc
        · exact hn.1 (e ▸ hd j hj)
        · exact s.out j hj hc
      · rw [keysV_cons] at hj ⊢
        rcases List.mem_cons.1 hj with e | hj
        · rw [e]; exact List.mem_cons_self ..
        · exact List.mem_cons_of_mem _ (s.rest j hj hne)
    simp only [sameK] at hk
    split at hk
    · rename_i y hy
      rw [lookO_ok] at hy
      rcases hk with ⟨e, hk⟩ | hk
      · subst e
        obtain ⟨u', ds, s, hd, hk⟩ := sameK_ok hn.2 hk
        refine ⟨u', k :: ds, ⟨fun j hj => by rw [keysV_cons]; exact List.mem_cons_of_mem _ (s.sub j hj), fun j hj hc => ?_, fun j hj hne => ?_, fun g j hj => ?_, fun g j hj => ?_⟩, fun j hj => ?_, hk⟩
        · rcases List.mem_cons.1 hj with e | hj
          · exact hn.1 (e ▸ s.sub j hc)
          · exact s.out j hj hc
        · rw [keysV_cons] at hj
          rcases List.mem_cons.1 hj with e | hj
          · exact absurd (e ▸ List.mem_cons_self ..) hne
          · exact s.rest j hj fun h => hne (List.mem_cons_of_mem _ h)
        · have hjk : j ≠ k := fun e => hj (e ▸ List.mem_cons_self ..)
          show _ = look (puts u (put k y g)) j
          rw [s.new g j fun h => hj (List.mem_cons_of_mem _ h)]
          exact look_puts_congr2 u j (by rw [look_put, if_neg hjk])
        · show look (puts u (put k y g)) j = _
          rcases List.mem_cons.1 hj with e | hj
          · subst e
            rw [look_puts_other _ _ _ (keys_not hn.1), look_put, if_pos rfl, hy]
          · exact s.old _ j hj
        · rw [keysV_cons]
          rcases List.mem_cons.1 hj with e | hj
          · rw [e]; exact List.mem_cons_self ..
          · exact List.mem_cons_of_mem _ (hd j hj)
      · exact keep hk
    · exact keep hk
theorem samesK_ok {h u : VH} {K : VH → List Nat → Prop} (hk : samesK h u K) : ∃ u' ds, SameOK h u u' ds ∧ K u' ds := by
  unfold samesK at hk
  split at hk
  · rename_i e
    obtain ⟨u', ds, s, _, hk⟩ := sameK_ok (nodupN_ok e) hk
    exact ⟨u', ds, s, hk⟩
  · exact ⟨u, [], same_refl h u, hk⟩
theorem look_filter {u : HL} {p : Id → Bool} : ∀ {g : HL} {b : Id}, p b = true → look (puts (u.filter fun x => p x.1) g) b = look (puts u g) b := by
  induction u with
  | nil => intro g b _; rfl
  | cons x u ih =>
    intro g b hp
    by_cases hx : p x.1 = true
    · rw [List.filter_cons_of_pos (by exact hx)]
      exact ih hp
    · rw [List.filter_cons_of_neg (by exact hx), ih hp]
      have hne : b ≠ x.1 := fun e => hx (e ▸ hp)
      exact look_puts_congr (u := u) (by rw [look_put, if_neg hne])
theorem StepOK.same {o : Oper} {t : VT} {h u u' : VH} {r : V} {gl ds : List Nat} (hs : StepOK P N o t h r u gl) (s : SameOK h u u' ds) : StepOK P N o t h r u' (gl ++ ds) := by
  obtain ⟨uu, hU, hS⟩ := hs
  have hin : ∀ b : Id, b.1 ∈ ds → look (toH (puts u h)) b = look (toH h) b := fun b hb => by rw [look_toH, look_toH, s.old h b.1 hb]
  have hout : ∀ (g : HL) (b : Id), b.1 ∈ ds → look (puts (uu.filter fun x => !ds.contains x.1.1) g) b = look g b := fun g b hb => look_puts_other _ _ _ fun x hx e => by
    have := (List.mem_filter.1 hx).2
    rw [e] at this
    simp [hb] at this
  have hnew : ∀ (g : HL) (b : Id), b.1 ∉ ds → look (puts (uu.filter fun x => !ds.contains x.1.1) g) b = look (puts uu g) b := fun g b hb => look_filter (p := fun b => !ds.contains b.1) (by simp [hb])
  refine ⟨uu.filter fun x => !ds.contains x.1.1, ⟨fun b => ?_, fun x hx => ?_⟩, fun f hf t' h' ht ha w0 S A ρ a w hsim => ?_⟩
  · by_cases hb : b.1 ∈ ds
    · rw [hout _ b hb, look_toH, look_toH, look_puts_other _ _ _ (keys_not (s.out _ hb))]
    · rw [hnew _ b hb, hU.1 b, look_toH, look_toH, s.new h b.1 hb]
  · obtain ⟨h1, h2⟩ := List.mem_filter.1 hx
    have h3 := hU.2 x h1
    rw [keysV_ok] at h3 ⊢
    exact s.rest _ h3 (by simpa using h2)
  · have hw := hS f (fun k hk => hf k (List.mem_append_left _ hk)) t' h' ht ha w0 S A ρ a w hsim
    refine Reg.wp_exit_mono (K := Done P w0 S A N ρ t' h' (puts uu h') a o.dst r.toD) ?_ hw
    rintro a' w' ⟨v, ρ', rfl, hex, q1, q2⟩
    have he : ∀ b : Id, look (puts (uu.filter fun x => !ds.contains x.1.1) h') b = look (puts uu h') b := by
      intro b
      by_cases hb : b.1 ∈ ds
      · have e1 : look (toH h) b = look h' b := ha b (hf _ (List.mem_append_right _ hb))
        rw [hout _ b hb, ← e1, ← hin b hb, ← hU.1 b]
        exact look_puts_congr e1
      · exact hnew _ b hb
    have hL : Live (puts (uu.filter fun x => !ds.contains x.1.1) h') = Live (puts uu h') := funext fun b => by simp only [Live, he]
    have hO : okOf A ρ' (puts (uu.filter fun x => !ds.contains x.1.1) h') w' = okOf A ρ' (puts uu h') w' := funext fun k => by simp only [okOf, he]
    refine ⟨v, ρ', rfl, hex, q1.congr (fun _ => rfl) he, ?_⟩
    rw [hL, hO]
    exact q2
/-- an operation that is carried out -/
def vrun (P : Program) (Θ : TT) (dep : Nat → List Nat) (chk : Bool) (N : Nat) (o : Oper) (k : Nat) (fws : Fws) (t : VT) (h : VH) (n : Nat) (K : Fws → VSt → Prop) : Prop :=
  Chk (dstLt N o.dst) (stepK P Θ o.op t h n fun d u gl => putVK o.dst d t fun t' => match u with
    | [] => (match chk with
      | false => K fws ⟨t', h, n⟩
      | true => natsK (addsN [] gl) fun f => (match f with
        | [] => K fws ⟨t', h, n⟩
        | f => confK (fun _ => dep k) fws f [] (K ((k, f, []) :: fws) ⟨t', h, n⟩)))
    | u => natK (n + cntN n u) fun n' => match chk with
      | false => Chk (ltV n' u) (putsK u h fun h' => K fws ⟨t', h', n'⟩)
      | true => samesK h u fun u ds => Chk (ltV n' u) (putsK u h fun h' => natsK (addsN [] (gl ++ ds)) fun f => natsK (keysV u) fun ws => confK (fun _ => dep k) fws f ws (K ((k, f, ws) :: fws) ⟨t', h', n'⟩)))
/-- one that is left out -/
def vskip (N : Nat) (o : Oper) (t : VT) (h : VH) (n : Nat) (K : VSt → Prop) : Prop := Chk (dstLt N o.dst) (putVK o.dst (.tup []) t fun t' => K ⟨t', h, n⟩)
/-- the operations of a region, in the order of the text -/
def vops (P : Program) (Θ : TT) (ops : Array Oper) (dep : Nat → List Nat) (chk : Bool) (N : Nat) : List Oper → Nat → Fws → VSt → (VSt → Prop) → Prop
  | [], _, _, σ, K => K σ
  | o :: l, k, fws, ⟨t, h, n⟩, K => match o.guard with
    | none => vrun P Θ dep chk N o k fws t h n fun fws' σ' => vops P Θ ops dep chk N l (k + 1) fws' σ' K
    | some (g, want) => (match (ops[g]?).bind (·.dst) with
      | some s => lookK t s fun v => (match v with
        | .tt => (match want with
            | true => vrun P Θ dep chk N o k fws t h n fun fws' σ' => vops P Θ ops dep chk N l (k + 1) fws' σ' K
            | false => vskip N o t h n fun σ' => vops P Θ ops dep chk N l (k + 1) fws σ' K)
        | .ff => (match want with
            | false => vrun P Θ dep chk N o k fws t h n fun fws' σ' => vops P Θ ops dep chk N l (k + 1) fws' σ' K
            | true => vskip N o t h n fun σ' => vops P Θ ops dep chk N l (k + 1) fws σ' K)
        | .bool b => Cnd b
          (match want with
            | true => vrun P Θ dep chk N o k fws ((s, .tt) :: t) h n fun fws' σ' => vops P Θ ops dep chk N l (k + 1) fws' σ' K
            | false => vskip N o ((s, .tt) :: t) h n fun σ' => vops P Θ ops dep chk N l (k + 1) fws σ' K)
          (match want with
            | false => vrun P Θ dep chk N o k fws ((s, .ff) :: t) h n fun fws' σ' => vops P Θ ops dep chk N l (k + 1) fws' σ' K
            | true => vskip N o ((s, .ff) :: t) h n fun σ' => vops P Θ ops dep chk N l (k + 1) fws σ' K)
        | .tup [] => vskip N o t h n fun σ' => vops P Θ ops dep chk N l (k + 1) fws σ' K
        | _ => False)
      | none => False)

/-! ### what it is good for -/
theorem OpS.congr {o : Oper} {t t' : List (Nat × D)} {h h' : HL} {d : D} {u : HL} {f : List Nat} (ht : ∀ x, look t x = look t' x) (hh : ∀ b, look h b = look h' b) (hd : OpS P N o t h d u f) : OpS P N o t' h' d u f :=
  fun t2 h2 e1 e2 => hd t2 h2 (fun x hx => (evalD_look fun k _ => ht k).trans (e1 x hx)) fun b hb => (hh b).trans (e2 b hb)
theorem TRun.congr {ops : Array Oper} : ∀ {L : List (Oper × Rc)} {t t' : List (Nat × D)} {h h' : HL} {n : Nat}, (∀ x, look t x = look t' x) → (∀ b, look h b = look h' b) → TRun P ops N t h n L → TRun P ops N t' h' n L
  | [], _, _, _, _, _, _, _, _ => trivial
  | (o, r) :: L, t, t', h, h', n, he, hh, ⟨h1, h2, h3⟩ => by
    refine ⟨h1, ?_, TRun.congr (fun x => ?_) (fun b => look_puts_congr (hh b)) h3⟩
    · have hg : guardB ops t o = guardB ops t' o := guardB_congr fun k _ => he k
      rcases h2 with ⟨g1, g2⟩ | ⟨g1, g2⟩
      · exact .inl ⟨hg ▸ g1, g2.congr he hh⟩
      · exact .inr ⟨hg ▸ g1, g2⟩
    · rw [look_putD, look_putD, he x]

/-- what has been looked at and written so far -/
def FwsOf (k : Nat) (pre : List (Oper × Rc)) (fws : Fws) : Prop :=
  pre.length = k ∧ ∀ i o r, pre[i]? = some (o, r) → (r.u ≠ [] ∨ r.f ≠ []) → ∃ f ws, (i, f, ws) ∈ fws ∧ (∀ x ∈ r.u, x.1.1 ∈ ws) ∧ ∀ x ∈ r.f, x ∈ f

theorem stT_shift : ∀ (k k' : Nat) (l : List (Oper × Rc)) (t : List (Nat × D)), stT (fun _ => true) k l t = stT (fun _ => true) k' l t
  | _, _, [], _ => rfl
  | k, k', (o, r) :: l, t => stT_shift (k + 1) (k' + 1) l _
theorem stH_shift : ∀ (k k' : Nat) (l : List (Oper × Rc)) (t : HL), stH (fun _ => true) k l t = stH (fun _ => true) k' l t
  | _, _, [], _ => rfl
  | k, k', (o, r) :: l, t => stH_shift (k + 1) (k' + 1) l _

def Fresh (σ : VSt) : Prop := ∀ c : Id, σ.n ≤ c.1 → look (toH σ.h) c = none
/-- The operations l, behind pre, bring σ to σ'. -/
def Runs (P : Program) (N : Nat) (ops : Array Oper) (dep : Nat → List Nat) (chk : Bool) (l : List Oper) (k : Nat) (fws : Fws) (σ σ' : VSt) : Prop :=
  ∀ pre : List (Oper × Rc), (chk = true → FwsOf k pre fws) → ∃ L : List (Oper × Rc), L.map (·.1) = l ∧ TRun P ops N (toT σ.t) (toH σ.h) σ.n L ∧
    (∀ x, look (toT σ'.t) x = look (stT (fun _ => true) 0 L (toT σ.t)) x) ∧ (∀ x, look (toH σ'.h) x = look (stH (fun _ => true) 0 L (toH σ.h)) x) ∧
    Fresh σ' ∧
    (chk = true → ∀ i j oi ri oj rj, i < k + j → (pre ++ L)[i]? = some (oi, ri) → L[j]? = some (oj, rj) → (dep (k + j)).contains i = false → (∀ x ∈ ri.u, x.1.1 ∉ rj.f ∧ ∀ y ∈ rj.u, x.1.1 ≠ y.1.1) ∧ (∀ x ∈ rj.u, x.1.1 ∉ ri.f))

variable {ops : Array Oper} {dep : Nat → List Nat} {chk : Bool}

theorem Runs.nil {k : Nat} {fws : Fws} {σ : VSt} (hn : Fresh σ) : Runs P N ops dep chk [] k fws σ σ := fun pre _ =>
  ⟨[], rfl, trivial, fun _ => rfl, fun _ => rfl, hn, fun _ i j oi ri oj rj _ _ hj => by simp at hj⟩
theorem Runs.congr {l : List Oper} {k : Nat} {fws : Fws} {σ τ σ' : VSt} (h : Runs P N ops dep chk l k fws τ σ') (ht : ∀ x, look (toT τ.t) x = look (toT σ.t) x) (hh : τ.h = σ.h) (hn : τ.n = σ.n) : Runs P N ops dep chk l k fws σ σ' := by
  intro pre hpre
  obtain ⟨L, h1, h2, h3, h4, h5, h6⟩ := h pre hpre
  rw [hh] at h2 h4
  rw [hn] at h2
  exact ⟨L, h1, h2.congr ht (fun _ => rfl), fun x => by rw [h3]; exact stT_start _ L 0 _ _ x (ht x), h4, h5, h6⟩

theorem disj_ok {a b : List Nat} (h : disj a b = true) : ∀ x ∈ a, x ∉ b := by
  intro x hx
  unfold disj at h
  rw [List.all_eq_true] at h
  simpa using h x hx

theorem Runs.step {o : Oper} {l : List Oper} {k : Nat} {fws : Fws} {σ σ' : VSt} {d : V} {u : VH} {gl : List Nat} {n' : Nat} (hg : guardB ops (toT σ.t) o = some true) (hd : dstLt N o.dst = true) (ha : StepOK P N o σ.t σ.h d u gl) (hn : σ.n ≤ n') (hu : ltV n' u = true)
    (hc : chk = true → confB (dep k) fws gl (keysV u) = true) {fws' : Fws} (hf : chk = true → fws' = (k, gl, keysV u) :: fws ∨ (fws' = fws ∧ gl = [] ∧ u = [])) (h : Runs P N ops dep chk l (k + 1) fws' ⟨putV o.dst d σ.t, puts u σ.h, n'⟩ σ') : Runs P N ops dep chk (o :: l) k fws σ σ' := by
  intro pre hpre
  obtain ⟨uu, hU, hS⟩ := ha
  have hS := hS gl fun k hk => hk
  let r : Rc := ⟨d.toD, uu, gl, σ.n, n'⟩
  have huk : ∀ x ∈ uu, x.1.1 ∈ keysV u := fun x hx => by rw [← keysV_ok]; exact hU.2 x hx
  obtain ⟨L, h1, h2, h3, h4, h5, h6⟩ := h (pre ++ [(o, r)]) (fun hchk => by
    obtain ⟨q1, q2⟩ := hpre hchk
    refine ⟨by simp [q1], fun i o' r' hi hne => ?_⟩
    have hmono : ∀ x ∈ fws, x ∈ fws' := by
      intro x hx
      rcases hf hchk with e | ⟨e, _⟩
      · rw [e]; exact List.mem_cons_of_mem _ hx
      · rw [e]; exact hx
    rcases Nat.lt_or_ge i pre.length with hlt | hge
    · rw [List.getElem?_append_left hlt] at hi
      obtain ⟨f, ws, a1, a2⟩ := q2 i o' r' hi hne
      exact ⟨f, ws, hmono _ a1, a2⟩
    · rw [List.getElem?_append_right hge] at hi
      have : i - pre.length = 0 := by
        have := (List.getElem?_eq_some_iff.1 hi).1
        simpa using this
      rw [this] at hi
      simp only [List.getElem?_cons_zero, Option.some.injEq, Prod.mk.injEq] at hi
      obtain ⟨rfl, rfl⟩ := hi
      have hik : i = k := by omega
      rcases hf hchk with e | ⟨_, e1, e2⟩
      · rw [hik, e]
        exact ⟨gl, keysV u, List.mem_cons_self .., huk, fun x hx => hx⟩
      · exfalso
        rcases hne with hne | hne
        · refine hne ?_
          show uu = []
          cases huu : uu with
          | nil => rfl
          | cons x l => have := huk x (by rw [huu]; exact List.mem_cons_self ..); rw [e2] at this; cases this
        · exact hne e1)
  have hdst : ∀ x, o.dst = some x → x < N := by
    intro x hx
    simpa [dstLt, hx, Nat.blt_eq] using hd
  rw [putV_ok] at h2
  have h2' := h2.congr (fun _ => rfl) (fun b => (hU.1 b).symm)
  refine ⟨(o, r) :: L, by simp [h1], ⟨⟨rfl, hn, fun x hx => ltV_ok hu _ (hU.2 x hx), hdst⟩, .inl ⟨hg, hS⟩, h2'⟩, fun x => (h3 x).trans ?_, fun x => (h4 x).trans ?_, h5, fun hchk i j oi ri oj rj hij hi hj hdp => ?_⟩
  · show look (stT _ 0 L (toT (putV o.dst d σ.t))) x = look (stT _ 1 L (if (fun _ => true) 0 = true then _ else _)) x
    simp only [if_true, putV_ok]
    rw [stT_shift 0 1]
  · show look (stH _ 0 L (toH (puts u σ.h))) x = look (stH _ 1 L (if (fun _ => true) 0 = true then _ else _)) x
    simp only [if_true]
    rw [stH_shift 0 1]
    exact stH_start _ L 1 _ _ x (hU.1 x).symm
  · cases j with
    | zero =>
      simp only [List.getElem?_cons_zero, Option.some.injEq, Prod.mk.injEq] at hj
      obtain ⟨rfl, rfl⟩ := hj
      obtain ⟨q1, q2⟩ := hpre hchk
      rw [List.getElem?_append_left (by omega)] at hi
      by_cases hne : ri.u ≠ [] ∨ ri.f ≠ []
      · obtain ⟨f0, ws0, hm, m1, m2⟩ := q2 i oi ri hi hne
        have hcf := hc hchk
        unfold confB at hcf
        rw [List.all_eq_true] at hcf
        have := hcf _ hm
        simp only [Nat.add_zero] at hdp
        simp only [hdp, Bool.or_false, Bool.and_eq_true] at this
        obtain ⟨⟨c1, c2⟩, c3⟩ := this
        exact ⟨fun x hx => ⟨disj_ok c1 _ (m1 x hx), fun y hy he => disj_ok c2 _ (m1 x hx) (he ▸ huk y hy)⟩, fun x hx hxf => disj_ok c3 _ (huk x hx) (m2 _ hxf)⟩
      · have e1 : ri.u = [] := by
          rcases Classical.em (ri.u = []) with h | h
          · exact h
          · exact absurd (.inl h) hne
        have e2 : ri.f = [] := by
          rcases Classical.em (ri.f = []) with h | h
          · exact h
          · exact absurd (.inr h) hne
        rw [e1, e2]
        exact ⟨fun x hx => (by cases hx), fun x hx h => (by cases h)⟩
    | succ j =>
      refine h6 hchk i j oi ri oj rj (by omega) (by simpa using hi) (by simpa using hj) (by rw [show k + 1 + j = k + (j + 1) by omega]; exact hdp)
theorem Runs.skip {o : Oper} {l : List Oper} {k : Nat} {fws : Fws} {σ σ' : VSt} (hg : guardB ops (toT σ.t) o = some false) (hd : dstLt N o.dst = true) (h : Runs P N ops dep chk l (k + 1) fws ⟨putV o.dst (.tup []) σ.t, σ.h, σ.n⟩ σ') : Runs P N ops dep chk (o :: l) k fws σ σ' := by
  intro pre hpre
  let r : Rc := ⟨.tup [], [], [], σ.n, σ.n⟩
  obtain ⟨L, h1, h2, h3, h4, h5, h6⟩ := h (pre ++ [(o, r)]) (fun hchk => by
    obtain ⟨q1, q2⟩ := hpre hchk
    refine ⟨by simp [q1], fun i o' r' hi hne => ?_⟩
    rcases Nat.lt_or_ge i pre.length with hlt | hge
    · rw [List.getElem?_append_left hlt] at hi
      exact q2 i o' r' hi hne
    · rw [List.getElem?_append_right hge] at hi
      have : i - pre.length = 0 := by
        have := (List.getElem?_eq_some_iff.1 hi).1
        simpa using this
      rw [this] at hi
      simp only [List.getElem?_cons_zero, Option.some.injEq, Prod.mk.injEq] at hi
      obtain ⟨rfl, rfl⟩ := hi
      simp [r] at hne)
  have hdst : ∀ x, o.dst = some x → x < N := by
    intro x hx
    simpa [dstLt, hx, Nat.blt_eq] using hd
  rw [putV_ok] at h2
  refine ⟨(o, r) :: L, by simp [h1], ⟨⟨rfl, Nat.le_refl _, by simp [r], hdst⟩, .inr ⟨hg, rfl, rfl, rfl⟩, h2⟩, fun x => (h3 x).trans ?_, fun x => (h4 x).trans ?_, h5, fun hchk i j oi ri oj rj hij hi hj hdp => ?_⟩
  · show look (stT _ 0 L (toT (putV o.dst (.tup []) σ.t))) x = look (stT _ 1 L (if (fun _ => true) 0 = true then _ else _)) x
    simp only [if_true, putV_ok]
    rw [stT_shift 0 1]
    rfl
  · show look (stH _ 0 L (toH σ.h)) x = look (stH _ 1 L (if (fun _ => true) 0 = true then _ else _)) x
    simp only [if_true]
    rw [stH_shift 0 1]
    rfl
  · cases j with
    | zero =>
      simp only [List.getElem?_cons_zero, Option.some.injEq, Prod.mk.injEq] at hj
      obtain ⟨rfl, rfl⟩ := hj
      refine ⟨fun x hx => ⟨by simp [r], by simp [r]⟩, by simp [r]⟩
    | succ j =>
      refine h6 hchk i j oi ri oj rj (by omega) (by simpa using hi) (by simpa using hj) (by rw [show k + 1 + j = k + (j + 1) by omega]; exact hdp)

theorem addsN_ok {gl : List Nat} {o : Oper} {t : VT} {h : VH} {r : V} {u : VH} (hs : StepOK P N o t h r u gl) : StepOK P N o t h r u (addsN [] gl) := step_mono hs fun k hk => addsN_mem.2 (.inr hk)
theorem vrun_ok {Θ : TT} (hΘ : Θ.ok P) {o : Oper} {k : Nat} {fws : Fws} {σ : VSt} (hfr : Fresh σ) {K : Fws → VSt → Prop} (h : vrun P Θ dep chk N o k fws σ.t σ.h σ.n K) :
    ∃ (d : V) (u : VH) (gl : List Nat) (n' : Nat) (fws' : Fws), dstLt N o.dst = true ∧ StepOK P N o σ.t σ.h d u gl ∧ σ.n ≤ n' ∧ ltV n' u = true ∧ (chk = true → confB (dep k) fws gl (keysV u) = true) ∧
      (chk = true → fws' = (k, gl, keysV u) :: fws ∨ (fws' = fws ∧ gl = [] ∧ u = [])) ∧ K fws' ⟨putV o.dst d σ.t, puts u σ.h, n'⟩ := by
  obtain ⟨hd, h1⟩ := Chk.ok h
  obtain ⟨d, u, gl, ha0, h2⟩ := stepK_ok (N := N) hΘ hfr h1
  have ha := addsN_ok ha0
  have h3 := putVK_ok h2
  split at h3
  · split at h3
    · exact ⟨d, [], _, σ.n, fws, hd, ha, Nat.le_refl _, rfl, fun hc => (by cases hc), fun hc => (by cases hc), h3⟩
    · have h4 := natsK_ok h3
      split at h4
      · rename_i e
        exact ⟨d, [], _, σ.n, fws, hd, ha, Nat.le_refl _, rfl, fun _ => by rw [e]; exact conf_nil, fun _ => .inr ⟨rfl, e, rfl⟩, h4⟩
      · obtain ⟨h5, h6⟩ := confK_ok h4
        exact ⟨d, [], _, σ.n, _, hd, ha, Nat.le_refl _, rfl, fun _ => h5, fun _ => .inl rfl, h6⟩
  · have h4 := natK_ok h3
    split at h4
    · obtain ⟨hl, h5⟩ := h4.ok
      have h6 := putsK_ok h5
      exact ⟨d, _, _, _, fws, hd, ha, Nat.le_add_right _ _, hl, fun hc => (by cases hc), fun hc => (by cases hc), h6⟩
    · obtain ⟨u', ds, s, h5⟩ := samesK_ok h4
      obtain ⟨hl, h5⟩ := h5.ok
      have h6 := putsK_ok h5
      have ha2 := addsN_ok (ha0.same s)
      obtain ⟨h7, h8⟩ := confK_ok (natsK_ok (natsK_ok h6))
      exact ⟨d, _, _, _, _, hd, ha2, Nat.le_add_right _ _, hl, fun _ => h7, fun _ => .inl rfl, h8⟩
theorem fresh_step {o : Oper} {t : VT} {h : VH} {n n' : Nat} {d : V} {u : VH} {gl : List Nat} (hn : ∀ c : Id, n ≤ c.1 → look (toH h) c = none) (hle : n ≤ n') (ha : StepOK P N o t h d u gl) (hu : ltV n' u = true) {t' : VT} : Fresh ⟨t', puts u h, n'⟩ := by
  obtain ⟨uu, hU, _⟩ := ha
  exact fresh_upd (n := n') (fun c hc => hn c (Nat.le_trans hle hc)) hU hu
theorem guardB_of {o : Oper} {t : VT} {g s : Nat} {want b : Bool} {v : V} (h1 : o.guard = some (g, want)) (h2 : (ops[g]?).bind (·.dst) = some s) (h3 : look t s = some v) (hv : v.toD = .bool b) : guardB ops (toT t) o = some (b == want) := by
  unfold guardB
  rw [h1]
  simp only [h2, look_toT, h3, Option.map_some, hv]
theorem look_shadow {t : VT} {s : Nat} {v v' : V} (h : look t s = some v) (he : v'.toD = v.toD) (x : Nat) : look (toT ((s, v') :: t)) x = look (toT t) x := by
  rw [look_toT, look_toT]
  show Option.map _ (if x = s then _ else _) = _
  split
  · rename_i e; subst e; rw [h]; simp [he]
  · rfl
theorem vops_ok {Θ : TT} (hΘ : Θ.ok P) : ∀ {l : List Oper} {k : Nat} {fws : Fws} {σ : VSt} {K : VSt → Prop}, Fresh σ → vops P Θ ops dep chk N l k fws σ K → ∃ σ', K σ' ∧ Runs P N ops dep chk l k fws σ σ'
  | [], k, fws, σ, K, hn, h => ⟨σ, h, Runs.nil hn⟩
  | o :: l, k, fws, σ, K, hn, h => by
    have run : ∀ σ : VSt, Fresh σ → guardB ops (toT σ.t) o = some true → (vrun P Θ dep chk N o k fws σ.t σ.h σ.n fun fws' σ' => vops P Θ ops dep chk N l (k + 1) fws' σ' K) → ∃ σ', K σ' ∧ Runs P N ops dep chk (o :: l) k fws σ σ' := by
      intro σ hn hg h
      obtain ⟨d, u, gl, n', fws', h1, h2, h3, h4, h5, h6, h7⟩ := vrun_ok hΘ hn h
      obtain ⟨σ', h9, h10⟩ := vops_ok hΘ (fresh_step hn h3 h2 h4) h7
      exact ⟨σ', h9, Runs.step hg h1 h2 h3 h4 h5 h6 h10⟩
    have skip : ∀ σ : VSt, Fresh σ → guardB ops (toT σ.t) o = some false → (vskip N o σ.t σ.h σ.n fun σ' => vops P Θ ops dep chk N l (k + 1) fws σ' K) → ∃ σ', K σ' ∧ Runs P N ops dep chk (o :: l) k fws σ σ' := by
      intro σ hn hg h
      obtain ⟨hd, h7⟩ := Chk.ok h
      have h7 := putVK_ok h7
      obtain ⟨σ', h8, h9⟩ := vops_ok (σ := ⟨putV o.dst (.tup []) σ.t, σ.h, σ.n⟩) hΘ hn h7
      exact ⟨σ', h8, Runs.skip hg hd h9⟩
    obtain ⟨st, sh, sn⟩ := σ
    unfold vops at h
    split at h
    · rename_i e
      exact run ⟨st, sh, sn⟩ hn (by unfold guardB; rw [e]) h
    · rename_i g want e
      split at h
      · rename_i s es
        obtain ⟨v, h1, h2⟩ := lookK_ok h
        split at h2
        · cases want with
          | true => exact run ⟨st, sh, sn⟩ hn (guardB_of e es (b := true) h1 rfl) h2
          | false => exact skip ⟨st, sh, sn⟩ hn (guardB_of e es (b := true) h1 rfl) h2
        · cases want with
          | true => exact skip ⟨st, sh, sn⟩ hn (guardB_of e es (b := false) h1 rfl) h2
          | false => exact run ⟨st, sh, sn⟩ hn (guardB_of e es (b := false) h1 rfl) h2
        · rename_i b
          cases b with
          | true =>
            have h3 := h2.1 rfl
            have hsh : ∀ x, look (toT ((s, .tt) :: st)) x = look (toT st) x := look_shadow h1 rfl
            cases want with
            | true =>
              obtain ⟨σ', k1, k2⟩ := run ⟨(s, .tt) :: st, sh, sn⟩ hn (guardB_of e es (b := true) (v := .tt) (by simp [look]) rfl) h3
              exact ⟨σ', k1, k2.congr hsh rfl rfl⟩
            | false =>
              obtain ⟨σ', k1, k2⟩ := skip ⟨(s, .tt) :: st, sh, sn⟩ hn (guardB_of e es (b := true) (v := .tt) (by simp [look]) rfl) h3
              exact ⟨σ', k1, k2.congr hsh rfl rfl⟩
          | false =>
            have h3 := h2.2 rfl
            have hsh : ∀ x, look (toT ((s, .ff) :: st)) x = look (toT st) x := look_shadow h1 rfl
            cases want with
            | true =>
              obtain ⟨σ', k1, k2⟩ := skip ⟨(s, .ff) :: st, sh, sn⟩ hn (guardB_of e es (b := false) (v := .ff) (by simp [look]) rfl) h3
              exact ⟨σ', k1, k2.congr hsh rfl rfl⟩
            | false =>
              obtain ⟨σ', k1, k2⟩ := run ⟨(s, .ff) :: st, sh, sn⟩ hn (guardB_of e es (b := false) (v := .ff) (by simp [look]) rfl) h3
              exact ⟨σ', k1, k2.congr hsh rfl rfl⟩
        · refine skip ⟨st, sh, sn⟩ hn ?_ h2
          unfold guardB
          rw [e]
          simp only [es, look_toT, h1, Option.map_some, V.toD, toDL]
        · exact h2.elim
      · exact h.elim
end Go.Proofs.Ytkclhekkcffpoaa.Am
