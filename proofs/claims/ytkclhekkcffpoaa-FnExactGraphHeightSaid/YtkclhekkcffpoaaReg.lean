/- A rule for a statement whose order is open (a region that draws its order): each operation is looked at once, in the order of the text, whatever order the run takes. Operations that change the world (calls, new blocks, stores) promise a value and a fact; all others read. -/
import Derived.Orders
import Derived.Deep.Quiet
import Derived.BigRegion
import Derived.Below
namespace Go.Proofs.Ytkclhekkcffpoaa.Reg
set_option linter.unusedSimpArgs false
set_option linter.unusedVariables false
open Go

/-- What an operation that changes the world promises: the values that it may yield (by a parameter), and what holds of the world then. -/
structure Eff (R : World → World → Prop) where
  ι : Type
  dflt : ι
  val : ι → Value
  /-- (a store's fact may name the address that it writes to) -/
  post : Value → ι → World → Prop
  keep : ∀ c i w w', R w w' → post c i w → post c i w'

/-- the address that a store writes to -/
def keyOf (o : Oper) (ev : Operand → Value) : Value := match o.op with | .store _ x _ => ev x | _ => undef

theorem keyOf_put {ops : Array Oper} (o : Oper) (a : Act) (dst : Option Tmp) (v : Value) (h : ∀ d, dst = some d → d ∉ o.looksAt ops) : keyOf o (a.put dst v).eval = keyOf o a.eval := by
  unfold keyOf
  split
  · rename_i x y ho
    exact Act.eval_put fun d hd hxd => h d hd (by
      subst hxd
      exact List.mem_append_left _ (List.mem_filterMap.2 ⟨.tmp d, by simp [ho, Op.operands], rfl⟩))
  · rfl

abbrev Known := List (Nat × (World → Prop))

def noExit : Exit → Act → World → Prop := fun _ _ _ => False

def pureUpon (w : World) (v : Value) : Result Next → Prop
  | .ok (.value u) w' => w' = w ∧ u = v
  | .ok .skip w' => w' = w ∧ undef = v
  | _ => False
attribute [go_sem] pureUpon

section
variable (P : Program) (ops : Array Oper) (B : World → Prop) (R : World → World → Prop) (dep : Nat → List Nat) (E : Nat → Option (Eff R))

def facts (kn : Known) (k : Nat) (w : World) : Prop := B w ∧ ∀ x ∈ kn, (dep k).contains x.1 = true → x.2 w

def effPost (o : Oper) (a : Act) (w : World) (f : Eff R) (a' : Act) (w' : World) : Prop := B w' ∧ R w w' ∧ ∃ i, a' = a.put o.dst (f.val i) ∧ f.post (keyOf o a.eval) i w'

def wpE (Q : Act → World → Prop) : List (Nat × Oper) → Act → Known → Prop
  | [], a, kn => ∀ w, B w → (∀ x ∈ kn, x.2 w) → Q a w
  | (k, o) :: rest, a, kn =>
    if Region.wanted o (yielded ops a.tmps) then
      match E k with
      | none => ∃ v, (∀ w, facts B dep kn k w → pureUpon w v ((execOp a.eval o).run P w)) ∧ wpE Q rest (a.put o.dst v) kn
      | some f => (∀ w, facts B dep kn k w → o.wp P a w (effPost B R o a w f) noExit) ∧ ∀ i, wpE Q rest (a.put o.dst (f.val i)) ((k, f.post (keyOf o a.eval) i) :: kn)
    else wpE Q rest (a.put o.dst undef) kn
end

section
variable {P : Program} {ops : Array Oper} {B : World → Prop} {R : World → World → Prop} {dep : Nat → List Nat} {E : Nat → Option (Eff R)}

/-- the frame matters to an operation through its operands alone -/
theorem wp_put {o : Oper} {a : Act} {d : Option Tmp} {u : Value} {w : World} (he : execOp (a.put d u).eval o = execOp a.eval o) {K : Act → World → Prop} {K' : Act → World → Prop}
    (hK : ∀ v w', K ((a.put d u).put o.dst v) w' → K' (a.put o.dst v) w') (hdef : ∀ x w', ¬ K ({ a.put d u with defers := x :: (a.put d u).defers }.put o.dst undef) w')
    (h : o.wp P (a.put d u) w K noExit) : o.wp P a w K' noExit := by
  unfold Oper.wp at *
  rw [he] at h
  generalize (execOp a.eval o).run P w = r at *
  cases r with
  | ok n w' =>
    cases n <;> simp only [Oper.upon] at h ⊢
    case value v => exact hK _ _ h
    case skip => exact hK _ _ h
    case defer x => exact (hdef _ _ h).elim
    case enter g args =>
      exact h.mono fun e w'' he => by
        cases e with
        | returned v => exact hK _ _ he
        | panicked c => exact he
        | outgrown => exact he
    case row row args => exact h.mono fun v w'' he => hK _ _ he
  | halt x w' => cases x <;> simp only [Oper.upon] at h ⊢ <;> exact h

theorem put_defers (a : Act) (d : Option Tmp) (v : Value) : (a.put d v).defers = a.defers := by cases d <;> rfl

theorem effPost_put {o : Oper} {a : Act} {d : Option Tmp} {u v : Value} {w w' : World} {f : Eff R} (hk : keyOf o (a.put d u).eval = keyOf o a.eval) (hd : ∀ x, d = some x → o.dst ≠ some x)
    (h : effPost B R o (a.put d u) w f ((a.put d u).put o.dst v) w') : effPost B R o a w f (a.put o.dst v) w' := by
  obtain ⟨hb, hr, i, hi, hp⟩ := h
  rw [hk] at hp
  refine ⟨hb, hr, ?_⟩
  cases ho : o.dst with
  | none => exact ⟨i, rfl, hp⟩
  | some x =>
    refine ⟨i, ?_, hp⟩
    rw [ho] at hi
    have ht := congrArg Act.tmps hi
    show Act.put a (some x) v = Act.put a (some x) (f.val i)
    unfold Act.put
    simp only
    have hs : a.tmps.setIfInBounds x v = a.tmps.setIfInBounds x (f.val i) := by
      cases d with
      | none => simpa [Act.put] using ht
      | some y =>
        have hxy : y ≠ x := fun e => hd y rfl (by rw [ho, e])
        simp only [Act.put] at ht
        by_cases hx : x < a.tmps.size
        · have h1 := congrArg (fun t : Array Value => t[x]?) ht
          simp [hx] at h1
          rw [h1]
        · simp [Array.setIfInBounds, hx]
    rw [hs]

theorem wpE_kn {Q : Act → World → Prop} : ∀ (l : List (Nat × Oper)) (a : Act) (kn kn' : Known), (∀ x ∈ kn, x ∈ kn') → wpE P ops B R dep E Q l a kn → wpE P ops B R dep E Q l a kn'
  | [], a, kn, kn', hs, h => fun w hb hx => h w hb fun x hm => hx x (hs x hm)
  | (k, o) :: rest, a, kn, kn', hs, h => by
    have hf : ∀ w, facts B dep kn' k w → facts B dep kn k w := fun w hF => ⟨hF.1, fun x hm => hF.2 x (hs x hm)⟩
    simp only [wpE] at h ⊢
    split
    · rename_i hw
      simp only [hw, if_true] at h
      cases hE : E k with
      | none =>
        simp only [hE] at h ⊢
        obtain ⟨v, h1, h2⟩ := h
        exact ⟨v, fun w hF => h1 w (hf w hF), wpE_kn rest _ _ _ hs h2⟩
      | some f =>
        simp only [hE] at h ⊢
        refine ⟨fun w hF => h.1 w (hf w hF), fun i => wpE_kn rest _ _ _ ?_ (h.2 i)⟩
        intro x hx
        rcases List.mem_cons.1 hx with hx | hx
        · exact List.mem_cons.2 (.inl hx)
        · exact List.mem_cons_of_mem _ (hs x hx)
    · rename_i hw
      simp only [hw] at h
      exact wpE_kn rest _ _ _ hs h

/-- the node of one operation, at the world at hand -/
def nodeAt (P : Program) (ops : Array Oper) (B : World → Prop) (R : World → World → Prop) (dep : Nat → List Nat) (E : Nat → Option (Eff R)) (Q : Act → World → Prop) (k : Nat) (o : Oper) (rest : List (Nat × Oper)) (a : Act) (kn : Known) (w : World) : Prop :=
  if Region.wanted o (yielded ops a.tmps) then
    match E k with
    | none => ∃ v, pureUpon w v ((execOp a.eval o).run P w) ∧ wpE P ops B R dep E Q rest (a.put o.dst v) kn
    | some f => o.wp P a w (effPost B R o a w f) noExit ∧ ∀ i, wpE P ops B R dep E Q rest (a.put o.dst (f.val i)) ((k, f.post (keyOf o a.eval) i) :: kn)
  else wpE P ops B R dep E Q rest (a.put o.dst undef) kn

theorem pureUpon_one {w : World} {v v' : Value} {r : Result Next} (h : pureUpon w v r) (h' : pureUpon w v' r) : v = v' := by
  cases r with
  | ok n w' => cases n <;> simp only [pureUpon] at h h' <;> exact h.2.symm.trans h'.2
  | halt x w' => exact h.elim

theorem pull {Q : Act → World → Prop} {k : Nat} {o : Oper} {l₂ : List (Nat × Oper)} (hso : ∀ cs b, o.op ≠ .select cs b) :
    ∀ (l₁ : List (Nat × Oper)) (a : Act) (kn : Known), wpE P ops B R dep E Q (l₁ ++ (k, o) :: l₂) a kn →
      (∀ j ∈ l₁, j.2.apart ops o = true) → (∀ j ∈ l₁, ∀ cs b, j.2.op ≠ .select cs b) → (∀ j ∈ l₁, (dep k).contains j.1 = false) → ∀ w, facts B dep kn k w →
      nodeAt P ops B R dep E Q k o (l₁ ++ l₂) a kn w
  | [], a, kn, h, _, _, _, w, hF => by
    simp only [List.nil_append, wpE] at h
    unfold nodeAt
    split
    · rename_i hw
      simp only [hw, if_true] at h
      cases hE : E k with
      | none => simp only [hE] at h ⊢; obtain ⟨v, h1, h2⟩ := h; exact ⟨v, h1 w hF, h2⟩
      | some f => simp only [hE] at h ⊢; exact ⟨h.1 w hF, h.2⟩
    · rename_i hw
      simpa only [hw, Bool.false_eq_true, if_false, List.nil_append] using h
  | (j, oj) :: l, a, kn, h, hap, hsel, hdp, w, hF => by
    obtain ⟨h1, h2, h3⟩ := Oper.apart_spec (hap (j, oj) (List.mem_cons_self ..))
    have hsj := hsel (j, oj) (List.mem_cons_self ..)
    have hdj : (dep k).contains j = false := hdp (j, oj) (List.mem_cons_self ..)
    have ih := pull (Q := Q) (k := k) (o := o) (l₂ := l₂) hso l
    have hap' : ∀ j ∈ l, j.2.apart ops o = true := fun x hx => hap x (List.mem_cons_of_mem _ hx)
    have hsel' : ∀ j ∈ l, ∀ cs b, j.2.op ≠ .select cs b := fun x hx => hsel x (List.mem_cons_of_mem _ hx)
    have hdp' : ∀ j ∈ l, (dep k).contains j.1 = false := fun x hx => hdp x (List.mem_cons_of_mem _ hx)
    have heo : ∀ (a : Act) u, execOp (a.put oj.dst u).eval o = execOp a.eval o := fun a u => execOp_put (ops := ops) o hso a oj.dst u h1
    have hko : ∀ (a : Act) u, keyOf o (a.put oj.dst u).eval = keyOf o a.eval := fun a u => keyOf_put (ops := ops) o a oj.dst u h1
    have hkj : ∀ (a : Act) u, keyOf oj (a.put o.dst u).eval = keyOf oj a.eval := fun a u => keyOf_put (ops := ops) oj a o.dst u h3
    have hwo : ∀ (a : Act) u, Region.wanted o (yielded ops (a.put oj.dst u).tmps) = Region.wanted o (yielded ops a.tmps) := fun a u => wanted_put o a oj.dst u h1
    have hej : ∀ (a : Act) u, execOp (a.put o.dst u).eval oj = execOp a.eval oj := fun a u => execOp_put (ops := ops) oj hsj a o.dst u h3
    have hwj : ∀ (a : Act) u, Region.wanted oj (yielded ops (a.put o.dst u).tmps) = Region.wanted oj (yielded ops a.tmps) := fun a u => wanted_put oj a o.dst u h3
    have hcm : ∀ (a : Act) u v, (a.put oj.dst u).put o.dst v = (a.put o.dst v).put oj.dst u := fun a u v => Act.put_comm a u v h2
    have hdd : ∀ x, oj.dst = some x → o.dst ≠ some x := h2
    have hdd' : ∀ x, o.dst = some x → oj.dst ≠ some x := fun x hx hy => h2 x hy hx
    have hwpE : ∀ (kk : Nat) (oo : Oper) (dd : Option Tmp) (aa : Act) (u : Value) (ff : Eff R) (ww : World), (∀ x, dd = some x → oo.dst ≠ some x) → keyOf oo (aa.put dd u).eval = keyOf oo aa.eval → execOp (aa.put dd u).eval oo = execOp aa.eval oo →
        (oo.wp P (aa.put dd u) ww (effPost B R oo (aa.put dd u) ww ff) noExit ↔ oo.wp P aa ww (effPost B R oo aa ww ff) noExit) := by
      intro kk oo dd aa u ff ww hne hke he
      constructor
      · intro hh
        refine wp_put he (fun v w' hk => effPost_put hke hne hk) ?_ hh
        rintro x w' ⟨_, _, i, hi, _⟩
        have := congrArg Act.defers hi
        simp only [put_defers] at this
        exact absurd (congrArg List.length this) (by simp)
      · intro hh
        unfold Oper.wp at *
        rw [he]
        generalize (execOp aa.eval oo).run P ww = r at *
        have key : ∀ v w', effPost B R oo aa ww ff (aa.put oo.dst v) w' → effPost B R oo (aa.put dd u) ww ff ((aa.put dd u).put oo.dst v) w' := by
          rintro v w' ⟨hb, hr, i, hi, hp⟩
          refine ⟨hb, hr, i, ?_, by rw [hke]; exact hp⟩
          rw [Act.put_comm aa u v hne, Act.put_comm aa u (ff.val i) hne, hi]
        cases r with
        | ok n w' =>
          cases n <;> simp only [Oper.upon] at hh ⊢
          case value v => exact key _ _ hh
          case skip => exact key _ _ hh
          case defer x =>
            obtain ⟨_, _, i, hi, _⟩ := hh
            have := congrArg Act.defers hi
            simp only [put_defers] at this
            exact absurd (congrArg List.length this) (by simp)
          case enter g args => exact hh.mono fun e w'' he => by cases e <;> first | exact key _ _ he | exact he
          case row row args => exact hh.mono fun v w'' he => key _ _ he
        | halt x w' => cases x <;> simp only [Oper.upon] at hh ⊢ <;> exact hh
    simp only [List.cons_append, wpE] at h
    by_cases hw : Region.wanted oj (yielded ops a.tmps) = true
    · simp only [hw, if_true] at h
      cases hE : E j with
      | none =>
        simp only [hE] at h
        obtain ⟨u, hu, ht⟩ := h
        have hi := ih _ _ ht hap' hsel' hdp' w hF
        unfold nodeAt at hi ⊢
        simp only [hko] at hi
        rw [hwo] at hi
        split
        · rename_i hwk
          simp only [hwk, if_true] at hi
          cases hEk : E k with
          | none =>
            simp only [hEk] at hi ⊢
            obtain ⟨v, h5, h6⟩ := hi
            rw [heo] at h5
            refine ⟨v, h5, ?_⟩
            simp only [List.cons_append, wpE, hwj, hw, if_true, hE]
            exact ⟨u, fun w' hF' => by rw [hej]; exact hu w' hF', by rw [← hcm]; exact h6⟩
          | some f =>
            simp only [hEk] at hi ⊢
            refine ⟨(hwpE k o oj.dst a u f w hdd (hko a u) (heo a u)).1 hi.1, fun i => ?_⟩
            simp only [List.cons_append, wpE, hwj, hw, if_true, hE]
            exact ⟨u, fun w' hF' => by rw [hej]; exact hu w' ⟨hF'.1, fun x hx => hF'.2 x (List.mem_cons_of_mem _ hx)⟩, by rw [← hcm]; exact hi.2 i⟩
        · rename_i hwk
          simp only [hwk] at hi
          simp only [List.cons_append, wpE, hwj, hw, if_true, hE]
          exact ⟨u, fun w' hF' => by rw [hej]; exact hu w' hF', by rw [← hcm]; exact hi⟩
      | some g =>
        simp only [hE] at h
        obtain ⟨hob, ht⟩ := h
        have hi := fun i => ih _ _ (ht i) hap' hsel' hdp' w ⟨hF.1, fun x hx hc => by
          rcases List.mem_cons.1 hx with hx | hx
          · subst hx; rw [hdj] at hc; cases hc
          · exact hF.2 x hx hc⟩
        unfold nodeAt at hi ⊢
        simp only [hko] at hi
        simp only [hwo] at hi
        split
        · rename_i hwk
          simp only [hwk, if_true] at hi
          cases hEk : E k with
          | none =>
            simp only [hEk] at hi ⊢
            obtain ⟨v, h5, _⟩ := hi g.dflt
            rw [heo] at h5
            refine ⟨v, h5, ?_⟩
            simp only [List.cons_append, wpE, hwj, hw, if_true, hE, hkj]
            refine ⟨fun w' hF' => (hwpE j oj o.dst a v g w' hdd' (hkj a _) (hej a v)).2 (hob w' hF'), fun i => ?_⟩
            obtain ⟨v', h5', h6'⟩ := hi i
            rw [heo] at h5'
            rw [← hcm, pureUpon_one h5 h5']
            exact h6'
          | some f =>
            simp only [hEk] at hi ⊢
            refine ⟨(hwpE k o oj.dst a _ f w hdd (hko a _) (heo a _)).1 (hi g.dflt).1, fun i => ?_⟩
            simp only [List.cons_append, wpE, hwj, hw, if_true, hE, hkj]
            refine ⟨fun w' hF' => (hwpE j oj o.dst a (f.val i) g w' hdd' (hkj a _) (hej a _)).2 (hob w' ⟨hF'.1, fun x hx => hF'.2 x (List.mem_cons_of_mem _ hx)⟩), fun i' => ?_⟩
            rw [← hcm]
            refine wpE_kn _ _ _ _ ?_ ((hi i').2 i)
            intro x hx
            simp only [List.mem_cons] at hx ⊢
            rcases hx with hx | hx | hx
            · exact .inr (.inl hx)
            · exact .inl hx
            · exact .inr (.inr hx)
        · rename_i hwk
          simp only [hwk] at hi
          simp only [List.cons_append, wpE, hwj, hw, if_true, hE, hkj]
          refine ⟨fun w' hF' => (hwpE j oj o.dst a undef g w' hdd' (hkj a _) (hej a _)).2 (hob w' hF'), fun i => ?_⟩
          rw [← hcm]
          exact hi i
    · simp only [hw] at h
      have hi := ih _ _ h hap' hsel' hdp' w hF
      unfold nodeAt at hi ⊢
      simp only [hko] at hi
      rw [hwo] at hi
      have hwF : Region.wanted oj (yielded ops a.tmps) = false := by simpa using hw
      split
      · rename_i hwk
        simp only [hwk, if_true] at hi
        cases hEk : E k with
        | none =>
          simp only [hEk] at hi ⊢
          obtain ⟨v, h5, h6⟩ := hi
          rw [heo] at h5
          refine ⟨v, h5, ?_⟩
          simp only [List.cons_append, wpE, hwj, hwF, hkj]
          rw [hcm] at h6
          exact h6
        | some f =>
          simp only [hEk] at hi ⊢
          refine ⟨(hwpE k o oj.dst a _ f w hdd (hko a _) (heo a _)).1 hi.1, fun i => ?_⟩
          simp only [List.cons_append, wpE, hwj, hwF, hkj]
          have := hi.2 i
          rw [hcm] at this
          exact this
      · rename_i hwk
        simp only [hwk] at hi
        simp only [List.cons_append, wpE, hwj, hwF, hkj]
        rw [hcm] at hi
        exact hi

/-- what is asked of a region's text: edges lead back; 'dep' is led to by edges; two operations of which neither waits for the other touch other temporaries -/
def okB (ops : Array Oper) (dep : Nat → List Nat) : Bool :=
  Region.noSelect ops &&
  (List.range ops.size).all fun k => match ops[k]? with
    | none => true
    | some o =>
      (o.after.toList.all fun e => !Region.binds .any e || decide (e.on < k)) &&
      ((dep k).all fun j => o.after.toList.any fun e => Region.binds .any e && (e.on == j || (dep e.on).contains j)) &&
      (List.range k).all fun j => match ops[j]? with
        | none => true
        | some oj => (o.after.toList.any fun e => Region.binds .any e && e.on == j) || oj.apart ops o

theorem okB_back {k : Nat} {o : Oper} (h : okB ops dep = true) (hk : ops[k]? = some o) : ∀ e ∈ o.after, Region.binds .any e = true → e.on < k := by
  intro e he hb
  simp only [okB, Bool.and_eq_true, List.all_eq_true] at h
  have h1 := h.2 k (by simpa using (Array.getElem?_eq_some_iff.1 hk).1)
  simp only [hk, Bool.and_eq_true, List.all_eq_true] at h1
  have h2 := h1.1.1 e (Array.mem_toList_iff.2 he)
  simpa [hb] using h2

theorem okB_dep {k j : Nat} {o : Oper} (h : okB ops dep = true) (hk : ops[k]? = some o) (hj : (dep k).contains j = true) : ∃ e ∈ o.after, Region.binds .any e = true ∧ (e.on = j ∨ j ∈ dep e.on) := by
  simp only [okB, Bool.and_eq_true, List.all_eq_true] at h
  have h1 := h.2 k (by simpa using (Array.getElem?_eq_some_iff.1 hk).1)
  simp only [hk, Bool.and_eq_true, List.all_eq_true] at h1
  have h2 := h1.1.2 j (by simpa using hj)
  obtain ⟨e, he, hb⟩ := List.any_eq_true.1 h2
  simp only [Bool.and_eq_true, Bool.or_eq_true, beq_iff_eq, List.contains_iff_mem] at hb
  exact ⟨e, Array.mem_toList_iff.1 he, hb.1, hb.2⟩

theorem okB_apart {k j : Nat} {o oj : Oper} (h : okB ops dep = true) (hk : ops[k]? = some o) (hj : ops[j]? = some oj) (hlt : j < k) : (∃ e ∈ o.after, Region.binds .any e = true ∧ e.on = j) ∨ oj.apart ops o = true := by
  simp only [okB, Bool.and_eq_true, List.all_eq_true] at h
  have h1 := h.2 k (by simpa using (Array.getElem?_eq_some_iff.1 hk).1)
  simp only [hk, Bool.and_eq_true, List.all_eq_true] at h1
  have h2 := h1.2 j (by simpa using hlt)
  simp only [hj, Bool.or_eq_true] at h2
  rcases h2 with h2 | h2
  · obtain ⟨e, he, hb⟩ := List.any_eq_true.1 h2
    simp only [Bool.and_eq_true, beq_iff_eq] at hb
    exact .inl ⟨e, Array.mem_toList_iff.1 he, hb.1, hb.2⟩
  · exact .inr h2

theorem okB_sel (h : okB ops dep = true) (j : Nat) (o : Oper) (hj : ops[j]? = some o) : ∀ cs b, o.op ≠ .select cs b := by
  simp only [okB, Bool.and_eq_true] at h
  exact fun cs b => Region.noSelect_spec h.1 j o cs b hj

theorem wp_exit_mono {o : Oper} {a : Act} {w : World} {K K' : Act → World → Prop} {Q' : Exit → Act → World → Prop} (h : ∀ a w, K a w → K' a w) (hh : o.wp P a w K noExit) : o.wp P a w K' Q' := by
  unfold Oper.wp at *
  generalize (execOp a.eval o).run P w = r at *
  cases r with
  | ok n w' =>
    cases n <;> simp only [Oper.upon] at hh ⊢ <;>
      first
        | exact h _ _ hh
        | exact Calls.mono hh (fun e w'' he => by cases e <;> first | exact h _ _ he | exact (he : False).elim | exact (he.elim fun _ hx => hx.elim fun _ hy => (hy : False).elim))
        | exact Rows.mono hh (fun _ _ he => h _ _ he)
  | halt x w' => cases x <;> simp only [Oper.upon] at hh ⊢ <;> exact (hh : False).elim

theorem any_of_wpE {Q : Act → World → Prop} {Q' : Exit → Act → World → Prop} (hok : okB ops dep = true) (hQ : ∀ a w, Q a w → Q' .normal a w) :
    ∀ (n : Nat) (items : List (Nat × Oper)) (listed : Array Bool) (a : Act) (w : World) (kn : Known), items.length = n → listed.size = ops.size →
      (∀ x ∈ items, ops[x.1]? = some x.2 ∧ listed.getD x.1 true = false) → (∀ i o, ops[i]? = some o → listed.getD i true = false → (i, o) ∈ items) →
      items.Pairwise (fun x y => x.1 < y.1) → (∀ m, listed.getD m false = true → ∀ j ∈ dep m, listed.getD j false = true) →
      wpE P ops B R dep E Q items a kn → B w → (∀ x ∈ kn, x.2 w) → (∀ x ∈ kn, ∀ w w', R w w' → x.2 w → x.2 w') → wpAny P .any ops Q' n listed a w := by
  intro n
  induction n with
  | zero =>
    intro items listed a w kn hn hsz h1 h2 h3 h4 hT hB hK _
    have he : items = [] := List.eq_nil_of_length_eq_zero hn
    subst he
    refine ⟨?_, hQ _ _ (hT w hB hK)⟩
    cases hr : Region.ready .any ops listed with
    | nil => rfl
    | cons i rs =>
      have hi : i ∈ Region.ready .any ops listed := by rw [hr]; exact List.mem_cons_self ..
      obtain ⟨hu, o, ho, _⟩ := mem_ready.1 hi
      exact absurd (h2 i o ho hu) (by simp)
  | succ n ih =>
    intro items listed a w kn hn hsz h1 h2 h3 h4 hT hB hK hS
    have both : ∀ i, i < ops.size → listed.getD i true ≠ false → listed.getD i false = true := by
      intro i hi hne
      have : i < listed.size := by omega
      simp [this] at hne ⊢
      exact hne
    refine ⟨fun hnil => ?_, fun i hi => ?_⟩
    · obtain ⟨x, rest, rfl⟩ : ∃ x rest, items = x :: rest := by
        cases items with
        | nil => simp at hn
        | cons x rest => exact ⟨x, rest, rfl⟩
      obtain ⟨hx1, hx2⟩ := h1 x (List.mem_cons_self ..)
      have : x.1 ∈ Region.ready .any ops listed := by
        refine mem_ready.2 ⟨hx2, x.2, hx1, fun e he hb => ?_⟩
        have hlt := okB_back hok hx1 e he hb
        have hxs : x.1 < ops.size := (Array.getElem?_eq_some_iff.1 hx1).1
        refine both e.on (by omega) fun hun => ?_
        have hm := h2 e.on _ (Array.getElem?_eq_getElem (by omega)) hun
        rcases List.mem_cons.1 hm with hm | hm
        · rw [← hm] at hlt; exact Nat.lt_irrefl _ hlt
        · have := (List.pairwise_cons.1 h3).1 _ hm
          simp only at this
          omega
      rw [hnil] at this
      cases this
    · obtain ⟨hu, o, ho, hall⟩ := mem_ready.1 hi
      have his : i < ops.size := (Array.getElem?_eq_some_iff.1 ho).1
      obtain ⟨l₁, l₂, rfl⟩ := List.append_of_mem (h2 i o ho hu)
      have hpw := List.pairwise_append.1 h3
      have hlt1 : ∀ x ∈ l₁, x.1 < i := fun x hx => hpw.2.2 x hx (i, o) (List.mem_cons_self ..)
      have hlt2 : ∀ x ∈ l₂, i < x.1 := fun x hx => (List.pairwise_cons.1 hpw.2.1).1 x hx
      have hdl : ∀ j ∈ dep i, listed.getD j false = true := by
        intro j hj
        obtain ⟨e, he, hb, h5⟩ := okB_dep (j := j) hok ho (by simpa using hj)
        have h6 := hall e he hb
        rcases h5 with h5 | h5
        · rw [← h5]; exact h6
        · exact h4 _ h6 j h5
      have hunl : ∀ x ∈ l₁, listed.getD x.1 false = true → False := by
        intro x hx hl
        have := (h1 x (List.mem_append_left _ hx)).2
        have hxs : x.1 < listed.size := by have := hlt1 x hx; omega
        simp [hxs] at this hl
        rw [this] at hl
        cases hl
      have hN := pull (Q := Q) (okB_sel hok i o ho) l₁ a kn hT
        (fun x hx => by
          rcases okB_apart hok ho (h1 x (List.mem_append_left _ hx)).1 (hlt1 x hx) with ⟨e, he, hb, h5⟩ | h5
          · exact (hunl x hx (by rw [← h5]; exact hall e he hb)).elim
          · exact h5)
        (fun x hx => okB_sel hok x.1 x.2 (h1 x (List.mem_append_left _ hx)).1)
        (fun x hx => by
          cases hc : (dep i).contains x.1 with
          | false => rfl
          | true => exact (hunl x hx (hdl x.1 (by simpa using hc))).elim) w ⟨hB, fun x hx _ => hK x hx⟩
      have hlen : (l₁ ++ l₂).length = n := by simp at hn ⊢; omega
      have hne : ∀ x ∈ l₁ ++ l₂, x.1 ≠ i := by
        intro x hx
        rcases List.mem_append.1 hx with hx | hx
        · have := hlt1 x hx; omega
        · have := hlt2 x hx; omega
      have hmem : ∀ x ∈ l₁ ++ l₂, x ∈ l₁ ++ (i, o) :: l₂ := by
        intro x hx
        rcases List.mem_append.1 hx with hx | hx
        · exact List.mem_append_left _ hx
        · exact List.mem_append_right _ (List.mem_cons_of_mem _ hx)
      have go : ∀ a' w' kn', wpE P ops B R dep E Q (l₁ ++ l₂) a' kn' → B w' → (∀ x ∈ kn', x.2 w') → (∀ x ∈ kn', ∀ w w', R w w' → x.2 w → x.2 w') → wpAny P .any ops Q' n (listed.setIfInBounds i true) a' w' := by
        intro a' w' kn' hT' hB' hK' hS'
        refine ih (l₁ ++ l₂) _ a' w' kn' hlen (by simp [hsz]) (fun x hx => ⟨(h1 x (hmem x hx)).1, ?_⟩) (fun j oj hoj huj => ?_) ?_ (fun m hm j hj => ?_) hT' hB' hK' hS'
        · rw [getD_set_ne true (Ne.symm (hne x hx))]
          exact (h1 x (hmem x hx)).2
        · have hji : j ≠ i := by
            rintro rfl
            have : j < listed.size := by omega
            simp [this] at huj
          rw [getD_set_ne true (Ne.symm hji)] at huj
          have := h2 j oj hoj huj
          rcases List.mem_append.1 this with h | h
          · exact List.mem_append_left _ h
          · rcases List.mem_cons.1 h with h | h
            · exact absurd (congrArg Prod.fst h) hji
            · exact List.mem_append_right _ h
        · refine List.pairwise_append.2 ⟨hpw.1, (List.pairwise_cons.1 hpw.2.1).2, fun x hx y hy => ?_⟩
          have := hlt1 x hx
          have := hlt2 y hy
          omega
        · by_cases hmi : m = i
          · subst hmi; exact getD_set_true (hdl j hj)
          · rw [getD_set_ne false (Ne.symm hmi)] at hm
            exact getD_set_true (h4 m hm j hj)
      unfold nodeAt at hN
      unfold wpOp
      simp only [ho]
      split
      · rename_i hw
        simp only [hw, if_true] at hN
        left
        cases hE : E i with
        | none =>
          simp only [hE] at hN
          obtain ⟨v, hv, ht⟩ := hN
          unfold Oper.wp
          generalize (execOp a.eval o).run P w = r at hv
          cases r with
          | ok nn w' =>
            cases nn <;> simp only [pureUpon] at hv <;> simp only [Oper.upon]
            · obtain ⟨rfl, rfl⟩ := hv; exact go _ _ _ ht hB hK hS
            · obtain ⟨rfl, rfl⟩ := hv; exact go _ _ _ ht hB hK hS
          | halt x w' => exact hv.elim
        | some f =>
          simp only [hE] at hN
          refine wp_exit_mono ?_ hN.1
          rintro a' w' ⟨hB', hRw, idx, rfl, hp⟩
          refine go _ _ _ (hN.2 idx) hB' ?_ ?_
          · intro x hx
            rcases List.mem_cons.1 hx with hx | hx
            · subst hx; exact hp
            · exact hS x hx _ _ hRw (hK x hx)
          · intro x hx
            rcases List.mem_cons.1 hx with hx | hx
            · subst hx; exact fun w w' h h' => f.keep _ idx w w' h h'
            · exact hS x hx
      · rename_i hw
        simp only [hw] at hN
        exact go _ _ _ hN hB hK hS

theorem any_of_wpE_T {Q : Act → World → Prop} {Q' : Exit → Act → World → Prop} {T : Nat} {oT : Oper} (hT : ops[T]? = some oT) (hTn : T + 1 = ops.size) (hdT : ∀ j, j < T → j ∈ dep T) (hok : okB ops dep = true) (hQ : ∀ a w, Q a w → wpList P ops Q' [oT] a w) :
    ∀ (n : Nat) (items : List (Nat × Oper)) (listed : Array Bool) (a : Act) (w : World) (kn : Known), items.length = n → listed.size = ops.size → listed.getD T true = false →
      (∀ x ∈ items, ops[x.1]? = some x.2 ∧ listed.getD x.1 true = false) → (∀ i o, ops[i]? = some o → listed.getD i true = false → i = T ∨ (i, o) ∈ items) → (∀ x ∈ items, x.1 < T) →
      items.Pairwise (fun x y => x.1 < y.1) → (∀ m, listed.getD m false = true → ∀ j ∈ dep m, listed.getD j false = true) →
      wpE P ops B R dep E Q items a kn → B w → (∀ x ∈ kn, x.2 w) → (∀ x ∈ kn, ∀ w w', R w w' → x.2 w → x.2 w') → wpAny P .any ops Q' (n + 1) listed a w := by
  intro n
  induction n with
  | zero =>
    intro items listed a w kn hn hsz hTu h1 h2 hlT h3 h4 hTr hB hK _
    have he : items = [] := List.eq_nil_of_length_eq_zero hn
    subst he
    have hw := hQ _ _ (hTr w hB hK)
    have hTs : T < listed.size := by omega
    have hall : ∀ j, j < T → listed.getD j false = true := by
      intro j hj
      have hjs : j < listed.size := by omega
      cases hc : listed.getD j true with
      | false =>
        rcases h2 j _ (Array.getElem?_eq_getElem (by omega)) hc with h | h
        · omega
        · simp at h
      | true => simp [hjs] at hc ⊢; exact hc
    have hrT : ∀ i, i ∈ Region.ready .any ops listed ↔ i = T := by
      intro i
      rw [mem_ready]
      constructor
      · rintro ⟨hu, o, ho, _⟩
        rcases h2 i o ho hu with h | h
        · exact h
        · simp at h
      · rintro rfl
        exact ⟨hTu, oT, hT, fun e he hb => hall e.on (okB_back hok hT e he hb)⟩
    refine ⟨fun hnil => ?_, fun i hi => ?_⟩
    · have := (hrT T).2 rfl
      rw [hnil] at this
      cases this
    · obtain rfl := (hrT i).1 hi
      unfold wpOp
      simp only [hT]
      have hK0 : ∀ a' w', wpList P ops Q' [] a' w' → wpAny P .any ops Q' 0 (listed.setIfInBounds i true) a' w' := by
        intro a' w' h
        refine ⟨?_, h⟩
        cases hr : Region.ready .any ops (listed.setIfInBounds i true) with
        | nil => rfl
        | cons k rs =>
          have hk : k ∈ Region.ready .any ops (listed.setIfInBounds i true) := by rw [hr]; exact List.mem_cons_self ..
          obtain ⟨hu, o, ho, _⟩ := mem_ready.1 hk
          by_cases hki : k = i
          · subst hki
            simp [hTs] at hu
          · rw [getD_set_ne true (Ne.symm hki)] at hu
            rcases h2 k o ho hu with h | h
            · exact absurd h hki
            · simp at h
      simp only [wpList] at hw
      split
      · rename_i hwt
        simp only [hwt, if_true] at hw
        exact hw.imp (Oper.wp_mono hK0) id
      · rename_i hwt
        simp only [hwt] at hw
        exact hK0 _ _ hw
  | succ n ih =>
    intro items listed a w kn hn hsz hTu h1 h2 hlT h3 h4 hTr hB hK hS
    have both : ∀ i, i < ops.size → listed.getD i true ≠ false → listed.getD i false = true := by
      intro i hi hne
      have : i < listed.size := by omega
      simp [this] at hne ⊢
      exact hne
    refine ⟨fun hnil => ?_, fun i hi => ?_⟩
    · obtain ⟨x, rest, rfl⟩ : ∃ x rest, items = x :: rest := by
        cases items with
        | nil => simp at hn
        | cons x rest => exact ⟨x, rest, rfl⟩
      obtain ⟨hx1, hx2⟩ := h1 x (List.mem_cons_self ..)
      have : x.1 ∈ Region.ready .any ops listed := by
        refine mem_ready.2 ⟨hx2, x.2, hx1, fun e he hb => ?_⟩
        have hlt := okB_back hok hx1 e he hb
        have hxs : x.1 < ops.size := (Array.getElem?_eq_some_iff.1 hx1).1
        refine both e.on (by omega) fun hun => ?_
        have hm := (h2 e.on _ (Array.getElem?_eq_getElem (by omega)) hun).resolve_left (by have := hlT x (List.mem_cons_self ..); omega)
        rcases List.mem_cons.1 hm with hm | hm
        · rw [← hm] at hlt; exact Nat.lt_irrefl _ hlt
        · have := (List.pairwise_cons.1 h3).1 _ hm
          simp only at this
          omega
      rw [hnil] at this
      cases this
    · obtain ⟨hu, o, ho, hall⟩ := mem_ready.1 hi
      have his : i < ops.size := (Array.getElem?_eq_some_iff.1 ho).1
      have hdl : ∀ j ∈ dep i, listed.getD j false = true := by
        intro j hj
        obtain ⟨e, he, hb, h5⟩ := okB_dep (j := j) hok ho (by simpa using hj)
        have h6 := hall e he hb
        rcases h5 with h5 | h5
        · rw [← h5]; exact h6
        · exact h4 _ h6 j h5
      have hiT : i ≠ T := by
        rintro rfl
        obtain ⟨x, rest, rfl⟩ : ∃ x rest, items = x :: rest := by
          cases items with
          | nil => simp at hn
          | cons x rest => exact ⟨x, rest, rfl⟩
        have hl := hdl x.1 (hdT x.1 (hlT x (List.mem_cons_self ..)))
        have hu' := (h1 x (List.mem_cons_self ..)).2
        have hxs : x.1 < listed.size := by have := hlT x (List.mem_cons_self ..); omega
        simp [hxs] at hl hu'
        rw [hu'] at hl
        cases hl
      obtain ⟨l₁, l₂, rfl⟩ := List.append_of_mem ((h2 i o ho hu).resolve_left hiT)
      have hpw := List.pairwise_append.1 h3
      have hlt1 : ∀ x ∈ l₁, x.1 < i := fun x hx => hpw.2.2 x hx (i, o) (List.mem_cons_self ..)
      have hlt2 : ∀ x ∈ l₂, i < x.1 := fun x hx => (List.pairwise_cons.1 hpw.2.1).1 x hx
      have hunl : ∀ x ∈ l₁, listed.getD x.1 false = true → False := by
        intro x hx hl
        have := (h1 x (List.mem_append_left _ hx)).2
        have hxs : x.1 < listed.size := by have := hlt1 x hx; omega
        simp [hxs] at this hl
        rw [this] at hl
        cases hl
      have hN := pull (Q := Q) (okB_sel hok i o ho) l₁ a kn hTr
        (fun x hx => by
          rcases okB_apart hok ho (h1 x (List.mem_append_left _ hx)).1 (hlt1 x hx) with ⟨e, he, hb, h5⟩ | h5
          · exact (hunl x hx (by rw [← h5]; exact hall e he hb)).elim
          · exact h5)
        (fun x hx => okB_sel hok x.1 x.2 (h1 x (List.mem_append_left _ hx)).1)
        (fun x hx => by
          cases hc : (dep i).contains x.1 with
          | false => rfl
          | true => exact (hunl x hx (hdl x.1 (by simpa using hc))).elim) w ⟨hB, fun x hx _ => hK x hx⟩
      have hlen : (l₁ ++ l₂).length = n := by simp at hn ⊢; omega
      have hne : ∀ x ∈ l₁ ++ l₂, x.1 ≠ i := by
        intro x hx
        rcases List.mem_append.1 hx with hx | hx
        · have := hlt1 x hx; omega
        · have := hlt2 x hx; omega
      have hmem : ∀ x ∈ l₁ ++ l₂, x ∈ l₁ ++ (i, o) :: l₂ := by
        intro x hx
        rcases List.mem_append.1 hx with hx | hx
        · exact List.mem_append_left _ hx
        · exact List.mem_append_right _ (List.mem_cons_of_mem _ hx)
      have go : ∀ a' w' kn', wpE P ops B R dep E Q (l₁ ++ l₂) a' kn' → B w' → (∀ x ∈ kn', x.2 w') → (∀ x ∈ kn', ∀ w w', R w w' → x.2 w → x.2 w') → wpAny P .any ops Q' (n + 1) (listed.setIfInBounds i true) a' w' := by
        intro a' w' kn' hT' hB' hK' hS'
        refine ih (l₁ ++ l₂) _ a' w' kn' hlen (by simp [hsz]) (by rw [getD_set_ne true hiT]; exact hTu) (fun x hx => ⟨(h1 x (hmem x hx)).1, ?_⟩) (fun j oj hoj huj => ?_) (fun x hx => hlT x (hmem x hx)) ?_ (fun m hm j hj => ?_) hT' hB' hK' hS'
        · rw [getD_set_ne true (Ne.symm (hne x hx))]
          exact (h1 x (hmem x hx)).2
        · have hji : j ≠ i := by
            rintro rfl
            have : j < listed.size := by omega
            simp [this] at huj
          rw [getD_set_ne true (Ne.symm hji)] at huj
          refine (h2 j oj hoj huj).imp id fun this => ?_
          rcases List.mem_append.1 this with h | h
          · exact List.mem_append_left _ h
          · rcases List.mem_cons.1 h with h | h
            · exact absurd (congrArg Prod.fst h) hji
            · exact List.mem_append_right _ h
        · refine List.pairwise_append.2 ⟨hpw.1, (List.pairwise_cons.1 hpw.2.1).2, fun x hx y hy => ?_⟩
          have := hlt1 x hx
          have := hlt2 y hy
          omega
        · by_cases hmi : m = i
          · subst hmi; exact getD_set_true (hdl j hj)
          · rw [getD_set_ne false (Ne.symm hmi)] at hm
            exact getD_set_true (h4 m hm j hj)
      unfold nodeAt at hN
      unfold wpOp
      simp only [ho]
      split
      · rename_i hw
        simp only [hw, if_true] at hN
        left
        cases hE : E i with
        | none =>
          simp only [hE] at hN
          obtain ⟨v, hv, ht⟩ := hN
          unfold Oper.wp
          generalize (execOp a.eval o).run P w = r at hv
          cases r with
          | ok nn w' =>
            cases nn <;> simp only [pureUpon] at hv <;> simp only [Oper.upon]
            · obtain ⟨rfl, rfl⟩ := hv; exact go _ _ _ ht hB hK hS
            · obtain ⟨rfl, rfl⟩ := hv; exact go _ _ _ ht hB hK hS
          | halt x w' => exact hv.elim
        | some f =>
          simp only [hE] at hN
          refine wp_exit_mono ?_ hN.1
          rintro a' w' ⟨hB', hRw, idx, rfl, hp⟩
          refine go _ _ _ (hN.2 idx) hB' ?_ ?_
          · intro x hx
            rcases List.mem_cons.1 hx with hx | hx
            · subst hx; exact hp
            · exact hS x hx _ _ hRw (hK x hx)
          · intro x hx
            rcases List.mem_cons.1 hx with hx | hx
            · subst hx; exact fun w w' h h' => f.keep _ idx w w' h h'
            · exact hS x hx
      · rename_i hw
        simp only [hw] at hN
        exact go _ _ _ hN hB hK hS

/-- THE RULE: a region that draws its order, its operations written out. -/
theorem wp_region_E {id : Nat} {Q : Exit → Act → World → Prop} {a : Act} {w : World} {l : List Oper} (B : World → Prop) (R : World → World → Prop) (dep : Nat → List Nat) (E : Nat → Option (Eff R))
    (hm : P.follows .mixedOrders = true) (hok : okB l.toArray dep = true) (hB : B w.drew)
    (h : wpE P l.toArray B R dep E (fun a' w' => Q .normal a' w') (l.zipIdx.map fun x => (x.2, x.1)) a []) : (Code.region id l.toArray true).wp P Q a w := by
  refine wp_region_any hm ?_
  have := any_of_wpE (P := P) (ops := l.toArray) (B := B) (R := R) (dep := dep) (E := E) (Q := fun a' w' => Q .normal a' w') (Q' := Q) hok (fun _ _ h => h) l.length (l.zipIdx.map fun x => (x.2, x.1)) (Array.replicate l.toArray.size false) a w.drew [] (by simp) (by simp) ?_ ?_ ?_ ?_ h hB (by simp) (by simp)
  · simpa using this
  · rintro ⟨i, o⟩ hx
    obtain ⟨⟨o', i'⟩, hm', he⟩ := List.mem_map.1 hx
    simp only [Prod.mk.injEq] at he
    obtain ⟨rfl, rfl⟩ := he
    have := List.mem_zipIdx hm'
    obtain ⟨_, hlt, ho⟩ := this
    simp at hlt ho
    refine ⟨by simp [List.getElem?_eq_getElem hlt, ho], ?_⟩
    simp [hlt]
  · intro i o ho _
    refine List.mem_map.2 ⟨(o, i), ?_, rfl⟩
    have : l[i]? = some o := by simpa using ho
    exact List.mk_mem_zipIdx_iff_getElem?.2 this
  · rw [List.pairwise_map]
    have := List.pairwise_lt_range' (s := 0) (n := l.length)
    rw [← List.zipIdx_map_snd 0 l, List.pairwise_map] at this
    simpa using this
  · intro m hm'
    have : (Array.replicate l.toArray.size false).getD m false = false := by
      rw [Array.getD_eq_getD_getElem?, Array.getElem?_replicate]
      split <;> rfl
    rw [this] at hm'
    cases hm'

/-- the same by the list of the operations and a number -/
def wpL (P : Program) (ops : Array Oper) (B : World → Prop) (R : World → World → Prop) (dep : Nat → List Nat) (E : Nat → Option (Eff R)) (Q : Act → World → Prop) : List Oper → Nat → Act → Known → Prop
  | [], _, a, kn => ∀ w, B w → (∀ x ∈ kn, x.2 w) → Q a w
  | o :: rest, k, a, kn =>
    if Region.wanted o (yielded ops a.tmps) then
      match E k with
      | none => ∃ v, (∀ w, facts B dep kn k w → pureUpon w v ((execOp a.eval o).run P w)) ∧ wpL P ops B R dep E Q rest (k + 1) (a.put o.dst v) kn
      | some f => (∀ w, facts B dep kn k w → o.wp P a w (effPost B R o a w f) noExit) ∧ ∀ i, wpL P ops B R dep E Q rest (k + 1) (a.put o.dst (f.val i)) ((k, f.post (keyOf o a.eval) i) :: kn)
    else wpL P ops B R dep E Q rest (k + 1) (a.put o.dst undef) kn

theorem wpE_of_wpL {Q : Act → World → Prop} : ∀ (l : List Oper) (k : Nat) (a : Act) (kn : Known), wpL P ops B R dep E Q l k a kn → wpE P ops B R dep E Q ((l.zipIdx k).map fun x => (x.2, x.1)) a kn
  | [], _, _, _, h => h
  | o :: rest, k, a, kn, h => by
    simp only [List.zipIdx_cons, List.map_cons, wpE]
    simp only [wpL] at h
    split
    · rename_i hw
      simp only [hw, if_true] at h
      cases hE : E k with
      | none => simp only [hE] at h ⊢; obtain ⟨v, h1, h2⟩ := h; exact ⟨v, h1, wpE_of_wpL rest _ _ _ h2⟩
      | some f => simp only [hE] at h ⊢; exact ⟨h.1, fun i => wpE_of_wpL rest _ _ _ (h.2 i)⟩
    · rename_i hw
      simp only [hw] at h
      exact wpE_of_wpL rest _ _ _ h

/-- THE RULE, by the list. -/
theorem wp_region_L {id : Nat} {Q : Exit → Act → World → Prop} {a : Act} {w : World} {l : List Oper} (B : World → Prop) (R : World → World → Prop) (dep : Nat → List Nat) (E : Nat → Option (Eff R))
    (hm : P.follows .mixedOrders = true) (hok : okB l.toArray dep = true) (hB : B w.drew)
    (h : wpL P l.toArray B R dep E (fun a' w' => Q .normal a' w') l 0 a []) : (Code.region id l.toArray true).wp P Q a w :=
  wp_region_E B R dep E hm hok hB (wpE_of_wpL l 0 a [] h)


/-! ### Guards by their temporaries -/
def wantG (g : Option (Tmp × Bool)) (a : Act) : Bool :=
  match g with
  | none => true
  | some (t, want) => (match a.tmps[t]? with | some (.bool b) => some b | _ => none) == some want

/-- the guards, by temporaries, are those of the region -/
def gOk (ops : Array Oper) : List Oper → List (Option (Tmp × Bool)) → Bool
  | [], _ => true
  | o :: l, gs => (match o.guard, gs.headD none with
      | none, none => true
      | some (j, w), some (t, w') => (ops[j]?).bind (·.dst) == some t && w == w'
      | _, _ => false) && gOk ops l gs.tail

theorem wantG_eq {o : Oper} {g : Option (Tmp × Bool)} (h : (match o.guard, g with
      | none, none => true
      | some (j, w), some (t, w') => (ops[j]?).bind (·.dst) == some t && w == w'
      | _, _ => false) = true) (a : Act) : Region.wanted o (yielded ops a.tmps) = wantG g a := by
  unfold Region.wanted wantG yielded
  cases hg : o.guard with
  | none =>
    cases g with
    | none => rfl
    | some x => rw [hg] at h; cases h
  | some x =>
    obtain ⟨j, w⟩ := x
    cases g with
    | none => rw [hg] at h; cases h
    | some y =>
      obtain ⟨t, w'⟩ := y
      rw [hg] at h
      simp only [Bool.and_eq_true, beq_iff_eq] at h
      obtain ⟨h1, rfl⟩ := h
      simp only [h1, Option.bind_some]
      rfl

def wpG (P : Program) (B : World → Prop) (R : World → World → Prop) (dep : Nat → List Nat) (Q : Act → World → Prop) : List Oper → List (Option (Tmp × Bool)) → List (Option (Eff R)) → Nat → Act → Known → Prop
  | [], _, _, _, a, kn => ∀ w, B w → (∀ x ∈ kn, x.2 w) → Q a w
  | o :: rest, gs, Es, k, a, kn =>
    if wantG (gs.headD none) a then
      match Es.headD none with
      | none => ∃ v, (∀ w, facts B dep kn k w → pureUpon w v ((execOp a.eval o).run P w)) ∧ wpG P B R dep Q rest gs.tail Es.tail (k + 1) (a.put o.dst v) kn
      | some f => (∀ w, facts B dep kn k w → o.wp P a w (effPost B R o a w f) noExit) ∧ ∀ i, wpG P B R dep Q rest gs.tail Es.tail (k + 1) (a.put o.dst (f.val i)) ((k, f.post (keyOf o a.eval) i) :: kn)
    else wpG P B R dep Q rest gs.tail Es.tail (k + 1) (a.put o.dst undef) kn

theorem wpL_of_wpG {Q : Act → World → Prop} : ∀ (l : List Oper) (gs : List (Option (Tmp × Bool))) (Es : List (Option (Eff R))) (k : Nat) (a : Act) (kn : Known), (∀ j, E (k + j) = (Es[j]?).getD none) → gOk ops l gs = true → wpG P B R dep Q l gs Es k a kn → wpL P ops B R dep E Q l k a kn
  | [], _, _, _, _, _, _, _, h => h
  | o :: rest, gs, Es, k, a, kn, hEs, hg, h => by
    have h0 : E k = Es.headD none := by
      have := hEs 0
      cases Es <;> simpa using this
    have hEs' : ∀ j, E (k + 1 + j) = (Es.tail[j]?).getD none := by
      intro j
      have := hEs (j + 1)
      rw [show k + 1 + j = k + (j + 1) by omega, this]
      cases Es <;> simp
    simp only [gOk, Bool.and_eq_true] at hg
    simp only [wpL, wantG_eq hg.1, h0]
    simp only [wpG] at h
    split
    · rename_i hw
      simp only [hw, if_true] at h
      cases hE : Es.headD none with
      | none => simp only [hE] at h ⊢; obtain ⟨v, h1, h2⟩ := h; exact ⟨v, h1, wpL_of_wpG rest _ _ _ _ _ hEs' hg.2 h2⟩
      | some f => simp only [hE] at h ⊢; exact ⟨h.1, fun i => wpL_of_wpG rest _ _ _ _ _ hEs' hg.2 (h.2 i)⟩
    · rename_i hw
      simp only [hw] at h
      exact wpL_of_wpG rest _ _ _ _ _ hEs' hg.2 h

section
variable {Q : Act → World → Prop} {o : Oper} {rest : List Oper} {k : Nat} {tm : Array Value} {ds : List Deferred} {kn : Known} {gs : List (Option (Tmp × Bool))} {Es : List (Option (Eff R))}

/-- the frame behind an operation -/
def putT (tm : Array Value) (d : Option Tmp) (v : Value) : Array Value := match d with | some d => tm.setIfInBounds d v | none => tm

theorem put_mk (d : Option Tmp) (v : Value) : (Act.mk tm ds).put d v = ⟨putT tm d v, ds⟩ := by cases d <;> rfl

theorem wpG_nil (h : ∀ w, B w → (∀ x ∈ kn, x.2 w) → Q ⟨tm, ds⟩ w) : wpG P B R dep Q [] gs Es k ⟨tm, ds⟩ kn := h

/-- passed over -/
theorem wpG_skip {t : Tmp} {want b : Bool} {tm' : Array Value} {E : Option (Eff R)} (hv : tm[t]? = some (.bool b)) (hb : (b == want) = false) (ht : putT tm o.dst undef = tm') (h : wpG P B R dep Q rest gs Es (k + 1) ⟨tm', ds⟩ kn) : wpG P B R dep Q (o :: rest) (some (t, want) :: gs) (E :: Es) k ⟨tm, ds⟩ kn := by
  have hw : wantG (some (t, want)) ⟨tm, ds⟩ = false := by simpa [wantG, hv] using hb
  simp only [wpG, List.headD_cons, hw, List.tail_cons, put_mk, ht]
  exact h

theorem wpG_pure {v : Value} {tm' : Array Value} (h1 : ∀ w, facts B dep kn k w → pureUpon w v ((execOp (Act.mk tm ds).eval o).run P w)) (ht : putT tm o.dst v = tm')
    (h : wpG P B R dep Q rest gs Es (k + 1) ⟨tm', ds⟩ kn) : wpG P B R dep Q (o :: rest) (none :: gs) (none :: Es) k ⟨tm, ds⟩ kn := by
  have hw : wantG none ⟨tm, ds⟩ = true := rfl
  simp only [wpG, List.headD_cons, hw, if_true, List.tail_cons, put_mk]
  exact ⟨v, h1, by rw [ht]; exact h⟩

theorem wpG_pureW {v : Value} {tm' : Array Value} {t : Tmp} {want : Bool} (hv : tm[t]? = some (.bool want)) (h1 : ∀ w, facts B dep kn k w → pureUpon w v ((execOp (Act.mk tm ds).eval o).run P w)) (ht : putT tm o.dst v = tm')
    (h : wpG P B R dep Q rest gs Es (k + 1) ⟨tm', ds⟩ kn) : wpG P B R dep Q (o :: rest) (some (t, want) :: gs) (none :: Es) k ⟨tm, ds⟩ kn := by
  have hw : wantG (some (t, want)) ⟨tm, ds⟩ = true := by simp [wantG, hv]
  simp only [wpG, List.headD_cons, hw, if_true, List.tail_cons, put_mk]
  exact ⟨v, h1, by rw [ht]; exact h⟩

theorem eff_of_list {ops : Array Oper} {a : Act} {w : World} {f : Eff R} (h2 : wpList P ops (fun e a' w' => e = .normal ∧ effPost B R o a w f a' w') [{ o with guard := none }] a w) : o.wp P a w (effPost B R o a w f) noExit := by
  rw [wpList, if_pos (show Region.wanted { o with guard := none } (yielded ops a.tmps) = true from rfl)] at h2
  rcases h2 with h2 | ⟨_, _, _, h3, _⟩
  · have h4 : o.wp P a w (fun a' w' => wpList P ops (fun e a' w' => e = .normal ∧ effPost B R o a w f a' w') [] a' w') (fun e a' w' => e = .normal ∧ effPost B R o a w f a' w') := h2
    unfold Oper.wp at h4 ⊢
    generalize (execOp a.eval o).run P w = r at *
    cases r with
    | ok n w' =>
      cases n <;> simp only [Oper.upon, wpList] at h4 ⊢ <;>
        first
          | exact h4.2
          | exact Calls.mono h4 (fun e w'' he => by
              cases e with
              | returned v => exact he.2
              | panicked c => exact absurd he.1 (by simp)
              | outgrown => obtain ⟨_, _, h5, _⟩ := he; exact absurd h5 (by simp))
          | exact Rows.mono h4 (fun _ _ he => he.2)
    | halt x w' => cases x <;> simp only [Oper.upon] at h4 ⊢ <;> exact absurd h4.1 (by simp)
  · exact absurd h3 (by simp)

theorem wpG_eff {f : Eff R} {tm' : f.ι → Array Value}
    (h1 : ∀ w, facts B dep kn k w → wpList P #[] (fun e a' w' => e = .normal ∧ effPost B R o ⟨tm, ds⟩ w f a' w') [{ o with guard := none }] ⟨tm, ds⟩ w) (ht : ∀ i, putT tm o.dst (f.val i) = tm' i)
    (h : ∀ i, wpG P B R dep Q rest gs Es (k + 1) ⟨tm' i, ds⟩ ((k, f.post (keyOf o (Act.mk tm ds).eval) i) :: kn)) : wpG P B R dep Q (o :: rest) (none :: gs) (some f :: Es) k ⟨tm, ds⟩ kn := by
  have hw : wantG none ⟨tm, ds⟩ = true := rfl
  simp only [wpG, List.headD_cons, hw, if_true, List.tail_cons, put_mk]
  exact ⟨fun w hF => eff_of_list (h1 w hF), fun i => by rw [ht]; exact h i⟩

theorem wpG_effW {f : Eff R} {tm' : f.ι → Array Value} {t : Tmp} {want : Bool} (hv : tm[t]? = some (.bool want))
    (h1 : ∀ w, facts B dep kn k w → wpList P #[] (fun e a' w' => e = .normal ∧ effPost B R o ⟨tm, ds⟩ w f a' w') [{ o with guard := none }] ⟨tm, ds⟩ w) (ht : ∀ i, putT tm o.dst (f.val i) = tm' i)
    (h : ∀ i, wpG P B R dep Q rest gs Es (k + 1) ⟨tm' i, ds⟩ ((k, f.post (keyOf o (Act.mk tm ds).eval) i) :: kn)) : wpG P B R dep Q (o :: rest) (some (t, want) :: gs) (some f :: Es) k ⟨tm, ds⟩ kn := by
  have hw : wantG (some (t, want)) ⟨tm, ds⟩ = true := by simp [wantG, hv]
  simp only [wpG, List.headD_cons, hw, if_true, List.tail_cons, put_mk]
  exact ⟨fun w hF => eff_of_list (h1 w hF), fun i => by rw [ht]; exact h i⟩
end

/-- THE RULE, as it is used. -/
theorem wp_region_G {id : Nat} {Q : Exit → Act → World → Prop} {a : Act} {w : World} {l : List Oper} (gs : List (Option (Tmp × Bool))) (B : World → Prop) (R : World → World → Prop) (dep : Nat → List Nat) (Es : List (Option (Eff R)))
    (hm : P.follows .mixedOrders = true) (hok : okB l.toArray dep = true) (hg : gOk l.toArray l gs = true) (hB : B w.drew)
    (h : wpG P B R dep (fun a' w' => Q .normal a' w') l gs Es 0 a []) : (Code.region id l.toArray true).wp P Q a w :=
  wp_region_L B R dep (fun k => (Es[k]?).getD none) hm hok hB (wpL_of_wpG l gs Es 0 a [] (fun j => by simp) hg h)

/-- THE RULE WITH A TAIL: the region's last operation waits for all the others: it is met as the walk meets any operation. -/
theorem wp_region_GT {id : Nat} {Q : Exit → Act → World → Prop} {a : Act} {w : World} {l : List Oper} {oT : Oper} (gs : List (Option (Tmp × Bool))) (B : World → Prop) (R : World → World → Prop) (dep : Nat → List Nat) (Es : List (Option (Eff R)))
    (hm : P.follows .mixedOrders = true) (hok : okB (l ++ [oT]).toArray dep = true) (hT : ((List.range l.length).all fun j => (dep l.length).contains j) = true) (hg : gOk (l ++ [oT]).toArray l gs = true) (hB : B w.drew)
    (h : wpG P B R dep (fun a' w' => wpList P (l ++ [oT]).toArray Q [oT] a' w') l gs Es 0 a []) : (Code.region id (l ++ [oT]).toArray true).wp P Q a w := by
  refine wp_region_any hm ?_
  have h' := wpE_of_wpL l 0 a [] (wpL_of_wpG (ops := (l ++ [oT]).toArray) (E := fun k => (Es[k]?).getD none) l gs Es 0 a [] (fun j => by simp) hg h)
  have := any_of_wpE_T (P := P) (ops := (l ++ [oT]).toArray) (B := B) (R := R) (dep := dep) (E := fun k => (Es[k]?).getD none) (Q := fun a' w' => wpList P (l ++ [oT]).toArray Q [oT] a' w') (Q' := Q) (T := l.length) (oT := oT)
    (by simp) (by simp) (fun j hj => by simpa using List.all_eq_true.1 hT j (List.mem_range.2 hj)) hok (fun _ _ h => h) l.length (l.zipIdx.map fun x => (x.2, x.1)) (Array.replicate (l ++ [oT]).toArray.size false) a w.drew [] (by simp) (by simp) (by simp) ?_ ?_ ?_ ?_ ?_ h' hB (by simp) (by simp)
  · simpa using this
  · rintro ⟨i, o⟩ hx
    obtain ⟨⟨o', i'⟩, hm', he⟩ := List.mem_map.1 hx
    simp only [Prod.mk.injEq] at he
    obtain ⟨rfl, rfl⟩ := he
    obtain ⟨_, hlt, ho⟩ := List.mem_zipIdx hm'
    simp at hlt ho
    refine ⟨by simp [List.getElem?_append_left hlt, List.getElem?_eq_getElem hlt, ho], ?_⟩
    have : i' < l.length + 1 := by omega
    simp [this]
  · intro i o ho _
    have hi : i < l.length + 1 := by have := (Array.getElem?_eq_some_iff.1 ho).1; simpa using this
    by_cases he : i = l.length
    · exact .inl he
    · right
      refine List.mem_map.2 ⟨(o, i), ?_, rfl⟩
      have : l[i]? = some o := by
        simp only [List.getElem?_toArray] at ho
        rwa [List.getElem?_append_left (by omega)] at ho
      exact List.mk_mem_zipIdx_iff_getElem?.2 this
  · rintro ⟨i, o⟩ hx
    obtain ⟨⟨o', i'⟩, hm', he⟩ := List.mem_map.1 hx
    simp only [Prod.mk.injEq] at he
    obtain ⟨rfl, rfl⟩ := he
    obtain ⟨_, hlt, _⟩ := List.mem_zipIdx hm'
    simpa using hlt
  · rw [List.pairwise_map]
    have := List.pairwise_lt_range' (s := 0) (n := l.length)
    rw [← List.zipIdx_map_snd 0 l, List.pairwise_map] at this
    simpa using this
  · intro m hm'
    have : (Array.replicate (l ++ [oT]).toArray.size false).getD m false = false := by
      rw [Array.getD_eq_getD_getElem?, Array.getElem?_replicate]
      split <;> rfl
    rw [this] at hm'
    cases hm'

/-- .. the operations written out; n: how many stand before the tail. -/
theorem wp_region_GN {id : Nat} {Q : Exit → Act → World → Prop} {a : Act} {w : World} {L : List Oper} (n : Nat) (gs : List (Option (Tmp × Bool))) (B : World → Prop) (R : World → World → Prop) (dep : Nat → List Nat) (Es : List (Option (Eff R)))
    (hm : P.follows .mixedOrders = true) (hn : L.length = n + 1) (hok : okB L.toArray dep = true) (hT : ((List.range n).all fun j => (dep n).contains j) = true) (hg : gOk L.toArray (L.take n) gs = true) (hB : B w.drew)
    (h : wpG P B R dep (fun a' w' => wpList P L.toArray Q (L.drop n) a' w') (L.take n) gs Es 0 a []) : (Code.region id L.toArray true).wp P Q a w := by
  obtain ⟨oT, hd⟩ : ∃ oT, L.drop n = [oT] := by
    have hl : (L.drop n).length = 1 := by simp [hn]
    exact List.length_eq_one_iff.1 hl
  have hL : L.take n ++ [oT] = L := by rw [← hd]; exact List.take_append_drop n L
  have hln : (L.take n).length = n := by simp [hn]
  rw [← hL] at hok ⊢
  refine wp_region_GT gs B R dep Es hm hok (by rw [hln]; exact hT) (by rw [hL]; exact hg) hB ?_
  rw [hL]
  rw [hd] at h
  exact h

/-- nothing that was there has turned ('Below', closed to simp) -/
def Low (w w' : World) : Prop := RowKit.Below w.heap.size w w'
theorem Low.out {w w' : World} (h : Low w w') : RowKit.Below w.heap.size w w' := h
theorem Low.step {w w1 w2 : World} (h : Low w w1) (k : RowKit.Below w1.heap.size w1 w2) : Low w w2 := RowKit.Below.trans h (k.mono (RowKit.Below.size h))
theorem Low.refl (w : World) : Low w w := RowKit.Below.refl _ _

/-- THE RULE where nothing that was there is written. -/
theorem wp_region_B {id : Nat} {Q : Exit → Act → World → Prop} {a : Act} {w : World} {l : List Oper} (gs : List (Option (Tmp × Bool))) (dep : Nat → List Nat) (Es : List (Option (Eff Low)))
    (hm : P.follows .mixedOrders = true) (hok : okB l.toArray dep = true) (hg : gOk l.toArray l gs = true)
    (h : wpG P (Low w) Low dep (fun a' w' => Q .normal a' w') l gs Es 0 a []) : (Code.region id l.toArray true).wp P Q a w :=
  wp_region_G gs (Low w) Low dep Es hm hok hg (RowKit.Below.refl _ _).drew h

theorem wp_region_BN {id : Nat} {Q : Exit → Act → World → Prop} {a : Act} {w : World} {L : List Oper} (n : Nat) (gs : List (Option (Tmp × Bool))) (dep : Nat → List Nat) (Es : List (Option (Eff Low)))
    (hm : P.follows .mixedOrders = true) (hn : L.length = n + 1) (hok : okB L.toArray dep = true) (hT : ((List.range n).all fun j => (dep n).contains j) = true) (hg : gOk L.toArray (L.take n) gs = true)
    (h : wpG P (Low w) Low dep (fun a' w' => wpList P L.toArray Q (L.drop n) a' w') (L.take n) gs Es 0 a []) : (Code.region id L.toArray true).wp P Q a w :=
  wp_region_GN n gs (Low w) Low dep Es hm hn hok hT hg (RowKit.Below.refl _ _).drew h

end
end Go.Proofs.Ytkclhekkcffpoaa.Reg
