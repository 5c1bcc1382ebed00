/- The plain machine with types: control. -/
import Derived.Test.YtkclhekkcffpoaaU18
namespace Go.Proofs.Ytkclhekkcffpoaa.Am
set_option linter.unusedSimpArgs false
set_option linter.unusedVariables false
open Go Go.RowKit

variable {P : Program} {N : Nat} {K : Id → Prop}

/-- From σ the code comes to an exit and a state as Q says. -/
def At (P : Program) (N : Nat) (K : Id → Prop) (c : Code) (Q : Exit → VSt → Prop) (σ : VSt) : Prop := ∃ e σ', Brings P N K c σ.toD e σ'.toD ∧ (RealS P N K σ'.toD → Q e σ')

theorem brings_unreal {c : Code} {σ : St} (h : ¬ RealS P N K σ) (e : Exit) (σ' : St) : Brings P N K c σ e σ' := fun w0 S A ρ0 a w hs => absurd ⟨w0, S, A, ρ0, a, w, hs⟩ h

variable {Q : Exit → VSt → Prop} {σ : VSt}

theorem At.real {c : Code} (h : RealS P N K σ.toD → At P N K c Q σ) : At P N K c Q σ := by
  rcases Classical.em (RealS P N K σ.toD) with hr | hr
  · exact h hr
  · exact ⟨.normal, σ, brings_unreal hr _ _, fun h => absurd h hr⟩
theorem At.mono {c : Code} {Q' : Exit → VSt → Prop} (h : At P N K c Q σ) (hq : ∀ e σ, Q e σ → Q' e σ) : At P N K c Q' σ := by
  obtain ⟨e, σ', h1, h2⟩ := h
  exact ⟨e, σ', h1, fun hr => hq _ _ (h2 hr)⟩

def thenQ (next : VSt → Prop) (Q : Exit → VSt → Prop) : Exit → VSt → Prop
  | .normal, σ => next σ
  | e, σ => Q e σ
theorem then_n {next : VSt → Prop} (h : next σ) : thenQ next Q .normal σ := h
theorem then_x {next : VSt → Prop} {id : Nat} (h : Q (.exit id) σ) : thenQ next Q (.exit id) σ := h
theorem then_r {next : VSt → Prop} (h : Q .ret σ) : thenQ next Q .ret σ := h
def blockQ (id : Nat) (Q : Exit → VSt → Prop) : Exit → VSt → Prop
  | .exit id', σ => bif Nat.beq id' id then Q .normal σ else Q (.exit id') σ
  | e, σ => Q e σ
theorem block_n {id : Nat} (h : Q .normal σ) : blockQ id Q .normal σ := h
theorem block_r {id : Nat} (h : Q .ret σ) : blockQ id Q .ret σ := h
theorem block_e {id : Nat} (h : Q .normal σ) : blockQ id Q (.exit id) σ := by simp only [blockQ, Nat.beq_refl, cond_true]; exact h
theorem block_x {id id' : Nat} (hne : Nat.beq id' id = false) (h : Q (.exit id') σ) : blockQ id Q (.exit id') σ := by simp only [blockQ, hne, cond_false]; exact h

theorem at_skip (h : Q .normal σ) : At P N K .skip Q σ := ⟨.normal, σ, .skip, fun _ => h⟩
theorem at_ret (h : Q .ret σ) : At P N K .ret Q σ := ⟨.ret, σ, .ret, fun _ => h⟩
theorem at_exit {id : Nat} (h : Q (.exit id) σ) : At P N K (.exit id) Q σ := ⟨.exit id, σ, .exit, fun _ => h⟩
theorem at_seq {x y : Code} (h : At P N K x (thenQ (At P N K y Q) Q) σ) : At P N K (.seq x y) Q σ := by
  obtain ⟨e, σ1, h1, h2⟩ := h
  rcases Classical.em (RealS P N K σ1.toD) with hr | hr
  · cases e with
    | normal =>
      obtain ⟨e2, σ2, h3, h4⟩ := h2 hr
      exact ⟨e2, σ2, .seqN h1 h3, h4⟩
    | _ => exact ⟨_, σ1, .seqX (by simp) h1, fun hr => h2 hr⟩
  · cases e with
    | normal => exact ⟨.normal, σ1, .seqN h1 (brings_unreal hr _ _), fun h => absurd h hr⟩
    | _ => exact ⟨_, σ1, .seqX (by simp) h1, fun h => absurd h hr⟩
theorem at_block {id : Nat} {c : Code} (h : At P N K c (blockQ id Q) σ) : At P N K (.block id c) Q σ := by
  obtain ⟨e, σ1, h1, h2⟩ := h
  cases e with
  | exit id' =>
    by_cases hid : id' = id
    · subst hid
      exact ⟨.normal, σ1, .blockE h1, fun hr => by have := h2 hr; simpa only [blockQ, Nat.beq_refl, cond_true] using this⟩
    · refine ⟨.exit id', σ1, .blockX (by simp [hid]) h1, fun hr => ?_⟩
      have hb : Nat.beq id' id = false := by
        cases hb : Nat.beq id' id with
        | false => rfl
        | true => exact absurd (Nat.eq_of_beq_eq_true hb) hid
      have := h2 hr
      simpa only [blockQ, hb, cond_false] using this
  | _ => exact ⟨_, σ1, .blockX (by simp) h1, h2⟩
/-- a condition in a temporary -/
def condK (c : Operand) (σ : VSt) (A B : VSt → Prop) : Prop :=
  match c, σ with
  | .tmp s, ⟨t, h, n⟩ => lookK t s fun v => (match v with
    | .tt => A ⟨t, h, n⟩
    | .ff => B ⟨t, h, n⟩
    | .bool b => Cnd b (A ⟨(s, .tt) :: t, h, n⟩) (B ⟨(s, .ff) :: t, h, n⟩)
    | _ => False)
  | .const (.bool true), σ => A σ
  | .const (.bool false), σ => B σ
  | _, _ => False
theorem SimS.congr {w0 : World} {S A : Nat → Prop} {ρ0 : Id → Pl} {a : Act} {w : World} {σ σ' : St} (h : SimS P w0 S A N ρ0 K σ a w) (ht : ∀ x, look σ'.t x = look σ.t x) (hh : ∀ x, look σ'.h x = look σ.h x) (hn : σ'.n = σ.n) : SimS P w0 S A N ρ0 K σ' a w := by
  obtain ⟨h1, h2, ρ, h3, h4⟩ := h
  refine ⟨fun b hb => by rw [hh]; exact h1 b (by omega), fun b hb => ?_, ρ, h3, h4.congr ht hh⟩
  have := h2 b hb
  unfold Live at this ⊢
  rw [hh]
  exact this
theorem weak_shadow {s : Nat} {v v' : V} (h : look σ.t s = some v) (he : v'.toD = v.toD) : Weak P N K σ.toD (VSt.toD ⟨(s, v') :: σ.t, σ.h, σ.n⟩) :=
  fun _ _ _ _ _ _ hs => hs.congr (fun x => look_shadow h he x) (fun _ => rfl) rfl
theorem at_cond {c : Operand} {x y : Code} (h : condK c σ (At P N K x Q) (At P N K y Q)) : At P N K (.cond c x y) Q σ := by
  unfold condK at h
  split at h
  · rename_i s st sh sn
    obtain ⟨v, h1, h2⟩ := lookK_ok h
    split at h2
    · obtain ⟨e, σ1, h3, h4⟩ := h2
      exact ⟨e, σ1, .condT (by simp only [evalD, VSt.toD, look_toT, h1, Option.map_some, V.toD]) h3, h4⟩
    · obtain ⟨e, σ1, h3, h4⟩ := h2
      exact ⟨e, σ1, .condF (by simp only [evalD, VSt.toD, look_toT, h1, Option.map_some, V.toD]) h3, h4⟩
    · rename_i b
      have hev : evalD (VSt.toD ⟨st, sh, sn⟩).t (.tmp s) = some (.bool b) := by simp only [evalD, VSt.toD, look_toT, h1, Option.map_some, V.toD]
      cases b with
      | true =>
        obtain ⟨e, σ1, h3, h4⟩ := h2.1 rfl
        exact ⟨e, σ1, .condT hev (.pre (weak_shadow (σ := ⟨st, sh, sn⟩) h1 rfl) h3), h4⟩
      | false =>
        obtain ⟨e, σ1, h3, h4⟩ := h2.2 rfl
        exact ⟨e, σ1, .condF hev (.pre (weak_shadow (σ := ⟨st, sh, sn⟩) h1 rfl) h3), h4⟩
    · exact h2.elim
  · obtain ⟨e, σ1, h3, h4⟩ := h
    exact ⟨e, σ1, .condT rfl h3, h4⟩
  · obtain ⟨e, σ1, h3, h4⟩ := h
    exact ⟨e, σ1, .condF rfl h3, h4⟩
  · exact h.elim

/-! ### regions -/
theorem at_fresh {c : Code} (h : Fresh σ → At P N K c Q σ) : At P N K c Q σ := by
  rcases Classical.em (Fresh σ) with hr | hr
  · exact h hr
  · refine At.real fun ⟨w0, S, A, ρ0, a, w, hs⟩ => absurd hs.1 hr
theorem at_regS {Θ : TT} (hΘ : Θ.ok P) {id : Nat} {ops : Array Oper} (h : vops P Θ ops (fun _ => []) false N ops.toList 0 [] σ (Q .normal)) : At P N K (.region id ops false) Q σ := by
  refine at_fresh fun hn => ?_
  obtain ⟨σ', h1, h2⟩ := vops_ok hΘ hn h
  obtain ⟨L, l1, l2, l3, l4, l5, _⟩ := h2 [] fun h => by cases h
  exact ⟨.normal, σ', .regionS l1 l2 l3 l4 fun _ => l5, fun _ => h1⟩
/-- what an operation waits for, as a mask -/
def aftM (o : Oper) : Nat := o.after.toList.foldl (fun m e => bif Region.binds .any e then m ||| (1 <<< e.on) else m) 0
def ancM (ops : List Oper) : Nat → Nat → Nat
  | 0, m => m
  | j + 1, m => match m.testBit j with
    | true => ancM ops j (m ||| (match ops[j]? with | some o => aftM o | none => 0))
    | false => ancM ops j m
def depV (ops : Array Oper) (k : Nat) : List Nat :=
  match ops.toList[k]? with
  | some o => (List.range k).filter fun i => (ancM ops.toList k (aftM o)).testBit i
  | none => []
theorem at_regD {Θ : TT} (hΘ : Θ.ok P) (hm : P.follows .mixedOrders = true) {id : Nat} {ops : Array Oper} (hok : Reg.okB ops (depV ops) = true) (h : vops P Θ ops (depV ops) true N ops.toList 0 [] σ (Q .normal)) : At P N K (.region id ops true) Q σ := by
  refine at_fresh fun hn => ?_
  obtain ⟨σ', h1, h2⟩ := vops_ok hΘ hn h
  obtain ⟨L, l1, l2, l3, l4, l5, l6⟩ := h2 [] fun _ => ⟨rfl, fun i o r hi => by simp at hi⟩
  refine ⟨.normal, σ', (.regionD (depV ops) hm hok l1 l2 ?_ l3 l4 fun _ => l5), fun _ => h1⟩
  intro i j oi ri oj rj hij hi hj hdp
  exact l6 rfl i j oi ri oj rj (by omega) (by simpa using hi) hj (by simpa using hdp)
end Go.Proofs.Ytkclhekkcffpoaa.Am
