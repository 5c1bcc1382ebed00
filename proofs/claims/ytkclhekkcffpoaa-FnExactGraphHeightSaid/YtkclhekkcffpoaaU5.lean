/- The plain machine with types: scalars, stores, slices. -/
import Derived.Test.YtkclhekkcffpoaaU4
namespace Go.Proofs.Ytkclhekkcffpoaa.Am
set_option linter.unusedSimpArgs false
set_option linter.unusedVariables false
open Go Go.RowKit

def binK (op : BinOp) (tk : TK) (d e : V) (K : V → Prop) : Prop :=
  match d, e with
  | .int k x, .int k' y => (match decEq k k' with
    | isTrue _ => (match op with
      | .add => Ari k (x + y) fun z => K (.int k z)
      | .sub => Ari k (x - y) fun z => K (.int k z)
      | .mul => Ari k (x * y) fun z => K (.int k z)
      | .quo => Need (y ≠ 0) (Ari k (x.tdiv y) fun z => K (.int k z))
      | .rem => Need (y ≠ 0) (K (.int k (x.tmod y)))
      | .and => K (.int k (k.wrap (BitVec.ofInt k.bits x &&& BitVec.ofInt k.bits y).toNat))
      | .or => K (.int k (k.wrap (BitVec.ofInt k.bits x ||| BitVec.ofInt k.bits y).toNat))
      | .xor => K (.int k (k.wrap (BitVec.ofInt k.bits x ^^^ BitVec.ofInt k.bits y).toNat))
      | .eql => K (.bool (x == y))
      | .neq => K (.bool (x != y))
      | .lss => K (.bool (decide (x < y)))
      | .leq => K (.bool (decide (x ≤ y)))
      | .gtr => K (.bool (decide (y < x)))
      | .geq => K (.bool (decide (y ≤ x)))
      | _ => False)
    | isFalse _ => False)
  | .str x, .str y => (match op with
    | .add => Need (x.size + y.size ≤ 9223372036854775807) (K (.str (x ++ y)))
    | .eql => K (.bool (x.toList == y.toList))
    | .neq => K (.bool !(x.toList == y.toList))
    | _ => False)
  | .bool x, .bool y => (match tk, op with
    | .bool, .eql => K (.bool (x == y))
    | .bool, .neq => K (.bool !(x == y))
    | _, _ => False)
  | .bool x, .tt => (match tk, op with
    | .bool, .eql => K (.bool x)
    | .bool, .neq => K (.bool !x)
    | _, _ => False)
  | .bool x, .ff => (match tk, op with
    | .bool, .eql => K (.bool !x)
    | .bool, .neq => K (.bool x)
    | _, _ => False)
  | d, e => nilK d e fun r => (match tk, op with
    | .ptr _, .eql => K (.bool r)
    | .ptr _, .neq => K (.bool !r)
    | _, _ => False)
where
  /-- a pointer held against nil -/
  isN (v : V) (K : Bool → Prop) : Prop := match v with
    | .nilp => K true
    | .ptr .. | .eptr .. | .aptr .. | .iptr .. | .box .. | .fptr .. | .feptr .. | .faptr .. => K false
    | .hpo _ o => K o.isNone
    | .obo _ o => K o.isNone
    | _ => False
  nilK (d e : V) (K : Bool → Prop) : Prop := match d, e with
    | .nilp, e => isN e K
    | d, .nilp => isN d K
    | _, _ => False
/-- what a binary operation gives -/
def aBinA (P : Program) (op : BinOp) (T : TypeId) (d e : D) : Option D :=
  match aBin op d e with
  | some r => some r
  | none => (match aBinP P op T d e with
    | some r => some r
    | none => aBoolEq op T P d e)
theorem isN_ok {v : V} {K : Bool → Prop} (hk : binK.isN v K) : ∃ r, ((r = true ∧ v.toD = .nilp) ∨ (r = false ∧ isPtr v.toD = true ∧ v.toD ≠ .nilp)) ∧ K r := by
  unfold binK.isN at hk
  split at hk
  · exact ⟨true, .inl ⟨rfl, rfl⟩, hk⟩
  all_goals first | exact hk.elim | exact ⟨false, .inr ⟨rfl, rfl, by simp [V.toD]⟩, hk⟩ | skip
  · rename_i k o
    cases o with
    | none => exact ⟨true, .inl ⟨rfl, rfl⟩, hk⟩
    | some i => exact ⟨false, .inr ⟨rfl, rfl, by simp [V.toD, hpD]⟩, hk⟩
  · rename_i t o
    cases o with
    | none => exact ⟨true, .inl ⟨rfl, rfl⟩, hk⟩
    | some i => exact ⟨false, .inr ⟨rfl, rfl, by simp [V.toD, encD]⟩, hk⟩
theorem nilK_any {d e : V} {K : Bool → Prop} (hk : binK.nilK d e K) : ∃ r, K r := by
  unfold binK.nilK at hk
  split at hk
  · obtain ⟨r, _, h2⟩ := isN_ok hk; exact ⟨r, h2⟩
  · obtain ⟨r, _, h2⟩ := isN_ok hk; exact ⟨r, h2⟩
  · exact hk.elim
theorem nilK_ok {P : Program} {op : BinOp} {T E : TypeId} (hu : P.underlying T = some (.pointer E)) {d e : V} {K : Bool → Prop} (hk : binK.nilK d e K) :
    ∃ r, aBinA P .eql T d.toD e.toD = some (.bool r) ∧ aBinA P .neq T d.toD e.toD = some (.bool !r) ∧ K r := by
  unfold binK.nilK at hk
  have key : ∀ x : D, isPtr x = true → x ≠ .nilp → (∀ op, aBin op .nilp x = none ∧ aBin op x .nilp = none) := by
    intro x hx hn op
    cases x <;> simp [isPtr] at hx <;> exact ⟨rfl, rfl⟩
  split at hk
  · obtain ⟨r, h1, h2⟩ := isN_ok hk
    refine ⟨r, ?_, ?_, h2⟩ <;> rcases h1 with ⟨rfl, h1⟩ | ⟨rfl, h1, h3⟩
    · simp [aBinA, V.toD, h1, aBin, aBinP, hu]
    · simp only [aBinA, V.toD, (key _ h1 h3 _).1, aBinP, hu]
      generalize e.toD = x at *
      cases x <;> simp [isPtr] at h1 <;> simp [isPtr]
    · simp [aBinA, V.toD, h1, aBin, aBinP, hu]
    · simp only [aBinA, V.toD, (key _ h1 h3 _).1, aBinP, hu]
      generalize e.toD = x at *
      cases x <;> simp [isPtr] at h1 <;> simp [isPtr]
  · obtain ⟨r, h1, h2⟩ := isN_ok hk
    refine ⟨r, ?_, ?_, h2⟩ <;> rcases h1 with ⟨rfl, h1⟩ | ⟨rfl, h1, h3⟩
    · simp [aBinA, V.toD, h1, aBin, aBinP, hu]
    · simp only [aBinA, V.toD, (key _ h1 h3 _).2, aBinP, hu]
      generalize d.toD = x at *
      cases x <;> simp [isPtr] at h1 <;> simp [isPtr]
    · simp [aBinA, V.toD, h1, aBin, aBinP, hu]
    · simp only [aBinA, V.toD, (key _ h1 h3 _).2, aBinP, hu]
      generalize d.toD = x at *
      cases x <;> simp [isPtr] at h1 <;> simp [isPtr]
  · exact hk.elim
theorem binK_ok {P : Program} {op : BinOp} {T : TypeId} {tk : TK} (ht : tk.ok P T) {d e : V} {K : V → Prop} (hk : binK op tk d e K) : ∃ r, aBinA P op T d.toD e.toD = some r.toD ∧ K r := by
  unfold binK at hk
  split at hk
  · rename_i k x k' y
    split at hk
    · rename_i e' _
      subst e'
      split at hk
      · exact ⟨_, by simp only [aBinA, V.toD, aBin, if_true], hk.ok⟩
      · exact ⟨_, by simp only [aBinA, V.toD, aBin, if_true], hk.ok⟩
      · exact ⟨_, by simp only [aBinA, V.toD, aBin, if_true], hk.ok⟩
      · exact ⟨_, by simp only [aBinA, V.toD, aBin, if_true, if_neg hk.1], hk.2.ok⟩
      · exact ⟨_, by simp only [aBinA, V.toD, aBin, if_true, if_neg hk.1], hk.2⟩
      all_goals first | exact hk.elim | exact ⟨_, by simp only [aBinA, V.toD, aBin, if_true], hk⟩
    · exact hk.elim
  · split at hk
    · exact ⟨_, by simp only [aBinA, V.toD, aBin, if_pos hk.1], hk.2⟩
    all_goals first | exact hk.elim | exact ⟨_, by simp only [aBinA, V.toD, aBin], hk⟩
  · split at hk
    · have hu : P.underlying T = some .bool := ht
      exact ⟨_, by simp [aBinA, V.toD, aBin, aBinP, aBoolEq, hu], hk⟩
    · have hu : P.underlying T = some .bool := ht
      exact ⟨_, by simp [aBinA, V.toD, aBin, aBinP, aBoolEq, hu], hk⟩
    · exact hk.elim
  · rename_i x
    split at hk
    · have hu : P.underlying T = some .bool := ht
      exact ⟨.bool x, by cases x <;> simp [aBinA, V.toD, aBin, aBinP, aBoolEq, hu], hk⟩
    · have hu : P.underlying T = some .bool := ht
      exact ⟨.bool !x, by cases x <;> simp [aBinA, V.toD, aBin, aBinP, aBoolEq, hu], hk⟩
    · exact hk.elim
  · rename_i x
    split at hk
    · have hu : P.underlying T = some .bool := ht
      exact ⟨.bool !x, by cases x <;> simp [aBinA, V.toD, aBin, aBinP, aBoolEq, hu], hk⟩
    · have hu : P.underlying T = some .bool := ht
      exact ⟨.bool x, by cases x <;> simp [aBinA, V.toD, aBin, aBinP, aBoolEq, hu], hk⟩
    · exact hk.elim
  · split at hk
    · rename_i E
      obtain ⟨r, h1, h2, h3⟩ := nilK_ok (op := .eql) (show P.underlying T = some (.pointer E) from ht) hk
      exact ⟨.bool r, h1, h3⟩
    · rename_i E
      obtain ⟨r, h1, h2, h3⟩ := nilK_ok (op := .eql) (show P.underlying T = some (.pointer E) from ht) hk
      exact ⟨.bool !r, h2, h3⟩
    · exact (nilK_any hk).elim fun _ h => h.elim
def unK (op : UnOp) (d : V) (K : V → Prop) : Prop :=
  match d, op with
  | .int k n, .neg => Ari k (0 - n) fun z => K (.int k z)
  | .bool b, .not => K (.bool !b)
  | .tt, .not => K .ff
  | .ff, .not => K .tt
  | _, _ => False
theorem unK_ok {op : UnOp} {d : V} {K : V → Prop} (hk : unK op d K) : ∃ r, aUn op d.toD = some r.toD ∧ K r := by
  unfold unK at hk
  split at hk
  · exact ⟨_, by simp only [V.toD, aUn], hk.ok⟩
  · exact ⟨_, by simp only [V.toD, aUn], hk⟩
  · exact ⟨.ff, rfl, hk⟩
  · exact ⟨.tt, rfl, hk⟩
  · exact hk.elim
end Go.Proofs.Ytkclhekkcffpoaa.Am
