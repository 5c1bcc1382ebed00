/- The plain machine: operands, scalars, parts of values. -/
import Derived.Test.YtkclhekkcffpoaaB1
import Derived.WalkSpells
import Derived.WalkLawsBesides
namespace Go.Proofs.Ytkclhekkcffpoaa.Am
set_option linter.unusedSimpArgs false
set_option linter.unusedVariables false
open Go Go.RowKit

section
variable {ρ : Id → Pl} {L : Id → Prop} {ok : Nat → Prop} {w : World}

theorem C.int_inv {k : IntKind} {n : Int} {v : Value} (h : C ρ L ok w (.int k n) v) : v = .int k n := by cases h with | pure h => cases h; rfl
theorem C.bool_inv {b : Bool} {v : Value} (h : C ρ L ok w (.bool b) v) : v = .bool b := by cases h with | pure h => cases h; rfl
theorem C.str_inv {s : ByteArray} {v : Value} (h : C ρ L ok w (.str s) v) : v = .string s := by cases h with | pure h => cases h; rfl
theorem C.nilp_inv {v : Value} (h : C ρ L ok w .nilp v) : v = .pointer none := by cases h with | pure h => cases h; rfl
theorem C.nilf_inv {v : Value} (h : C ρ L ok w .nilf v) : v = .nilFunc := by cases h with | pure h => cases h; rfl
theorem C.nili_inv {v : Value} (h : C ρ L ok w .nili v) : v = .nilIface := by cases h with | pure h => cases h; rfl
theorem C.ifc_inv {T : TypeId} {d : D} {v : Value} (h : C ρ L ok w (.ifc T d) v) : ∃ v', v = .iface T v' ∧ C ρ L ok w d v' := by
  cases h with | pure h => cases h | ifc _ _ v' h => exact ⟨v', rfl, h⟩
theorem C.clo_inv {f : FuncId} {cs : List D} {v : Value} (h : C ρ L ok w (.clo f cs) v) : ∃ vs : Array Value, v = .func (.func f) #[] vs ∧ cs.length = vs.size ∧ ∀ i, i < cs.length → C ρ L ok w (cs.getD i .undef) (vs.getD i undef) := by
  cases h with | pure h => cases h | clo _ _ vs hl h => exact ⟨vs, rfl, hl, h⟩
theorem C.junk_inv {v : Value} (h : C ρ L ok w .junk v) : v.oneCell' = true := by
  cases h with | pure h => cases h | junk _ h => exact h
theorem C.nils_inv {v : Value} (h : C ρ L ok w .nils v) : v = .slice none 0 0 := by cases h with | pure h => cases h; rfl
theorem C.ref_inv {b : Id} {v : Value} (h : C ρ L ok w (.ref b) v) : L b ∧ v = .slice (some ⟨(ρ b).blk, 0, none⟩) (ρ b).len (ρ b).cap := by
  cases h with | pure h => cases h | ref b hb => exact ⟨hb, rfl⟩
theorem C.ptr_inv {b : Id} {o : Nat} {v : Value} (h : C ρ L ok w (.ptr b o) v) : L b ∧ v = .pointer (some ⟨(ρ b).blk, o, none⟩) := by
  cases h with | pure h => cases h | ptr b o hb => exact ⟨hb, rfl⟩
theorem C.eptr_inv {b : Id} {i o : Nat} {v : Value} (h : C ρ L ok w (.eptr b i o) v) : L b ∧ v = .pointer (some ⟨(ρ b).blk, i * (ρ b).sz + o, none⟩) := by
  cases h with | pure h => cases h | eptr b i o hb => exact ⟨hb, rfl⟩
theorem C.vref_inv {b : Id} {o n : Nat} {v : Value} (h : C ρ L ok w (.vref b o n) v) : L b ∧ n ≤ maxLen ∧ v = .slice (some ⟨(ρ b).blk, o, none⟩) n n := by
  cases h with | pure h => cases h | vref b o n hb hn => exact ⟨hb, hn, rfl⟩
theorem C.lst_inv {l : List D} {v : Value} (h : C ρ L ok w (.lst l) v) : Rep ok w (.lst l) v := by cases h with | pure h => exact h
theorem C.box_inv {l : List D} {v : Value} (h : C ρ L ok w (.box l) v) : Rep ok w (.box l) v := by cases h with | pure h => exact h
theorem C.iptr_inv {e : D} {o : Nat} {v : Value} (h : C ρ L ok w (.iptr e o) v) : ∃ (b off : Nat) (f : Nat → Value), v = .pointer (some ⟨b, off + o, none⟩) ∧ ok b ∧
      (∀ j, j < e.cells.length → w.cell? ⟨b, off + j, none⟩ = some (f j)) ∧ (∀ j, j < e.cells.length → Rep ok w (e.cells.getD j .undef) (f j)) := by
  cases h with | pure h => cases h | iptr e o b off f hok hc hr => exact ⟨b, off, f, rfl, hok, hc, hr⟩
theorem C.agg_inv {cs : List D} {v : Value} (h : C ρ L ok w (.agg cs) v) : ∃ vs : Array Value, v = .agg vs ∧ cs.length = vs.size ∧ ∀ i, i < cs.length → C ρ L ok w (cs.getD i .undef) (vs.getD i undef) := by
  cases h with
  | pure h => cases h with | agg _ vs hl h => exact ⟨vs, rfl, hl, fun i hi => .pure (h i hi)⟩
  | agg _ vs hl h => exact ⟨vs, rfl, hl, h⟩
theorem C.tup_inv {cs : List D} {v : Value} (h : C ρ L ok w (.tup cs) v) : ∃ vs : Array Value, v = .tuple vs ∧ cs.length = vs.size ∧ ∀ i, i < cs.length → C ρ L ok w (cs.getD i .undef) (vs.getD i undef) := by
  cases h with
  | pure h => cases h with | tup _ vs hl h => exact ⟨vs, rfl, hl, fun i hi => .pure (h i hi)⟩
  | tup _ vs hl h => exact ⟨vs, rfl, hl, h⟩

theorem C.int (k : IntKind) (n : Int) : C ρ L ok w (.int k n) (.int k n) := .pure (.int k n)
theorem C.bool (b : Bool) : C ρ L ok w (.bool b) (.bool b) := .pure (.bool b)
theorem C.str (s : ByteArray) : C ρ L ok w (.str s) (.string s) := .pure (.str s)

theorem C.cells {d : D} {v : Value} (h : C ρ L ok w d v) (hd : d ≠ .undef) (ht : ∀ cs, d ≠ .tup cs) : v.cells.size = d.cells.length ∧ ∀ i, i < d.cells.length → C ρ L ok w (d.cells.getD i .undef) (v.cells.getD i undef) := by
  have one : ∀ {d : D} {v : Value}, C ρ L ok w d v → d.cells = [d] → v.cells = #[v] → v.cells.size = d.cells.length ∧ ∀ i, i < d.cells.length → C ρ L ok w (d.cells.getD i .undef) (v.cells.getD i undef) := by
    intro d v h e1 e2
    rw [e1, e2]
    refine ⟨rfl, fun i hi => ?_⟩
    obtain rfl : i = 0 := by simp at hi; omega
    exact h
  cases h with
  | pure h => cases h with
    | agg cs vs hl h => exact ⟨by simp [Value.cells, D.cells, hl], fun i hi => .pure (h i hi)⟩
    | tup cs vs hl h => exact absurd rfl (ht _)
    | int k n => exact one (.int _ _) rfl rfl
    | bool b => exact one (.bool _) rfl rfl
    | str s => exact one (.str _) rfl rfl
    | none a cap ha hc => exact one (.pure (.none a cap ha hc)) rfl rfl
    | lst l n b off cap f hn hcap hmax hok hsz hpos hc hr => exact one (.pure (.lst l n b off cap f hn hcap hmax hok hsz hpos hc hr)) rfl rfl
    | box cs b off f hok hpos hc hr => exact one (.pure (.box cs b off f hok hpos hc hr)) rfl rfl
    | nilp => exact one (.pure .nilp) rfl rfl
    | nils => exact one (.pure .nils) rfl rfl
    | nilf => exact one (.pure .nilf) rfl rfl
    | nili => exact one (.pure .nili) rfl rfl
  | ref b hb => exact one (.ref b hb) rfl rfl
  | ptr b o hb => exact one (.ptr b o hb) rfl rfl
  | eptr b i o hb => exact one (.eptr b i o hb) rfl rfl
  | vref b o n hb hn => exact one (.vref b o n hb hn) rfl rfl
  | iptr e o b off f hok hc hr => exact one (.iptr e o b off f hok hc hr) rfl rfl
  | agg cs vs hl h => exact ⟨by simp [Value.cells, D.cells, hl], h⟩
  | tup cs vs hl h => exact absurd rfl (ht _)
  | ifc T d v h => exact one (.ifc T d v h) rfl rfl
  | clo f cs vs hl h => exact one (.clo f cs vs hl h) rfl rfl
  | junk v hv => exact one (.junk v hv) rfl (by cases v <;> first | rfl | cases hv)
  | any v => exact absurd rfl hd

/-- one cell's value is stored as it is -/
theorem C.oneCell {d : D} {v : Value} (h : C ρ L ok w d v) (hd : d.one = true) : v.oneCell' = true := by
  cases h with
  | pure h => cases h <;> first | rfl | simp [D.one] at hd
  | agg cs vs hl h => simp [D.one] at hd
  | tup cs vs hl h => simp [D.one] at hd
  | any v => simp [D.one] at hd
  | junk v hv => exact hv
  | _ => rfl
end

def ofVal : Value → Option D
  | .int k n => some (.int k n)
  | .bool b => some (.bool b)
  | .string s => some (.str s)
  | .pointer none => some .nilp
  | .slice none 0 0 => some .nils
  | .nilFunc => some .nilf
  | .nilIface => some .nili
  | _ => none
theorem ofVal_ok {ok : Nat → Prop} {w : World} {v : Value} {d : D} (h : ofVal v = some d) : Rep ok w d v := by
  unfold ofVal at h
  split at h <;> simp only [Option.some.injEq, reduceCtorEq] at h <;> subst h
  · exact .int _ _
  · exact .bool _
  · exact .str _
  · exact .nilp
  · exact .nils
  · exact .nilf
  · exact .nili

def evalD (t : List (Nat × D)) : Operand → Option D
  | .tmp k => look t k
  | .const v => ofVal v
  | _ => none

variable {P : Program} {w0 : World} {S A : Nat → Prop} {N : Nat} {ρ : Id → Pl} {t : List (Nat × D)} {h : HL} {a : Act} {w : World}

theorem Sim.eval (s : Sim P w0 S A N ρ t h a w) {x : Operand} {d : D} (hd : evalD t x = some d) : C ρ (Live h) (okOf A ρ h w) w d (a.eval x) := by
  cases x with
  | tmp k => exact (s.tmp k d hd).2
  | const v => exact .pure (ofVal_ok hd)
  | global g => cases hd
  | func f => cases hd

/-! ### Scalars -/
def aBin (op : BinOp) : D → D → Option D
  | .int k x, .int k' y => if k = k' then (match op with
    | .add => some (.int k (k.wrap (x + y)))
    | .sub => some (.int k (k.wrap (x - y)))
    | .mul => some (.int k (k.wrap (x * y)))
    | .quo => if y = 0 then none else some (.int k (k.wrap (x.tdiv y)))
    | .rem => if y = 0 then none else some (.int k (x.tmod y))
    | .and => some (.int k (k.wrap (BitVec.ofInt k.bits x &&& BitVec.ofInt k.bits y).toNat))
    | .or => some (.int k (k.wrap (BitVec.ofInt k.bits x ||| BitVec.ofInt k.bits y).toNat))
    | .xor => some (.int k (k.wrap (BitVec.ofInt k.bits x ^^^ BitVec.ofInt k.bits y).toNat))
    | .eql => some (.bool (x == y))
    | .neq => some (.bool (x != y))
    | .lss => some (.bool (decide (x < y)))
    | .leq => some (.bool (decide (x ≤ y)))
    | .gtr => some (.bool (decide (y < x)))
    | .geq => some (.bool (decide (y ≤ x)))
    | _ => none) else none
  | .str x, .str y => match op with
    | .add => if x.size + y.size ≤ 9223372036854775807 then some (.str (x ++ y)) else none
    | .eql => some (.bool (x.toList == y.toList))
    | .neq => some (.bool !(x.toList == y.toList))
    | _ => none
  | _, _ => none

theorem aBin_ok {op : BinOp} {T : TypeId} {x y : Operand} {d1 d2 d : D} {v1 v2 : Value} {L : Id → Prop} {ok : Nat → Prop} (hd : aBin op d1 d2 = some d) (h1 : C ρ L ok w d1 v1) (h2 : C ρ L ok w d2 v2) :
    ∃ v, (do eqGuard op T x y v1 v2; binOp op T v1 v2 : Sem Value).run P w = .ok v w ∧ Rep ok w d v := by
  unfold aBin at hd
  split at hd
  · rename_i k n k' m
    obtain rfl := h1.int_inv
    obtain rfl := h2.int_inv
    split at hd
    · rename_i hk
      subst hk
      have hg : eqGuard op T x y (.int k n) (.int k m) = pure () := by unfold eqGuard; split <;> rfl
      rw [hg]
      split at hd
      all_goals first
        | (simp only [Option.some.injEq] at hd; subst hd; exact ⟨_, rfl, by constructor⟩)
        | (split at hd
           · cases hd
           · rename_i h0; simp only [Option.some.injEq] at hd; subst hd; refine ⟨_, ?_, .int _ _⟩; simp [binOp, Op.intDiv, h0, go_sem])
        | (cases hd; done)
        | skip
      all_goals (simp only [Option.some.injEq] at hd; subst hd; refine ⟨_, ?_, by constructor⟩; simp [binOp, Op.intArith, Op.intBits, Op.intCmp, go_sem])
    · cases hd
  · rename_i s u
    obtain rfl := h1.str_inv
    obtain rfl := h2.str_inv
    have hg : eqGuard op T x y (.string s) (.string u) = pure () := by unfold eqGuard; split <;> rfl
    rw [hg]
    split at hd
    · split at hd
      · rename_i hle
        simp only [Option.some.injEq] at hd
        subst hd
        refine ⟨_, ?_, .str _⟩
        simp [binOp, Op.stringOp, go_sem]
        omega
      · cases hd
    · simp only [Option.some.injEq] at hd; subst hd; refine ⟨_, ?_, .bool _⟩; simp [binOp, Op.stringOp, go_sem]
    · simp only [Option.some.injEq] at hd; subst hd; refine ⟨_, ?_, .bool _⟩; simp [binOp, Op.stringOp, go_sem]
    · cases hd
  · cases hd

def aUn (op : UnOp) : D → Option D
  | .int k n => match op with | .neg => some (.int k (k.wrap (0 - n))) | _ => none
  | .bool b => match op with | .not => some (.bool !b) | _ => none
  | _ => none
theorem aUn_ok {op : UnOp} {d1 d : D} {v1 : Value} {L : Id → Prop} {ok : Nat → Prop} (hd : aUn op d1 = some d) (h1 : C ρ L ok w d1 v1) : ∃ v, (Op.unary op v1).run P w = .ok v w ∧ Rep ok w d v := by
  unfold aUn at hd
  split at hd
  · obtain rfl := h1.int_inv
    split at hd
    · simp only [Option.some.injEq] at hd; subst hd; exact ⟨_, rfl, .int _ _⟩
    · cases hd
  · obtain rfl := h1.bool_inv
    split at hd
    · simp only [Option.some.injEq] at hd; subst hd; exact ⟨_, rfl, .bool _⟩
    · cases hd
  · cases hd
end Go.Proofs.Ytkclhekkcffpoaa.Am
