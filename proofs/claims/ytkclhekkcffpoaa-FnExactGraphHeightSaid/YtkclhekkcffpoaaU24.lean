/- The plain machine with types: a variable with a table of nil pointers. -/
import Derived.Test.YtkclhekkcffpoaaU23
namespace Go.Proofs.Ytkclhekkcffpoaa.Am
set_option linter.unusedSimpArgs false
set_option linter.unusedVariables false
open Go Go.RowKit

variable {P : Program} {N : Nat} {K : Id → Prop}
def allNilp : List V → Nat → Bool
  | [], 0 => true
  | .nilp :: l, m + 1 => allNilp l m
  | _, _ => false
theorem allNilp_ok {k : Nat} : ∀ {l : List V} {m : Nat}, allNilp l m = true → toDL l = (List.replicate m (none : Option Nat)).map (encD (.hp k))
  | [], 0, _ => rfl
  | .nilp :: l, m + 1, h => by
    simp only [toDL, List.replicate_succ, List.map_cons]
    rw [allNilp_ok (k := k) (l := l) (m := m) h]
    rfl
  | [], m + 1, h => by cases h
  | v :: l, 0, h => by cases v <;> cases h
  | .int .. :: _, _ + 1, h | .bool _ :: _, _ + 1, h | .tt :: _, _ + 1, h | .ff :: _, _ + 1, h | .str _ :: _, _ + 1, h | .lst .. :: _, _ + 1, h | .box .. :: _, _ + 1, h | .agg _ :: _, _ + 1, h | .tup _ :: _, _ + 1, h
  | .nils :: _, _ + 1, h | .nilf :: _, _ + 1, h | .nili :: _, _ + 1, h | .ifc .. :: _, _ + 1, h | .clo .. :: _, _ + 1, h | .ref _ :: _, _ + 1, h | .ptr .. :: _, _ + 1, h | .eptr .. :: _, _ + 1, h | .iptr .. :: _, _ + 1, h
  | .vref .. :: _, _ + 1, h | .aptr .. :: _, _ + 1, h | .fref .. :: _, _ + 1, h | .fptr .. :: _, _ + 1, h | .feptr .. :: _, _ + 1, h | .faptr .. :: _, _ + 1, h | .hro .. :: _, _ + 1, h | .hpo .. :: _, _ + 1, h | .obo .. :: _, _ + 1, h
  | .undef :: _, _ + 1, h | .junk :: _, _ + 1, h => by cases h
def tabK (h : VH) (b p m k : Nat) (K : VH → Prop) : Prop :=
  blkK h b fun x => (match x with
    | .var T cs => takeN cs p fun pre => Mk (allNilp (cs.drop p) m) (putK b (.vari T pre m (.hp k) (List.replicate m none) []) h K)
    | _ => False)
/-- behind the first p cells of variable b lie m nil pointers -/
theorem at_tab {c : Code} {Q : Exit → VSt → Prop} {t : VT} {h : VH} {n : Nat} (b p m k : Nat) (hk : tabK h b p m k fun h' => At P N K c Q ⟨t, h', n⟩) : At P N K c Q ⟨t, h, n⟩ := by
  obtain ⟨x, h1, hk⟩ := blkK_ok hk
  split at hk
  · rename_i T cs
    obtain ⟨hl, c1, hk⟩ := takeN_ok hk
    have ha := putK_ok hk
    refine at_weak (σ' := ⟨t, put b _ h, n⟩) (fun _ _ _ _ _ _ hs => hs.congr (fun _ => rfl) (fun d => ?_) rfl) ha
    show look (toH (put b _ h)) d = look (toH h) d
    rw [look_toH, look_toH, look_put]
    split
    · rename_i e
      rw [e, h1]
      have : VB.blks (.vari T (cs.take p) m (.hp k) (List.replicate m none) []) = VB.blks (.var T cs) := by
        simp only [VB.blks, toDL, List.append_nil]
        rw [← allNilp_ok (k := k) c1]
        congr 2
        rw [toDL_eq, toDL_eq, toDL_eq, ← List.map_append, List.take_append_drop]
      simp only [Option.bind_some, this]
    · rfl
  · exact hk.elim
end Go.Proofs.Ytkclhekkcffpoaa.Am
