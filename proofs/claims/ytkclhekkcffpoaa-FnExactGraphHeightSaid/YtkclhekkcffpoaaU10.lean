/- The plain machine with types: calls. -/
import Derived.Test.YtkclhekkcffpoaaU9
namespace Go.Proofs.Ytkclhekkcffpoaa.Am
set_option linter.unusedSimpArgs false
set_option linter.unusedVariables false
open Go Go.RowKit

variable {P : Program} {os fs : List Nat} {n : Nat} {h : VH}

/-- as the callee sees it -/
def Vw (os fs : List Nat) (n : Nat) (h : VH) (ws : List Nat) (v v' : V) : Prop := ∀ hin, HinOK os fs h hin → ∀ W : List Id, (∀ b ∈ ws, (b, 0) ∈ W) → View (toH h) (gI (gN os n)) hin W fs v.toD v'.toD
def Vws (os fs : List Nat) (n : Nat) (h : VH) (ws : List Nat) (l l' : List V) : Prop := (toDL l).length = (toDL l').length ∧ ∀ hin, HinOK os fs h hin → ∀ W : List Id, (∀ b ∈ ws, (b, 0) ∈ W) → ∀ i, i < (toDL l).length → View (toH h) (gI (gN os n)) hin W fs ((toDL l).getD i .undef) ((toDL l').getD i .undef)
theorem vw_leaf {v v' : V} {ws : List Nat} (hd : leaf v.toD = some v'.toD) : Vw os fs n h ws v v' := fun _ _ _ _ => view_leaf hd
mutual
theorem viewV_ok : ∀ {v : V} {K : V → List Nat → Prop}, viewV os fs h v K → ∃ v' ws, Vw os fs n h ws v v' ∧ (∀ b ∈ ws, RdOK h os b) ∧ K v' ws
  | .ref b, K, hk => by
    simp only [viewV] at hk
    obtain ⟨r, r1, r2, hk⟩ := posK_ok hk
    split at hk
    · obtain ⟨m, rfl, hm⟩ := r2 _ rfl
      exact ⟨_, _, fun hin H W _ => view_ref H hm, by simp, hk⟩
    · split at hk
      · rename_i E t xs hb
        obtain ⟨c, hk⟩ := hk.ok
        rw [lookO_ok] at hb
        exact ⟨_, _, fun hin H W hW => view_rd (hW b (by simp)) (.inl ⟨E, c, hb⟩), fun b' hb' => by simp at hb'; subst hb'; exact ⟨r1 rfl, .inl ⟨E, t, xs, c, hb⟩⟩, hk⟩
      · rename_i t xs hb
        rw [lookO_ok] at hb
        exact ⟨_, _, fun hin H W hW => view_rd (hW b (by simp)) (.inr hb), fun b' hb' => by simp at hb'; subst hb'; exact ⟨r1 rfl, .inr (.inl ⟨t, xs, hb⟩)⟩, hk⟩
      · exact hk.elim
  | .ptr b o, K, hk => by
    simp only [viewV] at hk
    obtain ⟨r, r1, r2, hk⟩ := posK_ok hk
    split at hk
    · obtain ⟨m, rfl, hm⟩ := r2 _ rfl
      exact ⟨_, _, fun hin H W _ => view_ptr H hm o, by simp, hk⟩
    · split at hk
      · rename_i t x hb _
        rw [lookO_ok] at hb
        have hl := look_at (i := 0) hb (d := .fvar (encD t x).cells) rfl
        refine ⟨_, _, fun hin H W hW => .pure 1 _ _ (by simp only [V.toD, purD, hl]) fun c hc => ?_, fun b' hb' => by simp at hb'; subst hb'; exact ⟨r1 rfl, .inr (.inr ⟨t, x, hb⟩)⟩, hk⟩
        simp only [V.toD, idsD, hl, List.mem_cons, List.not_mem_nil, or_false] at hc
        subst hc
        exact hW b (by simp)
      · exact hk.elim
  | .eptr b j o, K, hk => by
    simp only [viewV] at hk
    obtain ⟨r, r1, r2, hk⟩ := posK_ok hk
    split at hk
    · obtain ⟨m, rfl, hm⟩ := r2 _ rfl
      exact ⟨_, _, fun hin H W _ => view_eptr H hm j o, by simp, hk⟩
    · exact hk.elim
  | .vref b o q, K, hk => by
    simp only [viewV] at hk
    obtain ⟨r, r1, r2, hk⟩ := posK_ok hk
    split at hk
    · obtain ⟨m, rfl, hm⟩ := r2 _ rfl
      exact ⟨_, _, fun hin H W _ => view_vref H hm o q, by simp, hk⟩
    · exact hk.elim
  | .aptr b p j, K, hk => by
    simp only [viewV] at hk
    obtain ⟨r, r1, r2, hk⟩ := posK_ok hk
    split at hk
    · obtain ⟨m, rfl, hm⟩ := r2 _ rfl
      exact ⟨_, _, fun hin H W _ => view_ptr H hm (p + j), by simp, hk⟩
    · exact hk.elim
  | .fref k i, K, hk => by
    simp only [viewV] at hk
    obtain ⟨c, hk⟩ := hk.ok
    exact ⟨_, _, fun hin H W _ => view_fref H (by simpa using c) i, by simp, hk⟩
  | .fptr k i o, K, hk => by
    simp only [viewV] at hk
    obtain ⟨c, hk⟩ := hk.ok
    exact ⟨_, _, fun hin H W _ => view_fptr H (by simpa using c) i o, by simp, hk⟩
  | .feptr k i j o, K, hk => by
    simp only [viewV] at hk
    obtain ⟨c, hk⟩ := hk.ok
    exact ⟨_, _, fun hin H W _ => view_feptr H (by simpa using c) i j o, by simp, hk⟩
  | .faptr k i p j, K, hk => by
    simp only [viewV] at hk
    obtain ⟨c, hk⟩ := hk.ok
    exact ⟨_, _, fun hin H W _ => view_fptr H (by simpa using c) i (p + j), by simp, hk⟩
  | .hro k o, K, hk => by
    simp only [viewV] at hk
    obtain ⟨c, hk⟩ := hk.ok
    exact ⟨_, _, fun hin H W _ => view_hr H (by simpa using c) o, by simp, hk⟩
  | .hpo k o, K, hk => by
    simp only [viewV] at hk
    obtain ⟨c, hk⟩ := hk.ok
    exact ⟨_, _, fun hin H W _ => view_hp H (by simpa using c) o, by simp, hk⟩
  | .agg cs, K, hk => by
    simp only [viewV] at hk
    obtain ⟨cs', ws, h1, h2, h3⟩ := viewVs_ok hk
    exact ⟨_, ws, fun hin H W hW => by simp only [V.toD]; exact .agg _ _ h1.1 (h1.2 hin H W hW), h2, h3⟩
  | .clo f cs, K, hk => by
    simp only [viewV] at hk
    obtain ⟨cs', ws, h1, h2, h3⟩ := viewVs_ok hk
    exact ⟨_, ws, fun hin H W hW => by simp only [V.toD]; exact .clo f _ _ h1.1 (h1.2 hin H W hW), h2, h3⟩
  | .ifc T v, K, hk => by
    simp only [viewV] at hk
    obtain ⟨v', ws, h1, h2, h3⟩ := viewV_ok hk
    exact ⟨_, ws, fun hin H W hW => by simp only [V.toD]; exact .ifc T _ _ (h1 hin H W hW), h2, h3⟩
  | .nils, K, hk => ⟨_, [], vw_leaf (v' := .lst (.int .i64) []) rfl, by simp, by simpa only [viewV] using hk⟩
  | .int k m, K, hk => ⟨_, [], vw_leaf (v' := .int k m) rfl, by simp, by simpa only [viewV] using hk⟩
  | .bool b, K, hk => ⟨_, [], vw_leaf (v' := .bool b) rfl, by simp, by simpa only [viewV] using hk⟩
  | .tt, K, hk => ⟨_, [], vw_leaf (v' := .tt) rfl, by simp, by simpa only [viewV] using hk⟩
  | .ff, K, hk => ⟨_, [], vw_leaf (v' := .ff) rfl, by simp, by simpa only [viewV] using hk⟩
  | .str s, K, hk => ⟨_, [], vw_leaf (v' := .str s) rfl, by simp, by simpa only [viewV] using hk⟩
  | .lst t xs, K, hk => ⟨_, [], vw_leaf (v' := .lst t xs) rfl, by simp, by simpa only [viewV] using hk⟩
  | .box t x, K, hk => ⟨_, [], vw_leaf (v' := .box t x) rfl, by simp, by simpa only [viewV] using hk⟩
  | .nilp, K, hk => ⟨_, [], vw_leaf (v' := .nilp) rfl, by simp, by simpa only [viewV] using hk⟩
  | .nilf, K, hk => ⟨_, [], vw_leaf (v' := .nilf) rfl, by simp, by simpa only [viewV] using hk⟩
  | .nili, K, hk => ⟨_, [], vw_leaf (v' := .nili) rfl, by simp, by simpa only [viewV] using hk⟩
  | .obo t o, K, hk => ⟨_, [], vw_leaf (v' := .obo t o) (by cases o <;> rfl), by simp, by simpa only [viewV] using hk⟩
  | .junk, K, hk => ⟨_, [], fun _ _ _ _ => .junk, by simp, by simpa only [viewV] using hk⟩
  | .tup _, K, hk | .iptr .., K, hk | .undef, K, hk => by simp only [viewV] at hk
theorem viewVs_ok : ∀ {l : List V} {K : List V → List Nat → Prop}, viewVs os fs h l K → ∃ l' ws, Vws os fs n h ws l l' ∧ (∀ b ∈ ws, RdOK h os b) ∧ K l' ws
  | [], K, hk => ⟨[], [], ⟨rfl, fun hin H W _ i hi => by simp [toDL] at hi⟩, by simp, by simpa only [viewVs] using hk⟩
  | v :: l, K, hk => by
    simp only [viewVs] at hk
    obtain ⟨v', ws, h1, h2, hk⟩ := viewV_ok hk
    obtain ⟨l', ws', h3, h4, hk⟩ := viewVs_ok hk
    refine ⟨v' :: l', ws ++ ws', ⟨by simp only [toDL, List.length_cons, h3.1], fun hin H W hW i hi => ?_⟩, fun b hb => ?_, hk⟩
    · cases i with
      | zero => simpa [toDL] using h1 hin H W fun b hb => hW b (List.mem_append_left _ hb)
      | succ i =>
        have := h3.2 hin H W (fun b hb => hW b (List.mem_append_right _ hb)) i (by simpa [toDL] using hi)
        simpa [toDL] using this
    · rcases List.mem_append.1 hb with hb | hb
      · exact h2 b hb
      · exact h4 b hb
end

/-! ### The blocks that are handed over -/
/-- nil slices stay -/
def viewNs (os fs : List Nat) (h : VH) : List V → (List V → List Nat → Prop) → Prop
  | [], K => K [] []
  | .nils :: l, K => viewNs os fs h l fun l ws => K (.nils :: l) ws
  | v :: l, K => viewV os fs h v fun v' ws => viewNs os fs h l fun l' ws' => K (v' :: l') (ws ++ ws')
theorem viewNs_ok : ∀ {l : List V} {K : List V → List Nat → Prop}, viewNs os fs h l K → ∃ l' ws, Vws os fs n h ws l l' ∧ (∀ b ∈ ws, RdOK h os b) ∧ K l' ws
  | [], K, hk => ⟨[], [], ⟨rfl, fun hin H W _ i hi => by simp [toDL] at hi⟩, by simp, by simpa only [viewNs] using hk⟩
  | v :: l, K, hk => by
    have key : ∃ v' ws, Vw os fs n h ws v v' ∧ (∀ b ∈ ws, RdOK h os b) ∧ viewNs os fs h l fun l' ws' => K (v' :: l') (ws ++ ws') := by
      by_cases e : v = .nils
      · subst e
        exact ⟨.nils, [], fun hin H W _ => .nils, by simp, by simpa only [viewNs, List.nil_append] using hk⟩
      · have hk' : viewV os fs h v fun v' ws => viewNs os fs h l fun l' ws' => K (v' :: l') (ws ++ ws') := by
          cases v <;> first | exact hk | exact absurd rfl e
        obtain ⟨v', ws, h1, h2, hk⟩ := viewV_ok (n := n) hk'
        exact ⟨v', ws, h1, h2, hk⟩
    obtain ⟨v', ws, h1, h2, hk⟩ := key
    obtain ⟨l', ws', h3, h4, hk⟩ := viewNs_ok hk
    refine ⟨v' :: l', ws ++ ws', ⟨by simp only [toDL, List.length_cons, h3.1], fun hin H W hW i hi => ?_⟩, fun b hb => ?_, hk⟩
    · cases i with
      | zero => simpa [toDL] using h1 hin H W fun b hb => hW b (List.mem_append_left _ hb)
      | succ i =>
        have := h3.2 hin H W (fun b hb => hW b (List.mem_append_right _ hb)) i (by simpa [toDL] using hi)
        simpa [toDL] using this
    · rcases List.mem_append.1 hb with hb | hb
      · exact h2 b hb
      · exact h4 b hb
def viewBK (os fs : List Nat) (h : VH) (x : VB) (K : VB → List Nat → Prop) : Prop :=
  match x with
  | .var T cs => viewVs os fs h cs fun cs ws => K (.var T cs) ws
  | .vari T pre m t xs post => Chk (subL t.fams fs) (viewNs os fs h pre fun pre ws => viewNs os fs h post fun post ws' => K (.vari T pre m t xs post) (ws ++ ws'))
  | .row E t xs => Chk (subL t.fams fs) (K (.row E t xs) [])
  | .lit E vs => viewVs os fs h vs fun vs ws => K (.lit E vs) ws
  | _ => False
def VwB (os fs : List Nat) (n : Nat) (h : VH) (ws : List Nat) (x x' : VB) : Prop := ∃ d d', x.blks = [d] ∧ x'.blks = [d'] ∧ ∀ hin, HinOK os fs h hin → ∀ W : List Id, (∀ b ∈ ws, (b, 0) ∈ W) → ViewB (toH h) (gI (gN os n)) hin W fs d d'
theorem getD_app1 {A B : List D} {i : Nat} (hi : i < A.length) : (A ++ B).getD i .undef = A.getD i .undef := by simp [List.getD_eq_getElem?_getD, List.getElem?_append_left hi]
theorem getD_app2 {A B : List D} {i : Nat} (hi : A.length ≤ i) : (A ++ B).getD i .undef = B.getD (i - A.length) .undef := by simp [List.getD_eq_getElem?_getD, List.getElem?_append_right hi]
theorem viewBK_ok {x : VB} {K : VB → List Nat → Prop} (hk : viewBK os fs h x K) : ∃ x' ws, VwB os fs n h ws x x' ∧ (∀ b ∈ ws, RdOK h os b) ∧ K x' ws := by
  unfold viewBK at hk
  split at hk
  · rename_i T cs
    obtain ⟨cs', ws, h1, h2, hk⟩ := viewVs_ok (n := n) hk
    exact ⟨_, ws, ⟨_, _, rfl, rfl, fun hin H W hW => .var T _ _ h1.1 (h1.2 hin H W hW)⟩, h2, hk⟩
  · rename_i T pre m t xs post
    obtain ⟨c, hk⟩ := hk.ok
    obtain ⟨pre', ws, h1, h2, hk⟩ := viewNs_ok (n := n) hk
    obtain ⟨post', ws', h3, h4, hk⟩ := viewNs_ok (n := n) hk
    refine ⟨_, ws ++ ws', ⟨_, _, rfl, rfl, fun hin H W hW => .var T _ _ ?_ fun i hi => ?_⟩, fun b hb => (List.mem_append.1 hb).elim (h2 b) (h4 b), hk⟩
    · simp only [List.length_append, h1.1, h3.1]
    · have g1 := h1.2 hin H W (fun b hb => hW b (List.mem_append_left _ hb))
      have g3 := h3.2 hin H W (fun b hb => hW b (List.mem_append_right _ hb))
      by_cases c1 : i < (toDL pre).length
      · rw [List.append_assoc, List.append_assoc, getD_app1 (A := toDL pre) c1, getD_app1 (A := toDL pre') (by rw [← h1.1]; exact c1)]
        exact g1 i c1
      · rw [List.append_assoc, List.append_assoc, getD_app2 (A := toDL pre) (by omega), getD_app2 (A := toDL pre') (by rw [← h1.1]; omega), ← h1.1]
        simp only [List.length_append] at hi
        by_cases c2 : i - (toDL pre).length < (xs.map (encD t)).length
        · rw [getD_app1 c2, getD_app1 c2]
          obtain ⟨e, he, hee⟩ := List.mem_map.1 (getD_mem c2)
          rw [← hee]
          exact view_enc H (subL_ok c) e
        · rw [getD_app2 (by omega), getD_app2 (by omega)]
          exact g3 _ (by omega)
  · rename_i E t xs
    obtain ⟨c, hk⟩ := hk.ok
    refine ⟨_, [], ⟨_, _, rfl, rfl, fun hin H W hW => .row E _ _ rfl fun i hi => ?_⟩, by simp, hk⟩
    obtain ⟨e, he, hee⟩ := List.mem_map.1 (getD_mem hi)
    rw [← hee]
    exact view_enc H (subL_ok c) e
  · rename_i E cs
    obtain ⟨cs', ws, h1, h2, hk⟩ := viewVs_ok (n := n) hk
    exact ⟨_, ws, ⟨_, _, rfl, rfl, fun hin H W hW => .row E _ _ h1.1 (h1.2 hin H W hW)⟩, h2, hk⟩
  · exact hk.elim
def sglsK (os fs : List Nat) (h : VH) : List Nat → Nat → (VH → List Nat → Prop) → Prop
  | [], _, K => K [] []
  | b :: l, i, K => blkK h b fun x => viewBK os fs h x fun x' ws => natK (i + 1) fun j => sglsK os fs h l j fun r ws' => K ((i, x') :: r) (ws ++ ws')
theorem sglsK_ok : ∀ {l : List Nat} {i : Nat} {K : VH → List Nat → Prop}, sglsK os fs h l i K → ∃ hs ws, (∀ k x, look hs k = some x → ∃ m, k = i + m ∧ m < l.length) ∧ (∀ m b, l[m]? = some b → ∃ x x', look h b = some x ∧ look hs (i + m) = some x' ∧ VwB os fs n h ws x x') ∧ (∀ b ∈ ws, RdOK h os b) ∧ K hs ws
  | [], i, K, hk => ⟨[], [], (fun k x hx => by cases hx), by simp, by simp, hk⟩
  | b :: l, i, K, hk => by
    obtain ⟨x, hx, hk⟩ := blkK_ok hk
    obtain ⟨x', ws, h1, h2, hk⟩ := viewBK_ok (n := n) hk
    obtain ⟨hs, ws', h3, h4, h5, hk⟩ := sglsK_ok (natK_ok hk)
    refine ⟨(i, x') :: hs, ws ++ ws', fun k y hy => ?_, fun m b' hm => ?_, fun b hb => (List.mem_append.1 hb).elim (h2 b) (h5 b), hk⟩
    · simp only [look] at hy
      split at hy
      · rename_i e; exact ⟨0, by omega, by simp⟩
      · obtain ⟨m, e1, e2⟩ := h3 k y hy
        exact ⟨m + 1, by omega, by simpa using e2⟩
    · cases m with
      | zero =>
        simp only [List.getElem?_cons_zero, Option.some.injEq] at hm
        subst hm
        obtain ⟨d, d', e1, e2, e3⟩ := h1
        exact ⟨x, x', hx, by simp [look], d, d', e1, e2, fun hin H W hW => e3 hin H W fun b hb => hW b (List.mem_append_left _ hb)⟩
      | succ m =>
        obtain ⟨y, y', q1, q2, d, d', e1, e2, e3⟩ := h4 m b' (by simpa using hm)
        refine ⟨y, y', q1, ?_, d, d', e1, e2, fun hin H W hW => e3 hin H W fun b hb => hW b (List.mem_append_right _ hb)⟩
        simp only [look]
        rw [if_neg (by omega), show i + (m + 1) = i + 1 + m by omega]
        exact q2
def VB.fams : VB → List Nat
  | .vari _ _ _ t _ _ => t.fams
  | .row _ t _ => t.fams
  | .fvar _ t _ => t.fams
  | .fvari _ _ t _ => t.fams
  | .frow _ t _ => t.fams
  | _ => []
def famsK (fs : List Nat) (h : VH) : List Nat → (VH → Prop) → Prop
  | [], K => K []
  | k :: l, K => blkK h k fun x => Chk (!x.sgl && subL x.fams fs) (famsK fs h l fun r => K ((k, x) :: r))
theorem famsK_ok : ∀ {l : List Nat} {K : VH → Prop}, famsK fs h l K → ∃ hf, (∀ k x, look hf k = some x → k ∈ l ∧ look h k = some x ∧ x.sgl = false ∧ ∀ j ∈ x.fams, j ∈ fs) ∧ (∀ k ∈ l, ∃ x, look hf k = some x) ∧ K hf
  | [], K, hk => ⟨[], (fun k x hx => by cases hx), by simp, hk⟩
  | k :: l, K, hk => by
    obtain ⟨x, hx, hk⟩ := blkK_ok hk
    obtain ⟨c, hk⟩ := hk.ok
    simp only [Bool.and_eq_true, Bool.not_eq_true'] at c
    obtain ⟨hf, h1, h2, hk⟩ := famsK_ok hk
    refine ⟨(k, x) :: hf, fun j y hy => ?_, fun j hj => ?_, hk⟩
    · simp only [look] at hy
      split at hy
      · rename_i e
        simp only [Option.some.injEq] at hy
        subst hy e
        exact ⟨List.mem_cons_self .., hx, c.1, subL_ok c.2⟩
      · obtain ⟨q1, q2⟩ := h1 j y hy
        exact ⟨List.mem_cons_of_mem _ q1, q2⟩
    · simp only [look]
      by_cases e : j = k
      · exact ⟨x, by rw [if_pos e]⟩
      · rw [if_neg e]
        rcases List.mem_cons.1 hj with rfl | hj
        · exact absurd rfl e
        · exact h2 j hj
/-- a family's blocks -/
theorem view_fam {x : VB} {hin : HL} {W : List Id} (H : HinOK os fs h hin) (hs : x.sgl = false) (hf : ∀ j ∈ x.fams, j ∈ fs) : ∀ d ∈ x.blks, ViewB (toH h) (gI (gN os n)) hin W fs d d := by
  intro d hd
  have key : ∀ (t : Ty) (xs : List t.den), (∀ k ∈ t.fams, k ∈ fs) → ∀ i, i < (xs.map (encD t)).length → View (toH h) (gI (gN os n)) hin W fs ((xs.map (encD t)).getD i .undef) ((xs.map (encD t)).getD i .undef) := by
    intro t xs ht i hi
    obtain ⟨e, he, hee⟩ := List.mem_map.1 (getD_mem hi)
    rw [← hee]
    exact view_enc H ht e
  cases x <;> simp [VB.sgl] at hs
  · rename_i T t xs
    obtain ⟨e, _, rfl⟩ := List.mem_map.1 hd
    refine .var T _ _ rfl fun i hi => ?_
    have hv : View (toH h) (gI (gN os n)) hin W fs (encD t e) (encD t e) := view_enc H hf e
    exact (hv.wf (encD_wf t e)).2 i (by rw [← (encD_wf t e).1]; exact hi)
  · rename_i T m t xss
    obtain ⟨xs, _, rfl⟩ := List.mem_map.1 hd
    exact .var T _ _ rfl (key t xs hf)
  · rename_i E t xss
    obtain ⟨xs, _, rfl⟩ := List.mem_map.1 hd
    exact .row E _ _ rfl (key t xs hf)
end Go.Proofs.Ytkclhekkcffpoaa.Am
