/- The plain machine with types: cuts, conversions, builtins. -/
import Derived.Test.YtkclhekkcffpoaaU7
namespace Go.Proofs.Ytkclhekkcffpoaa.Am
set_option linter.unusedSimpArgs false
set_option linter.unusedVariables false
open Go Go.RowKit

def boundK (len : Nat) (o : Option V) (dflt : Nat) (K : Nat → Prop) : Prop :=
  match o with
  | none => K dflt
  | some (.int _ i) => Need (0 ≤ i ∧ i ≤ (len : Nat)) (K i.toNat)
  | _ => False
theorem boundK_ok {len dflt : Nat} {o : Option V} {K : Nat → Prop} (h : boundK len o dflt K) : ∃ k, aBound len (o.map V.toD) dflt = some k ∧ (o = none → k = dflt) ∧ K k := by
  unfold boundK at h
  split at h
  · exact ⟨dflt, rfl, fun _ => rfl, h⟩
  · exact ⟨_, by simp only [Option.map_some, V.toD, aBound]; rw [if_pos h.1], fun e => (by cases e), h.2⟩
  · exact h.elim
def cutL {α : Type} (xs : List α) (lo hi : Option V) (ll hh : Nat) : List α :=
  match lo, hi with
  | none, none => xs
  | none, _ => xs.take hh
  | _, none => xs.drop ll
  | _, _ => (xs.take hh).drop ll
theorem cutL_ok {α : Type} (xs : List α) {lo hi : Option V} {ll hh : Nat} (h1 : hi = none → hh = xs.length) (h2 : lo = none → ll = 0) : cutL xs lo hi ll hh = (xs.take hh).drop ll := by
  unfold cutL
  split
  · rw [h1 rfl, h2 rfl]; simp
  · rw [h2 rfl]; simp
  · rw [h1 rfl]; simp
  · rfl
def cutK (ei : TI) {t : Ty} (xs : List t.den) (lo hi : Option V) (K : List t.den → Prop) : Prop :=
  Chk (t.sz == ei.sz) (boundK xs.length hi xs.length fun hh => boundK hh lo 0 fun ll => K (cutL xs lo hi ll hh))
def sliceK (Θ : TT) (ti : TI) (h : VH) (n : Nat) (v : V) (lo hi : Option V) (K : Bool → V → VH → Prop) : Prop :=
  match ti.k with
  | .str => (match v with
    | .str s => boundK s.size hi s.size fun hh => boundK hh lo 0 fun ll => K false (.str (s.extract ll hh)) []
    | _ => False)
  | .slice E => lookK Θ E fun ei => (match v with
    | .lst t xs => cutK ei xs lo hi fun ys => K false (.lst t ys) []
    | .nils => cutK ei (t := .int .i64) [] lo hi fun ys => K false (.lst (.int .i64) ys) []
    | .ref b => blkK h b fun x => (match x with
      | .row E' t xs => (match t.pure && !ti.own with
        | true => Chk t.pure (cutK ei xs lo hi fun ys => K false (.lst t ys) [(b, .froz t xs)])
        | false => Chk (match lo with | none => !Nat.beq b n | _ => false) (cutK ei xs none hi fun ys => K true (.ref n) [(b, .gone), (n, .row E' t ys)]))
      | .froz t xs => cutK ei xs lo hi fun ys => K false (.lst t ys) []
      | _ => False)
    | _ => False)
  | .arr m E => (match v, lo, hi with
    | .ptr b o, none, none => lookK Θ E fun _ => blkK h b fun x => (match x with
      | .var _ _ => Chk (decide (m ≤ maxLen)) (K false (.vref b o m) [])
      | .vari _ _ _ _ _ _ => Chk (decide (m ≤ maxLen)) (K false (.vref b o m) [])
      | _ => False)
    | _, _, _ => False)
  | _ => False
theorem cutK_ok {P : Program} {E : TypeId} {ei : TI} (_ : ei.ok P E) {t : Ty} {xs : List t.den} {lo hi : Option V} {K : List t.den → Prop} (h : cutK ei xs lo hi K) :
    szOr ei.sz (xs.map (encD t)) = ei.sz ∧ ∃ hh ll ys, aBound (xs.map (encD t)).length (hi.map V.toD) (xs.map (encD t)).length = some hh ∧ aBound hh (lo.map V.toD) 0 = some ll ∧ ((xs.map (encD t)).take hh).drop ll = ys.map (encD t) ∧ K ys := by
  obtain ⟨c, h1⟩ := Chk.ok h
  simp only [beq_iff_eq] at c
  obtain ⟨hh, b1, b2, h2⟩ := boundK_ok h1
  obtain ⟨ll, b3, b4, h3⟩ := boundK_ok h2
  refine ⟨szOr_map _ _ _ c, hh, ll, _, by rw [List.length_map]; exact b1, b3, ?_, h3⟩
  rw [cutL_ok xs b2 b4, ← List.map_take, ← List.map_drop]
theorem row_all {t : Ty} (ht : t.pure = true) (xs : List t.den) : ((xs.map (encD t)).all fun e => e.cells.all D.pure0) = true := by
  rw [List.all_eq_true]
  intro e he
  obtain ⟨x, _, rfl⟩ := List.mem_map.1 he
  exact (encD_pure ht x).2
theorem sliceK_ok {P : Program} {Θ : TT} (hΘ : Θ.ok P) {T : TypeId} {ti : TI} (ht : ti.ok P T) {h : VH} {n : Nat} (hn : ∀ c : Id, n ≤ c.1 → look (toH h) c = none) {v : V} {lo hi : Option V} {K : Bool → V → VH → Prop} (hk : sliceK Θ ti h n v lo hi K) : ∃ q r u vu, aSlice P (toH h) q (n, 0) T v.toD (lo.map V.toD) (hi.map V.toD) = some (r.toD, u) ∧ UpdOK h u vu ∧ K q r vu := by
  have hu := ht.und
  unfold sliceK at hk
  split at hk
  · rename_i e
    rw [e] at hu
    split at hk
    · rename_i s
      obtain ⟨hh, b1, b2, h2⟩ := boundK_ok hk
      obtain ⟨ll, b3, b4, h3⟩ := boundK_ok h2
      refine ⟨_, _, [], _, ?_, upd_nil, h3⟩
      unfold aSlice
      simp only [show P.underlying T = some .string from hu, V.toD, b1, b3]
    · exact hk.elim
  · rename_i E e
    rw [e] at hu
    have hu' : P.underlying T = some (.slice E) := hu
    obtain ⟨ei, l1, hk⟩ := lookK_ok hk
    have hei := hΘ _ _ l1
    unfold aSlice
    simp only [hu', hei.size]
    split at hk
    · obtain ⟨c, hh, ll, ys, b1, b2, b3, h3⟩ := cutK_ok hei hk
      exact ⟨_, _, [], _, by simp only [V.toD, elems, c, if_true, b1, b2, b3], upd_nil, h3⟩
    · obtain ⟨c, hh, ll, ys, b1, b2, b3, h3⟩ := cutK_ok hei hk
      simp only [List.map_nil] at c b1 b3
      exact ⟨_, _, [], _, by simp only [V.toD, elems, c, if_true, b1, b2, b3], upd_nil, h3⟩
    · rename_i b _
      obtain ⟨x, x1, h2⟩ := blkK_ok hk
      split at h2
      · rename_i E' t xs
        have hl := look_at (i := 0) x1 (d := .row E' (xs.map (encD t))) rfl
        split at h2
        · obtain ⟨cp, h2⟩ := h2.ok
          obtain ⟨c, hh, ll, ys, b1, b2, b3, h3⟩ := cutK_ok hei h2
          refine ⟨_, _, [((b, 0), .froz (xs.map (encD t)))], _, ?_, upd_set x1 rfl rfl, h3⟩
          simp only [V.toD, elems, hl, c, if_true, b1, b2, b3, Bool.false_eq_true, if_false, row_all cp]
        · obtain ⟨c0, h9⟩ := h2.ok
          clear h2
          cases lo with
          | some l => cases c0
          | none =>
            have hbn : b ≠ n := by rintro rfl; simp at c0
            obtain ⟨c, hh, ll, ys, b1, b2, b3, h3⟩ := cutK_ok hei h9
            simp only [Option.map_none, aBound, Option.some.injEq] at b2
            subst b2
            refine ⟨_, .ref n, [((b, 0), .gone), ((n, 0), .row E' (ys.map (encD t)))], _, ?_, upd_two hn x1 rfl hbn rfl, h3⟩
            rw [List.drop_zero] at b3
            have e0 : ∀ q : Nat, aBound q (none : Option D) 0 = some 0 := fun _ => rfl
            simp only [V.toD, elems, hl, c, if_true, b1, Option.map_none, e0, b3]
      · rename_i t xs
        have hl := look_at (i := 0) x1 (d := .froz (xs.map (encD t))) rfl
        obtain ⟨c, hh, ll, ys, b1, b2, b3, h3⟩ := cutK_ok hei h2
        exact ⟨false, _, [], _, by simp only [V.toD, elems, hl, c, if_true, b1, b2, b3], upd_nil, h3⟩
      · exact h2.elim
    · exact hk.elim
  · rename_i m E e
    rw [e] at hu
    split at hk
    · obtain ⟨ei, l1, hk⟩ := lookK_ok hk
      obtain ⟨x, x1, h2⟩ := blkK_ok hk
      split at h2
      · rename_i T' cs
        have hl := look_at (i := 0) x1 (d := .var T' (toDL cs)) rfl
        obtain ⟨c, h3⟩ := h2.ok
        simp only [decide_eq_true_eq] at c
        refine ⟨_, _, [], _, ?_, upd_nil, h3⟩
        unfold aSlice
        simp only [show P.underlying T = some (.array m E) from hu, V.toD, (hΘ _ _ l1).size, Option.map_none, hl, if_pos c]
      · rename_i T' pre m' t xs post
        have hl := look_at (i := 0) x1 (d := .var T' (toDL pre ++ xs.map (encD t) ++ toDL post)) rfl
        obtain ⟨c, h3⟩ := h2.ok
        simp only [decide_eq_true_eq] at c
        refine ⟨_, _, [], _, ?_, upd_nil, h3⟩
        unfold aSlice
        simp only [show P.underlying T = some (.array m E) from hu, V.toD, (hΘ _ _ l1).size, Option.map_none, hl, if_pos c]
      · exact h2.elim
    · exact hk.elim
  · exact hk.elim

def bytesOf (t : Ty) (xs : List t.den) (K : ByteArray → Prop) : Prop :=
  match t, xs with
  | .int .u8, xs => K ⟨(xs.map fun n : Int => UInt8.ofNat n.toNat).toArray⟩
  | _, _ => False
theorem bytesOf_ok {t : Ty} {xs : List t.den} {K : ByteArray → Prop} (h : bytesOf t xs K) : ∃ bs, (xs.map (encD t)).mapM byteOfD = some bs ∧ K ⟨bs.toArray⟩ := by
  unfold bytesOf at h
  split at h
  · rename_i xs
    refine ⟨_, ?_, h⟩
    rw [show xs.map (encD (.int .u8)) = xs.map (D.int .u8) from rfl, List.mapM_map]
    exact mapM_some (f := byteOfD ∘ D.int .u8) fun x _ => rfl
  · exact h.elim
def convK (Θ : TT) (ti si : TI) (h : VH) (v : V) (K : V → Prop) : Prop :=
  match ti.k with
  | .int k => (match v, si.k with
    | .int _ n, .int _ => Ari k n fun z => K (.int k z)
    | _, _ => False)
  | .str => (match si.k with
    | .str => (match v with
      | .str s => K (.str s)
      | _ => False)
    | .slice E => lookK Θ E fun ei => (match ei.k with
      | .int .u8 => Chk (ei.sz == 1) (elemsK h v fun t xs => bytesOf t xs fun s => K (.str s))
      | _ => False)
    | _ => False)
  | _ => False
theorem convK_ok {P : Program} {Θ : TT} (hΘ : Θ.ok P) {S T : TypeId} {ti si : TI} (ht : ti.ok P T) (hs : si.ok P S) {h : VH} {v : V} {K : V → Prop} (hk : convK Θ ti si h v K) : ∃ r, aConv P (toH h) S T v.toD = some r.toD ∧ K r := by
  have hu := ht.und
  have hv := hs.und
  unfold convK at hk
  split at hk
  · rename_i k e
    rw [e] at hu
    split at hk
    · rename_i k1 n1 k2 e2
      rw [e2] at hv
      refine ⟨_, ?_, hk.ok⟩
      unfold aConv
      simp only [show P.underlying T = some (.int k) from hu, show P.underlying S = some (.int k2) from hv, V.toD]
    · exact hk.elim
  · rename_i e
    rw [e] at hu
    split at hk
    · rename_i e2
      rw [e2] at hv
      split at hk
      · refine ⟨_, ?_, hk⟩
        unfold aConv
        simp only [show P.underlying T = some .string from hu, show P.underlying S = some .string from hv, V.toD]
      · exact hk.elim
    · rename_i E e2
      rw [e2] at hv
      obtain ⟨ei, l1, hk⟩ := lookK_ok hk
      have hei := hΘ _ _ l1
      have hek := hei.und
      split at hk
      · rename_i e3
        rw [e3] at hek
        obtain ⟨c, hk⟩ := hk.ok
        simp only [beq_iff_eq] at c
        obtain ⟨t, xs, h1, h2⟩ := elemsK_ok hk
        obtain ⟨bs, h3, h4⟩ := bytesOf_ok h2
        refine ⟨_, ?_, h4⟩
        unfold aConv
        have hsz : sizeT P E = some 1 := by rw [hei.size, c]
        simp only [show P.underlying T = some .string from hu, show P.underlying S = some (.slice E) from hv, show P.underlying E = some (.int .u8) from hek, hsz, h1, h3, V.toD]
      · exact hk.elim
    · exact hk.elim
  · exact hk.elim

def evOpt (t : VT) (x : Option Operand) (K : Option V → Prop) : Prop :=
  match x with
  | none => K none
  | some x => evO t x fun v => K (some v)
theorem evOpt_ok {t : VT} {x : Option Operand} {K : Option V → Prop} (h : evOpt t x K) : ∃ v, evalO (toT t) x = some (v.map V.toD) ∧ K v := by
  unfold evOpt at h
  split at h
  · exact ⟨none, rfl, h⟩
  · obtain ⟨v, h1, h2⟩ := evO_ok h
    exact ⟨some v, by simp only [evalO, h1, Option.map_some], h2⟩

def builtinK (Θ : TT) (b : Builtin) (vs : List V) (Ts : List TypeId) (h : VH) (n : Nat) (K : V → VH → Prop) : Prop :=
  match b, vs, Ts with
  | .len, [v], [T] => lookK Θ T fun ti => lenK ti h v fun r => K r []
  | .append, [d, e], [T, T'] => Chk (T == T') (lookK Θ T fun ti => appendK Θ ti h n d e K)
  | .copy, [d, e], [T, _] => lookK Θ T fun ti => copyK Θ ti h d e K
  | .min, [.int k x, .int k' y], _ => Chk (decide (k = k')) (K (.int k (if y < x then y else x)) [])
  | .max, [.int k x, .int k' y], _ => Chk (decide (k = k')) (K (.int k (if x < y then y else x)) [])
  | _, _, _ => False
theorem builtinK_ok {P : Program} {Θ : TT} (hΘ : Θ.ok P) {b : Builtin} {vs : List V} {Ts : List TypeId} {h : VH} {n : Nat} (hn : ∀ c : Id, n ≤ c.1 → look (toH h) c = none) {m : Bool} {K : V → VH → Prop} (hk : builtinK Θ b vs Ts h n K) : ∃ r u vu, aBuiltin P m b (toDL vs) Ts (toH h) n = some (r.toD, u) ∧ UpdOK h u vu ∧ K r vu := by
  unfold builtinK at hk
  split at hk
  · obtain ⟨ti, l1, hk⟩ := lookK_ok hk
    obtain ⟨r, h1, h2⟩ := lenK_ok (hΘ _ _ l1) hk
    exact ⟨r, [], [], by simp only [aBuiltin, toDL, h1, Option.map_some], upd_nil, h2⟩
  · obtain ⟨c, hk2⟩ := hk.ok
    simp only [beq_iff_eq] at c
    subst c
    obtain ⟨ti, l1, hk⟩ := lookK_ok hk2
    obtain ⟨r, u, vu, h1, h2, h3⟩ := appendK_ok hΘ (hΘ _ _ l1) hn hk
    exact ⟨r, u, vu, by simp only [aBuiltin, toDL, if_true, h1], h2, h3⟩
  · obtain ⟨ti, l1, hk⟩ := lookK_ok hk
    obtain ⟨r, u, vu, h1, h2, h3⟩ := copyK_ok hΘ (hΘ _ _ l1) hk
    exact ⟨r, u, vu, by simp only [aBuiltin, toDL, h1], h2, h3⟩
  · obtain ⟨c, hk⟩ := hk.ok
    simp only [decide_eq_true_eq] at c
    exact ⟨_, [], [], by simp only [aBuiltin, toDL, V.toD, if_pos c], upd_nil, hk⟩
  · obtain ⟨c, hk⟩ := hk.ok
    simp only [decide_eq_true_eq] at c
    exact ⟨_, [], [], by simp only [aBuiltin, toDL, V.toD, if_pos c], upd_nil, hk⟩
  · exact hk.elim
end Go.Proofs.Ytkclhekkcffpoaa.Am
