/- The plain machine with types: one operation, put together. -/
import Derived.Test.YtdecnnhcbjhfgaaV4
namespace Go.Proofs.Ytdecnnhcbjhfgaa.Am
set_option linter.unusedSimpArgs false
set_option linter.unusedVariables false
open Go Go.RowKit

def boundK (len : Nat) (o : Option V) (dflt : Nat) (K : Nat → Prop) : Prop :=
  match o with
  | none => K dflt
  | some (.int _ i) => Need (0 ≤ i ∧ i ≤ (len : Nat)) (K i.toNat)
  | _ => False
theorem boundK_ok {len dflt : Nat} {o : Option V} {K : Nat → Prop} (h : boundK len o dflt K) : ∃ k, aBound len (o.map V.toD) dflt = some k ∧ (o = none → k = dflt) ∧ K k := by
  unfold boundK at h
  split at h
  · exact ⟨dflt, rfl, fun _ => rfl, h⟩
  · exact ⟨_, by simp only [Option.map_some, V.toD, aBound]; rw [if_pos h.1], fun e => (by cases e), h.2⟩
  · exact h.elim
def cutL {α : Type} (xs : List α) (lo hi : Option V) (ll hh : Nat) : List α :=
  match lo, hi with
  | none, none => xs
  | none, _ => xs.take hh
  | _, none => xs.drop ll
  | _, _ => (xs.take hh).drop ll
theorem cutL_ok {α : Type} (xs : List α) {lo hi : Option V} {ll hh : Nat} (h1 : hi = none → hh = xs.length) (h2 : lo = none → ll = 0) : cutL xs lo hi ll hh = (xs.take hh).drop ll := by
  unfold cutL
  split
  · rw [h1 rfl, h2 rfl]; simp
  · rw [h2 rfl]; simp
  · rw [h1 rfl]; simp
  · rfl
def cutK (ei : TI) {t : Ty} (xs : List t.den) (lo hi : Option V) (K : List t.den → Prop) : Prop :=
  Chk (t.sz == ei.sz) (boundK xs.length hi xs.length fun hh => boundK hh lo 0 fun ll => K (cutL xs lo hi ll hh))
def sliceK (Θ : TT) (ti : TI) (h : VH) (v : V) (lo hi : Option V) (K : V → VH → Prop) : Prop :=
  match ti.k with
  | .str => (match v with
    | .str s => boundK s.size hi s.size fun hh => boundK hh lo 0 fun ll => K (.str (s.extract ll hh)) []
    | _ => False)
  | .slice E => lookK Θ E fun ei => (match v with
    | .lst t xs => cutK ei xs lo hi fun ys => K (.lst t ys) []
    | .nils => cutK ei (t := .int .i64) [] lo hi fun ys => K (.lst (.int .i64) ys) []
    | .ref b => blkK h b fun x => (match x with
      | .row _ t xs => cutK ei xs lo hi fun ys => K (.lst t ys) [(b, .froz t xs)]
      | .froz t xs => cutK ei xs lo hi fun ys => K (.lst t ys) []
      | _ => False)
    | _ => False)
  | .arr n E => (match v, lo, hi with
    | .ptr b o, none, none => lookK Θ E fun _ => blkK h b fun x => (match x with
      | .var _ _ => Chk (decide (n ≤ maxLen)) (K (.vref b o n) [])
      | .vari _ _ _ _ _ _ => Chk (decide (n ≤ maxLen)) (K (.vref b o n) [])
      | _ => False)
    | _, _, _ => False)
  | _ => False
theorem cutK_ok {P : Program} {E : TypeId} {ei : TI} (_ : ei.ok P E) {t : Ty} {xs : List t.den} {lo hi : Option V} {K : List t.den → Prop} (h : cutK ei xs lo hi K) :
    szOr ei.sz (xs.map (encD t)) = ei.sz ∧ ∃ hh ll ys, aBound (xs.map (encD t)).length (hi.map V.toD) (xs.map (encD t)).length = some hh ∧ aBound hh (lo.map V.toD) 0 = some ll ∧ ((xs.map (encD t)).take hh).drop ll = ys.map (encD t) ∧ K ys := by
  obtain ⟨c, h1⟩ := Chk.ok h
  simp only [beq_iff_eq] at c
  obtain ⟨hh, b1, b2, h2⟩ := boundK_ok h1
  obtain ⟨ll, b3, b4, h3⟩ := boundK_ok h2
  refine ⟨szOr_map _ _ _ c, hh, ll, _, by rw [List.length_map]; exact b1, b3, ?_, h3⟩
  rw [cutL_ok xs b2 b4, ← List.map_take, ← List.map_drop]
theorem sliceK_ok {P : Program} {Θ : TT} (hΘ : Θ.ok P) {T : TypeId} {ti : TI} (ht : ti.ok P T) {h : VH} {v : V} {lo hi : Option V} {K : V → VH → Prop} (hk : sliceK Θ ti h v lo hi K) : ∃ r u, aSlice P (toH h) T v.toD (lo.map V.toD) (hi.map V.toD) = some (r.toD, toH u) ∧ K r u := by
  have hu := ht.und
  unfold sliceK at hk
  split at hk
  · rename_i e
    rw [e] at hu
    split at hk
    · rename_i s
      obtain ⟨hh, b1, b2, h2⟩ := boundK_ok hk
      obtain ⟨ll, b3, b4, h3⟩ := boundK_ok h2
      refine ⟨_, _, ?_, h3⟩
      unfold aSlice
      simp only [show P.underlying T = some .string from hu, V.toD, b1, b3]
      rfl
    · exact hk.elim
  · rename_i E e
    rw [e] at hu
    have hu' : P.underlying T = some (.slice E) := hu
    obtain ⟨ei, l1, hk⟩ := lookK_ok hk
    have hei := hΘ _ _ l1
    unfold aSlice
    simp only [hu', hei.size]
    split at hk
    · obtain ⟨c, hh, ll, ys, b1, b2, b3, h3⟩ := cutK_ok hei hk
      exact ⟨_, _, by simp only [V.toD, elems, c, if_true, b1, b2, b3]; rfl, h3⟩
    · obtain ⟨c, hh, ll, ys, b1, b2, b3, h3⟩ := cutK_ok hei hk
      simp only [List.map_nil] at c b1 b3
      exact ⟨_, _, by simp only [V.toD, elems, c, if_true, b1, b2, b3]; rfl, h3⟩
    · obtain ⟨x, x1, _, h2⟩ := blkK_ok hk
      split at h2
      · obtain ⟨c, hh, ll, ys, b1, b2, b3, h3⟩ := cutK_ok hei h2
        exact ⟨_, _, by simp only [V.toD, elems, x1, VB.toD, c, if_true, b1, b2, b3]; rfl, h3⟩
      · obtain ⟨c, hh, ll, ys, b1, b2, b3, h3⟩ := cutK_ok hei h2
        exact ⟨_, _, by simp only [V.toD, elems, x1, VB.toD, c, if_true, b1, b2, b3]; rfl, h3⟩
      · exact h2.elim
    · exact hk.elim
  · rename_i n E e
    rw [e] at hu
    split at hk
    · obtain ⟨ei, l1, hk⟩ := lookK_ok hk
      obtain ⟨x, x1, _, h2⟩ := blkK_ok hk
      split at h2
      · obtain ⟨c, h3⟩ := h2.ok
        simp only [decide_eq_true_eq] at c
        refine ⟨_, _, ?_, h3⟩
        unfold aSlice
        simp only [show P.underlying T = some (.array n E) from hu, V.toD, (hΘ _ _ l1).size, Option.map_none, x1, VB.toD, if_pos c]
        rfl
      · obtain ⟨c, h3⟩ := h2.ok
        simp only [decide_eq_true_eq] at c
        refine ⟨_, _, ?_, h3⟩
        unfold aSlice
        simp only [show P.underlying T = some (.array n E) from hu, V.toD, (hΘ _ _ l1).size, Option.map_none, x1, VB.toD, if_pos c]
        rfl
      · exact h2.elim
    · exact hk.elim
  · exact hk.elim

def bytesOf (t : Ty) (xs : List t.den) (K : ByteArray → Prop) : Prop :=
  match t, xs with
  | .int .u8, xs => K ⟨(xs.map fun n : Int => UInt8.ofNat n.toNat).toArray⟩
  | _, _ => False
theorem bytesOf_ok {t : Ty} {xs : List t.den} {K : ByteArray → Prop} (h : bytesOf t xs K) : ∃ bs, (xs.map (encD t)).mapM byteOfD = some bs ∧ K ⟨bs.toArray⟩ := by
  unfold bytesOf at h
  split at h
  · rename_i xs
    refine ⟨_, ?_, h⟩
    rw [show xs.map (encD (.int .u8)) = xs.map (D.int .u8) from rfl, List.mapM_map]
    exact mapM_some (f := byteOfD ∘ D.int .u8) fun x _ => rfl
  · exact h.elim
def convK (Θ : TT) (ti si : TI) (h : VH) (v : V) (K : V → Prop) : Prop :=
  match ti.k with
  | .int k => (match v with
    | .int _ n => Ari k n fun z => K (.int k z)
    | _ => False)
  | .str => (match si.k with
    | .str => (match v with
      | .str s => K (.str s)
      | _ => False)
    | .slice E => lookK Θ E fun ei => (match ei.k with
      | .int .u8 => Chk (ei.sz == 1) (elemsK h v fun t xs => bytesOf t xs fun s => K (.str s))
      | _ => False)
    | _ => False)
  | _ => False
theorem TK.some {P : Program} {T : TypeId} {k : TK} (h : k.ok P T) : ∃ d, P.underlying T = some d := by
  cases k with
  | struct fs =>
    have := h.2
    unfold placesT at this
    cases hu : P.underlying T with
    | none => rw [hu] at this; simp at this
    | some d => exact ⟨d, rfl⟩
  | _ => exact ⟨_, h⟩
theorem convK_ok {P : Program} {Θ : TT} (hΘ : Θ.ok P) {S T : TypeId} {ti si : TI} (ht : ti.ok P T) (hs : si.ok P S) {h : VH} {v : V} {K : V → Prop} (hk : convK Θ ti si h v K) : ∃ r, aConv P (toH h) S T v.toD = some r.toD ∧ K r := by
  have hu := ht.und
  have hv := hs.und
  unfold convK at hk
  split at hk
  · rename_i k e
    rw [e] at hu
    split at hk
    · obtain ⟨d, hd⟩ := TK.some hv
      refine ⟨_, ?_, hk.ok⟩
      unfold aConv
      simp only [show P.underlying T = some (.int k) from hu, hd, V.toD]
    · exact hk.elim
  · rename_i e
    rw [e] at hu
    split at hk
    · rename_i e2
      rw [e2] at hv
      split at hk
      · refine ⟨_, ?_, hk⟩
        unfold aConv
        simp only [show P.underlying T = some .string from hu, show P.underlying S = some .string from hv, V.toD]
      · exact hk.elim
    · rename_i E e2
      rw [e2] at hv
      obtain ⟨ei, l1, hk⟩ := lookK_ok hk
      have hei := hΘ _ _ l1
      have hek := hei.und
      split at hk
      · rename_i e3
        rw [e3] at hek
        obtain ⟨c, hk⟩ := hk.ok
        simp only [beq_iff_eq] at c
        obtain ⟨t, xs, h1, h2⟩ := elemsK_ok hk
        obtain ⟨bs, h3, h4⟩ := bytesOf_ok h2
        refine ⟨_, ?_, h4⟩
        unfold aConv
        have hsz : sizeT P E = some 1 := by rw [hei.size, c]
        simp only [show P.underlying T = some .string from hu, show P.underlying S = some (.slice E) from hv, show P.underlying E = some (.int .u8) from hek, hsz, h1, h3, V.toD]
      · exact hk.elim
    · exact hk.elim
  · exact hk.elim

def evOpt (t : VT) (x : Option Operand) (K : Option V → Prop) : Prop :=
  match x with
  | none => K none
  | some x => evO t x fun v => K (some v)
theorem evOpt_ok {t : VT} {x : Option Operand} {K : Option V → Prop} (h : evOpt t x K) : ∃ v, evalO (toT t) x = some (v.map V.toD) ∧ K v := by
  unfold evOpt at h
  split at h
  · exact ⟨none, rfl, h⟩
  · obtain ⟨v, h1, h2⟩ := evO_ok h
    exact ⟨some v, by simp only [evalO, h1, Option.map_some], h2⟩

def builtinK (Θ : TT) (b : Builtin) (vs : List V) (Ts : List TypeId) (h : VH) (n : Nat) (K : V → VH → Prop) : Prop :=
  match b, vs, Ts with
  | .len, [v], [T] => lookK Θ T fun ti => lenK ti h v fun r => K r []
  | .append, [d, e], [T, T'] => Chk (T == T') (lookK Θ T fun ti => appendK Θ ti h n d e K)
  | .copy, [d, e], [T, _] => lookK Θ T fun ti => copyK Θ ti h d e K
  | .min, [.int k x, .int k' y], _ => Chk (decide (k = k')) (K (.int k (if y < x then y else x)) [])
  | .max, [.int k x, .int k' y], _ => Chk (decide (k = k')) (K (.int k (if x < y then y else x)) [])
  | _, _, _ => False
theorem builtinK_ok {P : Program} {Θ : TT} (hΘ : Θ.ok P) {b : Builtin} {vs : List V} {Ts : List TypeId} {h : VH} {n : Nat} {K : V → VH → Prop} (hk : builtinK Θ b vs Ts h n K) : ∃ r u, aBuiltin P b (toDL vs) Ts (toH h) n = some (r.toD, toH u) ∧ K r u := by
  unfold builtinK at hk
  split at hk
  · obtain ⟨ti, l1, hk⟩ := lookK_ok hk
    obtain ⟨r, h1, h2⟩ := lenK_ok (hΘ _ _ l1) hk
    exact ⟨r, [], by simp only [aBuiltin, toDL, h1, Option.map_some]; rfl, h2⟩
  · obtain ⟨c, hk2⟩ := hk.ok
    simp only [beq_iff_eq] at c
    subst c
    obtain ⟨ti, l1, hk⟩ := lookK_ok hk2
    obtain ⟨r, u, h1, h2⟩ := appendK_ok hΘ (hΘ _ _ l1) hk
    exact ⟨r, u, by simp only [aBuiltin, toDL, if_true, h1], h2⟩
  · obtain ⟨ti, l1, hk⟩ := lookK_ok hk
    obtain ⟨r, u, h1, h2⟩ := copyK_ok hΘ (hΘ _ _ l1) hk
    exact ⟨r, u, by simp only [aBuiltin, toDL, h1], h2⟩
  · obtain ⟨c, hk⟩ := hk.ok
    simp only [decide_eq_true_eq] at c
    exact ⟨_, [], by simp only [aBuiltin, toDL, V.toD, if_pos c]; rfl, hk⟩
  · obtain ⟨c, hk⟩ := hk.ok
    simp only [decide_eq_true_eq] at c
    exact ⟨_, [], by simp only [aBuiltin, toDL, V.toD, if_pos c]; rfl, hk⟩
  · exact hk.elim

/-- one operation -/
def stepK (P : Program) (Θ : TT) (op : Op) (t : VT) (h : VH) (n : Nat) (K : V → VH → Prop) : Prop :=
  match op with
  | .move x => evO t x fun v => K v []
  | .assign x => evO t x fun v => K v []
  | .load T x => evO t x fun v => lookK Θ T fun ti => loadK ti h v fun r => K r []
  | .store T x y => evO t x fun d => evO t y fun v => lookK Θ T fun ti => storeK ti h d v K
  | .fieldAddr T x f => evO t x fun v => lookK Θ T fun ti => (match ti.k with
    | .struct fs => nthK fs f fun g => Chk (decide (0 < g.2.2)) (faK g v fun r => K r [])
    | _ => False)
  | .indexAddr T x i => evO t x fun v => evO t i fun i => lookK Θ T fun ti => (match i with
    | .int _ i => iaK Θ ti h v i fun r => K r []
    | _ => False)
  | .binOp op T x y _ => evO t x fun d => evO t y fun e => lookK Θ T fun ti => binK op ti.k d e fun r => K r []
  | .unOp op _ x => evO t x fun d => unK op d fun r => K r []
  | .call c => (match c.callee with
    | .builtin b => evOs t c.args.toList fun vs => builtinK Θ b vs c.argTypes.toList h n K
    | .value (.func f) => evOs t c.args.toList fun vs => callK P h n f vs K
    | _ => False)
  | .pick c x y => evO t c fun b => (match b with
    | .tt => evO t x fun v => K v []
    | .ff => evO t y fun v => K v []
    | .bool b => Cnd b (evO t x fun v => K v []) (evO t y fun v => K v [])
    | _ => False)
  | .alloc T => lookK Θ T fun ti => (match ti.z with
    | some z => K (.ptr n 0) [(n, .var T z.cells)]
    | none => False)
  | .box T x => evO t x fun v => Chk v.whole (K (.ptr n 0) [(n, .var T v.cells)])
  | .build T ps => evPs t ps.toList fun vs => lookK Θ T fun ti => (match ti.k, ti.z with
    | .struct fs, some (.agg zs) => fillK fs zs vs fun cs => K (.agg cs) []
    | _, _ => False)
  | .buildSlice T len ps => evPs t ps.toList fun vs => lookK Θ T fun ti => (match ti.k with
    | .slice E => lookK Θ E fun ei => (match ei.ty with
      | some τ => Chk (ei.z.isSome && decide (0 < ei.sz) && τ.sz == ei.sz && vs.length == len && decide (len * ei.sz ≤ 16777216)) (bsK τ h vs 0 fun xs is => frzK h is fun u0 => K (.ref n) (u0 ++ [(n, .row E τ xs)]))
      | none => False)
    | _ => False)
  | .nilCheck x => evO t x fun v => (match v with
    | .ptr b o => K (.ptr b o) []
    | .eptr b i o => K (.eptr b i o) []
    | .aptr b p i => K (.aptr b p i) []
    | .iptr t x o => K (.iptr t x o) []
    | .box t x => K (.box t x) []
    | _ => False)
  | .convert S T x => evO t x fun v => lookK Θ T fun ti => lookK Θ S fun si => convK Θ ti si h v fun r => K r []
  | .makeSlice T l c => evO t l fun a => evO t c fun b => lookK Θ T fun ti => (match ti.k, a, b with
    | .slice E, .int _ a, .int _ b => lookK Θ E fun ei => (match ei.z, ei.ty with
      | some z, some τ => Chk (decide (0 < ei.sz) && τ.sz == ei.sz && z.cells.all V.pure0) (nzK τ z fun x => Need (0 ≤ a ∧ a = b) (Need (fits ei.nb a.toNat) (K (.ref n) [(n, .row E τ (List.replicate a.toNat x))])))
      | _, _ => False)
    | _, _, _ => False)
  | .slice T x lo hi none => evO t x fun v => evOpt t lo fun lo => evOpt t hi fun hi => lookK Θ T fun ti => sliceK Θ ti h v lo hi K
  | .field T x f => evO t x fun v => lookK Θ T fun ti => (match ti.k, v with
    | .struct fs, .agg cs => nthK fs f fun g => lookK Θ g.1 fun gi => takeK gi cs g.2.1 fun r => K r []
    | _, _ => False)
  | .index T x i => evO t x fun v => evO t i fun i => lookK Θ T fun ti => (match ti.k, v, i with
    | .str, .str s, .int _ i => Need (0 ≤ i ∧ i < (s.size : Nat)) (K (.int .u8 ((s.data.toList.getD i.toNat 0).toNat : Nat)) [])
    | _, _, _ => False)
  | .extract x i => evO t x fun v => (match v with
    | .tup cs => nthK cs i fun r => K r []
    | _ => False)
  | _ => False
where
  nzK (τ : Ty) (z : V) (K : τ.den → Prop) : Prop := match z with
    | .agg cs => decK τ (.agg (cs.map nzV)) K
    | z => decK τ (nzV z) K
  nzV : V → V
    | .nils => .lst (.int .i64) []
    | v => v

theorem nzV_ok (v : V) : (stepK.nzV v).toD = nz0 v.toD := by cases v <;> rfl
theorem nzK_ok {τ : Ty} {z : V} {K : τ.den → Prop} (h : stepK.nzK τ z K) : ∃ x, nzE z.toD = encD τ x ∧ K x := by
  unfold stepK.nzK at h
  split at h
  · rename_i cs
    obtain ⟨x, h1, h2⟩ := decK_ok h
    refine ⟨x, ?_, h2⟩
    rw [← h1]
    simp only [V.toD, nzE, toDL_eq, List.map_map]
    congr 1
    exact List.map_congr_left fun v _ => (nzV_ok v).symm
  · rename_i hne
    obtain ⟨x, h1, h2⟩ := decK_ok h
    refine ⟨x, ?_, h2⟩
    rw [← h1, nzV_ok]
    cases z <;> first | exact absurd rfl (hne _) | rfl

theorem stepK_ok {P : Program} {Θ : TT} (hΘ : Θ.ok P) {op : Op} {t : VT} {h : VH} {n : Nat} {K : V → VH → Prop} (hk : stepK P Θ op t h n K) :
    ∃ (Γ : Env) (r : V) (u : VH), Γ.ok P ∧ aop P Γ op (toT t) (toH h) n = some (r.toD, toH u) ∧ K r u := by
  have h0 : Env.ok P [] := by intro f F h; cases h
  unfold stepK at hk
  split at hk
  · obtain ⟨v, h1, h2⟩ := evO_ok hk
    exact ⟨[], v, [], h0, op_move h1, h2⟩
  · obtain ⟨v, h1, h2⟩ := evO_ok hk
    exact ⟨[], v, [], h0, op_assign h1, h2⟩
  · obtain ⟨v, h1, h2⟩ := evO_ok hk
    obtain ⟨ti, l1, h2⟩ := lookK_ok h2
    obtain ⟨r, h3, h4⟩ := loadK_ok (hΘ _ _ l1) h2
    exact ⟨[], r, [], h0, by simp only [aop, h1, Option.bind_some, h3, Option.map_some]; rfl, h4⟩
  · obtain ⟨d, h1, h2⟩ := evO_ok hk
    obtain ⟨v, h3, h4⟩ := evO_ok h2
    obtain ⟨ti, l1, h4⟩ := lookK_ok h4
    obtain ⟨r, u, h5, h6⟩ := storeK_ok (Γ := []) (n := n) (hΘ _ _ l1) h1 h3 h4
    exact ⟨[], r, u, h0, h5, h6⟩
  · rename_i T x f
    obtain ⟨v, h1, h2⟩ := evO_ok hk
    obtain ⟨ti, l1, h2⟩ := lookK_ok h2
    have hu := (hΘ _ _ l1).und
    split at h2
    · rename_i fs e
      rw [e] at hu
      obtain ⟨g, g1, h2⟩ := nthK_ok h2
      obtain ⟨c, h2⟩ := h2.ok
      simp only [decide_eq_true_eq] at c
      obtain ⟨r, h3, h4⟩ := faK_ok (P := P) (T := T) (i := f) ((hu.1 f g.1 g.2.1 g.2.2 g1).2 c) h2
      exact ⟨[], r, [], h0, by simp only [aop, h1, Option.bind_some, h3, Option.map_some]; rfl, h4⟩
    · exact h2.elim
  · obtain ⟨v, h1, h2⟩ := evO_ok hk
    obtain ⟨i, h3, h4⟩ := evO_ok h2
    obtain ⟨ti, l1, h4⟩ := lookK_ok h4
    split at h4
    · rename_i k i _
      obtain ⟨r, h5, h6⟩ := iaK_ok hΘ (hΘ _ _ l1) (k := k) h4
      exact ⟨[], r, [], h0, op_ia h1 h3 h5, h6⟩
    · exact h4.elim
  · obtain ⟨v, h1, h2⟩ := evO_ok hk
    obtain ⟨i, h3, h4⟩ := evO_ok h2
    obtain ⟨ti, l1, h4⟩ := lookK_ok h4
    obtain ⟨r, h5, h6⟩ := binK_ok (P := P) (hΘ _ _ l1).und h4
    exact ⟨[], r, [], h0, op_binA h1 h3 h5, h6⟩
  · obtain ⟨v, h1, h2⟩ := evO_ok hk
    obtain ⟨r, h5, h6⟩ := unK_ok h2
    exact ⟨[], r, [], h0, op_un h1 h5, h6⟩
  · rename_i c
    split at hk
    · rename_i b e
      obtain ⟨vs, h1, h2⟩ := evOs_ok hk
      obtain ⟨r, u, h3, h4⟩ := builtinK_ok hΘ h2
      exact ⟨[], r, u, h0, by simp only [aop, aCallOp, e, h1, Option.bind_some, h3], h4⟩
    · rename_i f e
      obtain ⟨vs, h1, h2⟩ := evOs_ok hk
      obtain ⟨F, r, u, h3, h4, h5⟩ := callK_ok h2
      refine ⟨[(f, F)], r, u, ?_, by simp only [aop, aCallOp, e, aCallF, look, if_true, h1, Option.bind_some, h4], h5⟩
      intro g G hg
      simp only [look] at hg
      split at hg
      · rename_i e; subst e; simp only [Option.some.injEq] at hg; subst hg; exact h3
      · cases hg
    · exact hk.elim
  · obtain ⟨v, h1, h2⟩ := evO_ok hk
    split at h2
    · obtain ⟨r, h3, h4⟩ := evO_ok h2
      exact ⟨[], r, [], h0, op_pickT h1 rfl h3, h4⟩
    · obtain ⟨r, h3, h4⟩ := evO_ok h2
      exact ⟨[], r, [], h0, op_pickF h1 rfl h3, h4⟩
    · rename_i b
      cases b with
      | true =>
        obtain ⟨r, h3, h4⟩ := evO_ok (h2.1 rfl)
        exact ⟨[], r, [], h0, op_pickT h1 rfl h3, h4⟩
      | false =>
        obtain ⟨r, h3, h4⟩ := evO_ok (h2.2 rfl)
        exact ⟨[], r, [], h0, op_pickF h1 rfl h3, h4⟩
    · exact h2.elim
  · obtain ⟨ti, l1, h2⟩ := lookK_ok hk
    split at h2
    · rename_i z hz
      exact ⟨[], _, _, h0, op_alloc ((hΘ _ _ l1).zero z hz) (by rw [toD_cells]), h2⟩
    · exact h2.elim
  · obtain ⟨v, h1, h2⟩ := evO_ok hk
    obtain ⟨c, h3⟩ := h2.ok
    exact ⟨[], _, _, h0, op_box h1 (by rw [whole_toD]; exact c) (by rw [toD_cells]), h3⟩
  · rename_i T ps
    obtain ⟨vs, h1, h2⟩ := evPs_ok hk
    obtain ⟨ti, l1, h2⟩ := lookK_ok h2
    have hu := (hΘ _ _ l1).und
    have hz := (hΘ _ _ l1).zero
    split at h2
    · rename_i fs zs e ez
      rw [e] at hu
      obtain ⟨cs, h3, h4⟩ := fillK_ok h2
      refine ⟨[], _, [], h0, ?_, h4⟩
      have hz' := hz _ ez
      simp only [V.toD] at hz'
      simp only [aop, h1, Option.bind_some, aBuild, hu.2, hz', h3, Option.map_some]
      rfl
    · exact h2.elim
  · rename_i T len ps
    obtain ⟨vs, h1, h2⟩ := evPs_ok hk
    obtain ⟨ti, l1, h2⟩ := lookK_ok h2
    have hu := (hΘ _ _ l1).und
    split at h2
    · rename_i E e
      rw [e] at hu
      obtain ⟨ei, l2, h2⟩ := lookK_ok h2
      have hei := hΘ _ _ l2
      split at h2
      · rename_i τ hτ
        obtain ⟨c, h2⟩ := h2.ok
        simp only [Bool.and_eq_true, beq_iff_eq, decide_eq_true_eq] at c
        obtain ⟨⟨⟨⟨c1, c2⟩, c3⟩, c4⟩, c5⟩ := c
        obtain ⟨xs, is, ds, b1, b2, b3, b4, b5, h3⟩ := bsK_ok h2
        obtain ⟨u0, f1, h4⟩ := frzK_ok h3
        refine ⟨[], _, _, h0, ?_, h4⟩
        have hb : aBuildSlice P n T len ds = some (.ref n, [(n, .row E (ds.map (·.2)))]) := by
          unfold aBuildSlice
          simp only [show P.underlying T = some (.slice E) from hu, hei.elem c1 c2]
          have hall : (ds.map (·.2)).all (fun e => wfB ei.sz e) = true := by
            rw [b3, List.all_eq_true]
            intro x hx
            obtain ⟨y, _, rfl⟩ := List.mem_map.1 hx
            have := encD_wf τ y
            simp only [wfB, Bool.and_eq_true, beq_iff_eq]
            exact ⟨by rw [this.1, c3], this.2⟩
          rw [if_pos ⟨by rw [b2, b5, c4], c5, hall⟩]
        simp only [aop, h1, Option.bind_some, b1, hb, Option.map_some, b4, f1, b3, toH_append]
        rfl
      · exact h2.elim
    · exact h2.elim
  · obtain ⟨v, h1, h2⟩ := evO_ok hk
    split at h2
    · exact ⟨[], _, [], h0, op_nilCheck h1 rfl, h2⟩
    · exact ⟨[], _, [], h0, op_nilCheck h1 rfl, h2⟩
    · exact ⟨[], _, [], h0, op_nilCheck h1 rfl, h2⟩
    · exact ⟨[], _, [], h0, op_nilCheck h1 rfl, h2⟩
    · exact ⟨[], _, [], h0, op_nilCheck h1 rfl, h2⟩
    · exact h2.elim
  · obtain ⟨v, h1, h2⟩ := evO_ok hk
    obtain ⟨ti, l1, h2⟩ := lookK_ok h2
    obtain ⟨si, l2, h2⟩ := lookK_ok h2
    obtain ⟨r, h3, h4⟩ := convK_ok hΘ (hΘ _ _ l1) (hΘ _ _ l2) h2
    exact ⟨[], r, [], h0, op_conv h1 h3, h4⟩
  · obtain ⟨a, h1, h2⟩ := evO_ok hk
    obtain ⟨b, h3, h4⟩ := evO_ok h2
    obtain ⟨ti, l1, h4⟩ := lookK_ok h4
    have hu := (hΘ _ _ l1).und
    split at h4
    · rename_i E k1 a k2 b e _
      rw [e] at hu
      obtain ⟨ei, l2, h4⟩ := lookK_ok h4
      have hei := hΘ _ _ l2
      split at h4
      · rename_i z τ hz hτ
        obtain ⟨c, h4⟩ := h4.ok
        simp only [Bool.and_eq_true, beq_iff_eq, decide_eq_true_eq] at c
        obtain ⟨⟨c1, c2⟩, c3⟩ := c
        obtain ⟨x, hx, h5⟩ := nzK_ok h4
        obtain ⟨h6, h7, h8⟩ := h5
        refine ⟨[], _, _, h0, op_make h1 h3 (show P.underlying _ = some (.slice E) from hu) (hei.elem (by rw [hz]; rfl) c1) (hei.zero z hz) ?_ h6.1 h6.2 h7 |>.trans ?_, h8⟩
        · simp only [wfB, Bool.and_eq_true, beq_iff_eq]
          refine ⟨?_, by rw [toD_cells]; exact all_pure0 _ c3⟩
          have h9 := congrArg (fun d : D => d.cells.length) hx
          simp only [nzE_cells, List.length_map, (encD_wf τ x).1] at h9
          omega
        · rw [hx]
          simp [toH, VB.toD, V.toD]
      · exact h4.elim
    · exact h4.elim
  · obtain ⟨v, h1, h2⟩ := evO_ok hk
    obtain ⟨lo, h3, h4⟩ := evOpt_ok h2
    obtain ⟨hi, h5, h6⟩ := evOpt_ok h4
    obtain ⟨ti, l1, h6⟩ := lookK_ok h6
    obtain ⟨r, u, h7, h8⟩ := sliceK_ok hΘ (hΘ _ _ l1) h6
    exact ⟨[], r, u, h0, op_slice h1 h3 h5 h7, h8⟩
  · rename_i T x f
    obtain ⟨v, h1, h2⟩ := evO_ok hk
    obtain ⟨ti, l1, h2⟩ := lookK_ok h2
    have hu := (hΘ _ _ l1).und
    split at h2
    · rename_i fs cs e _
      rw [e] at hu
      obtain ⟨g, g1, h2⟩ := nthK_ok h2
      obtain ⟨gi, l2, h2⟩ := lookK_ok h2
      obtain ⟨r, h3, h4⟩ := takeK_ok (hΘ _ _ l2) h2
      exact ⟨[], r, [], h0, op_field h1 (hu.1 f g.1 g.2.1 g.2.2 g1).1 h3, h4⟩
    · exact h2.elim
  · obtain ⟨v, h1, h2⟩ := evO_ok hk
    obtain ⟨i, h3, h4⟩ := evO_ok h2
    obtain ⟨ti, l1, h4⟩ := lookK_ok h4
    have hu := (hΘ _ _ l1).und
    split at h4
    · rename_i s k i e _
      rw [e] at hu
      refine ⟨[], _, [], h0, op_index h1 h3 ?_, h4.2⟩
      unfold aIndex
      simp only [V.toD, show P.underlying _ = some .string from hu]
      rw [if_pos h4.1]
    · exact h4.elim
  · obtain ⟨v, h1, h2⟩ := evO_ok hk
    split at h2
    · obtain ⟨r, h3, h4⟩ := nthK_ok h2
      exact ⟨[], r, [], h0, op_extract h1 (by rw [toDL_eq, List.getElem?_map, h3]; rfl), h4⟩
    · exact h2.elim
  · exact hk.elim
end Go.Proofs.Ytdecnnhcbjhfgaa.Am
