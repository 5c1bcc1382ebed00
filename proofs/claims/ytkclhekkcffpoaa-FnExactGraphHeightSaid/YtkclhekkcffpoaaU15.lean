/- The plain machine with types: one operation. -/
import Derived.Test.YtkclhekkcffpoaaU14
namespace Go.Proofs.Ytkclhekkcffpoaa.Am
set_option linter.unusedSimpArgs false
set_option linter.unusedVariables false
open Go Go.RowKit

variable {P : Program} {N : Nat} {Θ : TT} {t : VT} {h : VH} {n : Nat}

/-! ### Calls: what is handed over -/
mutual
/-- the groups that are handed over with a value; own: rows too -/
def hndV (own : Bool) (h : VH) : V → List Nat
  | .ref b => (match lookO h b with
    | some (.row _ t _) => bif own || !t.pure then [b] else []
    | some (.lit ..) => [b]
    | _ => [])
  | .ptr b _ => (match lookO h b with
    | some (.fvb ..) => []
    | _ => [b])
  | .agg cs => hndVs own h cs
  | .tup cs => hndVs own h cs
  | .clo _ cs => hndVs own h cs
  | .ifc _ v => hndV own h v
  | v => grpV v
def hndVs (own : Bool) (h : VH) : List V → List Nat
  | [] => []
  | v :: l => hndV own h v ++ hndVs own h l
end
def hndB (own : Bool) (h : VH) : VB → List Nat
  | .var _ cs => hndVs own h cs
  | .vari _ pre _ t _ post => hndVs own h pre ++ t.fams ++ hndVs own h post
  | .lit _ vs => hndVs own h vs
  | x => x.fams
def addN (l : List Nat) (b : Nat) : List Nat := match l.contains b with | true => l | false => l ++ [b]
def addsN : List Nat → List Nat → List Nat
  | l, [] => l
  | l, b :: bs => addsN (addN l b) bs
def hndAllK (own : Bool) (h : VH) : Nat → Nat → List Nat → (List Nat → Prop) → Prop
  | 0, _, l, K => K l
  | k + 1, i, l, K => match l[i]? with
    | none => K l
    | some b => natsK (addsN l (match lookO h b with | some x => hndB own h x | none => [])) fun l => hndAllK own h k (i + 1) l K
theorem hndAllK_ok {own : Bool} : ∀ {k i : Nat} {l : List Nat} {K : List Nat → Prop}, hndAllK own h k i l K → ∃ l, K l
  | 0, _, l, _, hk => ⟨l, hk⟩
  | k + 1, i, l, K, hk => by
    simp only [hndAllK] at hk
    split at hk
    · exact ⟨_, hk⟩
    · have hk := natsK_ok hk
      exact hndAllK_ok hk
/-- what is handed over: single blocks, families -/
def hndK (own : Bool) (h : VH) (vs : List V) (K : List Nat → List Nat → Prop) : Prop :=
  natsK (addsN [] (hndVs own h vs)) fun l => hndAllK own h 60 0 l fun l => natsK (l.filter fun b => Nat.ble 4 b) fun os => natsK (l.filter fun b => Nat.blt b 4) fun fs => K os fs
theorem hndK_ok {own : Bool} {vs : List V} {K : List Nat → List Nat → Prop} (hk : hndK own h vs K) : ∃ os fs, K os fs := by
  have hk := natsK_ok hk
  obtain ⟨l, hk⟩ := hndAllK_ok hk
  have hk := natsK_ok hk
  have hk := natsK_ok hk
  exact ⟨_, _, hk⟩
/-- a call that is to be met -/
def CallM (P : Program) (h : VH) (n : Nat) (f : FuncId) (vs : List V) (K : V → VH → List Nat → Prop) : Prop := ∃ os fs, callO P h n f vs os fs K
theorem call_r {f : FuncId} {vs : List V} {K : V → VH → List Nat → Prop} (hk : hndK false h vs fun os fs => callO P h n f vs os fs K) : CallM P h n f vs K := hndK_ok hk
theorem call_o {f : FuncId} {vs : List V} {K : V → VH → List Nat → Prop} (hk : hndK true h vs fun os fs => callO P h n f vs os fs K) : CallM P h n f vs K := hndK_ok hk

/-! ### Builtins -/
def builtin0K (Θ : TT) (b : Builtin) (vs : List V) (Ts : List TypeId) (h : VH) (K : V → VH → Prop) : Prop :=
  match b, vs, Ts with
  | .len, [v], [T] => lookK Θ T fun ti => lenK ti h v fun r => K r []
  | .copy, [d, e], [T, _] => lookK Θ T fun ti => copyK Θ ti h d e K
  | .min, [.int k x, .int k' y], _ => Chk (decide (k = k')) (K (.int k (if y < x then y else x)) [])
  | .max, [.int k x, .int k' y], _ => Chk (decide (k = k')) (K (.int k (if x < y then y else x)) [])
  | _, _, _ => False
theorem builtin0K_ok (hΘ : Θ.ok P) {b : Builtin} {vs : List V} {Ts : List TypeId} {m : Bool} {K : V → VH → Prop} (hk : builtin0K Θ b vs Ts h K) : ∃ r u vu, (∀ n, aBuiltin P m b (toDL vs) Ts (toH h) n = some (r.toD, u)) ∧ UpdOK h u vu ∧ K r vu := by
  unfold builtin0K at hk
  split at hk
  · obtain ⟨ti, l1, hk⟩ := lookK_ok hk
    obtain ⟨r, h1, h2⟩ := lenK_ok (hΘ _ _ l1) hk
    exact ⟨r, [], [], fun n => by simp only [aBuiltin, toDL, h1, Option.map_some], upd_nil, h2⟩
  · obtain ⟨ti, l1, hk⟩ := lookK_ok hk
    obtain ⟨r, u, vu, h1, h2, h3⟩ := copyK_ok hΘ (hΘ _ _ l1) hk
    exact ⟨r, u, vu, fun n => by simp only [aBuiltin, toDL, h1], h2, h3⟩
  · obtain ⟨c, hk⟩ := hk.ok
    simp only [decide_eq_true_eq] at c
    exact ⟨_, [], [], fun n => by simp only [aBuiltin, toDL, V.toD, if_pos c], upd_nil, hk⟩
  · obtain ⟨c, hk⟩ := hk.ok
    simp only [decide_eq_true_eq] at c
    exact ⟨_, [], [], fun n => by simp only [aBuiltin, toDL, V.toD, if_pos c], upd_nil, hk⟩
  · exact hk.elim

/-! ### A row of a few elements becomes one of a kind -/
def fitEs (h : VH) (τ : Ty) : List V → (VH → VH → List Nat → Prop) → Prop
  | [], K => K h [] []
  | v :: l, K => fitKs h τ.shs v.cells fun h1 vu g => fitEs h1 τ l fun h2 vu2 g2 => K h2 (vu ++ vu2) (g ++ g2)
theorem fitEs_ok {τ : Ty} : ∀ {l : List V} {h : VH} {K : VH → VH → List Nat → Prop}, fitEs h τ l K → ∃ u vu g, (∀ f : List Nat, (∀ k ∈ g, k ∈ f) → PreOK P N h u vu f) ∧ K (puts vu h) vu g
  | [], h, K, hk => ⟨[], [], [], fun f _ => pre_nil, hk⟩
  | v :: l, h, K, hk => by
    obtain ⟨u1, v1, g1, p1, hk⟩ := fitKs_ok (P := P) (N := N) hk
    obtain ⟨u2, v2, g2, p2, hk⟩ := fitEs_ok hk
    refine ⟨u1 ++ u2, v1 ++ v2, g1 ++ g2, fun f hf => pre_app (p1 f fun k hk => hf k (List.mem_append_left _ hk)) (p2 f fun k hk => hf k (List.mem_append_right _ hk)), ?_⟩
    rw [puts_append]
    exact hk
def decL (t : Ty) : List V → Option (List t.den)
  | [] => some []
  | v :: l => match dec t (decs.nzL v), decL t l with
    | some x, some xs => some (x :: xs)
    | _, _ => none
theorem decL_ok {t : Ty} : ∀ {l : List V} {xs : List t.den}, decL t l = some xs → (toDL l).map nzE = xs.map (encD t)
  | [], xs, h => by simp only [decL, Option.some.injEq] at h; subst h; rfl
  | v :: l, xs, h => by
    simp only [decL] at h
    split at h
    · rename_i x xs' h1 h2
      simp only [Option.some.injEq] at h
      subst h
      simp only [toDL, List.map_cons, decL_ok h2]
      rw [← dec_ok h1, nzL_ok]
    · cases h
/-- block b, a row of a few elements, becomes one of the kind τ -/
def tameLK (h : VH) (b : Nat) (τ : Ty) (K : VH → VH → List Nat → Prop) : Prop :=
  match lookO h b with
  | some (.lit _ vs) => fitEs h τ vs fun h1 vu g => (match lookO h1 b with
    | some (.lit E vs') => fwdVs h1 vs' fun vs2 => (match decL τ vs2 with
      | some xs => putK b (VB.row E τ xs) h1 fun h2 => K h2 (vu ++ [(b, .row E τ xs)]) (g ++ b :: grpsVs vs')
      | none => False)
    | _ => False)
  | _ => K h [] []
theorem tameLK_ok {b : Nat} {τ : Ty} {K : VH → VH → List Nat → Prop} (hk : tameLK h b τ K) : ∃ u vu g, (∀ f : List Nat, (∀ k ∈ g, k ∈ f) → PreOK P N h u vu f) ∧ K (puts vu h) vu g := by
  unfold tameLK at hk
  split at hk
  · obtain ⟨u1, v1, g1, p1, hk⟩ := fitEs_ok (P := P) (N := N) hk
    split at hk
    · rename_i E vs' hb
      rw [lookO_ok] at hb
      obtain ⟨vs2, f1, hk⟩ := fwdVs_ok hk
      split at hk
      · rename_i xs hx
        have hk := putK_ok hk
        have hlast : lastB (toH (puts v1 h)) (.row E (toDL vs')) = .row E (xs.map (encD τ)) := by
          simp only [lastB]
          rw [← decL_ok hx, ← f1, fwdL_eq, List.map_map]
          rfl
        refine ⟨u1 ++ [((b, 0), lastB (toH (puts v1 h)) (.row E (toDL vs')))], v1 ++ [(b, .row E τ xs)], g1 ++ b :: grpsVs vs', fun f hf => pre_app (p1 f fun k hk => hf k (List.mem_append_left _ hk)) (pre_last (y := .row E τ xs) hb rfl (by rw [hlast]; rfl) ⟨hf b (by simp), fun c hc => hf c.1 ?_⟩), ?_⟩
        · refine List.mem_append_right _ (List.mem_cons_of_mem _ (grpsVs_ok vs' c ?_))
          rw [allIdsL_eq]
          exact hc
        · rw [puts_append]; exact hk
      · exact hk.elim
    · exact hk.elim
  · exact ⟨[], [], [], fun f _ => pre_nil, hk⟩
/-- the kind that a slice's elements have, or shall have -/
def kindK (h : VH) (d : V) (o : Option Ty) (K : Ty → Prop) : Prop :=
  match d with
  | .ref b => blkK h b fun x => (match x with
    | .row _ t _ => K t
    | _ => False)
  | _ => (match o with | some t => K t | none => False)
theorem kindK_ok {d : V} {o : Option Ty} {K : Ty → Prop} (hk : kindK h d o K) : ∃ t, K t := by
  unfold kindK at hk
  split at hk
  · obtain ⟨x, _, hk⟩ := blkK_ok hk
    split at hk
    · exact ⟨_, hk⟩
    · exact hk.elim
  · split at hk
    · exact ⟨_, hk⟩
    · exact hk.elim
def litB (h : VH) (e : V) : Option Nat := match e with
  | .ref b => (match lookO h b with | some (.lit ..) => some b | _ => none)
  | _ => none
/-- the value of a literal's element -/
def wholeNz (s : Nat) (v : V) : Bool := v.whole && lenB' v.cells s && v.cells.all V.one
def nzP : List (Nat × V) → List V
  | [] => []
  | (_, v) :: l => decs.nzL v :: nzP l
theorem nzP_ok : ∀ l : List (Nat × V), ((toP l).map fun x => nzE x.2) = toDL (nzP l)
  | [] => rfl
  | (k, v) :: l => by
    have := nzP_ok l
    simp only [toP, List.map_cons, List.map_map] at this ⊢
    simp only [nzP, toDL, nzL_ok]
    rw [← this]
def lenK' : List (Nat × V) → Nat → Bool
  | [], 0 => true
  | _ :: l, n + 1 => lenK' l n
  | _, _ => false
theorem lenK'_ok : ∀ {l : List (Nat × V)} {n : Nat}, lenK' l n = true → l.length = n
  | [], 0, _ => rfl
  | _ :: l, n + 1, h => by simp [lenK'_ok (l := l) (n := n) h]
  | [], _ + 1, h => by cases h
  | _ :: _, 0, h => by cases h
def buildSK (ei : TI) (E : TypeId) (vs : List (Nat × V)) (n : Nat) (K : V → VH → Prop) : Prop :=
  match ei.ty with
  | some τ => (match decs τ vs with
    | some xs => Chk (τ.sz == ei.sz) (K (.ref n) [(n, .row E τ xs)])
    | none => Chk (vs.all fun p => wholeNz ei.sz p.2) (K (.ref n) [(n, .lit E (nzP vs))]))
  | none => Chk (vs.all fun p => wholeNz ei.sz p.2) (K (.ref n) [(n, .lit E (nzP vs))])
theorem encD_wfD (t : Ty) (x : t.den) : wfD t.sz (encD t x) = true := by
  have h1 := encD_wf t x
  have hw : (encD t x).whole = true := by
    cases t <;> first | rfl | (cases x <;> rfl)
  simp only [wfD, hw, h1.1, h1.2, beq_self_eq_true, Bool.and_self]
theorem buildSK_ok {T E : TypeId} {ei : TI} {len : Nat} {vs : List (Nat × V)} {K : V → VH → Prop} (hu : P.underlying T = some (.slice E)) (he : elemT P E = some (ei.sz, ei.nb)) (hkeys : keysB vs 0 = true) (hlen : lenK' vs len = true) (hb : len * ei.sz ≤ 16777216)
    (hn : ∀ c : Id, n ≤ c.1 → look (toH h) c = none) (hk : buildSK ei E vs n K) : ∃ r u vu, aBuildSlice P (n, 0) T len ((toP vs).map fun x => (x.1, nzE x.2)) = some (V.toD r, u) ∧ UpdOK h u vu ∧ K r vu := by
  have hmap1 : ((toP vs).map fun x => (x.1, nzE x.2)).map (·.1) = List.range' 0 len := by
    rw [List.map_map]
    have := keysB_ok hkeys
    rw [lenK'_ok hlen] at this
    exact this
  have hmap2 : ((toP vs).map fun x => (x.1, nzE x.2)).map (·.2) = (toP vs).map fun x => nzE x.2 := by
    rw [List.map_map]; rfl
  have lit : (vs.all fun p => wholeNz ei.sz p.2) = true → aBuildSlice P (n, 0) T len ((toP vs).map fun x => (x.1, nzE x.2)) = some ((V.ref n).toD, [((n, 0), .row E (toDL (nzP vs)))]) := by
    intro hw
    unfold aBuildSlice
    simp only [hu, he]
    rw [if_pos, hmap2, nzP_ok]
    · rfl
    · refine ⟨hmap1, hb, ?_⟩
      rw [hmap2, List.all_eq_true]
      intro e hx
      obtain ⟨p, hp, rfl⟩ := List.mem_map.1 hx
      obtain ⟨q, hq, rfl⟩ := List.mem_map.1 hp
      rw [List.all_eq_true] at hw
      have := hw q hq
      simp only [wholeNz, Bool.and_eq_true] at this
      obtain ⟨⟨w1, w2⟩, w3⟩ := this
      simp only [wfD, Bool.and_eq_true, beq_iff_eq]
      refine ⟨by rw [nzE_whole, whole_toD]; exact w1, ?_, nz_one w3⟩
      rw [nzE_V, toDL_len, nzVs_len, lenB_ok' w2]
  unfold buildSK at hk
  split at hk
  · rename_i τ hτ
    split at hk
    · rename_i xs hx
      obtain ⟨c, hk⟩ := hk.ok
      simp only [beq_iff_eq] at c
      have hd := decs_ok hx
      refine ⟨.ref n, [((n, 0), .row E (xs.map (encD τ)))], _, ?_, upd_new hn rfl, hk⟩
      unfold aBuildSlice
      simp only [hu, he]
      rw [if_pos, hmap2, hd]
      · rfl
      · refine ⟨hmap1, hb, ?_⟩
        rw [hmap2, hd, List.all_eq_true]
        intro e hx
        obtain ⟨x, _, rfl⟩ := List.mem_map.1 hx
        rw [← c]
        exact encD_wfD τ x
    · obtain ⟨c, hk⟩ := hk.ok
      exact ⟨_, _, _, lit c, upd_new hn rfl, hk⟩
  · obtain ⟨c, hk⟩ := hk.ok
    exact ⟨_, _, _, lit c, upd_new hn rfl, hk⟩
/-- no interface -/
def solid (k : TK) : Bool := match k with | .ifc | .func => false | _ => true
theorem solid_ok {T : TypeId} {k : TK} (h : k.ok P T) (hs : solid k = true) : aIfc P T = true := by
  unfold aIfc
  cases k with
  | struct fs =>
    have := h.2
    unfold placesT at this
    cases hu : P.underlying T with
    | none => rw [hu] at this; simp at this
    | some d =>
      rw [hu] at this
      cases d <;> first | rfl | (simp at this)
  | ifc => cases hs
  | func => cases hs
  | int k => rw [show P.underlying T = some (.int k) from h]
  | bool => rw [show P.underlying T = some .bool from h]
  | str => rw [show P.underlying T = some .string from h]
  | slice E => rw [show P.underlying T = some (.slice E) from h]
  | ptr E => rw [show P.underlying T = some (.pointer E) from h]
  | arr m E => rw [show P.underlying T = some (.array m E) from h]
/-- a value of the type T, out of an interface -/
def assertK (T : TypeId) (ti : TI) (ok : Bool) (v : V) (K : V → Prop) : Prop :=
  Chk (solid ti.k) (match v with
    | .ifc T' e => (match Nat.beq T' T with
      | true => (match ok with | true => K (.tup [e, .tt]) | false => K e)
      | false => Chk ok (match ti.z with | some z => K (.tup [z, .ff]) | none => False))
    | .nili => Chk ok (match ti.z with | some z => K (.tup [z, .ff]) | none => False)
    | _ => False)
theorem assertK_ok {T : TypeId} {ti : TI} (ht : ti.ok P T) {ok : Bool} {v : V} {K : V → Prop} (hk : assertK T ti ok v K) : ∃ r, aAssert P T ok v.toD = some (V.toD r) ∧ K r := by
  obtain ⟨c, hk⟩ := Chk.ok hk
  have hi := solid_ok ht.und c
  unfold aAssert
  rw [if_pos hi]
  split at hk
  · rename_i T' e
    simp only [V.toD]
    split at hk
    · rename_i hb
      rw [if_pos (Nat.eq_of_beq_eq_true hb)]
      cases ok with
      | true => exact ⟨_, by simp [V.toD, toDL], hk⟩
      | false => exact ⟨_, by simp, hk⟩
    · rename_i hb
      obtain ⟨c2, hk⟩ := hk.ok
      rw [if_neg (by rintro rfl; simp at hb)]
      split at hk
      · rename_i z hz
        refine ⟨_, ?_, hk⟩
        rw [if_pos c2, ht.zero z hz]
        simp [V.toD, toDL]
      · exact hk.elim
  · obtain ⟨c2, hk⟩ := hk.ok
    split at hk
    · rename_i z hz
      refine ⟨_, ?_, hk⟩
      simp only [V.toD]
      rw [if_pos c2, ht.zero z hz]
      simp [V.toD, toDL]
    · exact hk.elim
  · exact hk.elim
theorem aSlice_n {q : Bool} (hq : q = false) {T : TypeId} {H : HL} {m m' : Id} {d : D} {lo hi : Option D} : aSlice P H q m T d lo hi = aSlice P H q m' T d lo hi := by
  subst hq
  unfold aSlice
  simp only [Bool.false_eq_true, if_false]
end Go.Proofs.Ytkclhekkcffpoaa.Am
