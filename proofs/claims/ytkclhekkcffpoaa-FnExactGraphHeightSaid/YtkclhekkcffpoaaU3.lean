/- The plain machine with types: what a step does to the blocks; loads. -/
import Derived.Test.YtkclhekkcffpoaaU2
namespace Go.Proofs.Ytkclhekkcffpoaa.Am
set_option linter.unusedSimpArgs false
set_option linter.unusedVariables false
open Go Go.RowKit

def Chk (b : Bool) (K : Prop) : Prop := match b with | true => K | false => False
theorem Chk.ok {b : Bool} {K : Prop} (h : Chk b K) : b = true ∧ K := by cases b <;> first | exact h.elim | exact ⟨rfl, h⟩

/-- a number, laid open -/
def natK (n : Nat) (K : Nat → Prop) : Prop :=
  match n with
  | 0 => K 0 | 1 => K 1 | 2 => K 2 | 3 => K 3 | 4 => K 4 | 5 => K 5 | 6 => K 6 | 7 => K 7 | 8 => K 8 | 9 => K 9 | 10 => K 10 | 11 => K 11 | 12 => K 12 | 13 => K 13 | 14 => K 14 | 15 => K 15
  | 16 => K 16 | 17 => K 17 | 18 => K 18 | 19 => K 19 | 20 => K 20 | 21 => K 21 | 22 => K 22 | 23 => K 23
  | n => K n
theorem natK_ok {n : Nat} {K : Nat → Prop} (h : natK n K) : K n := by
  unfold natK at h
  split at h <;> exact h
def natsK : List Nat → (List Nat → Prop) → Prop
  | [], K => K []
  | b :: l, K => natK b fun b => natsK l fun l => K (b :: l)
theorem natsK_ok : ∀ {l : List Nat} {K : List Nat → Prop}, natsK l K → K l
  | [], K, h => h
  | b :: l, K, h => natsK_ok (l := l) (K := fun l => K (b :: l)) (natK_ok (K := fun b => natsK l fun l => K (b :: l)) h)
def appK {α : Type} : List α → List α → (List α → Prop) → Prop
  | [], m, K => K m
  | a :: l, m, K => appK l m fun r => K (a :: r)
theorem appK_ok {α : Type} : ∀ {l m : List α} {K : List α → Prop}, appK l m K → K (l ++ m)
  | [], m, K, h => h
  | a :: l, m, K, h => appK_ok (l := l) (K := fun r => K (a :: r)) h
def nodupN : List Nat → Bool
  | [] => true
  | a :: l => !(l.contains a) && nodupN l
theorem nodupN_ok : ∀ {l : List Nat}, nodupN l = true → l.Nodup
  | [], _ => List.nodup_nil
  | a :: l, hl => by
    simp only [nodupN, Bool.and_eq_true, Bool.not_eq_true'] at hl
    exact List.nodup_cons.2 ⟨by simpa using hl.1, nodupN_ok hl.2⟩
def lookO {α : Type} : List (Nat × α) → Nat → Option α
  | [], _ => none
  | (k, a) :: l, x => bif Nat.beq x k then some a else lookO l x
theorem lookO_ok {α : Type} : ∀ (l : List (Nat × α)) (x : Nat), lookO l x = look l x
  | [], _ => rfl
  | (k, a) :: l, x => by
    simp only [lookO, look, lookO_ok l x]
    by_cases e : x = k
    · subst e; simp
    · have : Nat.beq x k = false := by
        cases hb : Nat.beq x k with
        | false => rfl
        | true => exact absurd (Nat.eq_of_beq_eq_true hb) e
      rw [this, if_neg e]; rfl

/-! ### Updates -/
/-- what the blocks u do to the data, the blocks vu do to the groups -/
def UpdOK (h : VH) (u : HL) (vu : VH) : Prop := (∀ b, look (puts u (toH h)) b = look (toH (puts vu h)) b) ∧ ∀ x ∈ u, x.1.1 ∈ vu.map (·.1)
theorem upd_nil {h : VH} : UpdOK h [] [] := ⟨fun _ => rfl, fun x hx => by cases hx⟩
theorem upd_app {h : VH} {u1 u2 : HL} {v1 v2 : VH} (h1 : UpdOK h u1 v1) (h2 : UpdOK (puts v1 h) u2 v2) : UpdOK h (u1 ++ u2) (v1 ++ v2) := by
  refine ⟨fun b => ?_, fun x hx => ?_⟩
  · rw [puts_append, puts_append, ← h2.1 b]
    exact look_puts_congr (h1.1 b)
  · rw [List.map_append]
    rcases List.mem_append.1 hx with hx | hx
    · exact List.mem_append_left _ (h1.2 x hx)
    · exact List.mem_append_right _ (h2.2 x hx)
/-- one group becomes y -/
theorem upd_put {h : VH} {k : Nat} {y : VB} {u : HL} (hk : ∀ x ∈ u, x.1.1 = k) (hu : ∀ i, look (puts u (toH h)) (k, i) = y.blks[i]?) : UpdOK h u [(k, y)] := by
  refine ⟨fun b => ?_, fun x hx => by rw [hk x hx]; exact List.mem_singleton.2 rfl⟩
  obtain ⟨b1, b2⟩ := b
  rw [look_toH]
  show _ = (look (put k y h) b1).bind _
  rw [look_put]
  by_cases e : b1 = k
  · subst e; rw [if_pos rfl]; exact hu b2
  · rw [if_neg e, look_puts_other _ _ _ fun x hx he => e (by rw [← hk x hx, he]), look_toH]
theorem upd_one {h : VH} {k : Nat} {y : VB} {d : Blk} (ho : ∀ i, i ≠ 0 → look (toH h) (k, i) = none) (hy : y.blks = [d]) : UpdOK h [((k, 0), d)] [(k, y)] := by
  refine upd_put (fun x hx => by obtain rfl := List.mem_singleton.1 hx; rfl) fun i => ?_
  show look (put (k, 0) d (toH h)) (k, i) = _
  rw [look_put, hy]
  cases i with
  | zero => rw [if_pos rfl]; rfl
  | succ i => rw [if_neg (by simp), ho _ (by simp)]; rfl
theorem only0 {h : VH} {k : Nat} {x : VB} (h1 : look h k = some x) (hs : x.sgl = true) : ∀ i, i ≠ 0 → look (toH h) (k, i) = none := by
  intro i hi
  obtain ⟨d, hd⟩ := VB.sgl_ok hs
  rw [look_toH, h1]
  simp only [Option.bind_some, hd]
  cases i with
  | zero => exact absurd rfl hi
  | succ i => rfl
theorem upd_set {h : VH} {k : Nat} {x y : VB} {d : Blk} (h1 : look h k = some x) (hs : x.sgl = true) (hy : y.blks = [d]) : UpdOK h [((k, 0), d)] [(k, y)] := upd_one (only0 h1 hs) hy
theorem upd_new {h : VH} {n : Nat} {y : VB} {d : Blk} (hn : ∀ b : Id, n ≤ b.1 → look (toH h) b = none) (hy : y.blks = [d]) : UpdOK h [((n, 0), d)] [(n, y)] := upd_one (fun i _ => hn (n, i) (Nat.le_refl _)) hy
theorem upd_fam {h : VH} {k i : Nat} {x y : VB} {d : Blk} (h1 : look h k = some x) (hy : y.blks = x.blks.set i d) (hi : i < x.blks.length) : UpdOK h [((k, i), d)] [(k, y)] := by
  refine upd_put (fun x hx => by obtain rfl := List.mem_singleton.1 hx; rfl) fun j => ?_
  show look (put (k, i) d (toH h)) (k, j) = _
  rw [look_put, look_toH, h1, hy]
  by_cases e : j = i
  · subst e; rw [if_pos rfl, List.getElem?_set_self hi]
  · rw [if_neg (by simp [e]), List.getElem?_set_ne (Ne.symm e)]; rfl
theorem upd_push {h : VH} {k : Nat} {x y : VB} {d : Blk} (h1 : look h k = some x) (hy : y.blks = x.blks ++ [d]) : UpdOK h [((k, x.blks.length), d)] [(k, y)] := by
  refine upd_put (fun x hx => by obtain rfl := List.mem_singleton.1 hx; rfl) fun j => ?_
  show look (put (k, x.blks.length) d (toH h)) (k, j) = _
  rw [look_put, look_toH, h1, hy]
  by_cases e : j = x.blks.length
  · subst e; rw [if_pos rfl]; simp
  · rw [if_neg (by simp [e])]
    simp only [Option.bind_some]
    by_cases hl : j < x.blks.length
    · rw [List.getElem?_append_left hl]
    · rw [List.getElem?_eq_none (by omega), List.getElem?_eq_none (by rw [List.length_append, List.length_singleton]; omega)]

/-! ### Other names -/
/-- a family, or nothing -/
def famB (h : VH) (k : Nat) : Bool := match lookO h k with | some x => !x.sgl | none => true
theorem fam_at {h : VH} {k i : Nat} (hf : famB h k = true) {d : Blk} (hd : look (toH h) (k, i) = some d) : (∃ T cs, d = .var T cs) ∨ ∃ E l, d = .row E l := by
  rw [look_toH, ← lookO_ok] at hd
  unfold famB at hf
  cases hl : lookO h k with
  | none => rw [hl] at hd; cases hd
  | some x =>
    rw [hl] at hf hd
    simp only [Option.bind_some] at hd
    cases x <;> simp [VB.sgl] at hf
    all_goals (simp only [VB.blks, List.getElem?_map] at hd; obtain ⟨y, _, rfl⟩ := Option.map_eq_some_iff.1 hd)
    · exact .inl ⟨_, _, rfl⟩
    · exact .inl ⟨_, _, rfl⟩
    · exact .inr ⟨_, _, rfl⟩
theorem fam_ref {h : VH} {k : Nat} (hf : famB h k = true) (i : Nat) : fwd (toH h) (.ref (k, i)) = .ref (k, i) := by
  simp only [fwd]
  split
  · rename_i c hc; rcases fam_at hf hc with ⟨_, _, e⟩ | ⟨_, _, e⟩ <;> cases e
  · rename_i c hc; rcases fam_at hf hc with ⟨_, _, e⟩ | ⟨_, _, e⟩ <;> cases e
  · rfl
theorem fam_ptr {h : VH} {k : Nat} (hf : famB h k = true) (i o : Nat) : fwd (toH h) (.ptr (k, i) o) = .ptr (k, i) o := by
  simp only [fwd]
  split
  · rename_i c hc; rcases fam_at hf hc with ⟨_, _, e⟩ | ⟨_, _, e⟩ <;> cases e
  · rename_i c hc; rcases fam_at hf hc with ⟨_, _, e⟩ | ⟨_, _, e⟩ <;> cases e
  · rfl
theorem fam_eptr {h : VH} {k : Nat} (hf : famB h k = true) (i j o : Nat) : fwd (toH h) (.eptr (k, i) j o) = .eptr (k, i) j o := by
  simp only [fwd]
  split
  · rename_i c hc; rcases fam_at hf hc with ⟨_, _, e⟩ | ⟨_, _, e⟩ <;> cases e
  · rfl
/-- the block of a group of one -/
theorem one_at (h : VH) (b : Nat) : look (toH h) (b, 0) = match lookO h b with | some x => x.blks[0]? | none => none := by
  rw [look_toH, ← lookO_ok]
  cases lookO h b <;> rfl
def fwdR (h : VH) (b : Nat) : V := match lookO h b with
  | some (.moved k i) => .fref k i
  | some (.froz t xs) => .lst t xs
  | _ => .ref b
theorem fwdR_ok (h : VH) (b : Nat) : fwd (toH h) (.ref (b, 0)) = (fwdR h b).toD := by
  simp only [fwd, one_at, fwdR]
  cases hl : lookO h b with
  | none => rfl
  | some x =>
    cases x with
    | fvar T t xs => cases xs <;> rfl
    | fvari T m t xs => cases xs <;> rfl
    | frow E t xs => cases xs <;> rfl
    | _ => rfl
def fwdP (h : VH) (b o : Nat) : V := match lookO h b with
  | some (.moved k i) => .fptr k i o
  | some (.fvb t x) => (match o with | 0 => .box t x | o + 1 => (match enc t x with | .agg _ => .iptr t x (o + 1) | _ => .undef))
  | _ => .ptr b o
theorem fwdP_ok (h : VH) (b o : Nat) (hne : fwdP h b o ≠ .undef) : fwd (toH h) (.ptr (b, 0) o) = (fwdP h b o).toD := by
  unfold fwdP at hne ⊢
  simp only [fwd, one_at]
  cases hl : lookO h b with
  | none => rfl
  | some x =>
    cases x with
    | fvar T t xs => cases xs <;> rfl
    | fvari T m t xs => cases xs <;> rfl
    | frow E t xs => cases xs <;> rfl
    | fvb t x =>
      rw [hl] at hne
      cases o with
      | zero => rfl
      | succ o =>
        simp only at hne ⊢
        have e1 := enc_toD t x
        cases he : enc t x with
        | agg cs =>
          rw [he] at e1
          simp only [VB.blks, List.getElem?_cons_zero, V.toD] at e1 ⊢
          rw [← e1]
          rfl
        | _ => rw [he] at hne; exact absurd rfl hne
    | _ => rfl
def fwd0 (h : VH) (b : Nat) : Option (Nat × Nat) := match lookO h b with | some (.moved k i) => some (k, i) | _ => none
theorem fwd0_e (h : VH) (b i o : Nat) : fwd (toH h) (.eptr (b, 0) i o) = match fwd0 h b with | some p => .eptr p i o | none => .eptr (b, 0) i o := by
  simp only [fwd, one_at, fwd0]
  cases hl : lookO h b with
  | none => rfl
  | some x =>
    cases x with
    | fvar T t xs => cases xs <;> rfl
    | fvari T m t xs => cases xs <;> rfl
    | frow E t xs => cases xs <;> rfl
    | _ => rfl
theorem fwd0_v (h : VH) (b o n : Nat) : fwd (toH h) (.vref (b, 0) o n) = match fwd0 h b with | some p => .vref p o n | none => .vref (b, 0) o n := by
  simp only [fwd, one_at, fwd0]
  cases hl : lookO h b with
  | none => rfl
  | some x =>
    cases x with
    | fvar T t xs => cases xs <;> rfl
    | fvari T m t xs => cases xs <;> rfl
    | frow E t xs => cases xs <;> rfl
    | _ => rfl
mutual
def fwdV (h : VH) (v : V) (K : V → Prop) : Prop :=
  match v with
  | .ref b => (match lookO h b with
    | some (.moved k i) => K (.fref k i)
    | some (.froz t xs) => K (.lst t xs)
    | _ => K (.ref b))
  | .ptr b o => (match lookO h b with
    | some (.moved k i) => K (.fptr k i o)
    | some (.fvb t x) => (match o with | 0 => K (.box t x) | o + 1 => (match enc t x with | .agg _ => K (.iptr t x (o + 1)) | _ => False))
    | _ => K (.ptr b o))
  | .eptr b j o => (match fwd0 h b with | some (k, i) => K (.feptr k i j o) | none => K (.eptr b j o))
  | .vref b o n => (match fwd0 h b with | some _ => False | none => K (.vref b o n))
  | .aptr b p j => (match lookO h b with
    | some (.moved k i) => K (.faptr k i p j)
    | some (.fvb _ _) => False
    | _ => K (.aptr b p j))
  | .fref k i => Chk (famB h k) (K (.fref k i))
  | .fptr k i o => Chk (famB h k) (K (.fptr k i o))
  | .feptr k i j o => Chk (famB h k) (K (.feptr k i j o))
  | .faptr k i p j => Chk (famB h k) (K (.faptr k i p j))
  | .hro k o => Chk (famB h k) (K (.hro k o))
  | .hpo k o => Chk (famB h k) (K (.hpo k o))
  | .agg cs => fwdVs h cs fun cs => K (.agg cs)
  | .tup cs => fwdVs h cs fun cs => K (.tup cs)
  | .clo f cs => fwdVs h cs fun cs => K (.clo f cs)
  | .ifc T v => fwdV h v fun v => K (.ifc T v)
  | .int k n => K (.int k n)
  | .bool b => K (.bool b)
  | .tt => K .tt
  | .ff => K .ff
  | .str s => K (.str s)
  | .lst t xs => K (.lst t xs)
  | .box t x => K (.box t x)
  | .nilp => K .nilp
  | .nils => K .nils
  | .nilf => K .nilf
  | .nili => K .nili
  | .iptr t x o => K (.iptr t x o)
  | .obo t o => K (.obo t o)
  | .undef => K .undef
  | .junk => K .junk
def fwdVs (h : VH) (l : List V) (K : List V → Prop) : Prop :=
  match l with
  | [] => K []
  | v :: l => fwdV h v fun v => fwdVs h l fun l => K (v :: l)
end
mutual
theorem fwdV_ok {h : VH} : ∀ {v : V} {K : V → Prop}, fwdV h v K → ∃ r, fwd (toH h) v.toD = r.toD ∧ K r
  | .ref b, K, hk => by
    simp only [fwdV] at hk
    refine ⟨fwdR h b, fwdR_ok h b, ?_⟩
    unfold fwdR
    cases hl : lookO h b with
    | none => rw [hl] at hk; exact hk
    | some x => rw [hl] at hk; cases x <;> exact hk
  | .ptr b o, K, hk => by
    simp only [fwdV] at hk
    have key : fwdP h b o ≠ .undef ∧ K (fwdP h b o) := by
      unfold fwdP
      cases hl : lookO h b with
      | none => rw [hl] at hk; exact ⟨by simp, hk⟩
      | some x =>
        rw [hl] at hk
        cases x with
        | fvb t x =>
          cases o with
          | zero => exact ⟨by simp, hk⟩
          | succ o =>
            simp only at hk ⊢
            cases he : enc t x with
            | agg cs => rw [he] at hk; exact ⟨by simp, hk⟩
            | _ => rw [he] at hk; exact hk.elim
        | _ => exact ⟨by simp, hk⟩
    exact ⟨_, fwdP_ok h b o key.1, key.2⟩
  | .eptr b j o, K, hk => by
    simp only [fwdV] at hk
    have := fwd0_e h b j o
    split at hk <;> rename_i e <;> rw [e] at this
    · exact ⟨.feptr _ _ j o, this, hk⟩
    · exact ⟨.eptr b j o, this, hk⟩
  | .vref b o n, K, hk => by
    simp only [fwdV] at hk
    have := fwd0_v h b o n
    split at hk <;> rename_i e <;> rw [e] at this
    · exact hk.elim
    · exact ⟨.vref b o n, this, hk⟩
  | .aptr b p j, K, hk => by
    simp only [fwdV] at hk
    have key : fwdP h b (p + j) ≠ .undef ∧ ∃ r : V, (fwdP h b (p + j)).toD = r.toD ∧ K r := by
      unfold fwdP
      cases hl : lookO h b with
      | none => rw [hl] at hk; exact ⟨by simp, .aptr b p j, rfl, hk⟩
      | some x =>
        rw [hl] at hk
        cases x with
        | fvb t x => exact hk.elim
        | moved k i => exact ⟨by simp, .faptr k i p j, rfl, hk⟩
        | _ => exact ⟨by simp, .aptr b p j, rfl, hk⟩
    obtain ⟨k1, r, k2, k3⟩ := key
    exact ⟨r, (fwdP_ok h b (p + j) k1).trans k2, k3⟩
  | .fref k i, K, hk => by simp only [fwdV] at hk; obtain ⟨c, hk⟩ := hk.ok; exact ⟨_, by simp only [V.toD]; exact fam_ref c i, hk⟩
  | .fptr k i o, K, hk => by simp only [fwdV] at hk; obtain ⟨c, hk⟩ := hk.ok; exact ⟨_, by simp only [V.toD]; exact fam_ptr c i o, hk⟩
  | .feptr k i j o, K, hk => by simp only [fwdV] at hk; obtain ⟨c, hk⟩ := hk.ok; exact ⟨_, by simp only [V.toD]; exact fam_eptr c i j o, hk⟩
  | .faptr k i p j, K, hk => by simp only [fwdV] at hk; obtain ⟨c, hk⟩ := hk.ok; exact ⟨_, by simp only [V.toD]; exact fam_ptr c i (p + j), hk⟩
  | .hro k o, K, hk => by simp only [fwdV] at hk; obtain ⟨c, hk⟩ := hk.ok; exact ⟨.hro k o, by cases o with | none => rfl | some i => exact fam_ref c i, hk⟩
  | .hpo k o, K, hk => by simp only [fwdV] at hk; obtain ⟨c, hk⟩ := hk.ok; exact ⟨.hpo k o, by cases o with | none => rfl | some i => exact fam_ptr c i 0, hk⟩
  | .agg cs, K, hk => by
    simp only [fwdV] at hk
    obtain ⟨r, h1, h2⟩ := fwdVs_ok hk
    exact ⟨_, by simp only [fwd, V.toD, h1], h2⟩
  | .tup cs, K, hk => by
    simp only [fwdV] at hk
    obtain ⟨r, h1, h2⟩ := fwdVs_ok hk
    exact ⟨_, by simp only [fwd, V.toD, h1], h2⟩
  | .clo f cs, K, hk => by
    simp only [fwdV] at hk
    obtain ⟨r, h1, h2⟩ := fwdVs_ok hk
    exact ⟨_, by simp only [fwd, V.toD, h1], h2⟩
  | .ifc T v, K, hk => by
    simp only [fwdV] at hk
    obtain ⟨r, h1, h2⟩ := fwdV_ok hk
    exact ⟨_, by simp only [fwd, V.toD, h1], h2⟩
  | .int k n, K, hk => ⟨.int k n, by simp only [V.toD, fwd], by simpa only [fwdV] using hk⟩
  | .bool b, K, hk => ⟨.bool b, by simp only [V.toD, fwd], by simpa only [fwdV] using hk⟩
  | .tt, K, hk => ⟨.tt, by simp only [V.toD, fwd], by simpa only [fwdV] using hk⟩
  | .ff, K, hk => ⟨.ff, by simp only [V.toD, fwd], by simpa only [fwdV] using hk⟩
  | .str s, K, hk => ⟨.str s, by simp only [V.toD, fwd], by simpa only [fwdV] using hk⟩
  | .lst t xs, K, hk => ⟨.lst t xs, by simp only [V.toD, fwd], by simpa only [fwdV] using hk⟩
  | .box t x, K, hk => ⟨.box t x, by simp only [V.toD, fwd], by simpa only [fwdV] using hk⟩
  | .nilp, K, hk => ⟨.nilp, by simp only [V.toD, fwd], by simpa only [fwdV] using hk⟩
  | .nils, K, hk => ⟨.nils, by simp only [V.toD, fwd], by simpa only [fwdV] using hk⟩
  | .nilf, K, hk => ⟨.nilf, by simp only [V.toD, fwd], by simpa only [fwdV] using hk⟩
  | .nili, K, hk => ⟨.nili, by simp only [V.toD, fwd], by simpa only [fwdV] using hk⟩
  | .iptr t x o, K, hk => ⟨.iptr t x o, by simp only [V.toD, fwd], by simpa only [fwdV] using hk⟩
  | .obo t o, K, hk => ⟨.obo t o, by cases o <;> simp only [V.toD, encD, fwd], by simpa only [fwdV] using hk⟩
  | .undef, K, hk => ⟨.undef, by simp only [V.toD, fwd], by simpa only [fwdV] using hk⟩
  | .junk, K, hk => ⟨.junk, by simp only [V.toD, fwd], by simpa only [fwdV] using hk⟩
theorem fwdVs_ok {h : VH} : ∀ {l : List V} {K : List V → Prop}, fwdVs h l K → ∃ r, fwdL (toH h) (toDL l) = toDL r ∧ K r
  | [], K, hk => ⟨[], by simp only [toDL, fwdL], by simpa only [fwdVs] using hk⟩
  | v :: l, K, hk => by
    simp only [fwdVs] at hk
    obtain ⟨v', h1, h2⟩ := fwdV_ok hk
    obtain ⟨l', h3, h4⟩ := fwdVs_ok h2
    exact ⟨v' :: l', by simp only [toDL, fwdL, h1, h3], h4⟩
end
/-- an operand, by the blocks' last names -/
def evF (t : VT) (h : VH) (x : Operand) (K : V → Prop) : Prop := evO t x fun v => fwdV h v K
theorem evF_ok {t : VT} {h : VH} {x : Operand} {K : V → Prop} (hk : evF t h x K) : ∃ v, evalF (toT t) (toH h) x = some v.toD ∧ K v := by
  obtain ⟨v, h1, h2⟩ := evO_ok hk
  obtain ⟨r, h3, h4⟩ := fwdV_ok h2
  exact ⟨r, by unfold evalF; rw [h1, Option.map_some, h3], h4⟩
def evFs (t : VT) (h : VH) : List Operand → (List V → Prop) → Prop
  | [], K => K []
  | x :: l, K => evF t h x fun v => evFs t h l fun vs => K (v :: vs)
theorem evFs_ok {t : VT} {h : VH} : ∀ {l : List Operand} {K : List V → Prop}, evFs t h l K → ∃ vs, evalFs (toT t) (toH h) l = some (toDL vs) ∧ K vs
  | [], K, hk => ⟨[], rfl, hk⟩
  | x :: l, K, hk => by
    obtain ⟨v, h1, h2⟩ := evF_ok hk
    obtain ⟨vs, h3, h4⟩ := evFs_ok h2
    refine ⟨v :: vs, ?_, h4⟩
    simp only [evalFs] at h3 ⊢
    simp [List.mapM_cons, h1, h3, toDL]
def evFPs (t : VT) (h : VH) : List (Nat × Operand) → (List (Nat × V) → Prop) → Prop
  | [], K => K []
  | (k, x) :: l, K => evF t h x fun v => evFPs t h l fun vs => K ((k, v) :: vs)
theorem evFPs_ok {t : VT} {h : VH} : ∀ {l : List (Nat × Operand)} {K : List (Nat × V) → Prop}, evFPs t h l K → ∃ vs, evalFPs (toT t) (toH h) l = some (toP vs) ∧ K vs
  | [], K, hk => ⟨[], rfl, hk⟩
  | (k, x) :: l, K, hk => by
    obtain ⟨v, h1, h2⟩ := evF_ok hk
    obtain ⟨vs, h3, h4⟩ := evFPs_ok h2
    refine ⟨(k, v) :: vs, ?_, h4⟩
    simp only [evalFPs] at h3 ⊢
    simp [List.mapM_cons, h1, h3, toP]
/-- what may be nil -/
def Opt {α : Type} (o : Option α) (A : Prop) (B : α → Prop) : Prop := (o = none → A) ∧ ∀ x, o = some x → B x

/-! ### Loads -/
def V.whole : V → Bool
  | .tup _ | .undef => false
  | _ => true
def V.one : V → Bool
  | .agg _ | .tup _ | .undef => false
  | _ => true
theorem whole_toD (v : V) : v.toD.whole = v.whole := by
  cases v
  case hro k o => cases o <;> rfl
  case hpo k o => cases o <;> rfl
  case obo t o => cases o <;> rfl
  all_goals rfl
theorem one_toD (v : V) : v.toD.one = v.one := by
  cases v
  case hro k o => cases o <;> rfl
  case hpo k o => cases o <;> rfl
  case obo t o => cases o <;> rfl
  all_goals rfl
theorem all_one (l : List V) (h : l.all V.one = true) : (toDL l).all D.one = true := by
  rw [toDL_eq, List.all_map]
  rw [List.all_eq_true] at h ⊢
  intro x hx
  simp only [Function.comp, one_toD]
  exact h x hx
theorem enc_cells (t : Ty) (x : t.den) : (encD t x).cells = toDL (enc t x).cells := by rw [← enc_toD, toD_cells]
/-- what a pointer to the variable i of the family x leads to -/
def famLoad (ti : TI) (x : VB) (i o : Nat) (K : V → Prop) : Prop :=
  match x with
  | .fvar _ t xs => Get xs i fun e => takeK ti (enc t e).cells o K
  | _ => False
def loadK (ti : TI) (h : VH) (v : V) (K : V → Prop) : Prop :=
  match v with
  | .ptr b o => blkK h b fun x => (match x with
    | .var _ cs => takeK ti cs o K
    | .vari _ pre m _ xs post => (match Nat.blt o pre.length with
      | true => takeK ti pre o K
      | false => Need (xs.length = m ∧ pre.length + m ≤ o) (takeK ti post (o - (pre.length + m)) K))
    | .fvb t e => takeK ti (enc t e).cells o K
    | _ => False)
  | .aptr b p i => blkK h b fun x => (match x with
    | .vari _ pre _ t xs _ => Chk (Nat.beq p pre.length && !ti.agg && t.sz == 1) (Get xs i fun e => K (enc t e))
    | _ => False)
  | .eptr b i o => blkK h b fun x => (match x with
    | .row _ t xs => Get xs i fun e => takeK ti (enc t e).cells o K
    | .lit _ vs => nthK vs i fun e => takeK ti e.cells o K
    | _ => False)
  | .fptr k i o => blkK h k fun x => famLoad ti x i o K
  | .hpo k p => Opt p False fun i => blkK h k fun x => famLoad ti x i 0 K
  | .faptr k i p j => blkK h k fun x => (match x with
    | .fvari _ _ t xss => Chk (Nat.beq p 0 && !ti.agg && t.sz == 1) (Get xss i fun xs => Get xs j fun e => K (enc t e))
    | _ => False)
  | .feptr k i j o => blkK h k fun x => (match x with
    | .frow _ t xss => Get xss i fun xs => Get xs j fun e => takeK ti (enc t e).cells o K
    | _ => False)
  | .iptr t e o => takeK ti (enc t e).cells o K
  | .box t e => takeK ti (enc t e).cells 0 K
  | .obo t p => Opt p False fun e => takeK ti (enc t e).cells 0 K
  | _ => False
theorem famLoad_ok {P : Program} {T : TypeId} {ti : TI} (ht : ti.ok P T) {h : VH} {k i o : Nat} {x : VB} (hx : look h k = some x) {K : V → Prop} (hk : famLoad ti x i o K) : ∃ r, aLoad P (toH h) T (.ptr (k, i) o) = some r.toD ∧ K r := by
  unfold famLoad at hk
  split at hk
  · rename_i T' t xs
    obtain ⟨e, h4, h5⟩ := hk
    obtain ⟨r, h6, h7⟩ := takeK_ok ht h5
    have hl := look_at (i := i) hx (d := .var T' (encD t e).cells) (by simp only [VB.blks, List.getElem?_map, h4, Option.map_some])
    exact ⟨r, by simp only [aLoad, hl, enc_cells, h6], h7⟩
  · exact hk.elim
theorem loadK_ok {P : Program} {T : TypeId} {ti : TI} (ht : ti.ok P T) {h : VH} {v : V} {K : V → Prop} (hk : loadK ti h v K) : ∃ r, aLoad P (toH h) T v.toD = some r.toD ∧ K r := by
  unfold loadK at hk
  split at hk
  · rename_i b o
    obtain ⟨x, h1, h3⟩ := blkK_ok hk
    split at h3
    · rename_i T' cs
      have hl := look_at (i := 0) h1 (d := .var T' (toDL cs)) rfl
      obtain ⟨r, h4, h5⟩ := takeK_ok ht h3
      exact ⟨r, by simp only [V.toD, aLoad, hl, h4], h5⟩
    · rename_i T' pre m t xs post
      have hl := look_at (i := 0) h1 (d := .var T' (toDL pre ++ xs.map (encD t) ++ toDL post)) rfl
      split at h3
      · obtain ⟨r, h4, h5⟩ := takeK_ok ht h3
        exact ⟨r, by simp only [V.toD, aLoad, hl, List.append_assoc]; exact takeVal_left h4, h5⟩
      · obtain ⟨⟨c1, c2⟩, h3⟩ := h3
        obtain ⟨r, h4, h5⟩ := takeK_ok ht h3
        refine ⟨r, ?_, h5⟩
        simp only [V.toD, aLoad, hl]
        have h6 := takeVal_right (A := toDL pre ++ xs.map (encD t)) h4
        rw [List.length_append, List.length_map, toDL_len, c1] at h6
        rw [show pre.length + m + (o - (pre.length + m)) = o by omega] at h6
        exact h6
    · rename_i t e
      have hl := look_at (i := 0) h1 (d := .fvar (encD t e).cells) rfl
      obtain ⟨r, h4, h5⟩ := takeK_ok ht h3
      exact ⟨r, by simp only [V.toD, aLoad, hl, enc_cells, h4], h5⟩
    · exact h3.elim
  · rename_i b p i
    obtain ⟨x, h1, h3⟩ := blkK_ok hk
    split at h3
    · rename_i T' pre m t xs post
      have hl := look_at (i := 0) h1 (d := .var T' (toDL pre ++ xs.map (encD t) ++ toDL post)) rfl
      obtain ⟨c, h3⟩ := h3.ok
      simp only [Bool.and_eq_true, Bool.not_eq_true', beq_iff_eq] at c
      obtain ⟨⟨c1, c2⟩, c3⟩ := c
      obtain ⟨e, h4, h5⟩ := h3
      have hp : p = pre.length := Nat.eq_of_beq_eq_true c1
      refine ⟨enc t e, ?_, h5⟩
      simp only [V.toD, aLoad, hl, enc_toD]
      have hlt := (List.getElem?_eq_some_iff.1 h4).1
      have ha := ht.agg
      rw [c2] at ha
      refine take1 ha ?_
      rw [List.append_assoc, List.getElem?_append_right (by rw [toDL_len]; omega), toDL_len, hp, Nat.add_sub_cancel_left, List.getElem?_append_left (by simpa using hlt), List.getElem?_map, h4]
      rfl
    · exact h3.elim
  · rename_i b i o
    obtain ⟨x, h1, h3⟩ := blkK_ok hk
    split at h3
    · rename_i E t xs
      have hl := look_at (i := 0) h1 (d := .row E (xs.map (encD t))) rfl
      obtain ⟨e, h4, h5⟩ := h3
      obtain ⟨r, h6, h7⟩ := takeK_ok ht h5
      exact ⟨r, by simp only [V.toD, aLoad, hl, List.getElem?_map, h4, Option.map_some, enc_cells, h6], h7⟩
    · rename_i E vs
      have hl := look_at (i := 0) h1 (d := .row E (toDL vs)) rfl
      obtain ⟨e, h4, h5⟩ := nthK_ok h3
      obtain ⟨r, h6, h7⟩ := takeK_ok ht h5
      refine ⟨r, ?_, h7⟩
      simp only [V.toD, aLoad, hl, toDL_eq, List.getElem?_map, h4, Option.map_some, toD_cells]
      rw [← toDL_eq]; exact h6
    · exact h3.elim
  · obtain ⟨x, h1, h3⟩ := blkK_ok hk
    obtain ⟨r, h4, h5⟩ := famLoad_ok ht h1 h3
    exact ⟨r, h4, h5⟩
  · rename_i k p
    cases p with
    | none => exact (hk.1 rfl).elim
    | some i =>
      obtain ⟨x, h1, h3⟩ := blkK_ok (hk.2 i rfl)
      obtain ⟨r, h4, h5⟩ := famLoad_ok ht h1 h3
      exact ⟨r, h4, h5⟩
  · rename_i k i p j
    obtain ⟨x, h1, h3⟩ := blkK_ok hk
    split at h3
    · rename_i T' m t xss
      obtain ⟨c, h3⟩ := h3.ok
      simp only [Bool.and_eq_true, Bool.not_eq_true', beq_iff_eq] at c
      obtain ⟨⟨c1, c2⟩, c3⟩ := c
      obtain ⟨xs, h4, e, h5, h6⟩ := h3
      have hl := look_at (i := i) h1 (d := .var T' (xs.map (encD t))) (by simp only [VB.blks, List.getElem?_map, h4, Option.map_some])
      have hp : p = 0 := Nat.eq_of_beq_eq_true c1
      subst hp
      have ha := ht.agg
      rw [c2] at ha
      refine ⟨enc t e, ?_, h6⟩
      simp only [V.toD, aLoad, hl, enc_toD]
      exact take1 ha (by rw [Nat.zero_add, List.getElem?_map, h5]; rfl)
    · exact h3.elim
  · rename_i k i j o
    obtain ⟨x, h1, h3⟩ := blkK_ok hk
    split at h3
    · rename_i E t xss
      obtain ⟨xs, h4, e, h5, h6⟩ := h3
      have hl := look_at (i := i) h1 (d := .row E (xs.map (encD t))) (by simp only [VB.blks, List.getElem?_map, h4, Option.map_some])
      obtain ⟨r, h7, h8⟩ := takeK_ok ht h6
      exact ⟨r, by simp only [V.toD, aLoad, hl, List.getElem?_map, h5, Option.map_some, enc_cells, h7], h8⟩
    · exact h3.elim
  · obtain ⟨r, h4, h5⟩ := takeK_ok ht hk
    exact ⟨r, by simp only [V.toD, aLoad, enc_cells, h4], h5⟩
  · obtain ⟨r, h4, h5⟩ := takeK_ok ht hk
    exact ⟨r, by simp only [V.toD, aLoad, enc_cells, h4], h5⟩
  · rename_i t p
    cases p with
    | none => exact (hk.1 rfl).elim
    | some e =>
      obtain ⟨r, h4, h5⟩ := takeK_ok ht (hk.2 e rfl)
      exact ⟨r, by simp only [V.toD, encD, aLoad, enc_cells, h4], h5⟩
  · exact hk.elim
end Go.Proofs.Ytkclhekkcffpoaa.Am
