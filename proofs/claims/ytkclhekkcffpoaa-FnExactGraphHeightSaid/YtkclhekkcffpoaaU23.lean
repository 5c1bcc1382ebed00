/- The plain machine with types: how the marks are met. -/
import Derived.Test.YtkclhekkcffpoaaU22
namespace Go.Proofs.Ytkclhekkcffpoaa.Am
set_option linter.unusedSimpArgs false
set_option linter.unusedVariables false
open Go Go.RowKit

theorem need_i {φ K : Prop} (h : φ) (k : K) : Need φ K := ⟨h, k⟩
theorem mk_i {b : Bool} {K : Prop} (h : b = true) (k : K) : Mk b K := ⟨h, k⟩
theorem ari_in {k : IntKind} {z : Int} {K : Int → Prop} (h : inR k z) (g : K z) : Ari k z K := .inl ⟨h, g⟩
theorem ari_64 {z : Int} {K : Int → Prop} (h : -9223372036854775808 ≤ z ∧ z ≤ 9223372036854775807) (g : K z) : Ari .i64 z K := .inl ⟨h, g⟩
theorem ari_wrap {k : IntKind} {z : Int} {K : Int → Prop} (g : K (k.wrap z)) : Ari k z K := .inr g
theorem idx_i {α : Type} {xs : List α} {i : Int} {K : Nat → α → Prop} (h0 : 0 ≤ i) (hl : i.toNat < xs.length) (h : ∀ x, xs[i.toNat]? = some x → K i.toNat x) : Idx xs i K :=
  ⟨h0, xs[i.toNat], List.getElem?_eq_getElem hl, h _ (List.getElem?_eq_getElem hl)⟩
theorem idx_k {α : Type} {xs : List α} {i : Int} {K : Nat → α → Prop} {x : α} (h0 : 0 ≤ i) (hx : xs[i.toNat]? = some x) (h : K i.toNat x) : Idx xs i K := ⟨h0, x, hx, h⟩
theorem get_i {α : Type} {xs : List α} {i : Nat} {K : α → Prop} (hl : i < xs.length) (h : ∀ x, xs[i]? = some x → K x) : Get xs i K :=
  ⟨xs[i], List.getElem?_eq_getElem hl, h _ (List.getElem?_eq_getElem hl)⟩
theorem get_k {α : Type} {xs : List α} {i : Nat} {K : α → Prop} {x : α} (hx : xs[i]? = some x) (h : K x) : Get xs i K := ⟨x, hx, h⟩
theorem idx_n {α : Type} {xs : List α} {i : Nat} {K : Nat → α → Prop} (hl : i < xs.length) (h : ∀ x, xs[i]? = some x → K i x) : Idx xs (i : Int) K :=
  ⟨Int.natCast_nonneg i, xs[i], List.getElem?_eq_getElem hl, h _ (List.getElem?_eq_getElem hl)⟩
theorem idx_kn {α : Type} {xs : List α} {i : Nat} {K : Nat → α → Prop} {x : α} (hx : xs[i]? = some x) (h : K i x) : Idx xs (i : Int) K := ⟨Int.natCast_nonneg i, x, hx, h⟩
theorem get_n {α : Type} {xs : List α} {i : Nat} {K : α → Prop} (hl : i < xs.length) (h : ∀ x, xs[i]? = some x → K x) : Get xs (i : Int).toNat K := get_i hl h
theorem get_kn {α : Type} {xs : List α} {i : Nat} {K : α → Prop} {x : α} (hx : xs[i]? = some x) (h : K x) : Get xs (i : Int).toNat K := ⟨x, hx, h⟩
theorem cnd_kt {b : Bool} {A B : Prop} (hb : b = true) (h : A) : Cnd b A B := ⟨fun _ => h, fun h => by rw [hb] at h; cases h⟩
theorem cnd_kf {b : Bool} {A B : Prop} (hb : b = false) (h : B) : Cnd b A B := ⟨(fun h => by rw [hb] at h; cases h), fun _ => h⟩
theorem cnd_nt {b : Bool} {A B : Prop} (hb : b = false) (h : A) : Cnd (!b) A B := cnd_kt (by rw [hb]; rfl) h
theorem cnd_nf {b : Bool} {A B : Prop} (hb : b = true) (h : B) : Cnd (!b) A B := cnd_kf (by rw [hb]; rfl) h
theorem cnd_dt {p : Prop} [Decidable p] {A B : Prop} (hp : p) (h : A) : Cnd (decide p) A B := cnd_kt (decide_eq_true hp) h
theorem cnd_df {p : Prop} [Decidable p] {A B : Prop} (hp : ¬ p) (h : B) : Cnd (decide p) A B := cnd_kf (decide_eq_false hp) h
theorem cnd_d {p : Prop} [Decidable p] {A B : Prop} (h : p → A) (k : ¬ p → B) : Cnd (decide p) A B := ⟨fun h' => h (of_decide_eq_true h'), fun h' => k (of_decide_eq_false h')⟩
theorem cnd_t {A B : Prop} (h : A) : Cnd true A B := ⟨fun _ => h, fun h => by cases h⟩
theorem cnd_f {A B : Prop} (h : B) : Cnd false A B := ⟨(by intro h; cases h), fun _ => h⟩
theorem cnd_i {b : Bool} {A B : Prop} (h : b = true → A) (k : b = false → B) : Cnd b A B := ⟨h, k⟩
theorem call_i {P : Program} {f : FuncId} {vs : List V} {hin : VH} {K : V → VH → Prop} {r : V} {hout : VH} (h : ConV P f vs hin r hout) (k : K r hout) : CallA P f vs hin K := ⟨r, hout, h, k⟩
theorem call_ex {P : Program} {f : FuncId} {vs : List V} {hin : VH} {K : V → VH → Prop} {α : Type} {R : α → Prop} {r : α → V} {hout : α → VH} (h : ∃ a, R a ∧ ConV P f vs hin (r a) (hout a)) (k : ∀ a, R a → K (r a) (hout a)) : CallA P f vs hin K := by
  obtain ⟨a, h1, h2⟩ := h
  exact ⟨r a, hout a, h2, k a h1⟩
theorem unch_y {x : VB} {A B : Prop} (h : A) : Unch x x A B := .inl ⟨rfl, h⟩
theorem unch_n {y x : VB} {A B : Prop} (h : B) : Unch y x A B := .inr h
theorem opt_i {α : Type} {o : Option α} {A : Prop} {B : α → Prop} (h : o = none → A) (k : ∀ x, o = some x → B x) : Opt o A B := ⟨h, k⟩
theorem opt_n {α : Type} {A : Prop} {B : α → Prop} (h : A) : Opt none A B := ⟨(fun _ => h), (fun x hx => nomatch hx)⟩
theorem opt_s {α : Type} {x : α} {A : Prop} {B : α → Prop} (h : B x) : Opt (some x) A B := ⟨(fun hx => nomatch hx), (fun y hy => Option.some.inj hy ▸ h)⟩
theorem opt_ks {α : Type} {o : Option α} {x : α} {A : Prop} {B : α → Prop} (he : o = some x) (h : B x) : Opt o A B := by subst he; exact opt_s h
theorem opt_kn {α : Type} {o : Option α} {A : Prop} {B : α → Prop} (he : o = none) (h : A) : Opt o A B := by subst he; exact opt_n h
theorem i64in (n : Int) (h : -9223372036854775808 ≤ n ∧ n ≤ 9223372036854775807) : IntKind.i64.wrap n = n := by rw [IntKind.wrap_i64]; omega
theorem xor_bd {x y : Int} (hx : 0 ≤ x ∧ x < 4611686018427387904) (hy : 0 ≤ y ∧ y < 4611686018427387904) : 0 ≤ IntKind.i64.wrap ((BitVec.ofInt IntKind.i64.bits x ^^^ BitVec.ofInt IntKind.i64.bits y).toNat : Nat) := by
  have hb : IntKind.i64.bits = 64 := rfl
  rw [hb]
  have h1 : (BitVec.ofInt 64 x).toNat < 2 ^ 62 := by rw [BitVec.toNat_ofInt]; omega
  have h2 : (BitVec.ofInt 64 y).toNat < 2 ^ 62 := by rw [BitVec.toNat_ofInt]; omega
  have h3 : (BitVec.ofInt 64 x ^^^ BitVec.ofInt 64 y).toNat < 2 ^ 62 := by rw [BitVec.toNat_xor]; exact Nat.xor_lt_two_pow h1 h2
  rw [i64in _ (by omega)]
  omega
end Go.Proofs.Ytkclhekkcffpoaa.Am
