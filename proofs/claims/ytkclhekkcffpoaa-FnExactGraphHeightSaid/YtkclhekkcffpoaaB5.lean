/- The plain machine: indexes, parts, lengths, conversions. -/
import Derived.Test.YtkclhekkcffpoaaB4
namespace Go.Proofs.Ytkclhekkcffpoaa.Am
set_option linter.unusedSimpArgs false
set_option linter.unusedVariables false
open Go Go.RowKit

variable {P : Program} {w0 : World} {S A : Nat → Prop} {N : Nat} {ρ : Id → Pl} {t : List (Nat × D)} {h : HL} {a : Act} {w : World}

/-! ### An element's address -/
def aIndexAddr (P : Program) (h : HL) (T : TypeId) (d : D) (ix : D) : Option D :=
  match ix, P.underlying T with
  | .int _ i, some (.slice E) =>
    (match sizeT P E, elems h d with
    | some s, some l => if 0 ≤ i ∧ i < (l.length : Int) then
        (match d with
        | .ref b => (match look h b with
          | some (.row E' _) => if sizeT P E' = some s then some (.eptr b i.toNat 0) else none
          | _ => match l[i.toNat]? with | some e => if e.cells.length = s then some (.iptr e 0) else none | none => none)
        | .vref .. => none
        | _ => match l[i.toNat]? with | some e => if e.cells.length = s then some (.iptr e 0) else none | none => none)
      else none
    | _, _ => none)
  | .int _ i, some (.array n E) =>
    (match sizeT P E with
    | some s => if 0 ≤ i ∧ i < (n : Int) then
        (match d with
        | .ptr b o => some (.ptr b (o + i.toNat * s))
        | .eptr b j o => some (.eptr b j (o + i.toNat * s))
        | .iptr e o => some (.iptr e (o + i.toNat * s))
        | .box cs => some (.iptr (.agg cs) (i.toNat * s))
        | _ => none) else none
    | none => none)
  | _, _ => none

theorem SliceAt.elem {L : Id → Prop} {ok : Nat → Prop} {l : List D} {v : Value} (hs : SliceAt ρ L ok w l v) {i : Nat} {e : D} (he : l[i]? = some e) :
    ∃ (b off cap : Nat) (f : Nat → Value), v = .slice (some ⟨b, off, none⟩) l.length cap ∧ (∀ j, j < e.cells.length → w.cell? ⟨b, (off + i * e.cells.length) + j, none⟩ = some (f j)) ∧
      ∀ j, j < e.cells.length → C ρ L ok w (e.cells.getD j .undef) (f j) := by
  have hi : i < l.length := (List.getElem?_eq_some_iff.1 he).1
  obtain ⟨a, cap, rfl, h1, h2, h3, h4⟩ := hs
  obtain ⟨b, off, f, rfl, hpos, hsz, hc, hr⟩ := h4 (by rintro rfl; simp at hi)
  have e1 := (hsz e (List.mem_of_getElem? he)).1
  refine ⟨b, off, cap, f i, rfl, fun j hj => ?_, fun j hj => ?_⟩
  · rw [e1] at hj ⊢
    exact hc i j hi hj
  · rw [e1] at hj
    have := hr i j hi hj
    rw [List.getD_eq_getElem?_getD (l := l), he] at this
    exact this

theorem run_indexAt {T E : TypeId} {s : Nat} (hu : P.underlying T = some (.slice E)) (hs : sizeT P E = some s) {k : IntKind} {i : Int} {b off n cap : Nat} (hi : 0 ≤ i ∧ i < (n : Int)) :
    (Instr.indexAt T (.slice (some ⟨b, off, none⟩) n cap) (.int k i)).run P w = .ok (.pointer (some ⟨b, off + i.toNat * s, none⟩)) w := by
  simp [Instr.indexAt, asIntOf, run_underlying hu, hi.1, hi.2, run_size hs, add_none]

theorem run_indexAt_array {T E : TypeId} {s m : Nat} (hu : P.underlying T = some (.array m E)) (hs : sizeT P E = some s) {k : IntKind} {i : Int} {b off : Nat} (hi : 0 ≤ i ∧ i < (m : Int)) :
    (Instr.indexAt T (.pointer (some ⟨b, off, none⟩)) (.int k i)).run P w = .ok (.pointer (some ⟨b, off + i.toNat * s, none⟩)) w := by
  simp [Instr.indexAt, asIntOf, run_underlying hu, hi.1, hi.2, run_size hs, add_none, Instr.sureAddr]

/-- the block that a live pointer's row lies in -/
theorem Sim.okBlk (_ : Sim P w0 S A N ρ t h a w) {l : List D} {v : Value} {i : Nat} {e : D} (hr : Rep (okOf A ρ h w) w (.lst l) v) (he : l[i]? = some e) :
    ∃ (b off cap : Nat) (f : Nat → Value), v = .slice (some ⟨b, off, none⟩) l.length cap ∧ okOf A ρ h w b ∧ (∀ j, j < e.cells.length → w.cell? ⟨b, (off + i * e.cells.length) + j, none⟩ = some (f j)) ∧
      ∀ j, j < e.cells.length → Rep (okOf A ρ h w) w (e.cells.getD j .undef) (f j) := by
  have hi : i < l.length := (List.getElem?_eq_some_iff.1 he).1
  cases hr with
  | none a cap ha hcap => simp at hi
  | lst _ n b off cap f hn hcap hmax hok hsz hpos hc hr =>
    subst hn
    have e1 := (hsz e (List.mem_of_getElem? he)).1
    refine ⟨b, off, cap, f i, rfl, hok, fun j hj => ?_, fun j hj => ?_⟩
    · rw [e1] at hj ⊢
      exact hc i j hi hj
    · rw [e1] at hj
      have := hr i j hi hj
      rw [List.getD_eq_getElem?_getD (l := l), he] at this
      exact this

theorem Sim.indexAddr (s : Sim P w0 S A N ρ t h a w) {T : TypeId} {d ix d' : D} {v vi : Value} (hd : aIndexAddr P h T d ix = some d') (hv : C ρ (Live h) (okOf A ρ h w) w d v) (hvi : C ρ (Live h) (okOf A ρ h w) w ix vi) :
    ∃ v', (Instr.indexAt T v vi).run P w = .ok v' w ∧ C ρ (Live h) (okOf A ρ h w) w d' v' := by
  unfold aIndexAddr at hd
  split at hd
  · rename_i k i E hu
    obtain rfl := hvi.int_inv
    split at hd
    · rename_i sz l hs he
      split at hd
      · rename_i hi
        have ro : ∀ {e : D}, l[i.toNat]? = some e → e.cells.length = sz → Rep (okOf A ρ h w) w (.lst l) v → d' = .iptr e 0 → ∃ v', (Instr.indexAt T v (.int k i)).run P w = .ok v' w ∧ C ρ (Live h) (okOf A ρ h w) w d' v' := by
          rintro e he hsz hr rfl
          obtain ⟨b, off, cap, f, rfl, hok, h1, h2⟩ := s.okBlk hr he
          subst hsz
          exact ⟨_, run_indexAt hu hs hi, .iptr e 0 b _ f hok h1 h2⟩
        have ro' : Rep (okOf A ρ h w) w (.lst l) v → (match l[i.toNat]? with | some e => if e.cells.length = sz then some (D.iptr e 0) else none | none => none) = some d' → ∃ v', (Instr.indexAt T v (.int k i)).run P w = .ok v' w ∧ C ρ (Live h) (okOf A ρ h w) w d' v' := by
          intro hr hd
          split at hd
          · rename_i e hl
            split at hd
            · rename_i hsz
              simp only [Option.some.injEq] at hd
              exact ro hl hsz hr hd.symm
            · cases hd
          · cases hd
        split at hd
        · rename_i b
          obtain ⟨hl, rfl⟩ := hv.ref_inv
          split at hd
          · rename_i E' l' hb
            split at hd
            · rename_i hE
              simp only [Option.some.injEq] at hd
              subst hd
              simp only [Am.elems, hb, Option.some.injEq] at he
              subst he
              obtain ⟨c, h1, h2, h3, h4, h5, h6, h7, h8, h9⟩ := s.blk b _ hb
              have e2 : (ρ b).sz = sz := by
                have : sizeT P E' = some (ρ b).sz := h7
                rw [hE] at this
                exact (Option.some.inj this).symm
              refine ⟨_, run_indexAt hu hs (by rw [← h3]; exact hi), ?_⟩
              rw [Nat.zero_add, ← e2]
              exact .eptr b _ 0 hl
            · cases hd
          · rename_i hnr
            refine ro' ?_ hd
            simp only [Am.elems] at he
            split at he
            · rename_i E' l' hb; exact absurd hb (hnr E' l')
            · rename_i l' hb
              simp only [Option.some.injEq] at he; subst he
              exact s.blk b _ hb
            · cases he
        · cases hd
        · rename_i hnr hnv
          refine ro' ?_ hd
          unfold Am.elems at he
          split at he
          · simp only [Option.some.injEq] at he; subst he; exact hv.lst_inv
          · simp only [Option.some.injEq] at he; subst he; simp at hi; omega
          · rename_i b; exact absurd rfl (hnr b)
          · rename_i b o n; exact absurd rfl (hnv b o n)
          · cases he
      · cases hd
    · cases hd
  · rename_i k i n E hu
    obtain rfl := hvi.int_inv
    split at hd
    · rename_i sz hs
      split at hd
      · rename_i hi
        split at hd <;> simp only [Option.some.injEq, reduceCtorEq] at hd <;> subst hd
        · obtain ⟨hl, rfl⟩ := hv.ptr_inv
          exact ⟨_, run_indexAt_array hu hs hi, .ptr _ _ hl⟩
        · obtain ⟨hl, rfl⟩ := hv.eptr_inv
          exact ⟨_, run_indexAt_array hu hs hi, by rw [Nat.add_assoc]; exact .eptr _ _ _ hl⟩
        · obtain ⟨b, off, f, rfl, hok, h1, h2⟩ := hv.iptr_inv
          exact ⟨_, run_indexAt_array hu hs hi, by rw [Nat.add_assoc]; exact .iptr _ _ _ _ _ hok h1 h2⟩
        · rename_i cs
          cases hv.box_inv with
          | box _ b off f hok hpos hc hr => exact ⟨_, run_indexAt_array hu hs hi, .iptr (.agg cs) _ b off f hok hc hr⟩
      · cases hd
    · cases hd
  · cases hd

/-! ### Parts of values -/
theorem run_part {T : TypeId} {cs : List D} {vs : Array Value} {o : Nat} {d : D} {L : Id → Prop} {ok : Nat → Prop} (hd : takeVal P T cs o = some d) (hl : cs.length = vs.size)
    (hc : ∀ i, i < cs.length → C ρ L ok w (cs.getD i .undef) (vs.getD i undef)) : ∃ v, (part T vs o).run P w = .ok v w ∧ C ρ L ok w d v := by
  unfold takeVal at hd
  split at hd
  · rename_i s ha hs
    split at hd
    · rename_i hle
      simp only [Option.some.injEq] at hd
      subst hd
      refine ⟨.agg (vs.extract o (o + s)), by simp [part, run_isAgg ha, run_size hs], .agg _ _ (by simp; omega) fun i hi => ?_⟩
      have hi' : i < s := by simp at hi; omega
      have := hc (o + i) (by omega)
      have h1 : o + i < cs.length := by omega
      have h2 : o + i < vs.size := by omega
      have h3 : i < min (o + s) vs.size - o := by omega
      simpa [List.getD_eq_getElem?_getD, Array.getD_eq_getD_getElem?, hi', List.getElem?_take, List.getElem?_drop, h1, h2, h3, Array.getElem?_extract] using this
    · cases hd
  · rename_i ha
    have hlt : o < cs.length := (List.getElem?_eq_some_iff.1 hd).1
    have h2 : o < vs.size := by omega
    refine ⟨vs[o], by simp [part, run_isAgg ha, h2], ?_⟩
    have := hc o hlt
    rw [List.getD_eq_getElem?_getD, hd] at this
    simpa [Array.getD_eq_getD_getElem?, h2] using this
  · cases hd

/-- a field's type and place -/
def fieldP (P : Program) (T : TypeId) (i : Nat) : Option (TypeId × Nat) :=
  match P.underlying T with
  | some (.struct fs) => (match fs[i]? with | some f => some (f.type, f.offset) | none => none)
  | _ => none
def aPart (P : Program) (T : TypeId) (i : Nat) : D → Option D
  | .agg cs => (match fieldP P T i with
    | some (E, o) => takeVal P E cs o
    | none => none)
  | _ => none
theorem aPart_ok {T : TypeId} {i : Nat} {d d' : D} {v : Value} {L : Id → Prop} {ok : Nat → Prop} (hd : aPart P T i d = some d') (hv : C ρ L ok w d v) : ∃ v', (Instr.field T v i).run P w = .ok v' w ∧ C ρ L ok w d' v' := by
  unfold aPart at hd
  split at hd
  · split at hd
    · rename_i E o hp
      unfold fieldP at hp
      split at hp
      · rename_i fs hu
        split at hp
        · rename_i f hf
          simp only [Option.some.injEq, Prod.mk.injEq] at hp
          obtain ⟨rfl, rfl⟩ := hp
          obtain ⟨vs, rfl, hl, hc⟩ := hv.agg_inv
          obtain ⟨v', h1, h2⟩ := run_part (P := P) hd hl hc
          exact ⟨v', by simp [Instr.field, run_underlying hu, hf, asAgg, h1], h2⟩
        · cases hp
      · cases hp
    · cases hd
  · cases hd

def aExtract (i : Nat) : D → Option D
  | .tup cs => cs[i]?
  | _ => none
theorem aExtract_ok {i : Nat} {d d' : D} {v : Value} {L : Id → Prop} {ok : Nat → Prop} (hd : aExtract i d = some d') (hv : C ρ L ok w d v) : ∃ v', (Instr.extract v i).run P w = .ok v' w ∧ C ρ L ok w d' v' := by
  unfold aExtract at hd
  split at hd
  · obtain ⟨vs, rfl, hl, hc⟩ := hv.tup_inv
    have hlt := (List.getElem?_eq_some_iff.1 hd).1
    have h2 : i < vs.size := by omega
    refine ⟨vs[i], by simp [Instr.extract, h2], ?_⟩
    have := hc i hlt
    rw [List.getD_eq_getElem?_getD, hd] at this
    simpa [Array.getD_eq_getD_getElem?, h2] using this
  · cases hd

def aIndex (P : Program) (T : TypeId) (d ix : D) : Option D :=
  match d, ix with
  | .str s, .int _ i => (match P.underlying T with
    | some .string => if 0 ≤ i ∧ i < (s.size : Int) then some (.int .u8 ((s.data.toList.getD i.toNat 0).toNat : Nat)) else none
    | _ => none)
  | .agg cs, .int _ i => (match P.underlying T with
    | some (.array n E) => (match sizeT P E with
      | some s => if 0 ≤ i ∧ i < (n : Int) then takeVal P E cs (i.toNat * s) else none
      | none => none)
    | _ => none)
  | _, _ => none
theorem aIndex_ok {T : TypeId} {d ix d' : D} {v vi : Value} {L : Id → Prop} {ok : Nat → Prop} (hd : aIndex P T d ix = some d') (hv : C ρ L ok w d v) (hvi : C ρ L ok w ix vi) : ∃ v', (Instr.index T v vi).run P w = .ok v' w ∧ C ρ L ok w d' v' := by
  unfold aIndex at hd
  split at hd
  · rename_i s k i
    obtain rfl := hv.str_inv
    obtain rfl := hvi.int_inv
    split at hd
    · rename_i hu
      split at hd
      · rename_i hi
        simp only [Option.some.injEq] at hd
        subst hd
        have hlt : i.toNat < s.size := by omega
        refine ⟨_, ?_, .int _ _⟩
        have e1 : s[i.toNat]? = some s[i.toNat] := by simp [hlt]
        simp only [Instr.index, asIntOf, Sem.run_bind, Sem.run_pure, Result.andThen_ok, run_underlying hu, hi.1, if_true, e1]
        congr 3
        have e2 : s.data.toList.getD i.toNat 0 = s[i.toNat] := by
          have : i.toNat < s.data.size := hlt
          simp only [List.getD_eq_getElem?_getD, Array.getElem?_toList, Array.getElem?_eq_getElem this, Option.getD_some]
          rfl
        rw [e2]
      · cases hd
    · cases hd
  · rename_i cs k i
    obtain ⟨vs, rfl, hl, hc⟩ := hv.agg_inv
    obtain rfl := hvi.int_inv
    split at hd
    · rename_i n E hu
      split at hd
      · rename_i s hs
        split at hd
        · rename_i hi
          obtain ⟨v', h1, h2⟩ := run_part (P := P) hd hl hc
          exact ⟨v', by simp [Instr.index, asIntOf, run_underlying hu, hi.1, hi.2, run_size hs, h1], h2⟩
        · cases hd
      · cases hd
    · cases hd
  · cases hd

/-! ### Lengths -/
def aLen (P : Program) (h : HL) (T : TypeId) (d : D) : Option D :=
  match P.underlying T with
  | some .string => (match d with | .str s => some (.int .i64 (s.size : Nat)) | _ => none)
  | some (.slice _) => (elems h d).map fun l => .int .i64 (l.length : Nat)
  | _ => none
theorem Sim.len (s : Sim P w0 S A N ρ t h a w) {T ty : TypeId} {d d' : D} {v : Value} (hd : aLen P h T d = some d') (hv : C ρ (Live h) (okOf A ρ h w) w d v) :
    ∃ v', (Builtin.len_ #[T] ty #[v]).run P w = .ok v' w ∧ C ρ (Live h) (okOf A ρ h w) w d' v' := by
  unfold aLen at hd
  split at hd
  · rename_i hu
    split at hd
    · obtain rfl := hv.str_inv
      simp only [Option.some.injEq] at hd
      subst hd
      exact ⟨_, by simp [Builtin.len_, run_underlying hu, goInt], .int _ _⟩
    · cases hd
  · rename_i E hu
    obtain ⟨l, hl, rfl⟩ := Option.map_eq_some_iff.1 hd
    obtain ⟨a', cap, rfl, _⟩ := s.slice hl hv
    exact ⟨_, by simp [Builtin.len_, run_underlying hu, goInt], .int _ _⟩
  · cases hd

/-! ### Conversions -/
def byteOfD : D → Option UInt8
  | .int .u8 n => some (UInt8.ofNat n.toNat)
  | _ => none
def aConv (P : Program) (h : HL) (src dst : TypeId) (d : D) : Option D :=
  match P.underlying dst, P.underlying src with
  | some (.int k), some _ => (match d with | .int _ n => some (.int k (k.wrap n)) | _ => none)
  | some .string, some (.slice e) => (match P.underlying e, sizeT P e with
    | some (.int .u8), some 1 => (match elems h d with
      | some l => (match l.mapM byteOfD with | some bs => some (.str ⟨bs.toArray⟩) | none => none)
      | none => none)
    | _, _ => none)
  | some .string, some _ => (match d with | .str s => some (.str s) | _ => none)
  | _, _ => none

end Go.Proofs.Ytkclhekkcffpoaa.Am
