/- The plain machine: append, make. -/
import Derived.Test.YtkclhekkcffpoaaB6
import Derived.Laws.OwnMore
namespace Go.Proofs.Ytkclhekkcffpoaa.Am
set_option linter.unusedSimpArgs false
set_option linter.unusedVariables false
open Go Go.RowKit

variable {P : Program} {w0 : World} {S A : Nat → Prop} {N : Nat} {ρ : Id → Pl} {t : List (Nat × D)} {h : HL} {a : Act} {w : World}

/-- an element type: its cells and bytes -/
def elemT (P : Program) (E : TypeId) : Option (Nat × Nat) :=
  match P.info? E with
  | some i => (match i.zero with
    | some z => if z.cells.size = i.size ∧ 0 < i.size then some (i.size, i.bytes) else none
    | none => none)
  | none => none
theorem elemT_ok {E : TypeId} {s b : Nat} (he : elemT P E = some (s, b)) : ∃ i z, P.info? E = some i ∧ i.zero = some z ∧ z.cells.size = s ∧ i.size = s ∧ i.bytes = b ∧ 0 < s ∧ sizeT P E = some s := by
  unfold elemT at he
  split at he
  · rename_i i hi
    split at he
    · rename_i z hz
      split at he
      · rename_i hc
        simp only [Option.some.injEq, Prod.mk.injEq] at he
        obtain ⟨rfl, rfl⟩ := he
        exact ⟨i, z, hi, hz, hc.1, rfl, rfl, hc.2, by simp [sizeT, hi]⟩
      · cases he
    · cases he
  · cases he

/-- a slice's cells, one after the other -/
theorem SliceAt.flat {L : Id → Prop} {ok : Nat → Prop} {l : List D} {v : Value} (hs : SliceAt ρ L ok w l v) (hne : l ≠ []) :
    ∃ (b off cap : Nat) (news : List Value), v = .slice (some ⟨b, off, none⟩) l.length cap ∧ news.length = l.length * szl l ∧ (∀ k u, news[k]? = some u → w.cell? ((⟨b, off, none⟩ : Addr).add k) = some u) ∧
      (∀ u ∈ news, u.oneCell' = true) ∧ 0 < szl l ∧ (∀ e ∈ l, wfC (szl l) e) ∧ ∀ i j, i < l.length → j < szl l → C ρ L ok w ((l.getD i .undef).cells.getD j .undef) (news.getD (i * szl l + j) undef) := by
  obtain ⟨a, cap, rfl, h1, h2, h3, h4⟩ := hs
  obtain ⟨b, off, f, rfl, hpos, hsz, hc, hr⟩ := h4 hne
  have hd : ∀ k, k < l.length * szl l → k / szl l < l.length ∧ k % szl l < szl l ∧ k / szl l * szl l + k % szl l = k := fun k hk =>
    ⟨Nat.div_lt_of_lt_mul (by rw [Nat.mul_comm]; exact hk), Nat.mod_lt _ hpos, Nat.div_add_mod' k (szl l)⟩
  refine ⟨b, off, cap, (List.range (l.length * szl l)).map fun k => f (k / szl l) (k % szl l), rfl, by simp, fun k u hu => ?_, fun u hu => ?_, hpos, hsz, fun i j hi hj => ?_⟩
  · have hk : k < l.length * szl l := by have := (List.getElem?_eq_some_iff.1 hu).1; simpa using this
    have hu' : u = f (k / szl l) (k % szl l) := by
      simp [hk] at hu
      exact hu.symm
    obtain ⟨d1, d2, d3⟩ := hd k hk
    rw [add_none, hu', ← hc _ _ d1 d2]
    congr 2
    omega
  · obtain ⟨k, hk, rfl⟩ := List.mem_map.1 hu
    obtain ⟨d1, d2, d3⟩ := hd k (List.mem_range.1 hk)
    have hr' := hr _ _ d1 d2
    have hw := hsz (l.getD (k / szl l) .undef) (by simp [List.getD_eq_getElem?_getD, d1])
    refine hr'.oneCell ?_
    have hm := hw.2
    rw [List.all_eq_true] at hm
    refine hm _ ?_
    have : k % szl l < (l.getD (k / szl l) .undef).cells.length := by rw [hw.1]; exact d2
    rw [List.getD_eq_getElem?_getD (i := k % szl l), List.getElem?_eq_getElem this]
    exact List.getElem_mem this
  · have hk : i * szl l + j < l.length * szl l := by
      have : (i + 1) * szl l ≤ l.length * szl l := Nat.mul_le_mul_right _ (by omega)
      rw [Nat.add_mul, Nat.one_mul] at this
      omega
    have e1 : (i * szl l + j) / szl l = i := by rw [Nat.mul_comm, Nat.mul_add_div hpos, Nat.div_eq_of_lt hj]; omega
    have e2 : (i * szl l + j) % szl l = j := by rw [Nat.mul_comm, Nat.mul_add_mod, Nat.mod_eq_of_lt hj]
    have : ((List.range (l.length * szl l)).map fun k => f (k / szl l) (k % szl l)).getD (i * szl l + j) undef = f i j := by
      simp [List.getD_eq_getElem?_getD, hk, e1, e2]
    rw [this]
    exact hr i j hi hj

/-- a new row -/
theorem Sim.newRow (s : Sim P w0 S A N ρ t h a w) {n : Id} (hn : look h n = none) {E : TypeId} {l : List D} {c : Array Value} {sz cap : Nat} (hc : c.size = cap * sz) (hl : l.length ≤ cap) (hmax : cap ≤ maxLen) (hpos : 0 < sz)
    (hsz : sizeT P E = some sz) (he : ∀ e ∈ l, wfC sz e) (hr : ∀ i j, i < l.length → j < sz → C ρ (Live h) (okOf A ρ h w) w ((l.getD i .undef).cells.getD j .undef) (c.getD (i * sz + j) undef)) :
    Sim P w0 S A N (at' ρ n ⟨w.heap.size, cap, sz, l.length⟩) t (put n (.row E l) h) a (w.alloc (.cells c E (0, 0))) := by
  refine s.new hn _ _ _ rfl fun hC hR => ?_
  simp only [BlkOK, at'_same]
  exact ⟨c, heap_alloc_new w _, hc, trivial, hl, hmax, hpos, hsz, he, fun i j hi hj => hC _ _ (hr i j hi hj)⟩

/-- nothing more is known of a block -/
theorem Sim.gone (s : Sim P w0 S A N ρ t h a w) {b : Id} {x : Blk} (_ : look h b = some x) : Sim P w0 S A N ρ t (put b .gone h) a w := by
  have key : ∀ b' y, look (put b .gone h) b' = some y → y.live = true → look h b' = some y ∧ b' ≠ b := by
    intro b' y hy hl
    rw [look_put] at hy
    by_cases e : b' = b
    · simp only [e, if_true, Option.some.injEq] at hy
      subst hy
      simp [Blk.live] at hl
    · simp only [e, if_false] at hy
      exact ⟨hy, e⟩
  refine s.step s.fr (fun b' hb' => ⟨hb'.put, rfl⟩) (fun k ⟨hk, hm⟩ => ⟨⟨hk, fun b' y hy hmu => hm b' y (key b' y hy (by cases y <;> simp_all [Blk.mutable, Blk.live])).1 hmu⟩, rfl⟩) (fun b' y hy => ?_) (Nat.le_refl _)
    (fun b1 b2 y1 y2 hy1 hy2 hl1 hl2 he => s.inj b1 b2 y1 y2 (key b1 y1 hy1 hl1).1 (key b2 y2 hy2 hl2).1 hl1 hl2 he)
  by_cases hl : y.live = true
  · exact .inl ⟨(key b' y hy hl).1, fun _ => rfl⟩
  · by_cases e : b' = b
    · subst e
      rw [look_put] at hy
      simp only [if_true, Option.some.injEq] at hy
      subst hy
      exact .inr ⟨trivial, fun h => absurd h hl⟩
    · rw [look_put, if_neg e] at hy
      exact .inl ⟨hy, fun _ => rfl⟩

def szOr (s : Nat) (l : List D) : Nat := match l with | [] => s | e :: _ => e.cells.length
theorem szOr_of {s : Nat} {l : List D} (h : ∀ e ∈ l, e.cells.length = s) : szOr s l = s := by
  cases l with
  | nil => rfl
  | cons e l => exact h e (List.mem_cons_self ..)
theorem szOr_ne {s : Nat} {l : List D} (hne : l ≠ []) (h : szOr s l = s) : szl l = s := by
  cases l with
  | nil => exact absurd rfl hne
  | cons e l => exact h

def fits (bytes n : Nat) : Prop := n * bytes ≤ 140737488355328 ∧ n ≤ 140737488355328
instance (bytes n : Nat) : Decidable (fits bytes n) := by unfold fits; infer_instance

def aAppend (P : Program) (h : HL) (n : Id) (T : TypeId) (d1 d2 : D) : Option (D × HL) :=
  match P.underlying T with
  | some (.slice E) => (match elemT P E, elems h d2 with
    | some (s, bytes), some ys => if szOr s ys = s then
        (match d1 with
        | .ref b => (match look h b with
          | some (.row E' xs) => if E' = E ∧ fits bytes (xs.length + ys.length) then some (.ref n, [(b, .gone), (n, .row E (xs ++ ys))]) else none
          | _ => none)
        | .nils => (match ys with
          | [] => some (.nils, [])
          | y :: ys' => if fits bytes (ys'.length + 1) then some (.ref n, [(n, .row E (y :: ys'))]) else none)
        | _ => none) else none
    | _, _ => none)
  | _ => none

theorem getD_grown (xs ns : List Value) (Z : Array Value) (k : Nat) (hk : k < xs.length + ns.length) : (xs.toArray ++ ns.toArray ++ Z).getD k undef = if k < xs.length then xs.getD k undef else ns.getD (k - xs.length) undef := by
  rw [arr_getD']
  simp only [Array.toList_append, List.getD_eq_getElem?_getD]
  by_cases h1 : k < xs.length
  · rw [if_pos h1]
    simp [List.getElem?_append, h1]
  · have h2 : k - xs.length < ns.length := by omega
    rw [if_neg h1]
    simp [List.getElem?_append, h1, h2]

/-- the cells of two rows, one behind the other -/
theorem rep_append {Q : D → Value → Prop} {xs ys : List D} {sz : Nat} {vx vy : List Value} {c : Array Value} (hx : vx.length = xs.length * sz) (hy : vy.length = ys.length * sz)
    (hc : ∀ k, k < vx.length + vy.length → c.getD k undef = if k < vx.length then vx.getD k undef else vy.getD (k - vx.length) undef)
    (h1 : ∀ i j, i < xs.length → j < sz → Q ((xs.getD i .undef).cells.getD j .undef) (vx.getD (i * sz + j) undef))
    (h2 : ∀ i j, i < ys.length → j < sz → Q ((ys.getD i .undef).cells.getD j .undef) (vy.getD (i * sz + j) undef)) :
    ∀ i j, i < (xs ++ ys).length → j < sz → Q (((xs ++ ys).getD i .undef).cells.getD j .undef) (c.getD (i * sz + j) undef) := by
  intro i j hi hj
  simp only [List.length_append] at hi
  have hb : i * sz + j < (xs.length + ys.length) * sz := by
    have : (i + 1) * sz ≤ (xs.length + ys.length) * sz := Nat.mul_le_mul_right _ (by omega)
    rw [Nat.add_mul, Nat.one_mul] at this
    omega
  rw [Nat.add_mul] at hb
  rw [hc _ (by omega)]
  by_cases hlt : i < xs.length
  · have hb2 : i * sz + j < xs.length * sz := by
      have : (i + 1) * sz ≤ xs.length * sz := Nat.mul_le_mul_right _ (by omega)
      rw [Nat.add_mul, Nat.one_mul] at this
      omega
    rw [if_pos (by omega)]
    have e : (xs ++ ys).getD i .undef = xs.getD i .undef := by simp only [List.getD_eq_getElem?_getD, List.getElem?_append_left hlt]
    rw [e]
    exact h1 i j hlt hj
  · have hge : xs.length * sz ≤ i * sz := Nat.mul_le_mul_right _ (by omega)
    rw [if_neg (by omega)]
    have e : (xs ++ ys).getD i .undef = ys.getD (i - xs.length) .undef := by simp only [List.getD_eq_getElem?_getD, List.getElem?_append_right (Nat.le_of_not_lt hlt)]
    rw [e]
    have := h2 (i - xs.length) j (by omega) hj
    rw [show i * sz + j - vx.length = (i - xs.length) * sz + j by rw [Nat.sub_mul]; omega]
    exact this

theorem Sim.append (s : Sim P w0 S A N ρ t h a w) {n : Id} {T ty : TypeId} {d1 d2 d : D} {u : HL} {v1 v2 : Value} (hd : aAppend P h n T d1 d2 = some (d, u)) (hn0 : u ≠ [] → look h n = none)
    (hv1 : C ρ (Live h) (okOf A ρ h w) w d1 v1) (hv2 : C ρ (Live h) (okOf A ρ h w) w d2 v2) :
    ∃ v' w' ρ', Ext h ρ ρ' ∧ (Builtin.append_ #[T, T] ty #[v1, v2]).run P w = .ok v' w' ∧ Sim P w0 S A N ρ' t (puts u h) a w' ∧ C ρ' (Live (puts u h)) (okOf A ρ' (puts u h) w') w' d v' := by
  unfold aAppend at hd
  split at hd
  · rename_i E hu
    split at hd
    · rename_i sz bytes ys he hys
      obtain ⟨i, z, hi, hz, hzs, rfl, hby, hpos, hsT⟩ := elemT_ok he
      have hsl := s.slice hys hv2
      split at hd
      · rename_i hso
        split at hd
        · rename_i b
          obtain ⟨hlb, rfl⟩ := hv1.ref_inv
          split at hd
          · rename_i E' xs hb
            split at hd
            · rename_i hcond
              obtain ⟨rfl, hf1, hf2⟩ := hcond
              simp only [Option.some.injEq, Prod.mk.injEq] at hd
              obtain ⟨rfl, rfl⟩ := hd
              have hn := hn0 (by simp)
              obtain ⟨c, g1, g2, g3, g4, g5, g6, g7, g8, g9⟩ := s.blk b _ hb
              have hbsz : (ρ b).sz = i.size := by
                have : sizeT P E' = some (ρ b).sz := g7
                rw [hsT] at this
                exact (Option.some.inj this).symm
              rw [hbsz] at g2 g8 g9
              have hbn : b ≠ n := by rintro rfl; rw [hn] at hb; cases hb
              have hxlen : (c.toList.take (xs.length * i.size)).length = xs.length * i.size := by
                have : xs.length * i.size ≤ (ρ b).cap * i.size := Nat.mul_le_mul_right _ (by omega)
                simp; omega
              have hxrep : ∀ k j, k < xs.length → j < i.size → C ρ (Live h) (okOf A ρ h w) w ((xs.getD k .undef).cells.getD j .undef) ((c.toList.take (xs.length * i.size)).getD (k * i.size + j) undef) := by
                intro k j hk hj
                have hkj : k * i.size + j < xs.length * i.size := by
                  have : (k + 1) * i.size ≤ xs.length * i.size := Nat.mul_le_mul_right _ (by omega)
                  rw [Nat.add_mul, Nat.one_mul] at this
                  omega
                have := g9 k j hk hj
                rw [arr_getD'] at this
                simpa [List.getD_eq_getElem?_getD, List.getElem?_take, hkj] using this
              -- the source's cells
              obtain ⟨_, news, rfl, hnl, hno, hnr, hyw, hsrc⟩ : ∃ (m : Nat) (news : List Value), m = ys.length ∧ news.length = m * i.size ∧ (∀ u ∈ news, u.oneCell' = true) ∧
                  (∀ k j, k < ys.length → j < i.size → C ρ (Live h) (okOf A ρ h w) w ((ys.getD k .undef).cells.getD j .undef) (news.getD (k * i.size + j) undef)) ∧ (∀ e ∈ ys, wfC i.size e) ∧
                  ((ys = [] ∧ ∃ a' c', v2 = .slice a' 0 c') ∨ ∃ ad c', v2 = .slice (some ad) m c' ∧ ∀ k u, news[k]? = some u → w.cell? (ad.add k) = some u) := by
                by_cases hne : ys = []
                · subst hne
                  obtain ⟨a', cap, rfl, _⟩ := hsl
                  exact ⟨0, [], rfl, by simp, by simp, by simp, by simp, .inl ⟨rfl, a', cap, rfl⟩⟩
                · have e := szOr_ne hne hso
                  obtain ⟨b2, off, cap, news, rfl, q1, q2, q3, q4, q5, q6⟩ := hsl.flat hne
                  rw [e] at q1 q5 q6
                  exact ⟨_, news, rfl, q1, q3, q6, q5, .inr ⟨_, cap, rfl, q2⟩⟩
              have hxy : ∀ e ∈ xs ++ ys, wfC i.size e := fun e he => (List.mem_append.1 he).elim (g8 e) (hyw e)
              by_cases hroom : xs.length + ys.length ≤ (ρ b).cap
              · -- in place
                have hfit : xs.length * i.size + news.length ≤ c.size := by
                  rw [hnl, g2, ← Nat.add_mul]
                  exact Nat.mul_le_mul_right _ hroom
                have hrun : (Builtin.append_ #[T, T] ty #[.slice (some ⟨(ρ b).blk, 0, none⟩) (ρ b).len (ρ b).cap, v2]).run P w = .ok (.slice (some ⟨(ρ b).blk, 0, none⟩) (xs.length + ys.length) (ρ b).cap)
                    (w.setRow (ρ b).blk (c.toList.take (xs.length * i.size) ++ news ++ c.toList.drop (xs.length * i.size + news.length)).toArray) := by
                  rw [← g3]
                  rcases hsrc with ⟨rfl, a', c', rfl⟩ | ⟨ad, c', rfl, hcell⟩
                  · have h0 : news = [] := List.eq_nil_of_length_eq_zero (by rw [hnl]; simp)
                    subst h0
                    have hfc : (Builtin.firstCells i.size 0 (.slice a' 0 c')).run P w = .ok #[] w := by
                      cases a' <;> simp [Builtin.firstCells, loadCells, loadCellsFrom]
                    have hr0 : xs.length ≤ (ρ b).cap := by simpa using hroom
                    simp only [List.append_nil, List.length_nil, Nat.add_zero, List.take_append_drop, Array.toArray_toList, setRow_self w _ c _ _ g1]
                    simp [Builtin.append_, run_underlying hu, sizeOf, typeInfo, hi, Builtin.lenOf, hr0, hfc, storeCells]
                  · exact run_append_room (P := P) w T ty E' i hu hi _ _ _ c g1 ad _ c' news hnl hcell hno hroom hfit
                refine ⟨_, _, at' ρ n ⟨(ρ b).blk, (ρ b).cap, i.size, xs.length + ys.length⟩, Ext.at hn _, hrun, ?_, ?_⟩
                · have hpu : puts [(b, Blk.gone), (n, .row E' (xs ++ ys))] h = put n (.row E' (xs ++ ys)) (put b .gone h) := rfl
                  rw [hpu]
                  have hsz' : ∀ cs, (w.setRow (ρ b).blk cs).heap.size = w.heap.size := fun cs => by simp [World.setRow]
                  have hown := s.own b _ hb rfl
                  have key : ∀ b' y, look (put n (.row E' (xs ++ ys)) (put b .gone h)) b' = some y → y.live = true → b' ≠ n → look h b' = some y ∧ b' ≠ b := by
                    intro b' y hy hl hne
                    rw [look_put, if_neg hne, look_put] at hy
                    by_cases e : b' = b
                    · simp only [e, if_true, Option.some.injEq] at hy
                      subst hy
                      simp [Blk.live] at hl
                    · simp only [e, if_false] at hy
                      exact ⟨hy, e⟩
                  have hlv : ∀ b', Live h b' → Live (put n (.row E' (xs ++ ys)) (put b .gone h)) b' ∧ at' ρ n ⟨(ρ b).blk, (ρ b).cap, i.size, xs.length + ys.length⟩ b' = ρ b' := fun b' hb' => ⟨hb'.put.put, at'_ne ρ _ (hb'.ne hn)⟩
                  have hok : ∀ k, okOf A ρ h w k → okOf A (at' ρ n ⟨(ρ b).blk, (ρ b).cap, i.size, xs.length + ys.length⟩) (put n (.row E' (xs ++ ys)) (put b .gone h)) (w.setRow (ρ b).blk (c.toList.take (xs.length * i.size) ++ news ++ c.toList.drop (xs.length * i.size + news.length)).toArray) k ∧
                      (w.setRow (ρ b).blk (c.toList.take (xs.length * i.size) ++ news ++ c.toList.drop (xs.length * i.size + news.length)).toArray).heap[k]? = w.heap[k]? := by
                    rintro k ⟨hk, hm'⟩
                    have hkb := hm' b _ hb rfl
                    refine ⟨⟨by rw [hsz']; exact hk, fun b' y hy hmu => ?_⟩, setRow_other w _ _ _ (Ne.symm hkb)⟩
                    by_cases e : b' = n
                    · subst e; rw [at'_same]; exact hkb
                    · rw [at'_ne ρ _ e]
                      exact hm' b' y (key b' y hy (by cases y <;> simp_all [Blk.mutable, Blk.live]) e).1 hmu
                  refine s.step ⟨s.fr.os, s.fr.tape, s.fr.output, by rw [hsz']; exact s.fr.size, fun k hk hs => (setRow_other w _ _ _ ?_).trans (s.fr.block k hk hs)⟩
                    hlv hok (fun b' y hy => ?_) (by rw [hsz']; exact Nat.le_refl _) (fun b1 b2 y1 y2 hy1 hy2 hl1 hl2 he => ?_)
                  · rintro rfl
                    rcases hown.2 with h' | h'
                    · exact hs h'
                    · omega
                  · by_cases e : b' = n
                    · subst e
                      rw [look_put] at hy
                      simp only [if_true, Option.some.injEq] at hy
                      subst hy
                      refine .inr ⟨?_, fun _ => by rw [at'_same, hsz']; exact hown⟩
                      simp only [BlkOK, at'_same]
                      refine ⟨_, setRow_heap w _ c _ E' _ g1, ?_, by simp, by simpa using hroom, g5, hpos, hsT, hxy, ?_⟩
                      · have e1 := hxlen
                        simp only [List.size_toArray, List.length_append, e1, List.length_drop, Array.length_toList]
                        omega
                      · refine rep_append (Q := fun d v => C _ _ _ _ d v) (vx := c.toList.take (xs.length * i.size)) (vy := news) hxlen hnl (fun k hk => ?_) (fun k j hk hj => (hxrep k j hk hj).mono hlv hok) (fun k j hk hj => (hnr k j hk hj).mono hlv hok)
                        rw [arr_getD]
                        simp only [List.getD_eq_getElem?_getD]
                        by_cases q : k < (c.toList.take (xs.length * i.size)).length
                        · rw [if_pos q, List.append_assoc, List.getElem?_append_left q]
                        · rw [if_neg q, List.append_assoc, List.getElem?_append_right (by omega), List.getElem?_append_left (by omega)]
                    · by_cases hl : y.live = true
                      · obtain ⟨q1, q2⟩ := key b' y hy hl e
                        exact .inl ⟨q1, fun hmu => setRow_other w _ _ _ fun he => q2 (s.inj b' b y _ q1 hb hl rfl he)⟩
                      · by_cases e3 : b' = b
                        · rw [look_put, if_neg e, look_put, if_pos e3] at hy
                          obtain rfl := Option.some.inj hy
                          exact .inr ⟨trivial, fun h => absurd h hl⟩
                        · rw [look_put, if_neg e, look_put, if_neg e3] at hy
                          exact .inl ⟨hy, fun hmu => absurd (by cases y <;> simp_all [Blk.mutable, Blk.live]) hl⟩
                  · by_cases e1 : b1 = n <;> by_cases e2 : b2 = n
                    · rw [e1, e2]
                    · subst e1
                      obtain ⟨q1, q2⟩ := key b2 y2 hy2 hl2 e2
                      rw [at'_same, at'_ne ρ _ e2] at he
                      exact absurd (s.inj b b2 _ y2 hb q1 rfl hl2 he) (Ne.symm q2)
                    · subst e2
                      obtain ⟨q1, q2⟩ := key b1 y1 hy1 hl1 e1
                      rw [at'_same, at'_ne ρ _ e1] at he
                      exact absurd (s.inj b1 b y1 _ q1 hb hl1 rfl he) q2
                    · rw [at'_ne ρ _ e1, at'_ne ρ _ e2] at he
                      exact s.inj b1 b2 y1 y2 (key b1 y1 hy1 hl1 e1).1 (key b2 y2 hy2 hl2 e2).1 hl1 hl2 he
                · have hL : Live (puts [(b, Blk.gone), (n, .row E' (xs ++ ys))] h) n := by
                    show Live (put n _ (put b _ h)) n
                    unfold Live; rw [look_put]; simp
                  have := C.ref (ρ := at' ρ n ⟨(ρ b).blk, (ρ b).cap, i.size, xs.length + ys.length⟩) (L := Live (puts [(b, Blk.gone), (n, .row E' (xs ++ ys))] h)) (ok := okOf A (at' ρ n ⟨(ρ b).blk, (ρ b).cap, i.size, xs.length + ys.length⟩) (puts [(b, Blk.gone), (n, .row E' (xs ++ ys))] h) (w.setRow (ρ b).blk (c.toList.take (xs.length * i.size) ++ news ++ c.toList.drop (xs.length * i.size + news.length)).toArray)) (w := w.setRow (ρ b).blk (c.toList.take (xs.length * i.size) ++ news ++ c.toList.drop (xs.length * i.size + news.length)).toArray) n hL
                  simpa only [at'_same] using this
              · -- a new row
                rcases hsrc with ⟨rfl, a', c', rfl⟩ | ⟨ad, c', rfl, hcell⟩
                · exfalso
                  simp only [List.length_nil] at hroom
                  omega
                · have hf3 : (xs.length + ys.length) * i.bytes ≤ 140737488355328 := by rw [hby]; exact hf1
                  have hold : ∀ k u, (c.toList.take (xs.length * i.size))[k]? = some u → w.cell? ((⟨(ρ b).blk, 0, none⟩ : Addr).add k) = some u := by
                    intro k u hu
                    rw [add_none, Nat.zero_add]
                    rw [List.getElem?_take] at hu
                    split at hu
                    · simp only [Array.getElem?_toList] at hu
                      simp [World.cell?, g1, hu]
                    · cases hu
                  have hrun := run_append_grow (P := P) w T ty E' i z hu hi hz ⟨(ρ b).blk, 0, none⟩ xs.length (ρ b).cap (c.toList.take (xs.length * i.size)) hxlen hold ad ys.length c' news hnl hcell (by omega) (by omega) (growslice_fits (by omega) hf3)
                  have s1 := (s.drew (w.drawn + 1)).gone hb
                  have hlv1 : ∀ b', Live h b' → Live (put b .gone h) b' ∧ ρ b' = ρ b' := fun b' hb' => ⟨hb'.put, rfl⟩
                  have hn1 : look (put b .gone h) n = none := by rw [look_put, if_neg (Ne.symm hbn)]; exact hn
                  have hcm : grownCap w (xs.length + ys.length) (ρ b).cap E' ≤ maxLen := grownCap_le_maxLen w _ _ _ (by unfold maxLen; omega)
                  have hcg := grownCap_ge w (xs.length + ys.length) (ρ b).cap E'
                  have hok1 : ∀ k, okOf A ρ h w k → okOf A ρ (put b .gone h) { w with drawn := w.drawn + 1 } k ∧ ({ w with drawn := w.drawn + 1 } : World).heap[k]? = w.heap[k]? := by
                    rintro k ⟨hk, hm'⟩
                    refine ⟨⟨hk, fun b' y hy hmu => ?_⟩, rfl⟩
                    rw [look_put] at hy
                    by_cases e : b' = b
                    · simp only [e, if_true, Option.some.injEq] at hy
                      subst hy
                      simp [Blk.mutable] at hmu
                    · simp only [e, if_false] at hy
                      exact hm' b' y hy hmu
                  have s2 := s1.newRow hn1 (E := E') (l := xs ++ ys) (c := (c.toList.take (xs.length * i.size)).toArray ++ news.toArray ++ Builtin.zeroCells z.cells (grownCap w (xs.length + ys.length) (ρ b).cap E' - (xs.length + ys.length))) (sz := i.size) (cap := grownCap w (xs.length + ys.length) (ρ b).cap E')
                    (by
                      simp only [Array.size_append, List.size_toArray, size_zeroCells, hzs, hxlen, hnl]
                      rw [← Nat.add_mul, ← Nat.add_mul]
                      congr 1
                      omega) (by simpa using hcg) hcm hpos hsT hxy
                    (rep_append (Q := fun d v => C _ _ _ _ d v) (vx := c.toList.take (xs.length * i.size)) (vy := news) hxlen hnl (fun k hk => getD_grown _ _ _ _ hk) (fun k j hk hj => (hxrep k j hk hj).mono hlv1 hok1) (fun k j hk hj => (hnr k j hk hj).mono hlv1 hok1))
                  refine ⟨_, _, _, Ext.at hn _, by rw [← g3]; exact hrun, s2, ?_⟩
                  have hL : Live (puts [(b, Blk.gone), (n, .row E' (xs ++ ys))] h) n := by
                    show Live (put n _ (put b _ h)) n
                    unfold Live; rw [look_put]; simp
                  have := C.ref (ρ := at' ρ n ⟨w.heap.size, grownCap w (xs.length + ys.length) (ρ b).cap E', i.size, (xs ++ ys).length⟩) (L := Live (puts [(b, Blk.gone), (n, .row E' (xs ++ ys))] h)) (ok := okOf A (at' ρ n ⟨w.heap.size, grownCap w (xs.length + ys.length) (ρ b).cap E', i.size, (xs ++ ys).length⟩) (puts [(b, Blk.gone), (n, .row E' (xs ++ ys))] h) (({ w with drawn := w.drawn + 1 } : World).alloc (.cells ((c.toList.take (xs.length * i.size)).toArray ++ news.toArray ++ Builtin.zeroCells z.cells (grownCap w (xs.length + ys.length) (ρ b).cap E' - (xs.length + ys.length))) E' (0, 0))))
                    (w := ({ w with drawn := w.drawn + 1 } : World).alloc (.cells ((c.toList.take (xs.length * i.size)).toArray ++ news.toArray ++ Builtin.zeroCells z.cells (grownCap w (xs.length + ys.length) (ρ b).cap E' - (xs.length + ys.length))) E' (0, 0))) n hL
                  simp only [at'_same, List.length_append] at this
                  simpa only [List.length_append] using this
            · cases hd
          · cases hd
        · obtain rfl := hv1.nils_inv
          split at hd
          · simp only [Option.some.injEq, Prod.mk.injEq] at hd
            obtain ⟨rfl, rfl⟩ := hd
            obtain ⟨a', cap, rfl, _⟩ := hsl
            have hfc : (Builtin.firstCells i.size 0 (.slice a' 0 cap)).run P w = .ok #[] w := by
              cases a' <;> simp [Builtin.firstCells, loadCells, loadCellsFrom]
            refine ⟨.slice none 0 0, w, ρ, Ext.refl _ _, ?_, s, .pure .nils⟩
            simp [Builtin.append_, run_underlying hu, sizeOf, typeInfo, hi, Builtin.lenOf, hfc]
          · rename_i y ys'
            split at hd
            · rename_i hf
              obtain ⟨hf1, hf2⟩ := hf
              simp only [Option.some.injEq, Prod.mk.injEq] at hd
              obtain ⟨rfl, rfl⟩ := hd
              have hn := hn0 (by simp)
              have e := szOr_ne (by simp) hso
              obtain ⟨b2, off, cap, news, rfl, q1, q2, q3, q4, q5, q6⟩ := hsl.flat (by simp)
              rw [e] at q1 q5 q6
              have hf3 : (ys'.length + 1) * i.bytes ≤ 140737488355328 := by rw [hby]; exact hf1
              have hrun := run_append_nil (P := P) w T ty E i z hu hi hz ⟨b2, off, none⟩ (y :: ys').length cap news q1 q2 (by simp) (by simp only [List.length_cons]; omega) (by simp only [List.length_cons]; omega)
              have hcm : grownCap w (y :: ys').length 0 E ≤ maxLen := grownCap_le_maxLen w _ _ _ (by simp only [List.length_cons]; unfold maxLen; omega)
              have hcg := grownCap_ge w (y :: ys').length 0 E
              have s2 := (s.drew (w.drawn + 1)).newRow hn (E := E) (l := y :: ys') (c := news.toArray ++ Builtin.zeroCells z.cells (grownCap w (y :: ys').length 0 E - (y :: ys').length)) (sz := i.size) (cap := grownCap w (y :: ys').length 0 E)
                (by
                  simp only [Array.size_append, List.size_toArray, size_zeroCells, hzs, q1]
                  rw [← Nat.add_mul]
                  congr 1
                  omega) hcg hcm hpos hsT q5
                (fun k j hk hj => by
                  have hkj : k * i.size + j < news.length := by
                    rw [q1]
                    have : (k + 1) * i.size ≤ (y :: ys').length * i.size := Nat.mul_le_mul_right _ (by omega)
                    rw [Nat.add_mul, Nat.one_mul] at this
                    omega
                  have := (q6 k j hk hj)
                  have e2 : (news.toArray ++ Builtin.zeroCells z.cells (grownCap w (y :: ys').length 0 E - (y :: ys').length)).getD (k * i.size + j) undef = news.getD (k * i.size + j) undef := by
                    rw [arr_getD']
                    simp [List.getD_eq_getElem?_getD, List.getElem?_append, hkj]
                  rw [e2]
                  exact this.mono (fun b hb => ⟨hb, rfl⟩) fun k hk => ⟨hk, rfl⟩)
              refine ⟨_, _, _, Ext.at hn _, hrun, s2, ?_⟩
              have hL : Live (puts [(n, Blk.row E (y :: ys'))] h) n := by
                show Live (put n _ h) n
                unfold Live; rw [look_put]; simp
              have := C.ref (ρ := at' ρ n ⟨w.heap.size, grownCap w (y :: ys').length 0 E, i.size, (y :: ys').length⟩) (L := Live (puts [(n, Blk.row E (y :: ys'))] h)) (ok := okOf A (at' ρ n ⟨w.heap.size, grownCap w (y :: ys').length 0 E, i.size, (y :: ys').length⟩) (puts [(n, Blk.row E (y :: ys'))] h) (({ w with drawn := w.drawn + 1 } : World).alloc (.cells (news.toArray ++ Builtin.zeroCells z.cells (grownCap w (y :: ys').length 0 E - (y :: ys').length)) E (0, 0))))
                (w := ({ w with drawn := w.drawn + 1 } : World).alloc (.cells (news.toArray ++ Builtin.zeroCells z.cells (grownCap w (y :: ys').length 0 E - (y :: ys').length)) E (0, 0))) n hL
              simp only [at'_same] at this
              exact this
            · cases hd
        · cases hd
      · cases hd
    · cases hd
  · cases hd
end Go.Proofs.Ytkclhekkcffpoaa.Am
