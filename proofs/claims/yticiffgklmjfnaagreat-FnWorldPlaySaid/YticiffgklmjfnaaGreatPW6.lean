/- Graphs: heights, authors, places. Runs: leaders, faulty members, pairs of proposals: what the functions give. Runs: tables of graphs, parents that are known. Runs: graphs of members, copies: what the program's functions give. Runs: clones of proposals, views that cover. Runs: parents that are known. Runs: clones of lists of numbers (the empty ones by the shelf). Runs: a run is opened. The exact laws' own functions on lists of numbers and vertices. Runs: the vertices of a graph's table; copies of proposals; a run as it is handed back. Runs: what is handed back; new runs, valid runs. -/
import Derived.Shelf.Slices.Clone
import Derived.Test.YticiffgklmjfnaaGreatPW5
namespace Go.Proofs.YticiffgklmjfnaaGreat.Am
set_option linter.unusedSimpArgs false
set_option linter.unusedVariables false
open Go
attribute [local irreducible] Mk Need Ari Get Idx Cnd CallM CallA Opt Unch At ConV
set_option maxRecDepth 10000
theorem authG_eq {c : List Int} {g : List Vtx} (h : GraOK c g) (r : Int) : authG (gst g) r c.length = auth g r := by
  rw [← authI_eq h r]
  unfold authG authI
  congr 1
  refine List.filter_congr fun a ha => ?_
  have h7 := (comV_iff.1 h.com).2
  have ha := List.mem_range.1 ha
  cases h1 : vIn r 0 30
  · rw [Bool.false_and]
    symm
    rw [Bool.eq_false_iff]
    intro h2
    obtain ⟨v, hv, hr, -⟩ := hasV_iff.1 h2
    have := (vtxS_ok (h.vtx v hv)).1
    rw [hr] at this
    rw [vIn_iff.2 this] at h1
    cases h1
  · rw [Bool.true_and]
    exact (gst_at (fun u hu => vtxS_tab h.com (h.vtx u hu)) (vIn_iff.1 h1) (by omega)).1
end Go.Proofs.YticiffgklmjfnaaGreat.Am
namespace Go.Proofs.YticiffgklmjfnaaGreat.Am
set_option linter.unusedSimpArgs false
set_option linter.unusedVariables false
open Go
attribute [local irreducible] Mk Need Ari Get Idx Cnd CallM CallA Opt Unch At ConV
set_option maxRecDepth 10000
theorem lea_c (c l : List Int) : ConV Tryz.prog 136 [.lst (.int .i64) c, .lst (.int .i64) l] [] (.bool (leaS c l)) [] := by
  refine con_eq Θ_ok Tryz.func136 rfl rfl false 0 4 rfl rfl rfl rfl fun K hK hb1 hb2 => ?_; simp only [argsV, enc, Nat.reduceAdd]
  simp [toDL, V.toD, bnd, encD, D.cells] at hb1
  (repeat (any_goals (first | refine st ?_ | ((first | refine go2 fun xe hxe => ?_ | with_reducible refine cnd_d (fun hq => ?_) fun hq => ?_) <;> conv => whnf) | ((with_reducible refine cnd_i (fun hq => ?_) fun hq => ?_) <;> ((try simp only [hqs] at hq) <;> (first | omega | conv => whnf))))))
  refine at_loop hK [] [0, 1, 5] (fun i : Nat => ⟨[(0, .lst (.int .i64) c), (1, .lst (.int .i64) l), (5, .int .i64 i)], [], 4⟩) (fun i => i ≤ l.length ∧ ∀ j, j < i → hasM c (l.getD j 0) = true) (fun i => l.length - i) 0 ⟨by simp, by simp⟩ rfl ?_
  rintro i ⟨hi, hall⟩
  by_cases hlt : i < l.length
  · have hxe : l[i]? = some l[i] := List.getElem?_eq_getElem hlt
    have hno : hasM c l[i] = false → leaS c l = false := fun h => by
      unfold leaS
      rw [allTo_f hlt (by rw [getD_of hxe]; exact h), Bool.false_and]
    have hys := all_step hall (p := fun j => hasM c (l.getD j 0)) (i := i)
    simp only [getD_of hxe] at hys
    generalize l[i] = m at *
    (repeat (any_goals (first | refine st ?_ | ((first | refine go2 fun xe hxe => ?_ | with_reducible refine cnd_d (fun hq => ?_) fun hq => ?_) <;> conv => whnf) | ((with_reducible refine cnd_i (fun hq => ?_) fun hq => ?_) <;> ((try simp only [hqs] at hq) <;> (first | omega | conv => whnf))) | refine cr (in_c _ _ _) ?_)))
    · rw [hno hq]
      exact ⟨rfl, rfl⟩
    · exact ⟨i + 1, ⟨by omega, hys hq⟩, by omega, rfl⟩
  · (repeat (any_goals (first | refine st ?_ | ((first | refine go2 fun xe hxe => ?_ | with_reducible refine cnd_d (fun hq => ?_) fun hq => ?_) <;> conv => whnf) | ((with_reducible refine cnd_i (fun hq => ?_) fun hq => ?_) <;> ((try simp only [hqs] at hq) <;> (first | omega | conv => whnf))))))
    unfold leaS
    rw [allTo_t (fun j hj => hall j (by omega)), Bool.true_and]
    exact ⟨rfl, rfl⟩
theorem leaV_c (c l : List Int) : ConV Tryz.prog 98 [.lst (.int .i64) c, .lst (.int .i64) l] [] (.bool (comV c && leaS c l)) [] := by
  refine con_eq Θ_ok Tryz.func98 rfl rfl false 0 4 rfl rfl rfl rfl fun K hK hb1 hb2 => ?_; simp only [argsV, enc, Nat.reduceAdd]
  (repeat (any_goals (first | refine st ?_ | ((first | refine go2 fun xe hxe => ?_ | with_reducible refine cnd_d (fun hq => ?_) fun hq => ?_) <;> conv => whnf) | ((with_reducible refine cnd_i (fun hq => ?_) fun hq => ?_) <;> ((try simp only [hqs] at hq) <;> (first | omega | conv => whnf))) | refine cr (comV_c _) ?_ | refine cr (lea_c _ _) ?_)))
  all_goals (refine ⟨?_, rfl⟩; simp_all)
theorem ileaV_c (c l : List Int) : ConV Tryz.prog 76 [.lst (.int .i64) c, .lst (.int .i64) l] [] (.bool (comV c && leaS c l)) [] := by
  refine con_eq Θ_ok Tryz.func76 rfl rfl false 0 4 rfl rfl rfl rfl fun K hK hb1 hb2 => ?_; simp only [argsV, enc, Nat.reduceAdd]
  simp [toDL, V.toD, bnd, encD, D.cells] at hb1
  cases hc : comV c
  · (repeat (any_goals (first | refine st ?_ | ((first | refine go2 fun xe hxe => ?_ | with_reducible refine cnd_d (fun hq => ?_) fun hq => ?_) <;> conv => whnf) | ((with_reducible refine cnd_i (fun hq => ?_) fun hq => ?_) <;> ((try simp only [hqs] at hq) <;> (first | omega | conv => whnf))) | refine cr (icomV_c _) ?_)))
    exact ⟨rfl, rfl⟩
  rw [Bool.true_and]
  by_cases h15 : 15 < (l.length : Int)
  · (repeat (any_goals (first | refine st ?_ | ((first | refine go2 fun xe hxe => ?_ | with_reducible refine cnd_d (fun hq => ?_) fun hq => ?_) <;> conv => whnf) | ((with_reducible refine cnd_i (fun hq => ?_) fun hq => ?_) <;> ((try simp only [hqs] at hq) <;> (first | omega | conv => whnf))) | refine cr (icomV_c _) ?_)))
    unfold leaS
    rw [decide_eq_false (by omega), Bool.and_false]
    exact ⟨rfl, rfl⟩
  (repeat (any_goals (first | refine st ?_ | ((first | refine go2 fun xe hxe => ?_ | with_reducible refine cnd_d (fun hq => ?_) fun hq => ?_) <;> conv => whnf) | ((with_reducible refine cnd_i (fun hq => ?_) fun hq => ?_) <;> ((try simp only [hqs] at hq) <;> (first | omega | conv => whnf))) | refine cr (icomV_c _) ?_)))
  refine at_loop hK [] [0, 15, 16, 17] (fun i : Nat => ⟨[(0, .lst (.int .i64) c), (15, .lst (.int .i64) l), (16, .int .i64 l.length), (17, .int .i64 i)], [], 4⟩) (fun i => i ≤ l.length ∧ ∀ j, j < i → hasM c (l.getD j 0) = true) (fun i => l.length - i) 0 ⟨by simp, by simp⟩ rfl ?_
  rintro i ⟨hi, hall⟩
  by_cases hlt : i < l.length
  · have hxe : l[i]? = some l[i] := List.getElem?_eq_getElem hlt
    have hno : hasM c l[i] = false → leaS c l = false := fun h => by
      unfold leaS
      rw [allTo_f hlt (by rw [getD_of hxe]; exact h), Bool.false_and]
    have hys := all_step hall (p := fun j => hasM c (l.getD j 0)) (i := i)
    simp only [getD_of hxe] at hys
    generalize l[i] = m at *
    (repeat (any_goals (first | refine st ?_ | ((first | refine go2 fun xe hxe => ?_ | with_reducible refine cnd_d (fun hq => ?_) fun hq => ?_) <;> conv => whnf) | ((with_reducible refine cnd_i (fun hq => ?_) fun hq => ?_) <;> ((try simp only [hqs] at hq) <;> (first | omega | conv => whnf))) | refine cr (ihas_c _ _) ?_)))
    · rw [hno hq]
      exact ⟨rfl, rfl⟩
    · exact ⟨i + 1, ⟨by omega, hys hq⟩, by omega, rfl⟩
  · (repeat (any_goals (first | refine st ?_ | ((first | refine go2 fun xe hxe => ?_ | with_reducible refine cnd_d (fun hq => ?_) fun hq => ?_) <;> conv => whnf) | ((with_reducible refine cnd_i (fun hq => ?_) fun hq => ?_) <;> ((try simp only [hqs] at hq) <;> (first | omega | conv => whnf))))))
    unfold leaS
    rw [allTo_t (fun j hj => hall j (by omega)), Bool.true_and, decide_eq_true (by omega)]
    exact ⟨rfl, rfl⟩
theorem ifau_c (c : List Int) (hc : comV c = true) : ConV Tryz.prog 120 [.lst (.int .i64) c] [] (.int .i64 (fau c)) [] := by
  have h1 := tot_bd hc
  have h2 := fau_bd hc
  have h3 : (tot c - 1).tdiv 3 = fau c := rfl
  refine con_eq Θ_ok Tryz.func120 rfl rfl false 0 4 rfl rfl rfl rfl fun K hK hb1 hb2 => ?_; simp only [argsV, enc, Nat.reduceAdd]
  (repeat (any_goals (first | refine st ?_ | ((first | refine go2 fun xe hxe => ?_ | with_reducible refine cnd_d (fun hq => ?_) fun hq => ?_) <;> conv => whnf) | ((with_reducible refine cnd_i (fun hq => ?_) fun hq => ?_) <;> ((try simp only [hqs] at hq) <;> (first | omega | conv => whnf))) | refine cr (itot_c _ hc) ?_)))
  exact ⟨rfl, rfl⟩
theorem isBad_c (c : List Int) (b : Int) (hc : comV c = true) : ConV Tryz.prog 77 [.lst (.int .i64) c, .int .i64 b] [] (.bool (badS c b)) [] := by
  refine con_eq Θ_ok Tryz.func77 rfl rfl false 0 4 rfl rfl rfl rfl fun K hK hb1 hb2 => ?_; simp only [argsV, enc, Nat.reduceAdd]
  clear hb1 hb2
  cases h0 : b == -1
  · have hne : b ≠ -1 := by simpa using h0
    cases h1 : hasM c b
    · have : badS c b = false := by
        rw [Bool.eq_false_iff]
        intro h
        rcases badS_iff.1 h with h | h
        · exact hne h
        · rw [hasM, vIn_iff.2 (by omega)] at h1; cases h1
      rw [this]
      (repeat (any_goals (first | refine st ?_ | ((first | refine go2 fun xe hxe => ?_ | with_reducible refine cnd_d (fun hq => ?_) fun hq => ?_) <;> conv => whnf) | ((with_reducible refine cnd_i (fun hq => ?_) fun hq => ?_) <;> ((try simp only [hqs] at hq) <;> (first | omega | conv => whnf))) | refine cr (ihas_c _ _) ?_)))
      exact ⟨rfl, rfl⟩
    · have hm := vIn_iff.1 h1
      have hx2 : c[b.toNat]? = some (c.getD b.toNat 0) := by rw [List.getD_eq_getElem?_getD, List.getElem?_eq_getElem (show b.toNat < c.length by omega)]; rfl
      have hb : badS c b = decide (c.getD b.toNat 0 ≤ fau c) := by
        rw [Bool.eq_iff_iff, badS_iff, decide_eq_true_eq]
        constructor
        · rintro (h | ⟨-, h⟩)
          · exact absurd h hne
          · exact h
        · intro h; exact .inr ⟨by omega, h⟩
      rw [hb]
      generalize c.getD b.toNat 0 = x at *
      (repeat (any_goals (first | refine st ?_ | ((first | refine go2 fun xe hxe => ?_ | with_reducible refine cnd_d (fun hq => ?_) fun hq => ?_) <;> conv => whnf) | ((with_reducible refine cnd_i (fun hq => ?_) fun hq => ?_) <;> ((try simp only [hqs] at hq) <;> (first | omega | conv => whnf))) | refine cr (ihas_c _ _) ?_ | refine cr (ifau_c _ hc) ?_)))
      exact ⟨rfl, rfl⟩
  · have hb : b = -1 := by simpa using h0
    have : badS c b = true := badS_iff.2 (.inl hb)
    rw [this]
    (repeat (any_goals (first | refine st ?_ | ((first | refine go2 fun xe hxe => ?_ | with_reducible refine cnd_d (fun hq => ?_) fun hq => ?_) <;> conv => whnf) | ((with_reducible refine cnd_i (fun hq => ?_) fun hq => ?_) <;> ((try simp only [hqs] at hq) <;> (first | omega | conv => whnf))) | refine cr (ihas_c _ _) ?_ | refine cr (ifau_c _ hc) ?_)))
    all_goals exact ⟨rfl, rfl⟩
abbrev pplA (p : Ppl) : V := .agg [.int .i64 p.v.round, .int .i64 p.v.author, .lst (.int .i64) p.v.parents, .int .i64 p.v.digest, .lst (.int .i64) p.members]
theorem icert_c (c : List Int) (p : Ppl) (hc : comV c = true) (hm : mems c p.members = true) : ConV Tryz.prog 44 [pplA p, .lst (.int .i64) c] [] (.bool (don c p)) [] := by
  have hw : weiV c p.members = wei c p.members := by simp [weiV, hc, hm]
  have hwc := iweiV_c c p.members
  have hqc := icquo_c c
  rw [hw] at hwc
  rw [hc] at hqc
  refine con_eq Θ_ok Tryz.func44 rfl rfl false 0 4 rfl rfl rfl rfl fun K hK hb1 hb2 => ?_; simp only [argsV, enc, Nat.reduceAdd]
  (repeat (any_goals (first | refine st ?_ | ((first | refine go2 fun xe hxe => ?_ | with_reducible refine cnd_d (fun hq => ?_) fun hq => ?_) <;> conv => whnf) | ((with_reducible refine cnd_i (fun hq => ?_) fun hq => ?_) <;> ((try simp only [hqs] at hq) <;> (first | omega | conv => whnf))) | refine cr (hwc) ?_ | refine cr (hqc) ?_)))
  exact ⟨rfl, rfl⟩
theorem islt_c (v u : Vtx) : ConV Tryz.prog 132 [vtxA v, vtxA u] [] (.bool (slt v u)) [] := by
  refine con_eq Θ_ok Tryz.func132 rfl rfl false 0 4 rfl rfl rfl rfl fun K hK hb1 hb2 => ?_; simp only [argsV, enc, Nat.reduceAdd]
  (repeat (any_goals (first | refine st ?_ | ((first | refine go2 fun xe hxe => ?_ | with_reducible refine cnd_d (fun hq => ?_) fun hq => ?_) <;> conv => whnf) | ((with_reducible refine cnd_i (fun hq => ?_) fun hq => ?_) <;> ((try simp only [hqs] at hq) <;> (first | omega | conv => whnf))))))
  all_goals (refine ⟨?_, rfl⟩; simp_all [slt])
theorem slEq_c (a b : List Int) : ConV Tryz.prog 97 [.lst (.int .i64) a, .lst (.int .i64) b] [] (.bool (a == b)) [] := by
  refine con_eq Θ_ok Tryz.func97 rfl rfl false 0 4 rfl rfl rfl rfl fun K hK hb1 hb2 => ?_; simp only [argsV, enc, Nat.reduceAdd]
  simp [toDL, V.toD, bnd, encD, D.cells] at hb1
  by_cases hl : a.length = b.length
  · (repeat (any_goals (first | refine st ?_ | ((first | refine go2 fun xe hxe => ?_ | with_reducible refine cnd_d (fun hq => ?_) fun hq => ?_) <;> conv => whnf) | ((with_reducible refine cnd_i (fun hq => ?_) fun hq => ?_) <;> ((try simp only [hqs] at hq) <;> (first | omega | conv => whnf))))))
    refine at_loop hK [] [0, 1, 11, 12, 13] (fun i : Nat => ⟨[(0, .lst (.int .i64) a), (1, .lst (.int .i64) b), (11, .lst (.int .i64) a), (12, .int .i64 a.length), (13, .int .i64 i)], [], 4⟩) (fun i => i ≤ a.length ∧ a.take i = b.take i) (fun i => a.length - i) 0 ⟨by simp, by simp⟩ rfl ?_
    rintro i ⟨hi, hall⟩
    by_cases hlt : i < a.length
    · obtain ⟨x, hx⟩ : ∃ x, a[i]? = some x := ⟨_, List.getElem?_eq_getElem hlt⟩
      obtain ⟨y, hy⟩ : ∃ y, b[i]? = some y := ⟨_, List.getElem?_eq_getElem (by omega)⟩
      (repeat (any_goals (first | refine st ?_ | ((first | refine go2 fun xe hxe => ?_ | with_reducible refine cnd_d (fun hq => ?_) fun hq => ?_) <;> conv => whnf) | ((with_reducible refine cnd_i (fun hq => ?_) fun hq => ?_) <;> ((try simp only [hqs] at hq) <;> (first | omega | conv => whnf))))))
      · have hne : ¬ x = y := hq
        have : (a == b) = false := by rw [beq_eq_false_iff_ne]; rintro rfl; rw [hx] at hy; exact hne (Option.some.inj hy)
        rw [this]
        exact ⟨rfl, rfl⟩
      · subst hq
        exact ⟨i + 1, ⟨by omega, by rw [List.take_add_one, List.take_add_one, hall, hx, hy]⟩, by omega, rfl⟩
    · (repeat (any_goals (first | refine st ?_ | ((first | refine go2 fun xe hxe => ?_ | with_reducible refine cnd_d (fun hq => ?_) fun hq => ?_) <;> conv => whnf) | ((with_reducible refine cnd_i (fun hq => ?_) fun hq => ?_) <;> ((try simp only [hqs] at hq) <;> (first | omega | conv => whnf))))))
      have hab : a = b := by rwa [List.take_of_length_le (by omega), List.take_of_length_le (by omega)] at hall
      rw [hab, beq_self_eq_true]
      exact ⟨rfl, rfl⟩
  · (repeat (any_goals (first | refine st ?_ | ((first | refine go2 fun xe hxe => ?_ | with_reducible refine cnd_d (fun hq => ?_) fun hq => ?_) <;> conv => whnf) | ((with_reducible refine cnd_i (fun hq => ?_) fun hq => ?_) <;> ((try simp only [hqs] at hq) <;> (first | omega | conv => whnf))))))
    have : (a == b) = false := by rw [beq_eq_false_iff_ne]; rintro rfl; exact hl rfl
    rw [this]
    exact ⟨rfl, rfl⟩
theorem ivEq_c (v u : Vtx) : ConV Tryz.prog 49 [vtxA v, vtxA u] [] (.bool (vEq v u)) [] := by
  refine con_eq Θ_ok Tryz.func49 rfl rfl false 0 4 rfl rfl rfl rfl fun K hK hb1 hb2 => ?_; simp only [argsV, enc, Nat.reduceAdd]
  (repeat (any_goals (first | refine st ?_ | ((first | refine go2 fun xe hxe => ?_ | with_reducible refine cnd_d (fun hq => ?_) fun hq => ?_) <;> conv => whnf) | ((with_reducible refine cnd_i (fun hq => ?_) fun hq => ?_) <;> ((try simp only [hqs] at hq) <;> (first | omega | conv => whnf))) | refine cr (slEq_c _ _) ?_)))
  all_goals (refine ⟨?_, rfl⟩; simp_all [vEq])
theorem slIdx_c (l : List Int) (n : Int) : ConV Tryz.prog 150 [.lst (.int .i64) l, .int .i64 n] [] (.int .i64 (match l.findIdx? (· == n) with | some i => (i : Int) | none => -1)) [] := by
  refine con_eq Θ_ok Tryz.func150 rfl rfl false 0 4 rfl rfl rfl rfl fun K hK hb1 hb2 => ?_; simp only [argsV, enc, Nat.reduceAdd]
  simp [toDL, V.toD, bnd, encD, D.cells] at hb1
  (repeat (any_goals (first | refine st ?_ | ((first | refine go2 fun xe hxe => ?_ | with_reducible refine cnd_d (fun hq => ?_) fun hq => ?_) <;> conv => whnf) | ((with_reducible refine cnd_i (fun hq => ?_) fun hq => ?_) <;> ((try simp only [hqs] at hq) <;> (first | omega | conv => whnf))))))
  refine at_loop hK [] [0, 1, 7, 8] (fun i : Nat => ⟨[(0, .lst (.int .i64) l), (1, .int .i64 n), (7, .int .i64 l.length), (8, .int .i64 i)], [], 4⟩) (fun i => i ≤ l.length ∧ ∀ y ∈ l.take i, (y == n) = false) (fun i => l.length - i) 0 ⟨by simp, by simp⟩ rfl ?_
  rintro i ⟨hi, hall⟩
  by_cases hlt : i < l.length
  · have hxe : l[i]? = some l[i] := List.getElem?_eq_getElem hlt
    have h3 : l.take (i + 1) = l.take i ++ [l[i]] := List.take_succ_eq_append_getElem hlt
    have h4 := find_at (l := l) (p := (· == n)) hxe hall
    generalize l[i] = y at *
    by_cases he : n = y
    · have hb : (n == y) = true := by simpa using he
      (repeat (any_goals (first | refine st ?_ | ((first | refine go2 fun xe hxe => ?_ | with_reducible refine cnd_d (fun hq => ?_) fun hq => ?_) <;> conv => whnf) | ((with_reducible refine cnd_i (fun hq => ?_) fun hq => ?_) <;> ((try simp only [hqs] at hq) <;> (first | omega | conv => whnf))))))
      rw [h4 (by simpa using he.symm)]
      exact ⟨rfl, rfl⟩
    · have hb : (n == y) = false := by simpa using he
      (repeat (any_goals (first | refine st ?_ | ((first | refine go2 fun xe hxe => ?_ | with_reducible refine cnd_d (fun hq => ?_) fun hq => ?_) <;> conv => whnf) | ((with_reducible refine cnd_i (fun hq => ?_) fun hq => ?_) <;> ((try simp only [hqs] at hq) <;> (first | omega | conv => whnf))))))
      exact ⟨i + 1, ⟨by omega, by rw [h3]; exact tk_snoc hall (by simpa using fun h => he h.symm)⟩, by omega, rfl⟩
  · (repeat (any_goals (first | refine st ?_ | ((first | refine go2 fun xe hxe => ?_ | with_reducible refine cnd_d (fun hq => ?_) fun hq => ?_) <;> conv => whnf) | ((with_reducible refine cnd_i (fun hq => ?_) fun hq => ?_) <;> ((try simp only [hqs] at hq) <;> (first | omega | conv => whnf))))))
    rw [List.take_of_length_le (by omega)] at hall
    rw [List.findIdx?_eq_none_iff.2 hall]
    exact ⟨rfl, rfl⟩
theorem slCon_c (l : List Int) (n : Int) : ConV Tryz.prog 133 [.lst (.int .i64) l, .int .i64 n] [] (.bool (l.contains n)) [] := by
  refine con_eq Θ_ok Tryz.func133 rfl rfl false 0 4 rfl rfl rfl rfl fun K hK hb1 hb2 => ?_; simp only [argsV, enc, Nat.reduceAdd]
  (repeat (any_goals (first | refine st ?_ | ((first | refine go2 fun xe hxe => ?_ | with_reducible refine cnd_d (fun hq => ?_) fun hq => ?_) <;> conv => whnf) | ((with_reducible refine cnd_i (fun hq => ?_) fun hq => ?_) <;> ((try simp only [hqs] at hq) <;> (first | omega | conv => whnf))) | refine cr (slIdx_c _ _) ?_)))
  refine ⟨?_, rfl⟩
  have : l.contains n = (l.findIdx? (· == n)).isSome := by
    rw [List.findIdx?_isSome, Bool.eq_iff_iff, List.contains_iff_mem, List.any_eq_true]
    constructor
    · intro h; exact ⟨n, h, by simp⟩
    · rintro ⟨x, h1, h2⟩; rw [beq_iff_eq] at h2; exact h2 ▸ h1
  rw [this]
  cases l.findIdx? (· == n) with
  | none => rfl
  | some i => simp
theorem icomp_c (p q : Ppl) (bad : Int) : ConV Tryz.prog 121 [pplA p, pplA q, .int .i64 bad] [] (.bool (fitP bad p q)) [] := by
  refine con_eq Θ_ok Tryz.func121 rfl rfl false 0 4 rfl rfl rfl rfl fun K hK hb1 hb2 => ?_; simp only [argsV, enc, Nat.reduceAdd]
  simp [toDL, V.toD, bnd, encD, D.cells] at hb1
  cases h1 : slt p.v q.v
  · have : fitP bad p q = true := by simp [fitP, h1]
    rw [this]
    (repeat (any_goals (first | refine st ?_ | ((first | refine go2 fun xe hxe => ?_ | with_reducible refine cnd_d (fun hq => ?_) fun hq => ?_) <;> conv => whnf) | ((with_reducible refine cnd_i (fun hq => ?_) fun hq => ?_) <;> ((try simp only [hqs] at hq) <;> (first | omega | conv => whnf))) | refine cr (islt_c _ _) ?_ | refine cr (ivEq_c _ _) ?_ | refine cr (slCon_c _ _) ?_)))
    exact ⟨rfl, rfl⟩
  cases h2 : vEq p.v q.v
  · cases h3 : p.v.author == bad
    · have : fitP bad p q = false := by simp [fitP, h1, h2, h3]
      rw [this]
      have hn : (p.v.author != bad) = true := by rw [bne, h3]; rfl
      (repeat (any_goals (first | refine st ?_ | ((first | refine go2 fun xe hxe => ?_ | with_reducible refine cnd_d (fun hq => ?_) fun hq => ?_) <;> conv => whnf) | ((with_reducible refine cnd_i (fun hq => ?_) fun hq => ?_) <;> ((try simp only [hqs] at hq) <;> (first | omega | conv => whnf))) | refine cr (islt_c _ _) ?_ | refine cr (ivEq_c _ _) ?_ | refine cr (slCon_c _ _) ?_)))
      exact ⟨rfl, rfl⟩
    · have hf : fitP bad p q = !both bad p.members q.members := by simp [fitP, h1, h2, h3]
      rw [hf]
      have hn : (p.v.author != bad) = false := by rw [bne, h3]; rfl
      (repeat (any_goals (first | refine st ?_ | ((first | refine go2 fun xe hxe => ?_ | with_reducible refine cnd_d (fun hq => ?_) fun hq => ?_) <;> conv => whnf) | ((with_reducible refine cnd_i (fun hq => ?_) fun hq => ?_) <;> ((try simp only [hqs] at hq) <;> (first | omega | conv => whnf))) | refine cr (islt_c _ _) ?_ | refine cr (ivEq_c _ _) ?_ | refine cr (slCon_c _ _) ?_)))
      refine at_loop hK [] [2, 4, 28, 29, 30] (fun i : Nat => ⟨[(2, .int .i64 bad), (4, .ptr 4 0), (28, .lst (.int .i64) p.members), (29, .int .i64 p.members.length), (30, .int .i64 i)], [(4, .var 38 (pplA q).cells)], 5⟩) (fun i => i ≤ p.members.length ∧ ∀ m ∈ p.members.take i, (m != bad && q.members.contains m) = false) (fun i => p.members.length - i) 0 ⟨by simp, by simp⟩ rfl ?_
      rintro i ⟨hi, hall⟩
      by_cases hlt : i < p.members.length
      · have hxe : p.members[i]? = some p.members[i] := List.getElem?_eq_getElem hlt
        have hsn : p.members.take (i + 1) = p.members.take i ++ [p.members[i]] := List.take_succ_eq_append_getElem hlt
        have hmm : p.members[i] ∈ p.members := List.getElem_mem hlt
        generalize p.members[i] = m at *
        have hyes : (m != bad && q.members.contains m) = true → both bad p.members q.members = true := fun h => List.any_eq_true.2 ⟨m, hmm, h⟩
        cases h4 : m != bad
        · (repeat (any_goals (first | refine st ?_ | ((first | refine go2 fun xe hxe => ?_ | with_reducible refine cnd_d (fun hq => ?_) fun hq => ?_) <;> conv => whnf) | ((with_reducible refine cnd_i (fun hq => ?_) fun hq => ?_) <;> ((try simp only [hqs] at hq) <;> (first | omega | conv => whnf))) | refine cr (slCon_c _ _) ?_)))
          exact ⟨i + 1, ⟨by omega, by rw [hsn]; exact tk_snoc hall (by rw [h4]; rfl)⟩, by omega, rfl⟩
        · cases h5 : q.members.contains m
          · have hc5 := slCon_c q.members m
            rw [h5] at hc5
            (repeat (any_goals (first | refine st ?_ | ((first | refine go2 fun xe hxe => ?_ | with_reducible refine cnd_d (fun hq => ?_) fun hq => ?_) <;> conv => whnf) | ((with_reducible refine cnd_i (fun hq => ?_) fun hq => ?_) <;> ((try simp only [hqs] at hq) <;> (first | omega | conv => whnf))) | refine cr (hc5) ?_)))
            exact ⟨i + 1, ⟨by omega, by rw [hsn]; exact tk_snoc hall (by rw [h5, Bool.and_false])⟩, by omega, rfl⟩
          · have hc5 := slCon_c q.members m
            rw [h5] at hc5
            (repeat (any_goals (first | refine st ?_ | ((first | refine go2 fun xe hxe => ?_ | with_reducible refine cnd_d (fun hq => ?_) fun hq => ?_) <;> conv => whnf) | ((with_reducible refine cnd_i (fun hq => ?_) fun hq => ?_) <;> ((try simp only [hqs] at hq) <;> (first | omega | conv => whnf))) | refine cr (hc5) ?_)))
            rw [hyes (by rw [h4, h5]; rfl)]
            exact ⟨rfl, rfl⟩
      · (repeat (any_goals (first | refine st ?_ | ((first | refine go2 fun xe hxe => ?_ | with_reducible refine cnd_d (fun hq => ?_) fun hq => ?_) <;> conv => whnf) | ((with_reducible refine cnd_i (fun hq => ?_) fun hq => ?_) <;> ((try simp only [hqs] at hq) <;> (first | omega | conv => whnf))))))
        rw [List.take_of_length_le (by omega)] at hall
        have : both bad p.members q.members = false := by
          rw [Bool.eq_false_iff]
          intro h
          obtain ⟨m, hm, h⟩ := List.any_eq_true.1 h
          rw [hall m hm] at h
          cases h
        rw [this]
        exact ⟨rfl, rfl⟩
  · have : fitP bad p q = false := by simp [fitP, h1, h2]
    rw [this]
    (repeat (any_goals (first | refine st ?_ | ((first | refine go2 fun xe hxe => ?_ | with_reducible refine cnd_d (fun hq => ?_) fun hq => ?_) <;> conv => whnf) | ((with_reducible refine cnd_i (fun hq => ?_) fun hq => ?_) <;> ((try simp only [hqs] at hq) <;> (first | omega | conv => whnf))) | refine cr (islt_c _ _) ?_ | refine cr (ivEq_c _ _) ?_ | refine cr (slCon_c _ _) ?_)))
    exact ⟨rfl, rfl⟩
abbrev wrlA (w : Wrl) : V := .agg [.lst (.int .i64) w.com, .lst (.int .i64) w.lead, .int .i64 w.bad, .lst (.lst .vtx) w.views, .lst .ppl w.props]
theorem oneP_i (c : List Int) (p : Ppl) (hc : comV c = true) : (comV c && vtxS c p.v) = vtxS c p.v ∧ (comV c && mems c p.members) = mems c p.members := by simp [hc]
theorem iproV_c (w : Wrl) (hc : comV w.com = true) : ConV Tryz.prog 78 [wrlA w] [] (.bool (proS w.com w.bad w.props)) [] := by
  refine con_eq Θ_ok Tryz.func78 rfl rfl false 0 4 rfl rfl rfl rfl fun K hK hb1 hb2 => ?_; simp only [argsV, enc, Nat.reduceAdd]
  simp [toDL, V.toD, bnd, encD, D.cells] at hb1
  by_cases h220 : 220 < (w.props.length : Int)
  · (repeat (any_goals (first | refine st ?_ | ((first | refine go2 fun xe hxe => ?_ | with_reducible refine cnd_d (fun hq => ?_) fun hq => ?_) <;> conv => whnf) | ((with_reducible refine cnd_i (fun hq => ?_) fun hq => ?_) <;> ((try simp only [hqs] at hq) <;> (first | omega | conv => whnf))))))
    unfold proS
    rw [decide_eq_false (by omega), Bool.and_false]
    exact ⟨rfl, rfl⟩
  have hps : proS w.com w.bad w.props = allTo w.props.length (proAt w.com w.bad w.props) := by
    unfold proS
    rw [decide_eq_true (by omega), Bool.and_true]
  rw [hps]
  (repeat (any_goals (first | refine st ?_ | ((first | refine go2 fun xe hxe => ?_ | with_reducible refine cnd_d (fun hq => ?_) fun hq => ?_) <;> conv => whnf) | ((with_reducible refine cnd_i (fun hq => ?_) fun hq => ?_) <;> ((try simp only [hqs] at hq) <;> (first | omega | conv => whnf))))))
  refine at_loop hK [] [1, 12, 13, 14] (fun i : Nat => ⟨[(1, .ptr 4 0), (12, .lst .ppl w.props), (13, .int .i64 w.props.length), (14, .int .i64 i)], [(4, .var 27 (wrlA w).cells)], 5⟩) (fun i => i ≤ w.props.length ∧ ∀ j, j < i → proAt w.com w.bad w.props j = true) (fun i => w.props.length - i) 0 ⟨by simp, by simp⟩ rfl ?_
  rintro i ⟨hi, hall⟩
  by_cases hlt : i < w.props.length
  · have hxe : w.props[i]? = some w.props[i] := List.getElem?_eq_getElem hlt
    have hno : proAt w.com w.bad w.props i = false → V.bool false = V.bool (allTo w.props.length (proAt w.com w.bad w.props)) ∧ ([] : VH) = [] := fun h => ⟨by rw [allTo_f hlt h], rfl⟩
    have hA : proAt w.com w.bad w.props i = (oneP w.com w.props[i] && allTo i (fun k => fitP w.bad w.props[i] (w.props.getD k p0))) := by simp only [proAt, getD_of hxe]
    generalize w.props[i] = p at *
    have hvc := ivtx_c w.com p.v
    have hmc := imemV_c w.com p.members
    rw [(oneP_i _ p hc).1] at hvc
    rw [(oneP_i _ p hc).2] at hmc
    cases h1 : vtxS w.com p.v
    · (repeat (any_goals (first | refine st ?_ | ((first | refine go2 fun xe hxe => ?_ | with_reducible refine cnd_d (fun hq => ?_) fun hq => ?_) <;> conv => whnf) | ((with_reducible refine cnd_i (fun hq => ?_) fun hq => ?_) <;> ((try simp only [hqs] at hq) <;> (first | omega | conv => whnf))) | refine cr (hvc) ?_ | refine cr (hmc) ?_)))
      exact hno (by simp [hA, oneP, h1])
    cases h2 : mems w.com p.members
    · (repeat (any_goals (first | refine st ?_ | ((first | refine go2 fun xe hxe => ?_ | with_reducible refine cnd_d (fun hq => ?_) fun hq => ?_) <;> conv => whnf) | ((with_reducible refine cnd_i (fun hq => ?_) fun hq => ?_) <;> ((try simp only [hqs] at hq) <;> (first | omega | conv => whnf))) | refine cr (hvc) ?_ | refine cr (hmc) ?_)))
      exact hno (by simp [hA, oneP, h2])
    have e1 : cutL w.props none (some (.int .i64 i)) 0 (i : Int).toNat = w.props.take i := by simp [cutL]
    have hl1 : (w.props.take i).length = i := by rw [List.length_take]; omega
    (repeat (any_goals (first | refine st ?_ | ((first | refine go2 fun xe hxe => ?_ | with_reducible refine cnd_d (fun hq => ?_) fun hq => ?_) <;> conv => whnf) | ((with_reducible refine cnd_i (fun hq => ?_) fun hq => ?_) <;> ((try simp only [hqs] at hq) <;> (first | omega | conv => whnf))) | refine cr (hvc) ?_ | refine cr (hmc) ?_)))
    refine at_loop hK [] [1, 4, 12, 13, 14, 36, 37, 38] (fun k : Nat => ⟨[(1, .ptr 4 0), (4, .ptr 5 0), (12, .lst .ppl w.props), (13, .int .i64 w.props.length), (14, .int .i64 i), (36, .lst .ppl (w.props.take i)), (37, .int .i64 i), (38, .int .i64 k)], [(4, .var 27 (wrlA w).cells), (5, .var 38 (pplA p).cells)], 6⟩) (fun k => k ≤ i ∧ ∀ j, j < k → fitP w.bad p (w.props.getD j p0) = true) (fun k => i - k) 0 ⟨by simp, by simp⟩ (by simp only [e1, hl1]; rfl) ?_
    rintro k ⟨hk, hkall⟩
    by_cases hkl : k < i
    · have hxk : (w.props.take i)[k]? = some (w.props.getD k p0) := by rw [List.getElem?_take, if_pos hkl, List.getD_eq_getElem?_getD, List.getElem?_eq_getElem (show k < w.props.length by omega)]; rfl
      have hyes := all_step hkall (p := fun j => fitP w.bad p (w.props.getD j p0)) (i := k)
      have hnk : fitP w.bad p (w.props.getD k p0) = false → V.bool false = V.bool (allTo w.props.length (proAt w.com w.bad w.props)) ∧ ([] : VH) = [] := fun h => hno (by rw [hA, allTo_f hkl h, Bool.and_false])
      generalize w.props.getD k p0 = q at *
      have hcq := icomp_c q p w.bad
      rw [fitP_comm] at hcq
      generalize w.props.take i = pt at *
      cases h3 : fitP w.bad p q
      · rw [h3] at hcq
        (repeat (any_goals (first | refine st ?_ | ((first | refine go2 fun xe hxe => ?_ | with_reducible refine cnd_d (fun hq => ?_) fun hq => ?_) <;> conv => whnf) | ((with_reducible refine cnd_i (fun hq => ?_) fun hq => ?_) <;> ((try simp only [hqs] at hq) <;> (first | omega | conv => whnf))) | refine cr (hcq) ?_)))
        exact hnk h3
      · rw [h3] at hcq
        (repeat (any_goals (first | refine st ?_ | ((first | refine go2 fun xe hxe => ?_ | with_reducible refine cnd_d (fun hq => ?_) fun hq => ?_) <;> conv => whnf) | ((with_reducible refine cnd_i (fun hq => ?_) fun hq => ?_) <;> ((try simp only [hqs] at hq) <;> (first | omega | conv => whnf))) | refine cr (hcq) ?_)))
        exact ⟨k + 1, ⟨by omega, hyes h3⟩, by omega, rfl⟩
    · have hAt : proAt w.com w.bad w.props i = true := by
        rw [hA, allTo_t (fun j hj => hkall j (by omega)), oneP, h1, h2]
        rfl
      (repeat (any_goals (first | refine st ?_ | ((first | refine go2 fun xe hxe => ?_ | with_reducible refine cnd_d (fun hq => ?_) fun hq => ?_) <;> conv => whnf) | ((with_reducible refine cnd_i (fun hq => ?_) fun hq => ?_) <;> ((try simp only [hqs] at hq) <;> (first | omega | conv => whnf))))))
      exact ⟨i + 1, ⟨by omega, all_step hall hAt⟩, by omega, rfl⟩
  · (repeat (any_goals (first | refine st ?_ | ((first | refine go2 fun xe hxe => ?_ | with_reducible refine cnd_d (fun hq => ?_) fun hq => ?_) <;> conv => whnf) | ((with_reducible refine cnd_i (fun hq => ?_) fun hq => ?_) <;> ((try simp only [hqs] at hq) <;> (first | omega | conv => whnf))))))
    rw [allTo_t (fun j hj => hall j (by omega))]
    exact ⟨rfl, rfl⟩
end Go.Proofs.YticiffgklmjfnaaGreat.Am
namespace Go.Proofs.YticiffgklmjfnaaGreat.Am
set_option linter.unusedSimpArgs false
set_option linter.unusedVariables false
open Go
def tabV (g : List Vtx) : List (Option Vtx) := g.foldl (fun t v => t.set (v.round * 7 + v.author).toNat (some v)) (List.replicate 217 none)
theorem tabV_snoc (g : List Vtx) (v : Vtx) : tabV (g ++ [v]) = (tabV g).set (v.round * 7 + v.author).toNat (some v) := by simp [tabV]
theorem tabV_len (g : List Vtx) : (tabV g).length = 217 := by
  induction g using snoc_ind with
  | h0 => exact List.length_replicate
  | h l x ih => rw [tabV_snoc, List.length_set, ih]
theorem tabV_at {g : List Vtx} (hg : ∀ v ∈ g, inTab v) {r a : Int} (hr : 0 ≤ r ∧ r ≤ 30) (ha : 0 ≤ a ∧ a ≤ 6) : ((tabV g).getD (r * 7 + a).toNat none).isSome = hasV g r a := by
  induction g using snoc_ind with
  | h0 =>
    have : (tabV []).getD (r * 7 + a).toNat none = none := by
      simp only [tabV, List.foldl_nil, List.getD_eq_getElem?_getD, List.getElem?_replicate]
      split <;> rfl
    rw [this]
    rfl
  | h l x ih =>
    have ih := ih fun v hv => hg v (List.mem_append.2 (.inl hv))
    obtain ⟨⟨x1, x2⟩, x3, x4⟩ := hg x (by simp)
    have hl := tabV_len l
    have hh : hasV (l ++ [x]) r a = (hasV l r a || isAt r a x) := by simp [hasV]
    rw [tabV_snoc, hh, List.getD_eq_getElem?_getD, List.getElem?_set]
    by_cases he : x.round = r ∧ x.author = a
    · have : isAt r a x = true := by simp [isAt, he.1, he.2]
      rw [this, Bool.or_true, if_pos (by rw [he.1, he.2]), if_pos (by omega)]
      rfl
    · have : isAt r a x = false := by
        rw [Bool.eq_false_iff]
        intro h
        simp only [isAt, Bool.and_eq_true, beq_iff_eq, decide_eq_true_eq] at h
        exact he (by omega)
      rw [this, Bool.or_false, if_neg (by omega), ← List.getD_eq_getElem?_getD, ih]
def vcov (tab : List (Option Vtx)) (v : Vtx) : Bool := v.parents.all fun p => (tab.getD ((v.round - 1) * 7 + p).toNat none).isSome
theorem all_congr' {α : Type} {l : List α} {p q : α → Bool} (h : ∀ x ∈ l, p x = q x) : l.all p = l.all q := by
  rw [Bool.eq_iff_iff, List.all_eq_true, List.all_eq_true]
  exact ⟨fun h2 x hx => by rw [← h x hx]; exact h2 x hx, fun h2 x hx => by rw [h x hx]; exact h2 x hx⟩
theorem vcov_eq {g : List Vtx} (hg : ∀ v ∈ g, inTab v) {v : Vtx} (hr : v.parents ≠ [] → 1 ≤ v.round ∧ v.round ≤ 31) (hp : ∀ p ∈ v.parents, 0 ≤ p ∧ p ≤ 6) : vcov (tabV g) v = parOK g v :=
  all_congr' fun p h => by
    have := hr (List.ne_nil_of_mem h)
    exact tabV_at hg (by omega) (hp p h)
def kpI (b : Int) (tabs : List (List (Option Vtx))) (v : Vtx) (ms : List Int) : Bool := ms.all fun m => m == b || vcov (tabs.getD m.toNat []) v
def kpIs (b : Int) (tabs : List (List (Option Vtx))) (ps : List Ppl) : Bool := ps.all fun p => kpI b tabs p.v (p.v.author :: p.members)
def pOK (n : Nat) (p : Ppl) : Prop := (∀ m ∈ p.v.author :: p.members, 0 ≤ m ∧ m < n) ∧ (p.v.parents ≠ [] → 1 ≤ p.v.round ∧ p.v.round ≤ 31) ∧ (∀ q ∈ p.v.parents, 0 ≤ q ∧ q ≤ 6) ∧ p.members.length ≤ 1000000 ∧ p.v.parents.length ≤ 1000000
theorem kpI_eq {b : Int} {gs : List (List Vtx)} {ps : List Ppl} (hg : ∀ g ∈ gs, ∀ v ∈ g, inTab v) (hp : ∀ p ∈ ps, pOK gs.length p) : kpIs b (gs.map tabV) ps = kpar b ps gs :=
  all_congr' fun p h => by
    obtain ⟨p1, p2, p3, -⟩ := hp p h
    have key : ∀ m : Nat, m < gs.length → vcov ((gs.map tabV).getD m []) p.v = parOK (gs.getD m []) p.v := fun m hm => by
      have e : (gs.map tabV).getD m [] = tabV (gs.getD m []) := by simp only [List.getD_eq_getElem?_getD, List.getElem?_map, List.getElem?_eq_getElem hm, Option.map_some, Option.getD_some]
      rw [e]
      refine vcov_eq (hg _ ?_) p2 p3
      rw [List.getD_eq_getElem?_getD, List.getElem?_eq_getElem hm]
      exact List.getElem_mem hm
    rw [Bool.eq_iff_iff, allTo_iff]
    simp only [kpI, List.all_eq_true, Bool.or_eq_true, beq_iff_eq]
    constructor
    · intro h1 m hm
      simp only [kparAt, Bool.or_eq_true, Bool.not_eq_true', Bool.and_eq_false_iff]
      by_cases hb : (m : Int) = b
      · exact .inl (.inl (by simp [hb]))
      by_cases hv : (m : Int) = p.v.author ∨ (m : Int) ∈ p.members
      · rcases h1 (m : Int) (List.mem_cons.2 hv) with h2 | h2
        · exact absurd h2 hb
        · rw [Int.toNat_natCast, key m hm] at h2
          exact .inr h2
      · refine .inl (.inr ?_)
        rw [Bool.eq_false_iff]
        intro h2
        simp only [Bool.or_eq_true, beq_iff_eq, List.contains_iff_mem] at h2
        exact hv h2
    · intro h1 m hm
      have hr := p1 m hm
      have h2 := h1 m.toNat (by omega)
      simp only [kparAt, Bool.or_eq_true, Bool.not_eq_true', Bool.and_eq_false_iff, Int.toNat_of_nonneg hr.1] at h2
      rcases h2 with (h2 | h2) | h2
      · exact .inl (by simpa using h2)
      · exfalso
        rw [Bool.eq_false_iff] at h2
        apply h2
        simp only [Bool.or_eq_true, beq_iff_eq, List.contains_iff_mem]
        exact List.mem_cons.1 hm
      · rw [key m.toNat (by omega)]
        exact .inr h2
def vtsV (tab : List (Option Vtx)) : List Vtx := tab.filterMap id
theorem fm_none : ∀ {l : List (Option Vtx)}, (∀ x ∈ l, x = none) → l.filterMap id = []
  | [], _ => rfl
  | x :: l, h => by
    rw [h x (List.mem_cons_self ..), List.filterMap_cons_none rfl]
    exact fm_none fun y hy => h y (List.mem_cons_of_mem _ hy)
theorem fm_some (l : List (Option Vtx)) (y : Vtx) : (some y :: l).filterMap id = y :: l.filterMap id := List.filterMap_cons_some (f := id) rfl
theorem fm_set : ∀ {l : List (Option Vtx)} {k : Nat} {v : Vtx}, k < l.length → (∀ j, k ≤ j → l.getD j none = none) → (l.set k (some v)).filterMap id = l.filterMap id ++ [v]
  | [], _, _, h, _ => absurd h (Nat.not_lt_zero _)
  | x :: l, 0, v, _, h => by
    have hn : ∀ y ∈ x :: l, y = none := fun y hy => by
      obtain ⟨j, hj, rfl⟩ := mem_getD (d := none) hy
      exact h j (Nat.zero_le _)
    rw [fm_none hn, List.set_cons_zero, fm_some, fm_none fun y hy => hn y (List.mem_cons_of_mem _ hy)]
    rfl
  | x :: l, k + 1, v, hk, h => by
    have ih := fm_set (l := l) (k := k) (v := v) (by simpa using hk) fun j hj => by
      have := h (j + 1) (by omega)
      simpa using this
    rw [List.set_cons_succ]
    cases x with
    | none => rw [List.filterMap_cons_none rfl, List.filterMap_cons_none rfl, ih]
    | some y => rw [fm_some, fm_some, ih]; rfl
theorem tabV_none {g : List Vtx} {j : Nat} (h : ∀ v ∈ g, (v.round * 7 + v.author).toNat ≠ j) : (tabV g).getD j none = none := by
  induction g using snoc_ind with
  | h0 =>
    simp only [tabV, List.foldl_nil, List.getD_eq_getElem?_getD, List.getElem?_replicate]
    split <;> rfl
  | h l x ih =>
    rw [tabV_snoc, List.getD_eq_getElem?_getD, List.getElem?_set_ne (h x (by simp)), ← List.getD_eq_getElem?_getD]
    exact ih fun v hv => h v (List.mem_append.2 (.inl hv))
theorem vts_tab {g : List Vtx} (hg : ∀ v ∈ g, inTab v) (hs : g.Pairwise fun a b => bef a b = true) : vtsV (tabV g) = g := by
  induction g using snoc_ind with
  | h0 => exact fm_none fun x hx => List.eq_of_mem_replicate hx
  | h l x ih =>
    obtain ⟨s1, -, s3⟩ := List.pairwise_append.1 hs
    have ih := ih (fun v hv => hg v (List.mem_append.2 (.inl hv))) s1
    obtain ⟨⟨x1, x2⟩, x3, x4⟩ := hg x (by simp)
    rw [tabV_snoc, vtsV, fm_set (by rw [tabV_len]; omega) fun j hj => tabV_none fun v hv => ?_]
    · exact congrArg (· ++ [x]) ih
    · have hb := s3 v hv x (by simp)
      obtain ⟨⟨v1, v2⟩, v3, v4⟩ := hg v (List.mem_append.2 (.inl hv))
      simp only [bef, Bool.or_eq_true, Bool.and_eq_true, decide_eq_true_eq] at hb
      omega
def preS (w : Wrl) : Bool := newS w.com w.lead w.bad && (proS w.com w.bad w.props && ((w.views.length == w.com.length) && viwsS w.com w.bad w.props w.views))
theorem wrlS_eq (w : Wrl) : wrlS w = (preS w && kpar w.bad w.props w.views) := by
  simp only [wrlS, preS]
  cases newS w.com w.lead w.bad <;> cases (w.views.length == w.com.length) <;> cases proS w.com w.bad w.props <;> cases viwsS w.com w.bad w.props w.views <;> simp
theorem pre_ok {w : Wrl} (h : preS w = true) : comV w.com = true ∧ leaS w.com w.lead = true ∧ badS w.com w.bad = true ∧ proS w.com w.bad w.props = true ∧ w.views.length = w.com.length ∧ viwsS w.com w.bad w.props w.views = true := by
  simp only [preS, newS, Bool.and_eq_true, beq_iff_eq] at h
  obtain ⟨⟨h1, h2, h3⟩, h4, h5, h6⟩ := h
  exact ⟨h1, h2, h3, h4, h5, h6⟩
theorem gra_vtx {c : List Int} {g : List Vtx} (h : graS c g = true) : ∀ v ∈ g, vtxS c v = true := by
  intro v hv
  obtain ⟨j, hj, rfl⟩ := mem_getD (d := v0) hv
  simp only [graS, Bool.and_eq_true, allTo_iff] at h
  have := h.2 j hj
  simp only [graAt, Bool.and_eq_true] at this
  exact this.1
theorem pre_gra {w : Wrl} (h : preS w = true) : ∀ g ∈ w.views, graS w.com g = true := by
  obtain ⟨-, -, -, -, -, h6⟩ := pre_ok h
  intro g hg
  obtain ⟨j, hj, rfl⟩ := mem_getD (d := []) hg
  simp only [viwsS, allTo_iff, Bool.and_eq_true] at h6
  have := (h6 j hj).1
  simp only [viwS, Bool.and_eq_true] at this
  exact this.2
theorem nodup_len7 {α : Type} [BEq α] [LawfulBEq α] : ∀ {a b : List α}, a.Nodup → a ⊆ b → a.length ≤ b.length
  | [], _, _, _ => Nat.zero_le _
  | x :: a, b, h, hs => by
    rw [List.nodup_cons] at h
    have hx : x ∈ b := hs (List.mem_cons_self ..)
    have := nodup_len7 (b := b.erase x) h.2 fun y hy => by
      have hne : y ≠ x := fun e => h.1 (e ▸ hy)
      exact (List.mem_erase_of_ne hne).2 (hs (List.mem_cons_of_mem _ hy))
    rw [List.length_erase_of_mem hx] at this
    have := List.length_pos_of_mem hx
    simp only [List.length_cons]
    omega
theorem mems_len7 {c ms : List Int} (h : mems c ms = true) : ms.length ≤ c.length := by
  have h1 := mems_in h
  have h2 : ms ⊆ (List.range c.length).map fun n : Nat => (n : Int) := fun m hm => by
    have := h1 m hm
    rw [List.mem_map]
    exact ⟨m.toNat, by rw [List.mem_range]; omega, by omega⟩
  have h3 : ms.Nodup := (mems_asc h).imp fun hab => by omega
  have := nodup_len7 h3 h2
  simpa using this
theorem vtx_par {c : List Int} {v : Vtx} (hc : comV c = true) (h : vtxS c v = true) : v.parents.length ≤ 7 := by
  obtain ⟨-, -, h3, -⟩ := vtxS_ok h
  have := mems_len7 h3
  have := (comV_iff.1 hc).2
  omega
theorem pre_tab {w : Wrl} (h : preS w = true) : ∀ g ∈ w.views, ∀ v ∈ g, inTab v ∧ v.parents.length ≤ 1000 := fun g hg v hv => by
  have hc := (pre_ok h).1
  have h1 := gra_vtx (pre_gra h g hg) v hv
  exact ⟨vtxS_tab hc h1, by have := vtx_par hc h1; omega⟩
theorem pro_one {c : List Int} {b : Int} {ps : List Ppl} (h : proS c b ps = true) : ∀ p ∈ ps, oneP c p = true := by
  intro p hp
  obtain ⟨j, hj, rfl⟩ := mem_getD (d := p0) hp
  simp only [proS, Bool.and_eq_true, allTo_iff] at h
  have := h.1 j hj
  simp only [proAt, Bool.and_eq_true] at this
  exact this.1
theorem pro_len {c : List Int} {b : Int} {ps : List Ppl} (h : proS c b ps = true) : ps.length ≤ 220 := by
  simp only [proS, Bool.and_eq_true, decide_eq_true_eq] at h
  omega
theorem one_pOK {c : List Int} {p : Ppl} (hc : comV c = true) (h : oneP c p = true) : pOK c.length p := by
  simp only [oneP, Bool.and_eq_true] at h
  obtain ⟨h1, h2⟩ := h
  have h7 := (comV_iff.1 hc).2
  have hl := vtx_par hc h1
  obtain ⟨v1, v2, v3, v4, v5, v6⟩ := vtxS_ok h1
  have hml := mems_len7 h2
  refine ⟨fun m hm => ?_, fun hne => ?_, fun q hq => ?_, by omega, by omega⟩
  · rcases List.mem_cons.1 hm with rfl | hm
    · omega
    · exact mems_in h2 m hm
  · by_cases h0 : p.v.round = 0
    · exact absurd (v5 h0) hne
    · omega
  · have := mems_in v3 q hq
    omega
theorem pre_pOK {w : Wrl} (h : preS w = true) : ∀ p ∈ w.props, pOK w.views.length p := by
  obtain ⟨hc, -, -, h4, h5, -⟩ := pre_ok h
  rw [h5]
  exact fun p hp => one_pOK hc (pro_one h4 p hp)
theorem pre_kp {w : Wrl} (h : preS w = true) : kpIs w.bad (w.views.map tabV) w.props = kpar w.bad w.props w.views :=
  kpI_eq (fun g hg v hv => (pre_tab h g hg v hv).1) (pre_pOK h)
end Go.Proofs.YticiffgklmjfnaaGreat.Am
namespace Go.Proofs.YticiffgklmjfnaaGreat.Am
set_option linter.unusedSimpArgs false
set_option linter.unusedVariables false
open Go
attribute [local irreducible] Mk Need Ari Get Idx Cnd CallM CallA Opt Unch At ConV
set_option maxRecDepth 10000
theorem igv_c (c : List Int) (g : List Vtx) (hl : g.length ≤ 2000000) : ConV Tryz.prog 21 [.lst (.int .i64) c, .lst .vtx g] [] (.bool (graS c g)) [] := by
  have hL := link_c c g hl
  refine con_eq Θg_ok Tryz.func21 rfl rfl false 0 4 rfl rfl rfl rfl fun K hK hb1 hb2 => ?_; simp only [argsV, enc, Nat.reduceAdd]
  clear hb1 hb2
  cases hg : graS c g
  · simp only [lgR, lgO, hg, Bool.false_eq_true, if_false] at hL
    (repeat (any_goals (first | refine stg ?_ | ((first | refine go2 fun xe hxe => ?_ | with_reducible refine cnd_d (fun hq => ?_) fun hq => ?_) <;> conv => whnf) | ((with_reducible refine cnd_i (fun hq => ?_) fun hq => ?_) <;> ((try simp only [hqs] at hq) <;> (first | omega | conv => whnf))) | refine cr (hL) ?_)))
    exact ⟨rfl, rfl⟩
  · simp only [lgR, lgO, hg, if_true] at hL
    cases g with
    | nil =>
      (repeat (any_goals (first | refine stg ?_ | ((first | refine go2 fun xe hxe => ?_ | with_reducible refine cnd_d (fun hq => ?_) fun hq => ?_) <;> conv => whnf) | ((with_reducible refine cnd_i (fun hq => ?_) fun hq => ?_) <;> ((try simp only [hqs] at hq) <;> (first | omega | conv => whnf))) | refine cr (hL) ?_)))
      exact ⟨rfl, rfl⟩
    | cons v g =>
      (repeat (any_goals (first | refine stg ?_ | ((first | refine go2 fun xe hxe => ?_ | with_reducible refine cnd_d (fun hq => ?_) fun hq => ?_) <;> conv => whnf) | ((with_reducible refine cnd_i (fun hq => ?_) fun hq => ?_) <;> ((try simp only [hqs] at hq) <;> (first | omega | conv => whnf))) | refine cr (hL) ?_)))
      exact ⟨rfl, rfl⟩
abbrev cloB (w : Wrl) (v : Vtx) : VH := [(4, .var 36 [.int .i64 v.round, .int .i64 v.author, .lst (.int .i64) v.parents, .int .i64 v.digest]), (5, .var 27 [.lst (.int .i64) w.com, .lst (.int .i64) w.lead, .int .i64 w.bad, .lst (.lst .vtx) w.views, .lst .ppl w.props])]
theorem vv1_c (w : Wrl) (v : Vtx) (p : Ppl) (hc : comV w.com = true) (hm : mems w.com p.members = true) : ConV Tryz.prog 123 [pplA p, .ptr 4 0, .ptr 5 0] (cloB w v) (.bool (vEq p.v v && don w.com p)) (cloB w v) := by
  refine con_eq Θ_ok Tryz.func123 rfl rfl false 2 6 rfl rfl rfl rfl fun K hK hb1 hb2 => ?_; simp only [argsV, enc, Nat.reduceAdd]
  clear hb1 hb2
  cases h1 : vEq p.v v
  · (repeat (any_goals (first | refine st ?_ | ((first | refine go2 fun xe hxe => ?_ | with_reducible refine cnd_d (fun hq => ?_) fun hq => ?_) <;> conv => whnf) | ((with_reducible refine cnd_i (fun hq => ?_) fun hq => ?_) <;> ((try simp only [hqs] at hq) <;> (first | omega | conv => whnf))) | refine cr (ivEq_c _ _) ?_ | refine cr (icert_c _ _ hc hm) ?_)))
    exact ⟨rfl, rfl⟩
  · (repeat (any_goals (first | refine st ?_ | ((first | refine go2 fun xe hxe => ?_ | with_reducible refine cnd_d (fun hq => ?_) fun hq => ?_) <;> conv => whnf) | ((with_reducible refine cnd_i (fun hq => ?_) fun hq => ?_) <;> ((try simp only [hqs] at hq) <;> (first | omega | conv => whnf))) | refine cr (ivEq_c _ _) ?_ | refine cr (icert_c _ _ hc hm) ?_)))
    exact ⟨rfl, rfl⟩
theorem idxF_c (w : Wrl) (v : Vtx) (ps : List Ppl) (hc : comV w.com = true) (hm : ∀ p ∈ ps, mems w.com p.members = true) : ConV Tryz.prog 141 [.lst .ppl ps, .clo 123 [.ptr 4 0, .ptr 5 0]] (cloB w v)
    (.int .i64 (match ps.findIdx? (fun p => vEq p.v v && don w.com p) with | some i => (i : Int) | none => -1)) (cloB w v) := by
  refine con_eq Θ_ok Tryz.func141 rfl rfl false 2 6 rfl rfl rfl rfl fun K hK hb1 hb2 => ?_; simp only [argsV, enc, Nat.reduceAdd]
  clear hb2
  simp [toDL, V.toD, bnd, encD, D.cells] at hb1
  (repeat (any_goals (first | refine st ?_ | ((first | refine go2 fun xe hxe => ?_ | with_reducible refine cnd_d (fun hq => ?_) fun hq => ?_) <;> conv => whnf) | ((with_reducible refine cnd_i (fun hq => ?_) fun hq => ?_) <;> ((try simp only [hqs] at hq) <;> (first | omega | conv => whnf))))))
  refine at_loop hK [] [0, 1, 7, 8] (fun i : Nat => ⟨[(0, .lst .ppl ps), (1, .clo 123 [.ptr 4 0, .ptr 5 0]), (7, .int .i64 ps.length), (8, .int .i64 i)], cloB w v, 6⟩) (fun i => i ≤ ps.length ∧ ∀ y ∈ ps.take i, (vEq y.v v && don w.com y) = false) (fun i => ps.length - i) 0 ⟨by simp, by simp⟩ rfl ?_
  rintro i ⟨hi, hall⟩
  by_cases hlt : i < ps.length
  · have hxe : ps[i]? = some ps[i] := List.getElem?_eq_getElem hlt
    have h3 : ps.take (i + 1) = ps.take i ++ [ps[i]] := List.take_succ_eq_append_getElem hlt
    have h4 := find_at (l := ps) (p := fun p => vEq p.v v && don w.com p) hxe hall
    have h5 := hm _ (List.getElem_mem hlt)
    generalize ps[i] = p at *
    have hv := vv1_c w v p hc h5
    cases h6 : vEq p.v v && don w.com p
    · rw [h6] at hv
      (repeat (any_goals (first | refine st ?_ | ((first | refine go2 fun xe hxe => ?_ | with_reducible refine cnd_d (fun hq => ?_) fun hq => ?_) <;> conv => whnf) | ((with_reducible refine cnd_i (fun hq => ?_) fun hq => ?_) <;> ((try simp only [hqs] at hq) <;> (first | omega | conv => whnf))) | refine cr (hv) ?_)))
      exact ⟨i + 1, ⟨by omega, by rw [h3]; exact tk_snoc hall h6⟩, by omega, rfl⟩
    · rw [h6] at hv
      (repeat (any_goals (first | refine st ?_ | ((first | refine go2 fun xe hxe => ?_ | with_reducible refine cnd_d (fun hq => ?_) fun hq => ?_) <;> conv => whnf) | ((with_reducible refine cnd_i (fun hq => ?_) fun hq => ?_) <;> ((try simp only [hqs] at hq) <;> (first | omega | conv => whnf))) | refine cr (hv) ?_)))
      rw [h4 h6]
      exact ⟨rfl, rfl⟩
  · (repeat (any_goals (first | refine st ?_ | ((first | refine go2 fun xe hxe => ?_ | with_reducible refine cnd_d (fun hq => ?_) fun hq => ?_) <;> conv => whnf) | ((with_reducible refine cnd_i (fun hq => ?_) fun hq => ?_) <;> ((try simp only [hqs] at hq) <;> (first | omega | conv => whnf))))))
    rw [List.take_of_length_le (by omega)] at hall
    rw [List.findIdx?_eq_none_iff.2 hall]
    exact ⟨rfl, rfl⟩
theorem knw_c (w : Wrl) (v : Vtx) (ps : List Ppl) (hc : comV w.com = true) (hm : ∀ p ∈ ps, mems w.com p.members = true) : ConV Tryz.prog 122 [.lst .ppl ps, .clo 123 [.ptr 4 0, .ptr 5 0]] (cloB w v)
    (.bool (knw w.com ps v)) (cloB w v) := by
  have hk : knw w.com ps v = (ps.findIdx? (fun p => vEq p.v v && don w.com p)).isSome := by
    rw [List.findIdx?_isSome, knw]
    congr 1
    funext p
    rw [Bool.and_comm]
  refine con_eq Θ_ok Tryz.func122 rfl rfl false 2 6 rfl rfl rfl rfl fun K hK hb1 hb2 => ?_; simp only [argsV, enc, Nat.reduceAdd]
  (repeat (any_goals (first | refine st ?_ | ((first | refine go2 fun xe hxe => ?_ | with_reducible refine cnd_d (fun hq => ?_) fun hq => ?_) <;> conv => whnf) | ((with_reducible refine cnd_i (fun hq => ?_) fun hq => ?_) <;> ((try simp only [hqs] at hq) <;> (first | omega | conv => whnf))) | refine cr (idxF_c _ _ _ hc hm) ?_)))
  refine ⟨?_, rfl⟩
  rw [hk]
  cases ps.findIdx? (fun p => vEq p.v v && don w.com p) with
  | none => rfl
  | some i => simp
theorem iviwV_c (w : Wrl) (hc : comV w.com = true) (hp : proS w.com w.bad w.props = true) (hl : ∀ g ∈ w.views, g.length ≤ 2000000) : ConV Tryz.prog 79 [wrlA w] [] (.bool ((w.views.length == w.com.length) && viwsS w.com w.bad w.props w.views)) [] := by
  have hm : ∀ p ∈ w.props, mems w.com p.members = true := fun p hpp => by
    obtain ⟨i, hi, rfl⟩ := mem_getD (d := p0) hpp
    simp only [proS, Bool.and_eq_true, allTo_iff] at hp
    have := hp.1 i hi
    simp only [proAt, oneP, Bool.and_eq_true] at this
    exact this.1.2
  have h7 := (comV_iff.1 hc).2
  refine con_eq Θ_ok Tryz.func79 rfl rfl false 0 4 rfl rfl rfl rfl fun K hK hb1 hb2 => ?_; simp only [argsV, enc, Nat.reduceAdd]
  simp [toDL, V.toD, bnd, encD, D.cells] at hb1
  by_cases hlen : w.views.length = w.com.length
  · have hb : (w.views.length == w.com.length) = true := by simpa using hlen
    rw [hb, Bool.true_and]
    (repeat (any_goals (first | refine st ?_ | ((first | refine go2 fun xe hxe => ?_ | with_reducible refine cnd_d (fun hq => ?_) fun hq => ?_) <;> conv => whnf) | ((with_reducible refine cnd_i (fun hq => ?_) fun hq => ?_) <;> ((try simp only [hqs] at hq) <;> (first | omega | conv => whnf))))))
    refine at_loop hK [] [1, 16, 17, 18] (fun i : Nat => ⟨[(1, .ptr 4 0), (16, .lst (.lst .vtx) w.views), (17, .int .i64 w.views.length), (18, .int .i64 i)], [(4, .var 27 (wrlA w).cells)], 5⟩)
      (fun i => i ≤ w.views.length ∧ ∀ j, j < i → (viwS w.com w.props (w.views.getD j []) && (!((j : Int) == w.bad) || (w.views.getD j []).isEmpty)) = true) (fun i => w.views.length - i) 0 ⟨by simp, by simp⟩ rfl ?_
    rintro i ⟨hi, hall⟩
    by_cases hlt : i < w.views.length
    · have hxe : w.views[i]? = some (w.views.getD i []) := by rw [List.getD_eq_getElem?_getD, List.getElem?_eq_getElem hlt]; rfl
      have hgl := hl _ (List.mem_of_getElem? hxe)
      have hno : (viwS w.com w.props (w.views.getD i []) && (!((i : Int) == w.bad) || (w.views.getD i []).isEmpty)) = false → V.bool false = V.bool (viwsS w.com w.bad w.props w.views) ∧ ([] : VH) = [] := fun h => ⟨by unfold viwsS; rw [allTo_f hlt h], rfl⟩
      have hyes := all_step hall (p := fun j => viwS w.com w.props (w.views.getD j []) && (!((j : Int) == w.bad) || (w.views.getD j []).isEmpty)) (i := i)
      generalize w.views.getD i [] = g at *
      have hvv : viwS w.com w.props g = (g.all (knw w.com w.props) && graS w.com g) := rfl
      cases h1 : graS w.com g
      · (repeat (any_goals (first | refine st ?_ | ((first | refine go2 fun xe hxe => ?_ | with_reducible refine cnd_d (fun hq => ?_) fun hq => ?_) <;> conv => whnf) | ((with_reducible refine cnd_i (fun hq => ?_) fun hq => ?_) <;> ((try simp only [hqs] at hq) <;> (first | omega | conv => whnf))) | refine cr (igv_c _ _ hgl) ?_)))
        exact hno (by rw [hvv, h1, Bool.and_false, Bool.false_and])
      have hem : g.isEmpty = decide ((g.length : Int) = 0) := by cases g <;> simp; omega
      by_cases h2 : (i : Int) = w.bad ∧ ¬ (g.length : Int) = 0
      · have hb1 : ((i : Int) == w.bad) = true := by simpa using h2.1
        (repeat (any_goals (first | refine st ?_ | ((first | refine go2 fun xe hxe => ?_ | with_reducible refine cnd_d (fun hq => ?_) fun hq => ?_) <;> conv => whnf) | ((with_reducible refine cnd_i (fun hq => ?_) fun hq => ?_) <;> ((try simp only [hqs] at hq) <;> (first | omega | conv => whnf))) | refine cr (igv_c _ _ hgl) ?_)))
        exact hno (by rw [hb1, hem, decide_eq_false h2.2]; simp)
      have hok2 : (!((i : Int) == w.bad) || g.isEmpty) = true := by
        rw [hem]
        by_cases hb : (i : Int) = w.bad
        · have : (g.length : Int) = 0 := Classical.byContradiction fun h => h2 ⟨hb, h⟩
          simp [this]
        · simp [hb]
      have hkn : ∀ v, ConV Tryz.prog 122 [.lst .ppl w.props, .clo 123 [.ptr 4 0, .ptr 5 0]] (cloB w v) (.bool (knw w.com w.props v)) (cloB w v) := fun v => knw_c w v _ hc hm
      (repeat (any_goals (first | refine st ?_ | ((first | refine go2 fun xe hxe => ?_ | with_reducible refine cnd_d (fun hq => ?_) fun hq => ?_) <;> conv => whnf) | ((with_reducible refine cnd_i (fun hq => ?_) fun hq => ?_) <;> ((try simp only [hqs] at hq) <;> (first | omega | conv => whnf))) | refine cr (igv_c _ _ hgl) ?_)))
      all_goals
        refine at_loop hK [] [1, 16, 17, 18, 39, 40, 41] (fun k : Nat => ⟨[(1, .ptr 4 0), (16, .lst (.lst .vtx) w.views), (17, .int .i64 w.views.length), (18, .int .i64 i), (39, .lst .vtx g), (40, .int .i64 g.length), (41, .int .i64 k)], [(4, .var 27 (wrlA w).cells)], 5⟩)
          (fun k => k ≤ g.length ∧ ∀ v ∈ g.take k, knw w.com w.props v = true) (fun k => g.length - k) 0 ⟨by simp, by simp⟩ rfl ?_
        rintro k ⟨hk, hkall⟩
        by_cases hkl : k < g.length
        · have hxk : g[k]? = some g[k] := List.getElem?_eq_getElem hkl
          have hsn : g.take (k + 1) = g.take k ++ [g[k]] := List.take_succ_eq_append_getElem hkl
          have hvm : g[k] ∈ g := List.getElem_mem hkl
          generalize g[k] = v at *
          have hkv := hkn v
          cases h3 : knw w.com w.props v
          · rw [h3] at hkv
            (repeat (any_goals (first | refine st ?_ | ((first | refine go2 fun xe hxe => ?_ | with_reducible refine cnd_d (fun hq => ?_) fun hq => ?_) <;> conv => whnf) | ((with_reducible refine cnd_i (fun hq => ?_) fun hq => ?_) <;> ((try simp only [hqs] at hq) <;> (first | omega | conv => whnf))) | refine cr (hkv) ?_)))
            have : g.all (knw w.com w.props) = false := by
              rw [Bool.eq_false_iff]
              intro h
              rw [List.all_eq_true.1 h v hvm] at h3
              cases h3
            exact hno (by rw [hvv, this, Bool.false_and, Bool.false_and])
          · rw [h3] at hkv
            (repeat (any_goals (first | refine st ?_ | ((first | refine go2 fun xe hxe => ?_ | with_reducible refine cnd_d (fun hq => ?_) fun hq => ?_) <;> conv => whnf) | ((with_reducible refine cnd_i (fun hq => ?_) fun hq => ?_) <;> ((try simp only [hqs] at hq) <;> (first | omega | conv => whnf))) | refine cr (hkv) ?_)))
            exact ⟨k + 1, ⟨by omega, by rw [hsn]; exact tk_snoc hkall h3⟩, by omega, rfl⟩
        · rw [List.take_of_length_le (by omega)] at hkall
          (repeat (any_goals (first | refine st ?_ | ((first | refine go2 fun xe hxe => ?_ | with_reducible refine cnd_d (fun hq => ?_) fun hq => ?_) <;> conv => whnf) | ((with_reducible refine cnd_i (fun hq => ?_) fun hq => ?_) <;> ((try simp only [hqs] at hq) <;> (first | omega | conv => whnf))))))
          exact ⟨i + 1, ⟨by omega, hyes (by rw [hvv, List.all_eq_true.2 hkall, h1, hok2]; rfl)⟩, by omega, rfl⟩
    · (repeat (any_goals (first | refine st ?_ | ((first | refine go2 fun xe hxe => ?_ | with_reducible refine cnd_d (fun hq => ?_) fun hq => ?_) <;> conv => whnf) | ((with_reducible refine cnd_i (fun hq => ?_) fun hq => ?_) <;> ((try simp only [hqs] at hq) <;> (first | omega | conv => whnf))))))
      unfold viwsS
      rw [allTo_t (fun j hj => hall j (by omega))]
      exact ⟨rfl, rfl⟩
  · have hb : (w.views.length == w.com.length) = false := by simpa using hlen
    rw [hb, Bool.false_and]
    (repeat (any_goals (first | refine st ?_ | ((first | refine go2 fun xe hxe => ?_ | with_reducible refine cnd_d (fun hq => ?_) fun hq => ?_) <;> conv => whnf) | ((with_reducible refine cnd_i (fun hq => ?_) fun hq => ?_) <;> ((try simp only [hqs] at hq) <;> (first | omega | conv => whnf))))))
    exact ⟨rfl, rfl⟩
theorem icl_c (v : Vtx) (hl : v.parents.length ≤ 1000000) : ConV Tryz.prog 48 [vtxA v] [] (.agg [.int .i64 v.round, .int .i64 v.author, .ref 4, .int .i64 v.digest]) [(4, .row 3 (.int .i64) v.parents)] := by
  refine con_eq Θ_ok Tryz.func48 rfl rfl false 0 4 rfl rfl rfl rfl fun K hK hb1 hb2 => ?_; simp only [argsV, enc, Nat.reduceAdd]
  (repeat (any_goals (first | refine st ?_ | ((first | refine go2 fun xe hxe => ?_ | with_reducible refine cnd_d (fun hq => ?_) fun hq => ?_) <;> conv => whnf) | ((with_reducible refine cnd_i (fun hq => ?_) fun hq => ?_) <;> ((try simp only [hqs] at hq) <;> (first | omega | conv => whnf))))))
  exact ⟨rfl, rfl⟩
theorem vof_c (g : List Vtx) (hg : ∀ v ∈ g, inTab v ∧ v.parents.length ≤ 1000) : ConV Tryz.prog 81 [.lst .vtx g] [] (.ptr 4 0) [(4, .vari 132 [] 217 (.ob .vtx) (tabV g) [])] := by
  refine con_eq Θ_ok Tryz.func81 rfl rfl false 0 4 rfl rfl rfl rfl fun K hK hb1 hb2 => ?_; simp only [argsV, enc, Nat.reduceAdd]
  simp [toDL, V.toD, bnd, encD, D.cells] at hb1
  (repeat (any_goals (first | refine st ?_ | ((first | refine go2 fun xe hxe => ?_ | with_reducible refine cnd_d (fun hq => ?_) fun hq => ?_) <;> conv => whnf) | ((with_reducible refine cnd_i (fun hq => ?_) fun hq => ?_) <;> ((try simp only [hqs] at hq) <;> (first | omega | conv => whnf))))))
  refine at_tab 4 0 217 (.ob .vtx) ?_
  ((conv => whnf); refine mk_i (by kernel_rfl) ?_; (conv => whnf))
  refine at_loop hK [] [3, 9, 10, 11] (fun i : Nat => ⟨[(3, .ptr 4 0), (9, .lst .vtx g), (10, .int .i64 g.length), (11, .int .i64 (i : Int))], [(4, .vari 132 [] 217 (.ob .vtx) (tabV (g.take i)) [])], 5⟩) (fun i => i ≤ g.length) (fun i => g.length - i) 0 (by simp) rfl ?_
  intro i hi
  by_cases hlt : i < g.length
  · have hxe : g[i]? = some g[i] := List.getElem?_eq_getElem hlt
    have hsn : g.take (i + 1) = g.take i ++ [g[i]] := List.take_succ_eq_append_getElem hlt
    obtain ⟨⟨⟨v1, v2⟩, v3, v4⟩, v5⟩ := hg _ (List.getElem_mem hlt)
    have hl2 := tabV_len (g.take i)
    have hst : tabV (g.take (i + 1)) = (tabV (g.take i)).set (g[i].round * 7 + g[i].author).toNat (some g[i]) := by rw [hsn, tabV_snoc]
    generalize g[i] = v at *
    generalize tabV (g.take i) = s at *
    (repeat (any_goals (first | refine st ?_ | ((first | refine go2 fun xe hxe => ?_ | with_reducible refine cnd_d (fun hq => ?_) fun hq => ?_) <;> conv => whnf) | ((with_reducible refine cnd_i (fun hq => ?_) fun hq => ?_) <;> ((try simp only [hqs] at hq) <;> (first | omega | conv => whnf))) | ((with_reducible refine call_r ?_); (conv => whnf); (first | with_reducible refine call_i (icl_c _ (by omega)) ?_); conv => whnf))))
    refine ⟨i + 1, by omega, by omega, ?_⟩
    have hix : (v.round * 7 + v.author).toNat = v.round.toNat * 7 + v.author.toNat := by omega
    rw [hst, hix]
    rfl
  · rw [List.take_of_length_le (by omega)]
    (repeat (any_goals (first | refine st ?_ | ((first | refine go2 fun xe hxe => ?_ | with_reducible refine cnd_d (fun hq => ?_) fun hq => ?_) <;> conv => whnf) | ((with_reducible refine cnd_i (fun hq => ?_) fun hq => ?_) <;> ((try simp only [hqs] at hq) <;> (first | omega | conv => whnf))))))
    exact ⟨rfl, rfl⟩
end Go.Proofs.YticiffgklmjfnaaGreat.Am
namespace Go.Proofs.YticiffgklmjfnaaGreat.Am
set_option linter.unusedSimpArgs false
set_option linter.unusedVariables false
open Go
attribute [local irreducible] Mk Need Ari Get Idx Cnd CallM CallA Opt Unch At ConV
set_option maxRecDepth 10000
def Θw : TT := (101, ⟨.ptr 132, 1, 8, some (.nilp), some (.hp 0), false⟩) :: (38, ⟨.struct [(36, 0, 4), (23, 4, 1)], 5, 72, some (.agg [.int .i64 0, .int .i64 0, .nils, .int .i64 0, .nils]), some (.pplm 1), false⟩) :: Θ
theorem Θw_ok : TT.ok Tryz.prog Θw := TT.okB_ok (by kernel_rfl)
theorem stw {P Q : Prop} (h : Q) (s : Hid Q → P := by
    intro h
    (first | (with_reducible first | apply at_seq | apply at_block) | ((first | with_reducible apply at_regS Θw_ok | refine go ?_ | (with_reducible first | apply at_cond | apply at_ret | apply at_exit | apply at_skip | refine at_regD Θw_ok mixed (by kernel_rfl) ?_)) <;> conv => whnf))
    repeat (first | (with_reducible first | apply at_seq | apply at_block) | ((first | with_reducible apply at_regS Θw_ok | refine go ?_ | (with_reducible first | apply at_cond | apply at_ret | apply at_exit | apply at_skip | refine at_regD Θw_ok mixed (by kernel_rfl) ?_)) <;> conv => whnf))
    exact h.h) : P := s ⟨h⟩
def pms (ps : List Ppl) : List PplM := ps.zipIdx.map fun x => ⟨x.1.v, some x.2⟩
theorem pms_len (ps : List Ppl) : (pms ps).length = ps.length := by simp [pms]
def pm0 : PplM := ⟨⟨0, 0, [], 0⟩, none⟩
def pmI (ps : List Ppl) (i : Nat) : List PplM := pms (ps.take i) ++ List.replicate (ps.length - i) pm0
theorem pmI_len (ps : List Ppl) (i : Nat) (hi : i ≤ ps.length) : (pmI ps i).length = ps.length := by
  simp only [pmI, List.length_append, pms_len, List.length_take, List.length_replicate]; omega
theorem pmI_set {ps : List Ppl} {i : Nat} (h : i < ps.length) : (pmI ps i).set i ⟨ps[i].v, some i⟩ = pmI ps (i + 1) := by
  have h1 : (pms (ps.take i)).length = i := by rw [pms_len, List.length_take]; omega
  have h2 : ps.length - i = (ps.length - (i + 1)) + 1 := by omega
  unfold pmI
  rw [List.set_append_right _ _ (by omega), h1, Nat.sub_self, h2, List.replicate_succ, List.set_cons_zero]
  have h4 : pms (ps.take (i + 1)) = pms (ps.take i) ++ [⟨ps[i].v, some i⟩] := by
    rw [List.take_succ_eq_append_getElem h]
    simp only [pms, List.zipIdx_append, List.map_append, List.length_take, Nat.min_eq_left (Nat.le_of_lt h), List.zipIdx_cons, List.zipIdx_nil, List.map_cons, List.map_nil, Nat.zero_add]
  rw [h4, List.append_assoc]
  rfl
theorem icps_c (ps : List Ppl) (hv : ∀ p ∈ ps, p.v.parents.length ≤ 1000000 ∧ p.members.length ≤ 1000000) (hl : ps.length ≤ 1000000) : ConV Tryz.prog 82 [.lst .ppl ps] [] (.ref 4) [(1, .frow 3 (.int .i64) (ps.map (·.members))), (4, .row 38 (.pplm 1) (pms ps))] := by
  refine con_eq Θw_ok Tryz.func82 rfl rfl false 0 4 rfl rfl rfl rfl fun K hK hb1 hb2 => ?_; simp only [argsV, enc, Nat.reduceAdd]
  clear hb1 hb2
  (repeat (any_goals (first | refine stw ?_ | ((first | refine go2 fun xe hxe => ?_ | with_reducible refine cnd_d (fun hq => ?_) fun hq => ?_) <;> conv => whnf) | ((with_reducible refine cnd_i (fun hq => ?_) fun hq => ?_) <;> ((try simp only [hqs] at hq) <;> (first | omega | conv => whnf))))))
  refine at_fam 1 (.frow 3 (.int .i64) []) rfl ?_
  refine at_loop hK [] [3, 9, 10, 11] (fun i : Nat => ⟨[(3, .ref 4), (9, .lst .ppl ps), (10, .int .i64 ps.length), (11, .int .i64 (i : Int))], [(1, .frow 3 (.int .i64) ((ps.take i).map (·.members))), (4, .row 38 (.pplm 1) (pmI ps i))], 5⟩) (fun i => i ≤ ps.length) (fun i => ps.length - i) 0 (by simp) (by rw [show pmI ps 0 = List.replicate (ps.length : Int).toNat pm0 by simp [pmI, pms]]; rfl) ?_
  intro i hi
  by_cases hlt : i < ps.length
  · have hxe : ps[i]? = some ps[i] := List.getElem?_eq_getElem hlt
    have hsn : ps.take (i + 1) = ps.take i ++ [ps[i]] := List.take_succ_eq_append_getElem hlt
    obtain ⟨v1, v2⟩ := hv _ (List.getElem_mem hlt)
    have hpl := pmI_len ps i hi
    have hst := pmI_set hlt
    have hfl : ((ps.take i).map (·.members)).length = i := by rw [List.length_map, List.length_take]; omega
    generalize ps[i] = p at *
    generalize pmI ps i = s at *
    (repeat (any_goals (first | refine stw ?_ | ((first | refine go2 fun xe hxe => ?_ | with_reducible refine cnd_d (fun hq => ?_) fun hq => ?_) <;> conv => whnf) | ((with_reducible refine cnd_i (fun hq => ?_) fun hq => ?_) <;> ((try simp only [hqs] at hq) <;> (first | omega | conv => whnf))) | refine cr (icl_c _ v1) ?_)))
    refine ⟨i + 1, by omega, by omega, ?_⟩
    rw [← hst, hsn, List.map_append, hfl]
    rfl
  · (repeat (any_goals (first | refine stw ?_ | ((first | refine go2 fun xe hxe => ?_ | with_reducible refine cnd_d (fun hq => ?_) fun hq => ?_) <;> conv => whnf) | ((with_reducible refine cnd_i (fun hq => ?_) fun hq => ?_) <;> ((try simp only [hqs] at hq) <;> (first | omega | conv => whnf))))))
    rw [List.take_of_length_le (by omega), show pmI ps i = pms ps by rw [pmI, List.take_of_length_le (by omega), show ps.length - i = 0 by omega]; simp]
    exact ⟨rfl, rfl⟩
theorem cov_c (tabs : List (List (Option Vtx))) (k : Nat) (tab : List (Option Vtx)) (v : Vtx) (hk : tabs[k]? = some tab) (ht : tab.length = 217) (hr : v.parents ≠ [] → 1 ≤ v.round ∧ v.round ≤ 31) (hp : ∀ p ∈ v.parents, 0 ≤ p ∧ p ≤ 6) : ConV Tryz.prog 124 [.fptr 0 k 0, vtxA v] [(0, .fvari 132 217 (.ob .vtx) tabs)] (.bool (vcov tab v)) [(0, .fvari 132 217 (.ob .vtx) tabs)] := by
  refine con_eq Θ_ok Tryz.func124 rfl rfl false 0 4 rfl rfl rfl rfl fun K hK hb1 hb2 => ?_; simp only [argsV, enc, Nat.reduceAdd]
  simp [toDL, V.toD, bnd, encD, D.cells] at hb1
  (repeat (any_goals (first | refine st ?_ | ((first | refine go2 fun xe hxe => ?_ | with_reducible refine cnd_d (fun hq => ?_) fun hq => ?_) <;> conv => whnf) | ((with_reducible refine cnd_i (fun hq => ?_) fun hq => ?_) <;> ((try simp only [hqs] at hq) <;> (first | omega | conv => whnf))))))
  refine at_loop hK [] [0, 3, 8, 9, 10] (fun i : Nat => ⟨[(0, .fptr 0 k 0), (3, .ptr 4 0), (8, .lst (.int .i64) v.parents), (9, .int .i64 v.parents.length), (10, .int .i64 (i : Int))], [(0, .fvari 132 217 (.ob .vtx) tabs), (4, .var 36 (vtxA v).cells)], 5⟩) (fun i => i ≤ v.parents.length ∧ ∀ p ∈ v.parents.take i, (tab.getD ((v.round - 1) * 7 + p).toNat none).isSome = true) (fun i => v.parents.length - i) 0 (by simp) rfl ?_
  rintro i ⟨hi, hall⟩
  by_cases hlt : i < v.parents.length
  · have hxe : v.parents[i]? = some v.parents[i] := List.getElem?_eq_getElem hlt
    have h3 : v.parents.take (i + 1) = v.parents.take i ++ [v.parents[i]] := List.take_succ_eq_append_getElem hlt
    have h4 : v.parents[i] ∈ v.parents := List.getElem_mem hlt
    have h5 := hr (List.ne_nil_of_mem h4)
    have h6 := hp _ h4
    generalize v.parents[i] = p at *
    have hix : ((v.round - 1) * 7 + p).toNat = (v.round - 1).toNat * 7 + p.toNat := by omega
    (repeat (any_goals (first | refine st ?_ | ((first | refine go2 fun xe hxe => ?_ | with_reducible refine cnd_d (fun hq => ?_) fun hq => ?_) <;> conv => whnf) | ((with_reducible refine cnd_i (fun hq => ?_) fun hq => ?_) <;> ((try simp only [hqs] at hq) <;> (first | omega | conv => whnf))))))
    · have hxe : tab[(v.round - 1).toNat * 7 + p.toNat]? = some xe := hxe
      have : vcov tab v = false := by
        rw [Bool.eq_false_iff]
        intro h
        have h := List.all_eq_true.1 h p h4
        rw [hix, List.getD_eq_getElem?_getD, hxe, Option.getD_some] at h
        have hq : xe = none := by simpa using hq
        rw [hq] at h
        cases h
      rw [this]
      exact ⟨rfl, rfl⟩
    · have hxe : tab[(v.round - 1).toNat * 7 + p.toNat]? = some xe := hxe
      refine ⟨i + 1, ⟨by omega, ?_⟩, by omega, rfl⟩
      rw [h3]
      refine tk_snoc hall ?_
      rw [hix, List.getD_eq_getElem?_getD, hxe, Option.getD_some]
      have hq : Option.isNone xe = false := hq
      simpa [Option.isNone_iff_eq_none, Option.isSome_iff_ne_none] using hq
  · (repeat (any_goals (first | refine st ?_ | ((first | refine go2 fun xe hxe => ?_ | with_reducible refine cnd_d (fun hq => ?_) fun hq => ?_) <;> conv => whnf) | ((with_reducible refine cnd_i (fun hq => ?_) fun hq => ?_) <;> ((try simp only [hqs] at hq) <;> (first | omega | conv => whnf))))))
    rw [List.take_of_length_le (by omega)] at hall
    have : vcov tab v = true := List.all_eq_true.2 hall
    rw [this]
    exact ⟨rfl, rfl⟩
end Go.Proofs.YticiffgklmjfnaaGreat.Am
namespace Go.Proofs.YticiffgklmjfnaaGreat.Am
set_option linter.unusedSimpArgs false
set_option linter.unusedVariables false
open Go
attribute [local irreducible] Mk Need Ari Get Idx Cnd CallM CallA Opt Unch At ConV
set_option maxRecDepth 10000
abbrev rB (c l : List Int) (b : Int) (tabs : List (List (Option Vtx))) (ps : List Ppl) : VH := [(0, .fvari 132 217 (.ob .vtx) tabs), (1, .frow 3 (.int .i64) (ps.map (·.members))), (4, .var 91 [.int .i32 0, .int .u32 0, .lst (.int .i64) c, .lst (.int .i64) l, .int .i64 b, .ref 5, .ref 6]), (5, .row 101 (.hp 0) ((List.range tabs.length).map some)), (6, .row 38 (.pplm 1) (pms ps))]
theorem pms_at {ps : List Ppl} {i : Nat} {p : Ppl} (h : ps[i]? = some p) : (pms ps)[i]? = some ⟨p.v, some i⟩ := by
  simp [pms, List.getElem?_map, List.getElem?_zipIdx, h]
theorem cov_h (tabs : List (List (Option Vtx))) (k : Nat) (tab : List (Option Vtx)) (v : Vtx) (hk : tabs[k]? = some tab) (ht : tab.length = 217) (hr : v.parents ≠ [] → 1 ≤ v.round ∧ v.round ≤ 31) (hp : ∀ p ∈ v.parents, 0 ≤ p ∧ p ≤ 6) : ConV Tryz.prog 124 [.hpo 0 (some k), vtxA v] [(0, .fvari 132 217 (.ob .vtx) tabs)] (.bool (vcov tab v)) [(0, .fvari 132 217 (.ob .vtx) tabs)] := by
  have h := cov_c tabs k tab v hk ht hr hp
  unfold ConV at h ⊢
  exact h
set_option maxHeartbeats 1000000 in
theorem ikp_c (c l : List Int) (b : Int) (tabs : List (List (Option Vtx))) (ps : List Ppl) (ht : ∀ t ∈ tabs, t.length = 217) (htl : tabs.length ≤ 7) (hpn : ps.length ≤ 1000000) (hp : ∀ p ∈ ps, pOK tabs.length p) : ConV Tryz.prog 83 [.ptr 4 0] (rB c l b tabs ps) (.bool (kpIs b tabs ps)) (rB c l b tabs ps) := by
  refine con_eq Θw_ok Tryz.func83 rfl rfl false 3 7 rfl rfl rfl rfl fun K hK hb1 hb2 => ?_; simp only [argsV, enc, Nat.reduceAdd]
  clear hb1 hb2
  have hpl := pms_len ps
  (repeat (any_goals (first | refine stw ?_ | ((first | refine go2 fun xe hxe => ?_ | with_reducible refine cnd_d (fun hq => ?_) fun hq => ?_) <;> conv => whnf) | ((with_reducible refine cnd_i (fun hq => ?_) fun hq => ?_) <;> ((try simp only [hqs] at hq) <;> (first | omega | conv => whnf))))))
  refine at_loop hK [] [0, 10, 11, 12] (fun i : Nat => ⟨[(0, .ptr 4 0), (10, .ref 6), (11, .int .i64 ps.length), (12, .int .i64 (i : Int))], rB c l b tabs ps, 7⟩) (fun i => i ≤ ps.length ∧ ∀ p ∈ ps.take i, kpI b tabs p.v (p.v.author :: p.members) = true) (fun i => ps.length - i) 0 (by simp) (by simp only [hpl]; rfl) ?_
  rintro i ⟨hi, hall⟩
  by_cases hlt : i < ps.length
  · have hxe : ps[i]? = some ps[i] := List.getElem?_eq_getElem hlt
    have hsn : ps.take (i + 1) = ps.take i ++ [ps[i]] := List.take_succ_eq_append_getElem hlt
    have hpm : ps[i] ∈ ps := List.getElem_mem hlt
    have hno : kpI b tabs ps[i].v (ps[i].v.author :: ps[i].members) = false → kpIs b tabs ps = false := fun h => by
      rw [Bool.eq_false_iff]
      intro h2
      rw [List.all_eq_true.1 h2 _ hpm] at h
      cases h
    obtain ⟨p1, p2, p3, p4, p5⟩ := hp _ hpm
    have hx1 := pms_at hxe
    have hx2 : (ps.map (·.members))[i]? = some ps[i].members := by rw [List.getElem?_map, hxe]; rfl
    have hfl : (ps.map (·.members)).length = ps.length := List.length_map ..
    generalize ps[i] = p at *
    (repeat (any_goals (first | refine stw ?_ | ((first | refine go2 fun xe hxe => ?_ | with_reducible refine cnd_d (fun hq => ?_) fun hq => ?_) <;> conv => whnf) | ((with_reducible refine cnd_i (fun hq => ?_) fun hq => ?_) <;> ((try simp only [hqs] at hq) <;> (first | omega | conv => whnf))))))
    refine at_loop hK [] [0, 4, 10, 11, 12, 22, 23, 24] (fun j : Nat => ⟨[(0, .ptr 4 0), (4, .ptr 7 0), (10, .ref 6), (11, .int .i64 ps.length), (12, .int .i64 (i : Int)), (22, .ref 8), (23, .int .i64 ((p.v.author :: p.members).length : Nat)), (24, .int .i64 (j : Int))], rB c l b tabs ps ++ [(7, VB.var 38 [.int .i64 p.v.round, .int .i64 p.v.author, .lst (.int .i64) p.v.parents, .int .i64 p.v.digest, .hro 1 (some i)]), (8, VB.row 3 (.int .i64) (p.v.author :: p.members))], 9⟩) (fun j => j ≤ (p.v.author :: p.members).length ∧ ∀ m ∈ (p.v.author :: p.members).take j, (m == b || vcov (tabs.getD m.toNat []) p.v) = true) (fun j => (p.v.author :: p.members).length - j) 0 (by simp) (by (conv => whnf); rfl) ?_
    rintro j ⟨hj, hjall⟩
    have hnl : (p.v.author :: p.members).length ≤ 1000001 := by simp only [List.length_cons]; omega
    have hkk : (∀ m ∈ p.v.author :: p.members, (m == b || vcov (tabs.getD m.toNat []) p.v) = true) → kpI b tabs p.v (p.v.author :: p.members) = true := fun h => List.all_eq_true.2 h
    have hkn : ∀ m ∈ p.v.author :: p.members, (m == b || vcov (tabs.getD m.toNat []) p.v) = false → kpI b tabs p.v (p.v.author :: p.members) = false := fun m hm h => by
      rw [Bool.eq_false_iff]
      intro h2
      rw [List.all_eq_true.1 h2 _ hm] at h
      cases h
    generalize hms : p.v.author :: p.members = ms at *
    by_cases hjl : j < ms.length
    · have hye : ms[j]? = some ms[j] := List.getElem?_eq_getElem hjl
      have hjs : ms.take (j + 1) = ms.take j ++ [ms[j]] := List.take_succ_eq_append_getElem hjl
      have hjm : ms[j] ∈ ms := List.getElem_mem hjl
      have hxr := p1 _ hjm
      have hkn := hkn _ hjm
      generalize ms[j] = m at *
      have hxt : tabs[m.toNat]? = some (tabs.getD m.toNat []) := by
        rw [List.getD_eq_getElem?_getD, List.getElem?_eq_getElem (show m.toNat < tabs.length by omega)]; rfl
      have hxv : ((List.range tabs.length).map some)[m.toNat]? = some (some m.toNat) := by
        rw [List.getElem?_map, List.getElem?_range (show m.toNat < tabs.length by omega)]; rfl
      have hvl : ((List.range tabs.length).map some).length = tabs.length := by simp
      have hC := cov_h tabs m.toNat _ p.v hxt (ht _ (List.mem_of_getElem? hxt)) p2 p3
      by_cases hmb : m = b
      · subst hmb
        (repeat (any_goals (first | refine stw ?_ | ((first | refine go2 fun xe hxe => ?_ | with_reducible refine cnd_d (fun hq => ?_) fun hq => ?_) <;> conv => whnf) | ((with_reducible refine cnd_i (fun hq => ?_) fun hq => ?_) <;> ((try simp only [hqs] at hq) <;> (first | omega | conv => whnf))))))
        · exact absurd trivial hq
        · refine ⟨j + 1, ⟨by omega, by rw [hjs]; exact tk_snoc hjall (by simp)⟩, by omega, rfl⟩
      · cases h1 : vcov (tabs.getD m.toNat []) p.v
        · rw [h1] at hC
          (repeat (any_goals (first | refine stw ?_ | ((first | refine go2 fun xe hxe => ?_ | with_reducible refine cnd_d (fun hq => ?_) fun hq => ?_) <;> conv => whnf) | ((with_reducible refine cnd_i (fun hq => ?_) fun hq => ?_) <;> ((try simp only [hqs] at hq) <;> (first | omega | conv => whnf))) | refine co (hC) ?_)))
          exact ⟨by rw [hno (hkn (by rw [h1, Bool.or_false]; simpa using hmb))], rfl⟩
        · rw [h1] at hC
          (repeat (any_goals (first | refine stw ?_ | ((first | refine go2 fun xe hxe => ?_ | with_reducible refine cnd_d (fun hq => ?_) fun hq => ?_) <;> conv => whnf) | ((with_reducible refine cnd_i (fun hq => ?_) fun hq => ?_) <;> ((try simp only [hqs] at hq) <;> (first | omega | conv => whnf))) | refine co (hC) ?_)))
          exact ⟨j + 1, ⟨by omega, by rw [hjs]; exact tk_snoc hjall (by rw [h1, Bool.or_true])⟩, by omega, rfl⟩
    · (repeat (any_goals (first | refine stw ?_ | ((first | refine go2 fun xe hxe => ?_ | with_reducible refine cnd_d (fun hq => ?_) fun hq => ?_) <;> conv => whnf) | ((with_reducible refine cnd_i (fun hq => ?_) fun hq => ?_) <;> ((try simp only [hqs] at hq) <;> (first | omega | conv => whnf))))))
      rw [List.take_of_length_le (by omega)] at hjall
      exact ⟨i + 1, ⟨by omega, by rw [hsn]; exact tk_snoc hall (by rw [hms]; exact hkk hjall)⟩, by omega, rfl⟩
  · (repeat (any_goals (first | refine stw ?_ | ((first | refine go2 fun xe hxe => ?_ | with_reducible refine cnd_d (fun hq => ?_) fun hq => ?_) <;> conv => whnf) | ((with_reducible refine cnd_i (fun hq => ?_) fun hq => ?_) <;> ((try simp only [hqs] at hq) <;> (first | omega | conv => whnf))))))
    rw [List.take_of_length_le (by omega)] at hall
    have : kpIs b tabs ps = true := List.all_eq_true.2 hall
    rw [this]
    exact ⟨rfl, rfl⟩
end Go.Proofs.YticiffgklmjfnaaGreat.Am
namespace Go.Proofs.YticiffgklmjfnaaGreat.Am
set_option linter.unusedSimpArgs false
set_option linter.unusedVariables false
open Go Go.Shelf Go.RowKit
attribute [local irreducible] Mk Need Ari Get Idx Cnd CallM CallA Opt Unch At ConV
set_option maxRecDepth 10000
theorem con_below {P : Program} {f : FuncId} {ds : List D} {r : D} (hf : ∃ fn, P.funcs[f]? = some fn ∧ fn.body.isNone = false ∧ (fn.name == "runtime.NumGoroutine") = false)
    (h : ∀ (w : World) (ok : Nat → Prop) (ρ : Id → Pl) (vs : Array Value), ds.length = vs.size → (∀ i, i < ds.length → C ρ (fun _ => False) ok w (ds.getD i .undef) (vs.getD i undef)) →
      Calls P f vs w fun e w' => ∃ u, e = .returned u ∧ Below w.heap.size w w' ∧ ∀ ok', Rep ok' w' r u) : Con P f ds [] r [] := by
  refine ⟨hf, fun w A ρ vs hs hl hc => ?_⟩
  have hno : ∀ b, ¬ Live [] b := fun b h => by cases h
  have hc' : ∀ i, i < ds.length → C ρ (fun _ => False) (okOf A ρ [] w) w (ds.getD i .undef) (vs.getD i undef) := fun i hi => (hc i hi).mono (fun b hb => absurd hb (hno b)) (fun b hb => ⟨hb, rfl⟩)
  refine Calls.mono (h w (okOf A ρ [] w) ρ vs hl hc') ?_
  rintro e w' ⟨u, rfl, hb, hr⟩
  refine ⟨u, ρ, rfl, fun b hb => absurd hb (hno b), ⟨hs.base, hs.inS, ⟨hb.os, hb.tape, hb.output, hb.size, fun i hi _ => hb.block i hi⟩, rfl, rfl, ?_, ?_, ?_, ?_⟩, .pure (hr _)⟩
  · intro k d h; cases h
  · intro k d h; cases h
  · intro k d h; cases h
  · intro b b' x x' h; cases h
theorem fits_ap {nb : Nat} {α β : Type} {xs : List α} {ys : List β} (h1 : xs.length ≤ 1000000) (h2 : ys.length ≤ 1000000) (hb : nb ≤ 100) : fits nb (xs.length + ys.length) := by
  have : (xs.length + ys.length) * nb ≤ 2000000 * 100 := Nat.mul_le_mul (by omega) hb
  unfold fits
  omega
def lays15_ren : Go.Shelf.Ren := ⟨fun | 15 => 80 | n => n, fun | 22 => 23 | 3 => 3 | 4 => 4 | n => n, fun | n => n⟩
theorem lays15 : Go.Proofs.Lays2.n15 Tryz.prog lays15_ren where
  mixed := by kernel_rfl
  f15 := Tryz.func80.trans (congrArg some (by kernel_rfl))
  t3 := Tryz.underlying3
  a3 := Tryz.isAgg3
  z3 := Tryz.sizeOf3
  v3 := Tryz.zeroValue3
  t4 := Tryz.underlying4
  a4 := Tryz.isAgg4
  z4 := Tryz.sizeOf4
  v4 := Tryz.zeroValue4
  t22 := Tryz.underlying23
  a22 := Tryz.isAgg23
  z22 := Tryz.sizeOf23
  v22 := Tryz.zeroValue23
  i3 := by kernel_rfl
theorem icln0_c (t : Ty) : ConV Tryz.prog 80 [.lst t []] [] (.lst t []) [] := by
  unfold ConV
  refine con_below ⟨_, Tryz.func80, rfl, rfl⟩ fun w ok ρ vs hl hc => ?_
  obtain ⟨v, rfl⟩ : ∃ v, vs = #[v] := by
    have : vs.size = 1 := hl.symm
    exact ⟨vs[0], Array.ext (by simp [this]) fun i h1 h2 => by
      have : i = 0 := by simpa using h2
      subst this; rfl⟩
  have h0 : C ρ (fun _ => False) ok w (.lst []) v := hc 0 (Nat.one_pos)
  have h1 := h0.lst_inv
  have fin : ∀ (w' : World) (a : Option Addr) (cap : Nat), (a = none → cap = 0) → cap ≤ maxLen → ∀ ok', Rep ok' w' ((V.lst t []).toD) (.slice a 0 cap) := fun w' a cap h1 h2 ok' => .none a cap h1 h2
  obtain ⟨a, cap, rfl, ha⟩ : ∃ a cap, v = .slice a 0 cap ∧ (a = none → cap = 0) := by
    cases h1 with
    | none a cap ha hcap => exact ⟨a, cap, rfl, ha⟩
    | lst l n b off cap f hn => exact ⟨_, cap, by rw [← hn]; rfl, fun h => by cases h⟩
  cases a with
  | none =>
    refine Calls.mono (Any.slices_Clone_int_nil lays15 0 cap w) ?_
    rintro e w' ⟨rfl, rfl⟩
    exact ⟨_, rfl, Below.refl _ _, fin _ _ _ (fun _ => rfl) (Nat.zero_le _)⟩
  | some a =>
    refine Calls.mono (Any.slices_Clone_int_zero lays15 a cap w) ?_
    rintro e w' ⟨v', rfl, ho, _, hb⟩
    refine ⟨v', rfl, hb, ?_⟩
    rcases ho.2 with ⟨rfl, _⟩ | ⟨g, cap', cur, rfl, _, _, _, h3, _⟩
    · exact fin _ _ _ (fun _ => rfl) (Nat.zero_le _)
    · exact fin _ _ _ (fun h => by cases h) h3
theorem icln_c (l : List Int) (hb : l.length ≤ 1000000) : ConV Tryz.prog 80 [.lst (.int .i64) l] [] (.lst (.int .i64) l) [] := by
  cases l with
  | nil => exact icln0_c _
  | cons x l =>
    refine con_eq Θ_ok Tryz.func80 rfl rfl true 0 4 rfl rfl rfl rfl fun K hK hb1 hb2 => ?_; simp only [argsV, enc, Nat.reduceAdd]
    (repeat (any_goals (first | refine st ?_ | ((first | refine go2 fun xe hxe => ?_ | with_reducible refine cnd_d (fun hq => ?_) fun hq => ?_) <;> conv => whnf) | ((with_reducible refine cnd_i (fun hq => ?_) fun hq => ?_) <;> ((try simp only [hqs] at hq) <;> (first | omega | conv => whnf))))))
    refine need_i (fits_ap (Nat.zero_le _) hb (by decide)) ?_
    (repeat (any_goals (first | refine st ?_ | ((first | refine go2 fun xe hxe => ?_ | with_reducible refine cnd_d (fun hq => ?_) fun hq => ?_) <;> conv => whnf) | ((with_reducible refine cnd_i (fun hq => ?_) fun hq => ?_) <;> ((try simp only [hqs] at hq) <;> (first | omega | conv => whnf))))))
    refine at_ret ?_
    (conv => whnf)
    exact ⟨rfl, rfl⟩
theorem iclc_c (l : List Int) (hl : l ≠ []) (hb : l.length ≤ 1000000) : ConV Tryz.prog 91 [.lst (.int .i64) l] [] (.lst (.int .i64) l) [] := by
  cases l with
  | nil => exact absurd rfl hl
  | cons x l =>
    refine con_eq Θ_ok Tryz.func91 rfl rfl true 0 4 rfl rfl rfl rfl fun K hK hb1 hb2 => ?_; simp only [argsV, enc, Nat.reduceAdd]
    (repeat (any_goals (first | refine st ?_ | ((first | refine go2 fun xe hxe => ?_ | with_reducible refine cnd_d (fun hq => ?_) fun hq => ?_) <;> conv => whnf) | ((with_reducible refine cnd_i (fun hq => ?_) fun hq => ?_) <;> ((try simp only [hqs] at hq) <;> (first | omega | conv => whnf))))))
    refine need_i (fits_ap (Nat.zero_le _) hb (by decide)) ?_
    (repeat (any_goals (first | refine st ?_ | ((first | refine go2 fun xe hxe => ?_ | with_reducible refine cnd_d (fun hq => ?_) fun hq => ?_) <;> conv => whnf) | ((with_reducible refine cnd_i (fun hq => ?_) fun hq => ?_) <;> ((try simp only [hqs] at hq) <;> (first | omega | conv => whnf))))))
    refine at_ret ?_
    (conv => whnf)
    exact ⟨rfl, rfl⟩
end Go.Proofs.YticiffgklmjfnaaGreat.Am
namespace Go.Proofs.YticiffgklmjfnaaGreat.Am
set_option linter.unusedSimpArgs false
set_option linter.unusedVariables false
open Go
attribute [local irreducible] Mk Need Ari Get Idx Cnd CallM CallA Opt Unch At ConV
set_option maxRecDepth 10000
def opR (w : Wrl) : V := if preS w then .tup [.ptr 4 0, .bool (kpIs w.bad (w.views.map tabV) w.props)] else .tup [.nilp, .bool false]
def opO (w : Wrl) : VH := if preS w then rB w.com w.lead w.bad (w.views.map tabV) w.props else []
def opS (w : Wrl) : Nat → VSt
  | 0 => ⟨[(1, .ptr 4 0), (4, .ptr 5 0), (42, .lst (.lst .vtx) w.views), (43, .int .i64 w.views.length), (44, .int .i64 0)], [(0, .fvari 132 217 (.ob .vtx) []), (4, .var 27 (wrlA w).cells), (5, .var 91 [.int .i32 0, .int .u32 0, .lst (.int .i64) w.com, .lst (.int .i64) w.lead, .int .i64 w.bad, .nils, .nils])], 6⟩
  | i + 1 => ⟨[(1, .ptr 4 0), (4, .ptr 5 0), (42, .lst (.lst .vtx) w.views), (43, .int .i64 w.views.length), (44, .int .i64 ((i + 1 : Nat) : Int))], [(0, .fvari 132 217 (.ob .vtx) ((w.views.take (i + 1)).map tabV)), (4, .var 27 (wrlA w).cells), (5, .var 91 [.int .i32 0, .int .u32 0, .lst (.int .i64) w.com, .lst (.int .i64) w.lead, .int .i64 w.bad, .ref 6, .nils]), (6, .row 101 (.hp 0) ((List.range (i + 1)).map some))], 7⟩
set_option maxHeartbeats 1000000 in
theorem iop_c (w : Wrl) (hl : ∀ g ∈ w.views, g.length ≤ 2000000) : ConV Tryz.prog 39 [wrlA w] [] (opR w) (opO w) := by
  have hno : preS w = false → V.tup [.nilp, .bool false] = opR w ∧ ([] : VH) = opO w := fun h => by simp [opR, opO, h]
  refine con_eq Θw_ok Tryz.func39 rfl rfl false 0 4 rfl rfl rfl rfl fun K hK hb1 hb2 => ?_; simp only [argsV, enc, Nat.reduceAdd]
  clear hb1 hb2
  have hL := ileaV_c w.com w.lead
  cases h1 : comV w.com && leaS w.com w.lead
  · rw [h1] at hL
    (repeat (any_goals (first | refine stw ?_ | ((first | refine go2 fun xe hxe => ?_ | with_reducible refine cnd_d (fun hq => ?_) fun hq => ?_) <;> conv => whnf) | ((with_reducible refine cnd_i (fun hq => ?_) fun hq => ?_) <;> ((try simp only [hqs] at hq) <;> (first | omega | conv => whnf))) | refine cr (hL) ?_)))
    exact hno (by
      rw [Bool.and_eq_false_iff] at h1
      rcases h1 with h1 | h1 <;> simp [preS, newS, h1])
  rw [h1] at hL
  have hc : comV w.com = true := (Bool.and_eq_true_iff.1 h1).1
  have hle : leaS w.com w.lead = true := (Bool.and_eq_true_iff.1 h1).2
  have hB := isBad_c w.com w.bad hc
  cases h2 : badS w.com w.bad
  · rw [h2] at hB
    (repeat (any_goals (first | refine stw ?_ | ((first | refine go2 fun xe hxe => ?_ | with_reducible refine cnd_d (fun hq => ?_) fun hq => ?_) <;> conv => whnf) | ((with_reducible refine cnd_i (fun hq => ?_) fun hq => ?_) <;> ((try simp only [hqs] at hq) <;> (first | omega | conv => whnf))) | refine cr (hL) ?_ | refine cr (hB) ?_)))
    exact hno (by simp [preS, newS, h2])
  rw [h2] at hB
  have hP := iproV_c w hc
  cases h3 : proS w.com w.bad w.props
  · rw [h3] at hP
    (repeat (any_goals (first | refine stw ?_ | ((first | refine go2 fun xe hxe => ?_ | with_reducible refine cnd_d (fun hq => ?_) fun hq => ?_) <;> conv => whnf) | ((with_reducible refine cnd_i (fun hq => ?_) fun hq => ?_) <;> ((try simp only [hqs] at hq) <;> (first | omega | conv => whnf))) | refine cr (hL) ?_ | refine cr (hB) ?_ | refine cr (hP) ?_)))
    exact hno (by simp [preS, newS, h3])
  rw [h3] at hP
  have hV := iviwV_c w hc h3 hl
  cases h4 : (w.views.length == w.com.length) && viwsS w.com w.bad w.props w.views
  · rw [h4] at hV
    (repeat (any_goals (first | refine stw ?_ | ((first | refine go2 fun xe hxe => ?_ | with_reducible refine cnd_d (fun hq => ?_) fun hq => ?_) <;> conv => whnf) | ((with_reducible refine cnd_i (fun hq => ?_) fun hq => ?_) <;> ((try simp only [hqs] at hq) <;> (first | omega | conv => whnf))) | refine cr (hL) ?_ | refine cr (hB) ?_ | refine cr (hP) ?_ | refine cr (hV) ?_)))
    exact hno (by simp only [preS, h4]; simp)
  rw [h4] at hV
  have hpre : preS w = true := by simp [preS, newS, hc, hle, h2, h3]; simpa using h4
  have hR : opR w = .tup [.ptr 4 0, .bool (kpIs w.bad (w.views.map tabV) w.props)] := by simp [opR, hpre]
  have hO : opO w = rB w.com w.lead w.bad (w.views.map tabV) w.props := by simp [opO, hpre]
  rw [hR, hO]
  have h7 := (comV_iff.1 hc).2
  have hll := (leaS_iff.1 hle).2
  have hvl : w.views.length = w.com.length := (pre_ok hpre).2.2.2.2.1
  have hne : w.com ≠ [] := fun h => by rw [h] at h7; simp at h7
  have hCm := icln_c w.com (by omega)
  have hCl := icln_c w.lead (by omega)
  (repeat (any_goals (first | refine stw ?_ | ((first | refine go2 fun xe hxe => ?_ | with_reducible refine cnd_d (fun hq => ?_) fun hq => ?_) <;> conv => whnf) | ((with_reducible refine cnd_i (fun hq => ?_) fun hq => ?_) <;> ((try simp only [hqs] at hq) <;> (first | omega | conv => whnf))) | refine cr (hL) ?_ | refine cr (hB) ?_ | refine cr (hP) ?_ | refine cr (hV) ?_ | refine cr (hCm) ?_ | refine cr (hCl) ?_)))
  refine at_fam 0 (.fvari 132 217 (.ob .vtx) []) rfl ?_
  refine at_loop hK [] [1, 4, 42, 43, 44] (opS w) (fun i => i ≤ w.views.length) (fun i => w.views.length - i) 0 (by simp) (by (conv => whnf); rfl) ?_
  intro i hi
  have hps := pre_pOK hpre
  have hpl := pro_len h3
  have ht7 : ∀ t ∈ w.views.map tabV, t.length = 217 := fun t h => by
    obtain ⟨g, _, rfl⟩ := List.mem_map.1 h
    exact tabV_len g
  have hml : (w.views.map tabV).length = w.views.length := List.length_map ..
  by_cases hlt : i < w.views.length
  · have hgm : w.views[i] ∈ w.views := List.getElem_mem hlt
    have hxe : w.views[i]? = some w.views[i] := List.getElem?_eq_getElem hlt
    have hsn : w.views.take (i + 1) = w.views.take i ++ [w.views[i]] := List.take_succ_eq_append_getElem hlt
    have hg := pre_tab hpre _ hgm
    generalize w.views[i] = g at *
    cases i with
    | zero =>
      have hx0 : w.views[(0 : Int).toNat]? = some g := hxe
      have hst : opS w (0 + 1) = ⟨[(1, .ptr 4 0), (4, .ptr 5 0), (42, .lst (.lst .vtx) w.views), (43, .int .i64 w.views.length), (44, .int .i64 ((0 + 1 : Nat) : Int))], [(0, .fvari 132 217 (.ob .vtx) [tabV g]), (4, .var 27 (wrlA w).cells), (5, .var 91 [.int .i32 0, .int .u32 0, .lst (.int .i64) w.com, .lst (.int .i64) w.lead, .int .i64 w.bad, .ref 6, .nils]), (6, .row 101 (.hp 0) [some 0])], 7⟩ := by
        rw [opS, hsn]
        rfl
      have hs0 : opS w 0 = ⟨[(1, .ptr 4 0), (4, .ptr 5 0), (42, .lst (.lst .vtx) w.views), (43, .int .i64 w.views.length), (44, .int .i64 0)], [(0, .fvari 132 217 (.ob .vtx) []), (4, .var 27 (wrlA w).cells), (5, .var 91 [.int .i32 0, .int .u32 0, .lst (.int .i64) w.com, .lst (.int .i64) w.lead, .int .i64 w.bad, .nils, .nils])], 6⟩ := rfl
      rw [hs0]
      (repeat (any_goals (first | refine stw ?_ | ((first | refine go2 fun xe hxe => ?_ | with_reducible refine cnd_d (fun hq => ?_) fun hq => ?_) <;> conv => whnf) | ((with_reducible refine cnd_i (fun hq => ?_) fun hq => ?_) <;> ((try simp only [hqs] at hq) <;> (first | omega | conv => whnf))) | refine cr (vof_c g hg) ?_)))
      refine ⟨0 + 1, by omega, by omega, ?_⟩
      rw [hst]
      rfl
    | succ i =>
      have hfl : ((w.views.take (i + 1)).map tabV).length = i + 1 := by rw [List.length_map, List.length_take]; omega
      have hrl : ((List.range (i + 1)).map some).length = i + 1 := by simp
      have hst : opS w (i + 1 + 1) = ⟨[(1, .ptr 4 0), (4, .ptr 5 0), (42, .lst (.lst .vtx) w.views), (43, .int .i64 w.views.length), (44, .int .i64 ((i + 1 + 1 : Nat) : Int))], [(0, .fvari 132 217 (.ob .vtx) ((w.views.take (i + 1)).map tabV ++ [tabV g])), (4, .var 27 (wrlA w).cells), (5, .var 91 [.int .i32 0, .int .u32 0, .lst (.int .i64) w.com, .lst (.int .i64) w.lead, .int .i64 w.bad, .ref 6, .nils]), (6, .row 101 (.hp 0) ((List.range (i + 1)).map some ++ [some (i + 1)]))], 7⟩ := by
        rw [opS, hsn, List.map_append, List.range_succ, List.map_append]
        rfl
      have hs0 : opS w (i + 1) = ⟨[(1, .ptr 4 0), (4, .ptr 5 0), (42, .lst (.lst .vtx) w.views), (43, .int .i64 w.views.length), (44, .int .i64 ((i + 1 : Nat) : Int))], [(0, .fvari 132 217 (.ob .vtx) ((w.views.take (i + 1)).map tabV)), (4, .var 27 (wrlA w).cells), (5, .var 91 [.int .i32 0, .int .u32 0, .lst (.int .i64) w.com, .lst (.int .i64) w.lead, .int .i64 w.bad, .ref 6, .nils]), (6, .row 101 (.hp 0) ((List.range (i + 1)).map some))], 7⟩ := rfl
      rw [hs0]
      clear hs0
      generalize (w.views.take (i + 1)).map tabV = ts at *
      generalize (List.range (i + 1)).map some = rs at *
      (repeat (any_goals (first | refine stw ?_ | ((first | refine go2 fun xe hxe => ?_ | with_reducible refine cnd_d (fun hq => ?_) fun hq => ?_) <;> conv => whnf) | ((with_reducible refine cnd_i (fun hq => ?_) fun hq => ?_) <;> ((try simp only [hqs] at hq) <;> (first | omega | conv => whnf))) | refine cr (vof_c g hg) ?_)))
      refine ⟨i + 1 + 1, by omega, by omega, ?_⟩
      rw [hst, hfl]
      rfl
  · have hi' : i = w.views.length := by omega
    have hK := ikp_c w.com w.lead w.bad (w.views.map tabV) w.props ht7 (by omega) (by omega) (by rw [hml]; exact hps)
    have hCp := icps_c w.props (fun p hp => ⟨by have := (hps p hp).2.2.2.2; omega, by have := (hps p hp).2.2.2.1; omega⟩) (by omega)
    cases i with
    | zero => omega
    | succ i =>
      have hs0 : opS w (i + 1) = ⟨[(1, .ptr 4 0), (4, .ptr 5 0), (42, .lst (.lst .vtx) w.views), (43, .int .i64 w.views.length), (44, .int .i64 ((i + 1 : Nat) : Int))], [(0, .fvari 132 217 (.ob .vtx) (w.views.map tabV)), (4, .var 27 (wrlA w).cells), (5, .var 91 [.int .i32 0, .int .u32 0, .lst (.int .i64) w.com, .lst (.int .i64) w.lead, .int .i64 w.bad, .ref 6, .nils]), (6, .row 101 (.hp 0) ((List.range (w.views.map tabV).length).map some))], 7⟩ := by
        rw [opS, List.take_of_length_le (by omega), hml, ← hi']
      rw [hs0]
      clear hs0
      generalize hts : w.views.map tabV = ts at *
      (repeat (any_goals (first | refine stw ?_ | ((first | refine go2 fun xe hxe => ?_ | with_reducible refine cnd_d (fun hq => ?_) fun hq => ?_) <;> conv => whnf) | ((with_reducible refine cnd_i (fun hq => ?_) fun hq => ?_) <;> ((try simp only [hqs] at hq) <;> (first | omega | conv => whnf))) | refine cr (hCp) ?_ | refine co (hK) ?_)))
      exact ⟨rfl, rfl⟩
end Go.Proofs.YticiffgklmjfnaaGreat.Am
namespace Go.Proofs.YticiffgklmjfnaaGreat.Am
set_option linter.unusedSimpArgs false
set_option linter.unusedVariables false
open Go
attribute [local irreducible] Mk Need Ari Get Idx Cnd CallM CallA Opt Unch At ConV
set_option maxRecDepth 10000
theorem take_snoc_eq {α : Type} {a b : List α} {i : Nat} {x : α} (h : a.take i = b.take i) (ha : a[i]? = some x) (hb : b[i]? = some x) : a.take (i + 1) = b.take (i + 1) := by
  rw [List.take_add_one, List.take_add_one, h, ha, hb]
theorem sameInts_c (a b : List Int) : ConV Tryz.prog 43 [.lst (.int .i64) a, .lst (.int .i64) b] [] (.bool (decide (a = b))) [] := by
  refine con_eq Θ_ok Tryz.func43 rfl rfl false 0 4 rfl rfl rfl rfl fun K hK hb1 hb2 => ?_; simp only [argsV, enc, Nat.reduceAdd]
  simp [toDL, V.toD, bnd, encD, D.cells] at hb1
  by_cases hl : a.length = b.length
  · (repeat (any_goals (first | refine st ?_ | ((first | refine go2 fun xe hxe => ?_ | with_reducible refine cnd_d (fun hq => ?_) fun hq => ?_) <;> conv => whnf) | ((with_reducible refine cnd_i (fun hq => ?_) fun hq => ?_) <;> ((try simp only [hqs] at hq) <;> (first | omega | conv => whnf))))))
    refine at_loop hK [] [0, 1, 4, 5] (fun i : Nat => ⟨[(0, .lst (.int .i64) a), (1, .lst (.int .i64) b), (4, .bool false), (5, .int .i64 i)], [], 4⟩) (fun i => i ≤ a.length ∧ a.take i = b.take i) (fun i => a.length - i) 0 ⟨by simp, by simp⟩ rfl ?_
    rintro i ⟨hi, hall⟩
    by_cases hlt : i < a.length
    · obtain ⟨x, hx⟩ : ∃ x, a[i]? = some x := ⟨_, List.getElem?_eq_getElem hlt⟩
      obtain ⟨y, hy⟩ : ∃ y, b[i]? = some y := ⟨_, List.getElem?_eq_getElem (by omega)⟩
      (repeat (any_goals (first | refine st ?_ | ((first | refine go2 fun xe hxe => ?_ | with_reducible refine cnd_d (fun hq => ?_) fun hq => ?_) <;> conv => whnf) | ((with_reducible refine cnd_i (fun hq => ?_) fun hq => ?_) <;> ((try simp only [hqs] at hq) <;> (first | omega | conv => whnf))))))
      · have hne : ¬ x = y := hq
        exact ⟨by rw [decide_eq_false]; rintro rfl; rw [hx] at hy; exact hne (Option.some.inj hy), rfl⟩
      · subst hq
        exact ⟨i + 1, ⟨by omega, take_snoc_eq hall hx hy⟩, by omega, rfl⟩
    · (repeat (any_goals (first | refine st ?_ | ((first | refine go2 fun xe hxe => ?_ | with_reducible refine cnd_d (fun hq => ?_) fun hq => ?_) <;> conv => whnf) | ((with_reducible refine cnd_i (fun hq => ?_) fun hq => ?_) <;> ((try simp only [hqs] at hq) <;> (first | omega | conv => whnf))))))
      have hab : a = b := by rwa [List.take_of_length_le (by omega), List.take_of_length_le (by omega)] at hall
      exact ⟨by rw [decide_eq_true hab], rfl⟩
  · (repeat (any_goals (first | refine st ?_ | ((first | refine go2 fun xe hxe => ?_ | with_reducible refine cnd_d (fun hq => ?_) fun hq => ?_) <;> conv => whnf) | ((with_reducible refine cnd_i (fun hq => ?_) fun hq => ?_) <;> ((try simp only [hqs] at hq) <;> (first | omega | conv => whnf))))))
    exact ⟨by rw [decide_eq_false]; rintro rfl; exact hl rfl, rfl⟩
theorem set_over {α : Type} (c : List α) (a : List α) (x : α) {i : Nat} (hc : c.length = i) (hi : i < a.length) : (c ++ a.drop i).set i x = (c ++ [x]) ++ a.drop (i + 1) := by
  rw [List.set_append_right _ _ (by omega), hc, Nat.sub_self, List.drop_eq_getElem_cons hi]
  simp only [List.set_cons_zero, List.append_assoc, List.singleton_append]
theorem over_get {α : Type} (c : List α) (a : List α) {i : Nat} (hc : c.length = i) (hi : i < a.length) : i < (c ++ a.drop i).length := by simp; omega
end Go.Proofs.YticiffgklmjfnaaGreat.Am
namespace Go.Proofs.YticiffgklmjfnaaGreat.Am
set_option linter.unusedSimpArgs false
set_option linter.unusedVariables false
open Go
attribute [local irreducible] Mk Need Ari Get Idx Cnd CallM CallA Opt Unch At ConV
set_option maxRecDepth 10000
theorem vts_take {tab : List (Option Vtx)} {n : Nat} {o : Option Vtx} (h : tab[n]? = some o) : vtsV (tab.take (n + 1)) = vtsV (tab.take n) ++ o.toList := by
  obtain ⟨hl, rfl⟩ := List.getElem?_eq_some_iff.1 h
  rw [List.take_succ_eq_append_getElem hl]
  simp only [vtsV, List.filterMap_append]
  cases tab[n] <;> rfl
theorem vts_len (tab : List (Option Vtx)) : (vtsV tab).length ≤ tab.length := List.length_filterMap_le ..
set_option maxHeartbeats 1000000 in
theorem ivts_c (tabs : List (List (Option Vtx))) (k : Nat) (tab : List (Option Vtx)) (hk : tabs[k]? = some tab) (ht : tab.length = 217) (hv : ∀ v, some v ∈ tab → v.parents.length ≤ 1000000) : ConV Tryz.prog 92 [.fptr 0 k 0] [(0, .fvari 132 217 (.ob .vtx) tabs)] (.lst .vtx (vtsV tab)) [(0, .fvari 132 217 (.ob .vtx) tabs)] := by
  refine con_eq Θ_ok Tryz.func92 rfl rfl true 0 4 rfl rfl rfl rfl fun K hK hb1 hb2 => ?_; simp only [argsV, enc, Nat.reduceAdd]
  clear hb1 hb2
  have hat : ∀ n, n < 217 → tab[n]? = some (tab.getD n none) := fun n hn => by rw [List.getD_eq_getElem?_getD, List.getElem?_eq_getElem (by omega)]; rfl
  (repeat (any_goals (first | refine st ?_ | ((first | refine go2 fun xe hxe => ?_ | with_reducible refine cnd_d (fun hq => ?_) fun hq => ?_) <;> conv => whnf) | ((with_reducible refine cnd_i (fun hq => ?_) fun hq => ?_) <;> ((try simp only [hqs] at hq) <;> (first | omega | conv => whnf))))))
  refine at_loop hK [] [3, 9, 11] (fun r : Nat => ⟨[(3, .ref 4), (9, .fptr 0 k 0), (11, .int .i64 (r : Int))], [(0, .fvari 132 217 (.ob .vtx) tabs), (4, .row 36 .vtx (vtsV (tab.take (r * 7))))], 5⟩) (fun r => r ≤ 31) (fun r => 31 - r) 0 (by omega) rfl ?_
  intro r hr
  by_cases hlt : r < 31
  · obtain ⟨e, he⟩ : ∃ e : Nat → Option Vtx, ∀ j, e j = tab.getD (r * 7 + j) none := ⟨_, fun _ => rfl⟩
    have hg : ∀ j, j < 7 → tab[r * 7 + j]? = some (e j) := fun j hj => by rw [he]; exact hat _ (by omega)
    (repeat (any_goals (first | refine st ?_ | ((first | refine go2 fun xe hxe => ?_ | with_reducible refine cnd_d (fun hq => ?_) fun hq => ?_) <;> conv => whnf) | ((with_reducible refine cnd_i (fun hq => ?_) fun hq => ?_) <;> ((try simp only [hqs] at hq) <;> (first | omega | conv => whnf))))))
    rename_i e0 h0 e1 h1 e2 h2 e3 h3 e4 h4 e5 h5
    obtain rfl : e0 = e 0 := Option.some.inj (h0.symm.trans (hg 0 (by omega)))
    obtain rfl : e1 = e 1 := Option.some.inj (h1.symm.trans (hg 1 (by omega)))
    obtain rfl : e2 = e 2 := Option.some.inj (h2.symm.trans (hg 2 (by omega)))
    obtain rfl : e3 = e 3 := Option.some.inj (h3.symm.trans (hg 3 (by omega)))
    obtain rfl : e4 = e 4 := Option.some.inj (h4.symm.trans (hg 4 (by omega)))
    obtain rfl : e5 = e 5 := Option.some.inj (h5.symm.trans (hg 5 (by omega)))
    obtain rfl : xe = e 6 := Option.some.inj (hxe.symm.trans (hg 6 (by omega)))
    clear h0 h1 h2 h3 h4 h5 hxe
    refine at_loop hK [] [3, 9, 11, 16, 17] (fun j : Nat => ⟨[(3, .ref 4), (9, .fptr 0 k 0), (11, .int .i64 (r : Int)), (16, .agg [.obo .vtx (e 0), .obo .vtx (e 1), .obo .vtx (e 2), .obo .vtx (e 3), .obo .vtx (e 4), .obo .vtx (e 5), .obo .vtx (e 6)]), (17, .int .i64 (j : Int))], [(0, .fvari 132 217 (.ob .vtx) tabs), (4, .row 36 .vtx (vtsV (tab.take (r * 7 + j))))], 5⟩) (fun j => j ≤ 7) (fun j => 7 - j) 0 (by omega) rfl ?_
    intro j hj
    by_cases hjl : j < 7
    · have hs := vts_take (hg j hjl)
      have hvj : ∀ v, e j = some v → v.parents.length ≤ 1000000 := fun v h => hv v (List.mem_of_getElem? (by rw [hg j hjl, h]))
      have hll := vts_len (tab.take (r * 7 + j))
      rw [List.length_take] at hll
      obtain ⟨j1, hj1⟩ : ∃ j1, j1 = j + 1 := ⟨_, rfl⟩
      have hji : ((j1 : Nat) : Int) = (j : Int) + 1 := by omega
      rw [Nat.add_assoc, ← hj1] at hs
      obtain ⟨o, ho⟩ : ∃ o, o = e j := ⟨_, rfl⟩
      rw [← ho] at hs hvj
      generalize vtsV (tab.take (r * 7 + j)) = l at *
      obtain rfl | rfl | rfl | rfl | rfl | rfl | rfl : j = 0 ∨ j = 1 ∨ j = 2 ∨ j = 3 ∨ j = 4 ∨ j = 5 ∨ j = 6 := by omega
      all_goals
        rw [← ho]
        cases o with
        | none =>
          (repeat (any_goals (first | refine st ?_ | ((first | refine go2 fun xe hxe => ?_ | with_reducible refine cnd_d (fun hq => ?_) fun hq => ?_) <;> conv => whnf) | ((with_reducible refine cnd_i (fun hq => ?_) fun hq => ?_) <;> ((try simp only [hqs] at hq) <;> (first | omega | conv => whnf))))))
          refine ⟨j1, by omega, by omega, ?_⟩
          rw [hs, hji, Option.toList_none, List.append_nil]
          try rfl
        | some v =>
          have hvv := hvj v rfl
          (repeat (any_goals (first | refine st ?_ | ((first | refine go2 fun xe hxe => ?_ | with_reducible refine cnd_d (fun hq => ?_) fun hq => ?_) <;> conv => whnf) | ((with_reducible refine cnd_i (fun hq => ?_) fun hq => ?_) <;> ((try simp only [hqs] at hq) <;> (first | omega | conv => whnf))) | refine cr (icl_c _ hvv) ?_)))
          refine ⟨j1, by omega, by omega, ?_⟩
          rw [hs, hji]
          rfl
    · obtain rfl : j = 7 := by omega
      (repeat (any_goals (first | refine st ?_ | ((first | refine go2 fun xe hxe => ?_ | with_reducible refine cnd_d (fun hq => ?_) fun hq => ?_) <;> conv => whnf) | ((with_reducible refine cnd_i (fun hq => ?_) fun hq => ?_) <;> ((try simp only [hqs] at hq) <;> (first | omega | conv => whnf))))))
      exact ⟨r + 1, by omega, by omega, by rw [show (r + 1) * 7 = r * 7 + 7 by omega]; rfl⟩
  · obtain rfl : r = 31 := by omega
    (repeat (any_goals (first | refine st ?_ | ((first | refine go2 fun xe hxe => ?_ | with_reducible refine cnd_d (fun hq => ?_) fun hq => ?_) <;> conv => whnf) | ((with_reducible refine cnd_i (fun hq => ?_) fun hq => ?_) <;> ((try simp only [hqs] at hq) <;> (first | omega | conv => whnf))))))
    rw [List.take_of_length_le (by omega)]
    exact ⟨rfl, rfl⟩
theorem ivts_h (tabs : List (List (Option Vtx))) (k : Nat) (tab : List (Option Vtx)) (hk : tabs[k]? = some tab) (ht : tab.length = 217) (hv : ∀ v, some v ∈ tab → v.parents.length ≤ 1000000) : ConV Tryz.prog 92 [.hpo 0 (some k)] [(0, .fvari 132 217 (.ob .vtx) tabs)] (.lst .vtx (vtsV tab)) [(0, .fvari 132 217 (.ob .vtx) tabs)] := by
  have h := ivts_c tabs k tab hk ht hv
  unfold ConV at h ⊢
  exact h
end Go.Proofs.YticiffgklmjfnaaGreat.Am
namespace Go.Proofs.YticiffgklmjfnaaGreat.Am
set_option linter.unusedSimpArgs false
set_option linter.unusedVariables false
open Go
attribute [local irreducible] Mk Need Ari Get Idx Cnd CallM CallA Opt Unch At ConV
set_option maxRecDepth 10000
theorem iwV_c (w : Wrl) (hl : ∀ g ∈ w.views, g.length ≤ 2000000) : ConV Tryz.prog 30 [wrlA w] [] (.bool (wrlS w)) [] := by
  have h := iop_c w hl
  have he := wrlS_eq w
  refine con_eq Θ_ok Tryz.func30 rfl rfl false 0 4 rfl rfl rfl rfl fun K hK hb1 hb2 => ?_; simp only [argsV, enc, Nat.reduceAdd]
  clear hb1 hb2
  cases hp : preS w
  · simp only [opR, opO, hp, Bool.false_eq_true, if_false] at h
    (repeat (any_goals (first | refine st ?_ | ((first | refine go2 fun xe hxe => ?_ | with_reducible refine cnd_d (fun hq => ?_) fun hq => ?_) <;> conv => whnf) | ((with_reducible refine cnd_i (fun hq => ?_) fun hq => ?_) <;> ((try simp only [hqs] at hq) <;> (first | omega | conv => whnf))) | refine cr (h) ?_)))
    exact ⟨by rw [he, hp, Bool.false_and], rfl⟩
  · simp only [opR, opO, hp, if_true] at h
    have hk := pre_kp hp
    rw [hk] at h
    (repeat (any_goals (first | refine st ?_ | ((first | refine go2 fun xe hxe => ?_ | with_reducible refine cnd_d (fun hq => ?_) fun hq => ?_) <;> conv => whnf) | ((with_reducible refine cnd_i (fun hq => ?_) fun hq => ?_) <;> ((try simp only [hqs] at hq) <;> (first | omega | conv => whnf))) | refine cr (h) ?_)))
    exact ⟨by rw [he, hp, Bool.true_and], rfl⟩
end Go.Proofs.YticiffgklmjfnaaGreat.Am
