/- The plain machine with types: a call, put together. -/
import Derived.Test.YtkclhekkcffpoaaU12
namespace Go.Proofs.Ytkclhekkcffpoaa.Am
set_option linter.unusedSimpArgs false
set_option linter.unusedVariables false
open Go Go.RowKit

variable {P : Program} {os fs : List Nat} {n : Nat} {h : VH}

def famLen : VB → Nat
  | .fvar _ _ xs => xs.length
  | .fvari _ _ _ xss => xss.length
  | .frow _ _ xss => xss.length
  | _ => 1
theorem famLen_ok (x : VB) : x.blks.length = famLen x := by cases x <;> simp [VB.blks, famLen]
def keysV : VH → List Nat
  | [] => []
  | (k, _) :: l => k :: keysV l
theorem keysV_ok : ∀ l : VH, l.map (·.1) = keysV l
  | [] => rfl
  | (k, x) :: l => by simp [keysV, keysV_ok l]
/-- what comes back: families have not shrunk, single blocks are single -/
def covK (h : VH) (fs : List Nat) : VH → Prop → Prop
  | [], K => K
  | (k, x) :: l, K => match Nat.blt k 4 with
    | true => Chk (!x.sgl) (match lookO h k with
      | none => covK h fs l K
      | some y => Chk (fs.contains k && !y.sgl) (Need (famLen y ≤ famLen x) (covK h fs l K)))
    | false => Chk x.sgl (covK h fs l K)
theorem covK_ok {K : Prop} : ∀ {l : VH}, covK h fs l K → (∀ k x, look l k = some x → (k < 4 ∧ ∀ y, look h k = some y → k ∈ fs ∧ famLen y ≤ famLen x) ∨ (4 ≤ k ∧ x.sgl = true)) ∧ K
  | [], hk => ⟨(fun k x hx => by cases hx), hk⟩
  | (k0, x0) :: l, hk => by
    simp only [covK] at hk
    have key : ((k0 < 4 ∧ ∀ y, look h k0 = some y → k0 ∈ fs ∧ famLen y ≤ famLen x0) ∨ (4 ≤ k0 ∧ x0.sgl = true)) ∧ covK h fs l K := by
      split at hk
      · rename_i hb
        have hlt : k0 < 4 := by simpa [Nat.blt_eq] using hb
        obtain ⟨c, hk⟩ := hk.ok
        split at hk
        · rename_i hn
          rw [lookO_ok] at hn
          exact ⟨.inl ⟨hlt, fun y hy => by rw [hn] at hy; cases hy⟩, hk⟩
        · rename_i y hy
          rw [lookO_ok] at hy
          obtain ⟨c2, hle, hk⟩ := hk.ok
          simp only [Bool.and_eq_true] at c2
          exact ⟨.inl ⟨hlt, fun y' hy' => by rw [hy] at hy'; obtain rfl := Option.some.inj hy'; exact ⟨by simpa using c2.1, hle⟩⟩, hk⟩
      · rename_i hb
        obtain ⟨c, hk⟩ := hk.ok
        have hge : 4 ≤ k0 := by
          rcases Nat.lt_or_ge k0 4 with hlt | hge
          · have : Nat.blt k0 4 = true := by simpa [Nat.blt_eq] using hlt
            rw [hb] at this; cases this
          · exact hge
        exact ⟨.inr ⟨hge, c⟩, hk⟩
    obtain ⟨k1, k2⟩ := key
    obtain ⟨h1, h2⟩ := covK_ok k2
    refine ⟨fun k x hx => ?_, h2⟩
    simp only [look] at hx
    split at hx
    · rename_i e; cases hx; subst e; exact k1
    · exact h1 k x hx
def hasB (hout : VH) : List Nat → Nat → Bool
  | [], _ => true
  | _ :: l, i => (lookO hout i).isSome && hasB hout l (i + 1)
theorem hasB_ok {hout : VH} : ∀ {l : List Nat} {i : Nat}, hasB hout l i = true → ∀ m, m < l.length → ∃ x, look hout (i + m) = some x
  | [], i, _, m, hm => by simp at hm
  | _ :: l, i, hb, m, hm => by
    simp only [hasB, Bool.and_eq_true, lookO_ok] at hb
    cases m with
    | zero => exact Option.isSome_iff_exists.1 hb.1
    | succ m =>
      have := hasB_ok hb.2 m (by simpa using hm)
      rwa [show i + 1 + m = i + (m + 1) by omega] at this
def noMemVH (l : VH) : Bool := l.all fun p => noMemVB p.2

/-- A call of f: os: the single blocks that are handed over, fs: the families. -/
def callO (P : Program) (h : VH) (n : Nat) (f : FuncId) (vs : List V) (os fs : List Nat) (K : V → VH → List Nat → Prop) : Prop :=
  Chk (osOK os n && fs.all (fun k => Nat.blt k 4)) (viewVs os fs h vs fun vs' ws => famsK fs h fs fun hf => sglsK os fs h os 4 fun hs ws' => appK hf hs fun hin => CallA P f vs' hin fun r hout =>
    Chk (nodupN (keysV hout) && fs.all (fun k => (lookO hout k).isSome) && hasB hout os 4) (covK h fs hout (renK (gN os n) r fun r' => newsK (gN os n) hout fun u =>
      match noMemV r && noMemVH hout with
      | true => K r' u ((ws ++ ws') ++ fs ++ keysV u)
      | false => wsK h (ws ++ ws') fun u0 => K r' (u0 ++ u) ((ws ++ ws') ++ fs ++ keysV u))))

theorem callO_ok {f : FuncId} {vs : List V} {K : V → VH → List Nat → Prop} (hfr : ∀ c : Id, n ≤ c.1 → look (toH h) c = none) (hk : callO P h n f vs os fs K) :
    ∃ r u vu gl, (∀ f' : List Nat, (∀ k ∈ gl, k ∈ f') → ∃ c : CallOK P f (toH h) n (toDL vs) r.toD u f', ∀ b, Live c.hout b → (c.g b).1 ∈ f') ∧ UpdOK h u vu ∧ K r vu gl := by
  obtain ⟨c0, hk⟩ := hk.ok
  simp only [Bool.and_eq_true, List.all_eq_true] at c0
  obtain ⟨c1, c2⟩ := c0
  have hlow : ∀ k ∈ fs, k < 4 := fun k hk => by simpa [Nat.blt_eq] using c2 k hk
  obtain ⟨o1, o2, o3⟩ := osOK_ok c1
  obtain ⟨vs', ws, v1, v2, hk⟩ := viewVs_ok (n := n) hk
  obtain ⟨hf, f1, f2, hk⟩ := famsK_ok hk
  obtain ⟨hs, ws', s1, s2, s3, hk⟩ := sglsK_ok (n := n) hk
  have hk := appK_ok hk
  obtain ⟨r, hout, hcon, hk⟩ := hk
  obtain ⟨c3, hk⟩ := hk.ok
  simp only [Bool.and_eq_true, List.all_eq_true] at c3
  obtain ⟨⟨c3, c4⟩, c5⟩ := c3
  obtain ⟨cov, hk⟩ := covK_ok hk
  obtain ⟨r', r1, hk⟩ := renK_ok hk
  obtain ⟨u, hr, hk⟩ := newsK_ok hk
  have hg : ∀ a b, gN os n a = gN os n b → a = b := fun a b => gN_inj c1
  have hgI : ∀ a b : Id, gI (gN os n) a = gI (gN os n) b → a = b := fun a b => gI_inj c1
  have hin_look : ∀ k x, look (hf ++ hs) k = some x → (k ∈ fs ∧ look hf k = some x) ∨ (∃ m b, k = 4 + m ∧ os[m]? = some b ∧ look hs k = some x) := by
    intro k x hx
    rw [look_app] at hx
    cases hl : look hf k with
    | some y =>
      rw [hl] at hx
      obtain rfl := Option.some.inj hx
      exact .inl ⟨(f1 k _ hl).1, rfl⟩
    | none =>
      rw [hl] at hx
      obtain ⟨m, rfl, hm⟩ := s1 k x hx
      exact .inr ⟨m, os[m], rfl, List.getElem?_eq_getElem hm, hx⟩
  have hf_none : ∀ m, look hf (4 + m) = none := by
    intro m
    cases hl : look hf (4 + m) with
    | none => rfl
    | some y => have := hlow _ (f1 _ _ hl).1; omega
  have hin_sgl : ∀ m b, os[m]? = some b → ∃ x x', look h b = some x ∧ look (hf ++ hs) (4 + m) = some x' ∧ VwB os fs n h ws' x x' := by
    intro m b hb
    obtain ⟨x, x', q1, q2, q3⟩ := s2 m b hb
    exact ⟨x, x', q1, by rw [look_app, hf_none]; exact q2, q3⟩
  have hin_fam : ∀ k ∈ fs, ∃ x, look (hf ++ hs) k = some x ∧ look h k = some x ∧ x.sgl = false ∧ ∀ j ∈ x.fams, j ∈ fs := by
    intro k hk
    obtain ⟨x, hx⟩ := f2 k hk
    obtain ⟨_, q2, q3, q4⟩ := f1 k x hx
    exact ⟨x, by rw [look_app, hx], q2, q3, q4⟩
  have H : HinOK os fs h (toH (hf ++ hs)) := by
    refine ⟨hlow, fun m b hb => ?_, fun k hk i hl => ?_⟩
    · obtain ⟨x, x', q1, q2, d, d', e1, e2, e3⟩ := hin_sgl m b hb
      exact Live.of_look (look_at q2 (by rw [e2]; rfl))
    · obtain ⟨x, q1, q2, q3, q4⟩ := hin_fam k hk
      unfold Live at hl ⊢
      rw [look_toH, q2] at hl
      rw [look_toH, q1]
      exact hl
  -- groups of what is live in the callee
  have live_in : ∀ b, Live (toH (hf ++ hs)) b → (b.1 ∈ fs ∧ ∃ x, look h b.1 = some x ∧ look (hf ++ hs) b.1 = some x ∧ b.2 < x.blks.length) ∨ ∃ m c, b = (4 + m, 0) ∧ os[m]? = some c := by
    intro b hb
    unfold Live at hb
    rw [look_toH] at hb
    cases hl : look (hf ++ hs) b.1 with
    | none => rw [hl] at hb; cases hb
    | some x =>
      rw [hl] at hb
      simp only [Option.bind_some] at hb
      rcases hin_look _ _ hl with ⟨g1, g2⟩ | ⟨m, c, e, g1, g2⟩
      · obtain ⟨_, q2, q3, q4⟩ := f1 _ _ g2
        refine .inl ⟨g1, x, q2, rfl, ?_⟩
        rcases Nat.lt_or_ge b.2 x.blks.length with hlt | hge
        · exact hlt
        · rw [List.getElem?_eq_none hge] at hb; cases hb
      · obtain ⟨y, y', q1, q2, d, d', e1, e2, _⟩ := hin_sgl m c g1
        rw [e, q2] at hl
        obtain rfl := Option.some.inj hl
        rw [e2] at hb
        refine .inr ⟨m, c, ?_, g1⟩
        obtain ⟨b1, b2⟩ := b
        simp only at e hb ⊢
        cases b2 with
        | zero => rw [e]
        | succ j => simp at hb
  have hcov : ∀ k x, look hout k = some x → ∀ j, x.blks.length ≤ j → look (toH h) (gN os n k, j) = none := by
    intro k x hx j hj
    rcases gN_case os n k with ⟨a1, a2⟩ | ⟨m, b, rfl, a1, a2⟩ | ⟨m, rfl, a1, a2⟩ <;> rw [a2]
    · rcases cov k x hx with ⟨_, q⟩ | ⟨q, _⟩
      · rw [look_toH]
        cases hl : look h k with
        | none => rfl
        | some y =>
          simp only [Option.bind_some]
          rw [List.getElem?_eq_none]
          have := (q y hl).2
          rw [← famLen_ok, ← famLen_ok] at this
          omega
      · omega
    · rcases cov _ x hx with ⟨q, _⟩ | ⟨_, q⟩
      · omega
      · obtain ⟨d, hd⟩ := VB.sgl_ok q
        rw [hd] at hj
        simp only [List.length_singleton] at hj
        obtain ⟨y, y', q1, q2, e, e', e1, e2, _⟩ := hin_sgl m b a1
        rw [look_toH, q1]
        simp only [Option.bind_some, e1]
        rw [List.getElem?_eq_none]
        simpa using hj
    · exact hfr _ (by show n ≤ n + _; omega)
  have hW : ∀ b ∈ ws ++ ws', RdOK h os b := fun b hb => (List.mem_append.1 hb).elim (v2 b) (s3 b)
  obtain ⟨w1, w2⟩ := upd_ws hW
  have hkeys := toH_keys hout
  have hnd : (hout.map (·.1)).Nodup := by rw [keysV_ok]; exact nodupN_ok c3
  have hukeys : ∀ b, Live (toH hout) b → (gI (gN os n) b).1 ∈ keysV u := by
    intro b hb
    unfold Live at hb
    rw [look_toH] at hb
    cases hl : look hout b.1 with
    | none => rw [hl] at hb; cases hb
    | some x =>
      obtain ⟨y, y1, _⟩ := ((hr.look hg).1 b.1).2 x hl
      rw [← keysV_ok]
      exact List.mem_map.2 ⟨_, look_mem y1, rfl⟩
  have mk : ∀ (uu : HL), ((noMem r.toD = true ∧ (∀ p ∈ toH hout, noMemB p.2 = true) ∧ uu = renH (gI (gN os n)) (toH hout)) ∨ ((∀ b ∈ (ws ++ ws').map (fun b => ((b, 0) : Id)), ∀ x, look (toH h) b = some x → x.mutable = true → (frzB (toH h) b).isSome = true) ∧ uu = frz (toH h) ((ws ++ ws').map fun b => (b, 0)) ++ renH (gI (gN os n)) (toH hout))) →
      ∀ f' : List Nat, (∀ k ∈ (ws ++ ws') ++ fs ++ keysV u, k ∈ f') → ∃ c : CallOK P f (toH h) n (toDL vs) r'.toD uu f', ∀ b, Live c.hout b → (c.g b).1 ∈ f' := by
    intro uu hupd f' hf'
    refine ⟨⟨gI (gN os n), (ws ++ ws').map fun b => (b, 0), fs, toDL vs', toH (hf ++ hs), r.toD, toH hout, hcon, v1.1, ?_, ?_, hkeys, fun b b' _ _ he => hgI b b' he, ?_, ?_, ?_, ⟨?_, ?_, ?_⟩, r1.symm, hupd⟩, ?_⟩
    · exact v1.2 _ H _ fun b hb => List.mem_map.2 ⟨b, List.mem_append_left _ hb, rfl⟩
    · intro b x' hx
      have hlv : Live (toH (hf ++ hs)) b := Live.of_look hx
      rcases live_in b hlv with ⟨g1, x, g2, g3, g4⟩ | ⟨m, c, rfl, g1⟩
      · rw [look_toH, g3] at hx
        refine ⟨x', by simp only [gI, gN_low os n (hlow _ g1)]; rw [look_toH, g2]; exact hx, ?_⟩
        obtain ⟨y, y1, y2, y3, y4⟩ := hin_fam _ g1
        rw [g2] at y2
        obtain rfl := Option.some.inj y2
        exact view_fam H y3 y4 x' (List.mem_of_getElem? hx)
      · obtain ⟨y, y', q1, q2, d, d', e1, e2, e3⟩ := hin_sgl m c g1
        rw [look_toH, q2] at hx
        simp only [Option.bind_some, e2, List.getElem?_cons_zero, Option.some.injEq] at hx
        subst hx
        refine ⟨d, ?_, e3 _ H _ fun b hb => List.mem_map.2 ⟨b, List.mem_append_right _ hb, rfl⟩⟩
        simp only [gI, gN_high, nameO_lt g1]
        exact look_at q1 (by rw [e1]; rfl)
    · intro b hb
      rcases live_in b hb with ⟨g1, x, g2, g3, g4⟩ | ⟨m, c, rfl, g1⟩
      · have hl := c4 _ g1
        rw [lookO_ok] at hl
        obtain ⟨y, hy⟩ := Option.isSome_iff_exists.1 hl
        rcases cov _ _ hy with ⟨_, q⟩ | ⟨q, _⟩
        · have := (q x g2).2
          rw [← famLen_ok, ← famLen_ok] at this
          unfold Live
          rw [look_toH, hy]
          simp only [Option.bind_some]
          rw [List.getElem?_eq_getElem (by omega)]
          rfl
        · have := hlow _ g1; omega
      · obtain ⟨y, hy⟩ := hasB_ok c5 m (List.getElem?_eq_some_iff.1 g1).1
        rcases cov _ _ hy with ⟨q, _⟩ | ⟨_, q⟩
        · omega
        · obtain ⟨d, hd⟩ := VB.sgl_ok q
          exact Live.of_look (look_at hy (by rw [hd]; rfl))
    · intro b hb hnb
      have hb' := hb
      unfold Live at hb
      rw [look_toH] at hb
      cases hl : look hout b.1 with
      | none => rw [hl] at hb; cases hb
      | some x =>
        rw [hl] at hb
        rcases gN_case os n b.1 with ⟨a1, a2⟩ | ⟨m, c, e, a1, a2⟩ | ⟨m, e, a1, a2⟩ <;> simp only [gI] <;> rw [a2]
        · cases hh : look h b.1 with
          | none => rw [look_toH, hh]; rfl
          | some y =>
            rcases cov _ _ hl with ⟨_, q⟩ | ⟨q, _⟩
            · obtain ⟨g1, _⟩ := q y hh
              obtain ⟨z, z1, z2, _⟩ := hin_fam _ g1
              rw [hh] at z2
              obtain rfl := Option.some.inj z2
              unfold Live at hnb
              rw [look_toH, z1] at hnb
              rw [look_toH, hh]
              simpa using hnb
            · omega
        · exfalso
          rcases cov _ _ hl with ⟨q, _⟩ | ⟨_, q⟩
          · omega
          · obtain ⟨d, hd⟩ := VB.sgl_ok q
            simp only [Option.bind_some, hd] at hb
            obtain ⟨b1, b2⟩ := b
            simp only at e hb hnb
            cases b2 with
            | zero => exact hnb (by rw [e]; exact H.sgl m c a1)
            | succ j => simp at hb
        · exact hfr _ (by show n ≤ n + _; omega)
    · intro b hb b' hb' he
      obtain ⟨c, hc, rfl⟩ := List.mem_map.1 hb
      obtain ⟨q1, q2⟩ := hW c hc
      rcases live_in b' hb' with ⟨g1, x, g2, g3, g4⟩ | ⟨m, c', rfl, g1⟩
      · simp only [gI, gN_low os n (hlow _ g1), Prod.mk.injEq] at he
        obtain ⟨y, y1, y2, y3, _⟩ := hin_fam _ g1
        rw [he.1] at y2
        rcases q2 with ⟨E, t, xs, _, hb⟩ | ⟨t, xs, hb⟩ | ⟨t, x, hb⟩ <;> rw [y2] at hb <;> cases hb <;> cases y3
      · simp only [gI, gN_high, nameO_lt g1, Prod.mk.injEq, and_true] at he
        subst he
        exact q1 (List.mem_of_getElem? g1)
    · exact fun b hb => .inl (hf' _ (List.mem_append_right _ (hukeys b hb)))
    · intro b hb
      obtain ⟨c, hc, rfl⟩ := List.mem_map.1 hb
      exact hf' _ (List.mem_append_left _ (List.mem_append_left _ hc))
    · exact fun k hk => hf' _ (List.mem_append_left _ (List.mem_append_right _ hk))
    · exact fun b hb => hf' _ (List.mem_append_right _ (hukeys b hb))
  split at hk
  · rename_i hm
    simp only [Bool.and_eq_true, noMemVH, List.all_eq_true] at hm
    refine ⟨r', _, u, _, mk _ (.inl ⟨noMemV_ok r hm.1, fun p hp => ?_, rfl⟩), upd_ren hg (fun _ => rfl) hr hnd hcov, hk⟩
    obtain ⟨x, x1, x2⟩ := mem_toH hp
    exact noMemVB_ok (hm.2 _ (look_mem x1)) _ x2
  · have hk := wsK_ok hk
    refine ⟨r', _, _, _, mk _ (.inr ⟨w2, rfl⟩), ?_, hk⟩
    have hcov' : ∀ k x, look hout k = some x → ∀ j, x.blks.length ≤ j → look (toH (puts (wsU h (ws ++ ws')) h)) (gN os n k, j) = none := by
      intro k x hx j hj
      have h1 := hcov k x hx j hj
      rw [← w1.1, look_puts_frz]
      split
      · rename_i y hy
        exfalso
        split at hy
        · obtain ⟨⟨z, z1, _⟩, _⟩ := frzB_old hy
          rw [h1] at z1; cases z1
        · cases hy
      · exact h1
    obtain ⟨q1, q2⟩ := upd_ren hg w1.1 hr hnd hcov'
    refine ⟨fun b => ?_, fun x hx => ?_⟩
    · rw [puts_append, puts_append]; exact q1 b
    · rw [List.map_append]
      rcases List.mem_append.1 hx with hx | hx
      · exact List.mem_append_left _ (w1.2 x hx)
      · exact List.mem_append_right _ (q2 x hx)
end Go.Proofs.Ytkclhekkcffpoaa.Am
