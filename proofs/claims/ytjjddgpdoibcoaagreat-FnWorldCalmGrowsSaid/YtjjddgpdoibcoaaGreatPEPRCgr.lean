/- Quiet periods: the reference's WorldCalm, what is drawn; the law of invalid runs. The laws of runs: members have only certified vertices. Quiet periods: what is drawn; all members have the same graph, every round adds a round. FnWorldCalmGrows's law holds: it returns true for all bytes, and leaves its argument as it was. -/
import Derived.Test.YtjjddgpdoibcoaaGreatRows
import Derived.Test.YtjjddgpdoibcoaaGreatPE10
set_option linter.unusedSimpArgs false
set_option linter.unusedVariables false
namespace Go.Proofs.YtjjddgpdoibcoaaGreat.Am
open Go
attribute [local irreducible] Mk Need Ari Get Idx Cnd CallM CallA Opt Unch At ConV
set_option maxRecDepth 10000
theorem swcalm_c (w : Wrl) (r : Int) (hl : w.com.length ≤ 2000000) : ConV Tryz.prog 7 [wrlA w, .int .i64 r] [] (if decide (0 ≤ r ∧ r ≤ 12) && wrlS w then wrlA (calmTo w r.toNat) else wrlZ) [] := by
 have hV := swV_c w hl
 have hI := in_c r 0 12
 cases hs : wrlS w
 ·rw [hs] at hV
  rw [Bool.and_false]
  refine con_eq Θ_ok Tryz.func7 rfl rfl true 0 4 rfl rfl rfl rfl fun K hK hb1 hb2 => ?_; simp only [argsV, enc, Nat.reduceAdd]
  clear hb1 hb2
  (repeat (any_goals (first | refine st ?_ | ((first | refine go2 fun xe hxe => ?_ | with_reducible refine cnd_d (fun hq => ?_) fun hq => ?_) <;> conv => whnf) | ((with_reducible refine cnd_i (fun hq => ?_) fun hq => ?_) <;> ((try simp only [hqs] at hq) <;> (first | omega | conv => whnf))) | refine cr (hV) ?_ | refine cr (hI) ?_)))
  exact ⟨rfl, rfl⟩
 ·rw [Bool.and_true]
  by_cases hr : 0 ≤ r ∧ r ≤ 12
  ·rw [decide_eq_true hr]
   have h := scalm_c w r.toNat (wok_iff.1 hs) (by omega)
   rw [show ((r.toNat : Nat) : Int) = r by omega] at h
   exact h
  ·rw [decide_eq_false hr]
   rw [hs] at hV
   have hv : vIn r 0 12 = false := by
    rw [Bool.eq_false_iff]
    intro h
    exact hr (vIn_iff.1 h)
   rw [hv] at hI
   refine con_eq Θ_ok Tryz.func7 rfl rfl true 0 4 rfl rfl rfl rfl fun K hK hb1 hb2 => ?_; simp only [argsV, enc, Nat.reduceAdd]
   clear hb1 hb2
   (repeat (any_goals (first | refine st ?_ | ((first | refine go2 fun xe hxe => ?_ | with_reducible refine cnd_d (fun hq => ?_) fun hq => ?_) <;> conv => whnf) | ((with_reducible refine cnd_i (fun hq => ?_) fun hq => ?_) <;> ((try simp only [hqs] at hq) <;> (first | omega | conv => whnf))) | refine cr (hV) ?_ | refine cr (hI) ?_)))
   exact ⟨rfl, rfl⟩
end Go.Proofs.YtjjddgpdoibcoaaGreat.Am
namespace Go.Proofs.YtjjddgpdoibcoaaGreat.Am
open Go
attribute [local irreducible] Mk Need Ari Get Idx Cnd CallM CallA Opt Unch At ConV
set_option maxRecDepth 10000
end Go.Proofs.YtjjddgpdoibcoaaGreat.Am
namespace Go.Proofs.YtjjddgpdoibcoaaGreat.Am
open Go
attribute [local irreducible] Mk Need Ari Get Idx Cnd CallM CallA Opt Unch At ConV
set_option maxRecDepth 10000
theorem cal_i {w : Wrl} {l : List Int} {i : Nat} {e : Int} (hw : WSm w) (hl : ∀ x ∈ l, -1 ≤ x ∧ x ≤ 13) (h : l[i]? = some e) : ∃ x : Wrl × Int, (WSm x.1 ∧ -1 ≤ x.2 ∧ x.2 ≤ 13) ∧ V.tup [wrlA w, .int .i64 e] = .tup [wrlA x.1, .int .i64 x.2] ∧ ([] : VH) = [] := by
 have := hl e (List.mem_of_getElem? h)
 exact ⟨(w, e), ⟨hw, this.1, this.2⟩, rfl, rfl⟩
set_option maxHeartbeats 1000000 in
theorem dcal_c (c : List Int) (hc : ∀ x ∈ c, 0 ≤ x ∧ x ≤ 255) : ∃ x : Wrl × Int, (WSm x.1 ∧ -1 ≤ x.2 ∧ x.2 ≤ 13) ∧ ConV Tryz.prog 5 [.lst (.int .u8) c] [] (.tup [wrlA x.1, .int .i64 x.2]) [] := by
 have h := rd0w hc
 obtain ⟨⟨w, q⟩, ⟨h1, h2, h3⟩, hw⟩ := dwld_c _ 0 h (by omega)
 dsimp only at h1 h2 h3 hw
 obtain ⟨n, hn, hnc⟩ := pk_c _ q 14 h (by omega) (by omega)
 by_cases h0 : n = 0
 ·obtain ⟨⟨w2, q2⟩, ⟨g1, g2, g3⟩, hW⟩ := dwrg_c _ (q + 1) h (by omega)
  dsimp only at g1 g2 g3 hW
  obtain ⟨k, hk, hkc⟩ := pk_c _ q2 4 h (by omega) (by omega)
  refine ⟨(w2, k), ⟨g3, by dsimp only; omega, by dsimp only; omega⟩, ?_⟩
  refine con_eq Θ_ok Tryz.func5 rfl rfl true 0 4 rfl rfl rfl rfl fun K hK hb1 hb2 => ?_; simp only [argsV, enc, Nat.reduceAdd]
  clear hb1 hb2
  (repeat (any_goals (first | refine st ?_ | ((first | refine go2 fun xe hxe => ?_ | with_reducible refine cnd_d (fun hq => ?_) fun hq => ?_) <;> conv => whnf) | ((with_reducible refine cnd_i (fun hq => ?_) fun hq => ?_) <;> ((try simp only [hqs] at hq) <;> (first | omega | conv => whnf))) | refine cr (open_c _) ?_ | refine cr (hw) ?_ | refine cr (hnc) ?_ | refine cr (hW) ?_ | refine cr (hkc) ?_)))
  exact ⟨rfl, rfl⟩
 ·obtain ⟨a1, b1, k1⟩ := pk_c _ (q + 1) 8 h (by omega) (by omega)
  obtain ⟨a2, b2, k2⟩ := pk_c _ (q + 1 + 1) 8 h (by omega) (by omega)
  obtain ⟨a3, b3, k3⟩ := pk_c _ (q + 1 + 1 + 1) 8 h (by omega) (by omega)
  obtain ⟨a4, b4, k4⟩ := pk_c _ (q + 1 + 1 + 1 + 1) 8 h (by omega) (by omega)
  obtain ⟨a5, b5, k5⟩ := pk_c _ (q + 1 + 1 + 1 + 1 + 1) 8 h (by omega) (by omega)
  obtain ⟨i, bi, ki⟩ := pk_c _ (q + 1 + 1 + 1 + 1 + 1 + 1) 8 h (by omega) (by omega)
  suffices hs : ∃ r hout, (∃ x : Wrl × Int, (WSm x.1 ∧ -1 ≤ x.2 ∧ x.2 ≤ 13) ∧ r = .tup [wrlA x.1, .int .i64 x.2] ∧ hout = []) ∧ ConV Tryz.prog 5 [.lst (.int .u8) c] [] r hout by
   obtain ⟨r, hout, ⟨v, hv, rfl, rfl⟩, h⟩ := hs
   exact ⟨v, hv, h⟩
  refine con_ex Θ_ok Tryz.func5 rfl rfl true 0 4 rfl rfl rfl rfl (R := fun r hout => ∃ x : Wrl × Int, (WSm x.1 ∧ -1 ≤ x.2 ∧ x.2 ≤ 13) ∧ r = .tup [wrlA x.1, .int .i64 x.2] ∧ hout = []) (r0 := .tup [wrlA w, .int .i64 0]) (hout0 := []) (⟨(w, 0), ⟨h3.sm, by dsimp only; omega, by dsimp only; omega⟩, rfl, rfl⟩) fun K hK hb1 hb2 => ?_; simp only [argsV, enc, Nat.reduceAdd]
  clear hb1 hb2
  (repeat (any_goals (first | refine st ?_ | ((first | refine go2 fun xe hxe => ?_ | with_reducible refine cnd_d (fun hq => ?_) fun hq => ?_) <;> conv => whnf) | ((with_reducible refine cnd_i (fun hq => ?_) fun hq => ?_) <;> ((try simp only [hqs] at hq) <;> (first | omega | conv => whnf))) | refine cr (open_c _) ?_ | refine cr (hw) ?_ | refine cr (hnc) ?_ | refine cr (k1) ?_ | refine cr (k2) ?_ | refine cr (k3) ?_ | refine cr (k4) ?_ | refine cr (k5) ?_ | refine cr (ki) ?_)))
  refine cal_i h3.sm ?_ hxe
  intro x hx
  simp only [List.mem_cons, List.not_mem_nil, or_false] at hx
  omega
def hvx (g : List Vtx) (v : Vtx) (n : Nat) : Bool := (g.take n).any fun u => vEq u v
theorem ghV_eq {c : List Int} {g : List Vtx} (h : graS c g = true) : ghV c g = hgt c g := by simp [ghV, h]
set_option maxHeartbeats 1000000 in
theorem lawCgr_c (c : List Int) (hc : ∀ x ∈ c, 0 ≤ x ∧ x ≤ 255) : ConV Tryz.prog 4 [.lst (.int .u8) c] [] (.bool true) [] := by
 obtain ⟨⟨w, r⟩, ⟨hw, hr1, hr2⟩, hd⟩ := dcal_c c hc
 dsimp only at hw hr1 hr2 hd
 have hI := icalm_c w r (fun g hg => by have := hw.2 g hg; omega) (by omega)
 have hS := swcalm_c w r (by have := hw.1; omega)
 refine con_eq Θ_ok Tryz.func4 rfl rfl false 0 4 rfl rfl rfl rfl fun K hK hb1 hb2 => ?_; simp only [argsV, enc, Nat.reduceAdd]
 clear hb1 hb2
 by_cases hl : 1048576 < (c.length : Int)
 ·(repeat (any_goals (first | refine st ?_ | ((first | refine go2 fun xe hxe => ?_ | with_reducible refine cnd_d (fun hq => ?_) fun hq => ?_) <;> conv => whnf) | ((with_reducible refine cnd_i (fun hq => ?_) fun hq => ?_) <;> ((try simp only [hqs] at hq) <;> (first | omega | conv => whnf))))))
  (try any_goals (first | exact absurd trivial hq | exact absurd rfl hq | exact absurd hq (by omega) | (exfalso; simp at hq; done)))
  exact ⟨rfl, rfl⟩
 cases hs : decide (0 ≤ r ∧ r ≤ 12) && wrlS w
 ·simp only [hs, Bool.false_eq_true, if_false] at hI hS
  (repeat (any_goals (first | refine st ?_ | ((first | refine go2 fun xe hxe => ?_ | with_reducible refine cnd_d (fun hq => ?_) fun hq => ?_) <;> conv => whnf) | ((with_reducible refine cnd_i (fun hq => ?_) fun hq => ?_) <;> ((try simp only [hqs] at hq) <;> (first | omega | conv => whnf))) | refine cr (hd) ?_ | refine cr (hI) ?_ | refine cr (hS) ?_ | refine cr (sWrl_z) ?_)))
  all_goals first | exact ⟨rfl, rfl⟩ | (exfalso; rename_i h; exact h rfl) | (exfalso; rename_i h _; exact h rfl) | (exfalso; exact hq rfl)
 ·simp only [hs, if_true] at hI hS
  obtain ⟨hrr, hww⟩ := (Bool.and_eq_true .. ▸ hs : _ ∧ _)
  have hrr := of_decide_eq_true hrr
  have hok := wok_iff.1 hww
  have hu := calmTo_ok hok r.toNat
  have hgw := fun hl (m : Nat) hm hb hh => calm_hgt hok r.toNat (by omega) hl m hm hb hh
  have hco : (calmTo w r.toNat).com = w.com := calm_com r.toNat
  have hba := (grw_calm hok r.toNat).bad
  generalize calmTo w r.toNat = u at *
  have hE := sWrl_e u
  have h7 := hu.len
  have hvl := hu.vlen
  have hvl1 := hok.vlen
  have hpl := hu.plen
  have hvg := hok.vl
  have hvg2 := hu.vl
  have hgr := hok.gra
  have hgr2 := hu.gra
  by_cases hp : 200 ≤ (u.props.length : Int)
  ·(repeat (any_goals (first | refine st ?_ | ((first | refine go2 fun xe hxe => ?_ | with_reducible refine cnd_d (fun hq => ?_) fun hq => ?_) <;> conv => whnf) | ((with_reducible refine cnd_i (fun hq => ?_) fun hq => ?_) <;> ((try simp only [hqs] at hq) <;> (first | omega | conv => whnf))) | refine cr (hd) ?_ | refine cr (hI) ?_ | refine cr (hS) ?_ | refine cr (hE) ?_)))
   (try any_goals (first | exact absurd trivial hq | exact absurd rfl hq | exact absurd hq (by omega) | (exfalso; simp at hq; done)))
   exact ⟨rfl, rfl⟩
  ·(repeat (any_goals (first | refine st ?_ | ((first | refine go2 fun xe hxe => ?_ | with_reducible refine cnd_d (fun hq => ?_) fun hq => ?_) <;> conv => whnf) | ((with_reducible refine cnd_i (fun hq => ?_) fun hq => ?_) <;> ((try simp only [hqs] at hq) <;> (first | omega | conv => whnf))) | refine cr (hd) ?_ | refine cr (hI) ?_ | refine cr (hS) ?_ | refine cr (hE) ?_)))
   (try any_goals (first | exact absurd trivial hq | exact absurd rfl hq | exact absurd hq (by omega) | (exfalso; simp at hq; done)))
   refine at_loop hK [] [3, 4, 5, 7] (fun m : Nat => ⟨[(3, .ptr 4 0), (4, .int .i64 r), (5, .ptr 5 0), (7, .int .i64 (m : Int))], [(4, .var 27 (wrlA w).cells), (5, .var 27 (wrlA u).cells)], 6⟩) (fun m => m ≤ u.views.length) (fun m => u.views.length - m) 0 (by simp) rfl ?_
   intro m hm
   by_cases hlt : m < u.views.length
   ·have hlw : m < w.views.length := by rw [hvl1, ← hco, ← hvl]; exact hlt
    have hx1 : u.views[m]? = some u.views[m] := List.getElem?_eq_getElem hlt
    have hx2 : w.views[m]? = some w.views[m] := List.getElem?_eq_getElem hlw
    have hg1 : u.views.getD m [] = u.views[m] := by rw [List.getD_eq_getElem?_getD, hx1]; rfl
    have hg2 : w.views.getD m [] = w.views[m] := by rw [List.getD_eq_getElem?_getD, hx2]; rfl
    have hH1 := igh_c w.com w.views[m] (by have := hvg _ (List.getElem_mem hlw); omega)
    have hH2 := igh_c u.com u.views[m] (by have := hvg2 _ (List.getElem_mem hlt); omega)
    rw [ghV_eq (hgr _ (List.getElem_mem hlw))] at hH1
    rw [ghV_eq (hgr2 _ (List.getElem_mem hlt))] at hH2
    have hgw := fun hb hh => hgw (by omega) m (by rw [← hvl1]; exact hlw) hb hh
    rw [hg1, hg2] at hgw
    rw [← hco] at hgw hH1
    have hbd1 := hgt_bd u.com w.views[m]
    have hbd2 := hgt_bd u.com u.views[m]
    rw [hco] at hH1
    generalize w.views[m] = g1 at *
    generalize u.views[m] = g2 at *
    rw [hco] at hgw hbd1 hbd2 hH2
    have hH2 : ConV Tryz.prog 11 [.lst (.int .i64) u.com, .lst .vtx g2] [] (.int .i64 (hgt w.com g2)) [] := by rw [hco]; exact hH2
    generalize hgt w.com g1 = a at *
    generalize hgt w.com g2 = b at *
    by_cases hb : (m : Int) = u.bad
    ·(repeat (any_goals (first | refine st ?_ | ((first | refine go2 fun xe hxe => ?_ | with_reducible refine cnd_d (fun hq => ?_) fun hq => ?_) <;> conv => whnf) | ((with_reducible refine cnd_i (fun hq => ?_) fun hq => ?_) <;> ((try simp only [hqs] at hq) <;> (first | omega | conv => whnf))) | refine cr (hH1) ?_ | refine cr (hH2) ?_)))
     (try any_goals (first | exact absurd trivial hq | exact absurd rfl hq | exact absurd hq (by omega) | (exfalso; simp at hq; done)))
     exact ⟨m + 1, by omega, by omega, rfl⟩
    ·by_cases hh : b < 30
     ·have := hgw (by rw [← hba]; exact hb) hh
      (repeat (any_goals (first | refine st ?_ | ((first | refine go2 fun xe hxe => ?_ | with_reducible refine cnd_d (fun hq => ?_) fun hq => ?_) <;> conv => whnf) | ((with_reducible refine cnd_i (fun hq => ?_) fun hq => ?_) <;> ((try simp only [hqs] at hq) <;> (first | omega | conv => whnf))) | refine cr (hH1) ?_ | refine cr (hH2) ?_)))
      (try any_goals (first | exact absurd trivial hq | exact absurd rfl hq | exact absurd hq (by omega) | (exfalso; simp at hq; done)))
      exact ⟨m + 1, by omega, by omega, rfl⟩
     ·(repeat (any_goals (first | refine st ?_ | ((first | refine go2 fun xe hxe => ?_ | with_reducible refine cnd_d (fun hq => ?_) fun hq => ?_) <;> conv => whnf) | ((with_reducible refine cnd_i (fun hq => ?_) fun hq => ?_) <;> ((try simp only [hqs] at hq) <;> (first | omega | conv => whnf))) | refine cr (hH1) ?_ | refine cr (hH2) ?_)))
      (try any_goals (first | exact absurd trivial hq | exact absurd rfl hq | exact absurd hq (by omega) | (exfalso; simp at hq; done)))
      exact ⟨m + 1, by omega, by omega, rfl⟩
   ·(repeat (any_goals (first | refine st ?_ | ((first | refine go2 fun xe hxe => ?_ | with_reducible refine cnd_d (fun hq => ?_) fun hq => ?_) <;> conv => whnf) | ((with_reducible refine cnd_i (fun hq => ?_) fun hq => ?_) <;> ((try simp only [hqs] at hq) <;> (first | omega | conv => whnf))))))
    (try any_goals (first | exact absurd trivial hq | exact absurd rfl hq | exact absurd hq (by omega) | (exfalso; simp at hq; done)))
    exact ⟨rfl, rfl⟩
end Go.Proofs.YtjjddgpdoibcoaaGreat.Am
namespace Go.Proofs.YtjjddgpdoibcoaaGreat.rowCgr
open Go Go.RowKit Go.ChangeShapes Go.WideShapes Go.ChangeAt Go.Proofs.YtjjddgpdoibcoaaGreat.Am
theorem own : ownKnob Tryz.prog.godebug = none := by kernel_rfl
theorem lay : laidOutB Tryz.prog = true := by kernel_rfl
theorem cells5 : Tryz.prog.cellsOf 5 = 1 := by kernel_rfl
set_option maxRecDepth 100000 in
theorem lifted (os : Os) (started : os.Started) (H : Type) (enc : TypeId × Value → H) :
  ReturnsInHanded {} Tryz.checked os 4 .any (Rows.fnWorldCalmGrowsSpec.pre6 enc Tryz.prog Tryz.f4 Rows.fnWorldCalmGrowsRow.domain false) (Rows.fnWorldCalmGrowsSpec.post enc Tryz.prog Tryz.f4 false true false false) := by
 refine returnsInHanded_of_change (C := Tryz.checked) own started (by kernel_rfl) Tryz.func4
  (ChangeSpec.witness6 (enc := enc) (C := Tryz.checked) false ⟨#[], #[.slice none 0 0], []⟩ 8 (by kernel_rfl) (by kernel_rfl) (by kernel_rfl) (by kernel_rfl)) ?_
 intro W base args ds gs before hval hW _ _
 have hW' := hW
 obtain ⟨p, q, hA0, hV, rfl, hfz, hnd⟩ := hW
 have hA : DataW.TrodAll enc Tryz.prog W 0 (fun _ => true) true Tryz.f4.params.toList args.toList ds p := hA0
 rw [Tryz.params4] at hA hval
 obtain ⟨v0, vs0, d0, ds0, p0, q0, hargs, rfl, rfl, h0, r0⟩ := trodAll_cons hA
 obtain ⟨rfl, rfl, rfl⟩ := trodAll_nil r0
 obtain rfl : args = #[v0] := by cases args; simp_all
 obtain ⟨rfl, rfl⟩ := trodVars_none hV
 obtain ⟨c0, hc0, hr0⟩ := bytes_arg Tryz.underlying22 Tryz.underlying5 cells5 (hval 0 _ v0 rfl rfl) h0
 clear hA0
 simp only [List.append_nil] at hW'
 refine (law_calls (lawCgr_c c0 hc0) rfl (fun i hi => ?_)).mono fun e W' ⟨he, hb⟩ => ?_
 ·obtain rfl : i = 0 := by simp [toDL] at hi; omega
  exact hr0
 subst he
 have hlt : ∀ x ∈ p0, x.block < W.heap.size := fun x hx => hW'.lt x hx
 exact ⟨_, rfl, post_below (pa := p0) (pv := []) hW' (fun _ _ _ => trodAll_cons_mk (shut_bool Tryz.underlying4 _) trodAll_mk0)
  (fun sp hsp => trodAll_mk1 (WideElems.Trod_stays lay (by kernel_rfl) (of_decide_eq_true (by kernel_rfl)) h0 (fun x hx => hb.same (hlt x hx)) (fun x hx => hsp x hx)))
  (fun _ _ => rfl) (by simp) hb (ok_one (by kernel_rfl) rfl (okWide_bool_mk Tryz.underlying4 _))⟩
theorem jA : (Rows.fnWorldCalmGrowsRow.inPlace == Tryz.pinned.checked.prog.inPlace 4) = true := by kernel_rfl
theorem jB : (Rows.fnWorldCalmGrowsRow.unfollowed == Tryz.pinned.checked.prog.unfollowed 4) = true := by kernel_rfl
theorem jC : (Rows.fnWorldCalmGrowsRow.recurses == Tryz.pinned.checked.prog.recurses 4) = true := by kernel_rfl
theorem jD : (Rows.fnWorldCalmGrowsRow.named == Tryz.pinned.checked.prog.varsNamed 4) = true := by kernel_rfl
theorem jE : Tryz.pinned.checked.prog.mayEnter = true := by kernel_rfl
theorem jF : (Rows.fnWorldCalmGrowsRow.lifted == Tryz.pinned.checked.prog.liftsFinal) = true := by kernel_rfl
theorem jG : (Tryz.pinned.checked.prog.make == some Rows.fnWorldCalmGrowsRow.make) = true := by kernel_rfl
theorem closed : joinedFacts Tryz.pinned.checked.prog 4 Tryz.f4 Rows.fnWorldCalmGrowsSpec Rows.fnWorldCalmGrowsRow = true := by
 unfold joinedFacts
 rw [jA, jB, jC, jD, jE, jF, jG]
 exact of_decide_eq_true (by kernel_rfl)
theorem holds : Rows.FnWorldCalmGrowsSaid :=
 OpenClaim.holds_of_wide 4 Tryz.f4 rfl rfl rfl rfl rfl rfl rfl ⟨rfl, rfl, rfl, rfl, rfl⟩ rfl rfl rfl rfl rfl (by kernel_rfl) Tryz.func4 closed
  (of_decide_eq_true (by kernel_rfl)) (by unfold Func.isWrapper; first | (rw [if_pos (by decide +kernel)]; kernel_rfl) | (rw [if_neg (by decide +kernel)]; exact ⟨rfl, rfl⟩))
  (fun os started H enc _ => lifted os started H enc)
#print axioms holds
end Go.Proofs.YtjjddgpdoibcoaaGreat.rowCgr
