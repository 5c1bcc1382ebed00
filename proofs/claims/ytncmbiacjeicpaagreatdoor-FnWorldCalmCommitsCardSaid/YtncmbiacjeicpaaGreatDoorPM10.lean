/- What is drawn for runs: whole runs, runs that are often invalid. Certified proposals: the law FnWorldCertified. Runs: the reference's WorldDo and WorldPlay; what is drawn for them. Runs: quorums meet; what is held of valid runs. Runs: what quiet periods lead to (plain laws): nothing is left to deliver, so all correct members have all that is certified. Runs: what single events leave (plain laws). Runs: events and quiet periods only add (plain laws); every quiet round adds a round. Orders: what graphs order, and that graphs of one run never order differently (plain laws). Orders: what a vertex  -/
import Derived.LaidEql
import Derived.Stop.Asserts
import Derived.RowKitTokens
import Derived.Test.YtncmbiacjeicpaaGreatDoorPM9
set_option linter.unusedSimpArgs false
set_option linter.unusedVariables false
namespace Go.Proofs.YtncmbiacjeicpaaGreatDoor.Am
open Go
attribute [local irreducible] Mk Need Ari Get Idx Cnd CallM CallA Opt Unch At ConV
set_option maxRecDepth 10000
theorem scpo_c (w:Wrl) (h:WOK w):ConV Tryz.prog 25 [wrlA w] [] (.agg [.ref 4,.ref 5,.int .i64 w.bad,.ref 6,.ref 7]) [(4,.row 3 (.int .i64) w.com),(5,.row 3 (.int .i64) w.lead),(6,.row 33 (.lst .vtx) w.views),(7,.row 70 .ppl w.props)]:=by
 have h7:=h.len
 have hvl:=h.vlen
 have hpl:=h.plen
 have hll:=(leaS_iff.1 h.lead).2
 refine con_eq Θ_ok Tryz.func25 rfl rfl false 0 4 rfl rfl rfl rfl fun K hK hb1 hb2=>?_;simp only [argsV,enc,Nat.reduceAdd]
 clear hb1 hb2
 (repeat (any_goals (first | refine st ?_ | (refine go2 fun xe hxe=>?_;conv=>whnf) | ((with_reducible refine cnd_i (fun hq=>?_) fun hq=>?_) <;> (try simp only [hqs] at hq) <;> (first | omega | conv=>whnf)))))
 refine at_loop hK [] [1,2,3,4] (fun i:Nat=>⟨[(1,.ptr 4 0),(2,.ptr 5 0),(3,.ptr 6 0),(4,.int .i64 (i:Int))],[(4,.var 27 (wrlA w).cells),(5,.var 27 wZv),(6,.var 27 [.ref 7,.ref 8,.int .i64 w.bad,.ref 9,.ref 10]),(7,.row 3 (.int .i64) w.com),(8,.row 3 (.int .i64) w.lead),(9,.row 33 (.lst .vtx) (w.views.take i)),(10,.row 70 .ppl [])],11⟩) (fun i=>i ≤ w.views.length) (fun i=>w.views.length - i) 0 (by omega) rfl ?_
 intro i hi
 by_cases hlt:i < w.views.length
 ·have hxe:w.views[i]? = some w.views[i]:=List.getElem?_eq_getElem hlt
  have hsn:w.views.take (i + 1) = w.views.take i ++ [w.views[i]]:=List.take_succ_eq_append_getElem hlt
  have hgm:=List.getElem_mem hlt
  have hC:=scopy_c w.views[i] (by have:=h.vl _ hgm;omega) fun v hv=>by have:=h.par (h.vv _ hgm v hv);omega
  have hl1:(w.views.take i).length = i:=by rw [List.length_take];omega
  generalize w.views[i] = g at *
  generalize w.views.take i = l at *
  (repeat (any_goals (first | refine st ?_ | (refine go2 fun xe hxe=>?_;conv=>whnf) | ((with_reducible refine cnd_i (fun hq=>?_) fun hq=>?_) <;> (try simp only [hqs] at hq) <;> (first | omega | conv=>whnf)) | refine cr (hC) ?_)))
  exact ⟨i + 1,by omega,by omega,by rw [hsn];rfl⟩
 rw [List.take_of_length_le (by omega)]
 (repeat (any_goals (first | refine st ?_ | (refine go2 fun xe hxe=>?_;conv=>whnf) | ((with_reducible refine cnd_i (fun hq=>?_) fun hq=>?_) <;> (try simp only [hqs] at hq) <;> (first | omega | conv=>whnf)))))
 refine at_loop hK [] [1,2,3,5] (fun i:Nat=>⟨[(1,.ptr 4 0),(2,.ptr 5 0),(3,.ptr 6 0),(5,.int .i64 (i:Int))],[(4,.var 27 (wrlA w).cells),(5,.var 27 wZv),(6,.var 27 [.ref 7,.ref 8,.int .i64 w.bad,.ref 9,.ref 10]),(7,.row 3 (.int .i64) w.com),(8,.row 3 (.int .i64) w.lead),(9,.row 33 (.lst .vtx) w.views),(10,.row 70 .ppl (w.props.take i))],11⟩) (fun i=>i ≤ w.props.length) (fun i=>w.props.length - i) 0 (by omega) rfl ?_
 intro k hk
 by_cases hkl:k < w.props.length
 ·have hxe:w.props[k]? = some w.props[k]:=List.getElem?_eq_getElem hkl
  have hsn:w.props.take (k + 1) = w.props.take k ++ [w.props[k]]:=List.take_succ_eq_append_getElem hkl
  have hpm:=List.getElem_mem hkl
  have hC:=sone_c w.props[k].v (by have:=h.par (h.pv _ hpm).1;omega)
  have hm:=h.mem _ hpm
  have hl1:(w.props.take k).length = k:=by rw [List.length_take];omega
  generalize w.props[k] = p at *
  generalize w.props.take k = l at *
  (repeat (any_goals (first | refine st ?_ | (refine go2 fun xe hxe=>?_;conv=>whnf) | ((with_reducible refine cnd_i (fun hq=>?_) fun hq=>?_) <;> (try simp only [hqs] at hq) <;> (first | omega | conv=>whnf)) | refine cr (hC) ?_)))
  exact ⟨k + 1,by omega,by omega,by rw [hsn];rfl⟩
 ·(repeat (any_goals (first | refine st ?_ | (refine go2 fun xe hxe=>?_;conv=>whnf) | ((with_reducible refine cnd_i (fun hq=>?_) fun hq=>?_) <;> (try simp only [hqs] at hq) <;> (first | omega | conv=>whnf)))))
  rw [List.take_of_length_le (by omega)]
  exact ⟨rfl,rfl⟩
theorem evtZ_do (w:Wrl) (z:Bool) (e:Evt) (h:WOK w) (hvl:e.v.parents.length ≤ 30) (hz:z = true → e.v.parents = []):ConV Tryz.prog 34 [wrlA w,.agg [.int .i64 e.kind,.int .i64 e.a,.int .i64 e.b,.int .i64 e.v.round,.int .i64 e.v.author,.lst (.int .i64) e.v.parents,.int .i64 e.v.digest]] [] (wrlA (sDo w e)) []:=
 sdo_c w e h (by omega)
set_option maxHeartbeats 1000000 in
theorem dwld_c (b:List Int) (p:Int) (h:rdOK b 0) (hp:0 ≤ p ∧ p ≤ 500000):∃ x:Wrl × Int,(p ≤ x.2 ∧ x.2 ≤ p + 6000 ∧ WOK x.1) ∧ ConV Tryz.prog 12 [.ptr 4 0] [(4,rdB b p)] (wrlA x.1) [(4,rdB b x.2)]:=by
 obtain ⟨⟨w0,q⟩,⟨h1,h2,h3⟩,hB⟩:=dbeg_c b p h (by omega)
 dsimp only at h1 h2 h3 hB
 obtain ⟨m,hm,hmc⟩:=pk_c b q 3 h (by omega) (by omega)
 obtain ⟨r,hr,hrc⟩:=pk_c b (q + 1) 5 h (by omega) (by omega)
 obtain ⟨r,rfl⟩:∃ k:Nat,(k:Int) = r:=⟨r.toNat,by omega⟩
 have hC:=scalm_c w0 r h3 (by omega)
 have hco:=calmTo_ok h3 r
 suffices hs:∃ r hout,(∃ x:Wrl × Int,(p ≤ x.2 ∧ x.2 ≤ p + 6000 ∧ WOK x.1) ∧ r = wrlA x.1 ∧ hout = [(4,rdB b x.2)]) ∧ ConV Tryz.prog 12 [.ptr 4 0] [(4,rdB b p)] r hout by
  obtain ⟨r,hout,⟨v,hv,rfl,rfl⟩,h⟩:=hs
  exact ⟨v,hv,h⟩
 refine con_ex Θ_ok Tryz.func12 rfl rfl true 1 5 rfl rfl rfl rfl (R:=fun r hout=>∃ x:Wrl × Int,(p ≤ x.2 ∧ x.2 ≤ p + 6000 ∧ WOK x.1) ∧ r = wrlA x.1 ∧ hout = [(4,rdB b x.2)]) (r0:=wrlA w0) (hout0:=[(4,rdB b p)]) (⟨(w0,p),⟨by dsimp only;omega,by dsimp only;omega,h3⟩,rfl,rfl⟩) fun K hK hb1 hb2=>?_;simp only [argsV,enc,Nat.reduceAdd]
 clear hb1 hb2
 generalize calmTo w0 r = w1 at *
 have body:∀ (K:Id → Prop) (c:Code) (i:Nat) (w:Wrl) (q2:Int),True:=fun _ _ _ _ _=>trivial
 by_cases hm0:0 < m
 ·(repeat (any_goals (first | refine st ?_ | (refine go2 fun xe hxe=>?_;conv=>whnf) | ((with_reducible refine cnd_i (fun hq=>?_) fun hq=>?_) <;> (try simp only [hqs] at hq) <;> (first | omega | conv=>whnf)) | refine cr (hmc) ?_ | refine cr (hrc) ?_ | refine cr (hC) ?_ | refine co (hB) ?_)))
  refine at_loop hK [] [0,2,3,4] (fun x:Nat × Wrl × Int=>⟨[(0,.ptr 4 0),(2,.ptr 5 0),(3,.ptr 6 0),(4,.int .i64 x.1)],[(4,rdB b x.2.2),(5,.var 27 wZv),(6,.var 27 (wrlA x.2.1).cells)],7⟩)
   (fun x=>x.1 ≤ 69 ∧ WOK x.2.1 ∧ p ≤ x.2.2 ∧ x.2.2 ≤ p + 100 + 61 * x.1) (fun x=>70 - x.1) (0,w1,q + 1 + 1) ⟨by dsimp only;omega,hco,by dsimp only;omega,by dsimp only;omega⟩ rfl ?_
  rintro ⟨i,w,q2⟩ ⟨hi1,hi2,hi3,hi4⟩
  dsimp only at hi1 hi2 hi3 hi4 ⊢
  obtain ⟨n,hn,hnc⟩:=pk_c b q2 70 h (by omega) (by omega)
  obtain ⟨⟨⟨z,e⟩,q3⟩,⟨e1,e2,e3,e4⟩,hE⟩:=devt_c b (q2 + 1) w h (by omega) hi2
  dsimp only at e1 e2 e3 e4 hE
  have hD:=evtZ_do w z e hi2 e3 e4
  have hdo:=sDo_ok hi2 e
  by_cases hlt:(i:Int) < n
  ·cases z with
   | false=>
    have hE:ConV Tryz.prog 35 [.ptr 4 0,wrlA w] [(4,rdB b (q2 + 1))] (evtA e) [(4,rdB b q3)]:=hE
    generalize sDo w e = w2 at *
    (repeat (any_goals (first | refine st ?_ | (refine go2 fun xe hxe=>?_;conv=>whnf) | ((with_reducible refine cnd_i (fun hq=>?_) fun hq=>?_) <;> (try simp only [hqs] at hq) <;> (first | omega | conv=>whnf)) | refine cr (hnc) ?_ | refine cr (hD) ?_ | refine co (hE) ?_)))
    exact ⟨(i + 1,w2,q3),⟨by dsimp only;omega,hdo,by dsimp only;omega,by dsimp only;omega⟩,by dsimp only;omega,rfl⟩
   | true=>
    have hE:ConV Tryz.prog 35 [.ptr 4 0,wrlA w] [(4,rdB b (q2 + 1))] (.agg [.int .i64 e.kind,.int .i64 e.a,.int .i64 e.b,.int .i64 e.v.round,.int .i64 e.v.author,.nils,.int .i64 e.v.digest]) [(4,rdB b q3)]:=hE
    rw [e4 rfl] at hD
    generalize sDo w e = w2 at *
    (repeat (any_goals (first | refine st ?_ | (refine go2 fun xe hxe=>?_;conv=>whnf) | ((with_reducible refine cnd_i (fun hq=>?_) fun hq=>?_) <;> (try simp only [hqs] at hq) <;> (first | omega | conv=>whnf)) | refine cr (hnc) ?_ | refine cr (hD) ?_ | refine co (hE) ?_)))
    exact ⟨(i + 1,w2,q3),⟨by dsimp only;omega,hdo,by dsimp only;omega,by dsimp only;omega⟩,by dsimp only;omega,rfl⟩
  ·(repeat (any_goals (first | refine st ?_ | (refine go2 fun xe hxe=>?_;conv=>whnf) | ((with_reducible refine cnd_i (fun hq=>?_) fun hq=>?_) <;> (try simp only [hqs] at hq) <;> (first | omega | conv=>whnf)) | refine cr (hnc) ?_)))
   exact ⟨(w,q2 + 1),⟨by dsimp only;omega,by dsimp only;omega,hi2⟩,rfl,rfl⟩
 ·(repeat (any_goals (first | refine st ?_ | (refine go2 fun xe hxe=>?_;conv=>whnf) | ((with_reducible refine cnd_i (fun hq=>?_) fun hq=>?_) <;> (try simp only [hqs] at hq) <;> (first | omega | conv=>whnf)) | refine cr (hmc) ?_ | refine co (hB) ?_)))
  refine at_loop hK [] [0,2,3,4] (fun x:Nat × Wrl × Int=>⟨[(0,.ptr 4 0),(2,.ptr 5 0),(3,.ptr 6 0),(4,.int .i64 x.1)],[(4,rdB b x.2.2),(5,.var 27 wZv),(6,.var 27 (wrlA x.2.1).cells)],7⟩)
   (fun x=>x.1 ≤ 69 ∧ WOK x.2.1 ∧ p ≤ x.2.2 ∧ x.2.2 ≤ p + 100 + 61 * x.1) (fun x=>70 - x.1) (0,w0,q + 1) ⟨by dsimp only;omega,h3,by dsimp only;omega,by dsimp only;omega⟩ rfl ?_
  rintro ⟨i,w,q2⟩ ⟨hi1,hi2,hi3,hi4⟩
  dsimp only at hi1 hi2 hi3 hi4 ⊢
  obtain ⟨n,hn,hnc⟩:=pk_c b q2 70 h (by omega) (by omega)
  obtain ⟨⟨⟨z,e⟩,q3⟩,⟨e1,e2,e3,e4⟩,hE⟩:=devt_c b (q2 + 1) w h (by omega) hi2
  dsimp only at e1 e2 e3 e4 hE
  have hD:=evtZ_do w z e hi2 e3 e4
  have hdo:=sDo_ok hi2 e
  by_cases hlt:(i:Int) < n
  ·cases z with
   | false=>
    have hE:ConV Tryz.prog 35 [.ptr 4 0,wrlA w] [(4,rdB b (q2 + 1))] (evtA e) [(4,rdB b q3)]:=hE
    generalize sDo w e = w2 at *
    (repeat (any_goals (first | refine st ?_ | (refine go2 fun xe hxe=>?_;conv=>whnf) | ((with_reducible refine cnd_i (fun hq=>?_) fun hq=>?_) <;> (try simp only [hqs] at hq) <;> (first | omega | conv=>whnf)) | refine cr (hnc) ?_ | refine cr (hD) ?_ | refine co (hE) ?_)))
    exact ⟨(i + 1,w2,q3),⟨by dsimp only;omega,hdo,by dsimp only;omega,by dsimp only;omega⟩,by dsimp only;omega,rfl⟩
   | true=>
    have hE:ConV Tryz.prog 35 [.ptr 4 0,wrlA w] [(4,rdB b (q2 + 1))] (.agg [.int .i64 e.kind,.int .i64 e.a,.int .i64 e.b,.int .i64 e.v.round,.int .i64 e.v.author,.nils,.int .i64 e.v.digest]) [(4,rdB b q3)]:=hE
    rw [e4 rfl] at hD
    generalize sDo w e = w2 at *
    (repeat (any_goals (first | refine st ?_ | (refine go2 fun xe hxe=>?_;conv=>whnf) | ((with_reducible refine cnd_i (fun hq=>?_) fun hq=>?_) <;> (try simp only [hqs] at hq) <;> (first | omega | conv=>whnf)) | refine cr (hnc) ?_ | refine cr (hD) ?_ | refine co (hE) ?_)))
    exact ⟨(i + 1,w2,q3),⟨by dsimp only;omega,hdo,by dsimp only;omega,by dsimp only;omega⟩,by dsimp only;omega,rfl⟩
  ·(repeat (any_goals (first | refine st ?_ | (refine go2 fun xe hxe=>?_;conv=>whnf) | ((with_reducible refine cnd_i (fun hq=>?_) fun hq=>?_) <;> (try simp only [hqs] at hq) <;> (first | omega | conv=>whnf)) | refine cr (hnc) ?_)))
   exact ⟨(w,q2 + 1),⟨by dsimp only;omega,by dsimp only;omega,hi2⟩,rfl,rfl⟩
def WSm (w:Wrl):Prop:=w.com.length ≤ 1000 ∧ ∀ g ∈ w.views,g.length ≤ 1000
theorem WOK.sm {w:Wrl} (h:WOK w):WSm w:=⟨by have:=h.len;omega,fun g hg=>by have:=h.vl g hg;omega⟩
theorem cut_mem {α:Type} {xs:List α} {lo hi:Option V} {a b:Nat} {x:α} (h:x ∈ cutL xs lo hi a b):x ∈ xs:=by
 unfold cutL at h
 split at h
 ·exact h
 ·exact List.mem_of_mem_take h
 ·exact List.mem_of_mem_drop h
 ·exact List.mem_of_mem_take (List.mem_of_mem_drop h)
theorem cut_len {α:Type} (xs:List α) (lo hi:Option V) (a b:Nat):(cutL xs lo hi a b).length ≤ xs.length:=by
 unfold cutL
 split
 ·omega
 ·rw [List.length_take];omega
 ·rw [List.length_drop];omega
 ·rw [List.length_drop,List.length_take];omega
theorem wsm_cut {vs:List (List Vtx)} {lo hi:Option V} {a b:Nat} (h:∀ g ∈ vs,g.length ≤ 1000):∀ g ∈ cutL vs lo hi a b,g.length ≤ 1000:=fun g hg=>h g (cut_mem hg)
theorem wsm_set {vs:List (List Vtx)} {k k2:Nat} {g0:List Vtx} {lo hi:Option V} {a b:Nat} (h:∀ g ∈ vs,g.length ≤ 1000) (hx:vs[k2]? = some g0):∀ g ∈ vs.set k (cutL g0 lo hi a b),g.length ≤ 1000:=fun g hg=>by
 rcases mem_set hg with rfl | hg
 ·have h1:=cut_len g0 lo hi a b
  have h2:=h g0 (List.mem_of_getElem? hx)
  omega
 ·exact h g hg
theorem wrg_i {b:List Int} {p q:Int} {c l:List Int} {bd:Int} {vs:List (List Vtx)} {ps:List Ppl} (h1:p ≤ q ∧ q ≤ p + 6100) (h2:c.length ≤ 1000) (h3:∀ g ∈ vs,g.length ≤ 1000):∃ x:Wrl × Int,(p ≤ x.2 ∧ x.2 ≤ p + 6100 ∧ WSm x.1) ∧ V.agg [.lst (.int .i64) c,.lst (.int .i64) l,.int .i64 bd,.lst (.lst .vtx) vs,.lst .ppl ps] = wrlA x.1 ∧ ([(4,rdB b q)]:VH) = [(4,rdB b x.2)]:=⟨(⟨c,l,bd,vs,ps⟩,q),⟨h1.1,h1.2,h2,h3⟩,rfl,rfl⟩
set_option maxHeartbeats 1000000 in
theorem dwrg_c (b:List Int) (p:Int) (h:rdOK b 0) (hp:0 ≤ p ∧ p ≤ 400000):∃ x:Wrl × Int,(p ≤ x.2 ∧ x.2 ≤ p + 6100 ∧ WSm x.1) ∧ ConV Tryz.prog 14 [.ptr 4 0] [(4,rdB b p)] (wrlA x.1) [(4,rdB b x.2)]:=by
 obtain ⟨⟨w,q⟩,⟨h1,h2,h3⟩,hB⟩:=dwld_c b p h (by omega)
 dsimp only at h1 h2 h3 hB
 have hC:=scpo_c w h3
 have h7:=h3.len
 have hvl:=h3.vlen
 have hpl:=h3.plen
 have hll:=(leaS_iff.1 h3.lead).2
 have hsm:=h3.sm
 suffices hs:∃ r hout,(∃ x:Wrl × Int,(p ≤ x.2 ∧ x.2 ≤ p + 6100 ∧ WSm x.1) ∧ r = wrlA x.1 ∧ hout = [(4,rdB b x.2)]) ∧ ConV Tryz.prog 14 [.ptr 4 0] [(4,rdB b p)] r hout by
  obtain ⟨r,hout,⟨v,hv,rfl,rfl⟩,h⟩:=hs
  exact ⟨v,hv,h⟩
 refine con_ex Θ_ok Tryz.func14 rfl rfl true 1 5 rfl rfl rfl rfl (R:=fun r hout=>∃ x:Wrl × Int,(p ≤ x.2 ∧ x.2 ≤ p + 6100 ∧ WSm x.1) ∧ r = wrlA x.1 ∧ hout = [(4,rdB b x.2)]) (r0:=wrlA w) (hout0:=[(4,rdB b p)]) (⟨(w,p),⟨by dsimp only;omega,by dsimp only;omega,hsm⟩,rfl,rfl⟩) fun K hK hb1 hb2=>?_;simp only [argsV,enc,Nat.reduceAdd]
 clear hb1 hb2
 (repeat (any_goals (first | refine st ?_ | (refine go2 fun xe hxe=>?_;conv=>whnf) | ((with_reducible refine cnd_i (fun hq=>?_) fun hq=>?_) <;> (try simp only [hqs] at hq) <;> (first | omega | conv=>whnf)) | refine cr (hC) ?_ | ((with_reducible refine call_r ?_);(conv=>whnf);(first | refine call_ex (pk_c b _ _ h (by omega) (by omega)) fun xv hxv=>?_ | refine call_ex (ddig_c b _ h (by omega)) fun xv hxv=>?_ | refine call_ex (dmem_c b _ _ h (by omega) (by omega)) fun xv hxv=>?_);conv=>whnf) | refine co (hB) ?_)))
 all_goals refine wrg_i ?_ ?_ ?_
 all_goals first | omega | (rw [List.length_set];omega) | omega | exact hsm.2 | exact wsm_cut hsm.2 | exact wsm_set hsm.2 hxe | (exact wsm_set hsm.2 (by assumption))
end Go.Proofs.YtncmbiacjeicpaaGreatDoor.Am
namespace Go.Proofs.YtncmbiacjeicpaaGreatDoor.Am
open Go
attribute [local irreducible] Mk Need Ari Get Idx Cnd CallM CallA Opt Unch At ConV
set_option maxRecDepth 10000
theorem hasI_c (l:List Int) (n:Int):ConV Tryz.prog 10 [.lst (.int .i64) l,.int .i64 n] [] (.bool (l.contains n)) []:=by
 refine con_eq Θ_ok Tryz.func10 rfl rfl false 0 4 rfl rfl rfl rfl fun K hK hb1 hb2=>?_;simp only [argsV,enc,Nat.reduceAdd]
 simp [toDL,V.toD,bnd,encD,D.cells] at hb1
 (repeat (any_goals (first | refine st ?_ | (refine go2 fun xe hxe=>?_;conv=>whnf) | ((with_reducible refine cnd_i (fun hq=>?_) fun hq=>?_) <;> (try simp only [hqs] at hq) <;> (first | omega | conv=>whnf)))))
 refine at_loop hK [] [0,1,5] (fun i:Nat=>⟨[(0,.lst (.int .i64) l),(1,.int .i64 n),(5,.int .i64 i)],[],4⟩) (fun i=>i ≤ l.length ∧ ∀ y ∈ l.take i,(y == n) = false) (fun i=>l.length - i) 0 ⟨by simp,by simp⟩ rfl ?_
 rintro i ⟨hi,hall⟩
 by_cases hlt:i < l.length
 ·have hxe:l[i]? = some l[i]:=List.getElem?_eq_getElem hlt
  have hsn:l.take (i + 1) = l.take i ++ [l[i]]:=List.take_succ_eq_append_getElem hlt
  have hm:l[i] ∈ l:=List.getElem_mem hlt
  generalize l[i] = x at *
  by_cases h:x = n
  ·subst h
   (repeat (any_goals (first | refine st ?_ | (refine go2 fun xe hxe=>?_;conv=>whnf) | ((with_reducible refine cnd_i (fun hq=>?_) fun hq=>?_) <;> (try simp only [hqs] at hq) <;> (first | omega | conv=>whnf)))))
   ·rw [List.contains_iff_mem.2 hm]
    exact ⟨rfl,rfl⟩
   ·exact absurd trivial hq
  ·(repeat (any_goals (first | refine st ?_ | (refine go2 fun xe hxe=>?_;conv=>whnf) | ((with_reducible refine cnd_i (fun hq=>?_) fun hq=>?_) <;> (try simp only [hqs] at hq) <;> (first | omega | conv=>whnf)))))
   exact ⟨i + 1,⟨by omega,by rw [hsn];exact tk_snoc hall (by simpa using h)⟩,by omega,rfl⟩
 ·(repeat (any_goals (first | refine st ?_ | (refine go2 fun xe hxe=>?_;conv=>whnf) | ((with_reducible refine cnd_i (fun hq=>?_) fun hq=>?_) <;> (try simp only [hqs] at hq) <;> (first | omega | conv=>whnf)))))
  rw [List.take_of_length_le (by omega)] at hall
  have:l.contains n = false:=by
   rw [Bool.eq_false_iff]
   intro h
   have:=hall _ (List.contains_iff_mem.1 h)
   simp at this
  rw [this]
  exact ⟨rfl,rfl⟩
end Go.Proofs.YtncmbiacjeicpaaGreatDoor.Am
namespace Go.Proofs.YtncmbiacjeicpaaGreatDoor.Am
open Go
attribute [local irreducible] Mk Need Ari Get Idx Cnd CallM CallA Opt Unch At ConV
set_option maxRecDepth 10000
end Go.Proofs.YtncmbiacjeicpaaGreatDoor.Am
namespace Go.Proofs.YtncmbiacjeicpaaGreatDoor.Am
open Go
theorem fit_two {w:Wrl} (hw:WOK w) {i k:Nat} {p q:Ppl} (hk:k < i) (hp:w.props[i]? = some p) (hq:w.props[k]? = some q) (h1:p.v.round = q.v.round) (h2:p.v.author = q.v.author):p.v.author = w.bad ∧ both w.bad p.members q.members = false:=by
 have h:=pw_get hw.fit hk hq hp
 unfold fitP at h
 rw [slt_iff.2 ⟨h1,h2⟩] at h
 have h:vEq p.v q.v = false ∧ p.v.author = w.bad ∧ both w.bad p.members q.members = false:=by simpa using h
 exact h.2
theorem ins_wei {c:List Int}:∀ {ms:List Int} {m:Int},m ∉ ms → wei c (insM ms m) = wei c ms + c.getD m.toNat 0
 | [],m,_=>by simp [insM,wei]
 | x :: l,m,h=>by
  simp only [List.mem_cons,not_or] at h
  unfold insM
  split
  ·have:=ins_wei (c:=c) h.2
   simp only [wei,List.map_cons,List.sum_cons] at this ⊢
   omega
  ·rw [if_neg fun e=>h.1 e.symm]
   simp only [wei,List.map_cons,List.sum_cons]
   omega
theorem all_wei (c:List Int):wei c ((List.range c.length).map fun i:Nat=>(i:Int)) = tot c:=by
 have:((List.range c.length).map fun i:Nat=>(i:Int)).map (fun m=>c.getD m.toNat 0) = c:=by
  apply List.ext_getElem?
  intro i
  simp only [List.map_map,List.getElem?_map]
  rcases Nat.lt_or_ge i c.length with h | h
  ·rw [List.getElem?_range h,List.getElem?_eq_getElem h]
   simp [List.getD_eq_getElem?_getD,List.getElem?_eq_getElem h]
  ·rw [List.getElem?_eq_none (by simpa using h),List.getElem?_eq_none h]
   rfl
 unfold wei tot
 rw [this]
theorem asc_nodup {l:List Int} (h:l.Pairwise (· < ·)):l.Nodup:=h.imp fun h=>by omega
theorem two_wei {c a b:List Int} (hc:∀ x ∈ c,0 ≤ x) (ha:a.Pairwise (· < ·)) (hb:b.Pairwise (· < ·)) (ha1:∀ x ∈ a,0 ≤ x ∧ x < c.length) (hb1:∀ x ∈ b,0 ≤ x ∧ x < c.length) (hd:∀ x ∈ a,x ∉ b):wei c a + wei c b ≤ tot c:=by
 have key:∀ b:List Int,b.Nodup → (∀ x ∈ b,0 ≤ x ∧ x < c.length) → (∀ x ∈ a,x ∉ b) → ∃ l:List Int,l.Pairwise (· < ·) ∧ (∀ x,x ∈ l ↔ x ∈ a ∨ x ∈ b) ∧ wei c l = wei c a + wei c b:=by
  intro b
  induction b with
  | nil=>exact fun _ _ _=>⟨a,ha,fun x=>by simp,by simp [wei]⟩
  | cons y b ih=>
   intro h1 h2 h3
   obtain ⟨n1,n2⟩:=List.nodup_cons.1 h1
   obtain ⟨l,l1,l2,l3⟩:=ih n2 (fun x hx=>h2 x (by simp [hx])) fun x hx hb=>h3 x hx (by simp [hb])
   refine ⟨insM l y,insM_asc l1,fun x=>?_,?_⟩
   ·rw [insM_mem,l2,List.mem_cons]
    constructor
    ·rintro (h | h | h)
     ·exact .inr (.inl h)
     ·exact .inl h
     ·exact .inr (.inr h)
    ·rintro (h | h | h)
     ·exact .inr (.inl h)
     ·exact .inl h
     ·exact .inr (.inr h)
   ·rw [ins_wei (fun h=>(l2 y).1 h |>.elim (fun ha=>h3 y ha (by simp)) n1),l3]
    simp only [wei,List.map_cons,List.sum_cons]
    omega
 obtain ⟨l,l1,l2,l3⟩:=key b (asc_nodup hb) hb1 hd
 rw [← l3,← all_wei]
 refine wei_le hc l1 ?_ fun x hx=>?_
 ·rw [List.pairwise_map]
  exact List.pairwise_lt_range.imp fun h=>by omega
 ·have:0 ≤ x ∧ x < c.length:=((l2 x).1 hx).elim (ha1 x) (hb1 x)
  exact List.mem_map.2 ⟨x.toNat,List.mem_range.2 (by omega),by omega⟩
theorem wei_but {c:List Int} {b:Int}:∀ {a:List Int},a.Nodup → wei c a = wei c (a.filter fun m=>m != b) + if b ∈ a then c.getD b.toNat 0 else 0
 | [],_=>by simp [wei]
 | x :: l,h=>by
  obtain ⟨h1,h2⟩:=List.nodup_cons.1 h
  have ih:=wei_but (c:=c) (b:=b) h2
  by_cases e:x = b
  ·subst e
   rw [if_neg h1] at ih
   rw [if_pos (by simp),List.filter_cons,if_neg (by simp)]
   simp only [wei,List.map_cons,List.sum_cons] at ih ⊢
   omega
  ·rw [List.filter_cons,if_pos (by simpa using e)]
   have:(b ∈ x :: l) = (b ∈ l):=by simp [Ne.symm e]
   simp only [this]
   simp only [wei,List.map_cons,List.sum_cons] at ih ⊢
   omega
theorem quo_meet {c a b:List Int} {bad:Int} (hc:comV c = true) (hbad:badS c bad = true) (ha:mems c a = true) (hb:mems c b = true) (h1:quo c ≤ wei c a) (h2:quo c ≤ wei c b):both bad a b = true:=by
 cases hbo:both bad a b with
 | true=>rfl
 | false=>
  exfalso
  have hno:∀ m ∈ a,m ≠ bad → m ∉ b:=fun m hm hne hmb=>by
   have:=both_iff.2 ⟨m,hne,hm,hmb⟩
   rw [hbo] at this
   cases this
  have a1:=mems_asc ha
  have a2:=mems_in ha
  have hp:=(comV_iff.1 hc).1
  have hw:=wei_but (c:=c) (b:=bad) (asc_nodup a1)
  have ht:=two_wei (c:=c) (a:=a.filter fun m=>m != bad) (b:=b) (fun x hx=>by have:=hp x hx;omega) (a1.filter _) (mems_asc hb) (fun x hx=>a2 x ((List.mem_filter.1 hx).1)) (mems_in hb) fun x hx=>hno x ((List.mem_filter.1 hx).1) (by simpa using (List.mem_filter.1 hx).2)
  have hf:=fau_bd hc
  have hle:(if bad ∈ a then c.getD bad.toNat 0 else 0) ≤ fau c:=by
   split
   ·rename_i hm
    rcases badS_iff.1 hbad with h | ⟨-,h⟩
    ·have:=a2 _ hm;omega
    ·exact h
   ·exact hf.1
  have hq:quo c = 2 * tot c / 3 + 1:=by
   have:=tot_bd hc
   unfold quo
   rw [Int.tdiv_eq_ediv_of_nonneg (by omega)]
  omega
theorem done_slot {w:Wrl} (hw:WOK w) {i k:Nat} {p q:Ppl} (hk:k < i) (hp:w.props[i]? = some p) (hq:w.props[k]? = some q) (d1:don w.com p = true) (d2:don w.com q = true) (h1:p.v.round = q.v.round) (h2:p.v.author = q.v.author):False:=by
 have h:=(fit_two hw hk hp hq h1 h2).2
 have m1:=(one_of hw (List.mem_of_getElem? hp)).2
 have m2:=(one_of hw (List.mem_of_getElem? hq)).2
 rw [quo_meet hw.com hw.bad m1 m2 (by simpa [don] using d1) (by simpa [don] using d2)] at h
 cases h
end Go.Proofs.YtncmbiacjeicpaaGreatDoor.Am
namespace Go.Proofs.YtncmbiacjeicpaaGreatDoor.Am
open Go
def still (w:Wrl):Prop:=∀ m i:Nat,m < w.com.length → i < w.props.length → delB w m i = false
theorem sDel_le {w:Wrl} (h:WOK w) (m i:Int):tsz w ≤ tsz (sDel w m i):=by
 rcases sDel_cases h m i with ⟨-,e⟩ | ⟨-,e⟩
 ·rw [e];exact Nat.le_refl _
 ·omega
theorem delTo_eq {w:Wrl} (h:WOK w) (i:Int):∀ n:Nat,tsz (delTo w i n) ≤ tsz w → delTo w i n = w ∧ ∀ m:Nat,m < n → delB w m i = false
 | 0,_=>⟨rfl,fun m hm=>absurd hm (Nat.not_lt_zero m)⟩
 | n + 1,ht=>by
  have ho:=delTo_ok h i n
  have h1:=sDel_le ho n i
  have ht:tsz (sDel (delTo w i n) n i) ≤ tsz w:=ht
  obtain ⟨e1,e2⟩:=delTo_eq h i n (by omega)
  show sDel (delTo w i n) n i = w ∧ _
  rw [e1] at ht ⊢
  rcases sDel_cases h n i with ⟨d1,d2⟩ | ⟨d1,d2⟩
  ·refine ⟨d2,fun m hm=>?_⟩
   rcases Nat.lt_or_ge m n with hlt | hge
   ·exact e2 m hlt
   ·obtain rfl:m = n:=by omega
    exact d1
  ·omega
theorem passTo_eq {w:Wrl} (h:WOK w):∀ k:Nat,tsz (passTo w k) ≤ tsz w → passTo w k = w ∧ ∀ i m:Nat,i < k → m < w.com.length → delB w m i = false
 | 0,_=>⟨rfl,fun i _ hi _=>absurd hi (Nat.not_lt_zero i)⟩
 | k + 1,ht=>by
  have ho:=passTo_ok h k
  have h1:=delTo_le ho k (passTo w k).com.length
  have ht:tsz (delTo (passTo w k) k (passTo w k).com.length) ≤ tsz w:=ht
  obtain ⟨e1,e2⟩:=passTo_eq h k (by omega)
  show delTo (passTo w k) k (passTo w k).com.length = w ∧ _
  rw [e1] at ht ⊢
  obtain ⟨d1,d2⟩:=delTo_eq h k _ ht
  refine ⟨d1,fun i m hi hm=>?_⟩
  rcases Nat.lt_or_ge i k with hlt | hge
  ·exact e2 i m hlt hm
  ·obtain rfl:i = k:=by omega
   exact d2 m hm
theorem sSpr_still:∀ (n:Nat) {w:Wrl},1519 - tsz w ≤ n → WOK w → still (sSpr w):=by
 have fin:∀ {w:Wrl},WOK w → ¬ (tsz w < tsz (pass w) ∧ tsz (pass w) ≤ 1519) → still (pass w):=fun {w} h hn=>by
  have:=tsz_le (pass_ok h)
  obtain ⟨e1,e2⟩:=passTo_eq h w.props.length (show tsz (pass w) ≤ tsz w by omega)
  have e1:pass w = w:=e1
  rw [e1]
  exact fun m i hm hi=>e2 i m hi hm
 intro n
 induction n with
 | zero=>
  intro w hn h
  rw [sSpr]
  split
  ·omega
  ·rename_i hh
   exact fin h hh
 | succ n ih=>
  intro w hn h
  rw [sSpr]
  split
  ·exact ih (by omega) (pass_ok h)
  ·rename_i hh
   exact fin h hh
theorem calmTo_still {w:Wrl} (h:WOK w):∀ r,still (calmTo w r)
 | 0=>sSpr_still _ (Nat.le_refl _) h
 | r + 1=>sSpr_still _ (Nat.le_refl _) (votsTo_ok (prpTo_ok (rnd1_ok (calmTo_ok h r)) _ _) _)
theorem vot_good {w:Wrl} (hw:WOK w) {p:Ppl} (hp:p ∈ w.props) (hd:don w.com p = true):∃ m:Nat,(m:Int) ∈ p.members ∧ (m:Int) ≠ w.bad ∧ m < w.com.length:=by
 have hm:=(one_of hw hp).2
 have hq:quo w.com ≤ wei w.com p.members:=by simpa [don] using hd
 by_cases hx:∃ m ∈ p.members,m ≠ w.bad
 ·obtain ⟨m,h1,h2⟩:=hx
  have:=mems_in hm m h1
  exact ⟨m.toNat,by rw [Int.toNat_of_nonneg this.1];exact h1,by rw [Int.toNat_of_nonneg this.1];exact h2,by omega⟩
 ·exfalso
  have hf:p.members.filter (fun m=>m != w.bad) = []:=List.filter_eq_nil_iff.2 fun m h1 h2=>hx ⟨m,h1,by simpa using h2⟩
  have h1:=wei_but (c:=w.com) (b:=w.bad) (asc_nodup (mems_asc hm))
  rw [hf] at h1
  have hle:(if w.bad ∈ p.members then w.com.getD w.bad.toNat 0 else 0) ≤ fau w.com:=by
   have hb:=fau_bd hw.com
   split
   ·rename_i h2
    rcases badS_iff.1 hw.bad with h | ⟨-,h⟩
    ·have:=mems_in hm _ h2;omega
    ·exact h
   ·exact hb.1
  have hb:=fau_bd hw.com
  have ht:=tot_bd hw.com
  have:quo w.com = 2 * tot w.com / 3 + 1:=by
   unfold quo
   rw [Int.tdiv_eq_ediv_of_nonneg (by omega)]
  have h0:wei w.com [] = 0:=rfl
  omega
theorem done_eq {w:Wrl} (hw:WOK w) {p q:Ppl} (hp:p ∈ w.props) (hq:q ∈ w.props) (dp:don w.com p = true) (dq:don w.com q = true) (h1:p.v.round = q.v.round) (h2:p.v.author = q.v.author):p = q:=by
 obtain ⟨i,hi⟩:=List.getElem?_of_mem hp
 obtain ⟨k,hk⟩:=List.getElem?_of_mem hq
 rcases Nat.lt_trichotomy i k with h | h | h
 ·exact (done_slot hw h hk hi dq dp h1.symm h2.symm).elim
 ·subst h
  rw [hi] at hk
  exact Option.some.inj hk
 ·exact (done_slot hw h hi hk dp dq h1 h2).elim
theorem view_gd {w:Wrl} (hw:WOK w) {m:Nat} (hm:m < w.com.length):w.views.getD m [] ∈ w.views:=gd_mem (by rw [hw.vlen];exact hm)
theorem still_all {w:Wrl} (hw:WOK w) (hs:still w):∀ (n:Nat) (p:Ppl),p ∈ w.props → don w.com p = true → p.v.round.toNat = n → ∀ m:Nat,m < w.com.length → (m:Int) ≠ w.bad → p.v ∈ w.views.getD m []:=by
 intro n
 induction n using Nat.strongRecOn with
 | ind n ih=>
  intro p hp hd hn m hm hb
  obtain ⟨i,hi⟩:=List.getElem?_of_mem hp
  have hil:=(List.getElem?_eq_some_iff.1 hi).1
  have hdel:=hs m i hm hil
  have hgood:good w m = true:=good_iff.2 ⟨⟨by omega,by omega⟩,hb⟩
  have hin:inP w i = true:=vIn_iff.2 ⟨by omega,by omega⟩
  have hpr:prop w i = p:=by unfold prop;rw [Int.toNat_natCast];exact getD_of hi
  have hvw:view w m = w.views.getD m []:=by unfold view;rw [Int.toNat_natCast]
  unfold delB at hdel
  rw [hgood,hin,hpr,hd,hvw] at hdel
  simp only [Bool.true_and] at hdel
  obtain ⟨k,k1,k2,k3⟩:=vot_good hw hp hd
  have hkp:=hw.kp p hp k (by rw [hw.vlen];exact k3) k2 (.inr k1)
  have hpar:parOK (w.views.getD m []) p.v = true:=by
   rw [parOK_iff] at hkp ⊢
   intro q hq
   obtain ⟨u,u1,u2,u3⟩:=hasV_iff.1 (hkp q hq)
   obtain ⟨p',q1,q2,rfl⟩:=hw.knw _ (view_gd hw k3) u u1
   have h0:=(vtxS_ok (one_of hw q1).1).1.1
   exact hasV_iff.2 ⟨_,ih _ (by omega) p' q1 q2 rfl m hm hb,u2,u3⟩
  rw [hpar] at hdel
  have hh:hasV (w.views.getD m []) p.v.round p.v.author = true:=by
   cases h:hasV (w.views.getD m []) p.v.round p.v.author with
   | true=>rfl
   | false=>rw [h] at hdel;cases hdel
  obtain ⟨u,u1,u2,u3⟩:=hasV_iff.1 hh
  obtain ⟨p',q1,q2,rfl⟩:=hw.knw _ (view_gd hw hm) u u1
  rw [done_eq hw hp q1 hd q2 u2.symm u3.symm]
  exact u1
end Go.Proofs.YtncmbiacjeicpaaGreatDoor.Am
namespace Go.Proofs.YtncmbiacjeicpaaGreatDoor.Am
open Go
theorem insM_len:∀ (l:List Int) (m:Int),(insM l m).length = l.length + (if m ∈ l then 0 else 1) ∨ (insM l m).length = l.length + 1
 | [],m=>.inr rfl
 | x :: l,m=>by
  unfold insM
  split
  ·rename_i h
   rcases insM_len l m with ih | ih
   ·by_cases hm:m ∈ l
    ·rw [if_pos hm] at ih
     exact .inl (by rw [if_pos (by simp [hm])];simp [ih])
    ·rw [if_neg hm] at ih
     exact .inr (by simp [ih])
   ·exact .inr (by simp [ih])
  ·split
   ·rename_i h
    exact .inl (by rw [if_pos (by simp [h])];simp)
   ·exact .inr rfl
theorem pro_facts {w:Wrl} (_:WOK w) (e:Evt):∃ (i0 d n:Nat),n + d ≤ 1 ∧ (sDo w e).props.length = w.props.length + n ∧ ∀ (k:Nat) (p:Ppl),w.props[k]? = some p → ∃ l,(sDo w e).props[k]? = some ⟨p.v,l⟩ ∧ (∀ m ∈ p.members,m ∈ l) ∧ l.length = p.members.length + (if k = i0 then d else 0):=by
 have same:∀ u:Wrl,u.props = w.props → ∃ (i0 d n:Nat),n + d ≤ 1 ∧ u.props.length = w.props.length + n ∧ ∀ (k:Nat) (p:Ppl),w.props[k]? = some p → ∃ l,u.props[k]? = some ⟨p.v,l⟩ ∧ (∀ m ∈ p.members,m ∈ l) ∧ l.length = p.members.length + (if k = i0 then d else 0):=fun u hu=>
  ⟨0,0,0,by omega,by rw [hu];rfl,fun k p hp=>⟨p.members,by rw [hu];exact hp,fun _ h=>h,by simp⟩⟩
 have app:∀ v,∃ (i0 d n:Nat),n + d ≤ 1 ∧ (addP w v).props.length = w.props.length + n ∧ ∀ (k:Nat) (p:Ppl),w.props[k]? = some p → ∃ l,(addP w v).props[k]? = some ⟨p.v,l⟩ ∧ (∀ m ∈ p.members,m ∈ l) ∧ l.length = p.members.length + (if k = i0 then d else 0):=fun v=>
  ⟨0,0,1,by omega,by simp [addP],fun k p hp=>⟨p.members,by show (w.props ++ _)[k]? = _;rw [List.getElem?_append_left (List.getElem?_eq_some_iff.1 hp).1];exact hp,fun _ h=>h,by simp⟩⟩
 have cnt:∀ i m,inP w i = true → ∃ (i0 d n:Nat),n + d ≤ 1 ∧ (sCnt w i m).props.length = w.props.length + n ∧ ∀ (k:Nat) (p:Ppl),w.props[k]? = some p → ∃ l,(sCnt w i m).props[k]? = some ⟨p.v,l⟩ ∧ (∀ m ∈ p.members,m ∈ l) ∧ l.length = p.members.length + (if k = i0 then d else 0):=fun i m hi=>by
  obtain ⟨h1,h2,-⟩:=prop_at hi
  obtain ⟨d,hd,hl⟩:∃ d,d ≤ 1 ∧ (insM (prop w i).members m).length = (prop w i).members.length + d:=by
   rcases insM_len (prop w i).members m with h | h
   ·split at h
    ·exact ⟨0,by omega,h⟩
    ·exact ⟨1,by omega,h⟩
   ·exact ⟨1,by omega,h⟩
  refine ⟨i.toNat,d,0,by omega,by simp [sCnt],fun k p hp=>?_⟩
  show ∃ l,(w.props.set i.toNat _)[k]? = _ ∧ _
  rw [List.getElem?_set]
  by_cases e:i.toNat = k
  ·subst e
   rw [h2] at hp
   obtain rfl:=Option.some.inj hp
   rw [if_pos rfl,if_pos h1,if_pos rfl]
   exact ⟨_,rfl,fun x hx=>insM_mem.2 (.inr hx),hl⟩
  ·rw [if_neg e,if_neg (Ne.symm e)]
   exact ⟨p.members,hp,fun _ h=>h,rfl⟩
 unfold sDo
 split
 ·unfold sPrp
  split
  ·exact app _
  ·exact same _ rfl
 split
 ·unfold sVot
  split
  ·rename_i hb
   unfold votB at hb
   simp only [Bool.and_eq_true] at hb
   exact cnt _ _ hb.2.1
  ·exact same _ rfl
 split
 ·unfold sDel
  split
  ·exact same _ rfl
  ·exact same _ rfl
 split
 ·unfold sFrg
  split
  ·exact app _
  ·exact same _ rfl
 split
 ·unfold sBad
  split
  ·rename_i hb
   unfold badB at hb
   simp only [Bool.and_eq_true] at hb
   exact cnt _ _ hb.2
  ·exact same _ rfl
 ·exact same _ rfl
end Go.Proofs.YtncmbiacjeicpaaGreatDoor.Am
namespace Go.Proofs.YtncmbiacjeicpaaGreatDoor.Am
open Go
structure Grw (w u:Wrl):Prop where
 com:u.com = w.com
 lead:u.lead = w.lead
 bad:u.bad = w.bad
 vlen:u.views.length = w.views.length
 views:∀ m:Nat,∀ v ∈ w.views.getD m [],v ∈ u.views.getD m []
 props:∀ (k:Nat) (p:Ppl),w.props[k]? = some p → ∃ l,u.props[k]? = some ⟨p.v,l⟩ ∧ ∀ m ∈ p.members,m ∈ l
theorem Grw.refl (w:Wrl):Grw w w:=⟨rfl,rfl,rfl,rfl,fun _ _ h=>h,fun _ p h=>⟨p.members,h,fun _ h=>h⟩⟩
theorem Grw.trans {w u x:Wrl} (h1:Grw w u) (h2:Grw u x):Grw w x:=by
 refine ⟨h2.com.trans h1.com,h2.lead.trans h1.lead,h2.bad.trans h1.bad,h2.vlen.trans h1.vlen,fun m v h=>h2.views m v (h1.views m v h),fun k p h=>?_⟩
 obtain ⟨l,a1,a2⟩:=h1.props k p h
 obtain ⟨l2,b1,b2⟩:=h2.props k _ a1
 exact ⟨l2,b1,fun m hm=>b2 m (a2 m hm)⟩
theorem Grw.plen {w u:Wrl} (h:Grw w u):w.props.length ≤ u.props.length:=by
 rcases Nat.lt_or_ge u.props.length w.props.length with hlt | hge
 ·obtain ⟨l,a1,-⟩:=h.props u.props.length _ (List.getElem?_eq_getElem hlt)
  have:=(List.getElem?_eq_some_iff.1 a1).1
  omega
 ·exact hge
theorem grw_do {w:Wrl} (hw:WOK w) (e:Evt):Grw w (sDo w e):=by
 obtain ⟨c1,c2,c3,c4⟩:=sDo_same w e
 obtain ⟨_,_,_,-,-,hp⟩:=pro_facts hw e
 refine ⟨c1,c2,c3,c4,fun m v hv=>?_,fun k p h=>?_⟩
 ·by_cases h3:e.kind = 3
  ·have hd:sDo w e = sDel w e.a e.b:=by unfold sDo;rw [if_neg (by omega),if_neg (by omega),if_pos h3]
   rw [hd]
   cases hb:delB w e.a e.b
   ·have:sDel w e.a e.b = w:=by unfold sDel;rw [hb];rfl
    rw [this]
    exact hv
   ·have hs:(sDel w e.a e.b).views = w.views.set e.a.toNat (insV (view w e.a) (prop w e.b).v):=by unfold sDel;rw [hb];rfl
    rw [hs]
    have hg:good w e.a = true:=by
     simp only [delB,Bool.and_eq_true] at hb
     exact hb.1
    have hvl:=(hw.view hg).2.2
    rw [List.getD_eq_getElem?_getD,List.getElem?_set]
    by_cases em:e.a.toNat = m
    ·subst em
     rw [if_pos rfl,if_pos hvl]
     exact insV_mem.2 (.inr hv)
    ·rw [if_neg em,← List.getD_eq_getElem?_getD]
     exact hv
  ·have:(sDo w e).views = w.views:=by
    unfold sDo
    rw [if_neg h3]
    (repeat' split) <;> first | rfl | (simp only [sPrp,sVot,sFrg,sBad,sCnt,addP];split <;> rfl)
   rw [this]
   exact hv
 ·obtain ⟨l,a1,a2,-⟩:=hp k p h
  exact ⟨l,a1,a2⟩
theorem grw_prp {w:Wrl} (hw:WOK w) (m d:Int):Grw w (sPrp w m d):=by
 have:=grw_do hw ⟨1,m,d,v0⟩
 exact this
theorem grw_vot {w:Wrl} (hw:WOK w) (m i:Int):Grw w (sVot w m i):=by
 have:=grw_do hw ⟨2,m,i,v0⟩
 exact this
theorem grw_del {w:Wrl} (hw:WOK w) (m i:Int):Grw w (sDel w m i):=by
 have:=grw_do hw ⟨3,m,i,v0⟩
 exact this
theorem grw_delTo {w:Wrl} (hw:WOK w) (i:Int):∀ n,Grw w (delTo w i n)
 | 0=>Grw.refl w
 | n + 1=>(grw_delTo hw i n).trans (grw_del (delTo_ok hw i n) _ _)
theorem grw_passTo {w:Wrl} (hw:WOK w):∀ k,Grw w (passTo w k)
 | 0=>Grw.refl w
 | k + 1=>(grw_passTo hw k).trans (grw_delTo (passTo_ok hw k) _ _)
theorem grw_spr:∀ (n:Nat) {w:Wrl},1519 - tsz w ≤ n → WOK w → Grw w (sSpr w):=by
 intro n
 induction n with
 | zero=>
  intro w hn h
  rw [sSpr]
  split
  ·rename_i hh
   exact absurd hh (by omega)
  ·exact grw_passTo h _
 | succ n ih=>
  intro w hn h
  rw [sSpr]
  split
  ·rename_i hh
   have hh1:=hh.1
   exact (grw_passTo h _).trans (ih (w:=pass w) (by omega) (pass_ok h))
  ·exact grw_passTo h _
theorem grw_votTo {w:Wrl} (hw:WOK w) (i:Int):∀ n,Grw w (votTo w i n)
 | 0=>Grw.refl w
 | n + 1=>(grw_votTo hw i n).trans (grw_vot (votTo_ok hw i n) _ _)
theorem grw_votsTo {w:Wrl} (hw:WOK w):∀ k,Grw w (votsTo w k)
 | 0=>Grw.refl w
 | k + 1=>(grw_votsTo hw k).trans (grw_votTo (votsTo_ok hw k) _ _)
theorem grw_prpTo {w:Wrl} (hw:WOK w) (r:Nat):∀ n,Grw w (prpTo w r n)
 | 0=>Grw.refl w
 | n + 1=>(grw_prpTo hw r n).trans (grw_prp (prpTo_ok hw r n) _ _)
theorem grw_rnd1 {w:Wrl} (hw:WOK w):Grw w (rnd1 w):=(grw_votsTo hw _).trans (grw_spr _ (Nat.le_refl _) (votsTo_ok hw _))
theorem grw_rnd {w:Wrl} (hw:WOK w) (r:Nat):Grw w (rnd w r):=((grw_rnd1 hw).trans (grw_prpTo (rnd1_ok hw) r _)).trans (grw_rnd1 (prpTo_ok (rnd1_ok hw) _ _))
theorem grw_calm {w:Wrl} (hw:WOK w):∀ r,Grw w (calmTo w r)
 | 0=>grw_spr _ (Nat.le_refl _) hw
 | r + 1=>(grw_calm hw r).trans (grw_rnd (calmTo_ok hw r) r)
theorem auth_sub {g g':List Vtx} (h:∀ v ∈ g,v ∈ g') {r a:Int} (ha:a ∈ auth g r):a ∈ auth g' r:=by
 rw [auth_mem,hasV_iff] at ha ⊢
 obtain ⟨v,h1,h2⟩:=ha
 exact ⟨v,h v h1,h2⟩
theorem hgt_bd (c:List Int) (g:List Vtx):-1 ≤ hgt c g ∧ hgt c g ≤ 30:=by
 have:=hgtTo_lt c g 31
 unfold hgt
 omega
theorem hgt_sub {c:List Int} {g g':List Vtx} (hg:graS c g = true) (hg':graS c g' = true) (h:∀ v ∈ g,v ∈ g'):hgt c g ≤ hgt c g':=by
 have hb:=hgt_bd c g
 by_cases h0:hgt c g < 0
 ·have:=(hgt_bd c g').1
  omega
 ·have hk:=graS_ok hg
  have hk':=graS_ok hg'
  obtain ⟨r,hr⟩:∃ r:Nat,hgt c g = r:=⟨(hgt c g).toNat,by omega⟩
  have h1:=(hgt_iff hk (r:=r) (by omega)).2 (by omega)
  have hp:=(comV_iff.1 hk.com).1
  have h2:=wei_le (c:=c) (fun x hx=>by have:=hp x hx;omega) (auth_asc hk.pw r) (auth_asc hk'.pw r) fun x hx=>auth_sub h hx
  have h3:=(hgt_iff hk' (r:=r) (by omega)).1 (by omega)
  omega
theorem asc_extV:∀ {a b:List Vtx},(a.Pairwise fun a b=>bef a b = true) → (b.Pairwise fun a b=>bef a b = true) → (∀ x,x ∈ a ↔ x ∈ b) → a = b:=by
 have irr:∀ x:Vtx,bef x x = false:=fun x=>by
  rw [Bool.eq_false_iff]
  intro h
  simp only [bef,Bool.or_eq_true,Bool.and_eq_true,decide_eq_true_eq] at h
  omega
 intro a
 induction a with
 | nil=>
  intro b _ _ h
  match b with
  | []=>rfl
  | y :: b=>exact absurd ((h y).2 (by simp)) (by simp)
 | cons x a ih=>
  intro b h1 h2 h
  match b,h2,h with
  | [],_,h=>exact absurd ((h x).1 (by simp)) (by simp)
  | y :: b,h2,h=>
   obtain ⟨a1,a2⟩:=List.pairwise_cons.1 h1
   obtain ⟨b1,b2⟩:=List.pairwise_cons.1 h2
   have e:x = y:=by
    rcases List.mem_cons.1 ((h x).1 (by simp)) with e | hx
    ·exact e
    rcases List.mem_cons.1 ((h y).2 (by simp)) with e | hy
    ·exact e.symm
    have:=bef_trans (b1 x hx) (a1 y hy)
    rw [irr] at this
    cases this
   subst e
   rw [ih a2 b2 fun z=>?_]
   constructor
   ·intro hz
    rcases List.mem_cons.1 ((h z).1 (by simp [hz])) with e | hz2
    ·have:=a1 z hz
     rw [e,irr] at this
     cases this
    ·exact hz2
   ·intro hz
    rcases List.mem_cons.1 ((h z).2 (by simp [hz])) with e | hz2
    ·have:=b1 z hz
     rw [e,irr] at this
     cases this
    ·exact hz2
theorem still_evn {w:Wrl} (hw:WOK w) (hs:still w) {m k:Nat} (hm:m < w.com.length) (hb:(m:Int) ≠ w.bad) (hk:k < w.com.length) (hkb:(k:Int) ≠ w.bad):w.views.getD m [] = w.views.getD k []:=by
 have key:∀ {m k:Nat},m < w.com.length → (m:Int) ≠ w.bad → k < w.com.length → (k:Int) ≠ w.bad → ∀ x ∈ w.views.getD m [],x ∈ w.views.getD k []:=fun {m k} hm _ hk hkb x hx=>by
  obtain ⟨p,p1,p2,rfl⟩:=hw.knw _ (view_gd hw hm) x hx
  exact still_all hw hs _ p p1 p2 rfl k hk hkb
 exact asc_extV (graS_ok (hw.gra _ (view_gd hw hm))).pw (graS_ok (hw.gra _ (view_gd hw hk))).pw fun x=>⟨key hm hb hk hkb x,key hk hkb hm hb x⟩
theorem prop_hgt {w:Wrl} (hw:WOK w) {p:Ppl} (hp:p ∈ w.props) {m:Nat} (hm:m < w.com.length) (hb:(m:Int) ≠ w.bad) (ha:p.v.author = m):p.v.round ≤ hgt w.com (w.views.getD m []) + 1:=by
 have hkp:=hw.kp p hp m (by rw [hw.vlen];exact hm) hb (.inl ha.symm)
 have hok:=vtxS_ok (one_of hw hp).1
 have hg:=graS_ok (hw.gra _ (view_gd hw hm))
 have hbd:=hgt_bd w.com (w.views.getD m [])
 by_cases h0:p.v.round = 0
 ·omega
 ·obtain ⟨r,hr⟩:∃ r:Nat,p.v.round - 1 = r:=⟨(p.v.round - 1).toNat,by omega⟩
  have hp0:=(comV_iff.1 hg.com).1
  have hq:quo w.com ≤ wei w.com p.v.parents:=by
   have:=(one_of hw hp).1
   simp only [vtxS,Bool.and_eq_true] at this
   have h5:=this.2.2.2.2
   rw [if_neg h0] at h5
   simpa using h5
  have h2:=wei_le (c:=w.com) (fun x hx=>by have:=hp0 x hx;omega) (mems_asc hok.2.2.1) (auth_asc hg.pw r) fun x hx=>by
   rw [parOK_iff] at hkp
   rw [auth_mem,← hr]
   exact hkp x hx
  have h3:=(hgt_iff hg (r:=r) (by omega)).1 (by omega)
  omega
theorem vtx_prp {w:Wrl} (hw:WOK w) {m:Nat} (hm:m < w.com.length) {d:Int} (hd:0 ≤ d ∧ d ≤ 990) (hh:hgt w.com (w.views.getD m []) < 30):vtxS w.com (prpV w m d) = true:=by
 have hg:=graS_ok (hw.gra _ (view_gd hw hm))
 have hbd:=hgt_bd w.com (w.views.getD m [])
 have hv:view w m = w.views.getD m []:=by unfold view;rw [Int.toNat_natCast]
 unfold vtxS prpV
 rw [hv]
 simp only [Bool.and_eq_true,vIn_iff]
 refine ⟨by omega,by unfold hasM;rw [vIn_iff];omega,?_,hd,?_⟩
 ·split
  ·exact auth_mems hg _
  ·exact mems_nil _
 ·by_cases h0:hgt w.com (w.views.getD m []) + 1 = 0
  ·rw [if_pos h0,if_neg (by omega)]
   rfl
  ·rw [if_neg h0,if_pos (by omega)]
   obtain ⟨r,hr⟩:∃ r:Nat,hgt w.com (w.views.getD m []) = r:=⟨(hgt w.com (w.views.getD m [])).toNat,by omega⟩
   rw [hr]
   exact decide_eq_true ((hgt_iff hg (r:=r) (by omega)).2 (by omega))
theorem prpTo_views (w:Wrl) (r:Nat):∀ n,(prpTo w r n).views = w.views ∧ (prpTo w r n).bad = w.bad
 | 0=>⟨rfl,rfl⟩
 | n + 1=>by
  have h:=prpTo_views w r n
  show (sPrp _ _ _).views = _ ∧ (sPrp _ _ _).bad = _
  unfold sPrp
  split <;> exact h
theorem prpTo_src {w:Wrl} (hw:WOK w) (r:Nat):∀ (n:Nat) (p:Ppl),p ∈ (prpTo w r n).props → (∃ q ∈ w.props,q.v = p.v) ∨ ∃ j:Nat,j < n ∧ p.v.author = j
 | 0,p,hp=>.inl ⟨p,hp,rfl⟩
 | n + 1,p,hp=>by
  have hp:p ∈ (sPrp (prpTo w r n) n (7 * r + n)).props:=hp
  unfold sPrp at hp
  split at hp
  ·rcases List.mem_append.1 hp with hp | hp
   ·rcases prpTo_src hw r n p hp with h | ⟨j,j1,j2⟩
    ·exact .inl h
    ·exact .inr ⟨j,by omega,j2⟩
   ·obtain rfl:=List.mem_singleton.1 hp
    exact .inr ⟨n,by omega,rfl⟩
  ·rcases prpTo_src hw r n p hp with h | ⟨j,j1,j2⟩
   ·exact .inl h
   ·exact .inr ⟨j,by omega,j2⟩
theorem prp_all {w:Wrl} (hw:WOK w) (r:Nat) (hr:r ≤ 12):∀ n:Nat,n ≤ w.com.length → (prpTo w r n).props.length < 220 → ∀ m:Nat,m < n → (m:Int) ≠ w.bad → hgt w.com (w.views.getD m []) < 30 → ∃ p ∈ (prpTo w r n).props,p.v.author = m ∧ p.v.round = hgt w.com (w.views.getD m []) + 1 ∧ ((∃ q ∈ w.props,q.v = p.v) ∨ (0 ≤ hgt w.com (w.views.getD m []) → p.v.parents = auth (w.views.getD m []) (hgt w.com (w.views.getD m []))))
 | 0,_,_,m,hm,_,_=>absurd hm (Nat.not_lt_zero m)
 | n + 1,hn,hl,m,hm,hb,hh=>by
  have ho:=prpTo_ok hw r n
  have hgr:=grw_prp ho n (7 * r + n)
  have hle:=hgr.plen
  have hl:(sPrp (prpTo w r n) n (7 * r + n)).props.length < 220:=hl
  show ∃ p ∈ (sPrp (prpTo w r n) n (7 * r + n)).props,_
  rcases Nat.lt_or_ge m n with hlt | hge
  ·obtain ⟨p,p1,p2,p3⟩:=prp_all hw r hr n (by omega) (by omega) m hlt hb hh
   obtain ⟨k,hk⟩:=List.getElem?_of_mem p1
   obtain ⟨l,a1,-⟩:=hgr.props k p hk
   exact ⟨_,List.mem_of_getElem? a1,p2,p3⟩
  ·obtain rfl:m = n:=by omega
   have hc:=prpTo_com w r m
   obtain ⟨hv,hbd⟩:=prpTo_views w r m
   have h7:=hw.len
   have hvt:=vtx_prp ho (m:=m) (by rw [hc];omega) (d:=7 * r + m) (by omega) (by rw [hc,hv];exact hh)
   have hvw:view (prpTo w r m) m = w.views.getD m []:=by unfold view;rw [Int.toNat_natCast,hv]
   have hgood:good (prpTo w r m) m = true:=good_iff.2 ⟨by rw [hc];omega,by rw [hbd];exact hb⟩
   have hrd:(prpV (prpTo w r m) m (7 * r + m)).round = hgt w.com (w.views.getD m []) + 1:=by unfold prpV;rw [hvw,hc]
   cases hp:prpB (prpTo w r m) m (7 * r + m)
   ·have hx:nxt (prpTo w r m).props m > hgt w.com (w.views.getD m []) + 1:=by
     unfold prpB at hp
     rw [hgood,hvt,hrd,show vIn (7 * (r:Int) + m) 0 990 = true from vIn_iff.2 (by omega),decide_eq_true (show (prpTo w r m).props.length < 220 by omega)] at hp
     simp only [Bool.true_and,Bool.and_true,decide_eq_false_iff_not] at hp
     omega
    have hs:sPrp (prpTo w r m) m (7 * r + m) = prpTo w r m:=by unfold sPrp;rw [hp];rfl
    rw [hs]
    have hgb:=hgt_bd w.com (w.views.getD m [])
    by_cases hex:∃ q ∈ (prpTo w r m).props,q.v.author = m ∧ hgt w.com (w.views.getD m []) + 1 ≤ q.v.round
    ·obtain ⟨q,q1,q2,q3⟩:=hex
     have:=prop_hgt ho q1 (m:=m) (by rw [hc];omega) (by rw [hbd];exact hb) q2
     rw [hc,hv] at this
     refine ⟨q,q1,q2,by omega,?_⟩
     rcases prpTo_src hw r m q q1 with h | ⟨j,j1,j2⟩
     ·exact .inl h
     ·rw [j2] at q2
      exact absurd q2 (by omega)
    ·have:=nxt_le (ps:=(prpTo w r m).props) (m:=m) (r:=hgt w.com (w.views.getD m []) + 1) (by omega) fun p hp ha=>by
      rcases Int.lt_or_le p.v.round (hgt w.com (w.views.getD m []) + 1) with h | h
      ·omega
      ·exact absurd ⟨p,hp,ha,h⟩ hex
     omega
   ·have hs:sPrp (prpTo w r m) m (7 * r + m) = addP (prpTo w r m) (prpV (prpTo w r m) m (7 * r + m)):=by unfold sPrp;rw [hp];rfl
    rw [hs]
    refine ⟨⟨prpV (prpTo w r m) m (7 * r + m),[]⟩,by simp [addP],rfl,hrd,.inr fun h0=>?_⟩
    show (if 0 < hgt (prpTo w r m).com (view (prpTo w r m) m) + 1 then auth (view (prpTo w r m) m) (hgt (prpTo w r m).com (view (prpTo w r m) m)) else []) = _
    rw [hvw,hc,if_pos (by omega)]
theorem vot_in {w:Wrl} (hw:WOK w) {m i:Nat} {p:Ppl} (hp:w.props[i]? = some p) (hm:m < w.com.length) (hb:(m:Int) ≠ w.bad) (ha:p.v.author ≠ w.bad) (hpar:parOK (w.views.getD m []) p.v = true):∃ l,(sVot w m i).props[i]? = some ⟨p.v,l⟩ ∧ (m:Int) ∈ l:=by
 have hil:=(List.getElem?_eq_some_iff.1 hp).1
 have hgood:good w m = true:=good_iff.2 ⟨⟨by omega,by omega⟩,hb⟩
 have hin:inP w i = true:=vIn_iff.2 ⟨by omega,by omega⟩
 have hpr:prop w i = p:=by unfold prop;rw [Int.toNat_natCast];exact getD_of hp
 have hvw:view w m = w.views.getD m []:=by unfold view;rw [Int.toNat_natCast]
 have hdb:dbl w m i = false:=by
  rw [Bool.eq_false_iff]
  intro h
  unfold dbl at h
  obtain ⟨j,hj,h⟩:=List.any_eq_true.1 h
  rw [List.mem_range] at hj
  rw [hpr,List.getD_eq_getElem?_getD,List.getElem?_eq_getElem hj,Option.getD_some] at h
  simp only [Bool.and_eq_true,bne_iff_ne,slt_iff] at h
  obtain ⟨h1,⟨h2,h3⟩,-⟩:=h
  have hq:=List.getElem?_eq_getElem hj
  rcases Nat.lt_trichotomy i j with hlt | rfl | hlt
  ·exact ha (h3 ▸ (fit_two hw hlt hq hp h2 h3).1)
  ·exact h1 rfl
  ·exact ha ((fit_two hw hlt hp hq h2.symm h3.symm).1)
 have hv:votB w m i = true:=by
  unfold votB
  rw [hgood,hin,hdb,hvw,hpr,hpar]
  rfl
 have hs:sVot w m i = sCnt w i m:=by unfold sVot;rw [hv];rfl
 rw [hs]
 refine ⟨insM p.members m,?_,insM_mem.2 (.inl rfl)⟩
 show (w.props.set (i:Int).toNat ⟨(prop w i).v,insM (prop w i).members m⟩)[i]? = _
 rw [hpr,Int.toNat_natCast,List.getElem?_set,if_pos rfl,if_pos hil]
theorem votTo_in {w:Wrl} (hw:WOK w) {i:Nat} {p:Ppl} (hp:w.props[i]? = some p) (ha:p.v.author ≠ w.bad):∀ n:Nat,n ≤ w.com.length → (∀ m:Nat,m < n → (m:Int) ≠ w.bad → parOK (w.views.getD m []) p.v = true) → ∃ l,(votTo w i n).props[i]? = some ⟨p.v,l⟩ ∧ ∀ m:Nat,m < n → (m:Int) ≠ w.bad → (m:Int) ∈ l
 | 0,_,_=>⟨p.members,hp,fun m hm=>absurd hm (Nat.not_lt_zero m)⟩
 | n + 1,hn,hpar=>by
  obtain ⟨l,a1,a2⟩:=votTo_in hw hp ha n (by omega) fun m hm=>hpar m (by omega)
  have ho:=votTo_ok hw i n
  have hg:=grw_votTo hw i n
  have hg2:=grw_vot ho n i
  have hvs:(votTo w i n).views = w.views:=by
   have:∀ k,(votTo w i k).views = w.views:=by
    intro k
    induction k with
    | zero=>rfl
    | succ k ih=>
     show (sVot (votTo w i k) k i).views = _
     unfold sVot
     split <;> exact ih
   exact this n
  obtain ⟨l2,b1,b2⟩:=hg2.props i _ a1
  by_cases hb:(n:Int) = w.bad
  ·refine ⟨l2,b1,fun m hm hmb=>b2 m (a2 m ?_ hmb)⟩
   rcases Nat.lt_or_ge m n with h | h
   ·exact h
   ·obtain rfl:m = n:=by omega
    exact absurd hb hmb
  ·obtain ⟨l3,c1,c2⟩:=vot_in ho a1 (m:=n) (by rw [hg.com];omega) (by rw [hg.bad];exact hb) (by rw [hg.bad];exact ha) (by rw [hvs];exact hpar n (by omega) hb)
   rw [b1] at c1
   injection c1 with c1
   injection c1 with _ c1
   subst c1
   refine ⟨l2,b1,fun m hm hmb=>?_⟩
   rcases Nat.lt_or_ge m n with h | h
   ·exact b2 m (a2 m h hmb)
   ·obtain rfl:m = n:=by omega
    exact c2
theorem votsTo_in {w:Wrl} (hw:WOK w) {i:Nat} {p:Ppl} (hp:w.props[i]? = some p) (ha:p.v.author ≠ w.bad) (hpar:∀ m:Nat,m < w.com.length → (m:Int) ≠ w.bad → parOK (w.views.getD m []) p.v = true):∀ k:Nat,i < k → ∃ l,(votsTo w k).props[i]? = some ⟨p.v,l⟩ ∧ ∀ m:Nat,m < w.com.length → (m:Int) ≠ w.bad → (m:Int) ∈ l
 | 0,h=>absurd h (Nat.not_lt_zero i)
 | k + 1,h=>by
  have ho:=votsTo_ok hw k
  have hg:=grw_votsTo hw k
  have hg2:=grw_votTo ho (k:Int) (votsTo w k).com.length
  have hvs:∀ k,(votsTo w k).views = w.views:=by
   have h1:∀ (u:Wrl) (i:Int) (n:Nat),(votTo u i n).views = u.views:=by
    intro u i n
    induction n with
    | zero=>rfl
    | succ k ih=>
     show (sVot (votTo u i k) k i).views = _
     unfold sVot
     split <;> exact ih
   intro k
   induction k with
   | zero=>rfl
   | succ k ih=>exact (h1 _ _ _).trans ih
  rcases Nat.lt_or_ge i k with hlt | hge
  ·obtain ⟨l,a1,a2⟩:=votsTo_in hw hp ha hpar k hlt
   obtain ⟨l2,b1,b2⟩:=hg2.props i _ a1
   exact ⟨l2,b1,fun m hm hmb=>b2 m (a2 m hm hmb)⟩
  ·obtain rfl:i = k:=by omega
   obtain ⟨l,a1,-⟩:=hg.props i p hp
   obtain ⟨l2,b1,b2⟩:=votTo_in ho a1 (by rw [hg.bad];exact ha) (votsTo w i).com.length (Nat.le_refl _) fun m hm hmb=>by
    rw [hvs]
    exact hpar m (by rw [← hg.com];exact hm) (by rw [← hg.bad];exact hmb)
   exact ⟨l2,b1,fun m hm hmb=>b2 m (by rw [hg.com];exact hm) (by rw [hg.bad];exact hmb)⟩
theorem cor_quo {c ms:List Int} {b:Int} (hc:comV c = true) (hb:badS c b = true) (ha:ms.Pairwise (· < ·)) (h:∀ m:Nat,m < c.length → (m:Int) ≠ b → (m:Int) ∈ ms):quo c ≤ wei c ms:=by
 have hall:=all_wei c
 have hp:=(comV_iff.1 hc).1
 have hasc:((List.range c.length).map fun i:Nat=>(i:Int)).Pairwise (· < ·):=by
  rw [List.pairwise_map]
  exact List.pairwise_lt_range.imp fun h=>by omega
 generalize hL:((List.range c.length).map fun i:Nat=>(i:Int)) = L at hall hasc
 have hin:∀ x ∈ L,0 ≤ x ∧ x < c.length:=fun x hx=>by
  rw [← hL] at hx
  obtain ⟨i,hi,rfl⟩:=List.mem_map.1 hx
  rw [List.mem_range] at hi
  omega
 have h1:=wei_but (c:=c) (b:=b) (asc_nodup hasc)
 have h2:=wei_le (c:=c) (fun x hx=>by have:=hp x hx;omega) (hasc.filter fun m=>m != b) ha fun x hx=>by
  obtain ⟨x1,x2⟩:=List.mem_filter.1 hx
  have:=hin x x1
  have:=h x.toNat (by omega) (by rw [Int.toNat_of_nonneg this.1];simpa using x2)
  rwa [Int.toNat_of_nonneg (hin x x1).1] at this
 have hle:(if b ∈ L then c.getD b.toNat 0 else 0) ≤ fau c:=by
  have hf:=fau_bd hc
  split
  ·rename_i hm
   rcases badS_iff.1 hb with h | ⟨-,h⟩
   ·have:=hin _ hm;omega
   ·exact h
  ·exact hf.1
 have ht:=tot_bd hc
 have hq:quo c = 2 * tot c / 3 + 1:=by
  unfold quo
  rw [Int.tdiv_eq_ediv_of_nonneg (by omega)]
 have hf2:fau c = (tot c - 1) / 3:=by
  unfold fau
  rw [Int.tdiv_eq_ediv_of_nonneg (by omega)]
 omega
theorem rnd_in {w:Wrl} (hw:WOK w) (hs:still w) (r:Nat) (hr:r ≤ 12) (hl:(prpTo w r w.com.length).props.length < 220) {m:Nat} (hm:m < w.com.length) (hb:(m:Int) ≠ w.bad) (hh:hgt w.com (w.views.getD m []) < 30) {k:Nat} (hk:k < w.com.length) (hkb:(k:Int) ≠ w.bad):∃ v ∈ (rnd1 (prpTo w r w.com.length)).views.getD m [],v.author = k ∧ v.round = hgt w.com (w.views.getD m []) + 1 ∧ ((∃ q ∈ w.props,q.v = v) ∨ (0 ≤ hgt w.com (w.views.getD m []) → v.parents = auth (w.views.getD m []) (hgt w.com (w.views.getD m [])))):=by
 have hu:=prpTo_ok hw r w.com.length
 have huc:=prpTo_com w r w.com.length
 obtain ⟨huv,hub⟩:=prpTo_views w r w.com.length
 have hall:=prp_all hw r hr w.com.length (Nat.le_refl _) hl
 generalize prpTo w r w.com.length = u at *
 have hx:=rnd1_ok hu
 have hst:still (rnd1 u):=sSpr_still _ (Nat.le_refl _) (votsTo_ok hu _)
 have hgs:=grw_spr _ (Nat.le_refl _) (votsTo_ok hu u.props.length)
 have hg:=grw_rnd1 hu
 have hev:w.views.getD k [] = w.views.getD m []:=still_evn hw hs hk hkb hm hb
 obtain ⟨p,p1,p2,p3,p4⟩:=hall k hk hkb (by rw [hev];exact hh)
 rw [hev] at p3 p4
 obtain ⟨i,hi⟩:=List.getElem?_of_mem p1
 have hil:=(List.getElem?_eq_some_iff.1 hi).1
 have hkp:=hu.kp p p1 k (by rw [hu.vlen,huc];exact hk) (by rw [hub];exact hkb) (.inl p2.symm)
 rw [huv] at hkp
 obtain ⟨l,a1,a2⟩:=votsTo_in hu hi (by rw [p2,hub];exact hkb) (fun j hj hjb=>by
  rw [huv,still_evn hw hs (by rw [← huc];exact hj) (by rw [← hub];exact hjb) hk hkb]
  exact hkp) u.props.length hil
 obtain ⟨l2,b1,b2⟩:=hgs.props i _ a1
 have b1:(rnd1 u).props[i]? = some ⟨p.v,l2⟩:=b1
 have hone:=one_of hx (List.mem_of_getElem? b1)
 have hd:don (rnd1 u).com ⟨p.v,l2⟩ = true:=by
  unfold don
  rw [hg.com]
  refine decide_eq_true (cor_quo hu.com hu.bad ?_ fun j hj hjb=>b2 _ (a2 j hj hjb))
  exact mems_asc hone.2
 have hin:=still_all hx hst _ _ (List.mem_of_getElem? b1) hd rfl m (by rw [hg.com,huc];exact hm) (by rw [hg.bad,hub];exact hb)
 exact ⟨p.v,hin,p2,p3,p4⟩
theorem rnd_grows {w:Wrl} (hw:WOK w) (hs:still w) (r:Nat) (hr:r ≤ 12) (hl:(prpTo w r w.com.length).props.length < 220) {m:Nat} (hm:m < w.com.length) (hb:(m:Int) ≠ w.bad) (hh:hgt w.com (w.views.getD m []) < 30):hgt w.com (w.views.getD m []) + 1 ≤ hgt w.com ((rnd1 (prpTo w r w.com.length)).views.getD m []):=by
 have hgb:=hgt_bd w.com (w.views.getD m [])
 obtain ⟨h,hhe⟩:∃ h:Nat,hgt w.com (w.views.getD m []) + 1 = h:=⟨(hgt w.com (w.views.getD m []) + 1).toNat,by omega⟩
 have key:∀ k:Nat,k < w.com.length → (k:Int) ≠ w.bad → (k:Int) ∈ auth ((rnd1 (prpTo w r w.com.length)).views.getD m []) h:=fun k hk hkb=>by
  obtain ⟨v,v1,v2,v3,-⟩:=rnd_in hw hs r hr hl hm hb hh hk hkb
  rw [auth_mem,hasV_iff]
  exact ⟨v,v1,by omega,v2⟩
 have hu:=prpTo_ok hw r w.com.length
 have huc:=prpTo_com w r w.com.length
 have hx:=rnd1_ok hu
 have hg:=grw_rnd1 hu
 have hgx:=graS_ok (hx.gra _ (view_gd hx (m:=m) (by rw [hg.com,huc];exact hm)))
 rw [hg.com,huc] at hgx
 rw [hhe]
 exact (hgt_iff hgx (by omega)).1 (cor_quo hw.com hw.bad (auth_asc hgx.pw _) key)
end Go.Proofs.YtncmbiacjeicpaaGreatDoor.Am
namespace Go.Proofs.YtncmbiacjeicpaaGreatDoor.Am
open Go
inductive Rv (g:List Vtx):Vtx → Vtx → Prop where
 | refl (u:Vtx):Rv g u u
 | step {u x v:Vtx} (hx:x ∈ g) (h1:x.round = u.round - 1) (h2:x.author ∈ u.parents) (h:Rv g x v):Rv g u v
theorem Rv.trans {g:List Vtx} {u x v:Vtx} (h:Rv g u x) (h':Rv g x v):Rv g u v:=by
 induction h with
 | refl u=>exact h'
 | step hx h1 h2 _ ih=>exact .step hx h1 h2 (ih h')
theorem Rv.mem {g:List Vtx} {u v:Vtx} (h:Rv g u v) (hu:u ∈ g):v ∈ g:=by
 induction h with
 | refl u=>exact hu
 | step hx _ _ _ ih=>exact ih hx
theorem Rv.round {g:List Vtx} {u v:Vtx} (h:Rv g u v):v.round ≤ u.round:=by
 induction h with
 | refl u=>exact Int.le_refl _
 | step _ h1 _ _ ih=>omega
theorem Rv.mono {g U:List Vtx} (hs:∀ v ∈ g,v ∈ U) {u v:Vtx} (h:Rv g u v):Rv U u v:=by
 induction h with
 | refl u=>exact .refl u
 | step hx h1 h2 _ ih=>exact .step (hs _ hx) h1 h2 ih
theorem pw_uniq {g:List Vtx} (h:g.Pairwise fun a b=>bef a b = true) {u v:Vtx} (hu:u ∈ g) (hv:v ∈ g) (h1:u.round = v.round) (h2:u.author = v.author):u = v:=by
 obtain ⟨i,hi⟩:=List.getElem?_of_mem hu
 obtain ⟨k,hk⟩:=List.getElem?_of_mem hv
 rcases Nat.lt_trichotomy i k with hlt | rfl | hlt
 ·have:=pw_get h hlt hi hk
  simp only [bef,Bool.or_eq_true,Bool.and_eq_true,decide_eq_true_eq] at this
  omega
 ·rw [hi] at hk;exact Option.some.inj hk
 ·have:=pw_get h hlt hk hi
  simp only [bef,Bool.or_eq_true,Bool.and_eq_true,decide_eq_true_eq] at this
  omega
theorem Rv.down {c:List Int} {g U:List Vtx} (hg:GraOK c g) (hU:GraOK c U) (hs:∀ v ∈ g,v ∈ U) {u v:Vtx} (h:Rv U u v) (hu:u ∈ g):Rv g u v:=by
 induction h with
 | refl u=>exact .refl u
 | @step u x v hx h1 h2 _ ih=>
  obtain ⟨y,y1,y2,y3⟩:=hasV_iff.1 (parOK_iff.1 (hg.par u hu) _ h2)
  have e:y = x:=pw_uniq hU.pw (hs y y1) hx (by omega) y3
  subst e
  exact .step y1 h1 h2 (ih y1)
def ldrA (l:List Int) (w:Nat):Int:=l.getD (w - 1) 0
def ldr (g:List Vtx) (l:List Int) (w:Nat):Option Vtx:=g.find? (isAt (2 * (w:Int) - 1) (ldrA l w))
theorem ldr_some {g:List Vtx} {l:List Int} {w:Nat} {v:Vtx} (h:ldr g l w = some v):v ∈ g ∧ v.round = 2 * (w:Int) - 1 ∧ v.author = ldrA l w:=
 ⟨List.mem_of_find?_eq_some h,isAt_iff.1 (List.find?_some h)⟩
theorem ldr_of {g:List Vtx} (hp:g.Pairwise fun a b=>bef a b = true) {l:List Int} {w:Nat} {v:Vtx} (hv:v ∈ g) (h1:v.round = 2 * (w:Int) - 1) (h2:v.author = ldrA l w):ldr g l w = some v:=by
 cases h:ldr g l w with
 | none=>exact absurd (isAt_iff.2 ⟨h1,h2⟩) (List.find?_eq_none.1 h v hv)
 | some u=>
  obtain ⟨u1,u2,u3⟩:=ldr_some h
  rw [pw_uniq hp u1 hv (by omega) (by rw [u3,h2])]
def vtr (g:List Vtx) (l:List Int) (w:Nat):List Int:=(g.filter fun v=>v.round == 2 * (w:Int) && v.parents.contains (ldrA l w)).map (·.author)
def vts' (c:List Int) (g:List Vtx) (l:List Int) (w:Nat):Int:=if (ldr g l w).isSome then wei c (vtr g l w) else 0
def sup (c:List Int):Int:=(tot c).tdiv 3 + 1
def dir (c:List Int) (g:List Vtx) (l:List Int) (w:Nat):Bool:=decide (sup c ≤ vts' c g l w)
theorem sup_pos {c:List Int} (h:comV c = true):1 ≤ sup c ∧ sup c = tot c / 3 + 1:=by
 have:=tot_bd h
 unfold sup
 rw [Int.tdiv_eq_ediv_of_nonneg (by omega)]
 omega
theorem dir_ldr {c:List Int} {g:List Vtx} {l:List Int} {w:Nat} (hc:comV c = true) (h:dir c g l w = true):∃ v,ldr g l w = some v ∧ sup c ≤ wei c (vtr g l w):=by
 have hs:=sup_pos hc
 unfold dir vts' at h
 have h:=of_decide_eq_true h
 cases hl:ldr g l w with
 | none=>rw [hl] at h;simp at h;omega
 | some v=>rw [hl] at h;exact ⟨v,rfl,by simpa using h⟩
theorem vtr_mem {g:List Vtx} {l:List Int} {w:Nat} {a:Int}:a ∈ vtr g l w ↔ ∃ v ∈ g,v.round = 2 * (w:Int) ∧ ldrA l w ∈ v.parents ∧ v.author = a:=by
 simp only [vtr,List.mem_map,List.mem_filter,Bool.and_eq_true,beq_iff_eq,List.contains_iff_mem]
 constructor
 ·rintro ⟨v,⟨h1,h2,h3⟩,h4⟩;exact ⟨v,h1,h2,h3,h4⟩
 ·rintro ⟨v,h1,h2,h3,h4⟩;exact ⟨v,⟨h1,h2,h3⟩,h4⟩
theorem vtr_asc {g:List Vtx} (h:g.Pairwise fun a b=>bef a b = true) (l:List Int) (w:Nat):(vtr g l w).Pairwise (· < ·):=by
 unfold vtr
 rw [List.pairwise_map]
 refine (h.sublist (List.filter_sublist ..)).imp_of_mem fun {a b} ha hb hab=>?_
 have ha:=(List.mem_filter.1 ha).2
 have hb:=(List.mem_filter.1 hb).2
 simp only [bef,Bool.or_eq_true,Bool.and_eq_true,decide_eq_true_eq,beq_iff_eq] at *
 omega
open Classical in
noncomputable def dwn (g:List Vtx) (l:List Int) (last:Nat):Nat → Vtx → List Nat
 | 0,_=>[]
 | x + 1,cur=>if x + 1 ≤ last then [] else match ldr g l (x + 1) with
  | some k=>if Rv g cur k then dwn g l last x k ++ [x + 1] else dwn g l last x cur
  | none=>dwn g l last x cur
noncomputable def chn (g:List Vtx) (l:List Int) (w last:Nat):List Nat:=match ldr g l w with
 | some k=>dwn g l last (w - 1) k ++ [w]
 | none=>[w]
noncomputable def cmt (c:List Int) (g:List Vtx) (l:List Int):Nat → List Nat × Nat
 | 0=>([],0)
 | n + 1=>if dir c g l (n + 1) then ((cmt c g l n).1 ++ chn g l (n + 1) (cmt c g l n).2,n + 1) else cmt c g l n
open Classical in
theorem dwn_ldr (g:List Vtx) (l:List Int) (last:Nat):∀ (x:Nat) (cur:Vtx),∀ w ∈ dwn g l last x cur,1 ≤ w ∧ w ≤ x ∧ ∃ k,ldr g l w = some k
 | 0,_,w,hw=>by simp [dwn] at hw
 | x + 1,cur,w,hw=>by
  unfold dwn at hw
  split at hw
  ·cases hw
  ·split at hw
   ·rename_i k hk
    split at hw
    ·rcases List.mem_append.1 hw with h | h
     ·obtain ⟨h1,h2,h3⟩:=dwn_ldr g l last x k w h
      exact ⟨h1,by omega,h3⟩
     ·obtain rfl:=List.mem_singleton.1 h
      exact ⟨by omega,Nat.le_refl _,k,hk⟩
    ·obtain ⟨h1,h2,h3⟩:=dwn_ldr g l last x cur w hw
     exact ⟨h1,by omega,h3⟩
   ·obtain ⟨h1,h2,h3⟩:=dwn_ldr g l last x cur w hw
    exact ⟨h1,by omega,h3⟩
theorem cmt_ldr {c:List Int} {g:List Vtx} (hc:comV c = true) (l:List Int):∀ n:Nat,∀ w ∈ (cmt c g l n).1,1 ≤ w ∧ w ≤ n ∧ ∃ k,ldr g l w = some k
 | 0,w,hw=>by simp [cmt] at hw
 | n + 1,w,hw=>by
  unfold cmt at hw
  split at hw
  ·rename_i hd
   obtain ⟨k,hk,-⟩:=dir_ldr hc hd
   rcases List.mem_append.1 hw with h | h
   ·obtain ⟨h1,h2,h3⟩:=cmt_ldr hc l n w h
    exact ⟨h1,by omega,h3⟩
   ·unfold chn at h
    rw [hk] at h
    rcases List.mem_append.1 h with h | h
    ·obtain ⟨h1,h2,h3⟩:=dwn_ldr g l _ _ k w h
     exact ⟨h1,by omega,h3⟩
    ·obtain rfl:=List.mem_singleton.1 h
     exact ⟨by omega,Nat.le_refl _,k,hk⟩
  ·obtain ⟨h1,h2,h3⟩:=cmt_ldr hc l n w hw
   exact ⟨h1,by omega,h3⟩
open Classical in
noncomputable def ordW (g:List Vtx) (l:List Int) (acc:List Vtx) (w:Nat):List Vtx:=match ldr g l w with
 | some k=>g.filter fun v=>decide (Rv g k v) && (decide (2 * (w:Int) - 7 ≤ v.round) && decide (v ∉ acc))
 | none=>[]
noncomputable def ordTo (g:List Vtx) (l:List Int) (acc:List Vtx) (ws:List Nat):List Vtx:=ws.foldl (fun acc w=>acc ++ ordW g l acc w) acc
noncomputable def ordG (c:List Int) (g:List Vtx) (l:List Int):List Vtx:=ordTo g l [] (cmt c g l l.length).1
end Go.Proofs.YtncmbiacjeicpaaGreatDoor.Am
namespace Go.Proofs.YtncmbiacjeicpaaGreatDoor.Am
open Go
def pix (g:List Vtx) (v:Vtx):List (Option Nat):=v.parents.map fun a=>g.findIdx? (isAt (v.round - 1) a)
theorem idx_some {g:List Vtx} {r a:Int} {k:Nat} (h:g.findIdx? (isAt r a) = some k):∃ x,g[k]? = some x ∧ x.round = r ∧ x.author = a:=by
 obtain ⟨hk,h1,-⟩:=List.findIdx?_eq_some_iff_getElem.1 h
 exact ⟨_,List.getElem?_eq_getElem hk,isAt_iff.1 h1⟩
theorem idx_of {c:List Int} {g:List Vtx} (hg:GraOK c g) {k:Nat} {x:Vtx} (h:g[k]? = some x):g.findIdx? (isAt x.round x.author) = some k:=by
 cases hf:g.findIdx? (isAt x.round x.author) with
 | none=>
  have:=List.findIdx?_eq_none_iff.1 hf x (List.mem_of_getElem? h)
  rw [isAt_iff.2 ⟨rfl,rfl⟩] at this
  cases this
 | some j=>
  obtain ⟨y,h1,h2,h3⟩:=idx_some hf
  have e:=pw_uniq hg.pw (List.mem_of_getElem? h1) (List.mem_of_getElem? h) h2 h3
  subst e
  rw [pw_idx hg h1 h]
where
 pw_idx {c:List Int} {g:List Vtx} (hg:GraOK c g) {i k:Nat} {x:Vtx} (h1:g[i]? = some x) (h2:g[k]? = some x):i = k:=by
  rcases Nat.lt_trichotomy i k with hlt | rfl | hlt
  ·have:=pw_get hg.pw hlt h1 h2
   simp only [bef,Bool.or_eq_true,Bool.and_eq_true,decide_eq_true_eq] at this
   omega
  ·rfl
  ·have:=pw_get hg.pw hlt h2 h1
   simp only [bef,Bool.or_eq_true,Bool.and_eq_true,decide_eq_true_eq] at this
   omega
theorem g_inj {c:List Int} {g:List Vtx} (hg:GraOK c g) {i k:Nat} {x:Vtx} (h1:g[i]? = some x) (h2:g[k]? = some x):i = k:=by
 have e1:=idx_of hg h1
 have e2:=idx_of hg h2
 rw [e1] at e2
 exact Option.some.inj e2
theorem pix_get {c:List Int} {g:List Vtx} (hg:GraOK c g) {v:Vtx} (hv:v ∈ g) {o:Option Nat} (h:o ∈ pix g v):∃ k x,o = some k ∧ g[k]? = some x ∧ x.round = v.round - 1 ∧ x.author ∈ v.parents:=by
 obtain ⟨a,ha,rfl⟩:=List.mem_map.1 h
 obtain ⟨x,x1,x2,x3⟩:=hasV_iff.1 (parOK_iff.1 (hg.par v hv) a ha)
 obtain ⟨k,hk⟩:=List.getElem?_of_mem x1
 have:=idx_of hg hk
 rw [x2,x3] at this
 exact ⟨k,x,this,hk,x2,x3 ▸ ha⟩
theorem pix_rv {c:List Int} {g:List Vtx} (hg:GraOK c g) {v x:Vtx} (hv:v ∈ g) {k:Nat} (h:some k ∈ pix g v) (hx:g[k]? = some x):Rv g v x:=by
 obtain ⟨k',x',e,h1,h2,h3⟩:=pix_get hg hv h
 obtain rfl:=Option.some.inj e
 rw [hx] at h1
 obtain rfl:=Option.some.inj h1
 exact .step (List.mem_of_getElem? hx) h2 h3 (.refl x)
theorem rv_closed {c:List Int} {g:List Vtx} (hg:GraOK c g) {S:Nat → Prop} (hS:∀ i v,g[i]? = some v → S i → ∀ k,some k ∈ pix g v → S k) {u v:Vtx} (h:Rv g u v):∀ i k,g[i]? = some u → S i → g[k]? = some v → S k:=by
 induction h with
 | refl u=>
  intro i k h1 h2 h3
  rw [← g_inj hg h1 h3]
  exact h2
 | @step u x v hx h1 h2 _ ih=>
  intro i k hi hs hk
  obtain ⟨j,hj⟩:=List.getElem?_of_mem hx
  have:=idx_of hg hj
  exact ih j k hj (hS i u hi hs j (List.mem_map.2 ⟨x.author,h2,by rw [← h1];exact this⟩)) hk
structure Dfs (g:List Vtx) (u:Vtx) (n j:Nat) (re:List Bool) (wt:List (Option Nat)):Prop where
 len:re.length = g.length
 snd:∀ (i:Nat) (v:Vtx),g[i]? = some v → re[i]? = some true → Rv g u v
 wtg:∀ o ∈ wt,∃ k,o = some k ∧ re[k]? = some true
 cur:∀ v:Vtx,g[n]? = some v → re[n]? = some true
 cls:∀ (i:Nat) (v:Vtx),g[i]? = some v → re[i]? = some true → some i ∈ wt ∨ (i = n ∧ ∀ (k q:Nat),k < j → (pix g v)[k]? = some (some q) → re[q]? = some true) ∨ ∀ q:Nat,some q ∈ pix g v → re[q]? = some true
theorem dfs_0 {c:List Int} {g:List Vtx} (hg:GraOK c g) {st:Nat} {u:Vtx} (h:g[st]? = some u):Dfs g u g.length 0 ((List.replicate g.length false).set st true) [some st]:=by
 have hl:=(List.getElem?_eq_some_iff.1 h).1
 have key:∀ i:Nat,((List.replicate g.length false).set st true)[i]? = some true → i = st:=fun i hi=>by
  rw [List.getElem?_set] at hi
  split at hi
  ·omega
  ·rw [List.getElem?_replicate] at hi
   split at hi <;> cases hi
 have hst:((List.replicate g.length false).set st true)[st]? = some true:=by
  rw [List.getElem?_set,if_pos rfl,if_pos (by simpa using hl)]
 refine ⟨by simp,fun i v hi hr=>?_,fun o ho=>⟨st,by simpa using ho,hst⟩,fun v hv=>?_,fun i v hi hr=>.inl ?_⟩
 ·obtain rfl:=key i hr
  rw [h] at hi
  obtain rfl:=Option.some.inj hi
  exact .refl u
 ·have:=(List.getElem?_eq_some_iff.1 hv).1
  omega
 ·rw [key i hr]
  simp
theorem dfs_pop {g:List Vtx} {u:Vtx} {n j:Nat} {re:List Bool} {wt:List (Option Nat)} {q:Nat} (h:Dfs g u n j re (wt ++ [some q])) (hn:g[n]? = none):Dfs g u q 0 re wt:=by
 refine ⟨h.len,h.snd,fun o ho=>h.wtg o (List.mem_append.2 (.inl ho)),fun v _=>?_,fun i v hi hr=>?_⟩
 ·obtain ⟨k,h1,h2⟩:=h.wtg (some q) (by simp)
  obtain rfl:=Option.some.inj h1
  exact h2
 ·rcases h.cls i v hi hr with h1 | ⟨rfl,-⟩ | h1
  ·rcases List.mem_append.1 h1 with h1 | h1
   ·exact .inl h1
   ·refine .inr (.inl ⟨?_,fun k _ hk=>absurd hk (Nat.not_lt_zero k)⟩)
    simpa using h1
  ·rw [hn] at hi;cases hi
  ·exact .inr (.inr h1)
theorem dfs_skip {g:List Vtx} {u v:Vtx} {n j q:Nat} {re:List Bool} {wt:List (Option Nat)} (h:Dfs g u n j re wt) (hv:g[n]? = some v) (hj:(pix g v)[j]? = some (some q)) (hq:re[q]? = some true):Dfs g u n (j + 1) re wt:=by
 refine ⟨h.len,h.snd,h.wtg,h.cur,fun i x hi hr=>?_⟩
 rcases h.cls i x hi hr with h1 | ⟨rfl,h1⟩ | h1
 ·exact .inl h1
 ·refine .inr (.inl ⟨rfl,fun k q' hk hp=>?_⟩)
  rcases Nat.lt_or_ge k j with hlt | hge
  ·exact h1 k q' hlt hp
  ·obtain rfl:k = j:=by omega
   rw [hv] at hi
   obtain rfl:=Option.some.inj hi
   rw [hj] at hp
   obtain rfl:=Option.some.inj (Option.some.inj hp)
   exact hq
 ·exact .inr (.inr h1)
theorem set_true {re:List Bool} {q i:Nat} (h:re[i]? = some true):(re.set q true)[i]? = some true:=by
 have hl:=(List.getElem?_eq_some_iff.1 h).1
 rw [List.getElem?_set]
 split
 ·rename_i e
  rw [if_pos (by omega)]
 ·exact h
theorem dfs_push {c:List Int} {g:List Vtx} (hg:GraOK c g) {u v:Vtx} {n j q:Nat} {re:List Bool} {wt:List (Option Nat)} (h:Dfs g u n j re wt) (hv:g[n]? = some v) (hj:(pix g v)[j]? = some (some q)) (hq:re[q]? = some false):Dfs g u n (j + 1) (re.set q true) (wt ++ [some q]):=by
 have hql:=(List.getElem?_eq_some_iff.1 hq).1
 have hqt:(re.set q true)[q]? = some true:=by rw [List.getElem?_set,if_pos rfl,if_pos hql]
 have hne:∀ i:Nat,i ≠ q → (re.set q true)[i]? = re[i]?:=fun i hi=>by rw [List.getElem?_set,if_neg (by omega)]
 refine ⟨by rw [List.length_set];exact h.len,fun i x hi hr=>?_,fun o ho=>?_,fun x hx=>set_true (h.cur x hx),fun i x hi hr=>?_⟩
 ·by_cases e:i = q
  ·subst e
   exact (h.snd n v hv (h.cur v hv)).trans (pix_rv hg (List.mem_of_getElem? hv) (List.mem_of_getElem? hj) hi)
  ·rw [hne i e] at hr
   exact h.snd i x hi hr
 ·rcases List.mem_append.1 ho with ho | ho
  ·obtain ⟨k,h1,h2⟩:=h.wtg o ho
   exact ⟨k,h1,set_true h2⟩
  ·exact ⟨q,by simpa using ho,hqt⟩
 ·by_cases e:i = q
  ·subst e
   exact .inl (by simp)
  rw [hne i e] at hr
  rcases h.cls i x hi hr with h1 | ⟨rfl,h1⟩ | h1
  ·exact .inl (List.mem_append.2 (.inl h1))
  ·refine .inr (.inl ⟨rfl,fun k q' hk hp=>?_⟩)
   rcases Nat.lt_or_ge k j with hlt | hge
   ·exact set_true (h1 k q' hlt hp)
   ·obtain rfl:k = j:=by omega
    rw [hv] at hi
    obtain rfl:=Option.some.inj hi
    rw [hj] at hp
    obtain rfl:=Option.some.inj (Option.some.inj hp)
    exact hqt
  ·exact .inr (.inr fun q' hq'=>set_true (h1 q' hq'))
theorem dfs_next {g:List Vtx} {u v:Vtx} {n j:Nat} {re:List Bool} {wt:List (Option Nat)} (h:Dfs g u n j re wt) (hv:g[n]? = some v) (hj:v.parents.length ≤ j):Dfs g u g.length 0 re wt:=by
 refine ⟨h.len,h.snd,h.wtg,fun x hx=>?_,fun i x hi hr=>?_⟩
 ·have:=(List.getElem?_eq_some_iff.1 hx).1
  omega
 ·rcases h.cls i x hi hr with h1 | ⟨rfl,h1⟩ | h1
  ·exact .inl h1
  ·rw [hv] at hi
   obtain rfl:=Option.some.inj hi
   refine .inr (.inr fun q hq=>?_)
   obtain ⟨k,hk⟩:=List.getElem?_of_mem hq
   have hkl:=(List.getElem?_eq_some_iff.1 hk).1
   unfold pix at hkl
   rw [List.length_map] at hkl
   exact h1 k q (by omega) hk
  ·exact .inr (.inr h1)
theorem dfs_end {c:List Int} {g:List Vtx} (hg:GraOK c g) {u:Vtx} {st:Nat} (hst:g[st]? = some u) {re:List Bool} (h:Dfs g u g.length 0 re []) (h0:re[st]? = some true) {i:Nat} {v:Vtx} (hi:g[i]? = some v):re[i]? = some true ↔ Rv g u v:=by
 refine ⟨h.snd i v hi,fun hr=>?_⟩
 refine rv_closed hg (S:=fun k=>re[k]? = some true) (fun k x hk hs q hq=>?_) hr st i hst h0 hi
 rcases h.cls k x hk hs with h1 | ⟨rfl,-⟩ | h1
 ·cases h1
 ·have:=(List.getElem?_eq_some_iff.1 hk).1
  omega
 ·exact h1 q hq
theorem cnt_set:∀ {re:List Bool} {q:Nat},re[q]? = some false → (re.set q true).count false + 1 = re.count false
 | [],_,h=>by simp at h
 | b :: re,0,h=>by
  simp only [List.getElem?_cons_zero,Option.some.injEq] at h
  subst h
  simp
 | b :: re,q + 1,h=>by
  have:=cnt_set (re:=re) (q:=q) (by simpa using h)
  simp only [List.set_cons_succ,List.count_cons]
  omega
open Classical in
noncomputable def pst (g:List Vtx) (u:Vtx):List Int:=((List.range g.length).filter fun i=>decide (Rv g u (g.getD i v0))).map fun i:Nat=>(i:Int)
def trues (re:List Bool) (n:Nat):List Int:=((List.range n).filter fun i=>re.getD i false).map fun i:Nat=>(i:Int)
theorem trues_snoc {re:List Bool} {n:Nat} {b:Bool} (h:re[n]? = some b):trues re (n + 1) = if b = true then trues re n ++ [(n:Int)] else trues re n:=by
 have e:re.getD n false = b:=by rw [List.getD_eq_getElem?_getD,h];rfl
 simp only [trues,List.range_succ,List.filter_append,List.map_append,List.filter_cons,List.filter_nil,e]
 cases b <;> simp
theorem trues_len (re:List Bool) (n:Nat):(trues re n).length ≤ n:=by
 unfold trues
 rw [List.length_map]
 exact Nat.le_trans (List.length_filter_le _ _) (by simp)
open Classical in
theorem trues_pst {g:List Vtx} {u:Vtx} {re:List Bool} (hl:re.length = g.length) (h:∀ (i:Nat) (v:Vtx),g[i]? = some v → (re[i]? = some true ↔ Rv g u v)):trues re g.length = pst g u:=by
 unfold trues pst
 congr 1
 refine List.filter_congr fun i hi=>?_
 have hi:=List.mem_range.1 hi
 have h1:=h i (g.getD i v0) (by rw [List.getD_eq_getElem?_getD,List.getElem?_eq_getElem hi];rfl)
 rw [List.getElem?_eq_getElem (by omega)] at h1
 rw [List.getD_eq_getElem?_getD,List.getElem?_eq_getElem (by omega)]
 rw [Bool.eq_iff_iff,decide_eq_true_iff,← h1]
 simp
open Classical in
theorem pst_mem {g:List Vtx} {u:Vtx} {x:Int}:x ∈ pst g u ↔ ∃ i:Nat,x = i ∧ ∃ v,g[i]? = some v ∧ Rv g u v:=by
 unfold pst
 rw [List.mem_map]
 constructor
 ·rintro ⟨i,hi,rfl⟩
  obtain ⟨h1,h2⟩:=List.mem_filter.1 hi
  have h1:=List.mem_range.1 h1
  exact ⟨i,rfl,_,by rw [List.getD_eq_getElem?_getD,List.getElem?_eq_getElem h1];rfl,of_decide_eq_true h2⟩
 ·rintro ⟨i,rfl,v,hv,hr⟩
  have hl:=(List.getElem?_eq_some_iff.1 hv).1
  refine ⟨i,List.mem_filter.2 ⟨List.mem_range.2 hl,decide_eq_true ?_⟩,rfl⟩
  rw [List.getD_eq_getElem?_getD,hv]
  exact hr
theorem pst_asc (g:List Vtx) (u:Vtx):(pst g u).Pairwise (· < ·):=by
 unfold pst
 rw [List.pairwise_map]
 exact (List.Pairwise.filter _ List.pairwise_lt_range).imp fun h=>by omega
theorem pst_len (g:List Vtx) (u:Vtx):(pst g u).length ≤ g.length:=by
 unfold pst
 rw [List.length_map]
 exact Nat.le_trans (List.length_filter_le _ _) (by simp)
theorem gst_rows {c:List Int}:∀ {g:List Vtx},GraOK c g → ∀ {i:Nat} {v:Vtx},g[i]? = some v → ∃ p,(gst g).nodes[i]? = some ⟨v,i,p⟩ ∧ ((v.parents = [] ∧ p = none) ∨ ∃ r,p = some r ∧ (gst g).rows[r]? = some (pix g v)):=by
 have raw:∀ (g:List Vtx) {i:Nat} {v:Vtx},g[i]? = some v → ∃ p,(gst g).nodes[i]? = some ⟨v,i,p⟩ ∧ ((v.parents = [] ∧ p = none) ∨ ∃ r,p = some r ∧ (gst g).rows[r]? = some (v.parents.map fun a=>(gst (g.take i)).at (v.round - 1) a)):=by
  intro g
  induction g using snoc_ind with
  | h0=>intro i v h;simp at h
  | h l x ih=>
   intro i v h
   rw [gst_snoc]
   have hnl:=(gst_len l).1
   rcases Nat.lt_or_ge i l.length with hlt | hge
   ·rw [List.getElem?_append_left hlt] at h
    obtain ⟨p,h1,h2⟩:=ih h
    refine ⟨p,?_,?_⟩
    ·show ((gst l).nodes ++ _)[i]? = _
     rw [List.getElem?_append_left (by omega)]
     exact h1
    ·rcases h2 with h2 | ⟨r,h2,h3⟩
     ·exact .inl h2
     ·refine .inr ⟨r,h2,?_⟩
      have hr:=(List.getElem?_eq_some_iff.1 h3).1
      rw [List.take_append_of_le_length (by omega)]
      simp only [gstep]
      split
      ·exact h3
      ·rw [List.getElem?_append_left hr];exact h3
   ·obtain rfl:i = l.length:=by
     have:=(List.getElem?_eq_some_iff.1 h).1
     simp at this
     omega
    rw [List.getElem?_append_right (Nat.le_refl _),Nat.sub_self] at h
    simp only [List.getElem?_cons_zero,Option.some.injEq] at h
    subst h
    refine ⟨if x.parents = [] then none else some (gst l).rows.length,?_,?_⟩
    ·show ((gst l).nodes ++ _)[l.length]? = _
     rw [← hnl,List.getElem?_append_right (Nat.le_refl _),Nat.sub_self]
     rfl
    ·by_cases hp:x.parents = []
     ·exact .inl ⟨hp,by rw [if_pos hp]⟩
     ·refine .inr ⟨_,by rw [if_neg hp],?_⟩
      simp only [gstep]
      rw [if_neg hp,List.getElem?_append_right (Nat.le_refl _),Nat.sub_self,List.take_left]
      rfl
 rename_i g
 intro hg i v h
 obtain ⟨p,h1,h2⟩:=raw g h
 refine ⟨p,h1,?_⟩
 rcases h2 with h2 | ⟨r,h2,h3⟩
 ·exact .inl h2
 ·refine .inr ⟨r,h2,?_⟩
  rw [h3]
  congr 1
  unfold pix
  refine List.map_congr_left fun a ha=>?_
  have hv:=List.mem_of_getElem? h
  obtain ⟨x,x1,x2,x3⟩:=hasV_iff.1 (parOK_iff.1 (hg.par v hv) a ha)
  obtain ⟨k,hk⟩:=List.getElem?_of_mem x1
  have hx:=idx_of hg hk
  rw [x2,x3] at hx
  rw [hx]
  have hil:=(List.getElem?_eq_some_iff.1 h).1
  have hki:k < i:=by
   rcases Nat.lt_or_ge k i with hlt | hge
   ·exact hlt
   ·exfalso
    rcases Nat.lt_or_ge i k with hlt | hge2
    ·have:=pw_get hg.pw hlt h hk
     simp only [bef,Bool.or_eq_true,Bool.and_eq_true,decide_eq_true_eq] at this
     omega
    ·obtain rfl:i = k:=by omega
     rw [h] at hk
     obtain rfl:=Option.some.inj hk
     omega
  have hvt:=(vtxS_ok (hg.vtx v hv)).1
  have hxt:=vtxS_tab hg.com (hg.vtx x x1)
  have ht:∀ u ∈ g.take i,inTab u:=fun u hu=>vtxS_tab hg.com (hg.vtx u (List.mem_of_mem_take hu))
  have hk2:(g.take i)[k]? = some x:=by rw [List.getElem?_take,if_pos hki];exact hk
  have hin:=(gst_at ht (r:=v.round - 1) (a:=a) (by have:=hxt.1;omega) (by have:=hxt.2;omega))
  have hsome:hasV (g.take i) (v.round - 1) a = true:=hasV_iff.2 ⟨x,List.mem_of_getElem? hk2,x2,x3⟩
  obtain ⟨j,hj⟩:=Option.isSome_iff_exists.1 (hin.1.trans hsome)
  rw [hj]
  have hjx:=hin.2 j hj
  exact congrArg some (gst_j hg hki hjx hk x2 x3)
where
 gst_j {c:List Int} {g:List Vtx} (hg:GraOK c g) {i j k:Nat} {a r:Int} {x:Vtx} (hki:k < i) (hj:∃ y,(g.take i)[j]? = some y ∧ y.round = r ∧ y.author = a) (hk:g[k]? = some x) (x2:x.round = r) (x3:x.author = a):j = k:=by
  obtain ⟨y,y1,y2,y3⟩:=hj
  have y1':g[j]? = some y:=by
   rw [List.getElem?_take] at y1
   split at y1
   ·exact y1
   ·cases y1
  have e:=pw_uniq hg.pw (List.mem_of_getElem? y1') (List.mem_of_getElem? hk) (by omega) (by rw [y3,x3])
  subst e
  exact g_inj hg y1' hk
end Go.Proofs.YtncmbiacjeicpaaGreatDoor.Am
namespace Go.Proofs.YtncmbiacjeicpaaGreatDoor.Am
open Go
structure Sph (g:List Vtx) (u:Vtx) (st m:Nat) (re:List Bool):Prop where
 len:re.length = g.length
 snd:∀ (i:Nat) (v:Vtx),g[i]? = some v → re[i]? = some true → Rv g u v
 top:re[st]? = some true
 cls:∀ (i:Nat) (v:Vtx),g[i]? = some v → re[i]? = some true → i < m ∨ ∀ q:Nat,some q ∈ pix g v → re[q]? = some true
structure Spi (g:List Vtx) (u:Vtx) (st n j:Nat) (re:List Bool):Prop where
 len:re.length = g.length
 snd:∀ (i:Nat) (v:Vtx),g[i]? = some v → re[i]? = some true → Rv g u v
 top:re[st]? = some true
 cur:re[n]? = some true ∨ j = 0
 cls:∀ (i:Nat) (v:Vtx),g[i]? = some v → re[i]? = some true → i < n ∨ (i = n ∧ ∀ (k q:Nat),k < j → (pix g v)[k]? = some (some q) → re[q]? = some true) ∨ ∀ q:Nat,some q ∈ pix g v → re[q]? = some true
open Classical in
noncomputable def pfl (g:List Vtx) (u:Vtx):List Bool:=g.map fun v=>decide (Rv g u v)
open Classical in
theorem dwn_asc (g:List Vtx) (l:List Int) (last:Nat):∀ (x:Nat) (cur:Vtx),(dwn g l last x cur).Pairwise (· < ·) ∧ ∀ w ∈ dwn g l last x cur,last < w ∧ w ≤ x
 | 0,cur=>by simp [dwn]
 | x + 1,cur=>by
  unfold dwn
  by_cases hx:x + 1 ≤ last
  ·rw [if_pos hx];simp
  rw [if_neg hx]
  have st:∀ cur:Vtx,(dwn g l last x cur).Pairwise (· < ·) ∧ ∀ w ∈ dwn g l last x cur,last < w ∧ w ≤ x + 1:=fun cur=>
   ⟨(dwn_asc g l last x cur).1,fun w hw=>⟨((dwn_asc g l last x cur).2 w hw).1,by have:=((dwn_asc g l last x cur).2 w hw).2;omega⟩⟩
  split
  ·rename_i k hk
   split
   ·obtain ⟨h1,h2⟩:=dwn_asc g l last x k
    refine ⟨List.pairwise_append.2 ⟨h1,List.pairwise_singleton _ _,fun a ha b hb=>?_⟩,fun w hw=>?_⟩
    ·obtain rfl:=List.mem_singleton.1 hb
     have:=h2 a ha
     omega
    ·rcases List.mem_append.1 hw with hw | hw
     ·have:=h2 w hw
      omega
     ·obtain rfl:=List.mem_singleton.1 hw
      omega
   ·exact st cur
  ·exact st cur
theorem chn_asc (g:List Vtx) (l:List Int) {w last:Nat} (hw:last < w):(chn g l w last).Pairwise (· < ·) ∧ ∀ x ∈ chn g l w last,last < x ∧ x ≤ w:=by
 unfold chn
 split
 ·rename_i k hk
  obtain ⟨h1,h2⟩:=dwn_asc g l last (w - 1) k
  refine ⟨List.pairwise_append.2 ⟨h1,List.pairwise_singleton _ _,fun a ha b hb=>?_⟩,fun x hx=>?_⟩
  ·obtain rfl:=List.mem_singleton.1 hb
   have:=h2 a ha
   omega
  ·rcases List.mem_append.1 hx with hx | hx
   ·have:=h2 x hx
    omega
   ·obtain rfl:=List.mem_singleton.1 hx
    omega
 ·exact ⟨List.pairwise_singleton _ _,fun x hx=>by obtain rfl:=List.mem_singleton.1 hx;omega⟩
theorem cmt_asc (c:List Int) (g:List Vtx) (l:List Int):∀ n:Nat,(cmt c g l n).2 ≤ n ∧ (cmt c g l n).1.Pairwise (· < ·) ∧ ∀ w ∈ (cmt c g l n).1,w ≤ (cmt c g l n).2
 | 0=>by simp [cmt]
 | n + 1=>by
  obtain ⟨h1,h2,h3⟩:=cmt_asc c g l n
  unfold cmt
  split
  ·obtain ⟨h4,h5⟩:=chn_asc g l (w:=n + 1) (last:=(cmt c g l n).2) (by omega)
   refine ⟨Nat.le_refl _,List.pairwise_append.2 ⟨h2,h4,fun a ha b hb=>?_⟩,fun w hw=>?_⟩
   ·have:=h3 a ha
    have:=(h5 b hb).1
    omega
   ·rcases List.mem_append.1 hw with hw | hw
    ·have:=h3 w hw
     show w ≤ n + 1
     omega
    ·exact (h5 w hw).2
  ·exact ⟨by omega,h2,h3⟩
def inW (g:List Vtx) (l:List Int) (w:Nat) (v:Vtx):Prop:=∃ k,ldr g l w = some k ∧ Rv g k v ∧ 2 * (w:Int) - 7 ≤ v.round
open Classical in
noncomputable def wvk (g:List Vtx) (l:List Int) (ws:List Nat) (v:Vtx):Int:=match ws.find? fun w=>decide (inW g l w v) with
 | some w=>(w:Int)
 | none=>0
end Go.Proofs.YtncmbiacjeicpaaGreatDoor.Am
namespace Go.Proofs.YtncmbiacjeicpaaGreatDoor.Am
open Go
attribute [local irreducible] Mk Need Ari Get Idx Cnd CallM CallA Opt Unch At ConV
set_option maxRecDepth 10000
theorem ldrA_at {l:List Int} {w:Nat} (h1:1 ≤ w) (h2:w ≤ l.length):l[((w:Int) - 1).toNat]? = some (ldrA l w):=by
 rw [show ((w:Int) - 1).toNat = w - 1 by omega,ldrA,List.getD_eq_getElem?_getD,List.getElem?_eq_getElem (by omega)]
 rfl
end Go.Proofs.YtncmbiacjeicpaaGreatDoor.Am
namespace Go.Proofs.YtncmbiacjeicpaaGreatDoor.Am
open Go
attribute [local irreducible] Mk Need Ari Get Idx Cnd CallM CallA Opt Unch At ConV
set_option maxRecDepth 10000
theorem snoc_cases {α:Type} (l:List α):l = [] ∨ ∃ l' x,l = l' ++ [x]:=by
 rcases List.eq_nil_or_concat l with h | ⟨l',x,h⟩
 ·exact .inl h
 ·exact .inr ⟨l',x,by rw [h,List.concat_eq_append]⟩
theorem ipast_c (c:List Int) (g:List Vtx) (hg:GraOK c g) (hl:g.length ≤ 1000000) (sa:Nat) (u:Vtx) (hst:g[sa]? = some u):ConV Tryz.prog 124 [.ptr 4 0,.hpo 0 (some sa)] (gR c (gst g)) (.lst (.int .i64) (pst g u)) (gR c (gst g)):=by
 have hn:=(gst_len g).1
 have hsl:=(List.getElem?_eq_some_iff.1 hst).1
 have h7:=(comV_iff.1 hg.com).2
 obtain ⟨p0,hp0⟩:=gst_node hst
 have hrl:((List.range (gst g).nodes.length).map some).length = g.length:=by simp [hn]
 have h0:=dfs_0 hg hst
 have hre0:(List.replicate g.length false)[sa]? = some false:=by rw [List.getElem?_replicate,if_pos hsl]
 have hr0l:(List.replicate g.length false).length = g.length:=by simp
 have ht0:((List.replicate g.length false).set sa true)[sa]? = some true:=by rw [List.getElem?_set,if_pos rfl,if_pos (by omega)]
 have hix:0 ≤ (sa:Int) ∧ (sa:Int) < ((List.replicate ((((List.range (gst g).nodes.length).map some).length:Int).toNat) false).length:Nat):=by rw [hrl,List.length_replicate];omega
 have hfit:fits 1 (((((List.range (gst g).nodes.length).map some).length:Nat):Int).toNat):=by rw [hrl];unfold fits;omega
 have hre2:(List.replicate ((((List.range (gst g).nodes.length).map some).length:Int).toNat) false)[sa]? = some false:=by rw [hrl];exact hre0
 refine con_eq Θg_ok Tryz.func124 rfl rfl true 2 6 rfl rfl rfl rfl fun K hK hb1 hb2=>?_;simp only [argsV,enc,Nat.reduceAdd]
 clear hb1 hb2
 (repeat (any_goals (first | refine stg ?_ | (refine go2 fun xe hxe=>?_;conv=>whnf) | ((with_reducible refine cnd_i (fun hq=>?_) fun hq=>?_) <;> (try simp only [hqs] at hq) <;> (first | omega | conv=>whnf)))))
 refine at_loop hK [] [5,6] (fun x:List Bool × List (Option Nat)=>⟨[(5,.ref 6),(6,.ref 7)],gRx c (gst g) (.row 4 .bool x.1) ++ [(7,.row 109 (.hp 0) x.2)],8⟩) (fun x=>Dfs g u g.length 0 x.1 x.2 ∧ x.1[sa]? = some true ∧ x.2.length + x.1.count false ≤ g.length + 1) (fun x=>2 * x.1.count false + x.2.length) ((List.replicate g.length false).set sa true,[some sa]) ⟨h0,ht0,?_⟩ (by simp only [hrl];rfl) ?_
 ·have:=cnt_set hre0
  simp only [List.count_replicate_self] at this
  simp only [List.length_singleton]
  omega
 rintro ⟨re,wt⟩ ⟨hD,hS,hc⟩
 dsimp only at hD hS hc ⊢
 have hrel:=hD.len
 rcases snoc_cases wt with rfl | ⟨wt,o,rfl⟩
 ·have hfin:=trues_pst hrel fun i v hi=>dfs_end hg hst hD hS hi
  have hnil:¬ (0:Int) < ((([]:List (Ty.hp 0).den).length:Nat):Int):=by simp
  (repeat (any_goals (first | refine stg ?_ | (refine go2 fun xe hxe=>?_;conv=>whnf) | ((with_reducible refine cnd_i (fun hq=>?_) fun hq=>?_) <;> (try simp only [hqs] at hq) <;> (first | omega | conv=>whnf)))))
  refine at_loop hK [] [10,70,71,72] (fun i:Nat=>⟨[(10,.ref 6),(70,.ref 7),(71,.int .i64 g.length),(72,.int .i64 (i:Int))],gRx c (gst g) (.row 3 (.int .i64) (trues re i)) ++ [(7,.row 4 .bool re)],8⟩) (fun i=>i ≤ g.length) (fun i=>g.length - i) 0 (Nat.zero_le _) (by simp only [hrel];rfl) ?_
  intro i hi
  have htl:=trues_len re i
  by_cases hlt:i < g.length
  ·have hxe:re[i]? = some re[i]:=List.getElem?_eq_getElem (by omega)
   have hsn:=trues_snoc hxe
   cases hb:re[i] with
   | false=>
    rw [hb] at hxe hsn
    rw [if_neg (by simp)] at hsn
    (repeat (any_goals (first | refine stg ?_ | (refine go2 fun xe hxe=>?_;conv=>whnf) | ((with_reducible refine cnd_i (fun hq=>?_) fun hq=>?_) <;> (try simp only [hqs] at hq) <;> (first | omega | conv=>whnf)))))
    exact ⟨i + 1,by omega,by omega,by rw [hsn];rfl⟩
   | true=>
    rw [hb] at hxe hsn
    rw [if_pos rfl] at hsn
    (repeat (any_goals (first | refine stg ?_ | (refine go2 fun xe hxe=>?_;conv=>whnf) | ((with_reducible refine cnd_i (fun hq=>?_) fun hq=>?_) <;> (try simp only [hqs] at hq) <;> (first | omega | conv=>whnf)))))
    exact ⟨i + 1,by omega,by omega,by rw [hsn];rfl⟩
  ·obtain rfl:i = g.length:=by omega
   (repeat (any_goals (first | refine stg ?_ | (refine go2 fun xe hxe=>?_;conv=>whnf) | ((with_reducible refine cnd_i (fun hq=>?_) fun hq=>?_) <;> (try simp only [hqs] at hq) <;> (first | omega | conv=>whnf)))))
   exact ⟨by rw [hfin],rfl⟩
 ·obtain ⟨q,rfl,hq⟩:=hD.wtg o (by simp)
  have hql:q < g.length:=by have:=(List.getElem?_eq_some_iff.1 hq).1;omega
  obtain ⟨v,hv⟩:∃ v,g[q]? = some v:=⟨_,List.getElem?_eq_getElem hql⟩
  obtain ⟨p,hp,hrow⟩:=gst_rows hg hv
  have hD2:=dfs_pop hD (List.getElem?_eq_none (Nat.le_refl _))
  have hwl:(wt ++ [some q]).length = wt.length + 1:=by simp
  have hwx:(wt ++ [some q])[((((wt ++ [some q]).length:Nat):Int) - 1).toNat]? = some (some q):=by
   rw [hwl,show (((wt.length + 1:Nat):Int) - 1).toNat = wt.length by omega];simp
  have hwt:(wt ++ [some q]).take ((((wt ++ [some q]).length:Nat):Int) - 1).toNat = wt:=by
   rw [hwl,show (((wt.length + 1:Nat):Int) - 1).toNat = wt.length by omega];simp
  have hwc:wt.length + 1 + re.count false ≤ g.length + 1:=by rw [hwl] at hc;exact hc
  clear hD hc
  generalize wt ++ [some q] = W at *
  have hcut:cutL W none (some (.int .i64 ((W.length:Int) - 1))) 0 ((W.length:Int) - 1).toNat = wt:=hwt
  rcases hrow with ⟨hpn,rfl⟩ | ⟨r,rfl,hrow⟩
  ·have hnx:=dfs_next hD2 hv (by rw [hpn];simp)
   (repeat (any_goals (first | refine stg ?_ | (refine go2 fun xe hxe=>?_;conv=>whnf) | ((with_reducible refine cnd_i (fun hq=>?_) fun hq=>?_) <;> (try simp only [hqs] at hq) <;> (first | omega | conv=>whnf)))))
   refine at_loop hK [] [5,6,44,45,46] (fun j:Nat=>⟨[(5,.ref 6),(6,.ref 7),(44,.hro 1 none),(45,.int .i64 0),(46,.int .i64 (j:Int))],gRx c (gst g) (.row 4 .bool re) ++ [(7,.row 109 (.hp 0) wt)],8⟩) (fun j=>j = 0) (fun j=>j) 0 rfl (by simp only [hcut];rfl) ?_
   rintro j rfl
   (repeat (any_goals (first | refine stg ?_ | (refine go2 fun xe hxe=>?_;conv=>whnf) | ((with_reducible refine cnd_i (fun hq=>?_) fun hq=>?_) <;> (try simp only [hqs] at hq) <;> (first | omega | conv=>whnf)))))
   exact ⟨(re,wt),⟨hnx,hS,by dsimp only;omega⟩,by dsimp only;omega,rfl⟩
  ·have hpxl:(pix g v).length = v.parents.length:=by simp [pix]
   have hpl:=mems_len (vtxS_ok (hg.vtx v (List.mem_of_getElem? hv))).2.2.1
   (repeat (any_goals (first | refine stg ?_ | (refine go2 fun xe hxe=>?_;conv=>whnf) | ((with_reducible refine cnd_i (fun hq=>?_) fun hq=>?_) <;> (try simp only [hqs] at hq) <;> (first | omega | conv=>whnf)))))
   refine at_loop hK [] [5,6,44,45,46] (fun y:Nat × List Bool × List (Option Nat)=>⟨[(5,.ref 6),(6,.ref 7),(44,.hro 1 (some r)),(45,.int .i64 (pix g v).length),(46,.int .i64 (y.1:Int))],gRx c (gst g) (.row 4 .bool y.2.1) ++ [(7,.row 109 (.hp 0) y.2.2)],8⟩) (fun y=>Dfs g u q y.1 y.2.1 y.2.2 ∧ y.2.1[sa]? = some true ∧ y.1 ≤ (pix g v).length ∧ y.2.2.length + y.2.1.count false = wt.length + re.count false ∧ y.2.1.count false ≤ re.count false) (fun y=>(pix g v).length - y.1) (0,re,wt) ⟨hD2,hS,Nat.zero_le _,rfl,Nat.le_refl _⟩ (by simp only [hcut];rfl) ?_
   rintro ⟨j,rf,wf⟩ ⟨hJ,hJs,hj,hjc,hjm⟩
   dsimp only at hJ hJs hj hjc hjm ⊢
   have hrl2:=hJ.len
   by_cases hlt:j < (pix g v).length
   ·have hxe:(pix g v)[j]? = some (pix g v)[j]:=List.getElem?_eq_getElem hlt
    obtain ⟨q',x',e',hv',-,-⟩:=pix_get hg (List.mem_of_getElem? hv) (List.mem_of_getElem? hxe)
    rw [e'] at hxe
    obtain ⟨p',hp'⟩:=gst_node hv'
    have hq'l:=(List.getElem?_eq_some_iff.1 hv').1
    have hbq:rf[q']? = some rf[q']:=List.getElem?_eq_getElem (by omega)
    have hix2:0 ≤ (q':Int) ∧ (q':Int) < (rf.length:Nat):=by omega
    cases hb:rf[q'] with
    | true=>
     rw [hb] at hbq
     have hsk:=dfs_skip hJ hv hxe hbq
     (repeat (any_goals (first | refine stg ?_ | (refine go2 fun xe hxe=>?_;conv=>whnf) | ((with_reducible refine cnd_i (fun hq=>?_) fun hq=>?_) <;> (try simp only [hqs] at hq) <;> (first | omega | conv=>whnf)))))
     exact ⟨(j + 1,rf,wf),⟨hsk,hJs,by dsimp only;omega,hjc,hjm⟩,by dsimp only;omega,rfl⟩
    | false=>
     rw [hb] at hbq
     have hpu:=dfs_push hg hJ hv hxe hbq
     have hcs:=cnt_set hbq
     (repeat (any_goals (first | refine stg ?_ | (refine go2 fun xe hxe=>?_;conv=>whnf) | ((with_reducible refine cnd_i (fun hq=>?_) fun hq=>?_) <;> (try simp only [hqs] at hq) <;> (first | omega | conv=>whnf)))))
     exact ⟨(j + 1,rf.set q' true,wf ++ [some q']),⟨hpu,set_true hJs,by dsimp only;omega,by dsimp only;rw [List.length_append];simp only [List.length_cons,List.length_nil];omega,by dsimp only;omega⟩,by dsimp only;omega,rfl⟩
   ·have hnx:=dfs_next hJ hv (by omega)
    (repeat (any_goals (first | refine stg ?_ | (refine go2 fun xe hxe=>?_;conv=>whnf) | ((with_reducible refine cnd_i (fun hq=>?_) fun hq=>?_) <;> (try simp only [hqs] at hq) <;> (first | omega | conv=>whnf)))))
    exact ⟨(rf,wf),⟨hnx,hJs,by dsimp only;omega⟩,by dsimp only;omega,rfl⟩
end Go.Proofs.YtncmbiacjeicpaaGreatDoor.Am
namespace Go.Proofs.YtncmbiacjeicpaaGreatDoor.Am
open Go Go.RowKit Go.Extern.Stop Go.Stop Go.Extern
set_option maxRecDepth 10000
theorem eisT (v:Value) (w:World):(Extern.ReflectliteType.typeOf #[.iface 183 v]).run Tryz.prog w = .ok (.iface 173 (.agg #[.pointer (some ⟨3,183,none⟩)])) w:=by kernel_rfl
theorem eisC (w : World) : ((Extern.ReflectliteType.method fun t => do Rtype.noPackHeld "Comparable" t; (fun a => Value.bool a.comparable) <$> typeInfo t) #[.agg #[.pointer (some ⟨3, 183, none⟩)]]).run Tryz.prog w = .ok (.bool true) w := by kernel_rfl
theorem eisM (v : Value) (w : World) : (Go.method 321 173 v "Comparable").run Tryz.prog w = .ok (182, v) w := by kernel_rfl
theorem eisI:(Tryz.prog.info? 183).map (·.comparable) = some true:=by kernel_rfl
theorem eisS:(Tryz.prog.info? 208).map (·.size) = some 1:=by kernel_rfl
theorem eis1 (a:Addr) (w:World) :
  Calls Tryz.prog 125 #[.iface 183 (.pointer (some a)),.iface 183 (.pointer (some a))] w fun e w'=>e = .returned (.bool true) ∧ w' = w:=by
 obtain ⟨i,hi,hcmp⟩:=Option.map_eq_some_iff.1 eisI
 obtain ⟨j,hj,hjs⟩:=Option.map_eq_some_iff.1 eisS
 have h8:=@run_callFunc_extern Tryz.prog 147 _ Extern.ReflectliteType.typeOf Tryz.func147 (by kernel_rfl) (by kernel_rfl) (by kernel_rfl) (by kernel_rfl)
 have h32 := @run_callFunc_extern Tryz.prog 182 _ (Extern.ReflectliteType.method fun t => do Rtype.noPackHeld "Comparable" t; pure (.bool (← typeInfo t).comparable)) Tryz.func182 (by kernel_rfl) (by kernel_rfl) (by kernel_rfl) (by kernel_rfl)
 have tT:=eisT
 have cT:=eisC
 have mR:=eisM
 have heq:=run_eql_iface_ptr_same (P:=Tryz.prog) w a Tryz.underlying78 Tryz.underlying183 hi hcmp hj
 go_enter Tryz.func125,Tryz.ntmps125
 go_wp2
 refine wp_loop_rounds 1 ?_
 rw [rounds_succ]
 go_wp2
 go_ret
 exact ⟨rfl,rfl⟩
theorem eis0 (b:Addr) (w:World) :
  Calls Tryz.prog 125 #[.nilIface,.iface 183 (.pointer (some b))] w fun e w'=>e = .returned (.bool false) ∧ w' = w:=by
 have hn:=run_eql_iface_nil_left (P:=Tryz.prog) w 183 (.pointer (some b)) Tryz.underlying78
 go_enter Tryz.func125,Tryz.ntmps125
 go_wp2
 go_ret
 exact ⟨rfl,rfl⟩
theorem gv_is {ρ:Id → Pl} {L:Id → Prop} {ok:Nat → Prop} {w:World} {v:Value} (h:C ρ L ok w (.gv 1) v):∃ ad,v = .iface 183 (.pointer (some ad)) ∧ w.cell? ⟨1,0,none⟩ = some (.iface 183 (.pointer (some ad))):=by
 obtain ⟨x,ad,rfl,hx,-,hc⟩:=h.gv_inv
 obtain rfl:(183,78) = x:=Option.some.inj hx
 exact ⟨ad,rfl,hc⟩
theorem two_args {vs:Array Value} (h:2 = vs.size):∃ v1 v2,vs = #[v1,v2]:=by
 refine ⟨vs[0],vs[1],Array.ext (by simp [← h]) fun i h1 h2=>?_⟩
 have:i = 0 ∨ i = 1:=by simp at h2;omega
 rcases this with rfl | rfl <;> rfl
theorem eisY_c:ConV Tryz.prog 125 [.gv 1,.gv 1] [] (.bool true) []:=by
 unfold ConV
 refine con_below ⟨_,Tryz.func125,rfl,rfl⟩ fun w ok ρ vs hl hc=>?_
 obtain ⟨v1,v2,rfl⟩:=two_args hl
 obtain ⟨ad,rfl,c1⟩:=gv_is (hc 0 (by decide))
 obtain ⟨ad',e2,c2⟩:=gv_is (hc 1 (by decide))
 rw [c1] at c2
 have e:v2 = .iface 183 (.pointer (some ad)):=e2.trans (Option.some.inj c2).symm
 subst e
 refine (eis1 ad w).mono ?_
 rintro e w' ⟨rfl,rfl⟩
 exact ⟨_,rfl,⟨rfl,rfl,rfl,Nat.le_refl _,fun _ _=>rfl⟩,fun ok'=>.bool _⟩
theorem eisN_c:ConV Tryz.prog 125 [.nili,.gv 1] [] (.bool false) []:=by
 unfold ConV
 refine con_below ⟨_,Tryz.func125,rfl,rfl⟩ fun w ok ρ vs hl hc=>?_
 obtain ⟨v1,v2,rfl⟩:=two_args hl
 have e1:C ρ (fun _=>False) ok w .nili v1:=hc 0 (by decide)
 obtain rfl:=e1.nili_inv
 obtain ⟨ad',e2,-⟩:=gv_is (hc 1 (by decide))
 have e2:v2 = .iface 183 (.pointer (some ad')):=e2
 subst e2
 refine (eis0 ad' w).mono ?_
 rintro e w' ⟨rfl,rfl⟩
 exact ⟨_,rfl,⟨rfl,rfl,rfl,Nat.le_refl _,fun _ _=>rfl⟩,fun ok'=>.bool _⟩
end Go.Proofs.YtncmbiacjeicpaaGreatDoor.Am
namespace Go.Proofs.YtncmbiacjeicpaaGreatDoor.Am
open Go
attribute [local irreducible] Mk Need Ari Get Idx Cnd CallM CallA Opt Unch At ConV
set_option maxRecDepth 10000
def Θe:TT:=(78,⟨.ifc,1,16,some .nili,none,false⟩) :: Θg
theorem Θe_ok:TT.ok Tryz.prog Θe:=TT.okB_ok (by kernel_rfl)
theorem ste {P Q:Prop} (h:Q) (s:Hid Q → P:=by
  intro h
  (first | (with_reducible first | apply at_seq | apply at_block) | ((first | with_reducible apply at_regS Θe_ok | refine go ?_ | (with_reducible first | apply at_cond | apply at_ret | apply at_exit | apply at_skip | refine at_regD Θe_ok mixed (by kernel_rfl) ?_)) <;> conv=>whnf))
  repeat (first | (with_reducible first | apply at_seq | apply at_block) | ((first | with_reducible apply at_regS Θe_ok | refine go ?_ | (with_reducible first | apply at_cond | apply at_ret | apply at_exit | apply at_skip | refine at_regD Θe_ok mixed (by kernel_rfl) ?_)) <;> conv=>whnf))
  exact h.h):P:=s ⟨h⟩
abbrev famU (c:List Int) (s:GS):VH:=[(1,.frow 109 (.hp 0) s.rows),(0,.fvar 137 (.nod 1) s.nodes)]
abbrev famV (c:List Int) (s:GS):VH:=[(0,.fvar 137 (.nod 1) s.nodes),(1,.frow 109 (.hp 0) s.rows)]
theorem sidx0_c (c:List Int) (s:GS) (k:Nat):ConV Tryz.prog 160 [.hro 1 none,.hpo 0 (some k)] (famU c s) (.int .i64 (-1)) (famV c s):=by
 refine con_eq Θg_ok Tryz.func160 rfl rfl false 0 4 rfl rfl rfl rfl fun K hK hb1 hb2=>?_;simp only [argsV,enc,Nat.reduceAdd]
 clear hb1 hb2
 (repeat (any_goals (first | refine stg ?_ | (refine go2 fun xe hxe=>?_;conv=>whnf) | ((with_reducible refine cnd_i (fun hq=>?_) fun hq=>?_) <;> (try simp only [hqs] at hq) <;> (first | omega | conv=>whnf)))))
 refine at_loop hK [] [0,1,7,8] (fun i:Nat=>⟨[(0,.hro 1 none),(1,.hpo 0 (some k)),(7,.int .i64 0),(8,.int .i64 (i:Int))],famV c s,4⟩) (fun i=>i = 0) (fun i=>i) 0 rfl rfl ?_
 rintro i rfl
 (repeat (any_goals (first | refine stg ?_ | (refine go2 fun xe hxe=>?_;conv=>whnf) | ((with_reducible refine cnd_i (fun hq=>?_) fun hq=>?_) <;> (try simp only [hqs] at hq) <;> (first | omega | conv=>whnf)))))
 exact ⟨rfl,rfl⟩
theorem sidx_c (c:List Int) (s:GS) (r k:Nat) (xs:List (Option Nat)) (hr:s.rows[r]? = some xs) (hxs:∀ o ∈ xs,∃ q,o = some q ∧ q < s.nodes.length) (hk:k < s.nodes.length) (hl:xs.length ≤ 1000000):ConV Tryz.prog 160 [.hro 1 (some r),.hpo 0 (some k)] (famU c s) (.int .i64 (match xs.findIdx? (fun o=>o == some k) with | some i=>(i:Int) | none=>-1)) (famV c s):=by
 have hkx:s.nodes[k]? = some s.nodes[k]:=List.getElem?_eq_getElem hk
 generalize s.nodes[k] = nk at *
 refine con_eq Θg_ok Tryz.func160 rfl rfl false 0 4 rfl rfl rfl rfl fun K hK hb1 hb2=>?_;simp only [argsV,enc,Nat.reduceAdd]
 clear hb1 hb2
 (repeat (any_goals (first | refine stg ?_ | (refine go2 fun xe hxe=>?_;conv=>whnf) | ((with_reducible refine cnd_i (fun hq=>?_) fun hq=>?_) <;> (try simp only [hqs] at hq) <;> (first | omega | conv=>whnf)))))
 refine at_loop hK [] [0,1,7,8] (fun i:Nat=>⟨[(0,.hro 1 (some r)),(1,.hpo 0 (some k)),(7,.int .i64 xs.length),(8,.int .i64 (i:Int))],famV c s,4⟩) (fun i=>i ≤ xs.length ∧ ∀ o ∈ xs.take i,(o == some k) = false) (fun i=>xs.length - i) 0 ⟨by simp,by simp⟩ rfl ?_
 rintro i ⟨hi,hall⟩
 by_cases hlt:i < xs.length
 ·have hxe:xs[i]? = some xs[i]:=List.getElem?_eq_getElem hlt
  have h3:xs.take (i + 1) = xs.take i ++ [xs[i]]:=List.take_succ_eq_append_getElem hlt
  have h4:=find_at (l:=xs) (p:=fun o=>o == some k) hxe hall
  obtain ⟨q,hq,hql⟩:=hxs _ (List.mem_of_getElem? hxe)
  have hqx:s.nodes[q]? = some s.nodes[q]:=List.getElem?_eq_getElem hql
  rw [hq] at hxe h3 h4
  generalize s.nodes[q] = nq at *
  by_cases he:k = q
  ·subst he
   (repeat (any_goals (first | refine stg ?_ | (refine go2 fun xe hxe=>?_;conv=>whnf) | ((with_reducible refine cnd_i (fun hq=>?_) fun hq=>?_) <;> (try simp only [hqs] at hq) <;> (first | omega | conv=>whnf)))))
   refine ⟨?_,rfl⟩
   rw [h4 (by simp)]
  ·(repeat (any_goals (first | refine stg ?_ | (refine go2 fun xe hxe=>?_;conv=>whnf) | ((with_reducible refine cnd_i (fun hq=>?_) fun hq=>?_) <;> (try simp only [hqs] at hq) <;> (first | omega | conv=>whnf)))))
   exact ⟨i + 1,⟨by omega,by rw [h3];exact tk_snoc hall (by simpa using fun h=>he h.symm)⟩,by omega,rfl⟩
 ·(repeat (any_goals (first | refine stg ?_ | (refine go2 fun xe hxe=>?_;conv=>whnf) | ((with_reducible refine cnd_i (fun hq=>?_) fun hq=>?_) <;> (try simp only [hqs] at hq) <;> (first | omega | conv=>whnf)))))
  refine ⟨?_,rfl⟩
  rw [List.take_of_length_le (by omega)] at hall
  rw [List.findIdx?_eq_none_iff.2 hall]
theorem scon0_c (c:List Int) (s:GS) (k:Nat):ConV Tryz.prog 146 [.hro 1 none,.hpo 0 (some k)] (famU c s) (.bool false) (famV c s):=by
 refine con_eq Θg_ok Tryz.func146 rfl rfl false 0 4 rfl rfl rfl rfl fun K hK hb1 hb2=>?_;simp only [argsV,enc,Nat.reduceAdd]
 clear hb1 hb2
 (repeat (any_goals (first | refine stg ?_ | (refine go2 fun xe hxe=>?_;conv=>whnf) | ((with_reducible refine cnd_i (fun hq=>?_) fun hq=>?_) <;> (try simp only [hqs] at hq) <;> (first | omega | conv=>whnf)) | refine co (sidx0_c c s k) ?_)))
 exact ⟨rfl,rfl⟩
theorem scon_c (c:List Int) (s:GS) (r k:Nat) (xs:List (Option Nat)) (hr:s.rows[r]? = some xs) (hxs:∀ o ∈ xs,∃ q,o = some q ∧ q < s.nodes.length) (hk:k < s.nodes.length) (hl:xs.length ≤ 1000000):ConV Tryz.prog 146 [.hro 1 (some r),.hpo 0 (some k)] (famU c s) (.bool (xs.contains (some k))) (famV c s):=by
 have hI:=sidx_c c s r k xs hr hxs hk hl
 refine con_eq Θg_ok Tryz.func146 rfl rfl false 0 4 rfl rfl rfl rfl fun K hK hb1 hb2=>?_;simp only [argsV,enc,Nat.reduceAdd]
 clear hb1 hb2
 cases h:xs.findIdx? (fun o=>o == some k) with
 | none=>
  rw [h] at hI
  have e:xs.contains (some k) = false:=by
   rw [Bool.eq_false_iff]
   intro h2
   have:=List.findIdx?_eq_none_iff.1 h _ (List.contains_iff_mem.1 h2)
   simp at this
  rw [e]
  (repeat (any_goals (first | refine stg ?_ | (refine go2 fun xe hxe=>?_;conv=>whnf) | ((with_reducible refine cnd_i (fun hq=>?_) fun hq=>?_) <;> (try simp only [hqs] at hq) <;> (first | omega | conv=>whnf)) | refine co (hI) ?_)))
  exact ⟨rfl,rfl⟩
 | some i=>
  rw [h] at hI
  obtain ⟨hi,h1,-⟩:=List.findIdx?_eq_some_iff_getElem.1 h
  have e:xs.contains (some k) = true:=List.contains_iff_mem.2 (by rw [← (beq_iff_eq.1 h1)];exact List.getElem_mem hi)
  rw [e]
  (repeat (any_goals (first | refine stg ?_ | (refine go2 fun xe hxe=>?_;conv=>whnf) | ((with_reducible refine cnd_i (fun hq=>?_) fun hq=>?_) <;> (try simp only [hqs] at hq) <;> (first | omega | conv=>whnf)) | refine co (hI) ?_)))
  exact ⟨rfl,rfl⟩
def rvd (xs ys:List Int) (i:Nat):Prop:=ys.length = xs.length ∧ ∀ k,k < xs.length → ys[k]? = if k < i ∨ xs.length - i ≤ k then xs[xs.length - 1 - k]? else xs[k]?
theorem rvd_end {xs ys:List Int} {i:Nat} (h:rvd xs ys i) (hi:xs.length ≤ 2 * i + 1):ys = xs.reverse:=by
 refine List.ext_getElem? fun k=>?_
 rcases Nat.lt_or_ge k xs.length with hk | hk
 ·rw [h.2 k hk,List.getElem?_reverse hk]
  split
  ·rfl
  ·congr 1;omega
 ·rw [List.getElem?_eq_none (by rw [h.1];exact hk),List.getElem?_eq_none (by simpa using hk)]
theorem rvd_step {xs ys:List Int} {i:Nat} {a b:Int} (h:rvd xs ys i) (hi:2 * i + 1 < xs.length) (ha:ys[i]? = some a) (hb:ys[xs.length - 1 - i]? = some b):rvd xs ((ys.set i b).set (xs.length - 1 - i) a) (i + 1):=by
 obtain ⟨h1,h2⟩:=h
 have ea:=h2 i (by omega)
 have eb:=h2 (xs.length - 1 - i) (by omega)
 rw [if_neg (by omega)] at ea eb
 refine ⟨by simp [h1],fun k hk=>?_⟩
 rw [List.getElem?_set,List.getElem?_set,List.length_set]
 by_cases e1:xs.length - 1 - i = k
 ·rw [if_pos e1,if_pos (by omega),if_pos (by omega),← ha,ea]
  congr 1;omega
 ·rw [if_neg e1]
  by_cases e2:i = k
  ·rw [if_pos e2,if_pos (by omega),if_pos (by omega),← hb,eb]
   congr 1;omega
  ·rw [if_neg e2,h2 k hk]
   by_cases e3:k < i ∨ xs.length - i ≤ k
   ·rw [if_pos e3,if_pos (by omega)]
   ·rw [if_neg e3,if_neg (by omega)]
theorem irev_c (xs:List Int) (hl:xs.length ≤ 1000000):ConV Tryz.prog 127 [.ref 4] [(4,.row 3 (.int .i64) xs)] (.tup []) [(4,.row 3 (.int .i64) xs.reverse)]:=by
 refine con_eq Θ_ok Tryz.func127 rfl rfl false 1 5 rfl rfl rfl rfl fun K hK hb1 hb2=>?_;simp only [argsV,enc,Nat.reduceAdd]
 clear hb1 hb2
 (repeat (any_goals (first | refine st ?_ | (refine go2 fun xe hxe=>?_;conv=>whnf) | ((with_reducible refine cnd_i (fun hq=>?_) fun hq=>?_) <;> (try simp only [hqs] at hq) <;> (first | omega | conv=>whnf)))))
 refine at_loop hK [] [0,2,3] (fun x:Nat × List Int=>⟨[(0,.ref 4),(2,.int .i64 (x.1:Int)),(3,.int .i64 ((xs.length:Int) - 1 - x.1))],[(4,.row 3 (.int .i64) x.2)],5⟩) (fun x=>rvd xs x.2 x.1 ∧ 2 * x.1 ≤ xs.length + 1) (fun x=>xs.length - x.1) (0,xs) ⟨⟨rfl,fun k hk=>by rw [if_neg (by omega)]⟩,by simp⟩ (by rw [show ((xs.length:Int) - 1 - ((0:Nat):Int)) = (xs.length:Int) - 1 by omega];rfl) ?_
 rintro ⟨i,ys⟩ ⟨hR,hi⟩
 dsimp only at hR hi ⊢
 have hyl:=hR.1
 by_cases hlt:2 * i + 1 < xs.length
 ·have hxa:ys[i]? = some ys[i]:=List.getElem?_eq_getElem (by omega)
  have hjb:xs.length - 1 - i < ys.length:=by omega
  have hxb:ys[xs.length - 1 - i]? = some ys[xs.length - 1 - i]:=List.getElem?_eq_getElem hjb
  have hst:=rvd_step hR hlt hxa hxb
  generalize hj:xs.length - 1 - i = j at *
  have hje:((xs.length:Int) - 1 - (i:Int)) = (j:Int):=by omega
  rw [hje]
  generalize ys[i] = a at *
  generalize ys[j] = b at *
  have hxc:(ys.set i b)[j]? = some b:=by rw [List.getElem?_set,if_neg (by omega)];exact hxb
  have hsl:(ys.set i b).length = ys.length:=by simp
  (repeat (any_goals (first | refine st ?_ | (refine go2 fun xe hxe=>?_;conv=>whnf) | ((with_reducible refine cnd_i (fun hq=>?_) fun hq=>?_) <;> (try simp only [hqs] at hq) <;> (first | omega | conv=>whnf)))))
  exact ⟨(i + 1,(ys.set i b).set j a),⟨hst,by dsimp only;omega⟩,by dsimp only;omega,by rw [show ((xs.length:Int) - 1 - ((i + 1:Nat):Int)) = (j:Int) - 1 by omega];rfl⟩
 ·have hfin:=rvd_end hR (by omega)
  (repeat (any_goals (first | refine st ?_ | (refine go2 fun xe hxe=>?_;conv=>whnf) | ((with_reducible refine cnd_i (fun hq=>?_) fun hq=>?_) <;> (try simp only [hqs] at hq) <;> (first | omega | conv=>whnf)))))
  exact ⟨rfl,by rw [hfin]⟩
theorem lea_mem {c l:List Int} (hl:leaS c l = true) {w:Nat} (h1:1 ≤ w) (h2:w ≤ l.length):0 ≤ ldrA l w ∧ ldrA l w < c.length:=by
 have hx:=ldrA_at h1 h2
 exact (leaS_iff.1 hl).1 _ (List.mem_of_getElem? hx)
theorem at_ldr {c:List Int} {g:List Vtx} (hg:GraOK c g) {l:List Int} (hl:leaS c l = true) {w:Nat} (h1:1 ≤ w) (h2:w ≤ l.length):(gst g).at (2 * (w:Int) - 1) (ldrA l w) = g.findIdx? (isAt (2 * (w:Int) - 1) (ldrA l w)):=by
 have h7:=(comV_iff.1 hg.com).2
 have hm:=lea_mem hl h1 h2
 have hll:=(leaS_iff.1 hl).2
 exact gst_find hg (by omega) (by omega)
theorem at_ldrY {c:List Int} {g:List Vtx} (hg:GraOK c g) {l:List Int} (hl:leaS c l = true) {w:Nat} (h1:1 ≤ w) (h2:w ≤ l.length) {k:Vtx} (hk:ldr g l w = some k):∃ n:Nat,(gst g).at (2 * (w:Int) - 1) (ldrA l w) = some n ∧ g[n]? = some k:=by
 obtain ⟨a1,a2,a3⟩:=ldr_some hk
 obtain ⟨i,hi⟩:=List.getElem?_of_mem a1
 have:=idx_of hg hi
 rw [a2,a3] at this
 exact ⟨i,by rw [at_ldr hg hl h1 h2,this],hi⟩
theorem at_ldrN {c:List Int} {g:List Vtx} (hg:GraOK c g) {l:List Int} (hl:leaS c l = true) {w:Nat} (h1:1 ≤ w) (h2:w ≤ l.length) (hk:ldr g l w = none):(gst g).at (2 * (w:Int) - 1) (ldrA l w) = none:=by
 rw [at_ldr hg hl h1 h2,List.findIdx?_eq_none_iff]
 intro x hx
 have:=List.find?_eq_none.1 hk x hx
 simpa using this
theorem ildY_c (c:List Int) (g:List Vtx) (l:List Int) (w n:Nat) (hg:GraOK c g) (hl:leaS c l = true) (h1:1 ≤ w) (h2:w ≤ l.length) (ha:(gst g).at (2 * (w:Int) - 1) (ldrA l w) = some n):ConV Tryz.prog 123 [.agg [.ptr 4 0,.lst (.int .i64) l],.int .i64 (w:Int)] (gR c (gst g)) (.tup [.hpo 0 (some n),.nili]) (gR c (gst g)):=by
 have h7:=(comV_iff.1 hg.com).2
 have hx:=ldrA_at h1 h2
 have hll:=(leaS_iff.1 hl).2
 have hA:=aty_cR c (gst g) (2 * (w:Int) - 1) (ldrA l w) (gst_len g).2 h7.2 (vIn_iff.2 (by omega)) (vIn_iff.2 (by have:=lea_mem hl h1 h2;omega))
 rw [ha] at hA
 have hin1:(none:Option Nat).isNone = true:=rfl
 have hin2:(some n:Option Nat).isNone = false:=rfl
 refine con_eq Θe_ok Tryz.func123 rfl rfl false 2 6 rfl rfl rfl rfl fun K hK hb1 hb2=>?_;simp only [argsV,enc,Nat.reduceAdd]
 clear hb1 hb2
 (repeat (any_goals (first | refine ste ?_ | (refine go2 fun xe hxe=>?_;conv=>whnf) | ((with_reducible refine cnd_i (fun hq=>?_) fun hq=>?_) <;> (try simp only [hqs] at hq) <;> (first | omega | conv=>whnf)) | refine co (hA) ?_)))
 exact ⟨rfl,rfl⟩
theorem ildN_c (c:List Int) (g:List Vtx) (l:List Int) (w:Nat) (hg:GraOK c g) (hl:leaS c l = true) (h1:1 ≤ w) (h2:w ≤ l.length) (ha:(gst g).at (2 * (w:Int) - 1) (ldrA l w) = none):ConV Tryz.prog 123 [.agg [.ptr 4 0,.lst (.int .i64) l],.int .i64 (w:Int)] (gR c (gst g)) (.tup [.nilp,.gv 1]) (gR c (gst g)):=by
 have h7:=(comV_iff.1 hg.com).2
 have hx:=ldrA_at h1 h2
 have hll:=(leaS_iff.1 hl).2
 have hA:=aty_cR c (gst g) (2 * (w:Int) - 1) (ldrA l w) (gst_len g).2 h7.2 (vIn_iff.2 (by omega)) (vIn_iff.2 (by have:=lea_mem hl h1 h2;omega))
 rw [ha] at hA
 have hin1:(none:Option Nat).isNone = true:=rfl
 refine con_eq Θe_ok Tryz.func123 rfl rfl false 2 6 rfl rfl rfl rfl fun K hK hb1 hb2=>?_;simp only [argsV,enc,Nat.reduceAdd]
 clear hb1 hb2
 (repeat (any_goals (first | refine ste ?_ | (refine go2 fun xe hxe=>?_;conv=>whnf) | ((with_reducible refine cnd_i (fun hq=>?_) fun hq=>?_) <;> (try simp only [hqs] at hq) <;> (first | omega | conv=>whnf)) | refine co (hA) ?_)))
 exact ⟨rfl,rfl⟩
theorem ildZ_c (c:List Int) (l:List Int) (w:Nat) (hc:comV c = true) (hl:leaS c l = true) (h1:1 ≤ w) (h2:w ≤ l.length):ConV Tryz.prog 123 [.agg [.ptr 4 0,.lst (.int .i64) l],.int .i64 (w:Int)] (gZ c gs0) (.tup [.nilp,.gv 1]) (gZ c gs0):=by
 have h7:=(comV_iff.1 hc).2
 have hx:=ldrA_at h1 h2
 have hll:=(leaS_iff.1 hl).2
 have hA:=aty_cZ c gs0 (2 * (w:Int) - 1) (ldrA l w) List.length_replicate h7.2 (vIn_iff.2 (by omega)) (vIn_iff.2 (by have:=lea_mem hl h1 h2;omega))
 rw [gs0_at] at hA
 have hin1:(none:Option Nat).isNone = true:=rfl
 refine con_eq Θe_ok Tryz.func123 rfl rfl false 1 5 rfl rfl rfl rfl fun K hK hb1 hb2=>?_;simp only [argsV,enc,Nat.reduceAdd]
 clear hb1 hb2
 (repeat (any_goals (first | refine ste ?_ | (refine go2 fun xe hxe=>?_;conv=>whnf) | ((with_reducible refine cnd_i (fun hq=>?_) fun hq=>?_) <;> (try simp only [hqs] at hq) <;> (first | omega | conv=>whnf)) | refine co (hA) ?_)))
 exact ⟨rfl,rfl⟩
def vtb (g:List Vtx) (l:List Int) (w:Nat) (a:Int):Bool:=g.any fun v=>(v.round == 2 * (w:Int) && v.author == a) && v.parents.contains (ldrA l w)
def vti (g:List Vtx) (l:List Int) (w n:Nat):List Int:=((List.range n).filter fun a:Nat=>vtb g l w (a:Int)).map fun a:Nat=>(a:Int)
theorem vti_snoc (g:List Vtx) (l:List Int) (w n:Nat):vti g l w (n + 1) = if vtb g l w (n:Int) = true then vti g l w n ++ [(n:Int)] else vti g l w n:=by
 simp only [vti,List.range_succ,List.filter_append,List.map_append,List.filter_cons,List.filter_nil]
 split <;> simp
theorem vti_len (g:List Vtx) (l:List Int) (w n:Nat):(vti g l w n).length ≤ n:=by
 unfold vti
 rw [List.length_map]
 exact Nat.le_trans (List.length_filter_le _ _) (by simp)
theorem vti_eq {c:List Int} {g:List Vtx} (hg:GraOK c g) (l:List Int) (w:Nat):vti g l w c.length = vtr g l w:=by
 refine asc_ext ?_ (vtr_asc hg.pw l w) fun a=>?_
 ·unfold vti
  rw [List.pairwise_map]
  exact (List.Pairwise.filter _ List.pairwise_lt_range).imp fun h=>by omega
 ·rw [vtr_mem,vti,List.mem_map]
  simp only [List.mem_filter,List.mem_range,vtb,List.any_eq_true,Bool.and_eq_true,beq_iff_eq,List.contains_iff_mem]
  constructor
  ·rintro ⟨n,⟨hn,v,hv,⟨h1,h2⟩,h3⟩,rfl⟩
   exact ⟨v,hv,h1,h3,h2⟩
  ·rintro ⟨v,hv,h1,h2,rfl⟩
   have:=(vtxS_ok (hg.vtx v hv)).2.1
   exact ⟨v.author.toNat,⟨by omega,v,hv,⟨h1,by omega⟩,h2⟩,by omega⟩
theorem vtb_none {g:List Vtx} {l:List Int} {w:Nat} {a:Int} (h:g.findIdx? (isAt (2 * (w:Int)) a) = none):vtb g l w a = false:=by
 rw [Bool.eq_false_iff]
 intro h2
 obtain ⟨v,hv,h3⟩:=List.any_eq_true.1 h2
 simp only [Bool.and_eq_true] at h3
 have:=List.findIdx?_eq_none_iff.1 h v hv
 rw [show isAt (2 * (w:Int)) a v = true by simp only [isAt,Bool.and_eq_true];exact h3.1] at this
 cases this
theorem vtb_some {c:List Int} {g:List Vtx} (hg:GraOK c g) {l:List Int} {w n q:Nat} {a:Int} {v:Vtx} (hq:g.findIdx? (isAt (2 * (w:Int)) a) = some q) (hv:g[q]? = some v) (hn:g.findIdx? (isAt (2 * (w:Int) - 1) (ldrA l w)) = some n):vtb g l w a = (pix g v).contains (some n):=by
 obtain ⟨x,x1,x2,x3⟩:=idx_some hq
 rw [hv] at x1
 obtain rfl:=Option.some.inj x1
 obtain ⟨k,k1,k2,k3⟩:=idx_some hn
 rw [Bool.eq_iff_iff,List.contains_iff_mem]
 constructor
 ·intro h
  obtain ⟨u,hu,h3⟩:=List.any_eq_true.1 h
  simp only [Bool.and_eq_true,beq_iff_eq,List.contains_iff_mem] at h3
  obtain ⟨⟨h4,h5⟩,h6⟩:=h3
  have e:=pw_uniq hg.pw hu (List.mem_of_getElem? hv) (by omega) (by omega)
  subst e
  exact List.mem_map.2 ⟨ldrA l w,h6,by rw [x2];exact hn⟩
 ·intro h
  obtain ⟨b,hb,h3⟩:=List.mem_map.1 h
  obtain ⟨y,y1,y2,y3⟩:=idx_some h3
  rw [k1] at y1
  obtain rfl:=Option.some.inj y1
  refine List.any_eq_true.2 ⟨v,List.mem_of_getElem? hv,?_⟩
  simp only [Bool.and_eq_true,beq_iff_eq,List.contains_iff_mem]
  exact ⟨⟨x2,x3⟩,by rw [← k3,y3];exact hb⟩
theorem pix_all {c:List Int} {g:List Vtx} (hg:GraOK c g) {q:Nat} {v:Vtx} (hv:g[q]? = some v):∀ o ∈ pix g v,∃ k,o = some k ∧ k < (gst g).nodes.length:=fun o ho=>by
 obtain ⟨k,x,e,h1,-⟩:=pix_get hg (List.mem_of_getElem? hv) ho
 exact ⟨k,e,by rw [(gst_len g).1];exact (List.getElem?_eq_some_iff.1 h1).1⟩
theorem ivtN_c (c:List Int) (g:List Vtx) (l:List Int) (w:Nat) (hg:GraOK c g) (hl:leaS c l = true) (h1:1 ≤ w) (h2:w ≤ l.length) (ha:(gst g).at (2 * (w:Int) - 1) (ldrA l w) = none):ConV Tryz.prog 121 [.agg [.ptr 4 0,.lst (.int .i64) l],.int .i64 (w:Int)] (gR c (gst g)) (.tup [.int .i64 0,.gv 1]) (gR c (gst g)):=by
 have hL:=ildN_c c g l w hg hl h1 h2 ha
 refine con_eq Θe_ok Tryz.func121 rfl rfl false 2 6 rfl rfl rfl rfl fun K hK hb1 hb2=>?_;simp only [argsV,enc,Nat.reduceAdd]
 clear hb1 hb2
 (repeat (any_goals (first | refine ste ?_ | (refine go2 fun xe hxe=>?_;conv=>whnf) | ((with_reducible refine cnd_i (fun hq=>?_) fun hq=>?_) <;> (try simp only [hqs] at hq) <;> (first | omega | conv=>whnf)) | refine co (hL) ?_)))
 exact ⟨rfl,rfl⟩
theorem ivtZ_c (c:List Int) (l:List Int) (w:Nat) (hc:comV c = true) (hl:leaS c l = true) (h1:1 ≤ w) (h2:w ≤ l.length):ConV Tryz.prog 121 [.agg [.ptr 4 0,.lst (.int .i64) l],.int .i64 (w:Int)] (gZ c gs0) (.tup [.int .i64 0,.gv 1]) (gZ c gs0):=by
 have hL:=ildZ_c c l w hc hl h1 h2
 refine con_eq Θe_ok Tryz.func121 rfl rfl false 1 5 rfl rfl rfl rfl fun K hK hb1 hb2=>?_;simp only [argsV,enc,Nat.reduceAdd]
 clear hb1 hb2
 (repeat (any_goals (first | refine ste ?_ | (refine go2 fun xe hxe=>?_;conv=>whnf) | ((with_reducible refine cnd_i (fun hq=>?_) fun hq=>?_) <;> (try simp only [hqs] at hq) <;> (first | omega | conv=>whnf)) | refine co (hL) ?_)))
 exact ⟨rfl,rfl⟩
theorem ivtY_c (c:List Int) (g:List Vtx) (l:List Int) (w n:Nat) (hg:GraOK c g) (hl:leaS c l = true) (h1:1 ≤ w) (h2:w ≤ l.length) (ha:(gst g).at (2 * (w:Int) - 1) (ldrA l w) = some n):ConV Tryz.prog 121 [.agg [.ptr 4 0,.lst (.int .i64) l],.int .i64 (w:Int)] (gR c (gst g)) (.tup [.int .i64 (wei c (vtr g l w)),.nili]) (gR c (gst g)):=by
 have hL:=ildY_c c g l w n hg hl h1 h2 ha
 have h7:=(comV_iff.1 hg.com).2
 have hcm:=(comV_iff.1 hg.com).1
 have hll:=(leaS_iff.1 hl).2
 have hgn:=(gst_len g).1
 have hfn:=ha
 rw [at_ldr hg hl h1 h2] at hfn
 obtain ⟨k,hk,-,-⟩:=idx_some hfn
 have hnl:n < (gst g).nodes.length:=by rw [hgn];exact (List.getElem?_eq_some_iff.1 hk).1
 have hr:vIn (2 * (w:Int)) 0 30 = true:=vIn_iff.2 (by omega)
 rw [← vti_eq hg l w]
 refine con_eq Θe_ok Tryz.func121 rfl rfl false 2 6 rfl rfl rfl rfl fun K hK hb1 hb2=>?_;simp only [argsV,enc,Nat.reduceAdd]
 clear hb1 hb2
 (repeat (any_goals (first | refine ste ?_ | (refine go2 fun xe hxe=>?_;conv=>whnf) | ((with_reducible refine cnd_i (fun hq=>?_) fun hq=>?_) <;> (try simp only [hqs] at hq) <;> (first | omega | conv=>whnf)) | refine co (hL) ?_)))
 refine at_loop hK [] [1,2,6,8,25,26,27] (fun i:Nat=>⟨[(1,.int .i64 (w:Int)),(2,.ptr 6 0),(6,.hpo 0 (some n)),(8,.int .i64 (wei c (vti g l w i))),(25,.lst (.int .i64) c),(26,.int .i64 c.length),(27,.int .i64 (i:Int))],gRx c (gst g) (.var 76 [.ptr 4 0,.lst (.int .i64) l]),7⟩) (fun i=>i ≤ c.length) (fun i=>c.length - i) 0 (Nat.zero_le _) rfl ?_
 intro i hi
 have hwb:=wei_bd (ms:=vti g l w i) hg.com
 have hwl:=vti_len g l w i
 by_cases hlt:i < c.length
 ·have hm:hasM c i = true:=vIn_iff.2 (by omega)
  have hA:=aty_cR c (gst g) (2 * (w:Int)) (i:Int) (gst_len g).2 h7.2 hr hm
  have hfd:=gst_find hg (vIn_iff.1 hr) (a:=(i:Int)) (by omega)
  have hsn:=vti_snoc g l w i
  have hwn:=wei_snoc c (vti g l w i) (i:Int)
  have hca:c[i]? = some (c.getD i 0):=by rw [List.getD_eq_getElem?_getD,List.getElem?_eq_getElem hlt];rfl
  have hcb:=hcm _ (List.mem_of_getElem? hca)
  rw [show ((i:Int)).toNat = i by omega] at hwn
  cases h3:(gst g).at (2 * (w:Int)) (i:Int) with
  | none=>
   have hin1:(none:Option Nat).isNone = true:=rfl
   rw [h3] at hA
   rw [hfd] at h3
   rw [vtb_none h3,if_neg (by simp)] at hsn
   (repeat (any_goals (first | refine ste ?_ | (refine go2 fun xe hxe=>?_;conv=>whnf) | ((with_reducible refine cnd_i (fun hq=>?_) fun hq=>?_) <;> (try simp only [hqs] at hq) <;> (first | omega | conv=>whnf)) | refine co (hA) ?_)))
   exact ⟨i + 1,by omega,by omega,by rw [hsn];rfl⟩
  | some q=>
   have hin2:(some q:Option Nat).isNone = false:=rfl
   rw [h3] at hA
   rw [hfd] at h3
   obtain ⟨v,hv,-,-⟩:=idx_some h3
   obtain ⟨p,hp,hrow⟩:=gst_rows hg hv
   have hvb:=vtb_some hg (l:=l) h3 hv hfn
   rcases hrow with ⟨hpn,rfl⟩ | ⟨r,rfl,hrow⟩
   ·have hC:=scon0_c c (gst g) n
    have e:(pix g v).contains (some n) = false:=by rw [pix,hpn];rfl
    rw [hvb,e,if_neg (by simp)] at hsn
    (repeat (any_goals (first | refine ste ?_ | (refine go2 fun xe hxe=>?_;conv=>whnf) | ((with_reducible refine cnd_i (fun hq=>?_) fun hq=>?_) <;> (try simp only [hqs] at hq) <;> (first | omega | conv=>whnf)) | refine co (hA) ?_ | refine co (hC) ?_)))
    exact ⟨i + 1,by omega,by omega,by rw [hsn];rfl⟩
   ·have hC:=scon_c c (gst g) r n (pix g v) hrow (pix_all hg hv) hnl (by
     unfold pix
     rw [List.length_map]
     have:=mems_len (vtxS_ok (hg.vtx v (List.mem_of_getElem? hv))).2.2.1
     omega)
    rw [hvb] at hsn
    cases hb:(pix g v).contains (some n)
    ·rw [hb] at hC
     rw [hb,if_neg (by simp)] at hsn
     (repeat (any_goals (first | refine ste ?_ | (refine go2 fun xe hxe=>?_;conv=>whnf) | ((with_reducible refine cnd_i (fun hq=>?_) fun hq=>?_) <;> (try simp only [hqs] at hq) <;> (first | omega | conv=>whnf)) | refine co (hA) ?_ | refine co (hC) ?_)))
     exact ⟨i + 1,by omega,by omega,by rw [hsn];rfl⟩
    ·rw [hb] at hC
     rw [hb,if_pos rfl] at hsn
     generalize c.getD i 0 = cx at *
     generalize wei c (vti g l w i) = wx at *
     (repeat (any_goals (first | refine ste ?_ | (refine go2 fun xe hxe=>?_;conv=>whnf) | ((with_reducible refine cnd_i (fun hq=>?_) fun hq=>?_) <;> (try simp only [hqs] at hq) <;> (first | omega | conv=>whnf)) | refine co (hA) ?_ | refine co (hC) ?_)))
     exact ⟨i + 1,by omega,by omega,by rw [hsn,hwn];rfl⟩
 ·obtain rfl:i = c.length:=by omega
  (repeat (any_goals (first | refine ste ?_ | (refine go2 fun xe hxe=>?_;conv=>whnf) | ((with_reducible refine cnd_i (fun hq=>?_) fun hq=>?_) <;> (try simp only [hqs] at hq) <;> (first | omega | conv=>whnf)))))
  exact ⟨rfl,rfl⟩
theorem isup_c (c:List Int) (hc:comV c = true):ConV Tryz.prog 122 [.lst (.int .i64) c] [] (.int .i64 (sup c)) []:=by
 have h1:=tot_bd hc
 have h3:(tot c).tdiv 3 + 1 = sup c:=rfl
 have h2:=sup_pos hc
 refine con_eq Θ_ok Tryz.func122 rfl rfl false 0 4 rfl rfl rfl rfl fun K hK hb1 hb2=>?_;simp only [argsV,enc,Nat.reduceAdd]
 (repeat (any_goals (first | refine st ?_ | (refine go2 fun xe hxe=>?_;conv=>whnf) | ((with_reducible refine cnd_i (fun hq=>?_) fun hq=>?_) <;> (try simp only [hqs] at hq) <;> (first | omega | conv=>whnf)) | refine cr (itot_c _ hc) ?_)))
 exact ⟨rfl,rfl⟩
theorem idir_c (c:List Int) (g:List Vtx) (l:List Int) (w:Nat) (hg:GraOK c g) (hl:leaS c l = true) (h1:1 ≤ w) (h2:w ≤ l.length):ConV Tryz.prog 77 [.agg [.ptr 4 0,.lst (.int .i64) l],.int .i64 (w:Int)] (gR c (gst g)) (.bool (dir c g l w)) (gR c (gst g)):=by
 have hS:=isup_c c hg.com
 have hsp:=sup_pos hg.com
 cases hk:ldr g l w with
 | none=>
  have hL:=ivtN_c c g l w hg hl h1 h2 (at_ldrN hg hl h1 h2 hk)
  have e:dir c g l w = false:=by
   rw [dir,vts',hk]
   exact decide_eq_false (by simp;omega)
  rw [e]
  refine con_eq Θe_ok Tryz.func77 rfl rfl false 2 6 rfl rfl rfl rfl fun K hK hb1 hb2=>?_;simp only [argsV,enc,Nat.reduceAdd]
  clear hb1 hb2
  (repeat (any_goals (first | refine ste ?_ | (refine go2 fun xe hxe=>?_;conv=>whnf) | ((with_reducible refine cnd_i (fun hq=>?_) fun hq=>?_) <;> (try simp only [hqs] at hq) <;> (first | omega | conv=>whnf)) | refine cr (hS) ?_ | refine co (hL) ?_)))
  exact ⟨rfl,rfl⟩
 | some k=>
  obtain ⟨n,hn,-⟩:=at_ldrY hg hl h1 h2 hk
  have hL:=ivtY_c c g l w n hg hl h1 h2 hn
  have e:dir c g l w = decide (sup c ≤ wei c (vtr g l w)):=by rw [dir,vts',hk];rfl
  rw [e]
  generalize wei c (vtr g l w) = x at *
  by_cases hle:sup c ≤ x
  ·rw [decide_eq_true hle]
   refine con_eq Θe_ok Tryz.func77 rfl rfl false 2 6 rfl rfl rfl rfl fun K hK hb1 hb2=>?_;simp only [argsV,enc,Nat.reduceAdd]
   clear hb1 hb2
   (repeat (any_goals (first | refine ste ?_ | (refine go2 fun xe hxe=>?_;conv=>whnf) | ((with_reducible refine cnd_i (fun hq=>?_) fun hq=>?_) <;> (try simp only [hqs] at hq) <;> (first | omega | conv=>whnf)) | refine cr (hS) ?_ | refine co (hL) ?_)))
   exact ⟨by simp [hle],rfl⟩
  ·rw [decide_eq_false hle]
   refine con_eq Θe_ok Tryz.func77 rfl rfl false 2 6 rfl rfl rfl rfl fun K hK hb1 hb2=>?_;simp only [argsV,enc,Nat.reduceAdd]
   clear hb1 hb2
   (repeat (any_goals (first | refine ste ?_ | (refine go2 fun xe hxe=>?_;conv=>whnf) | ((with_reducible refine cnd_i (fun hq=>?_) fun hq=>?_) <;> (try simp only [hqs] at hq) <;> (first | omega | conv=>whnf)) | refine cr (hS) ?_ | refine co (hL) ?_)))
   exact ⟨by simp [hle],rfl⟩
theorem idirZ_c (c:List Int) (l:List Int) (w:Nat) (hc:comV c = true) (hl:leaS c l = true) (h1:1 ≤ w) (h2:w ≤ l.length):ConV Tryz.prog 77 [.agg [.ptr 4 0,.lst (.int .i64) l],.int .i64 (w:Int)] (gZ c gs0) (.bool false) (gZ c gs0):=by
 have hL:=ivtZ_c c l w hc hl h1 h2
 refine con_eq Θe_ok Tryz.func77 rfl rfl false 1 5 rfl rfl rfl rfl fun K hK hb1 hb2=>?_;simp only [argsV,enc,Nat.reduceAdd]
 clear hb1 hb2
 (repeat (any_goals (first | refine ste ?_ | (refine go2 fun xe hxe=>?_;conv=>whnf) | ((with_reducible refine cnd_i (fun hq=>?_) fun hq=>?_) <;> (try simp only [hqs] at hq) <;> (first | omega | conv=>whnf)) | refine co (hL) ?_)))
 exact ⟨rfl,rfl⟩
end Go.Proofs.YtncmbiacjeicpaaGreatDoor.Am
namespace Go.Proofs.YtncmbiacjeicpaaGreatDoor.Am
open Go
attribute [local irreducible] Mk Need Ari Get Idx Cnd CallM CallA Opt Unch At ConV
set_option maxRecDepth 10000
def intsN (ws:List Nat):List Int:=ws.map fun w:Nat=>(w:Int)
theorem intsN_app (a b:List Nat):intsN (a ++ b) = intsN a ++ intsN b:=by simp [intsN]
theorem intsN_len (a:List Nat):(intsN a).length = a.length:=by simp [intsN]
theorem pst_has {c:List Int} {g:List Vtx} (hg:GraOK c g) {u v:Vtx} {n:Nat} (hv:g[n]? = some v):(pst g u).contains (n:Int) = true ↔ Rv g u v:=by
 rw [List.contains_iff_mem,pst_mem]
 constructor
 ·rintro ⟨i,hi,x,hx,hr⟩
  obtain rfl:n = i:=by omega
  rw [hv] at hx
  obtain rfl:=Option.some.inj hx
  exact hr
 ·intro hr
  exact ⟨n,rfl,v,hv,hr⟩
theorem pst_le (g:List Vtx) (u:Vtx):(pst g u).Pairwise (· ≤ ·):=(pst_asc g u).imp fun h=>Int.le_of_lt h
open Classical in
theorem dwn_stop {g:List Vtx} {l:List Int} {last x:Nat} (h:x ≤ last) (cur:Vtx):dwn g l last x cur = []:=by
 cases x with
 | zero=>rfl
 | succ x=>unfold dwn;rw [if_pos h]
open Classical in
theorem dwn_no {g:List Vtx} {l:List Int} {last x:Nat} (h:last < x + 1) {cur:Vtx} (hk:ldr g l (x + 1) = none):dwn g l last (x + 1) cur = dwn g l last x cur:=by
 conv=>lhs;unfold dwn
 rw [if_neg (by omega),hk]
open Classical in
theorem dwn_skip {g:List Vtx} {l:List Int} {last x:Nat} (h:last < x + 1) {cur k:Vtx} (hk:ldr g l (x + 1) = some k) (hr:¬ Rv g cur k):dwn g l last (x + 1) cur = dwn g l last x cur:=by
 conv=>lhs;unfold dwn
 rw [if_neg (by omega),hk]
 exact if_neg hr
open Classical in
theorem dwn_take {g:List Vtx} {l:List Int} {last x:Nat} (h:last < x + 1) {cur k:Vtx} (hk:ldr g l (x + 1) = some k) (hr:Rv g cur k):dwn g l last (x + 1) cur = dwn g l last x k ++ [x + 1]:=by
 conv=>lhs;unfold dwn
 rw [if_neg (by omega),hk]
 exact if_pos hr
theorem ichn_c (c:List Int) (g:List Vtx) (l:List Int) (w last:Nat) (hg:GraOK c g) (hgl:g.length ≤ 1000000) (hl:leaS c l = true) (h1:1 ≤ w) (h2:w ≤ l.length) (hw:last < w) {k0:Vtx} (hk0:ldr g l w = some k0):ConV Tryz.prog 78 [.agg [.ptr 4 0,.lst (.int .i64) l],.int .i64 (w:Int),.int .i64 (last:Int)] (gR c (gst g)) (.lst (.int .i64) (intsN (chn g l w last))) (gR c (gst g)):=by
 have hll:=(leaS_iff.1 hl).2
 obtain ⟨n0,hn0,hg0⟩:=at_ldrY hg hl h1 h2 hk0
 have hL:=ildY_c c g l w n0 hg hl h1 h2 hn0
 have hP:=ipast_c c g hg hgl n0 k0 hg0
 have hch:chn g l w last = dwn g l last (w - 1) k0 ++ [w]:=by unfold chn;rw [hk0]
 have hpl0:=pst_len g k0
 refine con_eq Θe_ok Tryz.func78 rfl rfl true 2 6 rfl rfl rfl rfl fun K hK hb1 hb2=>?_;simp only [argsV,enc,Nat.reduceAdd]
 clear hb1 hb2
 (repeat (any_goals (first | refine ste ?_ | (refine go2 fun xe hxe=>?_;conv=>whnf) | ((with_reducible refine cnd_i (fun hq=>?_) fun hq=>?_) <;> (try simp only [hqs] at hq) <;> (first | omega | conv=>whnf)) | refine co (hL) ?_ | refine co (hP) ?_)))
 refine at_loop hK [] [2,3,9,10,11] (fun x:Nat × Vtx × List Nat=>⟨[(2,.int .i64 (last:Int)),(3,.ptr 6 0),(9,.ref 7),(10,.lst (.int .i64) (pst g x.2.1)),(11,.int .i64 (x.1:Int))],gRx c (gst g) (.var 76 [.ptr 4 0,.lst (.int .i64) l]) ++ [(7,.row 3 (.int .i64) ((w:Int) :: (intsN x.2.2).reverse))],8⟩) (fun x=>x.2.1 ∈ g ∧ last ≤ x.1 ∧ x.1 < w ∧ x.2.2.length + x.1 ≤ w ∧ dwn g l last (w - 1) k0 = dwn g l last x.1 x.2.1 ++ x.2.2) (fun x=>x.1) (w - 1,k0,[]) ⟨List.mem_of_getElem? hg0,by dsimp only;omega,by dsimp only;omega,by dsimp only;simp only [List.length_nil];omega,by simp⟩ ?_ ?_
 ·dsimp only
  rw [show (((w - 1:Nat):Int)) = (w:Int) - 1 by omega]
  rfl
 rintro ⟨x,cur,acc⟩ ⟨hcur,hx1,hx2,hx3,hdw⟩
 dsimp only at hcur hx1 hx2 hx3 hdw ⊢
 have hil:=intsN_len acc
 have hrl:((w:Int) :: (intsN acc).reverse).length = acc.length + 1:=by simp [hil]
 by_cases hlt:last < x
 ·obtain ⟨y,rfl⟩:∃ y,x = y + 1:=⟨x - 1,by omega⟩
  have e1:((y + 1:Nat):Int) - 1 = (y:Int):=by omega
  cases hk:ldr g l (y + 1) with
  | none=>
   have hL2:=ildN_c c g l (y + 1) hg hl (by omega) (by omega) (at_ldrN hg hl (by omega) (by omega) hk)
   have hE:=eisY_c
   rw [dwn_no (by omega) hk] at hdw
   generalize hrow:((w:Int) :: (intsN acc).reverse) = row at *
   (repeat (any_goals (first | refine ste ?_ | (refine go2 fun xe hxe=>?_;conv=>whnf) | ((with_reducible refine cnd_i (fun hq=>?_) fun hq=>?_) <;> (try simp only [hqs] at hq) <;> (first | omega | conv=>whnf)) | refine cr (hE) ?_ | refine co (hL2) ?_)))
   refine ⟨(y,cur,acc),⟨hcur,by dsimp only;omega,by dsimp only;omega,by dsimp only;omega,hdw⟩,by dsimp only;omega,?_⟩
   rw [e1]
   dsimp only
   rw [hrow]
   rfl
  | some k=>
   obtain ⟨n,hn,hgn⟩:=at_ldrY hg hl (by omega) (by omega) hk
   have hL2:=ildY_c c g l (y + 1) n hg hl (by omega) (by omega) hn
   have hE:=eisN_c
   have hB:=ibs_c (pst g cur) (n:Int) (pst_le g cur) (by have:=pst_len g cur;omega)
   obtain ⟨p,hp⟩:=gst_node hgn
   have hix:=pst_has hg (u:=cur) hgn
   by_cases hr:Rv g cur k
   ·rw [hix.2 hr] at hB
    have hP2:=ipast_c c g hg hgl n k hgn
    rw [dwn_take (by omega) hk hr,List.append_assoc] at hdw
    have hrow2:((w:Int) :: (intsN acc).reverse) ++ [((y + 1:Nat):Int)] = (w:Int) :: (intsN ((y + 1) :: acc)).reverse:=by simp [intsN]
    generalize hrow:((w:Int) :: (intsN acc).reverse) = row at *
    (repeat (any_goals (first | refine ste ?_ | (refine go2 fun xe hxe=>?_;conv=>whnf) | ((with_reducible refine cnd_i (fun hq=>?_) fun hq=>?_) <;> (try simp only [hqs] at hq) <;> (first | omega | conv=>whnf)) | refine cr (hE) ?_ | refine cr (hB) ?_ | refine co (hL2) ?_ | refine co (hP2) ?_)))
    refine ⟨(y,k,(y + 1) :: acc),⟨List.mem_of_getElem? hgn,by dsimp only;omega,by dsimp only;omega,by dsimp only;simp only [List.length_cons];omega,hdw⟩,by dsimp only;omega,?_⟩
    rw [e1]
    dsimp only
    rw [← hrow2]
    rfl
   ·rw [show (pst g cur).contains (n:Int) = false from by rw [Bool.eq_false_iff];exact fun h=>hr (hix.1 h)] at hB
    rw [dwn_skip (by omega) hk hr] at hdw
    generalize hrow:((w:Int) :: (intsN acc).reverse) = row at *
    (repeat (any_goals (first | refine ste ?_ | (refine go2 fun xe hxe=>?_;conv=>whnf) | ((with_reducible refine cnd_i (fun hq=>?_) fun hq=>?_) <;> (try simp only [hqs] at hq) <;> (first | omega | conv=>whnf)) | refine cr (hE) ?_ | refine cr (hB) ?_ | refine co (hL2) ?_)))
    refine ⟨(y,cur,acc),⟨hcur,by dsimp only;omega,by dsimp only;omega,by dsimp only;omega,hdw⟩,by dsimp only;omega,?_⟩
    rw [e1]
    dsimp only
    rw [hrow]
    rfl
 ·rw [dwn_stop (x:=x) (by omega) cur,List.nil_append] at hdw
  have hR:=irev_c ((w:Int) :: (intsN acc).reverse) (by omega)
  have hfin:((w:Int) :: (intsN acc).reverse).reverse = intsN (chn g l w last):=by
   rw [hch,hdw,intsN_app,List.reverse_cons,List.reverse_reverse];rfl
  (repeat (any_goals (first | refine ste ?_ | (refine go2 fun xe hxe=>?_;conv=>whnf) | ((with_reducible refine cnd_i (fun hq=>?_) fun hq=>?_) <;> (try simp only [hqs] at hq) <;> (first | omega | conv=>whnf)) | refine co (hR) ?_)))
  exact ⟨by rw [hfin],rfl⟩
end Go.Proofs.YtncmbiacjeicpaaGreatDoor.Am
