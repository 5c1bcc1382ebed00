/- Orders: all committed waves of the program. Orders: the program's orders. Orders: the laws' waves and orders. Orders: the laws' orders. Runs: impl's quiet rounds. Quiet periods: the reference's WorldCalm, what is drawn; the law of invalid runs. Orders: the laws' orders, slot by slot. Orders: the program's OrderSlots, WorldOrder. Orders: slots held against each other. Orders: FnWorldOrder. -/
import Derived.Test.YtjjddgpdoibcoaaGreatDoorPO9
set_option linter.unusedSimpArgs false
set_option linter.unusedVariables false
namespace Go.Proofs.YtjjddgpdoibcoaaGreatDoor.Am
open Go
attribute [local irreducible] Mk Need Ari Get Idx Cnd CallM CallA Opt Unch At ConV
set_option maxRecDepth 10000
theorem asc_len:∀ {l:List Nat} {a b:Nat},l.Pairwise (· < ·) → (∀ x ∈ l,a < x ∧ x ≤ b) → l.length ≤ b - a
 | [],_,_,_,_=>Nat.zero_le _
 | x :: l,a,b,h,hb=>by
  obtain ⟨h1,h2⟩:=List.pairwise_cons.1 h
  have hx:=hb x (by simp)
  have:=asc_len (a:=x) (b:=b) h2 fun y hy=>⟨h1 y hy,(hb y (by simp [hy])).2⟩
  simp only [List.length_cons]
  omega
theorem cmt_len (c:List Int) (g:List Vtx) (l:List Int) (hc:comV c = true) (n:Nat):(cmt c g l n).1.length ≤ n:=by
 have h1:=cmt_ldr (g:=g) hc l n
 have:=asc_len (a:=0) (b:=n) (cmt_asc c g l n).2.1 fun x hx=>⟨by have:=(h1 x hx).1;omega,(h1 x hx).2.1⟩
 omega
theorem chn_len (g:List Vtx) (l:List Int) {w last:Nat} (h:last < w):(chn g l w last).length ≤ w:=by
 obtain ⟨h1,h2⟩:=chn_asc g l h
 have:=asc_len h1 h2
 omega
theorem cmt_yes {c:List Int} {g:List Vtx} {l:List Int} {n:Nat} (h:dir c g l (n + 1) = true):cmt c g l (n + 1) = ((cmt c g l n).1 ++ chn g l (n + 1) (cmt c g l n).2,n + 1):=by
 conv=>lhs;unfold cmt
 rw [if_pos h]
theorem cmt_no {c:List Int} {g:List Vtx} {l:List Int} {n:Nat} (h:dir c g l (n + 1) = false):cmt c g l (n + 1) = cmt c g l n:=by
 conv=>lhs;unfold cmt
 rw [if_neg (by rw [h];simp)]
theorem cmt_nil (c:List Int) (l:List Int) (hc:comV c = true):∀ n:Nat,cmt c [] l n = ([],0)
 | 0=>rfl
 | n + 1=>by
  have h:dir c [] l (n + 1) = false:=by
   rw [Bool.eq_false_iff]
   intro h
   obtain ⟨k,hk,-⟩:=dir_ldr hc h
   cases hk
  rw [cmt_no h,cmt_nil c l hc n]
theorem icmt_c (c:List Int) (g:List Vtx) (l:List Int) (hg:GraOK c g) (hgl:g.length ≤ 1000000) (hl:leaS c l = true):ConV Tryz.prog 63 [.agg [.ptr 4 0,.lst (.int .i64) l]] (gR c (gst g)) (.lst (.int .i64) (intsN (cmt c g l l.length).1)) (gR c (gst g)):=by
 have hll:=(leaS_iff.1 hl).2
 refine con_eq Θe_ok Tryz.func63 rfl rfl true 2 6 rfl rfl rfl rfl fun K hK hb1 hb2=>?_;simp only [argsV,enc,Nat.reduceAdd]
 clear hb1 hb2
 (repeat (any_goals (first | refine ste ?_ | (refine go2 fun xe hxe=>?_;conv=>whnf) | ((with_reducible refine cnd_i (fun hq=>?_) fun hq=>?_) <;> (try simp only [hqs] at hq) <;> (first | omega | conv=>whnf)))))
 refine at_loop hK [] [1,3,4,5] (fun n:Nat=>⟨[(1,.ptr 6 0),(3,.ref 7),(4,.int .i64 ((cmt c g l n).2:Int)),(5,.int .i64 ((n:Int) + 1))],gRx c (gst g) (.var 104 [.ptr 4 0,.lst (.int .i64) l]) ++ [(7,.row 3 (.int .i64) (intsN (cmt c g l n).1))],8⟩) (fun n=>n ≤ l.length) (fun n=>l.length - n) 0 (Nat.zero_le _) ?_ ?_
 ·rw [show (((0:Nat):Int) + 1) = 1 from rfl]
  rfl
 intro n hn
 have hcl:=cmt_len c g l hg.com n
 have hil:=intsN_len (cmt c g l n).1
 have hc2:=(cmt_asc c g l n).1
 by_cases hlt:n < l.length
 ·have hD:=idir_c c g l (n + 1) hg hl (by omega) (by omega)
  have e1:(((n + 1:Nat)):Int) = (n:Int) + 1:=by omega
  cases hd:dir c g l (n + 1)
  ·rw [hd,e1] at hD
   have hcn:=cmt_no hd
   (repeat (any_goals (first | refine ste ?_ | (refine go2 fun xe hxe=>?_;conv=>whnf) | ((with_reducible refine cnd_i (fun hq=>?_) fun hq=>?_) <;> (try simp only [hqs] at hq) <;> (first | omega | conv=>whnf)) | refine co (hD) ?_)))
   exact ⟨n + 1,by omega,by omega,by rw [hcn,e1];rfl⟩
  ·obtain ⟨k,hk,-⟩:=dir_ldr hg.com hd
   have hC:=ichn_c c g l (n + 1) (cmt c g l n).2 hg hgl hl (by omega) (by omega) (by omega) hk
   have hkl:=chn_len g l (w:=n + 1) (last:=(cmt c g l n).2) (by omega)
   have hkl2:=intsN_len (chn g l (n + 1) (cmt c g l n).2)
   rw [hd,e1] at hD
   rw [e1] at hC
   have hcn:=cmt_yes hd
   have hap:=intsN_app (cmt c g l n).1 (chn g l (n + 1) (cmt c g l n).2)
   generalize hA:intsN (cmt c g l n).1 = A at *
   generalize hB:intsN (chn g l (n + 1) (cmt c g l n).2) = B at *
   (repeat (any_goals (first | refine ste ?_ | (refine go2 fun xe hxe=>?_;conv=>whnf) | ((with_reducible refine cnd_i (fun hq=>?_) fun hq=>?_) <;> (try simp only [hqs] at hq) <;> (first | omega | conv=>whnf)) | refine co (hD) ?_ | refine co (hC) ?_)))
   exact ⟨n + 1,by omega,by omega,by rw [hcn];dsimp only;rw [hap,e1];rfl⟩
 ·obtain rfl:n = l.length:=by omega
  (repeat (any_goals (first | refine ste ?_ | (refine go2 fun xe hxe=>?_;conv=>whnf) | ((with_reducible refine cnd_i (fun hq=>?_) fun hq=>?_) <;> (try simp only [hqs] at hq) <;> (first | omega | conv=>whnf)))))
  exact ⟨rfl,rfl⟩
theorem icmtZ_c (c:List Int) (l:List Int) (hc:comV c = true) (hl:leaS c l = true):ConV Tryz.prog 63 [.agg [.ptr 4 0,.lst (.int .i64) l]] (gZ c gs0) (.lst (.int .i64) []) (gZ c gs0):=by
 have hll:=(leaS_iff.1 hl).2
 refine con_eq Θe_ok Tryz.func63 rfl rfl true 1 5 rfl rfl rfl rfl fun K hK hb1 hb2=>?_;simp only [argsV,enc,Nat.reduceAdd]
 clear hb1 hb2
 (repeat (any_goals (first | refine ste ?_ | (refine go2 fun xe hxe=>?_;conv=>whnf) | ((with_reducible refine cnd_i (fun hq=>?_) fun hq=>?_) <;> (try simp only [hqs] at hq) <;> (first | omega | conv=>whnf)))))
 refine at_loop hK [] [1,3,4,5] (fun n:Nat=>⟨[(1,.ptr 5 0),(3,.ref 6),(4,.int .i64 0),(5,.int .i64 ((n:Int) + 1))],gZx c gs0 (.var 104 [.ptr 4 0,.lst (.int .i64) l]) ++ [(6,.row 3 (.int .i64) [])],7⟩) (fun n=>n ≤ l.length) (fun n=>l.length - n) 0 (Nat.zero_le _) ?_ ?_
 ·rw [show (((0:Nat):Int) + 1) = 1 from rfl]
  rfl
 intro n hn
 by_cases hlt:n < l.length
 ·have hD:=idirZ_c c l (n + 1) hc hl (by omega) (by omega)
  have e1:(((n + 1:Nat)):Int) = (n:Int) + 1:=by omega
  rw [e1] at hD
  (repeat (any_goals (first | refine ste ?_ | (refine go2 fun xe hxe=>?_;conv=>whnf) | ((with_reducible refine cnd_i (fun hq=>?_) fun hq=>?_) <;> (try simp only [hqs] at hq) <;> (first | omega | conv=>whnf)) | refine co (hD) ?_)))
  exact ⟨n + 1,by omega,by omega,by rw [e1];rfl⟩
 ·(repeat (any_goals (first | refine ste ?_ | (refine go2 fun xe hxe=>?_;conv=>whnf) | ((with_reducible refine cnd_i (fun hq=>?_) fun hq=>?_) <;> (try simp only [hqs] at hq) <;> (first | omega | conv=>whnf)))))
  exact ⟨rfl,rfl⟩
def wvV (c:List Int) (g:List Vtx) (l:List Int):Bool:=graS c g && leaS c l
theorem inw_no (c:List Int) (g:List Vtx) (l:List Int) (hgl:g.length ≤ 1000000) (h:wvV c g l = false):ConV Tryz.prog 62 [.lst (.int .i64) c,.lst .vtx g,.lst (.int .i64) l] [] (.tup [.agg [.nilp,.nils],.gv 0]) []:=by
 have hL:=link_c c g (by omega)
 have hV:=ileaV_c c l
 refine con_eq Θe_ok Tryz.func62 rfl rfl false 0 4 rfl rfl rfl rfl fun K hK hb1 hb2=>?_;simp only [argsV,enc,Nat.reduceAdd]
 clear hb1 hb2
 cases hg:graS c g
 ·simp only [lgR,lgO,hg,Bool.false_eq_true,if_false] at hL
  (repeat (any_goals (first | refine ste ?_ | (refine go2 fun xe hxe=>?_;conv=>whnf) | ((with_reducible refine cnd_i (fun hq=>?_) fun hq=>?_) <;> (try simp only [hqs] at hq) <;> (first | omega | conv=>whnf)) | refine cr (hL) ?_ | refine cr (hV) ?_)))
  exact ⟨rfl,rfl⟩
 ·have hok:=graS_ok hg
  simp only [lgR,lgO,hg,if_true] at hL
  rw [wvV,hg,Bool.true_and] at h
  rw [hok.com,h] at hV
  cases g with
  | nil=>
   (repeat (any_goals (first | refine ste ?_ | (refine go2 fun xe hxe=>?_;conv=>whnf) | ((with_reducible refine cnd_i (fun hq=>?_) fun hq=>?_) <;> (try simp only [hqs] at hq) <;> (first | omega | conv=>whnf)) | refine cr (hL) ?_ | refine cr (hV) ?_)))
   exact ⟨rfl,rfl⟩
  | cons v g=>
   (repeat (any_goals (first | refine ste ?_ | (refine go2 fun xe hxe=>?_;conv=>whnf) | ((with_reducible refine cnd_i (fun hq=>?_) fun hq=>?_) <;> (try simp only [hqs] at hq) <;> (first | omega | conv=>whnf)) | refine cr (hL) ?_ | refine cr (hV) ?_)))
   exact ⟨rfl,rfl⟩
theorem inwR_c (c:List Int) (v:Vtx) (g:List Vtx) (l:List Int) (hgl:(v :: g).length ≤ 1000000) (hg:graS c (v :: g) = true) (hl:leaS c l = true):ConV Tryz.prog 62 [.lst (.int .i64) c,.lst .vtx (v :: g),.lst (.int .i64) l] [] (.tup [.agg [.ptr 4 0,.lst (.int .i64) l],.nili]) (gR c (gst (v :: g))):=by
 have hL:=link_c c (v :: g) (by omega)
 have hV:=ileaV_c c l
 have hok:=graS_ok hg
 simp only [lgR,lgO,hg,if_true] at hL
 rw [hok.com,hl] at hV
 refine con_eq Θe_ok Tryz.func62 rfl rfl false 0 4 rfl rfl rfl rfl fun K hK hb1 hb2=>?_;simp only [argsV,enc,Nat.reduceAdd]
 clear hb1 hb2
 (repeat (any_goals (first | refine ste ?_ | (refine go2 fun xe hxe=>?_;conv=>whnf) | ((with_reducible refine cnd_i (fun hq=>?_) fun hq=>?_) <;> (try simp only [hqs] at hq) <;> (first | omega | conv=>whnf)) | refine cr (hL) ?_ | refine cr (hV) ?_)))
 exact ⟨rfl,rfl⟩
theorem inwZ_c (c:List Int) (l:List Int) (hc:comV c = true) (hl:leaS c l = true):ConV Tryz.prog 62 [.lst (.int .i64) c,.lst .vtx [],.lst (.int .i64) l] [] (.tup [.agg [.ptr 4 0,.lst (.int .i64) l],.nili]) (gZ c gs0):=by
 have hg:graS c [] = true:=by simp [graS,hc,allTo]
 have hL:=link_c c [] (by simp)
 have hV:=ileaV_c c l
 simp only [lgR,lgO,hg,if_true] at hL
 rw [hc,hl] at hV
 refine con_eq Θe_ok Tryz.func62 rfl rfl false 0 4 rfl rfl rfl rfl fun K hK hb1 hb2=>?_;simp only [argsV,enc,Nat.reduceAdd]
 clear hb1 hb2
 (repeat (any_goals (first | refine ste ?_ | (refine go2 fun xe hxe=>?_;conv=>whnf) | ((with_reducible refine cnd_i (fun hq=>?_) fun hq=>?_) <;> (try simp only [hqs] at hq) <;> (first | omega | conv=>whnf)) | refine cr (hL) ?_ | refine cr (hV) ?_)))
 exact ⟨rfl,rfl⟩
noncomputable def cmw (c:List Int) (g:List Vtx) (l:List Int):List Nat:=if wvV c g l then (cmt c g l l.length).1 else []
end Go.Proofs.YtjjddgpdoibcoaaGreatDoor.Am
namespace Go.Proofs.YtjjddgpdoibcoaaGreatDoor.Am
open Go
attribute [local irreducible] Mk Need Ari Get Idx Cnd CallM CallA Opt Unch At ConV MethM
set_option maxRecDepth 10000
theorem ordW_len (g:List Vtx) (l:List Int) (acc:List Vtx) (w:Nat):(ordW g l acc w).length ≤ g.length:=by
 unfold ordW
 split
 ·exact List.length_filter_le _ _
 ·exact Nat.zero_le _
theorem oddTo_len (g:List Vtx) (l:List Int):∀ (ws:List Nat) (os:List Odd),(oddTo g l os ws).length ≤ os.length + ws.length * g.length
 | [],os=>by simp [oddTo]
 | w :: ws,os=>by
  have h:=oddTo_len g l ws (os ++ (ordW g l (os.map (·.v)) w).map fun v=>⟨v,(w:Int)⟩)
  have h2:=ordW_len g l (os.map (·.v)) w
  simp only [List.length_append,List.length_map] at h
  simp only [oddTo,List.length_cons,Nat.succ_mul]
  omega
open Classical in
set_option maxHeartbeats 1000000 in
theorem iord_c (c:List Int) (g:List Vtx) (l:List Int) (hg:GraOK c g) (hgl:g.length ≤ 1000) (hl:leaS c l = true):ConV Tryz.prog 71 [.agg [.ptr 4 0,.lst (.int .i64) l]] (gR c (gst g)) (.lst .odd (oddTo g l [] (cmt c g l l.length).1)) (gR c (gst g)):=by
 have hll:=(leaS_iff.1 hl).2
 have hn:=(gst_len g).1
 have hC:=icmt_c c g l hg (by omega) hl
 have hcl:=cmt_len c g l hg.com l.length
 have hcm:=cmt_ldr (g:=g) hg.com l l.length
 have hrl:((List.range (gst g).nodes.length).map some).length = g.length:=by simp [hn]
 have hfit:fits 1 (((((List.range (gst g).nodes.length).map some).length:Nat):Int).toNat):=by rw [hrl];unfold fits;omega
 generalize (cmt c g l l.length).1 = W at *
 have hil:=intsN_len W
 have hol:=fun i=>oddTo_len g l (W.take i) []
 refine con_eq Θq_ok Tryz.func71 rfl rfl true 2 6 rfl rfl rfl rfl fun K hK hb1 hb2=>?_;simp only [argsV,enc,Nat.reduceAdd]
 clear hb1 hb2
 (repeat (any_goals (first | refine stq ?_ | (refine go2 fun xe hxe=>?_;conv=>whnf) | ((with_reducible refine cnd_i (fun hq=>?_) fun hq=>?_) <;> (try simp only [hqs] at hq) <;> (first | omega | conv=>whnf)) | refine co (hC) ?_)))
 clear hC
 refine at_loop hK [] [1,3,4,22,23,24] (fun i:Nat=>⟨[(1,.ptr 6 0),(3,.ref 7),(4,.ref 8),(22,.lst (.int .i64) (intsN W)),(23,.int .i64 W.length),(24,.int .i64 (i:Int))],gRx c (gst g) (.var 104 [.ptr 4 0,.lst (.int .i64) l]) ++ [(7,.row 116 .odd (oddTo g l [] (W.take i))),(8,.row 4 .bool (dnF g ((oddTo g l [] (W.take i)).map (·.v))))],9⟩) (fun i=>i ≤ W.length) (fun i=>W.length - i) 0 (Nat.zero_le _) ?_ ?_
 ·have e:List.replicate ((((List.range (gst g).nodes.length).map some).length:Int).toNat) false = dnF g ((oddTo g l [] (W.take 0)).map (·.v)):=by
   rw [List.take_zero,hrl]
   exact (dnF_0 g).symm
  rw [← e,← hil]
  rfl
 intro i hi
 by_cases hlt:i < W.length
 ·obtain ⟨w,hw⟩:∃ w,W[i]? = some w:=⟨_,List.getElem?_eq_getElem hlt⟩
  have hwx:(intsN W)[i]? = some (w:Int):=by rw [intsN,List.getElem?_map,hw];rfl
  obtain ⟨w1,w2,k,hk⟩:=hcm w (List.mem_of_getElem? hw)
  have htk:W.take (i + 1) = W.take i ++ [w]:=by
   obtain ⟨h1,h2⟩:=List.getElem?_eq_some_iff.1 hw
   rw [← h2];exact List.take_succ_eq_append_getElem h1
  have hap:=oddTo_app g l (W.take i) [w] []
  rw [← htk] at hap
  have hoi:=hol i
  rw [List.length_take] at hoi
  have hoi2:(oddTo g l [] (W.take i)).length ≤ 15000:=by
   refine Nat.le_trans hoi ?_
   simp only [List.length_nil,Nat.zero_add]
   exact Nat.le_trans (Nat.mul_le_mul (show min i W.length ≤ 15 by omega) hgl) (by omega)
  obtain ⟨n,hnn,hgn⟩:=at_ldrY hg hl w1 w2 hk
  have hL:=ildY_c c g l w n hg hl w1 w2 hnn
  have hP:=ipast_c c g hg (by omega) n k hgn
  have hkr:=(ldr_some hk).2.1
  obtain ⟨p0,hp0⟩:=gst_node hgn
  have hpl:=pst_len g k
  have hpv:=pvx_len g k
  clear htk hol hcm
  generalize oddTo g l [] (W.take i) = os at *
  have hap:oddTo g l [] (W.take (i + 1)) = os ++ (ordW g l (os.map (·.v)) w).map fun v=>⟨v,(w:Int)⟩:=hap
  (repeat (any_goals (first | refine stq ?_ | (refine go2 fun xe hxe=>?_;conv=>whnf) | ((with_reducible refine cnd_i (fun hq=>?_) fun hq=>?_) <;> (try simp only [hqs] at hq) <;> (first | omega | conv=>whnf)) | refine co (hL) ?_ | refine co (hP) ?_)))
  clear hL hP
  refine at_loop hK [] [1,3,4,6,7,9,22,23,24,41,42,43] (fun j:Nat=>⟨[(1,.ptr 6 0),(3,.ref 7),(4,.ref 8),(6,.int .i64 (w:Int)),(7,.hpo 0 (some n)),(9,.ptr 9 0),(22,.lst (.int .i64) (intsN W)),(23,.int .i64 W.length),(24,.int .i64 (i:Int)),(41,.lst (.int .i64) (pst g k)),(42,.int .i64 (pst g k).length),(43,.int .i64 (j:Int))],gRx c (gst g) (.var 104 [.ptr 4 0,.lst (.int .i64) l]) ++ [(7,.row 116 .odd os),(8,.row 4 .bool (dnF g (os.map (·.v) ++ qvx g k w (os.map (·.v)) j))),(9,.var 163 [.ref 10]),(10,.row 39 .vtx (qvx g k w (os.map (·.v)) j))],11⟩) (fun j=>j ≤ (pst g k).length) (fun j=>(pst g k).length - j) 0 (Nat.zero_le _) ?_ ?_
  ·rw [show qvx g k w (os.map (·.v)) 0 = [] from rfl,List.append_nil]
   rfl
  intro j hj
  have hql:=qvx_len g k w (os.map (·.v)) j
  have hdl:=dnF_len g (os.map (·.v) ++ qvx g k w (os.map (·.v)) j)
  by_cases hjl:j < (pst g k).length
  ·obtain ⟨x,hx⟩:∃ x,(pst g k)[j]? = some x:=⟨_,List.getElem?_eq_getElem hjl⟩
   obtain ⟨ii,rfl,v,hv,hpx⟩:=pvx_at hx
   have hsn:=qvx_snoc (w:=w) (os:=os.map (·.v)) hpx
   have hnew:=qvx_new hg (w:=w) (os:=os.map (·.v)) hpx
   have hiil:=(List.getElem?_eq_some_iff.1 hv).1
   obtain ⟨p,hp⟩:=gst_node hv
   have hrg:=rng_at (n:=(gst g).nodes.length) (i:=ii) (by omega)
   have hda:=dnF_at (os:=os.map (·.v) ++ qvx g k w (os.map (·.v)) j) hv
   have hds:=dnF_set hg (os:=os.map (·.v) ++ qvx g k w (os.map (·.v)) j) hv
   rw [List.append_assoc] at hds
   have hasc:=qvx_asc hg k w (os.map (·.v)) (j + 1)
   by_cases c1:v ∈ os.map (·.v)
   ·rw [decide_eq_true (List.mem_append.2 (.inl c1))] at hda
    rw [if_neg (fun h=>h.2 c1)] at hsn
    generalize hqq:qvx g k w (os.map (·.v)) j = qs at *
    (repeat (any_goals (first | refine stq ?_ | (refine go2 fun xe hxe=>?_;conv=>whnf) | ((with_reducible refine cnd_i (fun hq=>?_) fun hq=>?_) <;> (try simp only [hqs] at hq) <;> (first | omega | conv=>whnf)))))
    (try any_goals (first | exact absurd trivial hq | exact absurd rfl hq | exact absurd hq (by omega) | (exfalso;simp at hq;done)))
    exact ⟨j + 1,by omega,by omega,by rw [hsn];rfl⟩
   ·rw [decide_eq_false (fun h=>by rcases List.mem_append.1 h with h | h;exact c1 h;exact hnew h)] at hda
    by_cases c2:2 * (w:Int) - 7 ≤ v.round
    ·have c2p:k.round - 6 ≤ v.round:=by omega
     rw [if_pos ⟨c2,c1⟩] at hsn
     rw [hsn] at hasc
     have hPu:=hpush_c (qvx g k w (os.map (·.v)) j) v (by omega) hasc
     rw [← hsn] at hPu hds
     generalize hq2:qvx g k w (os.map (·.v)) (j + 1) = qs2 at *
     generalize hqq:qvx g k w (os.map (·.v)) j = qs at *
     (repeat (any_goals (first | refine stq ?_ | (refine go2 fun xe hxe=>?_;conv=>whnf) | ((with_reducible refine cnd_i (fun hq=>?_) fun hq=>?_) <;> (try simp only [hqs] at hq) <;> (first | omega | conv=>whnf)) | refine co (hPu) ?_)))
     (try any_goals (first | exact absurd trivial hq | exact absurd rfl hq | exact absurd hq (by omega) | (exfalso;simp at hq;done)))
     exact ⟨j + 1,by omega,by omega,by rw [hq2,← hds];rfl⟩
    ·have c2p:¬ k.round - 6 ≤ v.round:=by omega
     rw [if_neg (fun h=>c2 h.1)] at hsn
     generalize hqq:qvx g k w (os.map (·.v)) j = qs at *
     (repeat (any_goals (first | refine stq ?_ | (refine go2 fun xe hxe=>?_;conv=>whnf) | ((with_reducible refine cnd_i (fun hq=>?_) fun hq=>?_) <;> (try simp only [hqs] at hq) <;> (first | omega | conv=>whnf)))))
     (try any_goals (first | exact absurd trivial hq | exact absurd rfl hq | exact absurd hq (by omega) | (exfalso;simp at hq;done)))
     exact ⟨j + 1,by omega,by omega,by rw [hsn];rfl⟩
  ·obtain rfl:j = (pst g k).length:=by omega
   have hend:=qvx_end (os:=os.map (·.v)) hk
   rw [hpv] at hend
   have hasc:=qvx_asc hg k w (os.map (·.v)) (pst g k).length
   rw [hend] at hasc hql
   rw [hend]
   have hD:=drain_c (ordW g l (os.map (·.v)) w) (ordW g l (os.map (·.v)) w) (w:Int) (by omega) hasc (List.Perm.refl _) (heap_asc hasc)
   have hdd:(oddTo g l [] (W.take (i + 1))).map (·.v) = os.map (·.v) ++ ordW g l (os.map (·.v)) w:=by
    rw [hap,List.map_append,List.map_map]
    congr 1
    exact List.map_id _
   have hml:((ordW g l (os.map (·.v)) w).map fun v=>(⟨v,(w:Int)⟩:Odd)).length = (ordW g l (os.map (·.v)) w).length:=by simp
   rw [← hdd]
   generalize hmm:((ordW g l (os.map (·.v)) w).map fun v=>(⟨v,(w:Int)⟩:Odd)) = ms at *
   have hml2:ms.length ≤ g.length:=by omega
   cases hoe:ordW g l (os.map (·.v)) w with
   | nil=>
    rw [hoe] at hD hml
    rw [show qE [] = qB [] from rfl] at hD
    (repeat (any_goals (first | refine stq ?_ | (refine go2 fun xe hxe=>?_;conv=>whnf) | ((with_reducible refine cnd_i (fun hq=>?_) fun hq=>?_) <;> (try simp only [hqs] at hq) <;> (first | omega | conv=>whnf)) | refine co (hD) ?_)))
    (try any_goals (first | exact absurd trivial hq | exact absurd rfl hq | exact absurd hq (by omega) | (exfalso;simp at hq;done)))
    exact ⟨i + 1,by omega,by omega,by rw [hap];rfl⟩
   | cons v s'=>
    rw [hoe] at hD hml
    have hE:qE (v :: s') = qG []:=by unfold qE;rw [if_neg (by simp)]
    rw [hE] at hD
    (repeat (any_goals (first | refine stq ?_ | (refine go2 fun xe hxe=>?_;conv=>whnf) | ((with_reducible refine cnd_i (fun hq=>?_) fun hq=>?_) <;> (try simp only [hqs] at hq) <;> (first | omega | conv=>whnf)) | refine co (hD) ?_)))
    (try any_goals (first | exact absurd trivial hq | exact absurd rfl hq | exact absurd hq (by omega) | (exfalso;simp at hq;done)))
    exact ⟨i + 1,by omega,by omega,by rw [hap];rfl⟩
 ·obtain rfl:i = W.length:=by omega
  rw [List.take_length]
  (repeat (any_goals (first | refine stq ?_ | (refine go2 fun xe hxe=>?_;conv=>whnf) | ((with_reducible refine cnd_i (fun hq=>?_) fun hq=>?_) <;> (try simp only [hqs] at hq) <;> (first | omega | conv=>whnf)))))
  exact ⟨rfl,rfl⟩
end Go.Proofs.YtjjddgpdoibcoaaGreatDoor.Am
namespace Go.Proofs.YtjjddgpdoibcoaaGreatDoor.Am
open Go
attribute [local irreducible] Mk Need Ari Get Idx Cnd CallM CallA Opt Unch At ConV
set_option maxRecDepth 10000
open Classical in
theorem sw_c (c:List Int) (g:List Vtx) (l:List Int) (hg:GraOK c g) (hgl:g.length ≤ 1000000) (hl:leaS c l = true):ConV Tryz.prog 216 [.lst (.int .i64) c,.lst .vtx g,.lst (.int .i64) l] [] (.lst (.int .i64) (intsN (cmt c g l l.length).1)) []:=by
 have hll:=(leaS_iff.1 hl).2
 have hS:=sup_c c hg.com
 have hsp:=sup_pos hg.com
 refine con_eq Θ_ok Tryz.func216 rfl rfl true 0 4 rfl rfl rfl rfl fun K hK hb1 hb2=>?_;simp only [argsV,enc,Nat.reduceAdd]
 clear hb1 hb2
 (repeat (any_goals (first | refine st ?_ | (refine go2 fun xe hxe=>?_;conv=>whnf) | ((with_reducible refine cnd_i (fun hq=>?_) fun hq=>?_) <;> (try simp only [hqs] at hq) <;> (first | omega | conv=>whnf)))))
 refine at_loop hK [] [0,1,2,7,8,9] (fun n:Nat=>⟨[(0,.lst (.int .i64) c),(1,.lst .vtx g),(2,.lst (.int .i64) l),(7,.ref 4),(8,.int .i64 ((cmt c g l n).2:Int)),(9,.int .i64 ((n:Int) + 1))],[(4,.row 3 (.int .i64) (intsN (cmt c g l n).1))],5⟩) (fun n=>n ≤ l.length) (fun n=>l.length - n) 0 (Nat.zero_le _) rfl ?_
 intro n hn
 have hcl:=cmt_len c g l hg.com n
 have hil:=intsN_len (cmt c g l n).1
 have hc2:=(cmt_asc c g l n).1
 by_cases hlt:n < l.length
 ·have hV:=vts_c c g l (n + 1) hg hgl (by omega) (by omega) (by omega)
  have e1:(((n + 1:Nat)):Int) = (n:Int) + 1:=by omega
  have hdd:dir c g l (n + 1) = decide (sup c ≤ vts' c g l (n + 1)):=rfl
  rw [e1] at hV
  by_cases hd:dir c g l (n + 1) = true
  ·obtain ⟨k0,hk0,-⟩:=dir_ldr hg.com hd
   have hcn:=cmt_yes hd
   have hap:=intsN_app (cmt c g l n).1 (chn g l (n + 1) (cmt c g l n).2)
   have hch:chn g l (n + 1) (cmt c g l n).2 = dwn g l (cmt c g l n).2 n k0 ++ [n + 1]:=by unfold chn;rw [hk0];rfl
   rw [hdd] at hd
   have hd:=of_decide_eq_true hd
   obtain ⟨n0,hn0,hg0⟩:=ldrI_some hg hk0
   have hL:=ldr_c g l (n + 1) (by omega) (by omega) (by omega)
   rw [hn0,e1] at hL
   have hP:=past_c c g hg hgl n0 k0 hg0
   generalize vts' c g l (n + 1) = vt at *
   generalize hA:intsN (cmt c g l n).1 = A at *
   generalize hla:(cmt c g l n).2 = last at *
   (repeat (any_goals (first | refine st ?_ | (refine go2 fun xe hxe=>?_;conv=>whnf) | ((with_reducible refine cnd_i (fun hq=>?_) fun hq=>?_) <;> (try simp only [hqs] at hq) <;> (first | omega | conv=>whnf)) | refine cr (hV) ?_ | refine cr (hS) ?_ | refine cr (hL) ?_ | refine cr (hP) ?_)))
   clear hV hL hP hS
   refine at_loop hK [] [0,1,2,7,8,9,10,11,12] (fun x:Nat × Vtx × List Nat=>⟨[(0,.lst (.int .i64) c),(1,.lst .vtx g),(2,.lst (.int .i64) l),(7,.ref 4),(8,.int .i64 (last:Int)),(9,.int .i64 ((n:Int) + 1)),(10,.ref 5),(11,.lst .bool (pfl g x.2.1)),(12,.int .i64 (x.1:Int))],[(4,.row 3 (.int .i64) A),(5,.row 3 (.int .i64) (intsN (x.2.2 ++ [n + 1])))],6⟩) (fun x=>x.2.1 ∈ g ∧ last ≤ x.1 ∧ x.1 ≤ n ∧ x.2.2.length + x.1 ≤ n ∧ dwn g l last n k0 = dwn g l last x.1 x.2.1 ++ x.2.2) (fun x=>x.1) (n,k0,[]) ⟨List.mem_of_getElem? hg0,hc2,Nat.le_refl _,by simp,by simp⟩ ?_ ?_
   ·dsimp only
    rw [show ((n:Int) + 1 - 1) = (n:Int) by omega,List.nil_append,show intsN [n + 1] = [(n:Int) + 1] from by rw [← e1];rfl]
    rfl
   rintro ⟨x,cur,acc⟩ ⟨hcur,hx1,hx2,hx3,hdw⟩
   dsimp only at hcur hx1 hx2 hx3 hdw ⊢
   have hrl:(intsN (acc ++ [n + 1])).length = acc.length + 1:=by rw [intsN_len];simp
   by_cases hlt2:last < x
   ·obtain ⟨y,rfl⟩:∃ y,x = y + 1:=⟨x - 1,by omega⟩
    have e2:((y + 1:Nat):Int) - 1 = (y:Int):=by omega
    have hL:=ldr_c g l (y + 1) (by omega) (by omega) (by omega)
    cases hk:ldr g l (y + 1) with
    | none=>
     rw [ldrI_none hk] at hL
     rw [dwn_no (by omega) hk] at hdw
     generalize hrow:intsN (acc ++ [n + 1]) = row at *
     (repeat (any_goals (first | refine st ?_ | (refine go2 fun xe hxe=>?_;conv=>whnf) | ((with_reducible refine cnd_i (fun hq=>?_) fun hq=>?_) <;> (try simp only [hqs] at hq) <;> (first | omega | conv=>whnf)) | refine cr (hL) ?_)))
     refine ⟨(y,cur,acc),⟨hcur,by dsimp only;omega,by dsimp only;omega,by dsimp only;omega,hdw⟩,by dsimp only;omega,?_⟩
     rw [e2]
     dsimp only
     rw [hrow]
    | some k=>
     obtain ⟨m,hm,hgm⟩:=ldrI_some hg hk
     rw [hm] at hL
     have hpf:=pfl_at (u:=cur) hgm
     by_cases hr:Rv g cur k
     ·rw [decide_eq_true hr] at hpf
      have hP:=past_c c g hg hgl m k hgm
      rw [dwn_take (by omega) hk hr,List.append_assoc] at hdw
      have hrow2:[((y + 1:Nat):Int)] ++ intsN (acc ++ [n + 1]) = intsN (((y + 1) :: acc) ++ [n + 1]):=rfl
      generalize hrow:intsN (acc ++ [n + 1]) = row at *
      (repeat (any_goals (first | refine st ?_ | (refine go2 fun xe hxe=>?_;conv=>whnf) | ((with_reducible refine cnd_i (fun hq=>?_) fun hq=>?_) <;> (try simp only [hqs] at hq) <;> (first | omega | conv=>whnf)) | refine cr (hL) ?_ | refine cr (hP) ?_)))
      refine ⟨(y,k,(y + 1) :: acc),⟨List.mem_of_getElem? hgm,by dsimp only;omega,by dsimp only;omega,by dsimp only;simp only [List.length_cons];omega,hdw⟩,by dsimp only;omega,?_⟩
      rw [e2]
      dsimp only
      rw [← hrow2]
     ·rw [decide_eq_false hr] at hpf
      rw [dwn_skip (by omega) hk hr] at hdw
      generalize hrow:intsN (acc ++ [n + 1]) = row at *
      (repeat (any_goals (first | refine st ?_ | (refine go2 fun xe hxe=>?_;conv=>whnf) | ((with_reducible refine cnd_i (fun hq=>?_) fun hq=>?_) <;> (try simp only [hqs] at hq) <;> (first | omega | conv=>whnf)) | refine cr (hL) ?_)))
      refine ⟨(y,cur,acc),⟨hcur,by dsimp only;omega,by dsimp only;omega,by dsimp only;omega,hdw⟩,by dsimp only;omega,?_⟩
      rw [e2]
      dsimp only
      rw [hrow]
   ·rw [dwn_stop (x:=x) (by omega) cur,List.nil_append] at hdw
    have hfin:intsN (acc ++ [n + 1]) = intsN (chn g l (n + 1) last):=by rw [hch,hdw]
    rw [hfin]
    rw [hfin] at hrl
    generalize hB:intsN (chn g l (n + 1) last) = B at *
    have hAl:A.length ≤ n:=by omega
    (repeat (any_goals (first | refine st ?_ | (refine go2 fun xe hxe=>?_;conv=>whnf) | ((with_reducible refine cnd_i (fun hq=>?_) fun hq=>?_) <;> (try simp only [hqs] at hq) <;> (first | omega | conv=>whnf)))))
    exact ⟨n + 1,by omega,by omega,by rw [hcn];dsimp only;rw [hap,e1]⟩
  ·have hd2:dir c g l (n + 1) = false:=by simpa using hd
   have hcn:=cmt_no hd2
   rw [hdd] at hd2
   have hd2:=of_decide_eq_false hd2
   generalize vts' c g l (n + 1) = vt at *
   (repeat (any_goals (first | refine st ?_ | (refine go2 fun xe hxe=>?_;conv=>whnf) | ((with_reducible refine cnd_i (fun hq=>?_) fun hq=>?_) <;> (try simp only [hqs] at hq) <;> (first | omega | conv=>whnf)) | refine cr (hV) ?_ | refine cr (hS) ?_)))
   exact ⟨n + 1,by omega,by omega,by rw [hcn,e1]⟩
 ·obtain rfl:n = l.length:=by omega
  (repeat (any_goals (first | refine st ?_ | (refine go2 fun xe hxe=>?_;conv=>whnf) | ((with_reducible refine cnd_i (fun hq=>?_) fun hq=>?_) <;> (try simp only [hqs] at hq) <;> (first | omega | conv=>whnf)))))
  exact ⟨rfl,rfl⟩
end Go.Proofs.YtjjddgpdoibcoaaGreatDoor.Am
namespace Go.Proofs.YtjjddgpdoibcoaaGreatDoor.Am
open Go
attribute [local irreducible] Mk Need Ari Get Idx Cnd CallM CallA Opt Unch At ConV
set_option maxRecDepth 10000
noncomputable def wvS (g:List Vtx) (l:List Int) (ws:List Nat) (w:Nat) (j:Nat):List Int:=(g.take j).map (wvk g l (ws ++ [w])) ++ (g.drop j).map (wvk g l ws)
theorem wvS_len (g:List Vtx) (l:List Int) (ws:List Nat) (w j:Nat):(wvS g l ws w j).length = g.length:=by
 simp only [wvS,List.length_append,List.length_map,List.length_take,List.length_drop]
 omega
theorem wvS_0 (g:List Vtx) (l:List Int) (ws:List Nat) (w:Nat):wvS g l ws w 0 = g.map (wvk g l ws):=by simp [wvS]
theorem wvS_end (g:List Vtx) (l:List Int) (ws:List Nat) (w:Nat):wvS g l ws w g.length = g.map (wvk g l (ws ++ [w])):=by simp [wvS]
theorem wvS_at {g:List Vtx} {l:List Int} {ws:List Nat} {w j:Nat} {v:Vtx} (h:g[j]? = some v):(wvS g l ws w j)[j]? = some (wvk g l ws v):=by
 have hj:=(List.getElem?_eq_some_iff.1 h).1
 rw [wvS,List.getElem?_append_right (by simp;omega)]
 simp only [List.length_map,List.length_take,List.getElem?_map,List.getElem?_drop]
 rw [show j + (j - min j g.length) = j by omega,h]
 rfl
theorem wvS_set {g:List Vtx} {l:List Int} {ws:List Nat} {w j:Nat} {v:Vtx} (h:g[j]? = some v):(wvS g l ws w j).set j (wvk g l (ws ++ [w]) v) = wvS g l ws w (j + 1):=by
 obtain ⟨hj,hv⟩:=List.getElem?_eq_some_iff.1 h
 have e1:g.take (j + 1) = g.take j ++ [v]:=by rw [← hv];exact List.take_succ_eq_append_getElem hj
 have e2:g.drop j = v :: g.drop (j + 1):=by rw [← hv];exact (List.drop_eq_getElem_cons hj)
 have e3:(List.map (wvk g l (ws ++ [w])) (g.take j)).length = j:=by simp;omega
 rw [wvS,wvS,e1,e2,List.map_append,List.map_cons,List.set_append_right _ _ (by omega),e3,Nat.sub_self,List.set_cons_zero,List.append_assoc]
 rfl
theorem wvS_skip {g:List Vtx} {l:List Int} {ws:List Nat} {w j:Nat} {v:Vtx} (h:g[j]? = some v) (he:wvk g l (ws ++ [w]) v = wvk g l ws v):wvS g l ws w j = wvS g l ws w (j + 1):=by
 have h1:=wvS_set (l:=l) (ws:=ws) (w:=w) h
 rw [he] at h1
 rw [← h1]
 refine (List.ext_getElem? fun k=>?_)
 rw [List.getElem?_set]
 by_cases e:j = k
 ·subst e
  have:=wvS_at (l:=l) (ws:=ws) (w:=w) h
  rw [if_pos rfl,if_pos (List.getElem?_eq_some_iff.1 this).1,this]
 ·rw [if_neg e]
theorem wvk_nil (g:List Vtx) (l:List Int) (v:Vtx):wvk g l [] v = 0:=rfl
open Classical in
theorem s22_c (c:List Int) (g:List Vtx) (l:List Int) (hg:GraOK c g) (hgl:g.length ≤ 1000000) (hl:leaS c l = true):ConV Tryz.prog 188 [.lst (.int .i64) c,.lst .vtx g,.lst (.int .i64) l] [] (.lst (.int .i64) (g.map (wvk g l (cmt c g l l.length).1))) []:=by
 have hll:=(leaS_iff.1 hl).2
 have hW:=sw_c c g l hg hgl hl
 have hcl:=cmt_len c g l hg.com l.length
 have hcm:=cmt_ldr (g:=g) hg.com l l.length
 have hfit:fits 8 (((g.length:Nat):Int).toNat):=by unfold fits;omega
 generalize (cmt c g l l.length).1 = W at *
 have hil:=intsN_len W
 refine con_eq Θ_ok Tryz.func188 rfl rfl true 0 4 rfl rfl rfl rfl fun K hK hb1 hb2=>?_;simp only [argsV,enc,Nat.reduceAdd]
 clear hb1 hb2
 (repeat (any_goals (first | refine st ?_ | (refine go2 fun xe hxe=>?_;conv=>whnf) | ((with_reducible refine cnd_i (fun hq=>?_) fun hq=>?_) <;> (try simp only [hqs] at hq) <;> (first | omega | conv=>whnf)) | refine cr (hW) ?_)))
 refine at_loop hK [] [1,2,7,8,9] (fun i:Nat=>⟨[(1,.lst .vtx g),(2,.lst (.int .i64) l),(7,.ref 4),(8,.lst (.int .i64) (intsN W)),(9,.int .i64 (i:Int))],[(4,.row 3 (.int .i64) (g.map (wvk g l (W.take i))))],5⟩) (fun i=>i ≤ W.length) (fun i=>W.length - i) 0 (Nat.zero_le _) ?_ ?_
 ·have e:List.replicate ((g.length:Int).toNat) (0:Int) = g.map (wvk g l (W.take 0)):=by
   rw [List.take_zero,show ((g.length:Int).toNat) = g.length by omega]
   refine (List.ext_getElem (by simp) fun k h1 h2=>?_)
   simp [wvk_nil]
  rw [← e]
  rfl
 intro i hi
 by_cases hlt:i < W.length
 ·obtain ⟨w,hw⟩:∃ w,W[i]? = some w:=⟨_,List.getElem?_eq_getElem hlt⟩
  have hwx:(intsN W)[i]? = some (w:Int):=by rw [intsN,List.getElem?_map,hw];rfl
  obtain ⟨w1,w2,k,hk⟩:=hcm w (List.mem_of_getElem? hw)
  have htk:W.take (i + 1) = W.take i ++ [w]:=by
   obtain ⟨h1,h2⟩:=List.getElem?_eq_some_iff.1 hw
   rw [← h2];exact List.take_succ_eq_append_getElem h1
  have hpos:∀ x ∈ W.take i,1 ≤ x:=fun x hx=>(hcm x (List.mem_of_mem_take hx)).1
  obtain ⟨n,hn,hgn⟩:=ldrI_some hg hk
  have hL:=ldr_c g l w w1 w2 (by omega)
  rw [hn] at hL
  have hP:=past_c c g hg hgl n k hgn
  generalize W.take i = ws at *
  (repeat (any_goals (first | refine st ?_ | (refine go2 fun xe hxe=>?_;conv=>whnf) | ((with_reducible refine cnd_i (fun hq=>?_) fun hq=>?_) <;> (try simp only [hqs] at hq) <;> (first | omega | conv=>whnf)) | refine cr (hL) ?_ | refine cr (hP) ?_)))
  clear hL hP hW
  refine at_loop hK [] [1,2,7,8,9,10,11] (fun j:Nat=>⟨[(1,.lst .vtx g),(2,.lst (.int .i64) l),(7,.ref 4),(8,.lst (.int .i64) (intsN W)),(9,.int .i64 (i:Int)),(10,.lst .bool (pfl g k)),(11,.int .i64 (j:Int))],[(4,.row 3 (.int .i64) (wvS g l ws w j))],5⟩) (fun j=>j ≤ g.length) (fun j=>g.length - j) 0 (Nat.zero_le _) (by rw [wvS_0];rfl) ?_
  intro j hj
  have hrl:=wvS_len g l ws w j
  by_cases hjl:j < g.length
  ·have hxe:g[j]? = some g[j]:=List.getElem?_eq_getElem hjl
   have hpf:=pfl_at (u:=k) hxe
   have hat:=wvS_at (l:=l) (ws:=ws) (w:=w) hxe
   have hst:=wvS_set (l:=l) (ws:=ws) (w:=w) hxe
   have hsk:=wvS_skip (l:=l) (ws:=ws) (w:=w) hxe
   have hvr:=(vtxS_ok (hg.vtx _ (List.mem_of_getElem? hxe))).1
   have hsn:=wvk_snoc g l ws w g[j] hpos
   have hiw:inW g l w g[j] ↔ Rv g k g[j] ∧ 2 * (w:Int) - 7 ≤ g[j].round:=by
    unfold inW
    rw [hk]
    exact ⟨fun ⟨k',e,h1,h2⟩=>by obtain rfl:=Option.some.inj e;exact ⟨h1,h2⟩,fun ⟨h1,h2⟩=>⟨k,rfl,h1,h2⟩⟩
   generalize g[j] = v at *
   generalize wvk g l ws v = o at *
   generalize wvk g l (ws ++ [w]) v = o2 at *
   generalize hrow:wvS g l ws w j = row at *
   by_cases hr:Rv g k v
   ·rw [decide_eq_true hr] at hpf
    by_cases ho:o = 0
    ·by_cases hd:2 * (w:Int) - 7 ≤ v.round
     ·rw [if_pos ⟨ho,hiw.2 ⟨hr,hd⟩⟩] at hsn
      rw [hsn] at hst
      (repeat (any_goals (first | refine st ?_ | (refine go2 fun xe hxe=>?_;conv=>whnf) | ((with_reducible refine cnd_i (fun hq=>?_) fun hq=>?_) <;> (try simp only [hqs] at hq) <;> (first | omega | conv=>whnf)))))
      (try any_goals (first | exact absurd trivial hq | exact absurd rfl hq | exact absurd hq (by omega) | (exfalso;simp at hq;done)))
      exact ⟨j + 1,by omega,by omega,by rw [← hst];rfl⟩
     ·rw [if_neg (fun h=>hd (hiw.1 h.2).2)] at hsn
      have hsk:=hsk hsn
      (repeat (any_goals (first | refine st ?_ | (refine go2 fun xe hxe=>?_;conv=>whnf) | ((with_reducible refine cnd_i (fun hq=>?_) fun hq=>?_) <;> (try simp only [hqs] at hq) <;> (first | omega | conv=>whnf)))))
      (try any_goals (first | exact absurd trivial hq | exact absurd rfl hq | exact absurd hq (by omega) | (exfalso;simp at hq;done)))
      exact ⟨j + 1,by omega,by omega,by rw [← hsk];rfl⟩
    ·rw [if_neg (fun h=>ho h.1)] at hsn
     have hsk:=hsk hsn
     (repeat (any_goals (first | refine st ?_ | (refine go2 fun xe hxe=>?_;conv=>whnf) | ((with_reducible refine cnd_i (fun hq=>?_) fun hq=>?_) <;> (try simp only [hqs] at hq) <;> (first | omega | conv=>whnf)))))
     (try any_goals (first | exact absurd trivial hq | exact absurd rfl hq | exact absurd hq (by omega) | (exfalso;simp at hq;done)))
     exact ⟨j + 1,by omega,by omega,by rw [← hsk];rfl⟩
   ·rw [decide_eq_false hr] at hpf
    rw [if_neg (fun h=>hr (hiw.1 h.2).1)] at hsn
    have hsk:=hsk hsn
    (repeat (any_goals (first | refine st ?_ | (refine go2 fun xe hxe=>?_;conv=>whnf) | ((with_reducible refine cnd_i (fun hq=>?_) fun hq=>?_) <;> (try simp only [hqs] at hq) <;> (first | omega | conv=>whnf)))))
    (try any_goals (first | exact absurd trivial hq | exact absurd rfl hq | exact absurd hq (by omega) | (exfalso;simp at hq;done)))
    exact ⟨j + 1,by omega,by omega,by rw [← hsk];rfl⟩
  ·obtain rfl:j = g.length:=by omega
   have hend:=wvS_end g l ws w
   rw [← htk] at hend
   rw [hend]
   (repeat (any_goals (first | refine st ?_ | (refine go2 fun xe hxe=>?_;conv=>whnf) | ((with_reducible refine cnd_i (fun hq=>?_) fun hq=>?_) <;> (try simp only [hqs] at hq) <;> (first | omega | conv=>whnf)))))
   (try any_goals (first | exact absurd trivial hq | exact absurd rfl hq | exact absurd hq (by omega) | (exfalso;simp at hq;done)))
   exact ⟨i + 1,by omega,by omega,rfl⟩
 ·obtain rfl:i = W.length:=by omega
  rw [List.take_length]
  (repeat (any_goals (first | refine st ?_ | (refine go2 fun xe hxe=>?_;conv=>whnf) | ((with_reducible refine cnd_i (fun hq=>?_) fun hq=>?_) <;> (try simp only [hqs] at hq) <;> (first | omega | conv=>whnf)))))
  (try any_goals (first | exact absurd trivial hq | exact absurd rfl hq | exact absurd hq (by omega) | (exfalso;simp at hq;done)))
  exact ⟨rfl,rfl⟩
theorem sel_len (xs:List Int) (w:Int) (n:Nat):(sel xs w n).length ≤ n:=by
 unfold sel
 rw [List.length_map]
 exact Nat.le_trans (List.length_filter_le _ _) (by simp)
theorem selTo_len (xs:List Int):∀ m:Nat,(selTo xs m).length ≤ m * xs.length
 | 0=>by simp [selTo]
 | m + 1=>by
  rw [selTo_snoc,List.length_append]
  have h1:=selTo_len xs m
  have h2:=sel_len xs ((m + 1:Nat):Int) xs.length
  rw [Nat.succ_mul]
  omega
theorem sel_in {xs:List Int} {w:Int} {n:Nat}:∀ x ∈ sel xs w n,0 ≤ x ∧ x < n:=by
 intro x hx
 obtain ⟨i,hi,rfl⟩:=List.mem_map.1 hx
 have:=List.mem_range.1 (List.mem_filter.1 hi).1
 omega
theorem selTo_in {xs:List Int} {m:Nat}:∀ x ∈ selTo xs m,0 ≤ x ∧ x < xs.length:=by
 intro x hx
 obtain ⟨w,-,hw⟩:=List.mem_flatMap.1 hx
 exact sel_in x hw
theorem s2o_c (c:List Int) (g:List Vtx) (l:List Int) (hg:GraOK c g) (hgl:g.length ≤ 10000) (hl:leaS c l = true):ConV Tryz.prog 132 [.lst (.int .i64) c,.lst .vtx g,.lst (.int .i64) l] [] (.lst (.int .i64) (selTo (g.map (wvk g l (cmt c g l l.length).1)) l.length)) []:=by
 have hll:=(leaS_iff.1 hl).2
 have hW:=s22_c c g l hg (by omega) hl
 have hxl:(g.map (wvk g l (cmt c g l l.length).1)).length = g.length:=by simp
 generalize g.map (wvk g l (cmt c g l l.length).1) = xs at *
 refine con_eq Θ_ok Tryz.func132 rfl rfl true 0 4 rfl rfl rfl rfl fun K hK hb1 hb2=>?_;simp only [argsV,enc,Nat.reduceAdd]
 clear hb1 hb2
 (repeat (any_goals (first | refine st ?_ | (refine go2 fun xe hxe=>?_;conv=>whnf) | ((with_reducible refine cnd_i (fun hq=>?_) fun hq=>?_) <;> (try simp only [hqs] at hq) <;> (first | omega | conv=>whnf)) | refine cr (hW) ?_)))
 clear hW
 refine at_loop hK [] [1,2,7,8,9] (fun m:Nat=>⟨[(1,.lst .vtx g),(2,.lst (.int .i64) l),(7,.ref 4),(8,.lst (.int .i64) xs),(9,.int .i64 ((m:Int) + 1))],[(4,.row 3 (.int .i64) (selTo xs m))],5⟩) (fun m=>m ≤ l.length) (fun m=>l.length - m) 0 (Nat.zero_le _) rfl ?_
 intro m hm
 have hsl:=selTo_len xs m
 have hsl2:(selTo xs m).length ≤ 150000:=by
  refine Nat.le_trans hsl ?_
  rw [hxl]
  exact Nat.le_trans (Nat.mul_le_mul (show m ≤ 15 by omega) hgl) (by omega)
 have hsn:=selTo_snoc xs m
 by_cases hlt:m < l.length
 ·have e1:(((m + 1:Nat)):Int) = (m:Int) + 1:=by omega
  rw [e1] at hsn
  generalize hA:selTo xs m = A at *
  (repeat (any_goals (first | refine st ?_ | (refine go2 fun xe hxe=>?_;conv=>whnf) | ((with_reducible refine cnd_i (fun hq=>?_) fun hq=>?_) <;> (try simp only [hqs] at hq) <;> (first | omega | conv=>whnf)))))
  refine at_loop hK [] [1,2,7,8,9,10] (fun j:Nat=>⟨[(1,.lst .vtx g),(2,.lst (.int .i64) l),(7,.ref 4),(8,.lst (.int .i64) xs),(9,.int .i64 ((m:Int) + 1)),(10,.int .i64 (j:Int))],[(4,.row 3 (.int .i64) (A ++ sel xs ((m:Int) + 1) j))],5⟩) (fun j=>j ≤ g.length) (fun j=>g.length - j) 0 (Nat.zero_le _) (by rw [show sel xs ((m:Int) + 1) 0 = [] from rfl,List.append_nil];rfl) ?_
  intro j hj
  have hjl:=sel_len xs ((m:Int) + 1) j
  have hal:(A ++ sel xs ((m:Int) + 1) j).length = A.length + (sel xs ((m:Int) + 1) j).length:=by simp
  by_cases hjlt:j < g.length
  ·have hxe:xs[j]? = some xs[j]:=List.getElem?_eq_getElem (by omega)
   have hsj:=sel_snoc (w:=(m:Int) + 1) hxe
   generalize xs[j] = x at *
   by_cases hx:x = (m:Int) + 1
   ·rw [if_pos hx] at hsj
    generalize hB:A ++ sel xs ((m:Int) + 1) j = B at *
    (repeat (any_goals (first | refine st ?_ | (refine go2 fun xe hxe=>?_;conv=>whnf) | ((with_reducible refine cnd_i (fun hq=>?_) fun hq=>?_) <;> (try simp only [hqs] at hq) <;> (first | omega | conv=>whnf)))))
    (try any_goals (first | exact absurd trivial hq | exact absurd rfl hq | exact absurd hq (by omega) | (exfalso;simp at hq;done)))
    exact ⟨j + 1,by omega,by omega,by rw [hsj,← List.append_assoc,hB];rfl⟩
   ·rw [if_neg hx] at hsj
    generalize hB:A ++ sel xs ((m:Int) + 1) j = B at *
    (repeat (any_goals (first | refine st ?_ | (refine go2 fun xe hxe=>?_;conv=>whnf) | ((with_reducible refine cnd_i (fun hq=>?_) fun hq=>?_) <;> (try simp only [hqs] at hq) <;> (first | omega | conv=>whnf)))))
    (try any_goals (first | exact absurd trivial hq | exact absurd rfl hq | exact absurd hq (by omega) | (exfalso;simp at hq;done)))
    exact ⟨j + 1,by omega,by omega,by rw [hsj,hB];rfl⟩
  ·obtain rfl:j = g.length:=by omega
   rw [← hxl,← hsn]
   (repeat (any_goals (first | refine st ?_ | (refine go2 fun xe hxe=>?_;conv=>whnf) | ((with_reducible refine cnd_i (fun hq=>?_) fun hq=>?_) <;> (try simp only [hqs] at hq) <;> (first | omega | conv=>whnf)))))
   (try any_goals (first | exact absurd trivial hq | exact absurd rfl hq | exact absurd hq (by omega) | (exfalso;simp at hq;done)))
   exact ⟨m + 1,by omega,by omega,by rw [e1]⟩
 ·obtain rfl:m = l.length:=by omega
  (repeat (any_goals (first | refine st ?_ | (refine go2 fun xe hxe=>?_;conv=>whnf) | ((with_reducible refine cnd_i (fun hq=>?_) fun hq=>?_) <;> (try simp only [hqs] at hq) <;> (first | omega | conv=>whnf)))))
  (try any_goals (first | exact absurd trivial hq | exact absurd rfl hq | exact absurd hq (by omega) | (exfalso;simp at hq;done)))
  exact ⟨rfl,rfl⟩
end Go.Proofs.YtjjddgpdoibcoaaGreatDoor.Am
namespace Go.Proofs.YtjjddgpdoibcoaaGreatDoor.Am
open Go
attribute [local irreducible] Mk Need Ari Get Idx Cnd CallM CallA Opt Unch At ConV
set_option maxRecDepth 10000
end Go.Proofs.YtjjddgpdoibcoaaGreatDoor.Am
namespace Go.Proofs.YtjjddgpdoibcoaaGreatDoor.Am
open Go
attribute [local irreducible] Mk Need Ari Get Idx Cnd CallM CallA Opt Unch At ConV
set_option maxRecDepth 10000
end Go.Proofs.YtjjddgpdoibcoaaGreatDoor.Am
namespace Go.Proofs.YtjjddgpdoibcoaaGreatDoor.Am
open Go
attribute [local irreducible] Mk Need Ari Get Idx Cnd CallM CallA Opt Unch At ConV
set_option maxRecDepth 10000
theorem sok_c (c:List Int) (g:List Vtx) (l:List Int):ConV Tryz.prog 131 [.lst (.int .i64) c,.lst .vtx g,.lst (.int .i64) l] [] (.bool (wvV c g l)) []:=by
 have hG:=graS_c c g
 have hL:=lea_c c l
 have e:wvV c g l = (graS c g && leaS c l):=rfl
 rw [e]
 refine con_eq Θ_ok Tryz.func131 rfl rfl false 0 4 rfl rfl rfl rfl fun K hK hb1 hb2=>?_;simp only [argsV,enc,Nat.reduceAdd]
 clear hb1 hb2
 cases hg:graS c g
 ·rw [hg] at hG
  (repeat (any_goals (first | refine st ?_ | (refine go2 fun xe hxe=>?_;conv=>whnf) | ((with_reducible refine cnd_i (fun hq=>?_) fun hq=>?_) <;> (try simp only [hqs] at hq) <;> (first | omega | conv=>whnf)) | refine cr (hG) ?_ | refine cr (hL) ?_)))
  exact ⟨rfl,rfl⟩
 ·rw [hg] at hG
  (repeat (any_goals (first | refine st ?_ | (refine go2 fun xe hxe=>?_;conv=>whnf) | ((with_reducible refine cnd_i (fun hq=>?_) fun hq=>?_) <;> (try simp only [hqs] at hq) <;> (first | omega | conv=>whnf)) | refine cr (hG) ?_ | refine cr (hL) ?_)))
  exact ⟨rfl,rfl⟩
noncomputable def ordS (c:List Int) (g:List Vtx) (l:List Int):List Slt:=if wvV c g l then (ordG c g l).map sltOf else []
theorem sos_c (c:List Int) (g:List Vtx) (l:List Int) (hgl:g.length ≤ 10000):ConV Tryz.prog 65 [.lst (.int .i64) c,.lst .vtx g,.lst (.int .i64) l] [] (.lst .slt (ordS c g l)) []:=by
 have hO:=sok_c c g l
 refine con_eq Θ_ok Tryz.func65 rfl rfl true 0 4 rfl rfl rfl rfl fun K hK hb1 hb2=>?_;simp only [argsV,enc,Nat.reduceAdd]
 clear hb1 hb2
 cases hw:wvV c g l
 ·rw [hw] at hO
  have e:ordS c g l = []:=by rw [ordS,hw];rfl
  rw [e]
  (repeat (any_goals (first | refine st ?_ | (refine go2 fun xe hxe=>?_;conv=>whnf) | ((with_reducible refine cnd_i (fun hq=>?_) fun hq=>?_) <;> (try simp only [hqs] at hq) <;> (first | omega | conv=>whnf)) | refine cr (hO) ?_)))
  exact ⟨rfl,rfl⟩
 ·rw [hw] at hO
  obtain ⟨hg,hl⟩:graS c g = true ∧ leaS c l = true:=by simpa [wvV] using hw
  have hok:=graS_ok hg
  have hll:=(leaS_iff.1 hl).2
  have hL:=s2o_c c g l hok hgl hl
  have hso:=sel_ord (g:=g) hok.com l
  have e:ordS c g l = (ordG c g l).map sltOf:=by rw [ordS,hw];rfl
  have hsi:=selTo_in (xs:=g.map (wvk g l (cmt c g l l.length).1)) (m:=l.length)
  have hsl:=selTo_len (g.map (wvk g l (cmt c g l l.length).1)) l.length
  rw [List.length_map] at hsi hsl
  have hsl2:(selTo (g.map (wvk g l (cmt c g l l.length).1)) l.length).length ≤ 150000:=Nat.le_trans hsl (Nat.le_trans (Nat.mul_le_mul hll hgl) (by omega))
  rw [e,← hso]
  generalize selTo (g.map (wvk g l (cmt c g l l.length).1)) l.length = L at *
  (repeat (any_goals (first | refine st ?_ | (refine go2 fun xe hxe=>?_;conv=>whnf) | ((with_reducible refine cnd_i (fun hq=>?_) fun hq=>?_) <;> (try simp only [hqs] at hq) <;> (first | omega | conv=>whnf)) | refine cr (hO) ?_ | refine cr (hL) ?_)))
  clear hO hL
  refine at_loop hK [] [1,7,8,9] (fun i:Nat=>⟨[(1,.lst .vtx g),(7,.ref 4),(8,.lst (.int .i64) L),(9,.int .i64 (i:Int))],[(4,.row 56 .slt ((L.take i).map fun i=>sltOf (g.getD i.toNat v0)))],5⟩) (fun i=>i ≤ L.length) (fun i=>L.length - i) 0 (Nat.zero_le _) rfl ?_
  intro i hi
  by_cases hlt:i < L.length
  ·have hxe:L[i]? = some L[i]:=List.getElem?_eq_getElem hlt
   have h3:L.take (i + 1) = L.take i ++ [L[i]]:=List.take_succ_eq_append_getElem hlt
   have hb:=hsi _ (List.getElem_mem hlt)
   generalize L[i] = x at *
   have hxg:g[x.toNat]? = some (g.getD x.toNat v0):=by rw [List.getD_eq_getElem?_getD,List.getElem?_eq_getElem (by omega)];rfl
   have hrl:((L.take i).map fun i=>sltOf (g.getD i.toNat v0)).length = i:=by simp;omega
   have h4:(L.take (i + 1)).map (fun i=>sltOf (g.getD i.toNat v0)) = (L.take i).map (fun i=>sltOf (g.getD i.toNat v0)) ++ [sltOf (g.getD x.toNat v0)]:=by rw [h3,List.map_append];rfl
   generalize hA:((L.take i).map fun i=>sltOf (g.getD i.toNat v0)) = A at *
   generalize g.getD x.toNat v0 = v at *
   (repeat (any_goals (first | refine st ?_ | (refine go2 fun xe hxe=>?_;conv=>whnf) | ((with_reducible refine cnd_i (fun hq=>?_) fun hq=>?_) <;> (try simp only [hqs] at hq) <;> (first | omega | conv=>whnf)))))
   (try any_goals (first | exact absurd trivial hq | exact absurd rfl hq | exact absurd hq (by omega) | (exfalso;simp at hq;done)))
   exact ⟨i + 1,by omega,by omega,by rw [h4];rfl⟩
  ·obtain rfl:i = L.length:=by omega
   rw [List.take_length]
   (repeat (any_goals (first | refine st ?_ | (refine go2 fun xe hxe=>?_;conv=>whnf) | ((with_reducible refine cnd_i (fun hq=>?_) fun hq=>?_) <;> (try simp only [hqs] at hq) <;> (first | omega | conv=>whnf)))))
   (try any_goals (first | exact absurd trivial hq | exact absurd rfl hq | exact absurd hq (by omega) | (exfalso;simp at hq;done)))
   exact ⟨rfl,rfl⟩
noncomputable def wo (w:Wrl) (m:Int):List Slt:=if wrlS w && vIn m 0 ((w.com.length:Int) - 1) then ordS w.com (w.views.getD m.toNat []) w.lead else []
theorem swo_c (w:Wrl) (m:Int) (hcl:w.com.length ≤ 2000000):ConV Tryz.prog 23 [wrlA w,.int .i64 m] [] (.lst .slt (wo w m)) []:=by
 have hV:=swV_c w hcl
 have hI:=in_c m 0 ((w.com.length:Int) - 1)
 refine con_eq Θ_ok Tryz.func23 rfl rfl true 0 4 rfl rfl rfl rfl fun K hK hb1 hb2=>?_;simp only [argsV,enc,Nat.reduceAdd]
 clear hb1 hb2
 cases hw:wrlS w
 ·rw [hw] at hV
  have e:wo w m = []:=by rw [wo,hw];rfl
  rw [e]
  (repeat (any_goals (first | refine st ?_ | (refine go2 fun xe hxe=>?_;conv=>whnf) | ((with_reducible refine cnd_i (fun hq=>?_) fun hq=>?_) <;> (try simp only [hqs] at hq) <;> (first | omega | conv=>whnf)) | refine cr (hV) ?_ | refine cr (hI) ?_)))
  exact ⟨rfl,rfl⟩
 ·rw [hw] at hV
  have hok:=wok_iff.1 hw
  cases hm:vIn m 0 ((w.com.length:Int) - 1)
  ·rw [hm] at hI
   have e:wo w m = []:=by rw [wo,hw,hm];rfl
   rw [e]
   (repeat (any_goals (first | refine st ?_ | (refine go2 fun xe hxe=>?_;conv=>whnf) | ((with_reducible refine cnd_i (fun hq=>?_) fun hq=>?_) <;> (try simp only [hqs] at hq) <;> (first | omega | conv=>whnf)) | refine cr (hV) ?_ | refine cr (hI) ?_)))
   exact ⟨rfl,rfl⟩
  ·rw [hm] at hI
   have hb:=vIn_iff.1 hm
   have e:wo w m = ordS w.com (w.views.getD m.toNat []) w.lead:=by rw [wo,hw,hm];rfl
   have hvl:=hok.vlen
   have hx:w.views[m.toNat]? = some (w.views.getD m.toNat []):=by rw [List.getD_eq_getElem?_getD,List.getElem?_eq_getElem (by omega)];rfl
   have hgl:=hok.vl _ (List.mem_of_getElem? hx)
   rw [e]
   generalize w.views.getD m.toNat [] = g at *
   have hO:=sos_c w.com g w.lead (by omega)
   (repeat (any_goals (first | refine st ?_ | (refine go2 fun xe hxe=>?_;conv=>whnf) | ((with_reducible refine cnd_i (fun hq=>?_) fun hq=>?_) <;> (try simp only [hqs] at hq) <;> (first | omega | conv=>whnf)) | refine cr (hV) ?_ | refine cr (hI) ?_ | refine cr (hO) ?_)))
   exact ⟨rfl,rfl⟩
end Go.Proofs.YtjjddgpdoibcoaaGreatDoor.Am
namespace Go.Proofs.YtjjddgpdoibcoaaGreatDoor.Am
open Go
attribute [local irreducible] Mk Need Ari Get Idx Cnd CallM CallA Opt Unch At ConV MethM
set_option maxRecDepth 10000
theorem islot_c (v:Vtx):ConV Tryz.prog 72 [vtxA v] [] (.agg [.int .i64 v.round,.int .i64 v.author]) []:=by
 refine con_eq Θ_ok Tryz.func72 rfl rfl false 0 4 rfl rfl rfl rfl fun K hK hb1 hb2=>?_;simp only [argsV,enc,Nat.reduceAdd]
 clear hb1 hb2
 (repeat (any_goals (first | refine st ?_ | (refine go2 fun xe hxe=>?_;conv=>whnf) | ((with_reducible refine cnd_i (fun hq=>?_) fun hq=>?_) <;> (try simp only [hqs] at hq) <;> (first | omega | conv=>whnf)))))
 exact ⟨rfl,rfl⟩
theorem odd_slt {c:List Int} {g:List Vtx} (l:List Int) (h:wvV c g l = true):(oddTo g l [] (cmt c g l l.length).1).map (fun o=>sltOf o.v) = ordS c g l:=by
 have e:=oddTo_v g l (cmt c g l l.length).1 []
 rw [ordS,h,if_pos rfl,ordG,show ([]:List Vtx) = ([]:List Odd).map (·.v) from rfl,← e,List.map_map]
 rfl
theorem iordZ_c (c:List Int) (l:List Int) (hc:comV c = true) (hl:leaS c l = true):ConV Tryz.prog 71 [.agg [.ptr 4 0,.lst (.int .i64) l]] (gZ c gs0) (.lst .odd []) (gZ c gs0):=by
 have hC:=icmtZ_c c l hc hl
 refine con_eq Θq_ok Tryz.func71 rfl rfl true 1 5 rfl rfl rfl rfl fun K hK hb1 hb2=>?_;simp only [argsV,enc,Nat.reduceAdd]
 clear hb1 hb2
 (repeat (any_goals (first | refine stq ?_ | (refine go2 fun xe hxe=>?_;conv=>whnf) | ((with_reducible refine cnd_i (fun hq=>?_) fun hq=>?_) <;> (try simp only [hqs] at hq) <;> (first | omega | conv=>whnf)) | refine co (hC) ?_)))
 clear hC
 refine at_loop hK [] [1,3,4,22,23,24] (fun i:Nat=>⟨[(1,.ptr 5 0),(3,.ref 6),(4,.ref 7),(22,.lst (.int .i64) []),(23,.int .i64 0),(24,.int .i64 (i:Int))],gZx c gs0 (.var 104 [.ptr 4 0,.lst (.int .i64) l]) ++ [(6,.row 116 .odd []),(7,.row 4 .bool [])],8⟩) (fun i=>i = 0) (fun i=>i) 0 rfl ?_ ?_
 ·rfl
 rintro i rfl
 (repeat (any_goals (first | refine stq ?_ | (refine go2 fun xe hxe=>?_;conv=>whnf) | ((with_reducible refine cnd_i (fun hq=>?_) fun hq=>?_) <;> (try simp only [hqs] at hq) <;> (first | omega | conv=>whnf)))))
 exact ⟨rfl,rfl⟩
theorem ios_c (c:List Int) (g:List Vtx) (l:List Int) (hgl:g.length ≤ 1000):ConV Tryz.prog 26 [.lst (.int .i64) c,.lst .vtx g,.lst (.int .i64) l] [] (.lst .slt (ordS c g l)) []:=by
 cases hw:wvV c g l
 ·have hN:=inw_no c g l (by omega) hw
  have e:ordS c g l = []:=by rw [ordS,hw];rfl
  rw [e]
  refine con_eq Θq_ok Tryz.func26 rfl rfl true 0 4 rfl rfl rfl rfl fun K hK hb1 hb2=>?_;simp only [argsV,enc,Nat.reduceAdd]
  clear hb1 hb2
  (repeat (any_goals (first | refine stq ?_ | (refine go2 fun xe hxe=>?_;conv=>whnf) | ((with_reducible refine cnd_i (fun hq=>?_) fun hq=>?_) <;> (try simp only [hqs] at hq) <;> (first | omega | conv=>whnf)) | refine cr (hN) ?_)))
  exact ⟨rfl,rfl⟩
 ·obtain ⟨hg,hl⟩:graS c g = true ∧ leaS c l = true:=by simpa [wvV] using hw
  have hok:=graS_ok hg
  have hll:=(leaS_iff.1 hl).2
  have hos:=odd_slt l hw
  have hol:=oddTo_len g l (cmt c g l l.length).1 []
  have hcl:=cmt_len c g l hok.com l.length
  have hol2:(oddTo g l [] (cmt c g l l.length).1).length ≤ 15000:=by
   refine Nat.le_trans hol ?_
   simp only [List.length_nil,Nat.zero_add]
   exact Nat.le_trans (Nat.mul_le_mul (show (cmt c g l l.length).1.length ≤ 15 by omega) hgl) (by omega)
  clear hol
  cases g with
  | nil=>
   have hN:=inwZ_c c l hok.com hl
   have hC:=iordZ_c c l hok.com hl
   rw [cmt_nil c l hok.com] at hos
   have e:ordS c [] l = []:=hos.symm
   rw [e]
   refine con_eq Θq_ok Tryz.func26 rfl rfl true 0 4 rfl rfl rfl rfl fun K hK hb1 hb2=>?_;simp only [argsV,enc,Nat.reduceAdd]
   clear hb1 hb2
   (repeat (any_goals (first | refine stq ?_ | (refine go2 fun xe hxe=>?_;conv=>whnf) | ((with_reducible refine cnd_i (fun hq=>?_) fun hq=>?_) <;> (try simp only [hqs] at hq) <;> (first | omega | conv=>whnf)) | refine cr (hN) ?_ | refine co (hC) ?_)))
   refine at_loop hK [] [7,24,25,26] (fun i:Nat=>⟨[(7,.ref 4),(24,.lst .odd []),(25,.int .i64 0),(26,.int .i64 (i:Int))],[(0,.fvar 166 (.nod 1) gs0.nodes),(1,.frow 148 (.hp 0) gs0.rows),(4,.row 56 .slt [])],5⟩) (fun i=>i = 0) (fun i=>i) 0 rfl rfl ?_
   rintro i rfl
   (repeat (any_goals (first | refine stq ?_ | (refine go2 fun xe hxe=>?_;conv=>whnf) | ((with_reducible refine cnd_i (fun hq=>?_) fun hq=>?_) <;> (try simp only [hqs] at hq) <;> (first | omega | conv=>whnf)))))
   exact ⟨rfl,rfl⟩
  | cons v g=>
   have hN:=inwR_c c v g l (by omega) hg hl
   have hC:=iord_c c (v :: g) l hok hgl hl
   rw [← hos]
   generalize oddTo (v :: g) l [] (cmt c (v :: g) l l.length).1 = os at *
   refine con_eq Θq_ok Tryz.func26 rfl rfl true 0 4 rfl rfl rfl rfl fun K hK hb1 hb2=>?_;simp only [argsV,enc,Nat.reduceAdd]
   clear hb1 hb2
   (repeat (any_goals (first | refine stq ?_ | (refine go2 fun xe hxe=>?_;conv=>whnf) | ((with_reducible refine cnd_i (fun hq=>?_) fun hq=>?_) <;> (try simp only [hqs] at hq) <;> (first | omega | conv=>whnf)) | refine cr (hN) ?_ | refine co (hC) ?_)))
   clear hN hC
   refine at_loop hK [] [7,24,25,26] (fun i:Nat=>⟨[(7,.ref 4),(24,.lst .odd os),(25,.int .i64 os.length),(26,.int .i64 (i:Int))],[(0,.fvar 166 (.nod 1) (gst (v :: g)).nodes),(1,.frow 148 (.hp 0) (gst (v :: g)).rows),(4,.row 56 .slt ((os.take i).map fun o=>sltOf o.v))],5⟩) (fun i=>i ≤ os.length) (fun i=>os.length - i) 0 (Nat.zero_le _) rfl ?_
   intro i hi
   by_cases hlt:i < os.length
   ·have hxe:os[i]? = some os[i]:=List.getElem?_eq_getElem hlt
    have h3:os.take (i + 1) = os.take i ++ [os[i]]:=List.take_succ_eq_append_getElem hlt
    have hI:=islot_c os[i].v
    have h4:(os.take (i + 1)).map (fun o=>sltOf o.v) = (os.take i).map (fun o=>sltOf o.v) ++ [sltOf os[i].v]:=by rw [h3,List.map_append];rfl
    have hal:((os.take i).map fun o=>sltOf o.v).length = i:=by simp;omega
    generalize hA:((os.take i).map fun o=>sltOf o.v) = A at *
    generalize os[i] = o at *
    (repeat (any_goals (first | refine stq ?_ | (refine go2 fun xe hxe=>?_;conv=>whnf) | ((with_reducible refine cnd_i (fun hq=>?_) fun hq=>?_) <;> (try simp only [hqs] at hq) <;> (first | omega | conv=>whnf)) | refine cr (hI) ?_)))
    exact ⟨i + 1,by omega,by omega,by rw [h4];rfl⟩
   ·obtain rfl:i = os.length:=by omega
    rw [List.take_length]
    (repeat (any_goals (first | refine stq ?_ | (refine go2 fun xe hxe=>?_;conv=>whnf) | ((with_reducible refine cnd_i (fun hq=>?_) fun hq=>?_) <;> (try simp only [hqs] at hq) <;> (first | omega | conv=>whnf)))))
    exact ⟨rfl,rfl⟩
theorem iwo_c (w:Wrl) (m:Int) (hl:∀ g ∈ w.views,g.length ≤ 2000000):ConV Tryz.prog 20 [wrlA w,.int .i64 m] [] (.lst .slt (wo w m)) []:=by
 have hV:=iwV_c w hl
 refine con_eq Θq_ok Tryz.func20 rfl rfl true 0 4 rfl rfl rfl rfl fun K hK hb1 hb2=>?_;simp only [argsV,enc,Nat.reduceAdd]
 clear hb1 hb2
 cases hw:wrlS w
 ·rw [hw] at hV
  have e:wo w m = []:=by rw [wo,hw];rfl
  rw [e]
  (repeat (any_goals (first | refine stq ?_ | (refine go2 fun xe hxe=>?_;conv=>whnf) | ((with_reducible refine cnd_i (fun hq=>?_) fun hq=>?_) <;> (try simp only [hqs] at hq) <;> (first | omega | conv=>whnf)) | refine cr (hV) ?_)))
  exact ⟨rfl,rfl⟩
 ·rw [hw] at hV
  have hok:=wok_iff.1 hw
  have hvl:=hok.vlen
  cases hm:vIn m 0 ((w.com.length:Int) - 1)
  ·have e:wo w m = []:=by rw [wo,hw,hm];rfl
   have hb:¬ (0 ≤ m ∧ m ≤ (w.com.length:Int) - 1):=fun h=>by rw [vIn_iff.2 h] at hm;cases hm
   rw [e]
   by_cases h0:m < 0
   ·(repeat (any_goals (first | refine stq ?_ | (refine go2 fun xe hxe=>?_;conv=>whnf) | ((with_reducible refine cnd_i (fun hq=>?_) fun hq=>?_) <;> (try simp only [hqs] at hq) <;> (first | omega | conv=>whnf)) | refine cr (hV) ?_)))
    exact ⟨rfl,rfl⟩
   ·(repeat (any_goals (first | refine stq ?_ | (refine go2 fun xe hxe=>?_;conv=>whnf) | ((with_reducible refine cnd_i (fun hq=>?_) fun hq=>?_) <;> (try simp only [hqs] at hq) <;> (first | omega | conv=>whnf)) | refine cr (hV) ?_)))
    exact ⟨rfl,rfl⟩
  ·have hb:=vIn_iff.1 hm
   have e:wo w m = ordS w.com (w.views.getD m.toNat []) w.lead:=by rw [wo,hw,hm];rfl
   have hx:w.views[m.toNat]? = some (w.views.getD m.toNat []):=by rw [List.getD_eq_getElem?_getD,List.getElem?_eq_getElem (by omega)];rfl
   have hgl:=hok.vl _ (List.mem_of_getElem? hx)
   rw [e]
   generalize w.views.getD m.toNat [] = g at *
   have hO:=ios_c w.com g w.lead (by omega)
   (repeat (any_goals (first | refine stq ?_ | (refine go2 fun xe hxe=>?_;conv=>whnf) | ((with_reducible refine cnd_i (fun hq=>?_) fun hq=>?_) <;> (try simp only [hqs] at hq) <;> (first | omega | conv=>whnf)) | refine cr (hV) ?_ | refine cr (hO) ?_)))
   exact ⟨rfl,rfl⟩
end Go.Proofs.YtjjddgpdoibcoaaGreatDoor.Am
namespace Go.Proofs.YtjjddgpdoibcoaaGreatDoor.Am
open Go
attribute [local irreducible] Mk Need Ari Get Idx Cnd CallM CallA Opt Unch At ConV MethM
set_option maxRecDepth 10000
theorem ssl_e (a:List Slt) (hl:a.length ≤ 1000000):ConV Tryz.prog 24 [.lst .slt a,.lst .slt a] [] (.bool true) []:=by
 refine con_eq Θ_ok Tryz.func24 rfl rfl false 0 4 rfl rfl rfl rfl fun K hK hb1 hb2=>?_;simp only [argsV,enc,Nat.reduceAdd]
 clear hb1 hb2
 (repeat (any_goals (first | refine st ?_ | (refine go2 fun xe hxe=>?_;conv=>whnf) | ((with_reducible refine cnd_i (fun hq=>?_) fun hq=>?_) <;> (try simp only [hqs] at hq) <;> (first | omega | conv=>whnf)))))
 (try any_goals (first | exact absurd trivial hq | exact absurd rfl hq | exact absurd hq (by omega) | (exfalso;simp at hq;done)))
 refine at_loop hK [] [0,1,5] (fun i:Nat=>⟨[(0,.lst .slt a),(1,.lst .slt a),(5,.int .i64 (i:Int))],[],4⟩) (fun i=>i ≤ a.length) (fun i=>a.length - i) 0 (Nat.zero_le _) rfl ?_
 intro i hi
 by_cases hlt:i < a.length
 ·have hxe:a[i]? = some a[i]:=List.getElem?_eq_getElem hlt
  generalize a[i] = x at *
  have hq1:(!(x.round == x.round && x.author == x.author)) = false:=by simp
  (repeat (any_goals (first | refine st ?_ | (refine go2 fun xe hxe=>?_;conv=>whnf) | ((with_reducible refine cnd_i (fun hq=>?_) fun hq=>?_) <;> (try simp only [hqs] at hq) <;> (first | omega | conv=>whnf)))))
  (try any_goals (first | exact absurd trivial hq | exact absurd rfl hq | exact absurd hq (by omega) | (exfalso;simp at hq;done)))
  exact ⟨i + 1,by omega,by omega,rfl⟩
 ·(repeat (any_goals (first | refine st ?_ | (refine go2 fun xe hxe=>?_;conv=>whnf) | ((with_reducible refine cnd_i (fun hq=>?_) fun hq=>?_) <;> (try simp only [hqs] at hq) <;> (first | omega | conv=>whnf)))))
  (try any_goals (first | exact absurd trivial hq | exact absurd rfl hq | exact absurd hq (by omega) | (exfalso;simp at hq;done)))
  exact ⟨rfl,rfl⟩
end Go.Proofs.YtjjddgpdoibcoaaGreatDoor.Am
namespace Go.Proofs.YtjjddgpdoibcoaaGreatDoor.Am
open Go
attribute [local irreducible] Mk Need Ari Get Idx Cnd CallM CallA Opt Unch At ConV MethM
set_option maxRecDepth 10000
theorem dord_c (c:List Int) (hc:∀ x ∈ c,0 ≤ x ∧ x ≤ 255):∃ x:Wrl × Int,(WOK x.1 ∧ -1000 ≤ x.2 ∧ x.2 ≤ 1000) ∧ ConV Tryz.prog 22 [.lst (.int .u8) c] [] (.tup [wrlA x.1,.int .i64 x.2]) []:=by
 have h:=rd0w hc
 obtain ⟨⟨w,q⟩,⟨h1,h2,h3⟩,hw⟩:=dwld_c _ 0 h (by omega)
 dsimp only at h1 h2 h3 hw
 obtain ⟨n,hn,hnc⟩:=pk_c _ q 7 h (by omega) (by omega)
 have hC:=scalm_c w n.toNat h3 (by omega)
 rw [show ((n.toNat:Nat):Int) = n by omega] at hC
 have hok:=calmTo_ok h3 n.toNat
 generalize calmTo w n.toNat = u at *
 have h7:=hok.len
 obtain ⟨a,ha,hac⟩:=pk_c _ (q + 1) u.com.length h (by omega) (by omega)
 obtain ⟨b,hb,hbc⟩:=pk_c _ (q + 1 + 1) 14 h (by omega) (by omega)
 obtain ⟨d,hd,hdc⟩:=pk_c _ (q + 1 + 1 + 1) 9 h (by omega) (by omega)
 have ht:b.tdiv 13 = 0 ∨ b.tdiv 13 = 1:=by
  rw [Int.tdiv_eq_ediv_of_nonneg (by omega)]
  omega
 have hm:-4 ≤ b.tdiv 13 * (d - 4) ∧ b.tdiv 13 * (d - 4) ≤ 8:=by
  rcases ht with e | e <;> rw [e] <;> omega
 have ht2:0 ≤ b.tdiv 13 ∧ b.tdiv 13 ≤ 1:=by omega
 refine ⟨(u,a + b.tdiv 13 * (d - 4)),⟨hok,by dsimp only;omega,by dsimp only;omega⟩,?_⟩
 refine con_eq Θ_ok Tryz.func22 rfl rfl true 0 4 rfl rfl rfl rfl fun K hK hb1 hb2=>?_;simp only [argsV,enc,Nat.reduceAdd]
 clear hb1 hb2
 (repeat (any_goals (first | refine st ?_ | (refine go2 fun xe hxe=>?_;conv=>whnf) | ((with_reducible refine cnd_i (fun hq=>?_) fun hq=>?_) <;> (try simp only [hqs] at hq) <;> (first | omega | conv=>whnf)) | refine cr (open_c _) ?_ | refine cr (hw) ?_ | refine cr (hnc) ?_ | refine cr (hC) ?_ | refine cr (hac) ?_ | refine cr (hbc) ?_ | refine cr (hdc) ?_)))
 exact ⟨rfl,rfl⟩
theorem ordS_len (c:List Int) (g:List Vtx) (l:List Int) (hgl:g.length ≤ 1000):(ordS c g l).length ≤ 1000000:=by
 cases hw:wvV c g l
 ·rw [ordS,hw];simp
 ·obtain ⟨hg,hl⟩:graS c g = true ∧ leaS c l = true:=by simpa [wvV] using hw
  have hok:=graS_ok hg
  have hll:=(leaS_iff.1 hl).2
  have hol:=oddTo_len g l (cmt c g l l.length).1 []
  have hcl:=cmt_len c g l hok.com l.length
  rw [← odd_slt l hw,List.length_map]
  refine Nat.le_trans hol ?_
  simp only [List.length_nil,Nat.zero_add]
  exact Nat.le_trans (Nat.mul_le_mul (show (cmt c g l l.length).1.length ≤ 15 by omega) hgl) (by omega)
theorem ordS_nil (c:List Int) (l:List Int):ordS c [] l = []:=by
 cases hw:wvV c [] l
 ·rw [ordS,hw];rfl
 ·obtain ⟨hg,hl⟩:graS c [] = true ∧ leaS c l = true:=by simpa [wvV] using hw
  rw [← odd_slt l hw,cmt_nil c l (graS_ok hg).com]
  rfl
theorem wo_ok {w:Wrl} (hw:WOK w) {m:Nat} (hm:m < w.com.length):wo w (m:Int) = ordS w.com (w.views.getD m []) w.lead:=by
 rw [wo,wok_iff.2 hw,vIn_iff.2 (by omega)]
 rfl
theorem wo_len {w:Wrl} (hw:WOK w) (m:Int):(wo w m).length ≤ 1000000:=by
 rw [wo]
 split
 ·rename_i h
  simp only [Bool.and_eq_true] at h
  have hb:=vIn_iff.1 h.2
  refine ordS_len _ _ _ ?_
  have:=hw.vl _ (view_gd hw (m:=m.toNat) (by omega))
  omega
 ·simp
theorem lawOrd_c (c:List Int) (hc:∀ x ∈ c,0 ≤ x ∧ x ≤ 255):ConV Tryz.prog 5 [.lst (.int .u8) c] [] (.bool true) []:=by
 obtain ⟨⟨w,m⟩,⟨hw,hm1,hm2⟩,hd⟩:=dord_c c hc
 dsimp only at hw hm1 hm2 hd
 have h7:=hw.len
 have hvl:=hw.vlen
 have hI:=iwo_c w m (fun g hg=>by have:=hw.vl g hg;omega)
 have hS:=swo_c w m (by omega)
 have hE:=ssl_e (wo w m) (wo_len hw m)
 have hV:=swV_c w (by omega)
 rw [wok_iff.2 hw] at hV
 refine con_eq Θ_ok Tryz.func5 rfl rfl false 0 4 rfl rfl rfl rfl fun K hK hb1 hb2=>?_;simp only [argsV,enc,Nat.reduceAdd]
 clear hb1 hb2
 by_cases hl:1048576 < (c.length:Int)
 ·(repeat (any_goals (first | refine st ?_ | (refine go2 fun xe hxe=>?_;conv=>whnf) | ((with_reducible refine cnd_i (fun hq=>?_) fun hq=>?_) <;> (try simp only [hqs] at hq) <;> (first | omega | conv=>whnf)))))
  (try any_goals (first | exact absurd trivial hq | exact absurd rfl hq | exact absurd hq (by omega) | (exfalso;simp at hq;done)))
  exact ⟨rfl,rfl⟩
 by_cases h0:m < 0
 ·(repeat (any_goals (first | refine st ?_ | (refine go2 fun xe hxe=>?_;conv=>whnf) | ((with_reducible refine cnd_i (fun hq=>?_) fun hq=>?_) <;> (try simp only [hqs] at hq) <;> (first | omega | conv=>whnf)) | refine cr (hd) ?_ | refine cr (hI) ?_ | refine cr (hS) ?_ | refine cr (hE) ?_ | refine cr (hV) ?_)))
  (try any_goals (first | exact absurd trivial hq | exact absurd rfl hq | exact absurd hq (by omega) | (exfalso;simp at hq;done)))
  exact ⟨rfl,rfl⟩
 by_cases h1:(w.com.length:Int) ≤ m
 ·(repeat (any_goals (first | refine st ?_ | (refine go2 fun xe hxe=>?_;conv=>whnf) | ((with_reducible refine cnd_i (fun hq=>?_) fun hq=>?_) <;> (try simp only [hqs] at hq) <;> (first | omega | conv=>whnf)) | refine cr (hd) ?_ | refine cr (hI) ?_ | refine cr (hS) ?_ | refine cr (hE) ?_ | refine cr (hV) ?_)))
  (try any_goals (first | exact absurd trivial hq | exact absurd rfl hq | exact absurd hq (by omega) | (exfalso;simp at hq;done)))
  exact ⟨rfl,rfl⟩
 have hk:=wo_ok hw (m:=m.toNat) (by omega)
 rw [show ((m.toNat:Nat):Int) = m by omega] at hk
 have hx:w.views[m.toNat]? = some (w.views.getD m.toNat []):=by rw [List.getD_eq_getElem?_getD,List.getElem?_eq_getElem (by omega)];rfl
 have hgl:=hw.vl _ (List.mem_of_getElem? hx)
 have hbv:=hw.bv m.toNat (by omega)
 have hO:=ios_c w.com (w.views.getD m.toNat []) w.lead (by omega)
 rw [← hk] at hO
 by_cases hb:m = w.bad
 ·have hz:(wo w m).length = 0:=by rw [hk,hbv (by omega),ordS_nil];rfl
  generalize w.views.getD m.toNat [] = g at *
  generalize wo w m = o at *
  (repeat (any_goals (first | refine st ?_ | (refine go2 fun xe hxe=>?_;conv=>whnf) | ((with_reducible refine cnd_i (fun hq=>?_) fun hq=>?_) <;> (try simp only [hqs] at hq) <;> (first | omega | conv=>whnf)) | refine cr (hd) ?_ | refine cr (hI) ?_ | refine cr (hS) ?_ | refine cr (hE) ?_ | refine cr (hV) ?_ | refine cr (hO) ?_)))
  (try any_goals (first | exact absurd trivial hq | exact absurd rfl hq | exact absurd hq (by omega) | (exfalso;simp at hq;done)))
  exact ⟨by rw [hz];rfl,rfl⟩
 ·generalize w.views.getD m.toNat [] = g at *
  generalize wo w m = o at *
  (repeat (any_goals (first | refine st ?_ | (refine go2 fun xe hxe=>?_;conv=>whnf) | ((with_reducible refine cnd_i (fun hq=>?_) fun hq=>?_) <;> (try simp only [hqs] at hq) <;> (first | omega | conv=>whnf)) | refine cr (hd) ?_ | refine cr (hI) ?_ | refine cr (hS) ?_ | refine cr (hE) ?_ | refine cr (hV) ?_ | refine cr (hO) ?_)))
  (try any_goals (first | exact absurd trivial hq | exact absurd rfl hq | exact absurd hq (by omega) | (exfalso;simp at hq;done)))
  exact ⟨rfl,rfl⟩
end Go.Proofs.YtjjddgpdoibcoaaGreatDoor.Am
