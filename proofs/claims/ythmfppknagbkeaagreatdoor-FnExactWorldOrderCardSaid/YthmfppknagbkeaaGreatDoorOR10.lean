/- Orders: the laws' orders. Runs: impl's quiet rounds. Quiet periods: the reference's WorldCalm, what is drawn; the law of invalid runs. Orders: the laws' orders, slot by slot. Orders: the program's OrderSlots, WorldOrder. Orders: OrderSlots and WorldOrder, their results as rows of one's own. Plain: marks on rows of numbers, vertices, proposals, as the exact laws set them. Runs: the laws' own functions. The exact laws' own functions, on own rows within own rows. -/
import Derived.Test.YthmfppknagbkeaaGreatDoorOR9
set_option linter.unusedSimpArgs false
set_option linter.unusedVariables false
set_option maxHeartbeats 1000000
namespace Go.Proofs.YthmfppknagbkeaaGreatDoor.Am
open Go
attribute [local irreducible] Mk ba Ari di jQ f4 bh bV eY d6 At aj
set_option maxRecDepth 10000
noncomputable def wvS (g:List Vtx) (l:List Int) (ws:List Nat) (w:Nat) (j:Nat):List Int:=(g.take j).map (wvk g l (ws++[w]))++(g.drop j).map (wvk g l ws)
theorem BK (g:List Vtx)(l:List Int)(ws:List Nat)(w j:Nat):(wvS g l ws w j).length=g.length:=by
 simp only[wvS,List.length_append,List.length_map,List.length_take,List.length_drop]
 omega
theorem E5 (g:List Vtx)(l:List Int)(ws:List Nat)(w:Nat):wvS g l ws w 0=g.map (wvk g l ws):=by simp[wvS]
theorem BJ (g:List Vtx)(l:List Int)(ws:List Nat)(w:Nat):wvS g l ws w g.length=g.map (wvk g l (ws++[w])):=by simp[wvS]
theorem zK {g:List Vtx}{l:List Int}{ws:List Nat}{w j:Nat}{v:Vtx}(h:g[j]?=some v):(wvS g l ws w j)[j]?=some (wvk g l ws v):=by
 have hj:=(List.getElem?_eq_some_iff.1 h).1
 rw[wvS,List.getElem?_append_right (by simp;omega)]
 simp only[List.length_map,List.length_take,List.getElem?_map,List.getElem?_drop]
 rw[show j+(j-min j g.length)=j by omega,h]
 rfl
theorem vf {g:List Vtx}{l:List Int}{ws:List Nat}{w j:Nat}{v:Vtx}(h:g[j]?=some v):(wvS g l ws w j).set j (wvk g l (ws++[w]) v)=wvS g l ws w (j+1):=by
 obtain⟨hj,hv⟩:=List.getElem?_eq_some_iff.1 h
 have e1:g.take (j+1)=g.take j++[v]:=by rw[←hv];exact List.take_succ_eq_append_getElem hj
 have e2:g.drop j=v::g.drop (j+1):=by rw[←hv];exact(List.drop_eq_getElem_cons hj)
 have e3:(List.map (wvk g l (ws++[w])) (g.take j)).length=j:=by simp;omega
 rw[wvS,wvS,e1,e2,List.map_append,List.map_cons,List.set_append_right _ _ (by omega),e3,Nat.sub_self,List.set_cons_zero,List.append_assoc]
 rfl
theorem zL {g:List Vtx}{l:List Int}{ws:List Nat}{w j:Nat}{v:Vtx}(h:g[j]?=some v)(he:wvk g l (ws++[w]) v=wvk g l ws v):wvS g l ws w j=wvS g l ws w (j+1):=by
 have h1:=vf (l:=l) (ws:=ws) (w:=w) h
 rw[he] at h1
 rw[←h1]
 refine(List.ext_getElem? fun k=>?_)
 rw[List.getElem?_set]
 by_cases e:j=k
 ·subst e
  have:=zK (l:=l) (ws:=ws) (w:=w) h
  rw[if_pos rfl,if_pos (List.getElem?_eq_some_iff.1 this).1,this]
 ·rw[if_neg e]
theorem BL (g:List Vtx)(l:List Int)(v:Vtx):wvk g l [] v=0:=rfl
open Classical in
theorem EQ (c:List Int)(g:List Vtx)(l:List Int)(hg:GraOK c g)(hgl:g.length≤1000000)(hl:leaS c l=true):aj Tryz.prog 139 [.lst (.int .i64) c,.lst .vtx g,.lst (.int .i64) l] [] (.lst (.int .i64) (g.map (wvk g l (cmt c g l l.length).1))) []:=by
 have hll:=(aW.1 hl).2
 have hW:=FM c g l hg hgl hl
 have hcl:=gK c g l hg.com l.length
 have hcm:=gJ (g:=g) hg.com l l.length
 have hfit:fH 8 (((g.length:Nat):Int).toNat):=by unfold fH;omega
 generalize (cmt c g l l.length).1=W at *
 have hil:=dr W
 refine ab ak Tryz.func139 rfl rfl true 0 4 rfl rfl rfl rfl fun K hK hb1 hb2=>?_;simp only[af,enc,Nat.reduceAdd]
 clear hb1 hb2
 (repeat' first|refine st ?_|refine sa fun xe hxe=>?_|refine sb (fun hq=>?_) fun hq=>?_|refine cr (hW) ?_|exact True.intro)
 refine ah hK [] [1,2,7,8,9] (fun i:Nat=>⟨[(1,.lst .vtx g),(2,.lst (.int .i64) l),(7,.ref 4),(8,.lst (.int .i64) (aM W)),(9,.int .i64 (i:Int))],[(4,.row 3 (.int .i64) (g.map (wvk g l (W.take i))))],5⟩) (fun i=>i≤W.length) (fun i=>W.length-i) 0 (Nat.zero_le _) ?_ ?_
 ·have e:List.replicate ((g.length:Int).toNat) (0:Int)=g.map (wvk g l (W.take 0)):=by
   rw[List.take_zero,show ((g.length:Int).toNat)=g.length by omega]
   refine(List.ext_getElem (by simp) fun k h1 h2=>?_)
   simp[BL]
  rw[←e]
  rfl
 intro i hi
 by_cases hlt:i<W.length
 ·obtain⟨w,hw⟩:∃w,W[i]?=some w:=⟨_,List.getElem?_eq_getElem hlt⟩
  have hwx:(aM W)[i]?=some (w:Int):=by rw[aM,List.getElem?_map,hw];rfl
  obtain⟨w1,w2,k,hk⟩:=hcm w (List.mem_of_getElem? hw)
  have htk:W.take (i+1)=W.take i++[w]:=by
   obtain⟨h1,h2⟩:=List.getElem?_eq_some_iff.1 hw
   rw[←h2];exact List.take_succ_eq_append_getElem h1
  have hpos:∀x∈W.take i,1≤x:=fun x hx=>(hcm x (List.mem_of_mem_take hx)).1
  obtain⟨n,hn,hgn⟩:=ia hg hk
  have hL:=uv g l w w1 w2 (by omega)
  rw[hn] at hL
  have hP:=s8 c g hg hgl n k hgn
  generalize W.take i=ws at *
  (repeat' first|refine st ?_|refine sa fun xe hxe=>?_|refine sb (fun hq=>?_) fun hq=>?_|refine cr (hL) ?_|refine cr (hP) ?_|exact True.intro)
  clear hL hP hW
  refine ah hK [] [1,2,7,8,9,10,11] (fun j:Nat=>⟨[(1,.lst .vtx g),(2,.lst (.int .i64) l),(7,.ref 4),(8,.lst (.int .i64) (aM W)),(9,.int .i64 (i:Int)),(10,.lst .bool (pfl g k)),(11,.int .i64 (j:Int))],[(4,.row 3 (.int .i64) (wvS g l ws w j))],5⟩) (fun j=>j≤g.length) (fun j=>g.length-j) 0 (Nat.zero_le _) (by rw[E5];rfl) ?_
  intro j hj
  have hrl:=BK g l ws w j
  by_cases hjl:j<g.length
  ·have hxe:g[j]?=some g[j]:=List.getElem?_eq_getElem hjl
   have hpf:=s9 (u:=k) hxe
   have hat:=zK (l:=l) (ws:=ws) (w:=w) hxe
   have hst:=vf (l:=l) (ws:=ws) (w:=w) hxe
   have hsk:=zL (l:=l) (ws:=ws) (w:=w) hxe
   have hvr:=(bl (hg.vtx _ (List.mem_of_getElem? hxe))).1
   have hsn:=mX g l ws w g[j] hpos
   have hiw:rV g l w g[j]↔Rv g k g[j]∧2*(w:Int)-7≤g[j].round:=by
    unfold rV
    rw[hk]
    exact⟨fun ⟨k',e,h1,h2⟩=>by obtain rfl:=Option.some.inj e;exact⟨h1,h2⟩,fun ⟨h1,h2⟩=>⟨k,rfl,h1,h2⟩⟩
   generalize g[j]=v at *
   generalize wvk g l ws v=o at *
   generalize wvk g l (ws++[w]) v=o2 at *
   generalize hrow:wvS g l ws w j=row at *
   by_cases hr:Rv g k v
   ·rw[decide_eq_true hr] at hpf
    by_cases ho:o=0
    ·by_cases hd:2*(w:Int)-7≤v.round
     ·rw[if_pos ⟨ho,hiw.2 ⟨hr,hd⟩⟩] at hsn
      rw[hsn] at hst
      (repeat' first|refine st ?_|refine sa fun xe hxe=>?_|refine sb (fun hq=>?_) fun hq=>?_|exact True.intro)
      (try any_goals(first|exact absurd trivial hq|exact absurd rfl hq|exact absurd hq (by omega)|(exfalso;simp at hq;done)))
      exact⟨j+1,by omega,by omega,by rw[←hst];rfl⟩
     ·rw[if_neg (fun h=>hd (hiw.1 h.2).2)] at hsn
      have hsk:=hsk hsn
      (repeat' first|refine st ?_|refine sa fun xe hxe=>?_|refine sb (fun hq=>?_) fun hq=>?_|exact True.intro)
      (try any_goals(first|exact absurd trivial hq|exact absurd rfl hq|exact absurd hq (by omega)|(exfalso;simp at hq;done)))
      exact⟨j+1,by omega,by omega,by rw[←hsk];rfl⟩
    ·rw[if_neg (fun h=>ho h.1)] at hsn
     have hsk:=hsk hsn
     (repeat' first|refine st ?_|refine sa fun xe hxe=>?_|refine sb (fun hq=>?_) fun hq=>?_|exact True.intro)
     (try any_goals(first|exact absurd trivial hq|exact absurd rfl hq|exact absurd hq (by omega)|(exfalso;simp at hq;done)))
     exact⟨j+1,by omega,by omega,by rw[←hsk];rfl⟩
   ·rw[decide_eq_false hr] at hpf
    rw[if_neg (fun h=>hr (hiw.1 h.2).1)] at hsn
    have hsk:=hsk hsn
    (repeat' first|refine st ?_|refine sa fun xe hxe=>?_|refine sb (fun hq=>?_) fun hq=>?_|exact True.intro)
    (try any_goals(first|exact absurd trivial hq|exact absurd rfl hq|exact absurd hq (by omega)|(exfalso;simp at hq;done)))
    exact⟨j+1,by omega,by omega,by rw[←hsk];rfl⟩
  ·obtain rfl:j=g.length:=by omega
   have hend:=BJ g l ws w
   rw[←htk] at hend
   rw[hend]
   (repeat' first|refine st ?_|refine sa fun xe hxe=>?_|refine sb (fun hq=>?_) fun hq=>?_|exact True.intro)
   (try any_goals(first|exact absurd trivial hq|exact absurd rfl hq|exact absurd hq (by omega)|(exfalso;simp at hq;done)))
   exact⟨i+1,by omega,by omega,rfl⟩
 ·obtain rfl:i=W.length:=by omega
  rw[List.take_length]
  (repeat' first|refine st ?_|refine sa fun xe hxe=>?_|refine sb (fun hq=>?_) fun hq=>?_|exact True.intro)
  (try any_goals(first|exact absurd trivial hq|exact absurd rfl hq|exact absurd hq (by omega)|(exfalso;simp at hq;done)))
  exact⟨rfl,rfl⟩
theorem uU (xs:List Int)(w:Int)(n:Nat):(rW xs w n).length≤n:=by
 unfold rW
 rw[List.length_map]
 exact Nat.le_trans (List.length_filter_le _ _) (by simp)
theorem kg (xs:List Int):∀m:Nat,(eK xs m).length≤m*xs.length
 |0=>by simp[eK]
 |m+1=>by
  rw[mH,List.length_append]
  have h1:=kg xs m
  have h2:=uU xs ((m+1:Nat):Int) xs.length
  rw[Nat.succ_mul]
  omega
theorem DB {xs:List Int}{w:Int}{n:Nat}:∀x∈rW xs w n,0≤x∧x<n:=by
 intro x hx
 obtain⟨i,hi,rfl⟩:=List.mem_map.1 hx
 have:=List.mem_range.1 (List.mem_filter.1 hi).1
 omega
theorem zd {xs:List Int}{m:Nat}:∀x∈eK xs m,0≤x∧x<xs.length:=by
 intro x hx
 obtain⟨w,-,hw⟩:=List.mem_flatMap.1 hx
 exact DB x hw
theorem ER (c:List Int)(g:List Vtx)(l:List Int)(hg:GraOK c g)(hgl:g.length≤10000)(hl:leaS c l=true):aj Tryz.prog 85 [.lst (.int .i64) c,.lst .vtx g,.lst (.int .i64) l] [] (.lst (.int .i64) (eK (g.map (wvk g l (cmt c g l l.length).1)) l.length)) []:=by
 have hll:=(aW.1 hl).2
 have hW:=EQ c g l hg (by omega) hl
 have hxl:(g.map (wvk g l (cmt c g l l.length).1)).length=g.length:=by simp
 generalize g.map (wvk g l (cmt c g l l.length).1)=xs at *
 refine ab ak Tryz.func85 rfl rfl true 0 4 rfl rfl rfl rfl fun K hK hb1 hb2=>?_;simp only[af,enc,Nat.reduceAdd]
 clear hb1 hb2
 (repeat' first|refine st ?_|refine sa fun xe hxe=>?_|refine sb (fun hq=>?_) fun hq=>?_|refine cr (hW) ?_|exact True.intro)
 clear hW
 refine ah hK [] [1,2,7,8,9] (fun m:Nat=>⟨[(1,.lst .vtx g),(2,.lst (.int .i64) l),(7,.ref 4),(8,.lst (.int .i64) xs),(9,.int .i64 ((m:Int)+1))],[(4,.row 3 (.int .i64) (eK xs m))],5⟩) (fun m=>m≤l.length) (fun m=>l.length-m) 0 (Nat.zero_le _) rfl ?_
 intro m hm
 have hsl:=kg xs m
 have hsl2:(eK xs m).length≤150000:=by
  refine Nat.le_trans hsl ?_
  rw[hxl]
  exact Nat.le_trans (Nat.mul_le_mul (show m≤15 by omega) hgl) (by omega)
 have hsn:=mH xs m
 by_cases hlt:m<l.length
 ·have e1:(((m+1:Nat)):Int)=(m:Int)+1:=by omega
  rw[e1] at hsn
  generalize hA:eK xs m=A at *
  (repeat' first|refine st ?_|refine sa fun xe hxe=>?_|refine sb (fun hq=>?_) fun hq=>?_|exact True.intro)
  refine ah hK [] [1,2,7,8,9,10] (fun j:Nat=>⟨[(1,.lst .vtx g),(2,.lst (.int .i64) l),(7,.ref 4),(8,.lst (.int .i64) xs),(9,.int .i64 ((m:Int)+1)),(10,.int .i64 (j:Int))],[(4,.row 3 (.int .i64) (A++rW xs ((m:Int)+1) j))],5⟩) (fun j=>j≤g.length) (fun j=>g.length-j) 0 (Nat.zero_le _) (by rw[show rW xs ((m:Int)+1) 0=[] from rfl,List.append_nil];rfl) ?_
  intro j hj
  have hjl:=uU xs ((m:Int)+1) j
  have hal:(A++rW xs ((m:Int)+1) j).length=A.length+(rW xs ((m:Int)+1) j).length:=by simp
  by_cases hjlt:j<g.length
  ·have hxe:xs[j]?=some xs[j]:=List.getElem?_eq_getElem (by omega)
   have hsj:=ze (w:=(m:Int)+1) hxe
   generalize xs[j]=x at *
   by_cases hx:x=(m:Int)+1
   ·rw[if_pos hx] at hsj
    generalize hB:A++rW xs ((m:Int)+1) j=B at *
    (repeat' first|refine st ?_|refine sa fun xe hxe=>?_|refine sb (fun hq=>?_) fun hq=>?_|exact True.intro)
    (try any_goals(first|exact absurd trivial hq|exact absurd rfl hq|exact absurd hq (by omega)|(exfalso;simp at hq;done)))
    exact⟨j+1,by omega,by omega,by rw[hsj,←List.append_assoc,hB];rfl⟩
   ·rw[if_neg hx] at hsj
    generalize hB:A++rW xs ((m:Int)+1) j=B at *
    (repeat' first|refine st ?_|refine sa fun xe hxe=>?_|refine sb (fun hq=>?_) fun hq=>?_|exact True.intro)
    (try any_goals(first|exact absurd trivial hq|exact absurd rfl hq|exact absurd hq (by omega)|(exfalso;simp at hq;done)))
    exact⟨j+1,by omega,by omega,by rw[hsj,hB];rfl⟩
  ·obtain rfl:j=g.length:=by omega
   rw[←hxl,←hsn]
   (repeat' first|refine st ?_|refine sa fun xe hxe=>?_|refine sb (fun hq=>?_) fun hq=>?_|exact True.intro)
   (try any_goals(first|exact absurd trivial hq|exact absurd rfl hq|exact absurd hq (by omega)|(exfalso;simp at hq;done)))
   exact⟨m+1,by omega,by omega,by rw[e1]⟩
 ·obtain rfl:m=l.length:=by omega
  (repeat' first|refine st ?_|refine sa fun xe hxe=>?_|refine sb (fun hq=>?_) fun hq=>?_|exact True.intro)
  (try any_goals(first|exact absurd trivial hq|exact absurd rfl hq|exact absurd hq (by omega)|(exfalso;simp at hq;done)))
  exact⟨rfl,rfl⟩
end Go.Proofs.YthmfppknagbkeaaGreatDoor.Am
namespace Go.Proofs.YthmfppknagbkeaaGreatDoor.Am
open Go
attribute [local irreducible] Mk ba Ari di jQ f4 bh bV eY d6 At aj
set_option maxRecDepth 10000
theorem ET (c:List Int)(g:List Vtx)(l:List Int):aj Tryz.prog 84 [.lst (.int .i64) c,.lst .vtx g,.lst (.int .i64) l] [] (.bool (wB c g l)) []:=by
 have hG:=xN c g
 have hL:=B0 c l
 have e:wB c g l=(graS c g && leaS c l):=rfl
 rw[e]
 refine ab ak Tryz.func84 rfl rfl false 0 4 rfl rfl rfl rfl fun K hK hb1 hb2=>?_;simp only[af,enc,Nat.reduceAdd]
 clear hb1 hb2
 cases hg:graS c g
 ·rw[hg] at hG
  (repeat' first|refine st ?_|refine sa fun xe hxe=>?_|refine sb (fun hq=>?_) fun hq=>?_|refine cr (hG) ?_|refine cr (hL) ?_|exact True.intro)
  exact⟨rfl,rfl⟩
 ·rw[hg] at hG
  (repeat' first|refine st ?_|refine sa fun xe hxe=>?_|refine sb (fun hq=>?_) fun hq=>?_|refine cr (hG) ?_|refine cr (hL) ?_|exact True.intro)
  exact⟨rfl,rfl⟩
noncomputable def ordS (c:List Int) (g:List Vtx) (l:List Int):List Slt:=if wB c g l then(ordG c g l).map dP else[]
theorem EU (c:List Int)(g:List Vtx)(l:List Int)(hgl:g.length≤10000):aj Tryz.prog 40 [.lst (.int .i64) c,.lst .vtx g,.lst (.int .i64) l] [] (.lst .slt (ordS c g l)) []:=by
 have hO:=ET c g l
 refine ab ak Tryz.func40 rfl rfl true 0 4 rfl rfl rfl rfl fun K hK hb1 hb2=>?_;simp only[af,enc,Nat.reduceAdd]
 clear hb1 hb2
 cases hw:wB c g l
 ·rw[hw] at hO
  have e:ordS c g l=[]:=by rw[ordS,hw];rfl
  rw[e]
  (repeat' first|refine st ?_|refine sa fun xe hxe=>?_|refine sb (fun hq=>?_) fun hq=>?_|refine cr (hO) ?_|exact True.intro)
  exact⟨rfl,rfl⟩
 ·rw[hw] at hO
  obtain⟨hg,hl⟩:graS c g=true∧leaS c l=true:=by simpa[wB] using hw
  have hok:=gU hg
  have hll:=(aW.1 hl).2
  have hL:=ER c g l hok hgl hl
  have hso:=Bk (g:=g) hok.com l
  have e:ordS c g l=(ordG c g l).map dP:=by rw[ordS,hw];rfl
  have hsi:=zd (xs:=g.map (wvk g l (cmt c g l l.length).1)) (m:=l.length)
  have hsl:=kg (g.map (wvk g l (cmt c g l l.length).1)) l.length
  rw[List.length_map] at hsi hsl
  have hsl2:(eK (g.map (wvk g l (cmt c g l l.length).1)) l.length).length≤150000:=Nat.le_trans hsl (Nat.le_trans (Nat.mul_le_mul hll hgl) (by omega))
  rw[e,←hso]
  generalize eK (g.map (wvk g l (cmt c g l l.length).1)) l.length=L at *
  (repeat' first|refine st ?_|refine sa fun xe hxe=>?_|refine sb (fun hq=>?_) fun hq=>?_|refine cr (hO) ?_|refine cr (hL) ?_|exact True.intro)
  clear hO hL
  refine ah hK [] [1,7,8,9] (fun i:Nat=>⟨[(1,.lst .vtx g),(7,.ref 4),(8,.lst (.int .i64) L),(9,.int .i64 (i:Int))],[(4,.row 54 .slt ((L.take i).map fun i=>dP (g.getD i.toNat v0)))],5⟩) (fun i=>i≤L.length) (fun i=>L.length-i) 0 (Nat.zero_le _) rfl ?_
  intro i hi
  by_cases hlt:i<L.length
  ·have hxe:L[i]?=some L[i]:=List.getElem?_eq_getElem hlt
   have h3:L.take (i+1)=L.take i++[L[i]]:=List.take_succ_eq_append_getElem hlt
   have hb:=hsi _ (List.getElem_mem hlt)
   generalize L[i]=x at *
   have hxg:g[x.toNat]?=some (g.getD x.toNat v0):=by rw[List.getD_eq_getElem?_getD,List.getElem?_eq_getElem (by omega)];rfl
   have hrl:((L.take i).map fun i=>dP (g.getD i.toNat v0)).length=i:=by simp;omega
   have h4:(L.take (i+1)).map (fun i=>dP (g.getD i.toNat v0))=(L.take i).map (fun i=>dP (g.getD i.toNat v0))++[dP (g.getD x.toNat v0)]:=by rw[h3,List.map_append];rfl
   generalize hA:((L.take i).map fun i=>dP (g.getD i.toNat v0))=A at *
   generalize g.getD x.toNat v0=v at *
   (repeat' first|refine st ?_|refine sa fun xe hxe=>?_|refine sb (fun hq=>?_) fun hq=>?_|exact True.intro)
   (try any_goals(first|exact absurd trivial hq|exact absurd rfl hq|exact absurd hq (by omega)|(exfalso;simp at hq;done)))
   exact⟨i+1,by omega,by omega,by rw[h4];rfl⟩
  ·obtain rfl:i=L.length:=by omega
   rw[List.take_length]
   (repeat' first|refine st ?_|refine sa fun xe hxe=>?_|refine sb (fun hq=>?_) fun hq=>?_|exact True.intro)
   (try any_goals(first|exact absurd trivial hq|exact absurd rfl hq|exact absurd hq (by omega)|(exfalso;simp at hq;done)))
   exact⟨rfl,rfl⟩
noncomputable def wo (w:Wrl) (m:Int):List Slt:=if iy w && f6 m 0 ((w.com.length:Int)-1) then ordS w.com (w.views.getD m.toNat []) w.lead else[]
theorem EZ (w:Wrl)(m:Int)(hcl:w.com.length≤2000000):aj Tryz.prog 9 [bU w,.int .i64 m] [] (.lst .slt (wo w m)) []:=by
 have hV:=EY w hcl
 have hI:=na m 0 ((w.com.length:Int)-1)
 refine ab ak Tryz.func9 rfl rfl true 0 4 rfl rfl rfl rfl fun K hK hb1 hb2=>?_;simp only[af,enc,Nat.reduceAdd]
 clear hb1 hb2
 cases hw:iy w
 ·rw[hw] at hV
  have e:wo w m=[]:=by rw[wo,hw];rfl
  rw[e]
  (repeat' first|refine st ?_|refine sa fun xe hxe=>?_|refine sb (fun hq=>?_) fun hq=>?_|refine cr (hV) ?_|refine cr (hI) ?_|exact True.intro)
  exact⟨rfl,rfl⟩
 ·rw[hw] at hV
  have hok:=pQ.1 hw
  cases hm:f6 m 0 ((w.com.length:Int)-1)
  ·rw[hm] at hI
   have e:wo w m=[]:=by rw[wo,hw,hm];rfl
   rw[e]
   (repeat' first|refine st ?_|refine sa fun xe hxe=>?_|refine sb (fun hq=>?_) fun hq=>?_|refine cr (hV) ?_|refine cr (hI) ?_|exact True.intro)
   exact⟨rfl,rfl⟩
  ·rw[hm] at hI
   have hb:=av.1 hm
   have e:wo w m=ordS w.com (w.views.getD m.toNat []) w.lead:=by rw[wo,hw,hm];rfl
   have hvl:=hok.vlen
   have hx:w.views[m.toNat]?=some (w.views.getD m.toNat []):=by rw[List.getD_eq_getElem?_getD,List.getElem?_eq_getElem (by omega)];rfl
   have hgl:=hok.vl _ (List.mem_of_getElem? hx)
   rw[e]
   generalize w.views.getD m.toNat []=g at *
   have hO:=EU w.com g w.lead (by omega)
   (repeat' first|refine st ?_|refine sa fun xe hxe=>?_|refine sb (fun hq=>?_) fun hq=>?_|refine cr (hV) ?_|refine cr (hI) ?_|refine cr (hO) ?_|exact True.intro)
   exact⟨rfl,rfl⟩
end Go.Proofs.YthmfppknagbkeaaGreatDoor.Am
namespace Go.Proofs.YthmfppknagbkeaaGreatDoor.Am
open Go
attribute [local irreducible] Mk ba Ari di jQ f4 bh bV eY d6 At aj nv
set_option maxRecDepth 10000
theorem AC (v:Vtx):aj Tryz.prog 90 [bS v] [] (.agg [.int .i64 v.round,.int .i64 v.author]) []:=by
 refine ab ak Tryz.func90 rfl rfl false 0 4 rfl rfl rfl rfl fun K hK hb1 hb2=>?_;simp only[af,enc,Nat.reduceAdd]
 clear hb1 hb2
 (repeat' first|refine st ?_|refine sa fun xe hxe=>?_|refine sb (fun hq=>?_) fun hq=>?_|exact True.intro)
 exact⟨rfl,rfl⟩
theorem uG {c:List Int}{g:List Vtx}(l:List Int)(h:wB c g l=true):(oddTo g l [] (cmt c g l l.length).1).map (fun o=>dP o.v)=ordS c g l:=by
 have e:=uF g l (cmt c g l l.length).1 []
 rw[ordS,h,if_pos rfl,ordG,show ([]:List Vtx)=([]:List Odd).map (·.v) from rfl,←e,List.map_map]
 rfl
theorem Az (c:List Int)(l:List Int)(hc:comV c=true)(hl:leaS c l=true):aj Tryz.prog 89 [.agg [.ptr 4 0,.lst (.int .i64) l]] (gZ c eQ) (.lst .odd []) (gZ c eQ):=by
 have hC:=As c l hc hl
 refine ab bK Tryz.func89 rfl rfl true 1 5 rfl rfl rfl rfl fun K hK hb1 hb2=>?_;simp only[af,enc,Nat.reduceAdd]
 clear hb1 hb2
 (repeat' first|refine eX ?_|refine sa fun xe hxe=>?_|refine sb (fun hq=>?_) fun hq=>?_|refine co (hC) ?_|exact True.intro)
 clear hC
 refine ah hK [] [1,3,4,22,23,24] (fun i:Nat=>⟨[(1,.ptr 5 0),(3,.ref 6),(4,.ref 7),(22,.lst (.int .i64) []),(23,.int .i64 0),(24,.int .i64 (i:Int))],FW c eQ (.var 126 [.ptr 4 0,.lst (.int .i64) l])++[(6,.row 134 .odd []),(7,.row 4 .bool [])],8⟩) (fun i=>i=0) (fun i=>i) 0 rfl ?_ ?_
 ·rfl
 rintro i rfl
 (repeat' first|refine eX ?_|refine sa fun xe hxe=>?_|refine sb (fun hq=>?_) fun hq=>?_|exact True.intro)
 exact⟨rfl,rfl⟩
theorem C1 (c:List Int)(g:List Vtx)(l:List Int)(hgl:g.length≤1000):aj Tryz.prog 44 [.lst (.int .i64) c,.lst .vtx g,.lst (.int .i64) l] [] (.ref 4) [(4,.row 54 .slt (ordS c g l))]:=by
 cases hw:wB c g l
 ·have hN:=CZ c g l (by omega) hw
  have e:ordS c g l=[]:=by rw[ordS,hw];rfl
  rw[e]
  refine ab bK Tryz.func44 rfl rfl false 0 4 rfl rfl rfl rfl fun K hK hb1 hb2=>?_;simp only[af,enc,Nat.reduceAdd]
  clear hb1 hb2
  (repeat' first|refine eX ?_|refine sa fun xe hxe=>?_|refine sb (fun hq=>?_) fun hq=>?_|refine cr (hN) ?_|exact True.intro)
  exact⟨rfl,rfl⟩
 ·obtain⟨hg,hl⟩:graS c g=true∧leaS c l=true:=by simpa[wB] using hw
  have hok:=gU hg
  have hll:=(aW.1 hl).2
  have hos:=uG l hw
  have hol:=ij g l (cmt c g l l.length).1 []
  have hcl:=gK c g l hok.com l.length
  have hol2:(oddTo g l [] (cmt c g l l.length).1).length≤15000:=by
   refine Nat.le_trans hol ?_
   simp only[List.length_nil,Nat.zero_add]
   exact Nat.le_trans (Nat.mul_le_mul (show (cmt c g l l.length).1.length≤15 by omega) hgl) (by omega)
  clear hol
  cases g with
  |nil=>
   have hN:=CY c l hok.com hl
   have hC:=Az c l hok.com hl
   rw[tU c l hok.com] at hos
   have e:ordS c [] l=[]:=hos.symm
   rw[e]
   refine ab bK Tryz.func44 rfl rfl false 0 4 rfl rfl rfl rfl fun K hK hb1 hb2=>?_;simp only[af,enc,Nat.reduceAdd]
   clear hb1 hb2
   (repeat' first|refine eX ?_|refine sa fun xe hxe=>?_|refine sb (fun hq=>?_) fun hq=>?_|refine cr (hN) ?_|refine co (hC) ?_|exact True.intro)
   refine ah hK [] [7,24,25,26] (fun i:Nat=>⟨[(7,.ref 4),(24,.lst .odd []),(25,.int .i64 0),(26,.int .i64 (i:Int))],[(0,.fvar 178 (.nod 1) eQ.nodes),(1,.frow 166 (.hp 0) eQ.rows),(4,.row 54 .slt [])],5⟩) (fun i=>i=0) (fun i=>i) 0 rfl rfl ?_
   rintro i rfl
   (repeat' first|refine eX ?_|refine sa fun xe hxe=>?_|refine sb (fun hq=>?_) fun hq=>?_|exact True.intro)
   exact⟨rfl,rfl⟩
  |cons v g=>
   have hN:=CX c v g l (by omega) hg hl
   have hC:=C0 c (v::g) l hok hgl hl
   rw[←hos]
   generalize oddTo (v::g) l [] (cmt c (v::g) l l.length).1=os at *
   refine ab bK Tryz.func44 rfl rfl false 0 4 rfl rfl rfl rfl fun K hK hb1 hb2=>?_;simp only[af,enc,Nat.reduceAdd]
   clear hb1 hb2
   (repeat' first|refine eX ?_|refine sa fun xe hxe=>?_|refine sb (fun hq=>?_) fun hq=>?_|refine cr (hN) ?_|refine co (hC) ?_|exact True.intro)
   clear hN hC
   refine ah hK [] [7,24,25,26] (fun i:Nat=>⟨[(7,.ref 4),(24,.lst .odd os),(25,.int .i64 os.length),(26,.int .i64 (i:Int))],[(0,.fvar 178 (.nod 1) (bn (v::g)).nodes),(1,.frow 166 (.hp 0) (bn (v::g)).rows),(4,.row 54 .slt ((os.take i).map fun o=>dP o.v))],5⟩) (fun i=>i≤os.length) (fun i=>os.length-i) 0 (Nat.zero_le _) rfl ?_
   intro i hi
   by_cases hlt:i<os.length
   ·have hxe:os[i]?=some os[i]:=List.getElem?_eq_getElem hlt
    have h3:os.take (i+1)=os.take i++[os[i]]:=List.take_succ_eq_append_getElem hlt
    have hI:=AC os[i].v
    have h4:(os.take (i+1)).map (fun o=>dP o.v)=(os.take i).map (fun o=>dP o.v)++[dP os[i].v]:=by rw[h3,List.map_append];rfl
    have hal:((os.take i).map fun o=>dP o.v).length=i:=by simp;omega
    generalize hA:((os.take i).map fun o=>dP o.v)=A at *
    generalize os[i]=o at *
    (repeat' first|refine eX ?_|refine sa fun xe hxe=>?_|refine sb (fun hq=>?_) fun hq=>?_|refine cr (hI) ?_|exact True.intro)
    exact⟨i+1,by omega,by omega,by rw[h4];rfl⟩
   ·obtain rfl:i=os.length:=by omega
    rw[List.take_length]
    (repeat' first|refine eX ?_|refine sa fun xe hxe=>?_|refine sb (fun hq=>?_) fun hq=>?_|exact True.intro)
    exact⟨rfl,rfl⟩
theorem C9 (w:Wrl)(m:Int)(hl:∀g∈w.views,g.length≤2000000):aj Tryz.prog 11 [bU w,.int .i64 m] [] (.ref 4) [(4,.row 54 .slt (wo w m))]:=by
 have hV:=EF w hl
 refine ab bK Tryz.func11 rfl rfl false 0 4 rfl rfl rfl rfl fun K hK hb1 hb2=>?_;simp only[af,enc,Nat.reduceAdd]
 clear hb1 hb2
 cases hw:iy w
 ·rw[hw] at hV
  have e:wo w m=[]:=by rw[wo,hw];rfl
  rw[e]
  (repeat' first|refine eX ?_|refine sa fun xe hxe=>?_|refine sb (fun hq=>?_) fun hq=>?_|refine cr (hV) ?_|exact True.intro)
  exact⟨rfl,rfl⟩
 ·rw[hw] at hV
  have hok:=pQ.1 hw
  have hvl:=hok.vlen
  cases hm:f6 m 0 ((w.com.length:Int)-1)
  ·have e:wo w m=[]:=by rw[wo,hw,hm];rfl
   have hb:¬(0≤m∧m≤(w.com.length:Int)-1):=fun h=>by rw[av.2 h] at hm;cases hm
   rw[e]
   by_cases h0:m<0
   ·(repeat' first|refine eX ?_|refine sa fun xe hxe=>?_|refine sb (fun hq=>?_) fun hq=>?_|refine cr (hV) ?_|exact True.intro)
    exact⟨rfl,rfl⟩
   ·(repeat' first|refine eX ?_|refine sa fun xe hxe=>?_|refine sb (fun hq=>?_) fun hq=>?_|refine cr (hV) ?_|exact True.intro)
    exact⟨rfl,rfl⟩
  ·have hb:=av.1 hm
   have e:wo w m=ordS w.com (w.views.getD m.toNat []) w.lead:=by rw[wo,hw,hm];rfl
   have hx:w.views[m.toNat]?=some (w.views.getD m.toNat []):=by rw[List.getD_eq_getElem?_getD,List.getElem?_eq_getElem (by omega)];rfl
   have hgl:=hok.vl _ (List.mem_of_getElem? hx)
   rw[e]
   generalize w.views.getD m.toNat []=g at *
   have hO:=C1 w.com g w.lead (by omega)
   (repeat' first|refine eX ?_|refine sa fun xe hxe=>?_|refine sb (fun hq=>?_) fun hq=>?_|refine cr (hV) ?_|refine cr (hO) ?_|exact True.intro)
   exact⟨rfl,rfl⟩
end Go.Proofs.YthmfppknagbkeaaGreatDoor.Am
namespace Go.Proofs.YthmfppknagbkeaaGreatDoor.Am
open Go
def mk (k:Int)(n:Nat):List Int:=(List.range n).map fun i:Nat=>k+i
theorem fm (k:Int)(n:Nat):(mk k n).length=n:=by simp[mk]
theorem uA (k:Int)(n:Nat):mk k (n+1)=mk k n++[k+n]:=by simp[mk,List.range_succ]
def kQ (n:Nat)(g:List Vtx):List VtxO:=(g.zipIdx n).map fun x=>⟨x.1.round,x.1.author,some x.2,x.1.digest⟩
theorem zz (n:Nat)(v:Vtx)(g:List Vtx):kQ n (v::g)=⟨v.round,v.author,some n,v.digest⟩::kQ (n+1) g:=rfl
theorem BB (n:Nat)(g:List Vtx):(kQ n g).length=g.length:=by simp[kQ]
theorem zA (n:Nat)(g:List Vtx)(v:Vtx):kQ n (g++[v])=kQ n g++[⟨v.round,v.author,some (n+g.length),v.digest⟩]:=by
 simp[kQ,List.zipIdx_append,Nat.add_comm]
def mY:Nat→List (List Vtx)→List (List VtxO)
 |_,[]=>[]
 |n,g::l=>kQ n g::mY (n+g.length) l
def cI (gs:List (List Vtx)):List (List Int):=gs.flatMap fun g=>g.map (·.parents)
theorem wc (gs:List (List Vtx))(g:List Vtx):cI (gs++[g])=cI gs++g.map (·.parents):=by simp[cI]
theorem Ak (n:Nat):∀gs:List (List Vtx),(mY n gs).length=gs.length:=by
 intro gs
 induction gs generalizing n with
 |nil=>rfl
 |cons g l ih=>simp[mY,ih]
theorem qH (g:List Vtx):∀(gs:List (List Vtx)) (n:Nat),mY n (gs++[g])=mY n gs++[kQ (n+(cI gs).length) g]
 |[],n=>by simp[mY,cI]
 |g0::gs,n=>by
  have:=qH g gs (n+g0.length)
  simp only[List.cons_append,mY,this,cI,List.flatMap_cons,List.length_append,List.length_map]
  rw[Nat.add_assoc]
def lr:Nat→List Ppl→List PplO
 |_,[]=>[]
 |n,p::l=>⟨⟨p.v.round,p.v.author,some n,p.v.digest⟩,some (n+1)⟩::lr (n+2) l
def eD (ps:List Ppl):List (List Int):=ps.flatMap fun p=>[p.v.parents,p.members]
theorem yO (ps:List Ppl):(eD ps).length=2*ps.length:=by
 induction ps with
 |nil=>rfl
 |cons p l ih=>simp[eD] at ih⊢;omega
theorem wd (ps:List Ppl)(p:Ppl):eD (ps++[p])=eD ps++[p.v.parents,p.members]:=by simp[eD]
theorem A0 (n:Nat):∀ps:List Ppl,(lr n ps).length=ps.length:=by
 intro ps
 induction ps generalizing n with
 |nil=>rfl
 |cons g l ih=>simp[lr,ih]
theorem rv (p:Ppl):∀(ps:List Ppl) (n:Nat),lr n (ps++[p])=lr n ps++[⟨⟨p.v.round,p.v.author,some (n+2*ps.length),p.v.digest⟩,some (n+2*ps.length+1)⟩]
 |[],n=>rfl
 |q::ps,n=>by
  have:=rv p ps (n+2)
  simp only[List.cons_append,lr,this,List.length_cons]
  rw[show n+2+2*ps.length=n+2*(ps.length+1) by omega]
theorem o5 {α:Type}(f:α→Nat)(hf:∀x,1≤f x):∀l:List α,l.length≤(l.map f).sum
 |[]=>Nat.zero_le _
 |x::l=>by
  have:=o5 f hf l
  have:=hf x
  simp only[List.length_cons,List.map_cons,List.sum_cons]
  omega
def VsR (pss:List (List Int)):List VtxO→List Vtx→Prop
 |[],[]=>True
 |x::l,v::g=>(∃j,x=⟨v.round,v.author,some j,v.digest⟩∧pss[j]?=some v.parents)∧VsR pss l g
 |_,_=>False
theorem VsR.len {pss:List (List Int)}:∀{vs:List VtxO} {g:List Vtx},VsR pss vs g→vs.length=g.length
 |[],[],_=>rfl
 |_::_,_::_,h=>by simp[VsR.len h.2]
theorem VsR.get {pss:List (List Int)}:∀{vs:List VtxO} {g:List Vtx} {i:Nat} {v:Vtx},VsR pss vs g→g[i]?=some v→∃j,vs[i]?=some ⟨v.round,v.author,some j,v.digest⟩∧pss[j]?=some v.parents
 |[],[],i,v,_,h=>by simp at h
 |x::l,v0::g,0,v,h,hv=>by
  obtain⟨⟨j,rfl,h1⟩,-⟩:=h
  obtain rfl:=Option.some.inj hv
  exact⟨j,rfl,h1⟩
 |x::l,v0::g,i+1,v,h,hv=>VsR.get (i:=i) h.2 (by simpa using hv)
theorem VsR.read {pss:List (List Int)}:∀{vs:List VtxO} {g:List Vtx},VsR pss vs g→vs.mapM (BS pss)=some g
 |[],[],_=>rfl
 |x::l,v::g,h=>by
  obtain⟨⟨j,rfl,h1⟩,h2⟩:=h
  rw[List.mapM_cons,VsR.read h2]
  simp only[BS,Et]
  rw[h1]
  rfl
theorem VsR.mono {pss pss':List (List Int)}:∀{vs:List VtxO} {g:List Vtx},(∀x∈vs,∀j,x.parents=some j→pss'[j]?=pss[j]?)→VsR pss vs g→VsR pss' vs g
 |[],[],_,_=>trivial
 |x::l,v::g,h,⟨⟨j,hx,h1⟩,h2⟩=>⟨⟨j,hx,by rw[h x (by simp) j (by rw[hx])];exact h1⟩,VsR.mono (fun y hy=>h y (by simp[hy])) h2⟩
theorem u9 {pss:List (List Int)}:∀{g:List Vtx} {n:Nat},(∀i v,g[i]?=some v→pss[n+i]?=some v.parents)→VsR pss (kQ n g) g
 |[],_,_=>trivial
 |v::g,n,h=>⟨⟨n,rfl,h 0 v rfl⟩,u9 (n:=n+1) fun i x hx=>by rw[Nat.add_right_comm];exact h (i+1) x hx⟩
def GsR (pss:List (List Int))(vss:List (List VtxO)):List (Option Nat)→List (List Vtx)→Prop
 |[],[]=>True
 |x::l,g::gs=>(∃i vs,x=some i∧vss[i]?=some vs∧VsR pss vs g)∧GsR pss vss l gs
 |_,_=>False
theorem GsR.len {pss:List (List Int)}{vss:List (List VtxO)}:∀{hs:List (Option Nat)} {gs:List (List Vtx)},GsR pss vss hs gs→hs.length=gs.length
 |[],[],_=>rfl
 |_::_,_::_,h=>by simp[GsR.len h.2]
theorem GsR.get {pss:List (List Int)}{vss:List (List VtxO)}:∀{hs:List (Option Nat)} {gs:List (List Vtx)} {i:Nat} {g:List Vtx},GsR pss vss hs gs→gs[i]?=some g→∃j vs,hs[i]?=some (some j)∧vss[j]?=some vs∧VsR pss vs g
 |[],[],i,v,_,h=>by simp at h
 |x::l,v0::g,0,v,h,hv=>by
  obtain⟨⟨j,vs,rfl,h1⟩,-⟩:=h
  obtain rfl:=Option.some.inj hv
  exact⟨j,vs,rfl,h1⟩
 |x::l,v0::g,i+1,v,h,hv=>GsR.get (i:=i) h.2 (by simpa using hv)
theorem GsR.read {pss:List (List Int)}{vss:List (List VtxO)}:∀{hs:List (Option Nat)} {gs:List (List Vtx)},GsR pss vss hs gs→hs.mapM (Fa pss vss)=some gs
 |[],[],_=>rfl
 |x::l,v::g,h=>by
  obtain⟨⟨j,vs,rfl,h1,h3⟩,h2⟩:=h
  rw[List.mapM_cons,GsR.read h2]
  simp only[Fa,h1,Option.bind_some,h3.read]
  rfl
def PsR (pss:List (List Int)):List PplO→List Ppl→Prop
 |[],[]=>True
 |x::l,p::ps=>(∃j k,x=⟨⟨p.v.round,p.v.author,some j,p.v.digest⟩,some k⟩∧pss[j]?=some p.v.parents∧pss[k]?=some p.members)∧PsR pss l ps
 |_,_=>False
theorem PsR.len {pss:List (List Int)}:∀{vs:List PplO} {g:List Ppl},PsR pss vs g→vs.length=g.length
 |[],[],_=>rfl
 |_::_,_::_,h=>by simp[PsR.len h.2]
theorem PsR.get {pss:List (List Int)}:∀{vs:List PplO} {g:List Ppl} {i:Nat} {p:Ppl},PsR pss vs g→g[i]?=some p→∃j k,vs[i]?=some ⟨⟨p.v.round,p.v.author,some j,p.v.digest⟩,some k⟩∧pss[j]?=some p.v.parents∧pss[k]?=some p.members
 |[],[],i,v,_,h=>by simp at h
 |x::l,v0::g,0,v,h,hv=>by
  obtain⟨⟨j,k,rfl,h1⟩,-⟩:=h
  obtain rfl:=Option.some.inj hv
  exact⟨j,k,rfl,h1⟩
 |x::l,v0::g,i+1,v,h,hv=>PsR.get (i:=i) h.2 (by simpa using hv)
theorem PsR.read {pss:List (List Int)}:∀{vs:List PplO} {g:List Ppl},PsR pss vs g→vs.mapM (Fb pss pss)=some g
 |[],[],_=>rfl
 |x::l,v::g,h=>by
  obtain⟨⟨j,k,rfl,h1,h3⟩,h2⟩:=h
  rw[List.mapM_cons,PsR.read h2]
  simp only[Fb,BS,Et,h1,h3]
  rfl
theorem tM {α:Type}(a b:List α){i:Nat}{x:α}(h:b[i]?=some x):(a++b)[a.length+i]?=some x:=by
 rw[List.getElem?_append_right (by omega),Nat.add_sub_cancel_left,h]
theorem pX {α:Type}(a b:List α){i:Nat}{x:α}(h:a[i]?=some x):(a++b)[i]?=some x:=by
 rw[List.getElem?_append_left (List.getElem?_eq_some_iff.1 h).1,h]
theorem Al {gs:List (List Vtx)}{pss:List (List Int)}{vss:List (List VtxO)}:∀{n m:Nat},(∀i x,(cI gs)[i]?=some x→pss[n+i]?=some x)→(∀i x,(mY n gs)[i]?=some x→vss[m+i]?=some x)→GsR pss vss ((List.range' m gs.length).map some) gs:=by
 induction gs with
 |nil=>intro n m _ _;exact trivial
 |cons g l ih=>
  intro n m h1 h2
  refine⟨⟨m,kQ n g,rfl,by simpa using h2 0 _ rfl,u9 fun i v hv=>h1 i _ ?_⟩,?_⟩
  ·have:(g.map (·.parents))[i]?=some v.parents:=by simp[hv]
   exact pX _ _ this
  ·refine ih (n:=n+g.length) (m:=m+1) (fun i x hx=>?_) fun i x hx=>?_
   ·have:=tM (g.map (·.parents)) (cI l) hx
    rw[List.length_map] at this
    rw[Nat.add_assoc]
    exact h1 _ _ this
   ·rw[Nat.add_assoc,Nat.add_comm 1 i]
    exact h2 (i+1) x hx
theorem A1 {ps:List Ppl}{pss:List (List Int)}:∀{n:Nat},(∀i x,(eD ps)[i]?=some x→pss[n+i]?=some x)→PsR pss (lr n ps) ps:=by
 induction ps with
 |nil=>intro n _;exact trivial
 |cons p l ih=>
  intro n h
  refine⟨⟨n,n+1,rfl,h 0 _ rfl,h 1 _ rfl⟩,ih (n:=n+2) fun i x hx=>?_⟩
  rw[Nat.add_assoc,Nat.add_comm 2 i]
  exact h (i+2) x hx
def d5:List VtxO→Int→List (List Int)→Int×List (List Int)×List VtxO
 |[],k,p=>(k,p,[])
 |x::l,k,p=>
  let j:=x.parents.getD 0
  let n:=(p.getD j []).length
  let r:=d5 l (k+3+n) (p.set j (mk (k+2) n))
  (r.1,r.2.1,⟨k,k+1,x.parents,k+2+n⟩::r.2.2)
theorem rd (x:VtxO):∀(l:List VtxO) (k:Int) (p:List (List Int)),d5 (l++[x]) k p=
  (let r:=d5 l k p;let j:=x.parents.getD 0;let n:=(r.2.1.getD j []).length
  (r.1+3+n,r.2.1.set j (mk (r.1+2) n),r.2.2++[⟨r.1,r.1+1,x.parents,r.1+2+n⟩]))
 |[],k,p=>rfl
 |y::l,k,p=>by
  simp only[List.cons_append,d5]
  rw[rd x l]
def f5:List PplO→Int→List (List Int)→Int×List (List Int)×List PplO
 |[],k,p=>(k,p,[])
 |x::l,k,p=>
  let j:=x.v.parents.getD 0
  let n:=(p.getD j []).length
  let p1:=p.set j (mk (k+2) n)
  let i:=x.members.getD 0
  let m:=(p1.getD i []).length
  let r:=f5 l (k+3+n+m) (p1.set i (mk (k+3+n) m))
  (r.1,r.2.1,⟨⟨k,k+1,x.v.parents,k+2+n⟩,x.members⟩::r.2.2)
theorem rb (x:PplO):∀(l:List PplO) (k:Int) (p:List (List Int)),f5 (l++[x]) k p=
  (let r:=f5 l k p;let j:=x.v.parents.getD 0;let n:=(r.2.1.getD j []).length;let p1:=r.2.1.set j (mk (r.1+2) n);let i:=x.members.getD 0;let m:=(p1.getD i []).length
  (r.1+3+n+m,p1.set i (mk (r.1+3+n) m),r.2.2++[⟨⟨r.1,r.1+1,x.v.parents,r.1+2+n⟩,x.members⟩]))
 |[],k,p=>rfl
 |y::l,k,p=>by
  simp only[List.cons_append,f5]
  rw[rb x l]
def dg:List (Option Nat)→Int→List (List Int)→List (List VtxO)→Int×List (List Int)×List (List VtxO)
 |[],k,p,vss=>(k,p,vss)
 |x::l,k,p,vss=>
  let j:=x.getD 0
  let r:=d5 (vss.getD j []) k p
  dg l r.1 r.2.1 (vss.set j r.2.2)
theorem q9 (x:Option Nat):∀(l:List (Option Nat)) (k:Int) (p:List (List Int)) (vss:List (List VtxO)),dg (l++[x]) k p vss=
  (let r:=dg l k p vss;let s:=d5 (r.2.2.getD (x.getD 0) []) r.1 r.2.1;(s.1,s.2.1,r.2.2.set (x.getD 0) s.2.2))
 |[],k,p,vss=>rfl
 |y::l,k,p,vss=>by
  simp only[List.cons_append,dg]
  rw[q9 x l]
theorem dL (p:List (List Int))(j:Nat)(k:Int):(p.set j (mk k (p.getD j []).length)).map List.length=p.map List.length:=by
 apply List.ext_getElem?
 intro i
 rw[List.getElem?_map,List.getElem?_map,List.getElem?_set]
 split
 ·rename_i h
  subst h
  split
  ·rename_i hl
   rw[List.getElem?_eq_getElem hl]
   simp[fm,List.getD_eq_getElem?_getD,List.getElem?_eq_getElem hl]
  ·rename_i hl
   rw[List.getElem?_eq_none (by omega)]
 ·rfl
theorem gj:∀(l:List VtxO) (k:Int) (p:List (List Int)),(d5 l k p).2.1.map List.length=p.map List.length
 |[],k,p=>rfl
 |x::l,k,p=>by simp only[d5];rw[gj l,dL]
theorem gh:∀(l:List PplO) (k:Int) (p:List (List Int)),(f5 l k p).2.1.map List.length=p.map List.length
 |[],k,p=>rfl
 |x::l,k,p=>by simp only[f5];rw[gh l,dL,dL]
theorem jf:∀(l:List (Option Nat)) (k:Int) (p:List (List Int)) (vss:List (List VtxO)),(dg l k p vss).2.1.map List.length=p.map List.length
 |[],k,p,_=>rfl
 |x::l,k,p,vss=>by simp only[dg];rw[jf l,gj]
theorem ib {p q:List (List Int)}(h:p.map List.length=q.map List.length)(j:Nat):(p.getD j []).length=(q.getD j []).length:=by
 have:=congrArg (fun l=>l[j]?) h
 simp only[List.getElem?_map] at this
 rw[List.getD_eq_getElem?_getD,List.getD_eq_getElem?_getD]
 cases h1:p[j]?<;>cases h2:q[j]?<;>rw[h1,h2] at this<;>simp at this⊢
 exact this
theorem je {p q:List (List Int)}(h:p.map List.length=q.map List.length){j:Nat}{x:List Int}(hx:q[j]?=some x):∃y,p[j]?=some y∧y.length=x.length:=by
 have:=congrArg (fun l=>l[j]?) h
 simp only[List.getElem?_map,hx] at this
 cases h1:p[j]?<;>rw[h1] at this<;>simp at this
 exact⟨_,rfl,this⟩
theorem eS {p:List (List Int)}{j:Nat}{x:List Int}(hx:p[j]?=some x):(p.getD j []).length=x.length:=by
 rw[List.getD_eq_getElem?_getD,hx]
 rfl
def cV (g:List Vtx):Nat:=(g.map fun v=>3+v.parents.length).sum
def cG (gs:List (List Vtx)):Nat:=(gs.map cV).sum
def cP (ps:List Ppl):Nat:=(ps.map fun p=>3+p.v.parents.length+p.members.length).sum
theorem li {q:List (List Int)}:∀{vs:List VtxO} {g:List Vtx} (k:Int) (p:List (List Int)),p.map List.length=q.map List.length→VsR q vs g→(d5 vs k p).1=k+cV g
 |[],[],k,p,_,_=>by simp[d5,cV]
 |x::l,v::g,k,p,hp,h=>by
  obtain⟨⟨j,rfl,h1⟩,h2⟩:=h
  simp only[d5,Option.getD_some]
  rw[li _ _ (by rw[dL,hp]) h2,ib hp,eS h1]
  simp only[cV,List.map_cons,List.sum_cons]
  omega
theorem pc {q:List (List Int)}:∀{vs:List PplO} {g:List Ppl} (k:Int) (p:List (List Int)),p.map List.length=q.map List.length→PsR q vs g→(f5 vs k p).1=k+cP g
 |[],[],k,p,_,_=>by simp[f5,cP]
 |x::l,v::g,k,p,hp,h=>by
  obtain⟨⟨j,i,rfl,h1,h3⟩,h2⟩:=h
  simp only[f5,Option.getD_some]
  rw[pc _ _ (by rw[dL,dL,hp]) h2,ib (dL _ _ _),ib hp,ib hp,eS h1,eS h3]
  simp only[cP,List.map_cons,List.sum_cons]
  omega
theorem Cl (g:List Vtx):g.length≤cV g:=o5 _ (fun v=>by omega) g
theorem Ck (g:List Ppl):g.length≤cP g:=o5 _ (fun v=>by omega) g
def hV (vs:List VtxO):List Nat:=vs.map fun x=>x.parents.getD 0
def AL:Int→List Vtx→List Vtx
 |_,[]=>[]
 |k,v::g=>⟨k,k+1,mk (k+2) v.parents.length,k+2+v.parents.length⟩::AL (k+3+v.parents.length) g
theorem ma:∀(l:List VtxO) (k:Int) (p:List (List Int)),hV (d5 l k p).2.2=hV l
 |[],k,p=>rfl
 |x::l,k,p=>by
  have:=ma l (k+3+(p.getD (x.parents.getD 0) []).length) (p.set (x.parents.getD 0) (mk (k+2) (p.getD (x.parents.getD 0) []).length))
  simp only[d5,hV,List.map_cons] at this⊢
  rw[this]
theorem lk {j:Nat}:∀(l:List VtxO) (k:Int) (p:List (List Int)),j∉hV l→(d5 l k p).2.1[j]?=p[j]?
 |[],k,p,_=>rfl
 |x::l,k,p,h=>by
  simp only[hV,List.map_cons,List.mem_cons,not_or] at h
  simp only[d5]
  rw[lk l _ _ h.2,List.getElem?_set_ne (fun e=>h.1 e.symm)]
theorem rc:∀{vs:List VtxO} {g:List Vtx} (k:Int) (p:List (List Int)),VsR p vs g→(hV vs).Nodup→VsR (d5 vs k p).2.1 (d5 vs k p).2.2 (AL k g)
 |[],[],k,p,_,_=>trivial
 |x::l,v::g,k,p,h,hn=>by
  obtain⟨⟨j,rfl,h1⟩,h2⟩:=h
  simp only[hV,List.map_cons,List.nodup_cons,Option.getD_some] at hn
  have hl:=eS h1
  simp only[d5,AL,Option.getD_some,hl]
  refine⟨⟨j,rfl,?_⟩,?_⟩
  ·rw[lk l _ _ hn.1,List.getElem?_set_self (List.getElem?_eq_some_iff.1 h1).1]
  ·exact rc _ _ (h2.mono fun y hy i hi=>List.getElem?_set_ne (fun e=>hn.1 (by subst e;exact List.mem_map.2 ⟨y,hy,by rw[hi];rfl⟩))) hn.2
def hG (vss:List (List VtxO))(hs:List (Option Nat)):List Nat:=hs.flatMap fun x=>hV (vss.getD (x.getD 0) [])
def yo:Int→List (List Vtx)→List (List Vtx)
 |_,[]=>[]
 |k,g::l=>AL k g::yo (k+cV g) l
theorem sL {vss:List (List VtxO)}{j:Nat}{vs:List VtxO}(hv:hV vs=hV (vss.getD j []))(hs:List (Option Nat)):hG (vss.set j vs) hs=hG vss hs:=by
 unfold hG
 congr 1
 funext x
 rw[List.getD_eq_getElem?_getD,List.getElem?_set]
 split
 ·rename_i e
  subst e
  split
  ·rw[Option.getD_some,hv]
  ·rename_i hl
   rw[List.getD_eq_getElem?_getD,List.getElem?_eq_none (by omega)]
 ·rw[List.getD_eq_getElem?_getD]
theorem mn {j:Nat}:∀(hs:List (Option Nat)) (k:Int) (p:List (List Int)) (vss:List (List VtxO)),j∉hs.map (·.getD 0)→(dg hs k p vss).2.2[j]?=vss[j]?
 |[],k,p,vss,_=>rfl
 |x::l,k,p,vss,h=>by
  simp only[List.map_cons,List.mem_cons,not_or] at h
  simp only[dg]
  rw[mn l _ _ _ h.2,List.getElem?_set_ne (fun e=>h.1 e.symm)]
theorem pb {j:Nat}:∀(hs:List (Option Nat)) (k:Int) (p:List (List Int)) (vss:List (List VtxO)),j∉hG vss hs→(dg hs k p vss).2.1[j]?=p[j]?
 |[],k,p,vss,_=>rfl
 |x::l,k,p,vss,h=>by
  have h':j∉hV (vss.getD (x.getD 0) [])∧j∉hG vss l:=by simpa[hG,not_or] using h
  simp only[dg]
  rw[pb l _ _ _ (by rw[sL (ma _ _ _)];exact h'.2),lk _ _ _ h'.1]
theorem GsR.mono {p p':List (List Int)}{vss vss':List (List VtxO)}:∀{hs:List (Option Nat)} {gs:List (List Vtx)},(∀x∈hs,vss'[x.getD 0]?=vss[x.getD 0]?)→(∀j∈hG vss hs,p'[j]?=p[j]?)→GsR p vss hs gs→GsR p' vss' hs gs
 |[],[],_,_,_=>trivial
 |x::l,g::gs,h,hp,⟨⟨i,vs,hx,h1,h3⟩,h2⟩=>by
  subst hx
  have e:vss.getD ((some i).getD 0) []=vs:=by rw[List.getD_eq_getElem?_getD];show (vss[i]?).getD []=vs;rw[h1];rfl
  refine⟨⟨i,vs,rfl,by rw[show vss'[i]?=vss[i]? from h (some i) (by simp)];exact h1,h3.mono fun y hy j hj=>hp j ?_⟩,GsR.mono (fun y hy=>h y (by simp[hy])) (fun j hj=>hp j ?_) h2⟩
  ·refine List.mem_flatMap.2 ⟨some i,by simp,?_⟩
   rw[e]
   exact List.mem_map.2 ⟨y,hy,by rw[hj];rfl⟩
  ·obtain⟨y,hy,hj⟩:=List.mem_flatMap.1 hj
   exact List.mem_flatMap.2 ⟨y,by simp[hy],hj⟩
theorem o9 {q:List (List Int)}:∀{hs:List (Option Nat)} {gs:List (List Vtx)} (k:Int) (p:List (List Int)) (vss:List (List VtxO)),p.map List.length=q.map List.length→(hs.map (·.getD 0)).Nodup→GsR q vss hs gs→(dg hs k p vss).1=k+cG gs
 |[],[],k,p,vss,_,_,_=>by simp[dg,cG]
 |x::l,g::gs,k,p,vss,hp,hn,⟨⟨i,vs,hx,h1,h3⟩,h2⟩=>by
  subst hx
  simp only[List.map_cons,List.nodup_cons,Option.getD_some] at hn
  have e:vss.getD i []=vs:=by rw[List.getD_eq_getElem?_getD,h1];rfl
  simp only[dg,Option.getD_some,e]
  rw[o9 (q:=q) (gs:=gs) _ _ _ (by rw[gj,hp]) hn.2 (h2.mono (fun y hy=>List.getElem?_set_ne (fun e=>hn.1 (List.mem_map.2 ⟨y,hy,e.symm⟩))) (fun _ _=>rfl)),li _ _ hp h3]
  simp only[cG,List.map_cons,List.sum_cons]
  omega
theorem q8:∀{hs:List (Option Nat)} {gs:List (List Vtx)} (k:Int) (p:List (List Int)) (vss:List (List VtxO)),GsR p vss hs gs→(hs.map (·.getD 0)).Nodup→(hG vss hs).Nodup→GsR (dg hs k p vss).2.1 (dg hs k p vss).2.2 hs (yo k gs)
 |[],[],k,p,vss,_,_,_=>trivial
 |x::l,g::gs,k,p,vss,⟨⟨i,vs,hx,h1,h3⟩,h2⟩,hn,hm=>by
  subst hx
  simp only[List.map_cons,List.nodup_cons,Option.getD_some] at hn
  have e:vss.getD i []=vs:=by rw[List.getD_eq_getElem?_getD,h1];rfl
  have hm':(hV vs++hG vss l).Nodup:=by
   have:hG vss (some i::l)=hV (vss.getD i [])++hG vss l:=rfl
   rw[e] at this
   rwa [this] at hm
  obtain⟨m1,m2,m3⟩:=List.nodup_append.1 hm'
  have hi:i<vss.length:=(List.getElem?_eq_some_iff.1 h1).1
  have hg:hG (vss.set i (d5 vs k p).2.2) l=hG vss l:=sL (by rw[ma,e]) l
  have hc:=li k p rfl h3
  simp only[dg,yo,Option.getD_some,e,hc]
  refine⟨⟨i,(d5 vs k p).2.2,rfl,?_,?_⟩,?_⟩
  ·rw[mn l _ _ _ hn.1,List.getElem?_set_self hi]
  ·refine(rc k p h3 m1).mono fun y hy j hj=>pb l _ _ _ ?_
   rw[hg]
   intro hjl
   have hjv:j∈hV vs:=by rw[←ma vs k p];exact List.mem_map.2 ⟨y,hy,by rw[hj];rfl⟩
   exact m3 j hjv j hjl rfl
  ·refine q8 _ _ _ (h2.mono (fun y hy=>List.getElem?_set_ne (fun e=>hn.1 (List.mem_map.2 ⟨y,hy,e.symm⟩))) fun j hj=>lk _ _ _ fun hjv=>m3 j hjv j hj rfl) hn.2 ?_
   rw[hg]
   exact m2
def hP (ps:List PplO):List Nat:=ps.flatMap fun x=>[x.v.parents.getD 0,x.members.getD 0]
def AK:Int→List Ppl→List Ppl
 |_,[]=>[]
 |k,p::l=>⟨⟨k,k+1,mk (k+2) p.v.parents.length,k+2+p.v.parents.length⟩,mk (k+3+p.v.parents.length) p.members.length⟩::AK (k+3+p.v.parents.length+p.members.length) l
theorem PsR.mono {pss pss':List (List Int)}:∀{vs:List PplO} {g:List Ppl},(∀j∈hP vs,pss'[j]?=pss[j]?)→PsR pss vs g→PsR pss' vs g
 |[],[],_,_=>trivial
 |x::l,v::g,h,⟨⟨j,k,hx,h1,h3⟩,h2⟩=>by
  subst hx
  exact⟨⟨j,k,rfl,by rw[h j (by simp[hP])];exact h1,by rw[h k (by simp[hP])];exact h3⟩,PsR.mono (fun y hy=>h y (by simp only[hP,List.flatMap_cons,List.mem_append];exact .inr hy)) h2⟩
theorem lg {j:Nat}:∀(l:List PplO) (k:Int) (p:List (List Int)),j∉hP l→(f5 l k p).2.1[j]?=p[j]?
 |[],k,p,_=>rfl
 |x::l,k,p,h=>by
  simp only[hP,List.flatMap_cons,List.mem_append,List.mem_cons,List.not_mem_nil,or_false,not_or] at h
  simp only[f5]
  rw[lg l _ _ h.2,List.getElem?_set_ne (fun e=>h.1.2 e.symm),List.getElem?_set_ne (fun e=>h.1.1 e.symm)]
theorem ra:∀{vs:List PplO} {g:List Ppl} (k:Int) (p:List (List Int)),PsR p vs g→(hP vs).Nodup→PsR (f5 vs k p).2.1 (f5 vs k p).2.2 (AK k g)
 |[],[],k,p,_,_=>trivial
 |x::l,v::g,k,p,h,hn=>by
  obtain⟨⟨j,i,rfl,h1,h3⟩,h2⟩:=h
  simp only[hP,List.flatMap_cons,Option.getD_some] at hn
  obtain⟨n1,n2,n3⟩:=List.nodup_append.1 hn
  have hij:j≠i:=by simpa using n1
  have hl:=eS h1
  have hjl:=(List.getElem?_eq_some_iff.1 h1).1
  have hil:=(List.getElem?_eq_some_iff.1 h3).1
  have hl3:((p.set j (mk (k+2) v.v.parents.length)).getD i []).length=v.members.length:=eS (by rw[List.getElem?_set_ne hij];exact h3)
  have j1:j∉hP l:=fun hj=>n3 j (by simp) j hj rfl
  have i1:i∉hP l:=fun hj=>n3 i (by simp) i hj rfl
  simp only[f5,AK,Option.getD_some,hl,hl3]
  refine⟨⟨j,i,rfl,?_,?_⟩,?_⟩
  ·rw[lg l _ _ j1,List.getElem?_set_ne (fun e=>hij e.symm),List.getElem?_set_self hjl]
  ·rw[lg l _ _ i1,List.getElem?_set_self (by rw[List.length_set];exact hil)]
  ·refine ra _ _ (h2.mono fun y hy=>?_) n2
   rw[List.getElem?_set_ne (fun e=>i1 (by rw[e];exact hy)),List.getElem?_set_ne (fun e=>j1 (by rw[e];exact hy))]
theorem lj:∀(l:List VtxO) (k:Int) (p:List (List Int)),(d5 l k p).2.2.length=l.length
 |[],k,p=>rfl
 |x::l,k,p=>by simp only[d5,List.length_cons];rw[lj l]
theorem le:∀(l:List PplO) (k:Int) (p:List (List Int)),(f5 l k p).2.2.length=l.length
 |[],k,p=>rfl
 |x::l,k,p=>by simp only[f5,List.length_cons];rw[le l]
theorem VsR.take {pss:List (List Int)}:∀{vs:List VtxO} {g:List Vtx} (i:Nat),VsR pss vs g→VsR pss (vs.take i) (g.take i)
 |[],[],i,_=>by simp[VsR]
 |x::l,v::g,0,_=>trivial
 |x::l,v::g,i+1,h=>⟨h.1,VsR.take i h.2⟩
theorem PsR.take {pss:List (List Int)}:∀{vs:List PplO} {g:List Ppl} (i:Nat),PsR pss vs g→PsR pss (vs.take i) (g.take i)
 |[],[],i,_=>by simp[PsR]
 |x::l,v::g,0,_=>trivial
 |x::l,v::g,i+1,h=>⟨h.1,PsR.take i h.2⟩
theorem GsR.take {pss:List (List Int)}{vss:List (List VtxO)}:∀{vs:List (Option Nat)} {g:List (List Vtx)} (i:Nat),GsR pss vss vs g→GsR pss vss (vs.take i) (g.take i)
 |[],[],i,_=>by simp[GsR]
 |x::l,v::g,0,_=>trivial
 |x::l,v::g,i+1,h=>⟨h.1,GsR.take i h.2⟩
theorem pf {α:Type}(c a:List α){i:Nat}(hc:c.length=i):(c++a.drop i)[i]?=a[i]?:=by
 rw[List.getElem?_append_right (by omega),hc,Nat.sub_self,List.getElem?_drop,Nat.add_zero]
theorem my {α:Type}(c a:List α)(x:α){i:Nat}(hc:c.length=i)(hi:i<a.length):(c++a.drop i).set i x=(c++[x])++a.drop (i+1):=by
 rw[List.set_append_right _ _ (by omega),hc,Nat.sub_self,List.drop_eq_getElem_cons hi]
 simp only[List.set_cons_zero,List.append_assoc,List.singleton_append]
theorem dz {α:Type}{l:List α}{i:Nat}{x:α}(h:l[i]?=some x):l.take (i+1)=l.take i++[x]:=by
 obtain⟨hl,rfl⟩:=List.getElem?_eq_some_iff.1 h
 exact List.take_succ_eq_append_getElem hl
theorem zT {g:List Vtx}{i:Nat}{v:Vtx}(h:g[i]?=some v):cV (g.take (i+1))=cV (g.take i)+(3+v.parents.length):=by simp[cV,dz h]
theorem zS {g:List Ppl}{i:Nat}{v:Ppl}(h:g[i]?=some v):cP (g.take (i+1))=cP (g.take i)+(3+v.v.parents.length+v.members.length):=by simp[cP,dz h]
theorem zR {g:List (List Vtx)}{i:Nat}{v:List Vtx}(h:g[i]?=some v):cG (g.take (i+1))=cG (g.take i)+cV v:=by simp[cG,dz h]
theorem tx {α:Type}(f:α→Nat)(l:List α)(i:Nat):((l.take i).map f).sum≤(l.map f).sum:=by
 conv=>rhs;rw[←List.take_append_drop i l,List.map_append,List.sum_append]
 omega
theorem Ei (g:List Vtx)(i:Nat):cV (g.take i)≤cV g:=tx _ g i
theorem Eh (g:List Ppl)(i:Nat):cP (g.take i)≤cP g:=tx _ g i
theorem Ef (g:List (List Vtx))(i:Nat):cG (g.take i)≤cG g:=tx _ g i
theorem yu {pss:List (List Int)}{vs:List VtxO}{g:List Vtx}{k:Int}{i:Nat}{v:Vtx}(hr:VsR pss vs g)(hv:g[i]?=some v){r:Int×List (List Int)×List VtxO}(hr0:d5 (vs.take i) k pss=r):
  ∃j y,(r.2.2++vs.drop i)[i]?=some ⟨v.round,v.author,some j,v.digest⟩∧r.2.1[j]?=some y∧y.length=v.parents.length∧r.1=k+cV (g.take i)∧i<(r.2.2++vs.drop i).length∧
   (d5 (vs.take (i+1)) k pss).1=r.1+3+y.length∧(d5 (vs.take (i+1)) k pss).2.1=r.2.1.set j (mk (r.1+2) y.length)∧(d5 (vs.take (i+1)) k pss).2.2++vs.drop (i+1)=(r.2.2++vs.drop i).set i ⟨r.1,r.1+1,some j,r.1+2+y.length⟩:=by
 obtain⟨j,h1,h2⟩:=hr.get hv
 have hil:i<vs.length:=(List.getElem?_eq_some_iff.1 h1).1
 have hlen:r.2.2.length=i:=by rw[←hr0,lj,List.length_take];omega
 obtain⟨y,h3,h4⟩:=je (p:=r.2.1) (q:=pss) (by rw[←hr0,gj]) h2
 have hs:=rd ⟨v.round,v.author,some j,v.digest⟩ (vs.take i) k pss
 rw[←dz h1,hr0] at hs
 simp only[Option.getD_some,eS h3] at hs
 refine⟨j,y,by rw[pf _ _ hlen,h1],h3,h4,by rw[←hr0,li k pss rfl (hr.take i)],by simp;omega,?_⟩
 rw[hs,my _ _ _ hlen hil]
 exact⟨rfl,rfl,rfl⟩
theorem yt {pss:List (List Int)}{vs:List PplO}{g:List Ppl}{k:Int}{i:Nat}{v:Ppl}(hr:PsR pss vs g)(hv:g[i]?=some v){r:Int×List (List Int)×List PplO}(hr0:f5 (vs.take i) k pss=r):
  ∃j y j2 y2,(r.2.2++vs.drop i)[i]?=some ⟨⟨v.v.round,v.v.author,some j,v.v.digest⟩,some j2⟩∧r.2.1[j]?=some y∧(r.2.1.set j (mk (r.1+2) y.length))[j2]?=some y2∧y.length=v.v.parents.length∧y2.length=v.members.length∧r.1=k+cP (g.take i)∧i<(r.2.2++vs.drop i).length∧
   (f5 (vs.take (i+1)) k pss).1=r.1+3+y.length+y2.length∧(f5 (vs.take (i+1)) k pss).2.1=(r.2.1.set j (mk (r.1+2) y.length)).set j2 (mk (r.1+3+y.length) y2.length)∧(f5 (vs.take (i+1)) k pss).2.2++vs.drop (i+1)=(r.2.2++vs.drop i).set i ⟨⟨r.1,r.1+1,some j,r.1+2+y.length⟩,some j2⟩:=by
 obtain⟨j,j2,h1,h2,h5⟩:=hr.get hv
 have hil:i<vs.length:=(List.getElem?_eq_some_iff.1 h1).1
 have hlen:r.2.2.length=i:=by rw[←hr0,le,List.length_take];omega
 obtain⟨y,h3,h4⟩:=je (p:=r.2.1) (q:=pss) (by rw[←hr0,gh]) h2
 have hl3:(r.2.1.set j (mk (r.1+2) y.length)).map List.length=pss.map List.length:=by
  have:=dL r.2.1 j (r.1+2)
  rw[eS h3] at this
  rw[this,←hr0,gh]
 obtain⟨y2,h6,h7⟩:=je hl3 h5
 have hs:=rb ⟨⟨v.v.round,v.v.author,some j,v.v.digest⟩,some j2⟩ (vs.take i) k pss
 rw[←dz h1,hr0] at hs
 simp only[Option.getD_some,eS h3,eS h6] at hs
 refine⟨j,y,j2,y2,by rw[pf _ _ hlen,h1],h3,h6,h4,h7,by rw[←hr0,pc k pss rfl (hr.take i)],by simp;omega,?_⟩
 rw[hs,my _ _ _ hlen hil]
 exact⟨rfl,rfl,rfl⟩
theorem yn {pss:List (List Int)}{vss:List (List VtxO)}{hs:List (Option Nat)}{gs:List (List Vtx)}{k:Int}{i:Nat}{g:List Vtx}(hr:GsR pss vss hs gs)(hn:(hs.map (·.getD 0)).Nodup)(hv:gs[i]?=some g){r:Int×List (List Int)×List (List VtxO)}(hr0:dg (hs.take i) k pss vss=r):
  ∃j vs g',hs[i]?=some (some j)∧r.2.2[j]?=some vs∧VsR r.2.1 vs g'∧cV g'=cV g∧r.1=k+cG (gs.take i)∧
   (dg (hs.take (i+1)) k pss vss).1=(d5 vs r.1 r.2.1).1∧(dg (hs.take (i+1)) k pss vss).2.1=(d5 vs r.1 r.2.1).2.1∧(dg (hs.take (i+1)) k pss vss).2.2=r.2.2.set j (d5 vs r.1 r.2.1).2.2:=by
 obtain⟨j,vs,h1,h2,h3⟩:=hr.get hv
 have hil:i<hs.length:=(List.getElem?_eq_some_iff.1 h1).1
 have hj:j∉(hs.take i).map (·.getD 0):=by
  intro hm
  obtain⟨a,ha⟩:=List.getElem?_of_mem hm
  rw[List.getElem?_map,List.getElem?_take] at ha
  have h1':(hs.map (·.getD 0))[i]?=some j:=by rw[List.getElem?_map,h1];rfl
  split at ha
  ·rename_i hai
   have h2':(hs.map (·.getD 0))[a]?=some j:=by rw[List.getElem?_map];exact ha
   have e:=(List.getElem?_inj (by rw[List.length_map];omega) hn).1 (h2'.trans h1'.symm)
   omega
  ·cases ha
 have hs':=q9 (some j) (hs.take i) k pss vss
 rw[←dz h1,hr0] at hs'
 have hvs:r.2.2[j]?=some vs:=by rw[←hr0,mn _ _ _ _ hj,h2]
 have hgd:r.2.2.getD j []=vs:=by rw[List.getD_eq_getElem?_getD,hvs];rfl
 simp only[Option.getD_some,hgd] at hs'
 obtain⟨g',h4,h5⟩:∃g',VsR r.2.1 vs g'∧cV g'=cV g:=by
  have hl:r.2.1.map List.length=pss.map List.length:=by rw[←hr0,jf]
  have key:∀{vs:List VtxO} {g:List Vtx},VsR pss vs g→∃g',VsR r.2.1 vs g'∧cV g'=cV g:=by
   intro vs
   induction vs with
   |nil=>intro g h;cases g with|nil=>exact⟨[],trivial,rfl⟩|cons=>exact h.elim
   |cons x l ih=>
    intro g h
    cases g with
    |nil=>exact h.elim
    |cons v g=>
     obtain⟨⟨a,rfl,ha⟩,hb⟩:=h
     obtain⟨g',q1,q2⟩:=ih hb
     obtain⟨y,q3,q4⟩:=je hl ha
     refine⟨⟨v.round,v.author,y,v.digest⟩::g',⟨⟨a,rfl,q3⟩,q1⟩,?_⟩
     simp only[cV,List.map_cons,List.sum_cons] at q2⊢
     rw[q2,q4]
  exact key h3
 refine⟨j,vs,g',h1,hvs,h4,h5,?_,?_⟩
 ·rw[←hr0,o9 (q:=pss) k pss vss rfl ?_ (hr.take i)]
  rw[List.map_take]
  exact hn.sublist (List.take_sublist _ _)
 ·rw[hs']
  exact⟨rfl,rfl,rfl⟩
theorem xR:∀(g:List Vtx) (n:Nat),hV (kQ n g)=List.range' n g.length
 |[],n=>rfl
 |v::g,n=>by
  have:=xR g (n+1)
  simp only[zz,hV,List.map_cons,List.length_cons,List.range'_succ] at this⊢
  rw[this]
  rfl
theorem xQ {vss:List (List VtxO)}:∀(gs:List (List Vtx)) (n m:Nat),(∀i x,(mY n gs)[i]?=some x→vss[m+i]?=some x)→hG vss ((List.range' m gs.length).map some)=List.range' n (cI gs).length
 |[],n,m,_=>rfl
 |g::gs,n,m,h=>by
  have:=xQ gs (n+g.length) (m+1) fun i x hx=>by
   rw[Nat.add_assoc,Nat.add_comm 1 i]
   exact h (i+1) x hx
  have h0:vss.getD m []=kQ n g:=by rw[List.getD_eq_getElem?_getD,show vss[m]?=some (kQ n g) by simpa using h 0 _ rfl];rfl
  have e:hG vss ((List.range' m (g::gs).length).map some)=hV (vss.getD m [])++hG vss ((List.range' (m+1) gs.length).map some):=rfl
  have e2:(cI (g::gs)).length=g.length+(cI gs).length:=by simp[cI]
  rw[e,this,h0,xR,e2,List.range'_append_1]
theorem sM:∀(ps:List Ppl) (n:Nat),hP (lr n ps)=List.range' n (2*ps.length)
 |[],n=>rfl
 |p::ps,n=>by
  have:=sM ps (n+2)
  have e:hP (lr n (p::ps))=n::(n+1)::hP (lr (n+2) ps):=rfl
  rw[e,this,List.length_cons,show 2*(ps.length+1)=2*ps.length+1+1 by omega,List.range'_succ,List.range'_succ]
structure WO (vss:List (List VtxO))(pss:List (List Int))(hs:List (Option Nat))(ps:List PplO)(gs:List (List Vtx))(qs:List Ppl):Prop where
 g:GsR pss vss hs gs
 p:PsR pss ps qs
 hn:(hs.map (·.getD 0)).Nodup
 gn:(hG vss hs).Nodup
 pn:(hP ps).Nodup
 d:∀j∈hP ps,j∉hG vss hs
theorem vb (gs:List (List Vtx))(qs:List Ppl):WO (mY 0 gs) (cI gs++eD qs) ((List.range gs.length).map some) (lr (cI gs).length qs) gs qs:=by
 have h0:hG (mY 0 gs) ((List.range' 0 gs.length).map some)=List.range' 0 (cI gs).length:=xQ gs 0 0 fun i x hx=>by rw[Nat.zero_add];exact hx
 have hr:List.range gs.length=List.range' 0 gs.length:=List.range_eq_range' ..
 refine⟨?_,A1 fun i x hx=>tM _ _ hx,?_,?_,by rw[sM];exact List.nodup_range' ..,fun j hj hj2=>?_⟩
 ·rw[hr]
  exact Al (n:=0) (fun i x hx=>by rw[Nat.zero_add];exact pX _ _ hx) (fun i x hx=>by rw[Nat.zero_add];exact hx)
 ·rw[List.map_map]
  have:((fun x:Option Nat=>x.getD 0)∘some)=id:=rfl
  rw[this,List.map_id]
  exact List.nodup_range
 ·rw[hr,h0]
  exact List.nodup_range' ..
 ·rw[hr,h0] at hj2
  rw[sM] at hj
  have h1:=List.mem_range'_1.1 hj
  have h2:=List.mem_range'_1.1 hj2
  omega
theorem WO.readG {vss:List (List VtxO)}{pss:List (List Int)}{hs:List (Option Nat)}{ps:List PplO}{gs:List (List Vtx)}{qs:List Ppl}(h:WO vss pss hs ps gs qs):(xh pss vss hs)[0]?=some gs:=by rw[xh,h.g.read];rfl
theorem WO.readP {vss:List (List VtxO)}{pss:List (List Int)}{hs:List (Option Nat)}{ps:List PplO}{gs:List (List Vtx)}{qs:List Ppl}(h:WO vss pss hs ps gs qs):(xi pss pss ps)[0]?=some qs:=by rw[xi,h.p.read];rfl
theorem WO.mark {vss:List (List VtxO)}{pss:List (List Int)}{hs:List (Option Nat)}{ps:List PplO}{gs:List (List Vtx)}{qs:List Ppl}(h:WO vss pss hs ps gs qs)(k:Int):
  let r:=dg hs k pss vss;let s:=f5 ps r.1 r.2.1
  PsR r.2.1 ps qs∧r.1=k+cG gs∧s.1=k+cG gs+cP qs∧(xh s.2.1 r.2.2 hs)[0]?=some (yo k gs)∧(xi s.2.1 s.2.1 s.2.2)[0]?=some (AK (k+cG gs) qs):=by
 have h1:PsR (dg hs k pss vss).2.1 ps qs:=h.p.mono fun j hj=>pb hs k pss vss (h.d j hj)
 have h2:(dg hs k pss vss).1=k+cG gs:=o9 k pss vss rfl h.hn h.g
 have h3:=pc (dg hs k pss vss).1 (dg hs k pss vss).2.1 rfl h1
 have h4:=q8 k pss vss h.g h.hn h.gn
 have h5:=ra (dg hs k pss vss).1 (dg hs k pss vss).2.1 h1 h.pn
 have hgg:∀j∈hG (dg hs k pss vss).2.2 hs,j∈hG vss hs:=by
  have key:∀(hs hs':List (Option Nat)) (k:Int) (pss:List (List Int)) (vss:List (List VtxO)),hG (dg hs k pss vss).2.2 hs'=hG vss hs':=by
   intro hs
   induction hs with
   |nil=>intro hs' k pss vss;rfl
   |cons x l ih=>intro hs' k pss vss;simp only[dg];rw[ih,sL (ma _ _ _)]
  intro j hj
  rwa [key] at hj
 refine⟨h1,h2,by rw[h3,h2],?_,?_⟩
 ·have:GsR (f5 ps (dg hs k pss vss).1 (dg hs k pss vss).2.1).2.1 (dg hs k pss vss).2.2 hs (yo k gs):=h4.mono (fun _ _=>rfl) fun j hj=>lg ps _ _ fun hj2=>h.d j hj2 (hgg j hj)
  rw[xh,this.read]
  rfl
 ·rw[xi,h5.read,h2]
  rfl
end Go.Proofs.YthmfppknagbkeaaGreatDoor.Am
namespace Go.Proofs.YthmfppknagbkeaaGreatDoor.Am
open Go
attribute [local irreducible] Mk ba Ari di jQ f4 bh bV eY d6 At aj
set_option maxRecDepth 10000
theorem kl {α:Type}{f:α→Nat}{l:List α}{i:Nat}{x:α}(h:l[i]?=some x):((l.take (i+1)).map f).sum=((l.take i).map f).sum+f x:=by
 obtain⟨hl,rfl⟩:=List.getElem?_eq_some_iff.1 h
 rw[List.take_succ_eq_append_getElem hl,List.map_append,List.sum_append]
 simp
theorem pz {α:Type}(f:α→Nat)(l:List α)(i:Nat):((l.take i).map f).sum≤(l.map f).sum:=by
 conv=>rhs;rw[←List.take_append_drop i l,List.map_append,List.sum_append]
 omega
theorem uZ {α:Type}{f:α→Nat}{l:List α}{x:α}(h:x∈l):f x≤(l.map f).sum:=by
 obtain⟨i,hi⟩:=List.getElem?_of_mem h
 have h1:=kl (f:=f) hi
 have h2:=pz f l (i+1)
 omega
def sK (g:List Vtx):Nat:=g.length+dN g
def mZ (gs:List (List Vtx)):Nat:=(gs.map sK).sum
def nh (p:Ppl):Nat:=p.v.parents.length+p.members.length
def nS (ps:List Ppl):Nat:=(ps.map nh).sum
def Cd (w:Wrl):Nat:=w.com.length+w.lead.length+(w.views.length+mZ w.views)+(w.props.length+nS w.props)
theorem pD (gs:List (List Vtx))(l:Int)(hl:0≤l∧l≤1048576):aj Tryz.prog 37 [.lst (.lst .vtx) gs,.int .i64 l] [] (.int .i64 (ld l (gs.length+mZ gs))) []:=by
 refine ab ak Tryz.func37 rfl rfl false 0 4 rfl rfl rfl rfl fun K hK hb1 hb2=>?_;simp only[af,enc,Nat.reduceAdd]
 simp[ae,V.toD,bnd,aa,D.cells] at hb1
 have hno:l-gs.length-mZ gs<0→V.int .i64 (-1)=V.int .i64 (ld l (gs.length+mZ gs))∧([]:VH)=[]:=fun h=>⟨by rw[ld,if_pos (by omega)],rfl⟩
 by_cases h0:l-gs.length<0
 ·(repeat' first|refine st ?_|refine sa fun xe hxe=>?_|refine sb (fun hq=>?_) fun hq=>?_|exact True.intro)
  exact hno (by omega)
 (repeat' first|refine st ?_|refine sa fun xe hxe=>?_|refine sb (fun hq=>?_) fun hq=>?_|exact True.intro)
 refine ah hK [] [0,1,5] (fun i:Nat=>⟨[(0,.lst (.lst .vtx) gs),(1,.int .i64 (l-gs.length-mZ (gs.take i))),(5,.int .i64 i)],[],4⟩) (fun i=>i≤gs.length∧0≤l-gs.length-mZ (gs.take i)) (fun i=>gs.length-i) 0 ⟨by simp,by simp[mZ];omega⟩ (by simp[mZ];rfl) ?_
 rintro i ⟨hi,hp⟩
 by_cases hlt:i<gs.length
 ·have hxe:gs[i]?=some gs[i]:=List.getElem?_eq_getElem hlt
  have h3:mZ (gs.take (i+1))=mZ (gs.take i)+sK gs[i]:=kl hxe
  have h4:mZ (gs.take (i+1))≤mZ gs:=pz _ gs (i+1)
  generalize gs[i]=g at *
  have hc:=rK g (l-gs.length-mZ (gs.take i)) (by omega)
  unfold ld at hc
  unfold sK at h3
  by_cases h5:l-gs.length-mZ (gs.take i)-(g.length+dN g:Nat)<0
  ·rw[if_pos h5] at hc
   (repeat' first|refine st ?_|refine sa fun xe hxe=>?_|refine sb (fun hq=>?_) fun hq=>?_|refine cr (hc) ?_|exact True.intro)
   exact hno (by omega)
  ·rw[if_neg h5] at hc
   (repeat' first|refine st ?_|refine sa fun xe hxe=>?_|refine sb (fun hq=>?_) fun hq=>?_|refine cr (hc) ?_|exact True.intro)
   refine⟨i+1,by omega,by omega,?_⟩
   rw[h3,show l-(gs.length:Int)-((mZ (gs.take i)+(g.length+dN g):Nat):Int)=l-gs.length-mZ (gs.take i)-(g.length+dN g:Nat) by omega]
   rfl
 ·rw[List.take_of_length_le (by omega)] at *
  (repeat' first|refine st ?_|refine sa fun xe hxe=>?_|refine sb (fun hq=>?_) fun hq=>?_|exact True.intro)
  exact⟨by rw[ld,if_neg (by omega)];congr 1;omega,rfl⟩
theorem pC (p:Ppl)(l:Int)(hl:0≤l∧l≤1048576):aj Tryz.prog 83 [iv p,.int .i64 l] [] (.int .i64 (ld l (nh p))) []:=by
 have hc:=mM p.v l hl
 unfold nh
 refine ab ak Tryz.func83 rfl rfl false 0 4 rfl rfl rfl rfl fun K hK hb1 hb2=>?_;simp only[af,enc,Nat.reduceAdd]
 clear hb1 hb2
 unfold ld at hc⊢
 by_cases h:l-p.v.parents.length<0
 ·rw[if_pos h] at hc
  (repeat' first|refine st ?_|refine sa fun xe hxe=>?_|refine sb (fun hq=>?_) fun hq=>?_|refine cr (hc) ?_|exact True.intro)
  exact⟨by rw[if_pos (by omega)],rfl⟩
 ·rw[if_neg h] at hc
  have hd:=jz p.members (l-p.v.parents.length) (by omega)
  by_cases h2:l-p.v.parents.length-p.members.length<0
  ·rw[if_pos h2] at hd
   (repeat' first|refine st ?_|refine sa fun xe hxe=>?_|refine sb (fun hq=>?_) fun hq=>?_|refine cr (hc) ?_|refine cr (hd) ?_|exact True.intro)
   exact⟨by rw[if_pos (by omega)],rfl⟩
  ·rw[if_neg h2] at hd
   (repeat' first|refine st ?_|refine sa fun xe hxe=>?_|refine sb (fun hq=>?_) fun hq=>?_|refine cr (hc) ?_|refine cr (hd) ?_|exact True.intro)
   exact⟨by rw[if_neg (by omega)];congr 1;omega,rfl⟩
theorem nj (ps:List Ppl)(l:Int)(hl:0≤l∧l≤1048576):aj Tryz.prog 38 [.lst .ppl ps,.int .i64 l] [] (.int .i64 (ld l (ps.length+nS ps))) []:=by
 refine ab ak Tryz.func38 rfl rfl false 0 4 rfl rfl rfl rfl fun K hK hb1 hb2=>?_;simp only[af,enc,Nat.reduceAdd]
 simp[ae,V.toD,bnd,aa,D.cells] at hb1
 have hno:l-ps.length-nS ps<0→V.int .i64 (-1)=V.int .i64 (ld l (ps.length+nS ps))∧([]:VH)=[]:=fun h=>⟨by rw[ld,if_pos (by omega)],rfl⟩
 by_cases h0:l-ps.length<0
 ·(repeat' first|refine st ?_|refine sa fun xe hxe=>?_|refine sb (fun hq=>?_) fun hq=>?_|exact True.intro)
  exact hno (by omega)
 (repeat' first|refine st ?_|refine sa fun xe hxe=>?_|refine sb (fun hq=>?_) fun hq=>?_|exact True.intro)
 refine ah hK [] [0,1,5] (fun i:Nat=>⟨[(0,.lst .ppl ps),(1,.int .i64 (l-ps.length-nS (ps.take i))),(5,.int .i64 i)],[],4⟩) (fun i=>i≤ps.length∧0≤l-ps.length-nS (ps.take i)) (fun i=>ps.length-i) 0 ⟨by simp,by simp[nS];omega⟩ (by simp[nS];rfl) ?_
 rintro i ⟨hi,hp⟩
 by_cases hlt:i<ps.length
 ·have hxe:ps[i]?=some ps[i]:=List.getElem?_eq_getElem hlt
  have h3:nS (ps.take (i+1))=nS (ps.take i)+nh ps[i]:=kl hxe
  have h4:nS (ps.take (i+1))≤nS ps:=pz _ ps (i+1)
  generalize ps[i]=p at *
  have hc:=pC p (l-ps.length-nS (ps.take i)) (by omega)
  unfold ld at hc
  by_cases h5:l-ps.length-nS (ps.take i)-(nh p:Nat)<0
  ·rw[if_pos h5] at hc
   (repeat' first|refine st ?_|refine sa fun xe hxe=>?_|refine sb (fun hq=>?_) fun hq=>?_|refine cr (hc) ?_|exact True.intro)
   exact hno (by omega)
  ·rw[if_neg h5] at hc
   (repeat' first|refine st ?_|refine sa fun xe hxe=>?_|refine sb (fun hq=>?_) fun hq=>?_|refine cr (hc) ?_|exact True.intro)
   refine⟨i+1,by omega,by omega,?_⟩
   rw[h3,show l-(ps.length:Int)-((nS (ps.take i)+nh p:Nat):Int)=l-ps.length-nS (ps.take i)-(nh p:Nat) by omega]
   rfl
 ·rw[List.take_of_length_le (by omega)] at *
  (repeat' first|refine st ?_|refine sa fun xe hxe=>?_|refine sb (fun hq=>?_) fun hq=>?_|exact True.intro)
  exact⟨by rw[ld,if_neg (by omega)];congr 1;omega,rfl⟩
theorem wk (w:Wrl)(l:Int)(hl:0≤l∧l≤1048576):aj Tryz.prog 8 [bU w,.int .i64 l] [] (.int .i64 (ld l (Cd w))) []:=by
 have h1:=jz w.com l hl
 refine ab ak Tryz.func8 rfl rfl false 0 4 rfl rfl rfl rfl fun K hK hb1 hb2=>?_;simp only[af,enc,Nat.reduceAdd]
 clear hb1 hb2
 unfold ld Cd
 by_cases c1:l-w.com.length<0
 ·rw[if_pos c1] at h1
  (repeat' first|refine st ?_|refine sa fun xe hxe=>?_|refine sb (fun hq=>?_) fun hq=>?_|refine cr (h1) ?_|exact True.intro)
  exact⟨by rw[if_pos (by omega)],rfl⟩
 rw[if_neg c1] at h1
 have h2:=jz w.lead (l-w.com.length) (by omega)
 by_cases c2:l-w.com.length-w.lead.length<0
 ·rw[if_pos c2] at h2
  (repeat' first|refine st ?_|refine sa fun xe hxe=>?_|refine sb (fun hq=>?_) fun hq=>?_|refine cr (h1) ?_|refine cr (h2) ?_|exact True.intro)
  exact⟨by rw[if_pos (by omega)],rfl⟩
 rw[if_neg c2] at h2
 have h3:=pD w.views (l-w.com.length-w.lead.length) (by omega)
 unfold ld at h3
 by_cases c3:l-w.com.length-w.lead.length-(w.views.length+mZ w.views:Nat)<0
 ·rw[if_pos c3] at h3
  (repeat' first|refine st ?_|refine sa fun xe hxe=>?_|refine sb (fun hq=>?_) fun hq=>?_|refine cr (h1) ?_|refine cr (h2) ?_|refine cr (h3) ?_|exact True.intro)
  exact⟨by rw[if_pos (by omega)],rfl⟩
 rw[if_neg c3] at h3
 have h4:=nj w.props (l-w.com.length-w.lead.length-(w.views.length+mZ w.views:Nat)) (by omega)
 unfold ld at h4
 by_cases c4:l-w.com.length-w.lead.length-(w.views.length+mZ w.views:Nat)-(w.props.length+nS w.props:Nat)<0
 ·rw[if_pos c4] at h4
  (repeat' first|refine st ?_|refine sa fun xe hxe=>?_|refine sb (fun hq=>?_) fun hq=>?_|refine cr (h1) ?_|refine cr (h2) ?_|refine cr (h3) ?_|refine cr (h4) ?_|exact True.intro)
  exact⟨by rw[if_pos (by omega)],rfl⟩
 ·rw[if_neg c4] at h4
  (repeat' first|refine st ?_|refine sa fun xe hxe=>?_|refine sb (fun hq=>?_) fun hq=>?_|refine cr (h1) ?_|refine cr (h2) ?_|refine cr (h3) ?_|refine cr (h4) ?_|exact True.intro)
  exact⟨by rw[if_neg (by omega)];congr 1;omega,rfl⟩
structure Small (w:Wrl):Prop where
 com:w.com.length≤1048576
 lead:w.lead.length≤1048576
 vlen:w.views.length≤1048576
 view:∀g∈w.views,g.length≤1048576∧∀v∈g,v.parents.length≤1048576
 plen:w.props.length≤1048576
 prop:∀p∈w.props,p.v.parents.length≤1048576∧p.members.length≤1048576
theorem zh {w:Wrl}(h:Cd w≤1048576):Small w:=by
 unfold Cd at h
 refine⟨by omega,by omega,by omega,fun g hg=>?_,by omega,fun p hp=>?_⟩
 ·have h1:sK g≤mZ w.views:=uZ hg
  unfold sK at h1
  refine⟨by omega,fun v hv=>?_⟩
  have:=Do hv
  omega
 ·have h1:nh p≤nS w.props:=uZ hp
  unfold nh at h1
  omega
theorem pI (gs:List (List Vtx))(hg:gs.length≤1048576)(hv:∀g∈gs,g.length≤1048576∧∀v∈g,v.parents.length≤1048576):aj Tryz.prog 42 [.lst (.lst .vtx) gs] [] (.lst (.lst .vtx) gs) []:=by
 refine ab ak Tryz.func42 rfl rfl true 0 4 rfl rfl rfl rfl fun K hK hb1 hb2=>?_;simp only[af,enc,Nat.reduceAdd]
 clear hb1 hb2
 (repeat' first|refine st ?_|refine sa fun xe hxe=>?_|refine sb (fun hq=>?_) fun hq=>?_|exact True.intro)
 refine ah hK [] [0,3,4] (fun i:Nat=>⟨[(0,.lst (.lst .vtx) gs),(3,.ref 4),(4,.int .i64 i)],[(4,.row 73 (.lst .vtx) (gs.take i++(List.replicate gs.length []).drop i))],5⟩) (fun i=>i≤gs.length) (fun i=>gs.length-i) 0 (by simp) (by simp;rfl) ?_
 intro i hi
 by_cases hlt:i<gs.length
 ·have hx:gs[i]?=some gs[i]:=List.getElem?_eq_getElem hlt
  have Ap:i<(gs.take i++(List.replicate gs.length []).drop i).length:=eu _ _ (by simp;omega) (by simpa using hlt)
  have hs:(gs.take i++(List.replicate gs.length []).drop i).set i gs[i]=gs.take (i+1)++(List.replicate gs.length []).drop (i+1):=by
   rw[cZ _ _ _ (by simp;omega) (by simpa using hlt),List.take_succ_eq_append_getElem hlt]
  obtain⟨hvl,hvp⟩:=hv _ (List.getElem_mem hlt)
  generalize hrow:gs.take i++(List.replicate gs.length []).drop i=row at *
  generalize gs[i]=x at *
  (repeat' first|refine st ?_|refine sa fun xe hxe=>?_|refine sb (fun hq=>?_) fun hq=>?_|refine cr (rN _ hvl hvp) ?_|exact True.intro)
  refine⟨i+1,by omega,by omega,?_⟩
  rw[←hs]
  rfl
 ·obtain rfl:i=gs.length:=by omega
  (repeat' first|refine st ?_|refine sa fun xe hxe=>?_|refine sb (fun hq=>?_) fun hq=>?_|exact True.intro)
  simp
theorem pG (p:Ppl)(hv:p.v.parents.length≤1048576∧p.members.length≤1048576):aj Tryz.prog 87 [iv p] [] (iv p) []:=by
 refine ab ak Tryz.func87 rfl rfl true 0 4 rfl rfl rfl rfl fun K hK hb1 hb2=>?_;simp only[af,enc,Nat.reduceAdd]
 clear hb1 hb2
 (repeat' first|refine st ?_|refine sa fun xe hxe=>?_|refine sb (fun hq=>?_) fun hq=>?_|refine cr (mQ _ hv.1) ?_|refine cr (dR _ hv.2) ?_|exact True.intro)
 exact⟨rfl,rfl⟩
theorem np (ps:List Ppl)(hp:ps.length≤1048576)(hv:∀p∈ps,p.v.parents.length≤1048576∧p.members.length≤1048576):aj Tryz.prog 43 [.lst .ppl ps] [] (.lst .ppl ps) []:=by
 refine ab ak Tryz.func43 rfl rfl true 0 4 rfl rfl rfl rfl fun K hK hb1 hb2=>?_;simp only[af,enc,Nat.reduceAdd]
 clear hb1 hb2
 (repeat' first|refine st ?_|refine sa fun xe hxe=>?_|refine sb (fun hq=>?_) fun hq=>?_|exact True.intro)
 refine ah hK [] [0,3,4] (fun i:Nat=>⟨[(0,.lst .ppl ps),(3,.ref 4),(4,.int .i64 i)],[(4,.row 50 .ppl (ps.take i++(List.replicate ps.length p0).drop i))],5⟩) (fun i=>i≤ps.length) (fun i=>ps.length-i) 0 (by simp) (by simp;rfl) ?_
 intro i hi
 by_cases hlt:i<ps.length
 ·have hx:ps[i]?=some ps[i]:=List.getElem?_eq_getElem hlt
  have Ap:i<(ps.take i++(List.replicate ps.length p0).drop i).length:=eu _ _ (by simp;omega) (by simpa using hlt)
  have hs:(ps.take i++(List.replicate ps.length p0).drop i).set i ps[i]=ps.take (i+1)++(List.replicate ps.length p0).drop (i+1):=by
   rw[cZ _ _ _ (by simp;omega) (by simpa using hlt),List.take_succ_eq_append_getElem hlt]
  have hvl:=hv _ (List.getElem_mem hlt)
  generalize hrow:ps.take i++(List.replicate ps.length p0).drop i=row at *
  generalize ps[i]=x at *
  (repeat' first|refine st ?_|refine sa fun xe hxe=>?_|refine sb (fun hq=>?_) fun hq=>?_|refine cr (pG _ hvl) ?_|exact True.intro)
  refine⟨i+1,by omega,by omega,?_⟩
  rw[←hs]
  rfl
 ·obtain rfl:i=ps.length:=by omega
  (repeat' first|refine st ?_|refine sa fun xe hxe=>?_|refine sb (fun hq=>?_) fun hq=>?_|exact True.intro)
  simp
theorem wm (w:Wrl)(h:Small w):aj Tryz.prog 10 [bU w] [] (bU w) []:=by
 obtain⟨h1,h2,h3,h4,h5,h6⟩:=h
 refine ab ak Tryz.func10 rfl rfl true 0 4 rfl rfl rfl rfl fun K hK hb1 hb2=>?_;simp only[af,enc,Nat.reduceAdd]
 clear hb1 hb2
 (repeat' first|refine st ?_|refine sa fun xe hxe=>?_|refine sb (fun hq=>?_) fun hq=>?_|refine cr (dR _ h1) ?_|refine cr (dR _ h2) ?_|refine cr (pI _ h3 h4) ?_|refine cr (np _ h5 h6) ?_|exact True.intro)
 exact⟨rfl,rfl⟩
theorem oE (g:List (List Vtx)):aj Tryz.prog 47 [.lst (.lst .vtx) g,.lst (.lst .vtx) g] [] (.bool true) []:=by
 refine ab ak Tryz.func47 rfl rfl false 0 4 rfl rfl rfl rfl fun K hK hb1 hb2=>?_;simp only[af,enc,Nat.reduceAdd]
 simp[ae,V.toD,bnd,aa,D.cells] at hb1
 (repeat' first|refine st ?_|refine sa fun xe hxe=>?_|refine sb (fun hq=>?_) fun hq=>?_|exact True.intro)
 ·exact absurd trivial hq
 refine ah hK [] [0,1,5] (fun i:Nat=>⟨[(0,.lst (.lst .vtx) g),(1,.lst (.lst .vtx) g),(5,.int .i64 i)],[],4⟩) (fun i=>i≤g.length) (fun i=>g.length-i) 0 (by simp) rfl ?_
 intro i hi
 by_cases hlt:i<g.length
 ·have hx:g[i]?=some g[i]:=List.getElem?_eq_getElem hlt
  generalize g[i]=x at *
  (repeat' first|refine st ?_|refine sa fun xe hxe=>?_|refine sb (fun hq=>?_) fun hq=>?_|refine cr (qn _) ?_|exact True.intro)
  exact⟨i+1,by omega,by omega,rfl⟩
 ·(repeat' first|refine st ?_|refine sa fun xe hxe=>?_|refine sb (fun hq=>?_) fun hq=>?_|exact True.intro)
  exact⟨rfl,rfl⟩
theorem oD (p:Ppl):aj Tryz.prog 92 [iv p,iv p] [] (.bool true) []:=by
 refine ab ak Tryz.func92 rfl rfl false 0 4 rfl rfl rfl rfl fun K hK hb1 hb2=>?_;simp only[af,enc,Nat.reduceAdd]
 (repeat' first|refine st ?_|refine sa fun xe hxe=>?_|refine sb (fun hq=>?_) fun hq=>?_|refine cr (lS _) ?_|refine cr (lR _) ?_|exact True.intro)
 all_goals first|(exact⟨rfl,rfl⟩)|exact absurd rfl hq|exact absurd trivial hq|cases hq
theorem m8 (g:List Ppl):aj Tryz.prog 48 [.lst .ppl g,.lst .ppl g] [] (.bool true) []:=by
 refine ab ak Tryz.func48 rfl rfl false 0 4 rfl rfl rfl rfl fun K hK hb1 hb2=>?_;simp only[af,enc,Nat.reduceAdd]
 simp[ae,V.toD,bnd,aa,D.cells] at hb1
 (repeat' first|refine st ?_|refine sa fun xe hxe=>?_|refine sb (fun hq=>?_) fun hq=>?_|exact True.intro)
 ·exact absurd trivial hq
 refine ah hK [] [0,1,5] (fun i:Nat=>⟨[(0,.lst .ppl g),(1,.lst .ppl g),(5,.int .i64 i)],[],4⟩) (fun i=>i≤g.length) (fun i=>g.length-i) 0 (by simp) rfl ?_
 intro i hi
 by_cases hlt:i<g.length
 ·have hx:g[i]?=some g[i]:=List.getElem?_eq_getElem hlt
  generalize g[i]=x at *
  (repeat' first|refine st ?_|refine sa fun xe hxe=>?_|refine sb (fun hq=>?_) fun hq=>?_|refine cr (oD _) ?_|exact True.intro)
  exact⟨i+1,by omega,by omega,rfl⟩
 ·(repeat' first|refine st ?_|refine sa fun xe hxe=>?_|refine sb (fun hq=>?_) fun hq=>?_|exact True.intro)
  exact⟨rfl,rfl⟩
theorem vC (w:Wrl):aj Tryz.prog 13 [bU w,bU w] [] (.bool true) []:=by
 refine ab ak Tryz.func13 rfl rfl false 0 4 rfl rfl rfl rfl fun K hK hb1 hb2=>?_;simp only[af,enc,Nat.reduceAdd]
 clear hb1 hb2
 (repeat' first|refine st ?_|refine sa fun xe hxe=>?_|refine sb (fun hq=>?_) fun hq=>?_|refine cr (lR _) ?_|refine cr (oE _) ?_|refine cr (m8 _) ?_|exact True.intro)
 all_goals first|(exact⟨rfl,rfl⟩)|exact absurd rfl hq|exact absurd trivial hq|cases hq
def Θx:TT:=(73,⟨.slice 48,1,24,some .nils,some (.hr 0),false⟩)::(48,⟨.struct [(3,0,1),(3,1,1),(22,2,1),(3,3,1)],4,48,some (.agg [.int .i64 0,.int .i64 0,.nils,.int .i64 0]),some (.vtxo 1),false⟩)::(50,⟨.struct [(48,0,4),(22,4,1)],5,72,some (.agg [.int .i64 0,.int .i64 0,.nils,.int .i64 0,.nils]),some (.pplo 1 1),false⟩)::Θ
theorem gA:TT.ok Tryz.prog Θx:=TT.okB_ok (by kernel_rfl)
theorem zM {P Q:Prop}(h:Q)(s:Hid Q→P:=by
  intro h
  (first|(with_reducible first|apply ci|apply bP)|((first|with_reducible apply bE gA|refine go ?_|(with_reducible first|apply bW|apply b7|apply bC|apply bF|refine bD gA mixed (by kernel_rfl) ?_))<;>conv=>whnf))
  repeat(first|(with_reducible first|apply ci|apply bP)|((first|with_reducible apply bE gA|refine go ?_|(with_reducible first|apply bW|apply b7|apply bC|apply bF|refine bD gA mixed (by kernel_rfl) ?_))<;>conv=>whnf))
  exact h.h):P:=s ⟨h⟩
def D7:VtxO:=⟨0,0,none,0⟩
def D6:PplO:=⟨⟨0,0,none,0⟩,none⟩
theorem qu (E:TypeId)(a b:List (List Int)):aG (VB.frow E (.int .i64) a)≤aG (VB.frow E (.int .i64) (a++b)):=by simp[aG]
theorem mS (v:Vtx)(hv:v.parents.length≤1048576):aj Tryz.prog 140 [bS v] [] (.agg [.int .i64 v.round,.int .i64 v.author,.ref 4,.int .i64 v.digest]) [(4,.row 3 (.int .i64) v.parents)]:=by
 refine ab ak Tryz.func140 rfl rfl false 0 4 rfl rfl rfl rfl fun K hK hb1 hb2=>?_;simp only[af,enc,Nat.reduceAdd]
 (repeat' first|refine st ?_|refine sa fun xe hxe=>?_|refine sb (fun hq=>?_) fun hq=>?_|refine cr (dR _ hv) ?_|exact True.intro)
 exact⟨rfl,rfl⟩
theorem rO (g:List Vtx)(pss:List (List Int))(hg:g.length≤1048576)(hv:∀v∈g,v.parents.length≤1048576):aj Tryz.prog 86 [.lst .vtx g] [(1,.frow 3 (.int .i64) pss)] (.ref 4) [(1,.frow 3 (.int .i64) (pss++g.map (·.parents))),(4,.row 48 (.vtxo 1) (kQ pss.length g))]:=by
 refine ab gA Tryz.func86 rfl rfl false 0 4 rfl rfl rfl rfl fun K hK hb1 hb2=>?_;simp only[af,enc,Nat.reduceAdd]
 clear hb1 hb2
 (repeat' first|refine zM ?_|refine sa fun xe hxe=>?_|refine sb (fun hq=>?_) fun hq=>?_|exact True.intro)
 refine ah hK [] [0,3,4] (fun i:Nat=>⟨[(0,.lst .vtx g),(3,.ref 4),(4,.int .i64 i)],[(1,.frow 3 (.int .i64) (pss++(g.take i).map (·.parents))),(4,.row 48 (.vtxo 1) (kQ pss.length (g.take i)++(List.replicate g.length D7).drop i))],5⟩) (fun i=>i≤g.length) (fun i=>g.length-i) 0 (by simp) (by simp[kQ];rfl) ?_
 intro i hi
 by_cases hlt:i<g.length
 ·have hx:g[i]?=some g[i]:=List.getElem?_eq_getElem hlt
  have hsn:g.take (i+1)=g.take i++[g[i]]:=List.take_succ_eq_append_getElem hlt
  have hvl:=hv _ (List.getElem_mem hlt)
  have hln:(kQ pss.length (g.take i)).length=i:=by rw[BB,List.length_take];omega
  have Ap:i<(kQ pss.length (g.take i)++(List.replicate g.length D7).drop i).length:=eu _ _ hln (by simpa using hlt)
  have hs:(kQ pss.length (g.take i)++(List.replicate g.length D7).drop i).set i ⟨g[i].round,g[i].author,some (pss++(g.take i).map (·.parents)).length,g[i].digest⟩=kQ pss.length (g.take (i+1))++(List.replicate g.length D7).drop (i+1):=by
   rw[cZ _ _ _ hln (by simpa using hlt),hsn,zA,List.length_append,List.length_map]
  have hp:pss++(g.take (i+1)).map (·.parents)=(pss++(g.take i).map (·.parents))++[g[i].parents]:=by rw[hsn,List.map_append,List.append_assoc];rfl
  generalize hrow:kQ pss.length (g.take i)++(List.replicate g.length D7).drop i=row at *
  generalize pss++(g.take i).map (·.parents)=ps at *
  generalize g[i]=x at *
  (repeat' first|refine zM ?_|refine sa fun xe hxe=>?_|refine sb (fun hq=>?_) fun hq=>?_|refine cr (mS _ hvl) ?_|exact True.intro)
  refine⟨i+1,by omega,by omega,?_⟩
  rw[←hs,hp]
  rfl
 ·obtain rfl:i=g.length:=by omega
  rw[List.take_of_length_le (Nat.le_refl _),show kQ pss.length g++(List.replicate g.length D7).drop g.length=kQ pss.length g by simp]
  (repeat' first|refine zM ?_|refine sa fun xe hxe=>?_|refine sb (fun hq=>?_) fun hq=>?_|exact True.intro)
  exact⟨rfl,rfl⟩
theorem pJ (gs:List (List Vtx))(hg:gs.length≤1048576)(hv:∀g∈gs,g.length≤1048576∧∀v∈g,v.parents.length≤1048576):aj Tryz.prog 42 [.lst (.lst .vtx) gs] [] (.ref 4) [(0,.frow 48 (.vtxo 1) (mY 0 gs)),(1,.frow 3 (.int .i64) (cI gs)),(4,.row 73 (.hr 0) ((List.range gs.length).map some))]:=by
 refine ab gA Tryz.func42 rfl rfl false 0 4 rfl rfl rfl rfl fun K hK hb1 hb2=>?_;simp only[af,enc,Nat.reduceAdd]
 clear hb1 hb2
 (repeat' first|refine zM ?_|refine sa fun xe hxe=>?_|refine sb (fun hq=>?_) fun hq=>?_|exact True.intro)
 refine jS 0 (.frow 48 (.vtxo 1) []) rfl ?_
 refine jS 1 (.frow 3 (.int .i64) []) rfl ?_
 refine ah hK [] [0,3,4] (fun i:Nat=>⟨[(0,.lst (.lst .vtx) gs),(3,.ref 4),(4,.int .i64 i)],[(0,.frow 48 (.vtxo 1) (mY 0 (gs.take i))),(1,.frow 3 (.int .i64) (cI (gs.take i))),(4,.row 73 (.hr 0) ((List.range i).map some++(List.replicate gs.length none).drop i))],5⟩) (fun i=>i≤gs.length) (fun i=>gs.length-i) 0 (by simp) (by simp[mY,cI];rfl) ?_
 intro i hi
 by_cases hlt:i<gs.length
 ·have hx:gs[i]?=some gs[i]:=List.getElem?_eq_getElem hlt
  have hsn:gs.take (i+1)=gs.take i++[gs[i]]:=List.take_succ_eq_append_getElem hlt
  obtain⟨hvl,hvp⟩:=hv _ (List.getElem_mem hlt)
  have hln:((List.range i).map some).length=i:=by simp
  have Ap:i<((List.range i).map some++(List.replicate gs.length none).drop i).length:=eu _ _ hln (by simpa using hlt)
  have hs:((List.range i).map some++(List.replicate gs.length none).drop i).set i (some i)=(List.range (i+1)).map some++(List.replicate gs.length none).drop (i+1):=by
   rw[cZ _ _ _ hln (by simpa using hlt),List.range_succ,List.map_append];rfl
  have hp:cI (gs.take (i+1))=cI (gs.take i)++gs[i].map (·.parents):=by rw[hsn,wc]
  have hq:mY 0 (gs.take (i+1))=mY 0 (gs.take i)++[kQ (cI (gs.take i)).length gs[i]]:=by rw[hsn,qH,Nat.zero_add]
  have hgl:(mY 0 (gs.take i)).length=i:=by rw[Ak,List.length_take];omega
  generalize hrow:(List.range i).map some++(List.replicate gs.length none).drop i=row at *
  generalize mY 0 (gs.take i)=vss at *
  generalize cI (gs.take i)=ps at *
  generalize gs[i]=x at *
  have hF:=qu 3 ps (x.map (·.parents))
  (repeat' first|refine zM ?_|refine sa fun xe hxe=>?_|refine sb (fun hq=>?_) fun hq=>?_|((with_reducible refine wV [1] ?_);(conv=>whnf);(with_reducible refine dp (rO _ _ hvl hvp) ?_);conv=>whnf)|exact True.intro)
  refine⟨i+1,by omega,by omega,?_⟩
  rw[←hs,hp,hq,hgl]
  rfl
 ·obtain rfl:i=gs.length:=by omega
  rw[List.take_of_length_le (Nat.le_refl _),show (List.range gs.length).map some++(List.replicate gs.length none).drop gs.length=(List.range gs.length).map some by simp]
  (repeat' first|refine zM ?_|refine sa fun xe hxe=>?_|refine sb (fun hq=>?_) fun hq=>?_|exact True.intro)
  exact⟨rfl,rfl⟩
theorem pH (p:Ppl)(hv:p.v.parents.length≤1048576∧p.members.length≤1048576):aj Tryz.prog 87 [iv p] [] (.agg [.int .i64 p.v.round,.int .i64 p.v.author,.ref 4,.int .i64 p.v.digest,.ref 5]) [(4,.row 3 (.int .i64) p.v.parents),(5,.row 3 (.int .i64) p.members)]:=by
 refine ab ak Tryz.func87 rfl rfl false 0 4 rfl rfl rfl rfl fun K hK hb1 hb2=>?_;simp only[af,enc,Nat.reduceAdd]
 clear hb1 hb2
 (repeat' first|refine st ?_|refine sa fun xe hxe=>?_|refine sb (fun hq=>?_) fun hq=>?_|refine cr (dR _ hv.2) ?_|refine co (mS _ hv.1) ?_|exact True.intro)
 exact⟨rfl,rfl⟩
theorem nt (g:List Ppl)(pss:List (List Int))(hg:g.length≤1048576)(hv:∀p∈g,p.v.parents.length≤1048576∧p.members.length≤1048576):aj Tryz.prog 43 [.lst .ppl g] [(1,.frow 3 (.int .i64) pss)] (.ref 4) [(1,.frow 3 (.int .i64) (pss++eD g)),(4,.row 50 (.pplo 1 1) (lr pss.length g))]:=by
 refine ab gA Tryz.func43 rfl rfl false 0 4 rfl rfl rfl rfl fun K hK hb1 hb2=>?_;simp only[af,enc,Nat.reduceAdd]
 clear hb1 hb2
 (repeat' first|refine zM ?_|refine sa fun xe hxe=>?_|refine sb (fun hq=>?_) fun hq=>?_|exact True.intro)
 refine ah hK [] [0,3,4] (fun i:Nat=>⟨[(0,.lst .ppl g),(3,.ref 4),(4,.int .i64 i)],[(1,.frow 3 (.int .i64) (pss++eD (g.take i))),(4,.row 50 (.pplo 1 1) (lr pss.length (g.take i)++(List.replicate g.length D6).drop i))],5⟩) (fun i=>i≤g.length) (fun i=>g.length-i) 0 (by simp) (by simp[lr,eD];rfl) ?_
 intro i hi
 by_cases hlt:i<g.length
 ·have hx:g[i]?=some g[i]:=List.getElem?_eq_getElem hlt
  have hsn:g.take (i+1)=g.take i++[g[i]]:=List.take_succ_eq_append_getElem hlt
  have hvl:=hv _ (List.getElem_mem hlt)
  have hln:(lr pss.length (g.take i)).length=i:=by rw[A0,List.length_take];omega
  have Ap:i<(lr pss.length (g.take i)++(List.replicate g.length D6).drop i).length:=eu _ _ hln (by simpa using hlt)
  have hpl:(pss++eD (g.take i)).length=pss.length+2*i:=by rw[List.length_append,yO,List.length_take];omega
  have hs:(lr pss.length (g.take i)++(List.replicate g.length D6).drop i).set i ⟨⟨g[i].v.round,g[i].v.author,some (pss++eD (g.take i)).length,g[i].v.digest⟩,some ((pss++eD (g.take i))++[g[i].v.parents]).length⟩=lr pss.length (g.take (i+1))++(List.replicate g.length D6).drop (i+1):=by
   have hpl1:((pss++eD (g.take i))++[g[i].v.parents]).length=pss.length+2*i+1:=by rw[List.length_append,hpl];rfl
   rw[cZ _ _ _ hln (by simpa using hlt),hsn,rv,hpl1,hpl,List.length_take,Nat.min_eq_left (by omega)]
  have hp:pss++eD (g.take (i+1))=((pss++eD (g.take i))++[g[i].v.parents])++[g[i].members]:=by rw[hsn,wd];simp
  clear hpl
  generalize hrow:lr pss.length (g.take i)++(List.replicate g.length D6).drop i=row at *
  generalize pss++eD (g.take i)=ps at *
  generalize g[i]=x at *
  (repeat' first|refine zM ?_|refine sa fun xe hxe=>?_|refine sb (fun hq=>?_) fun hq=>?_|refine cr (pH _ hvl) ?_|exact True.intro)
  refine⟨i+1,by omega,by omega,?_⟩
  rw[←hs,hp]
  rfl
 ·obtain rfl:i=g.length:=by omega
  rw[List.take_of_length_le (Nat.le_refl _),show lr pss.length g++(List.replicate g.length D6).drop g.length=lr pss.length g by simp]
  (repeat' first|refine zM ?_|refine sa fun xe hxe=>?_|refine sb (fun hq=>?_) fun hq=>?_|exact True.intro)
  exact⟨rfl,rfl⟩
abbrev DW (bad:Int):V:=.agg [.ref 4,.ref 5,.int .i64 bad,.ref 6,.ref 7]
theorem wn (w:Wrl)(h:Small w):aj Tryz.prog 10 [bU w] [] (DW w.bad) [(0,.frow 48 (.vtxo 1) (mY 0 w.views)),(1,.frow 3 (.int .i64) (cI w.views++eD w.props)),(4,.row 3 (.int .i64) w.com),(5,.row 3 (.int .i64) w.lead),(6,.row 73 (.hr 0) ((List.range w.views.length).map some)),(7,.row 50 (.pplo 1 1) (lr (cI w.views).length w.props))]:=by
 obtain⟨h1,h2,h3,h4,h5,h6⟩:=h
 have hF:=qu 3 (cI w.views) (eD w.props)
 refine ab gA Tryz.func10 rfl rfl false 0 4 rfl rfl rfl rfl fun K hK hb1 hb2=>?_;simp only[af,enc,Nat.reduceAdd]
 clear hb1 hb2
 (repeat' first|refine zM ?_|refine sa fun xe hxe=>?_|refine sb (fun hq=>?_) fun hq=>?_|refine cr (dR _ h1) ?_|refine cr (dR _ h2) ?_|refine cr (pJ _ h3 h4) ?_|((with_reducible refine wV [1] ?_);(conv=>whnf);(with_reducible refine dp (nt _ _ h5 h6) ?_);conv=>whnf)|exact True.intro)
 exact⟨rfl,rfl⟩

end Go.Proofs.YthmfppknagbkeaaGreatDoor.Am
