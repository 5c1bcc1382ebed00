/- Committees and graphs: what the specification's functions give. Committees and vertices: what the program's functions give. Graphs: what the program's functions give. Graphs: a vertex is linked. Graphs: all vertices are linked. Graphs: heights, authors, places. -/
import Derived.Test.YtgfcmhjebbncpaaCE5
set_option linter.unusedSimpArgs false
set_option linter.unusedVariables false
set_option maxHeartbeats 1000000
namespace Go.Proofs.Ytgfcmhjebbncpaa.Am
open Go
attribute [local irreducible] Mk bP Ari eJ sI lB di gf iN lD At ao
set_option maxRecDepth 10000
theorem nd (n lo hi:Int):ao Try.prog 19 [.int .i64 n,.int .i64 lo,.int .i64 hi] [] (.bool (gx n lo hi)) []:=by
 refine af al Try.func19 rfl rfl false 0 4 rfl rfl rfl rfl fun K hK hb1 hb2=>?_;simp only[aj,enc,Nat.reduceAdd]
 (repeat' first|refine st ?_|refine sa fun xe hxe=>?_|refine sb (fun hq=>?_) fun hq=>?_|exact True.intro)
 all_goals (refine⟨?_,rfl⟩;simp_all[gx])
 omega
theorem qu (c:List Int):ao Try.prog 38 [.lst (.int .i64) c] [] (.bool (comV c)) []:=by
 refine af al Try.func38 rfl rfl false 0 4 rfl rfl rfl rfl fun K hK hb1 hb2=>?_;simp only[aj,enc,Nat.reduceAdd]
 simp[ab,V.toD,bnd,aa,D.cells] at hb1
 (repeat' first|refine st ?_|refine sa fun xe hxe=>?_|refine sb (fun hq=>?_) fun hq=>?_|exact True.intro|refine cr (nd _ _ _) ?_)
 refine ak hK [] [0,3] (fun i:Nat=>⟨[(0,.lst (.int .i64) c),(3,.int .i64 i)],[],4⟩) (fun i=>i≤c.length∧∀j,j<i→gx (c.getD j 0) 1 9=true) (fun i=>c.length-i) 0 ⟨by simp,by simp⟩ rfl ?_
 rintro i ⟨hi,hall⟩
 (repeat' first|refine st ?_|refine sa fun xe hxe=>?_|refine sb (fun hq=>?_) fun hq=>?_|exact True.intro|refine cr (nd _ _ _) ?_)
 ·refine⟨?_,rfl⟩
  have:comV c=false:=by
   simp only[comV,Bool.and_eq_false_iff]
   left
   exact bC (j:=i) (by omega) (by rw[aU hxe];exact hq)
  rw[this]
 ·refine⟨i+1,⟨by omega,a5 hall (by rw[aU hxe];exact hq)⟩,by omega,rfl⟩
 ·refine⟨?_,rfl⟩
  have:i=c.length:=by omega
  subst this
  simp only[comV,br hall,Bool.true_and]
theorem pA {c:List Int}{i:Nat}{x:Int}(h:c[i]?=some x):lA (c.take (i+1))=lA (c.take i)+x:=by
 obtain⟨hl,rfl⟩:=List.getElem?_eq_some_iff.1 h
 rw[List.take_succ_eq_append_getElem hl]
 unfold lA
 rw[List.sum_append]
 simp
theorem t6 {c:List Int}(h:comV c=true)(i:Nat):0≤lA (c.take i)∧lA (c.take i)≤63:=by
 obtain⟨h1,h2,h3⟩:=aF.1 h
 have h4:=jU (M:=9) (by omega) (l:=c.take i) fun x hx=>⟨by have:=h1 x (List.mem_of_mem_take hx);omega,(h1 x (List.mem_of_mem_take hx)).2⟩
 rw[List.length_take] at h4
 unfold lA
 omega
theorem yh (c:List Int)(hc:comV c=true):ao Try.prog 20 [.lst (.int .i64) c] [] (.int .i64 (lA c)) []:=by
 have hc1:=aF.1 hc
 refine af al Try.func20 rfl rfl false 0 4 rfl rfl rfl rfl fun K hK hb1 hb2=>?_;simp only[aj,enc,Nat.reduceAdd]
 clear hb1 hb2
 (repeat' first|refine st ?_|refine sa fun xe hxe=>?_|refine sb (fun hq=>?_) fun hq=>?_|exact True.intro)
 refine ak hK [] [0,3,4] (fun i:Nat=>⟨[(0,.lst (.int .i64) c),(3,.int .i64 (lA (c.take i))),(4,.int .i64 i)],[],4⟩) (fun i=>i≤c.length) (fun i=>c.length-i) 0 (by simp) rfl ?_
 intro i hi
 have hb:=t6 hc i
 have hbx:∀x,c[i]?=some x→1≤x∧x≤9:=fun x hx=>hc1.1 x (List.mem_of_getElem? hx)
 by_cases hlt:i<c.length
 ·have hxe:c[i]?=some c[i]:=List.getElem?_eq_getElem hlt
  have hb2:=hbx _ hxe
  have hsn:=pA hxe
  generalize c[i]=x at *
  (repeat' first|refine st ?_|refine sa fun xe hxe=>?_|refine sb (fun hq=>?_) fun hq=>?_|exact True.intro)
  exact⟨i+1,by omega,by omega,by rw[hsn];rfl⟩
 (repeat' first|refine st ?_|refine sa fun xe hxe=>?_|refine sb (fun hq=>?_) fun hq=>?_|exact True.intro)
 rw[List.take_of_length_le (by omega)]
 exact⟨rfl,rfl⟩
theorem tG (c:List Int)(hc:comV c=true):ao Try.prog 61 [.lst (.int .i64) c] [] (.int .i64 (quo c)) []:=by
 have h1:=i0 hc
 have h2:=va hc
 have h3:(2*lA c).tdiv 3+1=quo c:=rfl
 refine af al Try.func61 rfl rfl false 0 4 rfl rfl rfl rfl fun K hK hb1 hb2=>?_;simp only[aj,enc,Nat.reduceAdd]
 (repeat' first|refine st ?_|refine sa fun xe hxe=>?_|refine sb (fun hq=>?_) fun hq=>?_|exact True.intro|refine cr (yh _ hc) ?_)
 exact⟨rfl,rfl⟩
theorem oE (n:Int):ao Try.prog 99 [.int .i64 n] [] (.bool (gx n 0 990)) []:=by
 refine af al Try.func99 rfl rfl false 0 4 rfl rfl rfl rfl fun K hK hb1 hb2=>?_;simp only[aj,enc,Nat.reduceAdd]
 (repeat' first|refine st ?_|refine sa fun xe hxe=>?_|refine sb (fun hq=>?_) fun hq=>?_|exact True.intro|refine cr (nd _ _ _) ?_)
 exact⟨rfl,rfl⟩
theorem qG (c ms:List Int):ao Try.prog 81 [.lst (.int .i64) c,.lst (.int .i64) ms] [] (.bool (bV c ms)) []:=by
 refine af al Try.func81 rfl rfl false 0 4 rfl rfl rfl rfl fun K hK hb1 hb2=>?_;simp only[aj,enc,Nat.reduceAdd]
 simp[ab,V.toD,bnd,aa,D.cells] at hb1
 (repeat' first|refine st ?_|refine sa fun xe hxe=>?_|refine sb (fun hq=>?_) fun hq=>?_|exact True.intro|refine cr (nd _ _ _) ?_)
 refine ak hK [] [0,1,5] (fun i:Nat=>⟨[(0,.lst (.int .i64) c),(1,.lst (.int .i64) ms),(5,.int .i64 i)],[],4⟩) (fun i=>i≤ms.length∧∀j,j<i→dU c ms j=true) (fun i=>ms.length-i) 0 ⟨by simp,by simp⟩ rfl ?_
 rintro i ⟨hi,hall⟩
 (repeat' first|refine st ?_|refine sa fun xe hxe=>?_|refine sb (fun hq=>?_) fun hq=>?_|exact True.intro|refine cr (nd _ _ _) ?_)
 ·refine⟨?_,rfl⟩
  have:bV c ms=false:=bC (j:=i) (by omega) (by simp only[dU,bQ,aU hxe,hq,Bool.false_and])
  rw[this]
 ·rename_i x hx hq1 h0
  have hy':ms[i-1]?=some xe:=by rw[←hxe];congr 1;omega
  refine⟨?_,rfl⟩
  have:bV c ms=false:=bC (j:=i) (by omega) (by simp only[dU,aU hx,aU hy',Bool.and_eq_false_iff,Bool.or_eq_false_iff,decide_eq_false_iff_not];right;exact⟨by simp;omega,by omega⟩)
  rw[this]
 ·rename_i x hx hq1 h0
  have hy':ms[i-1]?=some xe:=by rw[←hxe];congr 1;omega
  refine⟨i+1,⟨by omega,a5 hall ?_⟩,by omega,rfl⟩
  simp only[dU,bQ,aU hx,aU hy',hq1,Bool.true_and,Bool.or_eq_true,decide_eq_true_eq]
  right;omega
 ·have h0:i=0:=by omega
  subst h0
  refine⟨0+1,⟨by omega,a5 hall ?_⟩,by omega,rfl⟩
  simp only[dU,bQ,aU hxe, *]
  rfl
 ·refine⟨?_,rfl⟩
  have:i=ms.length:=by omega
  subst this
  have:bV c ms=true:=br hall
  rw[this]
theorem uI {c ms:List Int}{i:Nat}{m:Int}(h:ms[i]?=some m):pe c (ms.take (i+1))=pe c (ms.take i)+c.getD m.toNat 0:=by
 obtain⟨hl,rfl⟩:=List.getElem?_eq_some_iff.1 h
 rw[List.take_succ_eq_append_getElem hl,vQ]
theorem xS (c ms:List Int)(hc:comV c=true)(hm:∀m∈ms,0≤m∧m<c.length)(hl:ms.length≤2000000):ao Try.prog 60 [.lst (.int .i64) c,.lst (.int .i64) ms] [] (.int .i64 (pe c ms)) []:=by
 refine af al Try.func60 rfl rfl false 0 4 rfl rfl rfl rfl fun K hK hb1 hb2=>?_;simp only[aj,enc,Nat.reduceAdd]
 clear hb1 hb2
 (repeat' first|refine st ?_|refine sa fun xe hxe=>?_|refine sb (fun hq=>?_) fun hq=>?_|exact True.intro)
 refine ak hK [] [0,1,5,6] (fun i:Nat=>⟨[(0,.lst (.int .i64) c),(1,.lst (.int .i64) ms),(5,.int .i64 (pe c (ms.take i))),(6,.int .i64 i)],[],4⟩) (fun i=>i≤ms.length) (fun i=>ms.length-i) 0 (by simp) rfl ?_
 intro i hi
 by_cases hlt:i<ms.length
 ·have hxe:ms[i]?=some ms[i]:=List.getElem?_eq_getElem hlt
  have h1:=hm _ (List.getElem_mem hlt)
  have h2:=uC (ms:=ms.take i) hc
  have h3:=uI (c:=c) hxe
  rw[List.length_take] at h2
  generalize ms[i]=m at *
  have hx2:c[m.toNat]?=some (c.getD m.toNat 0):=by rw[List.getD_eq_getElem?_getD,List.getElem?_eq_getElem (show m.toNat<c.length by omega)];rfl
  have h4:=(aF.1 hc).1 _ (List.mem_of_getElem? hx2)
  generalize c.getD m.toNat 0=x at *
  (repeat' first|refine st ?_|refine sa fun xe hxe=>?_|refine sb (fun hq=>?_) fun hq=>?_|exact True.intro)
  exact⟨i+1,by omega,by omega,by rw[h3];rfl⟩
 (repeat' first|refine st ?_|refine sa fun xe hxe=>?_|refine sb (fun hq=>?_) fun hq=>?_|exact True.intro)
 rw[List.take_of_length_le (by omega)]
 exact⟨rfl,rfl⟩
theorem kw (v u:Vtx):ao Try.prog 100 [.agg [.int .i64 v.round,.int .i64 v.author,.lst (.int .i64) v.parents,.int .i64 v.digest],.agg [.int .i64 u.round,.int .i64 u.author,.lst (.int .i64) u.parents,.int .i64 u.digest]] [] (.bool (bef v u)) []:=by
 refine af al Try.func100 rfl rfl false 0 4 rfl rfl rfl rfl fun K hK hb1 hb2=>?_;simp only[aj,enc,Nat.reduceAdd]
 (repeat' first|refine st ?_|refine sa fun xe hxe=>?_|refine sb (fun hq=>?_) fun hq=>?_|exact True.intro)
 all_goals (refine⟨?_,rfl⟩;simp_all[bef])
abbrev bU (v:Vtx):V:=.agg [.int .i64 v.round,.int .i64 v.author,.lst (.int .i64) v.parents,.int .i64 v.digest]
theorem lX {α:Type}[BEq α][LawfulBEq α]:∀{a b:List α},a.Nodup→a⊆b→a.length≤b.length
 |[],_,_,_=>Nat.zero_le _
 |x::a,b,h,hs=>by
  rw[List.nodup_cons] at h
  have hx:x∈b:=hs (List.mem_cons_self ..)
  have:=lX (b:=b.erase x) h.2 fun y hy=>by
   have hne:y≠x:=fun e=>h.1 (e▸hy)
   exact(List.mem_erase_of_ne hne).2 (hs (List.mem_cons_of_mem _ hy))
  rw[List.length_erase_of_mem hx] at this
  have:=List.length_pos_of_mem hx
  simp only[List.length_cons]
  omega
theorem ky {c ms:List Int}(h:bV c ms=true):ms.length≤c.length:=by
 have h1:=db h
 have h2:ms⊆(List.range c.length).map fun n:Nat=>(n:Int):=fun m hm=>by
  have:=h1 m hm
  rw[List.mem_map]
  exact⟨m.toNat,by rw[List.mem_range];omega,by omega⟩
 have h3:ms.Nodup:=(pu h).imp fun hab=>by omega
 have:=lX h3 h2
 simpa using this
theorem kz (c:List Int)(v:Vtx)(hc:comV c=true):ao Try.prog 80 [.lst (.int .i64) c,bU v] [] (.bool (vtxS c v)) []:=by
 refine af al Try.func80 rfl rfl false 0 4 rfl rfl rfl rfl fun K hK hb1 hb2=>?_;simp only[aj,enc,Nat.reduceAdd]
 simp[ab,V.toD,bnd,aa,D.cells] at hb1
 have h7:=(aF.1 hc).2
 have h8:((v.parents.length:Int)==0)=(v.parents.length==0):=by rw[Bool.eq_iff_iff,beq_iff_eq,beq_iff_eq];omega
 cases hm:bV c v.parents
 ·(repeat' first|refine st ?_|refine sa fun xe hxe=>?_|refine sb (fun hq=>?_) fun hq=>?_|exact True.intro|refine cr (nd _ _ _) ?_|refine cr (qG _ _) ?_|refine cr (oE _) ?_|refine cr (tG _ hc) ?_)
  all_goals (refine⟨?_,rfl⟩;simp_all[vtxS,bQ])
 ·have hl:=ky hm
  (repeat' first|refine st ?_|refine sa fun xe hxe=>?_|refine sb (fun hq=>?_) fun hq=>?_|exact True.intro|refine cr (nd _ _ _) ?_|refine cr (qG _ _) ?_|refine cr (oE _) ?_|refine cr (tG _ hc) ?_|((with_reducible refine i4 ?_);(conv=>whnf);(first|with_reducible refine cR (xS _ _ hc (db hm) (by omega)) ?_);conv=>whnf))
  all_goals (refine⟨?_,rfl⟩;simp_all[vtxS,bQ])
theorem a6 {α:Type}{l:List α}{P:α→Prop}{x:α}(h:∀y∈l,P y)(hx:P x):∀y∈l++[x],P y:=by
 intro y hy
 rcases List.mem_append.1 hy with hy|hy
 ·exact h y hy
 ·rw[List.mem_singleton.1 hy];exact hx
theorem mQ {α:Type}{l:List α}{p:α→Bool}{i:Nat}{x:α}(h:l[i]?=some x)(hn:∀y∈l.take i,p y=false)(hp:p x=true):l.findIdx? p=some i:=by
 obtain⟨hi,rfl⟩:=List.getElem?_eq_some_iff.1 h
 rw[List.findIdx?_eq_some_iff_getElem]
 refine⟨hi,hp,fun j hj=>?_⟩
 rw[hn _ (List.mem_of_getElem? (i:=j) (by rw[List.getElem?_take,if_pos hj,List.getElem?_eq_getElem]))]
 simp
theorem v8 (g:List Vtx)(r a:Int):ao Try.prog 85 [.lst .vtx g,.int .i64 r,.int .i64 a] [] (.int .i64 (qL g r a)) []:=by
 refine af al Try.func85 rfl rfl false 0 4 rfl rfl rfl rfl fun K hK hb1 hb2=>?_;simp only[aj,enc,Nat.reduceAdd]
 simp[ab,V.toD,bnd,aa,D.cells] at hb1
 (repeat' first|refine st ?_|refine sa fun xe hxe=>?_|refine sb (fun hq=>?_) fun hq=>?_|exact True.intro)
 refine ak hK [] [0,1,2,7] (fun i:Nat=>⟨[(0,.lst .vtx g),(1,.int .i64 r),(2,.int .i64 a),(7,.int .i64 i)],[],4⟩) (fun i=>i≤g.length∧∀v∈g.take i,gb r a v=false) (fun i=>g.length-i) 0 ⟨by simp,by simp⟩ rfl ?_
 rintro i ⟨hi,hall⟩
 by_cases hlt:i<g.length
 ·have hxe:g[i]?=some g[i]:=List.getElem?_eq_getElem hlt
  have h3:g.take (i+1)=g.take i++[g[i]]:=List.take_succ_eq_append_getElem hlt
  have h4:=mQ (l:=g) (p:=gb r a) hxe hall
  generalize g[i]=v at *
  have hA:gb r a v=(v.round==r && v.author==a):=rfl
  cases h1:v.round==r
  ·(repeat' first|refine st ?_|refine sa fun xe hxe=>?_|refine sb (fun hq=>?_) fun hq=>?_|exact True.intro)
   exact⟨i+1,⟨by omega,by rw[h3];exact a6 hall (by simp[hA,h1])⟩,by omega,rfl⟩
  ·cases h2:v.author==a
   ·(repeat' first|refine st ?_|refine sa fun xe hxe=>?_|refine sb (fun hq=>?_) fun hq=>?_|exact True.intro)
    exact⟨i+1,⟨by omega,by rw[h3];exact a6 hall (by simp[hA,h1,h2])⟩,by omega,rfl⟩
   ·(repeat' first|refine st ?_|refine sa fun xe hxe=>?_|refine sb (fun hq=>?_) fun hq=>?_|exact True.intro)
    refine⟨?_,rfl⟩
    rw[qL,h4 (by simp[hA,h1,h2])]
 ·(repeat' first|refine st ?_|refine sa fun xe hxe=>?_|refine sb (fun hq=>?_) fun hq=>?_|exact True.intro)
  refine⟨?_,rfl⟩
  rw[List.take_of_length_le (by omega)] at hall
  rw[qL,List.findIdx?_eq_none_iff.2 hall]
theorem zp (g:List Vtx)(r a:Int):decide (qL g r a<0)= !eg g r a:=by
 rw[←xy]
 unfold qL
 cases g.findIdx? (gb r a) with
 |none=>rfl
 |some i=>simp
theorem dK (g:List Vtx)(v:Vtx)(hr:-1000000<v.round∧v.round<1000000):ao Try.prog 59 [.lst .vtx g,bU v] [] (.bool (parOK g v)) []:=by
 refine af al Try.func59 rfl rfl false 0 4 rfl rfl rfl rfl fun K hK hb1 hb2=>?_;simp only[aj,enc,Nat.reduceAdd]
 simp[ab,V.toD,bnd,aa,D.cells,cz] at hb1
 (repeat' first|refine st ?_|refine sa fun xe hxe=>?_|refine sb (fun hq=>?_) fun hq=>?_|exact True.intro)
 refine ak hK [] [0,3,5] (fun i:Nat=>⟨[(0,.lst .vtx g),(3,.ptr 4 0),(5,.int .i64 i)],[(4,.var 59 (bU v).cells)],5⟩) (fun i=>i≤v.parents.length∧∀p∈v.parents.take i,eg g (v.round-1) p=true) (fun i=>v.parents.length-i) 0 ⟨by simp,by simp⟩ rfl ?_
 rintro i ⟨hi,hall⟩
 by_cases hlt:i<v.parents.length
 ·have hxe:v.parents[i]?=some v.parents[i]:=List.getElem?_eq_getElem hlt
  have h3:v.parents.take (i+1)=v.parents.take i++[v.parents[i]]:=List.take_succ_eq_append_getElem hlt
  have h4:v.parents[i]∈v.parents:=List.getElem_mem hlt
  generalize v.parents[i]=p at *
  have hlt2:=zp g (v.round-1) p
  cases h5:eg g (v.round-1) p
  ·have hlt2:qL g (v.round-1) p<0:=by simpa[h5] using hlt2
   (repeat' first|refine st ?_|refine sa fun xe hxe=>?_|refine sb (fun hq=>?_) fun hq=>?_|exact True.intro|refine cr (v8 _ _ _) ?_)
   refine⟨?_,rfl⟩
   have:parOK g v=false:=by
    rw[Bool.eq_false_iff]
    intro h
    rw[f7.1 h p h4] at h5
    cases h5
   rw[this]
  ·have hlt2:¬qL g (v.round-1) p<0:=by simpa[h5] using hlt2
   (repeat' first|refine st ?_|refine sa fun xe hxe=>?_|refine sb (fun hq=>?_) fun hq=>?_|exact True.intro|refine cr (v8 _ _ _) ?_)
   exact⟨i+1,⟨by omega,by rw[h3];exact a6 hall h5⟩,by omega,rfl⟩
 ·(repeat' first|refine st ?_|refine sa fun xe hxe=>?_|refine sb (fun hq=>?_) fun hq=>?_|exact True.intro)
  refine⟨?_,rfl⟩
  rw[List.take_of_length_le (by omega)] at hall
  rw[f7.2 hall]
theorem rH {c:List Int}{v:Vtx}(h:vtxS c v=true):-1000000<v.round∧v.round<1000000:=by
 have:=(cY h).1
 omega
theorem yR (c:List Int)(g:List Vtx):ao Try.prog 84 [.lst (.int .i64) c,.lst .vtx g] [] (.bool (graS c g)) []:=by
 refine af al Try.func84 rfl rfl false 0 4 rfl rfl rfl rfl fun K hK hb1 hb2=>?_;simp only[aj,enc,Nat.reduceAdd]
 simp[ab,V.toD,bnd,aa,D.cells] at hb1
 cases hc:comV c
 ·(repeat' first|refine st ?_|refine sa fun xe hxe=>?_|refine sb (fun hq=>?_) fun hq=>?_|exact True.intro|refine cr (qu _) ?_)
  exact⟨by simp[graS,hc],rfl⟩
 (repeat' first|refine st ?_|refine sa fun xe hxe=>?_|refine sb (fun hq=>?_) fun hq=>?_|exact True.intro|refine cr (qu _) ?_)
 refine ak hK [] [0,1,5] (fun i:Nat=>⟨[(0,.lst (.int .i64) c),(1,.lst .vtx g),(5,.int .i64 i)],[],4⟩) (fun i=>i≤g.length∧∀j,j<i→eA c g j=true) (fun i=>g.length-i) 0 ⟨by simp,by simp⟩ rfl ?_
 rintro i ⟨hi,hall⟩
 have hno:eA c g i=false→i<g.length→V.bool false=V.bool (graS c g)∧([]:VH)=[]:=fun h1 h2=>⟨by simp only[graS,hc,Bool.true_and];rw[bC h2 h1],rfl⟩
 by_cases hlt:i<g.length
 ·have hxe:g[i]?=some g[i]:=List.getElem?_eq_getElem hlt
  have hA:eA c g i=(vtxS c g[i] && ((i==0||bef (g.getD (i-1) v0) g[i]) && parOK g g[i])):=by simp only[eA,aU hxe]
  have hyes:eA c g i=true→∃y,(y≤g.length∧∀j,j<y→eA c g j=true)∧g.length-y<g.length-i∧VSt.mk [(0,.lst (.int .i64) c),(1,.lst .vtx g),(5,.int .i64 ((i:Int)+1))] [] 4=⟨[(0,.lst (.int .i64) c),(1,.lst .vtx g),(5,.int .i64 (y:Int))],[],4⟩:=fun h=>⟨i+1,⟨by omega,a5 hall h⟩,by omega,rfl⟩
  generalize g[i]=v at *
  cases h1:vtxS c v
  ·(repeat' first|refine st ?_|refine sa fun xe hxe=>?_|refine sb (fun hq=>?_) fun hq=>?_|exact True.intro|refine cr (kz _ _ hc) ?_)
   exact hno (by rw[hA,h1];rfl) hlt
  have h0:-1000000<v.round∧v.round<1000000:=rH h1
  rw[h1] at hA
  cases h3:parOK g v
  ·rw[h3] at hA
   by_cases hi0:i=0
   ·(repeat' first|refine st ?_|refine sa fun xe hxe=>?_|refine sb (fun hq=>?_) fun hq=>?_|exact True.intro|refine cr (kz _ _ hc) ?_|refine cr (dK _ _ h0) ?_)
    exact hno (by rw[hA];simp) hlt
   ·have hye:g[((i:Int)-1).toNat]?=some (g.getD (i-1) v0):=by rw[show ((i:Int)-1).toNat=i-1 by omega,List.getD_eq_getElem?_getD,List.getElem?_eq_getElem (show i-1<g.length by omega)];rfl
    generalize g.getD (i-1) v0=u at *
    (repeat' first|refine st ?_|refine sa fun xe hxe=>?_|refine sb (fun hq=>?_) fun hq=>?_|exact True.intro|refine cr (kz _ _ hc) ?_|refine cr (kw _ _) ?_|refine cr (dK _ _ h0) ?_)
    all_goals exact hno (by rw[hA];simp) hlt
  ·rw[h3] at hA
   by_cases hi0:i=0
   ·(repeat' first|refine st ?_|refine sa fun xe hxe=>?_|refine sb (fun hq=>?_) fun hq=>?_|exact True.intro|refine cr (kz _ _ hc) ?_|refine cr (dK _ _ h0) ?_)
    exact hyes (by rw[hA];simp[hi0])
   ·have hye:g[((i:Int)-1).toNat]?=some (g.getD (i-1) v0):=by rw[show ((i:Int)-1).toNat=i-1 by omega,List.getD_eq_getElem?_getD,List.getElem?_eq_getElem (show i-1<g.length by omega)];rfl
    generalize g.getD (i-1) v0=u at *
    cases h4:bef u v
    ·(repeat' first|refine st ?_|refine sa fun xe hxe=>?_|refine sb (fun hq=>?_) fun hq=>?_|exact True.intro|refine cr (kz _ _ hc) ?_|refine cr (kw _ _) ?_|refine cr (dK _ _ h0) ?_)
     exact hno (by rw[hA,h4];simp[hi0]) hlt
    ·(repeat' first|refine st ?_|refine sa fun xe hxe=>?_|refine sb (fun hq=>?_) fun hq=>?_|exact True.intro|refine cr (kz _ _ hc) ?_|refine cr (kw _ _) ?_|refine cr (dK _ _ h0) ?_)
     exact hyes (by rw[hA,h4];simp)
 ·(repeat' first|refine st ?_|refine sa fun xe hxe=>?_|refine sb (fun hq=>?_) fun hq=>?_|exact True.intro)
  refine⟨?_,rfl⟩
  have:i=g.length:=by omega
  subst this
  simp only[graS,hc,br hall,Bool.true_and]
theorem m8 (c:List Int):ao Try.prog 88 [.lst (.int .i64) c] [] (.bool (comV c)) []:=by
 refine af al Try.func88 rfl rfl false 0 4 rfl rfl rfl rfl fun K hK hb1 hb2=>?_;simp only[aj,enc,Nat.reduceAdd]
 simp[ab,V.toD,bnd,aa,D.cells] at hb1
 have hno:¬(1≤c.length∧c.length≤7)→V.bool false=V.bool (comV c)∧([]:VH)=[]:=fun h=>by
  refine⟨?_,rfl⟩
  have:comV c=false:=by rw[Bool.eq_false_iff];intro h2;exact h (aF.1 h2).2
  rw[this]
 (repeat' first|refine st ?_|refine sa fun xe hxe=>?_|refine sb (fun hq=>?_) fun hq=>?_|exact True.intro)
 ·exact hno (by omega)
 ·exact hno (by omega)
 refine ak hK [] [0,13,14,15] (fun i:Nat=>⟨[(0,.lst (.int .i64) c),(13,.lst (.int .i64) c),(14,.int .i64 c.length),(15,.int .i64 i)],[],4⟩) (fun i=>i≤c.length∧∀j,j<i→gx (c.getD j 0) 1 9=true) (fun i=>c.length-i) 0 ⟨by simp,by simp⟩ rfl ?_
 rintro i ⟨hi,hall⟩
 have hno:∀x,c[i]?=some x→¬(1≤x∧x≤9)→V.bool false=V.bool (comV c)∧([]:VH)=[]:=fun x hx h=>by
  refine⟨?_,rfl⟩
  have:comV c=false:=by rw[Bool.eq_false_iff];intro h2;exact h ((aF.1 h2).1 x (List.mem_of_getElem? hx))
  rw[this]
 by_cases hlt:i<c.length
 ·have hxe:c[i]?=some c[i]:=List.getElem?_eq_getElem hlt
  have hn:=hno _ hxe
  have hy:=a5 hall (p:=fun j=>gx (c.getD j 0) 1 9) (i:=i)
  simp only[aU hxe] at hy
  generalize c[i]=x at *
  (repeat' first|refine st ?_|refine sa fun xe hxe=>?_|refine sb (fun hq=>?_) fun hq=>?_|exact True.intro)
  ·exact hn (by omega)
  ·exact hn (by omega)
  ·exact⟨i+1,⟨by omega,hy (aJ.2 (by omega))⟩,by omega,rfl⟩
 ·(repeat' first|refine st ?_|refine sa fun xe hxe=>?_|refine sb (fun hq=>?_) fun hq=>?_|exact True.intro)
  refine⟨?_,rfl⟩
  have:i=c.length:=by omega
  subst this
  have h1:gx c.length 1 7=true:=aJ.2 (by omega)
  simp only[comV,br hall,Bool.true_and,h1]
theorem gK (c:List Int):ao Try.prog 66 [.lst (.int .i64) c] [] (.bool (comV c)) []:=by
 refine af al Try.func66 rfl rfl false 0 4 rfl rfl rfl rfl fun K hK hb1 hb2=>?_;simp only[aj,enc,Nat.reduceAdd]
 (repeat' first|refine st ?_|refine sa fun xe hxe=>?_|refine sb (fun hq=>?_) fun hq=>?_|exact True.intro|refine cr (m8 _) ?_)
 exact⟨rfl,rfl⟩
theorem vP (c:List Int)(hc:comV c=true):ao Try.prog 90 [.lst (.int .i64) c] [] (.int .i64 (lA c)) []:=by
 have hc1:=aF.1 hc
 refine af al Try.func90 rfl rfl false 0 4 rfl rfl rfl rfl fun K hK hb1 hb2=>?_;simp only[aj,enc,Nat.reduceAdd]
 clear hb1 hb2
 (repeat' first|refine st ?_|refine sa fun xe hxe=>?_|refine sb (fun hq=>?_) fun hq=>?_|exact True.intro)
 refine ak hK [] [0,3,6,7,8] (fun i:Nat=>⟨[(0,.lst (.int .i64) c),(3,.int .i64 (lA (c.take i))),(6,.lst (.int .i64) c),(7,.int .i64 c.length),(8,.int .i64 i)],[],4⟩) (fun i=>i≤c.length) (fun i=>c.length-i) 0 (by simp) rfl ?_
 intro i hi
 have hb:=t6 hc i
 by_cases hlt:i<c.length
 ·have hxe:c[i]?=some c[i]:=List.getElem?_eq_getElem hlt
  have hb2:=hc1.1 _ (List.mem_of_getElem? hxe)
  have hsn:=pA hxe
  generalize c[i]=x at *
  (repeat' first|refine st ?_|refine sa fun xe hxe=>?_|refine sb (fun hq=>?_) fun hq=>?_|exact True.intro)
  exact⟨i+1,by omega,by omega,by rw[hsn];rfl⟩
 (repeat' first|refine st ?_|refine sa fun xe hxe=>?_|refine sb (fun hq=>?_) fun hq=>?_|exact True.intro)
 rw[List.take_of_length_le (by omega)]
 exact⟨rfl,rfl⟩
theorem y5 (c:List Int)(hc:comV c=true):ao Try.prog 89 [.lst (.int .i64) c] [] (.int .i64 (quo c)) []:=by
 have h1:=i0 hc
 have h2:=va hc
 have h3:(2*lA c).tdiv 3+1=quo c:=rfl
 refine af al Try.func89 rfl rfl false 0 4 rfl rfl rfl rfl fun K hK hb1 hb2=>?_;simp only[aj,enc,Nat.reduceAdd]
 (repeat' first|refine st ?_|refine sa fun xe hxe=>?_|refine sb (fun hq=>?_) fun hq=>?_|exact True.intro|refine cr (vP _ hc) ?_)
 exact⟨rfl,rfl⟩
theorem sd (c:List Int):ao Try.prog 65 [.lst (.int .i64) c] [] (.int .i64 (if comV c then quo c else-1)) []:=by
 refine af al Try.func65 rfl rfl false 0 4 rfl rfl rfl rfl fun K hK hb1 hb2=>?_;simp only[aj,enc,Nat.reduceAdd]
 cases hc:comV c
 ·(repeat' first|refine st ?_|refine sa fun xe hxe=>?_|refine sb (fun hq=>?_) fun hq=>?_|exact True.intro|refine cr (m8 _) ?_)
  exact⟨rfl,rfl⟩
 ·(repeat' first|refine st ?_|refine sa fun xe hxe=>?_|refine sb (fun hq=>?_) fun hq=>?_|exact True.intro|refine cr (m8 _) ?_|refine cr (y5 _ hc) ?_)
  exact⟨rfl,rfl⟩
theorem cm (c:List Int)(m:Int):ao Try.prog 67 [.lst (.int .i64) c,.int .i64 m] [] (.bool (bQ c m)) []:=by
 refine af al Try.func67 rfl rfl false 0 4 rfl rfl rfl rfl fun K hK hb1 hb2=>?_;simp only[aj,enc,Nat.reduceAdd]
 simp[ab,V.toD,bnd,aa,D.cells] at hb1
 (repeat' first|refine st ?_|refine sa fun xe hxe=>?_|refine sb (fun hq=>?_) fun hq=>?_|exact True.intro)
 all_goals (refine⟨congrArg V.bool ?_,rfl⟩;rw[Bool.eq_iff_iff];simp only[bQ,aJ,decide_eq_true_eq];(try simp);omega)
theorem gq (r:Int):ao Try.prog 91 [.int .i64 r] [] (.bool (gx r 0 30)) []:=by
 refine af al Try.func91 rfl rfl false 0 4 rfl rfl rfl rfl fun K hK hb1 hb2=>?_;simp only[aj,enc,Nat.reduceAdd]
 (repeat' first|refine st ?_|refine sa fun xe hxe=>?_|refine sb (fun hq=>?_) fun hq=>?_|exact True.intro)
 all_goals (refine⟨congrArg V.bool ?_,rfl⟩;rw[Bool.eq_iff_iff];simp only[aJ,decide_eq_true_eq];(try simp);omega)
theorem yw (r:Int):ao Try.prog 92 [.int .i64 r] [] (.bool (gx r 0 990)) []:=by
 refine af al Try.func92 rfl rfl false 0 4 rfl rfl rfl rfl fun K hK hb1 hb2=>?_;simp only[aj,enc,Nat.reduceAdd]
 (repeat' first|refine st ?_|refine sa fun xe hxe=>?_|refine sb (fun hq=>?_) fun hq=>?_|exact True.intro)
 all_goals (refine⟨congrArg V.bool ?_,rfl⟩;rw[Bool.eq_iff_iff];simp only[aJ,decide_eq_true_eq];(try simp);omega)
theorem wY (c ms:List Int):ao Try.prog 93 [.lst (.int .i64) c,.lst (.int .i64) ms] [] (.bool (bV c ms)) []:=by
 refine af al Try.func93 rfl rfl false 0 4 rfl rfl rfl rfl fun K hK hb1 hb2=>?_;simp only[aj,enc,Nat.reduceAdd]
 simp[ab,V.toD,bnd,aa,D.cells] at hb1
 (repeat' first|refine st ?_|refine sa fun xe hxe=>?_|refine sb (fun hq=>?_) fun hq=>?_|exact True.intro)
 refine ak hK [] [0,1,7,8,9] (fun i:Nat=>⟨[(0,.lst (.int .i64) c),(1,.lst (.int .i64) ms),(7,.lst (.int .i64) ms),(8,.int .i64 ms.length),(9,.int .i64 i)],[],4⟩) (fun i=>i≤ms.length∧∀j,j<i→dU c ms j=true) (fun i=>ms.length-i) 0 ⟨by simp,by simp⟩ rfl ?_
 rintro i ⟨hi,hall⟩
 have hno:dU c ms i=false→i<ms.length→V.bool false=V.bool (bV c ms)∧([]:VH)=[]:=fun h1 h2=>by
  have:bV c ms=false:=bC h2 h1
  rw[this]
  exact⟨rfl,rfl⟩
 by_cases hlt:i<ms.length
 ·have hxe:ms[i]?=some ms[i]:=List.getElem?_eq_getElem hlt
  have hA:dU c ms i=(bQ c ms[i] && (i==0||decide (ms.getD (i-1) 0<ms[i]))):=by simp only[dU,aU hxe]
  have hyes:dU c ms i=true→∃y,(y≤ms.length∧∀j,j<y→dU c ms j=true)∧ms.length-y<ms.length-i∧VSt.mk [(0,.lst (.int .i64) c),(1,.lst (.int .i64) ms),(7,.lst (.int .i64) ms),(8,.int .i64 ms.length),(9,.int .i64 ((i:Int)+1))] [] 4=⟨[(0,.lst (.int .i64) c),(1,.lst (.int .i64) ms),(7,.lst (.int .i64) ms),(8,.int .i64 ms.length),(9,.int .i64 (y:Int))],[],4⟩:=fun h=>⟨i+1,⟨by omega,a5 hall h⟩,by omega,rfl⟩
  generalize ms[i]=m at *
  cases h1:bQ c m
  ·(repeat' first|refine st ?_|refine sa fun xe hxe=>?_|refine sb (fun hq=>?_) fun hq=>?_|exact True.intro|refine cr (cm _ _) ?_)
   exact hno (by rw[hA,h1];rfl) hlt
  by_cases hi0:i=0
  ·(repeat' first|refine st ?_|refine sa fun xe hxe=>?_|refine sb (fun hq=>?_) fun hq=>?_|exact True.intro|refine cr (cm _ _) ?_)
   exact hyes (by rw[hA,h1];simp[hi0])
  ·have hye:ms[((i:Int)-1).toNat]?=some (ms.getD (i-1) 0):=by rw[show ((i:Int)-1).toNat=i-1 by omega,List.getD_eq_getElem?_getD,List.getElem?_eq_getElem (show i-1<ms.length by omega)];rfl
   generalize ms.getD (i-1) 0=u at *
   (repeat' first|refine st ?_|refine sa fun xe hxe=>?_|refine sb (fun hq=>?_) fun hq=>?_|exact True.intro|refine cr (cm _ _) ?_)
   ·exact hno (by rw[hA,h1];simp;omega) hlt
   ·exact hyes (by rw[hA,h1];simp;omega)
 ·(repeat' first|refine st ?_|refine sa fun xe hxe=>?_|refine sb (fun hq=>?_) fun hq=>?_|exact True.intro)
  refine⟨?_,rfl⟩
  have:i=ms.length:=by omega
  subst this
  have:bV c ms=true:=br hall
  rw[this]
theorem jV (c ms:List Int):ao Try.prog 70 [.lst (.int .i64) c,.lst (.int .i64) ms] [] (.bool (comV c && bV c ms)) []:=by
 refine af al Try.func70 rfl rfl false 0 4 rfl rfl rfl rfl fun K hK hb1 hb2=>?_;simp only[aj,enc,Nat.reduceAdd]
 (repeat' first|refine st ?_|refine sa fun xe hxe=>?_|refine sb (fun hq=>?_) fun hq=>?_|exact True.intro|refine cr (m8 _) ?_|refine cr (wY _ _) ?_)
 all_goals (refine⟨?_,rfl⟩;simp_all)
theorem zC (c ms:List Int)(hc:comV c=true)(hm:∀m∈ms,0≤m∧m<c.length)(hl:ms.length≤2000000):ao Try.prog 87 [.lst (.int .i64) c,.lst (.int .i64) ms] [] (.int .i64 (pe c ms)) []:=by
 refine af al Try.func87 rfl rfl false 0 4 rfl rfl rfl rfl fun K hK hb1 hb2=>?_;simp only[aj,enc,Nat.reduceAdd]
 clear hb1 hb2
 (repeat' first|refine st ?_|refine sa fun xe hxe=>?_|refine sb (fun hq=>?_) fun hq=>?_|exact True.intro)
 refine ak hK [] [0,1,5,8,9,10] (fun i:Nat=>⟨[(0,.lst (.int .i64) c),(1,.lst (.int .i64) ms),(5,.int .i64 (pe c (ms.take i))),(8,.lst (.int .i64) ms),(9,.int .i64 ms.length),(10,.int .i64 i)],[],4⟩) (fun i=>i≤ms.length) (fun i=>ms.length-i) 0 (by simp) rfl ?_
 intro i hi
 by_cases hlt:i<ms.length
 ·have hxe:ms[i]?=some ms[i]:=List.getElem?_eq_getElem hlt
  have h1:=hm _ (List.getElem_mem hlt)
  have h2:=uC (ms:=ms.take i) hc
  have h3:=uI (c:=c) hxe
  rw[List.length_take] at h2
  generalize ms[i]=m at *
  have hx2:c[m.toNat]?=some (c.getD m.toNat 0):=by rw[List.getD_eq_getElem?_getD,List.getElem?_eq_getElem (show m.toNat<c.length by omega)];rfl
  have h4:=(aF.1 hc).1 _ (List.mem_of_getElem? hx2)
  generalize c.getD m.toNat 0=x at *
  (repeat' first|refine st ?_|refine sa fun xe hxe=>?_|refine sb (fun hq=>?_) fun hq=>?_|exact True.intro)
  exact⟨i+1,by omega,by omega,by rw[h3];rfl⟩
 (repeat' first|refine st ?_|refine sa fun xe hxe=>?_|refine sb (fun hq=>?_) fun hq=>?_|exact True.intro)
 rw[List.take_of_length_le (by omega)]
 exact⟨rfl,rfl⟩
def sY (c ms:List Int):Int:=if comV c && bV c ms then pe c ms else-1
theorem se (c ms:List Int):ao Try.prog 64 [.lst (.int .i64) c,.lst (.int .i64) ms] [] (.int .i64 (sY c ms)) []:=by
 refine af al Try.func64 rfl rfl false 0 4 rfl rfl rfl rfl fun K hK hb1 hb2=>?_;simp only[aj,enc,Nat.reduceAdd]
 cases hv:comV c && bV c ms
 ·(repeat' first|refine st ?_|refine sa fun xe hxe=>?_|refine sb (fun hq=>?_) fun hq=>?_|exact True.intro|refine cr (jV _ _) ?_)
  exact⟨by simp[sY,hv],rfl⟩
 ·have hc:comV c=true:=by simp_all
  have hm:bV c ms=true:=by simp_all
  have h7:=(aF.1 hc).2
  have hl:=ky hm
  (repeat' first|refine st ?_|refine sa fun xe hxe=>?_|refine sb (fun hq=>?_) fun hq=>?_|exact True.intro|refine cr (jV _ _) ?_|((with_reducible refine i4 ?_);(conv=>whnf);(first|with_reducible refine cR (zC _ _ hc (db hm) (by omega)) ?_);conv=>whnf))
  exact⟨by simp[sY,hv],rfl⟩
theorem qz (v u:Vtx):ao Try.prog 102 [bU v,bU u] [] (.bool (bef v u)) []:=by
 refine af al Try.func102 rfl rfl false 0 4 rfl rfl rfl rfl fun K hK hb1 hb2=>?_;simp only[aj,enc,Nat.reduceAdd]
 (repeat' first|refine st ?_|refine sa fun xe hxe=>?_|refine sb (fun hq=>?_) fun hq=>?_|exact True.intro)
 all_goals (refine⟨?_,rfl⟩;simp_all[bef])
theorem fo (c:List Int)(v:Vtx):ao Try.prog 69 [.lst (.int .i64) c,bU v] [] (.bool (comV c && vtxS c v)) []:=by
 refine af al Try.func69 rfl rfl false 0 4 rfl rfl rfl rfl fun K hK hb1 hb2=>?_;simp only[aj,enc,Nat.reduceAdd]
 simp[ab,V.toD,bnd,aa,D.cells] at hb1
 have h8:((v.parents.length:Int)==0)=(v.parents.length==0):=by rw[Bool.eq_iff_iff,beq_iff_eq,beq_iff_eq];omega
 (repeat' first|refine st ?_|refine sa fun xe hxe=>?_|refine sb (fun hq=>?_) fun hq=>?_|exact True.intro|refine cr (jV _ _) ?_|refine cr (gq _) ?_|refine cr (cm _ _) ?_|refine cr (yw _) ?_|refine cr (se _ _) ?_|refine cr (sd _) ?_)
 all_goals (refine⟨?_,rfl⟩;simp_all[vtxS,bQ,sY])
def Θg:TT:=(119,⟨.ptr 125,1,8,some (.nilp),some (.hp 0),false⟩)::Θ
theorem dB:TT.ok Try.prog Θg:=TT.okB_ok (by kernel_rfl)
theorem j4 {P Q:Prop}(h:Q)(s:Hid Q→P:=by
  intro h
  (first|(with_reducible first|apply dD|apply dr)|((first|with_reducible apply b6 dB|refine go ?_|(with_reducible first|apply dg|apply cI|apply b7|apply b5|refine b8 dB mixed (by kernel_rfl) ?_))<;>conv=>whnf))
  repeat(first|(with_reducible first|apply dD|apply dr)|((first|with_reducible apply b6 dB|refine go ?_|(with_reducible first|apply dg|apply cI|apply b7|apply b5|refine b8 dB mixed (by kernel_rfl) ?_))<;>conv=>whnf))
  exact h.h):P:=s ⟨h⟩
abbrev gZ (c:List Int)(s:GS):VH:=[(0,.fvar 125 (.nod 1) s.nodes),(1,.frow 119 (.hp 0) s.rows),(4,.vari 123 [.lst (.int .i64) c,.nils] 217 (.hp 0) s.plc [])]
abbrev BD (c:List Int)(s:GS)(x:VB):VH:=[(0,.fvar 125 (.nod 1) s.nodes),(1,.frow 119 (.hp 0) s.rows),(4,.vari 123 [.lst (.int .i64) c,.nils] 217 (.hp 0) s.plc []),(5,x)]
abbrev gR (c:List Int)(s:GS):VH:=[(0,.fvar 125 (.nod 1) s.nodes),(1,.frow 119 (.hp 0) s.rows),(4,.vari 123 [.lst (.int .i64) c,.ref 5] 217 (.hp 0) s.plc []),(5,.row 119 (.hp 0) ((List.range s.nodes.length).map some))]
abbrev Bz (c:List Int)(s:GS)(x:VB):VH:=[(0,.fvar 125 (.nod 1) s.nodes),(1,.frow 119 (.hp 0) s.rows),(4,.vari 123 [.lst (.int .i64) c,.ref 5] 217 (.hp 0) s.plc []),(5,.row 119 (.hp 0) ((List.range s.nodes.length).map some)),(6,x)]
theorem jM {s:GS}(hs:s.plc.length=217){r a:Int}(hr:gx r 0 30=true)(ha:0≤a∧a≤6):s.plc[r.toNat * 7+a.toNat]?=some (s.at r a):=by
 have hr:=aJ.1 hr
 have e:(r*7+a).toNat=r.toNat * 7+a.toNat:=by omega
 rw[GS.at,e,List.getD_eq_getElem?_getD,List.getElem?_eq_getElem (by omega)]
 rfl
def jn (s:GS)(r:Int)(n:Nat):List Int:=((List.range n).filter fun a:Nat=>gx r 0 30 && (s.at r (a:Int)).isSome).map fun a:Nat=>(a:Int)
theorem yX (s:GS)(r:Int)(n:Nat):jn s r (n+1)=if gx r 0 30 && (s.at r (n:Int)).isSome then jn s r n++[(n:Int)] else jn s r n:=by
 simp only[jn,List.range_succ,List.filter_append,List.map_append,List.filter_cons,List.filter_nil]
 split<;>simp
theorem z7 (s:GS)(r:Int)(n:Nat):(jn s r n).length≤n:=by
 unfold jn
 rw[List.length_map]
 exact Nat.le_trans (List.length_filter_le _ _) (by simp)
theorem Bq (c:List Int)(s:GS)(r a:Int)(h:(gx r 0 30 && bQ c a)=false):ao Try.prog 104 [.ptr 4 0,.int .i64 r,.int .i64 a] (gR c s) .nilp (gR c s):=by
 refine af dB Try.func104 rfl rfl false 2 6 rfl rfl rfl rfl fun K hK hb1 hb2=>?_;simp only[aj,enc,Nat.reduceAdd]
 clear hb1 hb2
 cases h1:gx r 0 30
 ·(repeat' first|refine st ?_|refine sa fun xe hxe=>?_|refine sb (fun hq=>?_) fun hq=>?_|exact True.intro|refine cr (gq _) ?_|refine cr (cm _ _) ?_)
  exact⟨rfl,rfl⟩
 ·have h2:bQ c a=false:=by simp_all
  (repeat' first|refine st ?_|refine sa fun xe hxe=>?_|refine sb (fun hq=>?_) fun hq=>?_|exact True.intro|refine cr (gq _) ?_|refine cr (cm _ _) ?_)
  exact⟨rfl,rfl⟩
theorem mL (c:List Int)(s:GS)(r a:Int)(hs:s.plc.length=217)(hc:c.length≤7)(h1:gx r 0 30=true)(h2:bQ c a=true):ao Try.prog 104 [.ptr 4 0,.int .i64 r,.int .i64 a] (gR c s) (.hpo 0 (s.at r a)) (gR c s):=by
 refine af dB Try.func104 rfl rfl false 2 6 rfl rfl rfl rfl fun K hK hb1 hb2=>?_;simp only[aj,enc,Nat.reduceAdd]
 clear hb1 hb2
 have hr:=aJ.1 h1
 have ha:=aJ.1 h2
 have hp:=jM hs h1 (a:=a) (by omega)
 (repeat' first|refine st ?_|refine sa fun xe hxe=>?_|refine sb (fun hq=>?_) fun hq=>?_|exact True.intro|refine cr (gq _) ?_|refine cr (cm _ _) ?_)
 exact⟨rfl,rfl⟩
theorem Be (c:List Int)(s:GS)(r a:Int)(h:(gx r 0 30 && bQ c a)=false):ao Try.prog 104 [.ptr 4 0,.int .i64 r,.int .i64 a] (gZ c s) .nilp (gZ c s):=by
 refine af dB Try.func104 rfl rfl false 1 5 rfl rfl rfl rfl fun K hK hb1 hb2=>?_;simp only[aj,enc,Nat.reduceAdd]
 clear hb1 hb2
 cases h1:gx r 0 30
 ·(repeat' first|refine st ?_|refine sa fun xe hxe=>?_|refine sb (fun hq=>?_) fun hq=>?_|exact True.intro|refine cr (gq _) ?_|refine cr (cm _ _) ?_)
  exact⟨rfl,rfl⟩
 ·have h2:bQ c a=false:=by simp_all
  (repeat' first|refine st ?_|refine sa fun xe hxe=>?_|refine sb (fun hq=>?_) fun hq=>?_|exact True.intro|refine cr (gq _) ?_|refine cr (cm _ _) ?_)
  exact⟨rfl,rfl⟩
theorem y9 (c:List Int)(s:GS)(r a:Int)(hs:s.plc.length=217)(hc:c.length≤7)(h1:gx r 0 30=true)(h2:bQ c a=true):ao Try.prog 104 [.ptr 4 0,.int .i64 r,.int .i64 a] (gZ c s) (.hpo 0 (s.at r a)) (gZ c s):=by
 refine af dB Try.func104 rfl rfl false 1 5 rfl rfl rfl rfl fun K hK hb1 hb2=>?_;simp only[aj,enc,Nat.reduceAdd]
 clear hb1 hb2
 have hr:=aJ.1 h1
 have ha:=aJ.1 h2
 have hp:=jM hs h1 (a:=a) (by omega)
 (repeat' first|refine st ?_|refine sa fun xe hxe=>?_|refine sb (fun hq=>?_) fun hq=>?_|exact True.intro|refine cr (gq _) ?_|refine cr (cm _ _) ?_)
 exact⟨rfl,rfl⟩
abbrev gO (c:List Int)(s:GS):VH:=[(0,.fvar 125 (.nod 1) s.nodes),(1,.frow 119 (.hp 0) s.rows),(4,.vari 123 [.lst (.int .i64) c,.ref 6] 217 (.hp 0) s.plc []),(5,.gone),(6,.row 119 (.hp 0) ((List.range s.nodes.length).map some))]
theorem mm (s:GS)(v:Vtx):(List.range s.nodes.length).map some++[some s.nodes.length]=(List.range (bj s v).nodes.length).map some:=by
 simp[bj,List.range_succ]
theorem ji (s:GS)(v:Vtx)(h:0≤v.round∧0≤v.author):s.plc.set (v.round.toNat * 7+v.author.toNat) (some s.nodes.length)=(bj s v).plc:=by
 have e:(v.round*7+v.author).toNat=v.round.toNat * 7+v.author.toNat:=by omega
 simp only[bj,e]
def iR (s:GS)(v:Vtx):Bool:=v.parents.all fun p=>(s.at (v.round-1) p).isSome
abbrev wM (v:Vtx)(n:Int)(p:V):VB:=.var 125 [.int .i64 v.round,.int .i64 v.author,.lst (.int .i64) v.parents,.int .i64 v.digest,.int .i64 n,p]
abbrev wD (s:GS)(v:Vtx)(i:Nat):VB:=.row 119 (.hp 0) ((v.parents.take i).map fun p=>s.at (v.round-1) p)
def mJ (c:List Int)(s:GS)(v:Vtx):Nat→VSt
 |0=>⟨[(0,.ptr 4 0),(3,.ptr 6 0),(5,.ptr 7 0),(18,.lst (.int .i64) v.parents),(19,.int .i64 v.parents.length),(20,.int .i64 0)],gR c s++[(6,.var 59 (bU v).cells),(7,wM v s.nodes.length .nils)],8⟩
 |i+1=>⟨[(0,.ptr 4 0),(3,.ptr 6 0),(5,.ptr 7 0),(18,.lst (.int .i64) v.parents),(19,.int .i64 v.parents.length),(20,.int .i64 ((i+1:Nat):Int))],gR c s++[(6,.var 59 (bU v).cells),(7,wM v s.nodes.length (.ref 8)),(8,wD s v (i+1))],9⟩
theorem wX (c:List Int)(s:GS)(v:Vtx)(hs:s.plc.length=217)(hc:comV c=true)(hv:vtxS c v=true)(hn:s.nodes.length≤2000000):ao Try.prog 103 [.ptr 4 0,bU v] (gR c s) (.bool (iR s v)) (if iR s v then gO c (bj s v) else gR c s):=by
 have h7:=(aF.1 hc).2
 obtain⟨v1,v2,v3,v4,v5,v6⟩:=cY hv
 have hml:=ky v3
 have hmi:=db v3
 have hrl:((List.range s.nodes.length).map some).length=s.nodes.length:=by simp
 refine af dB Try.func103 rfl rfl false 2 6 rfl rfl rfl rfl fun K hK hb1 hb2=>?_;simp only[aj,enc,Nat.reduceAdd]
 clear hb1 hb2
 (repeat' first|refine j4 ?_|refine sa fun xe hxe=>?_|refine sb (fun hq=>?_) fun hq=>?_|exact True.intro)
 refine ak hK [] [0,3,5,18,19,20] (mJ c s v) (fun i=>i≤v.parents.length∧∀p∈v.parents.take i,(s.at (v.round-1) p).isSome=true) (fun i=>v.parents.length-i) 0 ⟨by simp,by simp⟩ (by simp only[hrl];rfl) ?_
 rintro i ⟨hi,hall⟩
 have hno:∀p∈v.parents,s.at (v.round-1) p=none→iR s v=false:=fun p hp h=>by
  rw[Bool.eq_false_iff]
  intro h2
  have:=List.all_eq_true.1 h2 p hp
  rw[h] at this
  cases this
 by_cases hlt:i<v.parents.length
 ·have hxe:v.parents[i]?=some v.parents[i]:=List.getElem?_eq_getElem hlt
  have h3:v.parents.take (i+1)=v.parents.take i++[v.parents[i]]:=List.take_succ_eq_append_getElem hlt
  have h4:v.parents[i]∈v.parents:=List.getElem_mem hlt
  have hr0:v.round≠0:=fun h=>by rw[v5 h] at hlt;simp at hlt
  have h1:gx (v.round-1) 0 30=true:=aJ.2 (by omega)
  have hlk:mJ c s v (i+1)=⟨[(0,.ptr 4 0),(3,.ptr 6 0),(5,.ptr 7 0),(18,.lst (.int .i64) v.parents),(19,.int .i64 v.parents.length),(20,.int .i64 ((i+1:Nat):Int))],gR c s++[(6,.var 59 (bU v).cells),(7,wM v s.nodes.length (.ref 8)),(8,.row 119 (.hp 0) (((v.parents.take i).map fun p=>s.at (v.round-1) p)++[s.at (v.round-1) v.parents[i]]))],9⟩:=by
   rw[mJ,wD,h3,List.map_append];rfl
  generalize v.parents[i]=p at *
  have h2:bQ c p=true:=aJ.2 (by have:=hmi p h4;omega)
  have hl2:((v.parents.take i).map fun p=>s.at (v.round-1) p).length=i:=by rw[List.length_map,List.length_take];omega
  cases h5:s.at (v.round-1) p with
  |none=>
   have hin:(s.at (v.round-1) p).isNone=true:=by rw[h5];rfl
   have hnn:=hno p h4 h5
   cases i with
   |zero=>
    have hx0:v.parents[(0:Int).toNat]?=some p:=hxe
    unfold mJ
    (repeat' first|refine j4 ?_|refine sa fun xe hxe=>?_|refine sb (fun hq=>?_) fun hq=>?_|exact True.intro|refine co (mL c s (v.round-1) p hs h7.2 h1 h2) ?_)
    exact⟨by rw[hnn],by rw[hnn];rfl⟩
   |succ i=>
    unfold mJ
    (repeat' first|refine j4 ?_|refine sa fun xe hxe=>?_|refine sb (fun hq=>?_) fun hq=>?_|exact True.intro|refine co (mL c s (v.round-1) p hs h7.2 h1 h2) ?_)
    exact⟨by rw[hnn],by rw[hnn];rfl⟩
  |some k=>
   have hin:(s.at (v.round-1) p).isNone=false:=by rw[h5];rfl
   cases i with
   |zero=>
    have hx0:v.parents[(0:Int).toNat]?=some p:=hxe
    unfold mJ
    (repeat' first|refine j4 ?_|refine sa fun xe hxe=>?_|refine sb (fun hq=>?_) fun hq=>?_|exact True.intro|refine co (mL c s (v.round-1) p hs h7.2 h1 h2) ?_)
    refine⟨0+1,⟨by omega,by rw[h3];exact a6 hall (by rw[h5];rfl)⟩,by omega,?_⟩
    refine Eq.trans ?_ hlk.symm
    rfl
   |succ i=>
    unfold mJ
    simp only[wD]
    generalize (List.map (fun p=>s.at (v.round-1) p) (List.take (i+1) v.parents))=ps at *
    (repeat' first|refine j4 ?_|refine sa fun xe hxe=>?_|refine sb (fun hq=>?_) fun hq=>?_|exact True.intro|refine co (mL c s (v.round-1) p hs h7.2 h1 h2) ?_)
    refine⟨i+1+1,⟨by omega,by rw[h3];exact a6 hall (by rw[h5];rfl)⟩,by omega,?_⟩
    refine Eq.trans ?_ hlk.symm
    rfl
 ·rw[List.take_of_length_le (by omega)] at hall
  have hy:iR s v=true:=List.all_eq_true.2 hall
  have hpl:=jM hs (aJ.2 v1) (a:=v.author) (by omega)
  cases i with
  |zero=>
   unfold mJ
   simp only[gR]
   generalize hnr:(List.map some (List.range s.nodes.length))=nr at *
   (repeat' first|refine j4 ?_|refine sa fun xe hxe=>?_|refine sb (fun hq=>?_) fun hq=>?_|exact True.intro)
   rw[hy]
   refine⟨rfl,?_⟩
   have e1:=mm s v
   have e2:=ji s v ⟨v1.1,v2.1⟩
   simp only[if_true,gO]
   rw[←e1,←e2,hnr]
   have e3:v.parents=[]:=List.length_eq_zero_iff.1 (by omega)
   have e4:(bj s v).nodes=s.nodes++[⟨v,s.nodes.length,none⟩]:=by simp[bj,e3]
   have e5:(bj s v).rows=s.rows:=by simp[bj,e3]
   rw[e4,e5]
  |succ i=>
   unfold mJ
   simp only[wD]
   generalize hps:(List.map (fun p=>s.at (v.round-1) p) (List.take (i+1) v.parents))=ps at *
   simp only[gR]
   generalize hnr:(List.map some (List.range s.nodes.length))=nr at *
   (repeat' first|refine j4 ?_|refine sa fun xe hxe=>?_|refine sb (fun hq=>?_) fun hq=>?_|exact True.intro)
   rw[hy]
   refine⟨rfl,?_⟩
   have e1:=mm s v
   have e2:=ji s v ⟨v1.1,v2.1⟩
   simp only[if_true,gO]
   rw[←e1,←e2,hnr]
   have e3:v.parents≠[]:=fun h=>by rw[h] at hi;simp at hi
   rw[List.take_of_length_le (by omega)] at hps
   simp only[bj,e3,if_false,hps]
theorem tJ (r a:Int):jl.at r a=none:=by
 simp only[jl,GS.at,List.getD_eq_getElem?_getD,List.getElem?_replicate]
 split<;>rfl
theorem Aq (v:Vtx):iR jl v=v.parents.isEmpty:=by
 unfold iR
 cases v.parents with
 |nil=>rfl
 |cons p l=>simp[tJ]
theorem xw (c:List Int)(v:Vtx)(hc:comV c=true)(hv:vtxS c v=true):ao Try.prog 103 [.ptr 4 0,bU v] (gZ c jl) (.bool (iR jl v)) (if iR jl v then gR c (bj jl v) else gZ c jl):=by
 have h7:=(aF.1 hc).2
 have hs:jl.plc.length=217:=List.length_replicate
 obtain⟨v1,v2,v3,v4,v5,v6⟩:=cY hv
 have hmi:=db v3
 refine af dB Try.func103 rfl rfl false 1 5 rfl rfl rfl rfl fun K hK hb1 hb2=>?_;simp only[aj,enc,Nat.reduceAdd]
 clear hb1 hb2
 (repeat' first|refine j4 ?_|refine sa fun xe hxe=>?_|refine sb (fun hq=>?_) fun hq=>?_|exact True.intro)
 refine ak hK [] [0,3,5,18,19,20] (fun i:Nat=>⟨[(0,.ptr 4 0),(3,.ptr 5 0),(5,.ptr 6 0),(18,.lst (.int .i64) v.parents),(19,.int .i64 v.parents.length),(20,.int .i64 0)],gZ c jl++[(5,.var 59 (bU v).cells),(6,wM v 0 .nils)],7⟩) (fun i=>i=0) (fun i=>i) 0 rfl (by simp only[List.length_nil];rfl) ?_
 rintro i rfl
 have hy:=Aq v
 by_cases hlt:0<v.parents.length
 ·have hxe:v.parents[0]?=some v.parents[0]:=List.getElem?_eq_getElem hlt
  have h4:v.parents[0]∈v.parents:=List.getElem_mem hlt
  have hr0:v.round≠0:=fun h=>by rw[v5 h] at hlt;simp at hlt
  have h1:gx (v.round-1) 0 30=true:=aJ.2 (by omega)
  have hne:v.parents.isEmpty=false:=by cases h:v.parents with|nil=>rw[h] at hlt;simp at hlt|cons _ _=>rfl
  rw[hne] at hy
  rw[hy]
  generalize v.parents[0]=p at *
  have h2:bQ c p=true:=aJ.2 (by have:=hmi p h4;omega)
  have hx0:v.parents[(0:Int).toNat]?=some p:=hxe
  have hin:(jl.at (v.round-1) p).isNone=true:=by rw[tJ];rfl
  (repeat' first|refine j4 ?_|refine sa fun xe hxe=>?_|refine sb (fun hq=>?_) fun hq=>?_|exact True.intro|refine co (y9 c jl (v.round-1) p hs h7.2 h1 h2) ?_)
  exact⟨rfl,rfl⟩
 ·have e3:v.parents=[]:=List.length_eq_zero_iff.1 (by omega)
  have hem:v.parents.isEmpty=true:=by rw[e3];rfl
  rw[hem] at hy
  rw[hy]
  have hpl:=jM hs (aJ.2 v1) (a:=v.author) (by omega)
  have e2:=ji jl v ⟨v1.1,v2.1⟩
  have e4:(bj jl v).nodes=[⟨v,0,none⟩]:=by simp[bj,e3,jl]
  have e5:(bj jl v).rows=[]:=by simp[bj,e3,jl]
  simp only[if_true,gR]
  rw[←e2,e4,e5]
  (repeat' first|refine j4 ?_|refine sa fun xe hxe=>?_|refine sb (fun hq=>?_) fun hq=>?_|exact True.intro)
  exact⟨rfl,rfl⟩
theorem xM {c:List Int}{g:List Vtx}{v:Vtx}(hc:comV c=true)(hg:∀u∈g,vtxS c u=true)(hv:vtxS c v=true):iR (iM g) v=parOK g v:=by
 obtain⟨v1,v2,v3,v4,v5,v6⟩:=cY hv
 have h7:=(aF.1 hc).2
 unfold iR parOK
 rw[Bool.eq_iff_iff,List.all_eq_true,List.all_eq_true]
 have key:∀p∈v.parents,((iM g).at (v.round-1) p).isSome=eg g (v.round-1) p:=by
  intro p hp
  have hr0:v.round≠0:=fun h=>by rw[v5 h] at hp;cases hp
  have:=db v3 p hp
  exact(vM (fun u hu=>iB hc (hg u hu)) (by omega) (by omega)).1
 constructor
 ·intro h p hp;rw[←key p hp];exact h p hp
 ·intro h p hp;rw[key p hp];exact h p hp
def xa (c:List Int)(g:List Vtx):Nat→VSt
 |0=>⟨[(0,.lst (.int .i64) c),(1,.lst .vtx g),(6,.ptr 4 0),(15,.lst .vtx g),(16,.int .i64 g.length),(17,.int .i64 0)],gZ c jl,5⟩
 |i+1=>⟨[(0,.lst (.int .i64) c),(1,.lst .vtx g),(6,.ptr 4 0),(15,.lst .vtx g),(16,.int .i64 g.length),(17,.int .i64 ((i+1:Nat):Int))],gR c (iM (g.take (i+1))),6⟩
def gF (c:List Int)(g:List Vtx):VH:=match g with|[]=>gZ c jl|v::l=>gR c (iM (v::l))
def yg (c:List Int)(g:List Vtx):V:=if graS c g then .tup [.ptr 4 0,.bool true] else .tup [.nilp,.bool false]
def yb (c:List Int)(g:List Vtx):VH:=if graS c g then gF c g else[]
theorem wR {c:List Int}{g:List Vtx}{i:Nat}(hi:i<g.length)(h:cO c g i=false):graS c g=false:=by
 unfold graS
 rw[←so,bC hi h,Bool.and_false]
theorem vk {c:List Int}{g:List Vtx}{i:Nat}(h:∀j,j<i→cO c g j=true):∀u∈g.take i,vtxS c u=true:=by
 intro u hu
 obtain⟨j,hj,rfl⟩:=bK (d:=v0) hu
 rw[List.length_take] at hj
 have:=h j (by omega)
 simp only[cO,Bool.and_eq_true] at this
 rw[show (g.take i).getD j v0=g.getD j v0 by simp only[List.getD_eq_getElem?_getD,List.getElem?_take,if_pos (show j<i by omega)]]
 exact this.1
theorem zQ (c:List Int)(g:List Vtx)(hl:g.length≤2000000):ao Try.prog 96 [.lst (.int .i64) c,.lst .vtx g] [] (yg c g) (yb c g):=by
 have hbad:graS c g=false→V.tup [.nilp,.bool false]=yg c g∧([]:VH)=yb c g:=fun h=>by simp[yg,yb,h]
 refine af dB Try.func96 rfl rfl false 0 4 rfl rfl rfl rfl fun K hK hb1 hb2=>?_;simp only[aj,enc,Nat.reduceAdd]
 clear hb1 hb2
 cases hc:comV c
 ·(repeat' first|refine j4 ?_|refine sa fun xe hxe=>?_|refine sb (fun hq=>?_) fun hq=>?_|exact True.intro|refine cr (gK _) ?_)
  exact hbad (by simp[graS,hc])
 (repeat' first|refine j4 ?_|refine sa fun xe hxe=>?_|refine sb (fun hq=>?_) fun hq=>?_|exact True.intro|refine cr (gK _) ?_)
 refine uY 4 2 217 (.hp 0) ?_
 ((conv=>whnf);refine yW (by kernel_rfl) ?_;(conv=>whnf))
 refine jc 0 (.fvar 125 (.nod 1) []) rfl ?_
 refine jc 1 (.frow 119 (.hp 0) []) rfl ?_
 refine ak hK [] [0,1,6,15,16,17] (xa c g) (fun i=>i≤g.length∧∀j,j<i→cO c g j=true) (fun i=>g.length-i) 0 ⟨by simp,by simp⟩ rfl ?_
 rintro i ⟨hi,hall⟩
 by_cases hlt:i<g.length
 ·have hxe:g[i]?=some g[i]:=List.getElem?_eq_getElem hlt
  have hA:cO c g i=(vtxS c g[i] && ((i==0||bef (g.getD (i-1) v0) g[i]) && parOK (g.take i) g[i])):=by simp only[cO,aU hxe]
  have hno:cO c g i=false→V.tup [.nilp,.bool false]=yg c g∧([]:VH)=yb c g:=fun h=>hbad (wR hlt h)
  have hgs:iM (g.take (i+1))=bj (iM (g.take i)) g[i]:=by rw[List.take_succ_eq_append_getElem hlt,lk]
  have hgv:=vk hall
  have hys:cO c g i=true→∀j,j<i+1→cO c g j=true:=fun h=>a5 hall h
  generalize g[i]=v at *
  cases h1:vtxS c v
  ·have h2:(comV c && vtxS c v)=false:=by simp[h1]
   cases i with
   |zero=>
    have hx0:g[(0:Int).toNat]?=some v:=hxe
    unfold xa
    (repeat' first|refine j4 ?_|refine sa fun xe hxe=>?_|refine sb (fun hq=>?_) fun hq=>?_|exact True.intro|refine cr (fo _ _) ?_)
    exact hno (by simp[hA,h1])
   |succ i=>
    unfold xa
    (repeat' first|refine j4 ?_|refine sa fun xe hxe=>?_|refine sb (fun hq=>?_) fun hq=>?_|exact True.intro|refine cr (fo _ _) ?_)
    exact hno (by simp[hA,h1])
  have h2:(comV c && vtxS c v)=true:=by simp[h1,hc]
  have hpe:=xM hc hgv h1
  cases i with
  |zero=>
   have hx0:g[(0:Int).toNat]?=some v:=hxe
   have hL:=xw c v hc h1
   have hpe:iR jl v=parOK (g.take 0) v:=hpe
   have hf1:aE (VB.fvar 125 (.nod 1) jl.nodes)≤aE (VB.fvar 125 (.nod 1) (bj jl v).nodes):=Nat.zero_le _
   have hf2:aE (VB.frow 119 (.hp 0) jl.rows)≤aE (VB.frow 119 (.hp 0) (bj jl v).rows):=Nat.zero_le _
   cases h3:iR jl v
   ·rw[h3] at hL
    simp only[Bool.false_eq_true,if_false] at hL
    unfold xa
    (repeat' first|refine j4 ?_|refine sa fun xe hxe=>?_|refine sb (fun hq=>?_) fun hq=>?_|exact True.intro|refine cr (fo _ _) ?_|refine co (hL) ?_)
    exact hno (by rw[hA,←hpe,h3];simp)
   ·rw[h3] at hL
    simp only[if_true] at hL
    unfold xa
    (repeat' first|refine j4 ?_|refine sa fun xe hxe=>?_|refine sb (fun hq=>?_) fun hq=>?_|exact True.intro|refine cr (fo _ _) ?_|refine co (hL) ?_)
    refine⟨0+1,⟨by omega,hys (by rw[hA,←hpe,h3,h1];simp)⟩,by omega,?_⟩
    show _=VSt.mk _ (gR c (iM (g.take (0+1)))) _
    rw[hgs]
    rfl
  |succ i=>
   have hgl:(iM (g.take (i+1))).nodes.length≤2000000:=by rw[(mM _).1,List.length_take];omega
   have hL:=wX c (iM (g.take (i+1))) v (mM _).2 hc h1 hgl
   have hye:g[(((i+1:Nat):Int)-1).toNat]?=some (g.getD (i+1-1) v0):=by rw[show (((i+1:Nat):Int)-1).toNat=i by omega,List.getD_eq_getElem?_getD,List.getElem?_eq_getElem (show i<g.length by omega)];simp only[Nat.add_sub_cancel,List.getElem?_eq_getElem (show i<g.length by omega)];rfl
   generalize g.getD (i+1-1) v0=u at *
   have hst:xa c g (i+1)=⟨[(0,.lst (.int .i64) c),(1,.lst .vtx g),(6,.ptr 4 0),(15,.lst .vtx g),(16,.int .i64 g.length),(17,.int .i64 ((i+1:Nat):Int))],gR c (iM (g.take (i+1))),6⟩:=rfl
   rw[hst]
   clear hst
   generalize iM (g.take (i+1))=s at *
   have hf1:aE (VB.fvar 125 (.nod 1) s.nodes)≤aE (VB.fvar 125 (.nod 1) (bj s v).nodes):=by simp[aE,bj]
   have hf2:aE (VB.frow 119 (.hp 0) s.rows)≤aE (VB.frow 119 (.hp 0) (bj s v).rows):=by simp only[aE,bj];split<;>simp
   cases h4:bef u v
   ·(repeat' first|refine j4 ?_|refine sa fun xe hxe=>?_|refine sb (fun hq=>?_) fun hq=>?_|exact True.intro|refine cr (fo _ _) ?_|refine cr (qz _ _) ?_)
    exact hno (by simp[hA,h1,h4])
   cases h3:iR s v
   ·rw[h3] at hL
    simp only[Bool.false_eq_true,if_false] at hL
    (repeat' first|refine j4 ?_|refine sa fun xe hxe=>?_|refine sb (fun hq=>?_) fun hq=>?_|exact True.intro|refine cr (fo _ _) ?_|refine cr (qz _ _) ?_|refine co (hL) ?_)
    exact hno (by rw[hA,←hpe,h3];simp)
   ·rw[h3] at hL
    simp only[if_true] at hL
    (repeat' first|refine j4 ?_|refine sa fun xe hxe=>?_|refine sb (fun hq=>?_) fun hq=>?_|exact True.intro|refine cr (fo _ _) ?_|refine cr (qz _ _) ?_|refine co (hL) ?_)
    refine⟨i+1+1,⟨by omega,hys (by rw[hA,←hpe,h3,h1,h4];simp)⟩,by omega,?_⟩
    show _=VSt.mk _ (gR c (iM (g.take (i+1+1)))) _
    rw[hgs]
    rfl
 ·have hg:graS c g=true:=by
   unfold graS
   rw[hc,←so,br (fun j hj=>hall j (by omega))]
   rfl
  have e1:yg c g= .tup [.ptr 4 0,.bool true]:=by simp[yg,hg]
  have e2:yb c g=gF c g:=by simp[yb,hg]
  rw[e1,e2]
  cases i with
  |zero=>
   have e3:g=[]:=List.length_eq_zero_iff.1 (by omega)
   subst e3
   unfold xa
   (repeat' first|refine j4 ?_|refine sa fun xe hxe=>?_|refine sb (fun hq=>?_) fun hq=>?_|exact True.intro)
   exact⟨rfl,rfl⟩
  |succ i=>
   have hst:xa c g (i+1)=⟨[(0,.lst (.int .i64) c),(1,.lst .vtx g),(6,.ptr 4 0),(15,.lst .vtx g),(16,.int .i64 g.length),(17,.int .i64 ((i+1:Nat):Int))],gR c (iM g),6⟩:=by rw[xa,List.take_of_length_le (by omega)]
   rw[hst]
   cases g with
   |nil=>simp at hi
   |cons w g=>
    (repeat' first|refine j4 ?_|refine sa fun xe hxe=>?_|refine sb (fun hq=>?_) fun hq=>?_|exact True.intro)
    exact⟨rfl,rfl⟩
theorem Ag {c:List Int}{g:List Vtx}(h:GraOK c g)(r:Int):jn (iM g) r c.length=pS g r:=by
 rw[←uq h r]
 unfold jn rS
 congr 1
 refine List.filter_congr fun a ha=>?_
 have h7:=(aF.1 h.com).2
 have ha:=List.mem_range.1 ha
 cases h1:gx r 0 30
 ·rw[Bool.false_and]
  symm
  rw[Bool.eq_false_iff]
  intro h2
  obtain⟨v,hv,hr,-⟩:=du.1 h2
  have:=(cY (h.vtx v hv)).1
  rw[hr] at this
  rw[aJ.2 this] at h1
  cases h1
 ·rw[Bool.true_and]
  exact(vM (fun u hu=>iB h.com (h.vtx u hu)) (aJ.1 h1) (by omega)).1

end Go.Proofs.Ytgfcmhjebbncpaa.Am
