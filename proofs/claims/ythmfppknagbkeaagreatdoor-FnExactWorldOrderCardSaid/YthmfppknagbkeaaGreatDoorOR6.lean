/- Committees and graphs: what the specification's functions give. Committees and vertices: what the program's functions give. Graphs: what the program's functions give. Graphs: a vertex is linked. Graphs: all vertices are linked. Graphs: heights, authors, places. -/
import Derived.Test.YthmfppknagbkeaaGreatDoorOR5
set_option linter.unusedSimpArgs false
set_option linter.unusedVariables false
set_option maxHeartbeats 1000000
namespace Go.Proofs.YthmfppknagbkeaaGreatDoor.Am
open Go
attribute [local irreducible] Mk ba Ari di jQ f4 bh bV eY d6 At aj
set_option maxRecDepth 10000
theorem na (n lo hi:Int):aj Tryz.prog 39 [.int .i64 n,.int .i64 lo,.int .i64 hi] [] (.bool (f6 n lo hi)) []:=by
 refine ab ak Tryz.func39 rfl rfl false 0 4 rfl rfl rfl rfl fun K hK hb1 hb2=>?_;simp only[af,enc,Nat.reduceAdd]
 (repeat' first|refine st ?_|refine sa fun xe hxe=>?_|refine sb (fun hq=>?_) fun hq=>?_|exact True.intro)
 all_goals (refine⟨?_,rfl⟩;simp_all[f6])
 omega
theorem ss (c:List Int):aj Tryz.prog 149 [.lst (.int .i64) c] [] (.bool (comV c)) []:=by
 refine ab ak Tryz.func149 rfl rfl false 0 4 rfl rfl rfl rfl fun K hK hb1 hb2=>?_;simp only[af,enc,Nat.reduceAdd]
 simp[ae,V.toD,bnd,aa,D.cells] at hb1
 (repeat' first|refine st ?_|refine sa fun xe hxe=>?_|refine sb (fun hq=>?_) fun hq=>?_|refine cr (na _ _ _) ?_|exact True.intro)
 refine ah hK [] [0,3] (fun i:Nat=>⟨[(0,.lst (.int .i64) c),(3,.int .i64 i)],[],4⟩) (fun i=>i≤c.length∧∀j,j<i→f6 (c.getD j 0) 1 9=true) (fun i=>c.length-i) 0 ⟨by simp,by simp⟩ rfl ?_
 rintro i ⟨hi,hall⟩
 (repeat' first|refine st ?_|refine sa fun xe hxe=>?_|refine sb (fun hq=>?_) fun hq=>?_|refine cr (na _ _ _) ?_|exact True.intro)
 ·refine⟨?_,rfl⟩
  have:comV c=false:=by
   simp only[comV,Bool.and_eq_false_iff]
   left
   exact bN (j:=i) (by omega) (by rw[aV hxe];exact hq)
  rw[this]
 ·refine⟨i+1,⟨by omega,a8 hall (by rw[aV hxe];exact hq)⟩,by omega,rfl⟩
 ·refine⟨?_,rfl⟩
  have:i=c.length:=by omega
  subst this
  simp only[comV,bB hall,Bool.true_and]
theorem rP {c:List Int}{i:Nat}{x:Int}(h:c[i]?=some x):kJ (c.take (i+1))=kJ (c.take i)+x:=by
 obtain⟨hl,rfl⟩:=List.getElem?_eq_some_iff.1 h
 rw[List.take_succ_eq_append_getElem hl]
 unfold kJ
 rw[List.sum_append]
 simp
theorem zq {c:List Int}(h:comV c=true)(i:Nat):0≤kJ (c.take i)∧kJ (c.take i)≤63:=by
 obtain⟨h1,h2,h3⟩:=au.1 h
 have h4:=ly (M:=9) (by omega) (l:=c.take i) fun x hx=>⟨by have:=h1 x (List.mem_of_mem_take hx);omega,(h1 x (List.mem_of_mem_take hx)).2⟩
 rw[List.length_take] at h4
 unfold kJ
 omega
theorem zp (c:List Int)(hc:comV c=true):aj Tryz.prog 124 [.lst (.int .i64) c] [] (.int .i64 (kJ c)) []:=by
 have hc1:=au.1 hc
 refine ab ak Tryz.func124 rfl rfl false 0 4 rfl rfl rfl rfl fun K hK hb1 hb2=>?_;simp only[af,enc,Nat.reduceAdd]
 clear hb1 hb2
 (repeat' first|refine st ?_|refine sa fun xe hxe=>?_|refine sb (fun hq=>?_) fun hq=>?_|exact True.intro)
 refine ah hK [] [0,3,4] (fun i:Nat=>⟨[(0,.lst (.int .i64) c),(3,.int .i64 (kJ (c.take i))),(4,.int .i64 i)],[],4⟩) (fun i=>i≤c.length) (fun i=>c.length-i) 0 (by simp) rfl ?_
 intro i hi
 have hb:=zq hc i
 have hbx:∀x,c[i]?=some x→1≤x∧x≤9:=fun x hx=>hc1.1 x (List.mem_of_getElem? hx)
 by_cases hlt:i<c.length
 ·have hxe:c[i]?=some c[i]:=List.getElem?_eq_getElem hlt
  have hb2:=hbx _ hxe
  have hsn:=rP hxe
  generalize c[i]=x at *
  (repeat' first|refine st ?_|refine sa fun xe hxe=>?_|refine sb (fun hq=>?_) fun hq=>?_|exact True.intro)
  exact⟨i+1,by omega,by omega,by rw[hsn];rfl⟩
 (repeat' first|refine st ?_|refine sa fun xe hxe=>?_|refine sb (fun hq=>?_) fun hq=>?_|exact True.intro)
 rw[List.take_of_length_le (by omega)]
 exact⟨rfl,rfl⟩
theorem yS (c:List Int)(hc:comV c=true):aj Tryz.prog 175 [.lst (.int .i64) c] [] (.int .i64 (quo c)) []:=by
 have h1:=fU hc
 have h2:=yR hc
 have h3:(2*kJ c).tdiv 3+1=quo c:=rfl
 refine ab ak Tryz.func175 rfl rfl false 0 4 rfl rfl rfl rfl fun K hK hb1 hb2=>?_;simp only[af,enc,Nat.reduceAdd]
 (repeat' first|refine st ?_|refine sa fun xe hxe=>?_|refine sb (fun hq=>?_) fun hq=>?_|refine cr (zp _ hc) ?_|exact True.intro)
 exact⟨rfl,rfl⟩
theorem qh (n:Int):aj Tryz.prog 133 [.int .i64 n] [] (.bool (f6 n 0 990)) []:=by
 refine ab ak Tryz.func133 rfl rfl false 0 4 rfl rfl rfl rfl fun K hK hb1 hb2=>?_;simp only[af,enc,Nat.reduceAdd]
 (repeat' first|refine st ?_|refine sa fun xe hxe=>?_|refine sb (fun hq=>?_) fun hq=>?_|refine cr (na _ _ _) ?_|exact True.intro)
 exact⟨rfl,rfl⟩
theorem sY (c ms:List Int):aj Tryz.prog 126 [.lst (.int .i64) c,.lst (.int .i64) ms] [] (.bool (cj c ms)) []:=by
 refine ab ak Tryz.func126 rfl rfl false 0 4 rfl rfl rfl rfl fun K hK hb1 hb2=>?_;simp only[af,enc,Nat.reduceAdd]
 simp[ae,V.toD,bnd,aa,D.cells] at hb1
 (repeat' first|refine st ?_|refine sa fun xe hxe=>?_|refine sb (fun hq=>?_) fun hq=>?_|refine cr (na _ _ _) ?_|exact True.intro)
 refine ah hK [] [0,1,5] (fun i:Nat=>⟨[(0,.lst (.int .i64) c),(1,.lst (.int .i64) ms),(5,.int .i64 i)],[],4⟩) (fun i=>i≤ms.length∧∀j,j<i→ep c ms j=true) (fun i=>ms.length-i) 0 ⟨by simp,by simp⟩ rfl ?_
 rintro i ⟨hi,hall⟩
 (repeat' first|refine st ?_|refine sa fun xe hxe=>?_|refine sb (fun hq=>?_) fun hq=>?_|refine cr (na _ _ _) ?_|exact True.intro)
 ·refine⟨?_,rfl⟩
  have:cj c ms=false:=bN (j:=i) (by omega) (by simp only[ep,bY,aV hxe,hq,Bool.false_and])
  rw[this]
 ·rename_i x hx hq1 h0
  have hy':ms[i-1]?=some xe:=by rw[←hxe];congr 1;omega
  refine⟨?_,rfl⟩
  have:cj c ms=false:=bN (j:=i) (by omega) (by simp only[ep,aV hx,aV hy',Bool.and_eq_false_iff,Bool.or_eq_false_iff,decide_eq_false_iff_not];right;exact⟨by simp;omega,by omega⟩)
  rw[this]
 ·rename_i x hx hq1 h0
  have hy':ms[i-1]?=some xe:=by rw[←hxe];congr 1;omega
  refine⟨i+1,⟨by omega,a8 hall ?_⟩,by omega,rfl⟩
  simp only[ep,bY,aV hx,aV hy',hq1,Bool.true_and,Bool.or_eq_true,decide_eq_true_eq]
  right;omega
 ·have h0:i=0:=by omega
  subst h0
  refine⟨0+1,⟨by omega,a8 hall ?_⟩,by omega,rfl⟩
  simp only[ep,bY,aV hxe, *]
  rfl
 ·refine⟨?_,rfl⟩
  have:i=ms.length:=by omega
  subst this
  have:cj c ms=true:=bB hall
  rw[this]
theorem zI {c ms:List Int}{i:Nat}{m:Int}(h:ms[i]?=some m):jO c (ms.take (i+1))=jO c (ms.take i)+c.getD m.toNat 0:=by
 obtain⟨hl,rfl⟩:=List.getElem?_eq_some_iff.1 h
 rw[List.take_succ_eq_append_getElem hl,mW]
theorem Cc (c ms:List Int)(hc:comV c=true)(hm:∀m∈ms,0≤m∧m<c.length)(hl:ms.length≤2000000):aj Tryz.prog 174 [.lst (.int .i64) c,.lst (.int .i64) ms] [] (.int .i64 (jO c ms)) []:=by
 refine ab ak Tryz.func174 rfl rfl false 0 4 rfl rfl rfl rfl fun K hK hb1 hb2=>?_;simp only[af,enc,Nat.reduceAdd]
 clear hb1 hb2
 (repeat' first|refine st ?_|refine sa fun xe hxe=>?_|refine sb (fun hq=>?_) fun hq=>?_|exact True.intro)
 refine ah hK [] [0,1,5,6] (fun i:Nat=>⟨[(0,.lst (.int .i64) c),(1,.lst (.int .i64) ms),(5,.int .i64 (jO c (ms.take i))),(6,.int .i64 i)],[],4⟩) (fun i=>i≤ms.length) (fun i=>ms.length-i) 0 (by simp) rfl ?_
 intro i hi
 by_cases hlt:i<ms.length
 ·have hxe:ms[i]?=some ms[i]:=List.getElem?_eq_getElem hlt
  have h1:=hm _ (List.getElem_mem hlt)
  have h2:=pP (ms:=ms.take i) hc
  have h3:=zI (c:=c) hxe
  rw[List.length_take] at h2
  generalize ms[i]=m at *
  have hx2:c[m.toNat]?=some (c.getD m.toNat 0):=by rw[List.getD_eq_getElem?_getD,List.getElem?_eq_getElem (show m.toNat<c.length by omega)];rfl
  have h4:=(au.1 hc).1 _ (List.mem_of_getElem? hx2)
  generalize c.getD m.toNat 0=x at *
  (repeat' first|refine st ?_|refine sa fun xe hxe=>?_|refine sb (fun hq=>?_) fun hq=>?_|exact True.intro)
  exact⟨i+1,by omega,by omega,by rw[h3];rfl⟩
 (repeat' first|refine st ?_|refine sa fun xe hxe=>?_|refine sb (fun hq=>?_) fun hq=>?_|exact True.intro)
 rw[List.take_of_length_le (by omega)]
 exact⟨rfl,rfl⟩
theorem lK (v u:Vtx):aj Tryz.prog 176 [.agg [.int .i64 v.round,.int .i64 v.author,.lst (.int .i64) v.parents,.int .i64 v.digest],.agg [.int .i64 u.round,.int .i64 u.author,.lst (.int .i64) u.parents,.int .i64 u.digest]] [] (.bool (bef v u)) []:=by
 refine ab ak Tryz.func176 rfl rfl false 0 4 rfl rfl rfl rfl fun K hK hb1 hb2=>?_;simp only[af,enc,Nat.reduceAdd]
 (repeat' first|refine st ?_|refine sa fun xe hxe=>?_|refine sb (fun hq=>?_) fun hq=>?_|exact True.intro)
 all_goals (refine⟨?_,rfl⟩;simp_all[bef])
abbrev bS (v:Vtx):V:=.agg [.int .i64 v.round,.int .i64 v.author,.lst (.int .i64) v.parents,.int .i64 v.digest]
theorem nM {α:Type}[BEq α][LawfulBEq α]:∀{a b:List α},a.Nodup→a⊆b→a.length≤b.length
 |[],_,_,_=>Nat.zero_le _
 |x::a,b,h,hs=>by
  rw[List.nodup_cons] at h
  have hx:x∈b:=hs (List.mem_cons_self ..)
  have:=nM (b:=b.erase x) h.2 fun y hy=>by
   have hne:y≠x:=fun e=>h.1 (e▸hy)
   exact(List.mem_erase_of_ne hne).2 (hs (List.mem_cons_of_mem _ hy))
  rw[List.length_erase_of_mem hx] at this
  have:=List.length_pos_of_mem hx
  simp only[List.length_cons]
  omega
theorem fj {c ms:List Int}(h:cj c ms=true):ms.length≤c.length:=by
 have h1:=dE h
 have h2:ms⊆(List.range c.length).map fun n:Nat=>(n:Int):=fun m hm=>by
  have:=h1 m hm
  rw[List.mem_map]
  exact⟨m.toNat,by rw[List.mem_range];omega,by omega⟩
 have h3:ms.Nodup:=(q7 h).imp fun hab=>by omega
 have:=nM h3 h2
 simpa using this
theorem mV (c:List Int)(v:Vtx)(hc:comV c=true):aj Tryz.prog 125 [.lst (.int .i64) c,bS v] [] (.bool (vtxS c v)) []:=by
 refine ab ak Tryz.func125 rfl rfl false 0 4 rfl rfl rfl rfl fun K hK hb1 hb2=>?_;simp only[af,enc,Nat.reduceAdd]
 simp[ae,V.toD,bnd,aa,D.cells] at hb1
 have h7:=(au.1 hc).2
 have h8:((v.parents.length:Int)==0)=(v.parents.length==0):=by rw[Bool.eq_iff_iff,beq_iff_eq,beq_iff_eq];omega
 cases hm:cj c v.parents
 ·(repeat' first|refine st ?_|refine sa fun xe hxe=>?_|refine sb (fun hq=>?_) fun hq=>?_|refine cr (na _ _ _) ?_|refine cr (sY _ _) ?_|refine cr (qh _) ?_|refine cr (yS _ hc) ?_|exact True.intro)
  all_goals (refine⟨?_,rfl⟩;simp_all[vtxS,bY])
 ·have hl:=fj hm
  (repeat' first|refine st ?_|refine sa fun xe hxe=>?_|refine sb (fun hq=>?_) fun hq=>?_|refine cr (na _ _ _) ?_|refine cr (sY _ _) ?_|refine cr (qh _) ?_|refine cr (yS _ hc) ?_|((with_reducible refine lM ?_);(conv=>whnf);(first|with_reducible refine dp (Cc _ _ hc (dE hm) (by omega)) ?_);conv=>whnf)|exact True.intro)
  all_goals (refine⟨?_,rfl⟩;simp_all[vtxS,bY])
theorem a5 {α:Type}{l:List α}{P:α→Prop}{x:α}(h:∀y∈l,P y)(hx:P x):∀y∈l++[x],P y:=by
 intro y hy
 rcases List.mem_append.1 hy with hy|hy
 ·exact h y hy
 ·rw[List.mem_singleton.1 hy];exact hx
theorem kY {α:Type}{l:List α}{p:α→Bool}{i:Nat}{x:α}(h:l[i]?=some x)(hn:∀y∈l.take i,p y=false)(hp:p x=true):l.findIdx? p=some i:=by
 obtain⟨hi,rfl⟩:=List.getElem?_eq_some_iff.1 h
 rw[List.findIdx?_eq_some_iff_getElem]
 refine⟨hi,hp,fun j hj=>?_⟩
 rw[hn _ (List.mem_of_getElem? (i:=j) (by rw[List.getElem?_take,if_pos hj,List.getElem?_eq_getElem]))]
 simp
theorem oN (g:List Vtx)(r a:Int):aj Tryz.prog 131 [.lst .vtx g,.int .i64 r,.int .i64 a] [] (.int .i64 (kM g r a)) []:=by
 refine ab ak Tryz.func131 rfl rfl false 0 4 rfl rfl rfl rfl fun K hK hb1 hb2=>?_;simp only[af,enc,Nat.reduceAdd]
 simp[ae,V.toD,bnd,aa,D.cells] at hb1
 (repeat' first|refine st ?_|refine sa fun xe hxe=>?_|refine sb (fun hq=>?_) fun hq=>?_|exact True.intro)
 refine ah hK [] [0,1,2,7] (fun i:Nat=>⟨[(0,.lst .vtx g),(1,.int .i64 r),(2,.int .i64 a),(7,.int .i64 i)],[],4⟩) (fun i=>i≤g.length∧∀v∈g.take i,cm r a v=false) (fun i=>g.length-i) 0 ⟨by simp,by simp⟩ rfl ?_
 rintro i ⟨hi,hall⟩
 by_cases hlt:i<g.length
 ·have hxe:g[i]?=some g[i]:=List.getElem?_eq_getElem hlt
  have h3:g.take (i+1)=g.take i++[g[i]]:=List.take_succ_eq_append_getElem hlt
  have h4:=kY (l:=g) (p:=cm r a) hxe hall
  generalize g[i]=v at *
  have hA:cm r a v=(v.round==r && v.author==a):=rfl
  cases h1:v.round==r
  ·(repeat' first|refine st ?_|refine sa fun xe hxe=>?_|refine sb (fun hq=>?_) fun hq=>?_|exact True.intro)
   exact⟨i+1,⟨by omega,by rw[h3];exact a5 hall (by simp[hA,h1])⟩,by omega,rfl⟩
  ·cases h2:v.author==a
   ·(repeat' first|refine st ?_|refine sa fun xe hxe=>?_|refine sb (fun hq=>?_) fun hq=>?_|exact True.intro)
    exact⟨i+1,⟨by omega,by rw[h3];exact a5 hall (by simp[hA,h1,h2])⟩,by omega,rfl⟩
   ·(repeat' first|refine st ?_|refine sa fun xe hxe=>?_|refine sb (fun hq=>?_) fun hq=>?_|exact True.intro)
    refine⟨?_,rfl⟩
    rw[kM,h4 (by simp[hA,h1,h2])]
 ·(repeat' first|refine st ?_|refine sa fun xe hxe=>?_|refine sb (fun hq=>?_) fun hq=>?_|exact True.intro)
  refine⟨?_,rfl⟩
  rw[List.take_of_length_le (by omega)] at hall
  rw[kM,List.findIdx?_eq_none_iff.2 hall]
theorem CE (g:List Vtx)(r a:Int):decide (kM g r a<0)= !eC g r a:=by
 rw[←oO]
 unfold kM
 cases g.findIdx? (cm r a) with
 |none=>rfl
 |some i=>simp
theorem ec (g:List Vtx)(v:Vtx)(hr:-1000000<v.round∧v.round<1000000):aj Tryz.prog 75 [.lst .vtx g,bS v] [] (.bool (parOK g v)) []:=by
 refine ab ak Tryz.func75 rfl rfl false 0 4 rfl rfl rfl rfl fun K hK hb1 hb2=>?_;simp only[af,enc,Nat.reduceAdd]
 simp[ae,V.toD,bnd,aa,D.cells,cO] at hb1
 (repeat' first|refine st ?_|refine sa fun xe hxe=>?_|refine sb (fun hq=>?_) fun hq=>?_|exact True.intro)
 refine ah hK [] [0,3,5] (fun i:Nat=>⟨[(0,.lst .vtx g),(3,.ptr 4 0),(5,.int .i64 i)],[(4,.var 48 (bS v).cells)],5⟩) (fun i=>i≤v.parents.length∧∀p∈v.parents.take i,eC g (v.round-1) p=true) (fun i=>v.parents.length-i) 0 ⟨by simp,by simp⟩ rfl ?_
 rintro i ⟨hi,hall⟩
 by_cases hlt:i<v.parents.length
 ·have hxe:v.parents[i]?=some v.parents[i]:=List.getElem?_eq_getElem hlt
  have h3:v.parents.take (i+1)=v.parents.take i++[v.parents[i]]:=List.take_succ_eq_append_getElem hlt
  have h4:v.parents[i]∈v.parents:=List.getElem_mem hlt
  generalize v.parents[i]=p at *
  have hlt2:=CE g (v.round-1) p
  cases h5:eC g (v.round-1) p
  ·have hlt2:kM g (v.round-1) p<0:=by simpa[h5] using hlt2
   (repeat' first|refine st ?_|refine sa fun xe hxe=>?_|refine sb (fun hq=>?_) fun hq=>?_|refine cr (oN _ _ _) ?_|exact True.intro)
   refine⟨?_,rfl⟩
   have:parOK g v=false:=by
    rw[Bool.eq_false_iff]
    intro h
    rw[dx.1 h p h4] at h5
    cases h5
   rw[this]
  ·have hlt2:¬kM g (v.round-1) p<0:=by simpa[h5] using hlt2
   (repeat' first|refine st ?_|refine sa fun xe hxe=>?_|refine sb (fun hq=>?_) fun hq=>?_|refine cr (oN _ _ _) ?_|exact True.intro)
   exact⟨i+1,⟨by omega,by rw[h3];exact a5 hall h5⟩,by omega,rfl⟩
 ·(repeat' first|refine st ?_|refine sa fun xe hxe=>?_|refine sb (fun hq=>?_) fun hq=>?_|exact True.intro)
  refine⟨?_,rfl⟩
  rw[List.take_of_length_le (by omega)] at hall
  rw[dx.2 hall]
theorem va {c:List Int}{v:Vtx}(h:vtxS c v=true):-1000000<v.round∧v.round<1000000:=by
 have:=(bl h).1
 omega
theorem xN (c:List Int)(g:List Vtx):aj Tryz.prog 130 [.lst (.int .i64) c,.lst .vtx g] [] (.bool (graS c g)) []:=by
 refine ab ak Tryz.func130 rfl rfl false 0 4 rfl rfl rfl rfl fun K hK hb1 hb2=>?_;simp only[af,enc,Nat.reduceAdd]
 simp[ae,V.toD,bnd,aa,D.cells] at hb1
 cases hc:comV c
 ·(repeat' first|refine st ?_|refine sa fun xe hxe=>?_|refine sb (fun hq=>?_) fun hq=>?_|refine cr (ss _) ?_|exact True.intro)
  exact⟨by simp[graS,hc],rfl⟩
 (repeat' first|refine st ?_|refine sa fun xe hxe=>?_|refine sb (fun hq=>?_) fun hq=>?_|refine cr (ss _) ?_|exact True.intro)
 refine ah hK [] [0,1,5] (fun i:Nat=>⟨[(0,.lst (.int .i64) c),(1,.lst .vtx g),(5,.int .i64 i)],[],4⟩) (fun i=>i≤g.length∧∀j,j<i→fg c g j=true) (fun i=>g.length-i) 0 ⟨by simp,by simp⟩ rfl ?_
 rintro i ⟨hi,hall⟩
 have hno:fg c g i=false→i<g.length→V.bool false=V.bool (graS c g)∧([]:VH)=[]:=fun h1 h2=>⟨by simp only[graS,hc,Bool.true_and];rw[bN h2 h1],rfl⟩
 by_cases hlt:i<g.length
 ·have hxe:g[i]?=some g[i]:=List.getElem?_eq_getElem hlt
  have hA:fg c g i=(vtxS c g[i] && ((i==0||bef (g.getD (i-1) v0) g[i]) && parOK g g[i])):=by simp only[fg,aV hxe]
  have hyes:fg c g i=true→∃y,(y≤g.length∧∀j,j<y→fg c g j=true)∧g.length-y<g.length-i∧VSt.mk [(0,.lst (.int .i64) c),(1,.lst .vtx g),(5,.int .i64 ((i:Int)+1))] [] 4=⟨[(0,.lst (.int .i64) c),(1,.lst .vtx g),(5,.int .i64 (y:Int))],[],4⟩:=fun h=>⟨i+1,⟨by omega,a8 hall h⟩,by omega,rfl⟩
  generalize g[i]=v at *
  cases h1:vtxS c v
  ·(repeat' first|refine st ?_|refine sa fun xe hxe=>?_|refine sb (fun hq=>?_) fun hq=>?_|refine cr (mV _ _ hc) ?_|exact True.intro)
   exact hno (by rw[hA,h1];rfl) hlt
  have h0:-1000000<v.round∧v.round<1000000:=va h1
  rw[h1] at hA
  cases h3:parOK g v
  ·rw[h3] at hA
   by_cases hi0:i=0
   ·(repeat' first|refine st ?_|refine sa fun xe hxe=>?_|refine sb (fun hq=>?_) fun hq=>?_|refine cr (mV _ _ hc) ?_|refine cr (ec _ _ h0) ?_|exact True.intro)
    exact hno (by rw[hA];simp) hlt
   ·have hye:g[((i:Int)-1).toNat]?=some (g.getD (i-1) v0):=by rw[show ((i:Int)-1).toNat=i-1 by omega,List.getD_eq_getElem?_getD,List.getElem?_eq_getElem (show i-1<g.length by omega)];rfl
    generalize g.getD (i-1) v0=u at *
    (repeat' first|refine st ?_|refine sa fun xe hxe=>?_|refine sb (fun hq=>?_) fun hq=>?_|refine cr (mV _ _ hc) ?_|refine cr (lK _ _) ?_|refine cr (ec _ _ h0) ?_|exact True.intro)
    all_goals exact hno (by rw[hA];simp) hlt
  ·rw[h3] at hA
   by_cases hi0:i=0
   ·(repeat' first|refine st ?_|refine sa fun xe hxe=>?_|refine sb (fun hq=>?_) fun hq=>?_|refine cr (mV _ _ hc) ?_|refine cr (ec _ _ h0) ?_|exact True.intro)
    exact hyes (by rw[hA];simp[hi0])
   ·have hye:g[((i:Int)-1).toNat]?=some (g.getD (i-1) v0):=by rw[show ((i:Int)-1).toNat=i-1 by omega,List.getD_eq_getElem?_getD,List.getElem?_eq_getElem (show i-1<g.length by omega)];rfl
    generalize g.getD (i-1) v0=u at *
    cases h4:bef u v
    ·(repeat' first|refine st ?_|refine sa fun xe hxe=>?_|refine sb (fun hq=>?_) fun hq=>?_|refine cr (mV _ _ hc) ?_|refine cr (lK _ _) ?_|refine cr (ec _ _ h0) ?_|exact True.intro)
     exact hno (by rw[hA,h4];simp[hi0]) hlt
    ·(repeat' first|refine st ?_|refine sa fun xe hxe=>?_|refine sb (fun hq=>?_) fun hq=>?_|refine cr (mV _ _ hc) ?_|refine cr (lK _ _) ?_|refine cr (ec _ _ h0) ?_|exact True.intro)
     exact hyes (by rw[hA,h4];simp)
 ·(repeat' first|refine st ?_|refine sa fun xe hxe=>?_|refine sb (fun hq=>?_) fun hq=>?_|exact True.intro)
  refine⟨?_,rfl⟩
  have:i=g.length:=by omega
  subst this
  simp only[graS,hc,bB hall,Bool.true_and]
theorem o4 (c:List Int):aj Tryz.prog 67 [.lst (.int .i64) c] [] (.bool (comV c)) []:=by
 refine ab ak Tryz.func67 rfl rfl false 0 4 rfl rfl rfl rfl fun K hK hb1 hb2=>?_;simp only[af,enc,Nat.reduceAdd]
 simp[ae,V.toD,bnd,aa,D.cells] at hb1
 have hno:¬(1≤c.length∧c.length≤7)→V.bool false=V.bool (comV c)∧([]:VH)=[]:=fun h=>by
  refine⟨?_,rfl⟩
  have:comV c=false:=by rw[Bool.eq_false_iff];intro h2;exact h (au.1 h2).2
  rw[this]
 (repeat' first|refine st ?_|refine sa fun xe hxe=>?_|refine sb (fun hq=>?_) fun hq=>?_|exact True.intro)
 ·exact hno (by omega)
 ·exact hno (by omega)
 refine ah hK [] [0,13,14,15] (fun i:Nat=>⟨[(0,.lst (.int .i64) c),(13,.lst (.int .i64) c),(14,.int .i64 c.length),(15,.int .i64 i)],[],4⟩) (fun i=>i≤c.length∧∀j,j<i→f6 (c.getD j 0) 1 9=true) (fun i=>c.length-i) 0 ⟨by simp,by simp⟩ rfl ?_
 rintro i ⟨hi,hall⟩
 have hno:∀x,c[i]?=some x→¬(1≤x∧x≤9)→V.bool false=V.bool (comV c)∧([]:VH)=[]:=fun x hx h=>by
  refine⟨?_,rfl⟩
  have:comV c=false:=by rw[Bool.eq_false_iff];intro h2;exact h ((au.1 h2).1 x (List.mem_of_getElem? hx))
  rw[this]
 by_cases hlt:i<c.length
 ·have hxe:c[i]?=some c[i]:=List.getElem?_eq_getElem hlt
  have hn:=hno _ hxe
  have hy:=a8 hall (p:=fun j=>f6 (c.getD j 0) 1 9) (i:=i)
  simp only[aV hxe] at hy
  generalize c[i]=x at *
  (repeat' first|refine st ?_|refine sa fun xe hxe=>?_|refine sb (fun hq=>?_) fun hq=>?_|exact True.intro)
  ·exact hn (by omega)
  ·exact hn (by omega)
  ·exact⟨i+1,⟨by omega,hy (av.2 (by omega))⟩,by omega,rfl⟩
 ·(repeat' first|refine st ?_|refine sa fun xe hxe=>?_|refine sb (fun hq=>?_) fun hq=>?_|exact True.intro)
  refine⟨?_,rfl⟩
  have:i=c.length:=by omega
  subst this
  have h1:f6 c.length 1 7=true:=av.2 (by omega)
  simp only[comV,bB hall,Bool.true_and,h1]
theorem jb (c:List Int):aj Tryz.prog 152 [.lst (.int .i64) c] [] (.bool (comV c)) []:=by
 refine ab ak Tryz.func152 rfl rfl false 0 4 rfl rfl rfl rfl fun K hK hb1 hb2=>?_;simp only[af,enc,Nat.reduceAdd]
 (repeat' first|refine st ?_|refine sa fun xe hxe=>?_|refine sb (fun hq=>?_) fun hq=>?_|refine cr (o4 _) ?_|exact True.intro)
 exact⟨rfl,rfl⟩
theorem sO (c:List Int)(hc:comV c=true):aj Tryz.prog 122 [.lst (.int .i64) c] [] (.int .i64 (kJ c)) []:=by
 have hc1:=au.1 hc
 refine ab ak Tryz.func122 rfl rfl false 0 4 rfl rfl rfl rfl fun K hK hb1 hb2=>?_;simp only[af,enc,Nat.reduceAdd]
 clear hb1 hb2
 (repeat' first|refine st ?_|refine sa fun xe hxe=>?_|refine sb (fun hq=>?_) fun hq=>?_|exact True.intro)
 refine ah hK [] [0,3,6,7,8] (fun i:Nat=>⟨[(0,.lst (.int .i64) c),(3,.int .i64 (kJ (c.take i))),(6,.lst (.int .i64) c),(7,.int .i64 c.length),(8,.int .i64 i)],[],4⟩) (fun i=>i≤c.length) (fun i=>c.length-i) 0 (by simp) rfl ?_
 intro i hi
 have hb:=zq hc i
 by_cases hlt:i<c.length
 ·have hxe:c[i]?=some c[i]:=List.getElem?_eq_getElem hlt
  have hb2:=hc1.1 _ (List.mem_of_getElem? hxe)
  have hsn:=rP hxe
  generalize c[i]=x at *
  (repeat' first|refine st ?_|refine sa fun xe hxe=>?_|refine sb (fun hq=>?_) fun hq=>?_|exact True.intro)
  exact⟨i+1,by omega,by omega,by rw[hsn];rfl⟩
 (repeat' first|refine st ?_|refine sa fun xe hxe=>?_|refine sb (fun hq=>?_) fun hq=>?_|exact True.intro)
 rw[List.take_of_length_le (by omega)]
 exact⟨rfl,rfl⟩
theorem C2 (c:List Int)(hc:comV c=true):aj Tryz.prog 120 [.lst (.int .i64) c] [] (.int .i64 (quo c)) []:=by
 have h1:=fU hc
 have h2:=yR hc
 have h3:(2*kJ c).tdiv 3+1=quo c:=rfl
 refine ab ak Tryz.func120 rfl rfl false 0 4 rfl rfl rfl rfl fun K hK hb1 hb2=>?_;simp only[af,enc,Nat.reduceAdd]
 (repeat' first|refine st ?_|refine sa fun xe hxe=>?_|refine sb (fun hq=>?_) fun hq=>?_|refine cr (sO _ hc) ?_|exact True.intro)
 exact⟨rfl,rfl⟩
theorem uq (c:List Int):aj Tryz.prog 64 [.lst (.int .i64) c] [] (.int .i64 (if comV c then quo c else-1)) []:=by
 refine ab ak Tryz.func64 rfl rfl false 0 4 rfl rfl rfl rfl fun K hK hb1 hb2=>?_;simp only[af,enc,Nat.reduceAdd]
 cases hc:comV c
 ·(repeat' first|refine st ?_|refine sa fun xe hxe=>?_|refine sb (fun hq=>?_) fun hq=>?_|refine cr (o4 _) ?_|exact True.intro)
  exact⟨rfl,rfl⟩
 ·(repeat' first|refine st ?_|refine sa fun xe hxe=>?_|refine sb (fun hq=>?_) fun hq=>?_|refine cr (o4 _) ?_|refine cr (C2 _ hc) ?_|exact True.intro)
  exact⟨rfl,rfl⟩
theorem cN (c:List Int)(m:Int):aj Tryz.prog 153 [.lst (.int .i64) c,.int .i64 m] [] (.bool (bY c m)) []:=by
 refine ab ak Tryz.func153 rfl rfl false 0 4 rfl rfl rfl rfl fun K hK hb1 hb2=>?_;simp only[af,enc,Nat.reduceAdd]
 simp[ae,V.toD,bnd,aa,D.cells] at hb1
 (repeat' first|refine st ?_|refine sa fun xe hxe=>?_|refine sb (fun hq=>?_) fun hq=>?_|exact True.intro)
 all_goals (refine⟨congrArg V.bool ?_,rfl⟩;rw[Bool.eq_iff_iff];simp only[bY,av,decide_eq_true_eq];(try simp);omega)
theorem iJ (r:Int):aj Tryz.prog 188 [.int .i64 r] [] (.bool (f6 r 0 30)) []:=by
 refine ab ak Tryz.func188 rfl rfl false 0 4 rfl rfl rfl rfl fun K hK hb1 hb2=>?_;simp only[af,enc,Nat.reduceAdd]
 (repeat' first|refine st ?_|refine sa fun xe hxe=>?_|refine sb (fun hq=>?_) fun hq=>?_|exact True.intro)
 all_goals (refine⟨congrArg V.bool ?_,rfl⟩;rw[Bool.eq_iff_iff];simp only[av,decide_eq_true_eq];(try simp);omega)
theorem CR (r:Int):aj Tryz.prog 189 [.int .i64 r] [] (.bool (f6 r 0 990)) []:=by
 refine ab ak Tryz.func189 rfl rfl false 0 4 rfl rfl rfl rfl fun K hK hb1 hb2=>?_;simp only[af,enc,Nat.reduceAdd]
 (repeat' first|refine st ?_|refine sa fun xe hxe=>?_|refine sb (fun hq=>?_) fun hq=>?_|exact True.intro)
 all_goals (refine⟨congrArg V.bool ?_,rfl⟩;rw[Bool.eq_iff_iff];simp only[av,decide_eq_true_eq];(try simp);omega)
theorem Ax (c ms:List Int):aj Tryz.prog 121 [.lst (.int .i64) c,.lst (.int .i64) ms] [] (.bool (cj c ms)) []:=by
 refine ab ak Tryz.func121 rfl rfl false 0 4 rfl rfl rfl rfl fun K hK hb1 hb2=>?_;simp only[af,enc,Nat.reduceAdd]
 simp[ae,V.toD,bnd,aa,D.cells] at hb1
 (repeat' first|refine st ?_|refine sa fun xe hxe=>?_|refine sb (fun hq=>?_) fun hq=>?_|exact True.intro)
 refine ah hK [] [0,1,7,8,9] (fun i:Nat=>⟨[(0,.lst (.int .i64) c),(1,.lst (.int .i64) ms),(7,.lst (.int .i64) ms),(8,.int .i64 ms.length),(9,.int .i64 i)],[],4⟩) (fun i=>i≤ms.length∧∀j,j<i→ep c ms j=true) (fun i=>ms.length-i) 0 ⟨by simp,by simp⟩ rfl ?_
 rintro i ⟨hi,hall⟩
 have hno:ep c ms i=false→i<ms.length→V.bool false=V.bool (cj c ms)∧([]:VH)=[]:=fun h1 h2=>by
  have:cj c ms=false:=bN h2 h1
  rw[this]
  exact⟨rfl,rfl⟩
 by_cases hlt:i<ms.length
 ·have hxe:ms[i]?=some ms[i]:=List.getElem?_eq_getElem hlt
  have hA:ep c ms i=(bY c ms[i] && (i==0||decide (ms.getD (i-1) 0<ms[i]))):=by simp only[ep,aV hxe]
  have hyes:ep c ms i=true→∃y,(y≤ms.length∧∀j,j<y→ep c ms j=true)∧ms.length-y<ms.length-i∧VSt.mk [(0,.lst (.int .i64) c),(1,.lst (.int .i64) ms),(7,.lst (.int .i64) ms),(8,.int .i64 ms.length),(9,.int .i64 ((i:Int)+1))] [] 4=⟨[(0,.lst (.int .i64) c),(1,.lst (.int .i64) ms),(7,.lst (.int .i64) ms),(8,.int .i64 ms.length),(9,.int .i64 (y:Int))],[],4⟩:=fun h=>⟨i+1,⟨by omega,a8 hall h⟩,by omega,rfl⟩
  generalize ms[i]=m at *
  cases h1:bY c m
  ·(repeat' first|refine st ?_|refine sa fun xe hxe=>?_|refine sb (fun hq=>?_) fun hq=>?_|refine cr (cN _ _) ?_|exact True.intro)
   exact hno (by rw[hA,h1];rfl) hlt
  by_cases hi0:i=0
  ·(repeat' first|refine st ?_|refine sa fun xe hxe=>?_|refine sb (fun hq=>?_) fun hq=>?_|refine cr (cN _ _) ?_|exact True.intro)
   exact hyes (by rw[hA,h1];simp[hi0])
  ·have hye:ms[((i:Int)-1).toNat]?=some (ms.getD (i-1) 0):=by rw[show ((i:Int)-1).toNat=i-1 by omega,List.getD_eq_getElem?_getD,List.getElem?_eq_getElem (show i-1<ms.length by omega)];rfl
   generalize ms.getD (i-1) 0=u at *
   (repeat' first|refine st ?_|refine sa fun xe hxe=>?_|refine sb (fun hq=>?_) fun hq=>?_|refine cr (cN _ _) ?_|exact True.intro)
   ·exact hno (by rw[hA,h1];simp;omega) hlt
   ·exact hyes (by rw[hA,h1];simp;omega)
 ·(repeat' first|refine st ?_|refine sa fun xe hxe=>?_|refine sb (fun hq=>?_) fun hq=>?_|exact True.intro)
  refine⟨?_,rfl⟩
  have:i=ms.length:=by omega
  subst this
  have:cj c ms=true:=bB hall
  rw[this]
theorem la (c ms:List Int):aj Tryz.prog 65 [.lst (.int .i64) c,.lst (.int .i64) ms] [] (.bool (comV c && cj c ms)) []:=by
 refine ab ak Tryz.func65 rfl rfl false 0 4 rfl rfl rfl rfl fun K hK hb1 hb2=>?_;simp only[af,enc,Nat.reduceAdd]
 (repeat' first|refine st ?_|refine sa fun xe hxe=>?_|refine sb (fun hq=>?_) fun hq=>?_|refine cr (o4 _) ?_|refine cr (Ax _ _) ?_|exact True.intro)
 all_goals (refine⟨?_,rfl⟩;simp_all)
theorem C8 (c ms:List Int)(hc:comV c=true)(hm:∀m∈ms,0≤m∧m<c.length)(hl:ms.length≤2000000):aj Tryz.prog 66 [.lst (.int .i64) c,.lst (.int .i64) ms] [] (.int .i64 (jO c ms)) []:=by
 refine ab ak Tryz.func66 rfl rfl false 0 4 rfl rfl rfl rfl fun K hK hb1 hb2=>?_;simp only[af,enc,Nat.reduceAdd]
 clear hb1 hb2
 (repeat' first|refine st ?_|refine sa fun xe hxe=>?_|refine sb (fun hq=>?_) fun hq=>?_|exact True.intro)
 refine ah hK [] [0,1,5,8,9,10] (fun i:Nat=>⟨[(0,.lst (.int .i64) c),(1,.lst (.int .i64) ms),(5,.int .i64 (jO c (ms.take i))),(8,.lst (.int .i64) ms),(9,.int .i64 ms.length),(10,.int .i64 i)],[],4⟩) (fun i=>i≤ms.length) (fun i=>ms.length-i) 0 (by simp) rfl ?_
 intro i hi
 by_cases hlt:i<ms.length
 ·have hxe:ms[i]?=some ms[i]:=List.getElem?_eq_getElem hlt
  have h1:=hm _ (List.getElem_mem hlt)
  have h2:=pP (ms:=ms.take i) hc
  have h3:=zI (c:=c) hxe
  rw[List.length_take] at h2
  generalize ms[i]=m at *
  have hx2:c[m.toNat]?=some (c.getD m.toNat 0):=by rw[List.getD_eq_getElem?_getD,List.getElem?_eq_getElem (show m.toNat<c.length by omega)];rfl
  have h4:=(au.1 hc).1 _ (List.mem_of_getElem? hx2)
  generalize c.getD m.toNat 0=x at *
  (repeat' first|refine st ?_|refine sa fun xe hxe=>?_|refine sb (fun hq=>?_) fun hq=>?_|exact True.intro)
  exact⟨i+1,by omega,by omega,by rw[h3];rfl⟩
 (repeat' first|refine st ?_|refine sa fun xe hxe=>?_|refine sb (fun hq=>?_) fun hq=>?_|exact True.intro)
 rw[List.take_of_length_le (by omega)]
 exact⟨rfl,rfl⟩
def wz (c ms:List Int):Int:=if comV c && cj c ms then jO c ms else-1
theorem ur (c ms:List Int):aj Tryz.prog 24 [.lst (.int .i64) c,.lst (.int .i64) ms] [] (.int .i64 (wz c ms)) []:=by
 refine ab ak Tryz.func24 rfl rfl false 0 4 rfl rfl rfl rfl fun K hK hb1 hb2=>?_;simp only[af,enc,Nat.reduceAdd]
 cases hv:comV c && cj c ms
 ·(repeat' first|refine st ?_|refine sa fun xe hxe=>?_|refine sb (fun hq=>?_) fun hq=>?_|refine cr (la _ _) ?_|exact True.intro)
  exact⟨by simp[wz,hv],rfl⟩
 ·have hc:comV c=true:=by simp_all
  have hm:cj c ms=true:=by simp_all
  have h7:=(au.1 hc).2
  have hl:=fj hm
  (repeat' first|refine st ?_|refine sa fun xe hxe=>?_|refine sb (fun hq=>?_) fun hq=>?_|refine cr (la _ _) ?_|((with_reducible refine lM ?_);(conv=>whnf);(first|with_reducible refine dp (C8 _ _ hc (dE hm) (by omega)) ?_);conv=>whnf)|exact True.intro)
  exact⟨by simp[wz,hv],rfl⟩
theorem oV (v u:Vtx):aj Tryz.prog 180 [bS v,bS u] [] (.bool (bef v u)) []:=by
 refine ab ak Tryz.func180 rfl rfl false 0 4 rfl rfl rfl rfl fun K hK hb1 hb2=>?_;simp only[af,enc,Nat.reduceAdd]
 (repeat' first|refine st ?_|refine sa fun xe hxe=>?_|refine sb (fun hq=>?_) fun hq=>?_|exact True.intro)
 all_goals (refine⟨?_,rfl⟩;simp_all[bef])
theorem gf (c:List Int)(v:Vtx):aj Tryz.prog 155 [.lst (.int .i64) c,bS v] [] (.bool (comV c && vtxS c v)) []:=by
 refine ab ak Tryz.func155 rfl rfl false 0 4 rfl rfl rfl rfl fun K hK hb1 hb2=>?_;simp only[af,enc,Nat.reduceAdd]
 simp[ae,V.toD,bnd,aa,D.cells] at hb1
 have h8:((v.parents.length:Int)==0)=(v.parents.length==0):=by rw[Bool.eq_iff_iff,beq_iff_eq,beq_iff_eq];omega
 (repeat' first|refine st ?_|refine sa fun xe hxe=>?_|refine sb (fun hq=>?_) fun hq=>?_|refine cr (la _ _) ?_|refine cr (iJ _) ?_|refine cr (cN _ _) ?_|refine cr (CR _) ?_|refine cr (ur _ _) ?_|refine cr (uq _) ?_|exact True.intro)
 all_goals (refine⟨?_,rfl⟩;simp_all[vtxS,bY,wz])
def Θg:TT:=(166,⟨.ptr 178,1,8,some (.nilp),some (.hp 0),false⟩)::Θ
theorem ce:TT.ok Tryz.prog Θg:=TT.okB_ok (by kernel_rfl)
theorem eM {P Q:Prop}(h:Q)(s:Hid Q→P:=by
  intro h
  (first|(with_reducible first|apply ci|apply bP)|((first|with_reducible apply bE ce|refine go ?_|(with_reducible first|apply bW|apply b7|apply bC|apply bF|refine bD ce mixed (by kernel_rfl) ?_))<;>conv=>whnf))
  repeat(first|(with_reducible first|apply ci|apply bP)|((first|with_reducible apply bE ce|refine go ?_|(with_reducible first|apply bW|apply b7|apply bC|apply bF|refine bD ce mixed (by kernel_rfl) ?_))<;>conv=>whnf))
  exact h.h):P:=s ⟨h⟩
abbrev gZ (c:List Int)(s:GS):VH:=[(0,.fvar 178 (.nod 1) s.nodes),(1,.frow 166 (.hp 0) s.rows),(4,.vari 170 [.lst (.int .i64) c,.nils] 217 (.hp 0) s.plc [])]
abbrev FW (c:List Int)(s:GS)(x:VB):VH:=[(0,.fvar 178 (.nod 1) s.nodes),(1,.frow 166 (.hp 0) s.rows),(4,.vari 170 [.lst (.int .i64) c,.nils] 217 (.hp 0) s.plc []),(5,x)]
abbrev gR (c:List Int)(s:GS):VH:=[(0,.fvar 178 (.nod 1) s.nodes),(1,.frow 166 (.hp 0) s.rows),(4,.vari 170 [.lst (.int .i64) c,.ref 5] 217 (.hp 0) s.plc []),(5,.row 166 (.hp 0) ((List.range s.nodes.length).map some))]
abbrev Ag (c:List Int)(s:GS)(x:VB):VH:=[(0,.fvar 178 (.nod 1) s.nodes),(1,.frow 166 (.hp 0) s.rows),(4,.vari 170 [.lst (.int .i64) c,.ref 5] 217 (.hp 0) s.plc []),(5,.row 166 (.hp 0) ((List.range s.nodes.length).map some)),(6,x)]
theorem ln {s:GS}(hs:s.plc.length=217){r a:Int}(hr:f6 r 0 30=true)(ha:0≤a∧a≤6):s.plc[r.toNat * 7+a.toNat]?=some (s.at r a):=by
 have hr:=av.1 hr
 have e:(r*7+a).toNat=r.toNat * 7+a.toNat:=by omega
 rw[GS.at,e,List.getD_eq_getElem?_getD,List.getElem?_eq_getElem (by omega)]
 rfl
def kw (s:GS)(r:Int)(n:Nat):List Int:=((List.range n).filter fun a:Nat=>f6 r 0 30 && (s.at r (a:Int)).isSome).map fun a:Nat=>(a:Int)
theorem Cj (s:GS)(r:Int)(n:Nat):kw s r (n+1)=if f6 r 0 30 && (s.at r (n:Int)).isSome then kw s r n++[(n:Int)] else kw s r n:=by
 simp only[kw,List.range_succ,List.filter_append,List.map_append,List.filter_cons,List.filter_nil]
 split<;>simp
theorem D0 (s:GS)(r:Int)(n:Nat):(kw s r n).length≤n:=by
 unfold kw
 rw[List.length_map]
 exact Nat.le_trans (List.length_filter_le _ _) (by simp)
theorem Fk (c:List Int)(s:GS)(r a:Int)(h:(f6 r 0 30 && bY c a)=false):aj Tryz.prog 184 [.ptr 4 0,.int .i64 r,.int .i64 a] (gR c s) .nilp (gR c s):=by
 refine ab ce Tryz.func184 rfl rfl false 2 6 rfl rfl rfl rfl fun K hK hb1 hb2=>?_;simp only[af,enc,Nat.reduceAdd]
 clear hb1 hb2
 cases h1:f6 r 0 30
 ·(repeat' first|refine st ?_|refine sa fun xe hxe=>?_|refine sb (fun hq=>?_) fun hq=>?_|refine cr (iJ _) ?_|refine cr (cN _ _) ?_|exact True.intro)
  exact⟨rfl,rfl⟩
 ·have h2:bY c a=false:=by simp_all
  (repeat' first|refine st ?_|refine sa fun xe hxe=>?_|refine sb (fun hq=>?_) fun hq=>?_|refine cr (iJ _) ?_|refine cr (cN _ _) ?_|exact True.intro)
  exact⟨rfl,rfl⟩
theorem iF (c:List Int)(s:GS)(r a:Int)(hs:s.plc.length=217)(hc:c.length≤7)(h1:f6 r 0 30=true)(h2:bY c a=true):aj Tryz.prog 184 [.ptr 4 0,.int .i64 r,.int .i64 a] (gR c s) (.hpo 0 (s.at r a)) (gR c s):=by
 refine ab ce Tryz.func184 rfl rfl false 2 6 rfl rfl rfl rfl fun K hK hb1 hb2=>?_;simp only[af,enc,Nat.reduceAdd]
 clear hb1 hb2
 have hr:=av.1 h1
 have ha:=av.1 h2
 have hp:=ln hs h1 (a:=a) (by omega)
 (repeat' first|refine st ?_|refine sa fun xe hxe=>?_|refine sb (fun hq=>?_) fun hq=>?_|refine cr (iJ _) ?_|refine cr (cN _ _) ?_|exact True.intro)
 exact⟨rfl,rfl⟩
theorem Fl (c:List Int)(s:GS)(r a:Int)(h:(f6 r 0 30 && bY c a)=false):aj Tryz.prog 184 [.ptr 4 0,.int .i64 r,.int .i64 a] (gZ c s) .nilp (gZ c s):=by
 refine ab ce Tryz.func184 rfl rfl false 1 5 rfl rfl rfl rfl fun K hK hb1 hb2=>?_;simp only[af,enc,Nat.reduceAdd]
 clear hb1 hb2
 cases h1:f6 r 0 30
 ·(repeat' first|refine st ?_|refine sa fun xe hxe=>?_|refine sb (fun hq=>?_) fun hq=>?_|refine cr (iJ _) ?_|refine cr (cN _ _) ?_|exact True.intro)
  exact⟨rfl,rfl⟩
 ·have h2:bY c a=false:=by simp_all
  (repeat' first|refine st ?_|refine sa fun xe hxe=>?_|refine sb (fun hq=>?_) fun hq=>?_|refine cr (iJ _) ?_|refine cr (cN _ _) ?_|exact True.intro)
  exact⟨rfl,rfl⟩
theorem wN (c:List Int)(s:GS)(r a:Int)(hs:s.plc.length=217)(hc:c.length≤7)(h1:f6 r 0 30=true)(h2:bY c a=true):aj Tryz.prog 184 [.ptr 4 0,.int .i64 r,.int .i64 a] (gZ c s) (.hpo 0 (s.at r a)) (gZ c s):=by
 refine ab ce Tryz.func184 rfl rfl false 1 5 rfl rfl rfl rfl fun K hK hb1 hb2=>?_;simp only[af,enc,Nat.reduceAdd]
 clear hb1 hb2
 have hr:=av.1 h1
 have ha:=av.1 h2
 have hp:=ln hs h1 (a:=a) (by omega)
 (repeat' first|refine st ?_|refine sa fun xe hxe=>?_|refine sb (fun hq=>?_) fun hq=>?_|refine cr (iJ _) ?_|refine cr (cN _ _) ?_|exact True.intro)
 exact⟨rfl,rfl⟩
abbrev gO (c:List Int)(s:GS):VH:=[(0,.fvar 178 (.nod 1) s.nodes),(1,.frow 166 (.hp 0) s.rows),(4,.vari 170 [.lst (.int .i64) c,.ref 6] 217 (.hp 0) s.plc []),(5,.gone),(6,.row 166 (.hp 0) ((List.range s.nodes.length).map some))]
theorem nL (s:GS)(v:Vtx):(List.range s.nodes.length).map some++[some s.nodes.length]=(List.range (a9 s v).nodes.length).map some:=by
 simp[a9,List.range_succ]
theorem jZ (s:GS)(v:Vtx)(h:0≤v.round∧0≤v.author):s.plc.set (v.round.toNat * 7+v.author.toNat) (some s.nodes.length)=(a9 s v).plc:=by
 have e:(v.round*7+v.author).toNat=v.round.toNat * 7+v.author.toNat:=by omega
 simp only[a9,e]
def ka (s:GS)(v:Vtx):Bool:=v.parents.all fun p=>(s.at (v.round-1) p).isSome
abbrev AM (v:Vtx)(n:Int)(p:V):VB:=.var 178 [.int .i64 v.round,.int .i64 v.author,.lst (.int .i64) v.parents,.int .i64 v.digest,.int .i64 n,p]
abbrev AR (s:GS)(v:Vtx)(i:Nat):VB:=.row 166 (.hp 0) ((v.parents.take i).map fun p=>s.at (v.round-1) p)
def o7 (c:List Int)(s:GS)(v:Vtx):Nat→VSt
 |0=>⟨[(0,.ptr 4 0),(3,.ptr 6 0),(5,.ptr 7 0),(18,.lst (.int .i64) v.parents),(19,.int .i64 v.parents.length),(20,.int .i64 0)],gR c s++[(6,.var 48 (bS v).cells),(7,AM v s.nodes.length .nils)],8⟩
 |i+1=>⟨[(0,.ptr 4 0),(3,.ptr 6 0),(5,.ptr 7 0),(18,.lst (.int .i64) v.parents),(19,.int .i64 v.parents.length),(20,.int .i64 ((i+1:Nat):Int))],gR c s++[(6,.var 48 (bS v).cells),(7,AM v s.nodes.length (.ref 8)),(8,AR s v (i+1))],9⟩
theorem AH (c:List Int)(s:GS)(v:Vtx)(hs:s.plc.length=217)(hc:comV c=true)(hv:vtxS c v=true)(hn:s.nodes.length≤2000000):aj Tryz.prog 181 [.ptr 4 0,bS v] (gR c s) (.bool (ka s v)) (if ka s v then gO c (a9 s v) else gR c s):=by
 have h7:=(au.1 hc).2
 obtain⟨v1,v2,v3,v4,v5,v6⟩:=bl hv
 have hml:=fj v3
 have hmi:=dE v3
 have hrl:((List.range s.nodes.length).map some).length=s.nodes.length:=by simp
 refine ab ce Tryz.func181 rfl rfl false 2 6 rfl rfl rfl rfl fun K hK hb1 hb2=>?_;simp only[af,enc,Nat.reduceAdd]
 clear hb1 hb2
 (repeat' first|refine eM ?_|refine sa fun xe hxe=>?_|refine sb (fun hq=>?_) fun hq=>?_|exact True.intro)
 refine ah hK [] [0,3,5,18,19,20] (o7 c s v) (fun i=>i≤v.parents.length∧∀p∈v.parents.take i,(s.at (v.round-1) p).isSome=true) (fun i=>v.parents.length-i) 0 ⟨by simp,by simp⟩ (by simp only[hrl];rfl) ?_
 rintro i ⟨hi,hall⟩
 have hno:∀p∈v.parents,s.at (v.round-1) p=none→ka s v=false:=fun p hp h=>by
  rw[Bool.eq_false_iff]
  intro h2
  have:=List.all_eq_true.1 h2 p hp
  rw[h] at this
  cases this
 by_cases hlt:i<v.parents.length
 ·have hxe:v.parents[i]?=some v.parents[i]:=List.getElem?_eq_getElem hlt
  have h3:v.parents.take (i+1)=v.parents.take i++[v.parents[i]]:=List.take_succ_eq_append_getElem hlt
  have h4:v.parents[i]∈v.parents:=List.getElem_mem hlt
  have hr0:v.round≠0:=fun h=>by rw[v5 h] at hlt;simp at hlt
  have h1:f6 (v.round-1) 0 30=true:=av.2 (by omega)
  have hlk:o7 c s v (i+1)=⟨[(0,.ptr 4 0),(3,.ptr 6 0),(5,.ptr 7 0),(18,.lst (.int .i64) v.parents),(19,.int .i64 v.parents.length),(20,.int .i64 ((i+1:Nat):Int))],gR c s++[(6,.var 48 (bS v).cells),(7,AM v s.nodes.length (.ref 8)),(8,.row 166 (.hp 0) (((v.parents.take i).map fun p=>s.at (v.round-1) p)++[s.at (v.round-1) v.parents[i]]))],9⟩:=by
   rw[o7,AR,h3,List.map_append];rfl
  generalize v.parents[i]=p at *
  have h2:bY c p=true:=av.2 (by have:=hmi p h4;omega)
  have hl2:((v.parents.take i).map fun p=>s.at (v.round-1) p).length=i:=by rw[List.length_map,List.length_take];omega
  cases h5:s.at (v.round-1) p with
  |none=>
   have hin:(s.at (v.round-1) p).isNone=true:=by rw[h5];rfl
   have hnn:=hno p h4 h5
   cases i with
   |zero=>
    have hx0:v.parents[(0:Int).toNat]?=some p:=hxe
    unfold o7
    (repeat' first|refine eM ?_|refine sa fun xe hxe=>?_|refine sb (fun hq=>?_) fun hq=>?_|refine co (iF c s (v.round-1) p hs h7.2 h1 h2) ?_|exact True.intro)
    exact⟨by rw[hnn],by rw[hnn];rfl⟩
   |succ i=>
    unfold o7
    (repeat' first|refine eM ?_|refine sa fun xe hxe=>?_|refine sb (fun hq=>?_) fun hq=>?_|refine co (iF c s (v.round-1) p hs h7.2 h1 h2) ?_|exact True.intro)
    exact⟨by rw[hnn],by rw[hnn];rfl⟩
  |some k=>
   have hin:(s.at (v.round-1) p).isNone=false:=by rw[h5];rfl
   cases i with
   |zero=>
    have hx0:v.parents[(0:Int).toNat]?=some p:=hxe
    unfold o7
    (repeat' first|refine eM ?_|refine sa fun xe hxe=>?_|refine sb (fun hq=>?_) fun hq=>?_|refine co (iF c s (v.round-1) p hs h7.2 h1 h2) ?_|exact True.intro)
    refine⟨0+1,⟨by omega,by rw[h3];exact a5 hall (by rw[h5];rfl)⟩,by omega,?_⟩
    refine Eq.trans ?_ hlk.symm
    rfl
   |succ i=>
    unfold o7
    simp only[AR]
    generalize (List.map (fun p=>s.at (v.round-1) p) (List.take (i+1) v.parents))=ps at *
    (repeat' first|refine eM ?_|refine sa fun xe hxe=>?_|refine sb (fun hq=>?_) fun hq=>?_|refine co (iF c s (v.round-1) p hs h7.2 h1 h2) ?_|exact True.intro)
    refine⟨i+1+1,⟨by omega,by rw[h3];exact a5 hall (by rw[h5];rfl)⟩,by omega,?_⟩
    refine Eq.trans ?_ hlk.symm
    rfl
 ·rw[List.take_of_length_le (by omega)] at hall
  have hy:ka s v=true:=List.all_eq_true.2 hall
  have hpl:=ln hs (av.2 v1) (a:=v.author) (by omega)
  cases i with
  |zero=>
   unfold o7
   simp only[gR]
   generalize hnr:(List.map some (List.range s.nodes.length))=nr at *
   (repeat' first|refine eM ?_|refine sa fun xe hxe=>?_|refine sb (fun hq=>?_) fun hq=>?_|exact True.intro)
   rw[hy]
   refine⟨rfl,?_⟩
   have e1:=nL s v
   have e2:=jZ s v ⟨v1.1,v2.1⟩
   simp only[if_true,gO]
   rw[←e1,←e2,hnr]
   have e3:v.parents=[]:=List.length_eq_zero_iff.1 (by omega)
   have e4:(a9 s v).nodes=s.nodes++[⟨v,s.nodes.length,none⟩]:=by simp[a9,e3]
   have e5:(a9 s v).rows=s.rows:=by simp[a9,e3]
   rw[e4,e5]
  |succ i=>
   unfold o7
   simp only[AR]
   generalize hps:(List.map (fun p=>s.at (v.round-1) p) (List.take (i+1) v.parents))=ps at *
   simp only[gR]
   generalize hnr:(List.map some (List.range s.nodes.length))=nr at *
   (repeat' first|refine eM ?_|refine sa fun xe hxe=>?_|refine sb (fun hq=>?_) fun hq=>?_|exact True.intro)
   rw[hy]
   refine⟨rfl,?_⟩
   have e1:=nL s v
   have e2:=jZ s v ⟨v1.1,v2.1⟩
   simp only[if_true,gO]
   rw[←e1,←e2,hnr]
   have e3:v.parents≠[]:=fun h=>by rw[h] at hi;simp at hi
   rw[List.take_of_length_le (by omega)] at hps
   simp only[a9,e3,if_false,hps]
theorem sJ (r a:Int):eQ.at r a=none:=by
 simp only[eQ,GS.at,List.getD_eq_getElem?_getD,List.getElem?_replicate]
 split<;>rfl
theorem EL (v:Vtx):ka eQ v=v.parents.isEmpty:=by
 unfold ka
 cases v.parents with
 |nil=>rfl
 |cons p l=>simp[sJ]
theorem AI (c:List Int)(v:Vtx)(hc:comV c=true)(hv:vtxS c v=true):aj Tryz.prog 181 [.ptr 4 0,bS v] (gZ c eQ) (.bool (ka eQ v)) (if ka eQ v then gR c (a9 eQ v) else gZ c eQ):=by
 have h7:=(au.1 hc).2
 have hs:eQ.plc.length=217:=List.length_replicate
 obtain⟨v1,v2,v3,v4,v5,v6⟩:=bl hv
 have hmi:=dE v3
 refine ab ce Tryz.func181 rfl rfl false 1 5 rfl rfl rfl rfl fun K hK hb1 hb2=>?_;simp only[af,enc,Nat.reduceAdd]
 clear hb1 hb2
 (repeat' first|refine eM ?_|refine sa fun xe hxe=>?_|refine sb (fun hq=>?_) fun hq=>?_|exact True.intro)
 refine ah hK [] [0,3,5,18,19,20] (fun i:Nat=>⟨[(0,.ptr 4 0),(3,.ptr 5 0),(5,.ptr 6 0),(18,.lst (.int .i64) v.parents),(19,.int .i64 v.parents.length),(20,.int .i64 0)],gZ c eQ++[(5,.var 48 (bS v).cells),(6,AM v 0 .nils)],7⟩) (fun i=>i=0) (fun i=>i) 0 rfl (by simp only[List.length_nil];rfl) ?_
 rintro i rfl
 have hy:=EL v
 by_cases hlt:0<v.parents.length
 ·have hxe:v.parents[0]?=some v.parents[0]:=List.getElem?_eq_getElem hlt
  have h4:v.parents[0]∈v.parents:=List.getElem_mem hlt
  have hr0:v.round≠0:=fun h=>by rw[v5 h] at hlt;simp at hlt
  have h1:f6 (v.round-1) 0 30=true:=av.2 (by omega)
  have hne:v.parents.isEmpty=false:=by cases h:v.parents with|nil=>rw[h] at hlt;simp at hlt|cons _ _=>rfl
  rw[hne] at hy
  rw[hy]
  generalize v.parents[0]=p at *
  have h2:bY c p=true:=av.2 (by have:=hmi p h4;omega)
  have hx0:v.parents[(0:Int).toNat]?=some p:=hxe
  have hin:(eQ.at (v.round-1) p).isNone=true:=by rw[sJ];rfl
  (repeat' first|refine eM ?_|refine sa fun xe hxe=>?_|refine sb (fun hq=>?_) fun hq=>?_|refine co (wN c eQ (v.round-1) p hs h7.2 h1 h2) ?_|exact True.intro)
  exact⟨rfl,rfl⟩
 ·have e3:v.parents=[]:=List.length_eq_zero_iff.1 (by omega)
  have hem:v.parents.isEmpty=true:=by rw[e3];rfl
  rw[hem] at hy
  rw[hy]
  have hpl:=ln hs (av.2 v1) (a:=v.author) (by omega)
  have e2:=jZ eQ v ⟨v1.1,v2.1⟩
  have e4:(a9 eQ v).nodes=[⟨v,0,none⟩]:=by simp[a9,e3,eQ]
  have e5:(a9 eQ v).rows=[]:=by simp[a9,e3,eQ]
  simp only[if_true,gR]
  rw[←e2,e4,e5]
  (repeat' first|refine eM ?_|refine sa fun xe hxe=>?_|refine sb (fun hq=>?_) fun hq=>?_|exact True.intro)
  exact⟨rfl,rfl⟩
theorem AS {c:List Int}{g:List Vtx}{v:Vtx}(hc:comV c=true)(hg:∀u∈g,vtxS c u=true)(hv:vtxS c v=true):ka (bn g) v=parOK g v:=by
 obtain⟨v1,v2,v3,v4,v5,v6⟩:=bl hv
 have h7:=(au.1 hc).2
 unfold ka parOK
 rw[Bool.eq_iff_iff,List.all_eq_true,List.all_eq_true]
 have key:∀p∈v.parents,((bn g).at (v.round-1) p).isSome=eC g (v.round-1) p:=by
  intro p hp
  have hr0:v.round≠0:=fun h=>by rw[v5 h] at hp;cases hp
  have:=dE v3 p hp
  exact(oU (fun u hu=>eA hc (hg u hu)) (by omega) (by omega)).1
 constructor
 ·intro h p hp;rw[←key p hp];exact h p hp
 ·intro h p hp;rw[key p hp];exact h p hp
def AG (c:List Int)(g:List Vtx):Nat→VSt
 |0=>⟨[(0,.lst (.int .i64) c),(1,.lst .vtx g),(6,.ptr 4 0),(15,.lst .vtx g),(16,.int .i64 g.length),(17,.int .i64 0)],gZ c eQ,5⟩
 |i+1=>⟨[(0,.lst (.int .i64) c),(1,.lst .vtx g),(6,.ptr 4 0),(15,.lst .vtx g),(16,.int .i64 g.length),(17,.int .i64 ((i+1:Nat):Int))],gR c (bn (g.take (i+1))),6⟩
def gF (c:List Int)(g:List Vtx):VH:=match g with|[]=>gZ c eQ|v::l=>gR c (bn (v::l))
def wD (c:List Int)(g:List Vtx):V:=if graS c g then .tup [.ptr 4 0,.bool true] else .tup [.nilp,.bool false]
def wC (c:List Int)(g:List Vtx):VH:=if graS c g then gF c g else[]
theorem Ai {c:List Int}{g:List Vtx}{i:Nat}(hi:i<g.length)(h:dq c g i=false):graS c g=false:=by
 unfold graS
 rw[←ul,bN hi h,Bool.and_false]
theorem xM {c:List Int}{g:List Vtx}{i:Nat}(h:∀j,j<i→dq c g j=true):∀u∈g.take i,vtxS c u=true:=by
 intro u hu
 obtain⟨j,hj,rfl⟩:=ca (d:=v0) hu
 rw[List.length_take] at hj
 have:=h j (by omega)
 simp only[dq,Bool.and_eq_true] at this
 rw[show (g.take i).getD j v0=g.getD j v0 by simp only[List.getD_eq_getElem?_getD,List.getElem?_take,if_pos (show j<i by omega)]]
 exact this.1
theorem o6 (c:List Int)(g:List Vtx)(hl:g.length≤2000000):aj Tryz.prog 141 [.lst (.int .i64) c,.lst .vtx g] [] (wD c g) (wC c g):=by
 have hbad:graS c g=false→V.tup [.nilp,.bool false]=wD c g∧([]:VH)=wC c g:=fun h=>by simp[wD,wC,h]
 refine ab ce Tryz.func141 rfl rfl false 0 4 rfl rfl rfl rfl fun K hK hb1 hb2=>?_;simp only[af,enc,Nat.reduceAdd]
 clear hb1 hb2
 cases hc:comV c
 ·(repeat' first|refine eM ?_|refine sa fun xe hxe=>?_|refine sb (fun hq=>?_) fun hq=>?_|refine cr (jb _) ?_|exact True.intro)
  exact hbad (by simp[graS,hc])
 (repeat' first|refine eM ?_|refine sa fun xe hxe=>?_|refine sb (fun hq=>?_) fun hq=>?_|refine cr (jb _) ?_|exact True.intro)
 refine wM 4 2 217 (.hp 0) ?_
 ((conv=>whnf);refine De (by kernel_rfl) ?_;(conv=>whnf))
 refine jS 0 (.fvar 178 (.nod 1) []) rfl ?_
 refine jS 1 (.frow 166 (.hp 0) []) rfl ?_
 refine ah hK [] [0,1,6,15,16,17] (AG c g) (fun i=>i≤g.length∧∀j,j<i→dq c g j=true) (fun i=>g.length-i) 0 ⟨by simp,by simp⟩ rfl ?_
 rintro i ⟨hi,hall⟩
 by_cases hlt:i<g.length
 ·have hxe:g[i]?=some g[i]:=List.getElem?_eq_getElem hlt
  have hA:dq c g i=(vtxS c g[i] && ((i==0||bef (g.getD (i-1) v0) g[i]) && parOK (g.take i) g[i])):=by simp only[dq,aV hxe]
  have hno:dq c g i=false→V.tup [.nilp,.bool false]=wD c g∧([]:VH)=wC c g:=fun h=>hbad (Ai hlt h)
  have hgs:bn (g.take (i+1))=a9 (bn (g.take i)) g[i]:=by rw[List.take_succ_eq_append_getElem hlt,gd]
  have hgv:=xM hall
  have hys:dq c g i=true→∀j,j<i+1→dq c g j=true:=fun h=>a8 hall h
  generalize g[i]=v at *
  cases h1:vtxS c v
  ·have h2:(comV c && vtxS c v)=false:=by simp[h1]
   cases i with
   |zero=>
    have hx0:g[(0:Int).toNat]?=some v:=hxe
    unfold AG
    (repeat' first|refine eM ?_|refine sa fun xe hxe=>?_|refine sb (fun hq=>?_) fun hq=>?_|refine cr (gf _ _) ?_|exact True.intro)
    exact hno (by simp[hA,h1])
   |succ i=>
    unfold AG
    (repeat' first|refine eM ?_|refine sa fun xe hxe=>?_|refine sb (fun hq=>?_) fun hq=>?_|refine cr (gf _ _) ?_|exact True.intro)
    exact hno (by simp[hA,h1])
  have h2:(comV c && vtxS c v)=true:=by simp[h1,hc]
  have hpe:=AS hc hgv h1
  cases i with
  |zero=>
   have hx0:g[(0:Int).toNat]?=some v:=hxe
   have hL:=AI c v hc h1
   have hpe:ka eQ v=parOK (g.take 0) v:=hpe
   have hf1:aG (VB.fvar 178 (.nod 1) eQ.nodes)≤aG (VB.fvar 178 (.nod 1) (a9 eQ v).nodes):=Nat.zero_le _
   have hf2:aG (VB.frow 166 (.hp 0) eQ.rows)≤aG (VB.frow 166 (.hp 0) (a9 eQ v).rows):=Nat.zero_le _
   cases h3:ka eQ v
   ·rw[h3] at hL
    simp only[Bool.false_eq_true,if_false] at hL
    unfold AG
    (repeat' first|refine eM ?_|refine sa fun xe hxe=>?_|refine sb (fun hq=>?_) fun hq=>?_|refine cr (gf _ _) ?_|refine co (hL) ?_|exact True.intro)
    exact hno (by rw[hA,←hpe,h3];simp)
   ·rw[h3] at hL
    simp only[if_true] at hL
    unfold AG
    (repeat' first|refine eM ?_|refine sa fun xe hxe=>?_|refine sb (fun hq=>?_) fun hq=>?_|refine cr (gf _ _) ?_|refine co (hL) ?_|exact True.intro)
    refine⟨0+1,⟨by omega,hys (by rw[hA,←hpe,h3,h1];simp)⟩,by omega,?_⟩
    show _=VSt.mk _ (gR c (bn (g.take (0+1)))) _
    rw[hgs]
    rfl
  |succ i=>
   have hgl:(bn (g.take (i+1))).nodes.length≤2000000:=by rw[(ct _).1,List.length_take];omega
   have hL:=AH c (bn (g.take (i+1))) v (ct _).2 hc h1 hgl
   have hye:g[(((i+1:Nat):Int)-1).toNat]?=some (g.getD (i+1-1) v0):=by rw[show (((i+1:Nat):Int)-1).toNat=i by omega,List.getD_eq_getElem?_getD,List.getElem?_eq_getElem (show i<g.length by omega)];simp only[Nat.add_sub_cancel,List.getElem?_eq_getElem (show i<g.length by omega)];rfl
   generalize g.getD (i+1-1) v0=u at *
   have hst:AG c g (i+1)=⟨[(0,.lst (.int .i64) c),(1,.lst .vtx g),(6,.ptr 4 0),(15,.lst .vtx g),(16,.int .i64 g.length),(17,.int .i64 ((i+1:Nat):Int))],gR c (bn (g.take (i+1))),6⟩:=rfl
   rw[hst]
   clear hst
   generalize bn (g.take (i+1))=s at *
   have hf1:aG (VB.fvar 178 (.nod 1) s.nodes)≤aG (VB.fvar 178 (.nod 1) (a9 s v).nodes):=by simp[aG,a9]
   have hf2:aG (VB.frow 166 (.hp 0) s.rows)≤aG (VB.frow 166 (.hp 0) (a9 s v).rows):=by simp only[aG,a9];split<;>simp
   cases h4:bef u v
   ·(repeat' first|refine eM ?_|refine sa fun xe hxe=>?_|refine sb (fun hq=>?_) fun hq=>?_|refine cr (gf _ _) ?_|refine cr (oV _ _) ?_|exact True.intro)
    exact hno (by simp[hA,h1,h4])
   cases h3:ka s v
   ·rw[h3] at hL
    simp only[Bool.false_eq_true,if_false] at hL
    (repeat' first|refine eM ?_|refine sa fun xe hxe=>?_|refine sb (fun hq=>?_) fun hq=>?_|refine cr (gf _ _) ?_|refine cr (oV _ _) ?_|refine co (hL) ?_|exact True.intro)
    exact hno (by rw[hA,←hpe,h3];simp)
   ·rw[h3] at hL
    simp only[if_true] at hL
    (repeat' first|refine eM ?_|refine sa fun xe hxe=>?_|refine sb (fun hq=>?_) fun hq=>?_|refine cr (gf _ _) ?_|refine cr (oV _ _) ?_|refine co (hL) ?_|exact True.intro)
    refine⟨i+1+1,⟨by omega,hys (by rw[hA,←hpe,h3,h1,h4];simp)⟩,by omega,?_⟩
    show _=VSt.mk _ (gR c (bn (g.take (i+1+1)))) _
    rw[hgs]
    rfl
 ·have hg:graS c g=true:=by
   unfold graS
   rw[hc,←ul,bB (fun j hj=>hall j (by omega))]
   rfl
  have e1:wD c g= .tup [.ptr 4 0,.bool true]:=by simp[wD,hg]
  have e2:wC c g=gF c g:=by simp[wC,hg]
  rw[e1,e2]
  cases i with
  |zero=>
   have e3:g=[]:=List.length_eq_zero_iff.1 (by omega)
   subst e3
   unfold AG
   (repeat' first|refine eM ?_|refine sa fun xe hxe=>?_|refine sb (fun hq=>?_) fun hq=>?_|exact True.intro)
   exact⟨rfl,rfl⟩
  |succ i=>
   have hst:AG c g (i+1)=⟨[(0,.lst (.int .i64) c),(1,.lst .vtx g),(6,.ptr 4 0),(15,.lst .vtx g),(16,.int .i64 g.length),(17,.int .i64 ((i+1:Nat):Int))],gR c (bn g),6⟩:=by rw[AG,List.take_of_length_le (by omega)]
   rw[hst]
   cases g with
   |nil=>simp at hi
   |cons w g=>
    (repeat' first|refine eM ?_|refine sa fun xe hxe=>?_|refine sb (fun hq=>?_) fun hq=>?_|exact True.intro)
    exact⟨rfl,rfl⟩
theorem Ec {c:List Int}{g:List Vtx}(h:GraOK c g)(r:Int):kw (bn g) r c.length=oo g r:=by
 rw[←wO h r]
 unfold kw tQ
 congr 1
 refine List.filter_congr fun a ha=>?_
 have h7:=(au.1 h.com).2
 have ha:=List.mem_range.1 ha
 cases h1:f6 r 0 30
 ·rw[Bool.false_and]
  symm
  rw[Bool.eq_false_iff]
  intro h2
  obtain⟨v,hv,hr,-⟩:=bR.1 h2
  have:=(bl (h.vtx v hv)).1
  rw[hr] at this
  rw[av.2 this] at h1
  cases h1
 ·rw[Bool.true_and]
  exact(oU (fun u hu=>eA h.com (h.vtx u hu)) (av.1 h1) (by omega)).1
theorem gc {g:List Vtx}:∀{i:Nat} {v:Vtx},g[i]?=some v→∃p,(bn g).nodes[i]?=some ⟨v,i,p⟩:=by
 induction g using ey with
 |h0=>intro i v h;simp at h
 |h l x ih=>
  intro i v h
  rw[gd]
  have hl:=(ct l).1
  rcases Nat.lt_or_ge i l.length with hlt|hge
  ·rw[List.getElem?_append_left hlt] at h
   obtain⟨p,hp⟩:=ih h
   refine⟨p,?_⟩
   simp only[a9]
   rw[List.getElem?_append_left (by omega)]
   exact hp
  ·have he:i=l.length:=by have:=(List.getElem?_eq_some_iff.1 h).1;simp at this;omega
   subst he
   rw[List.getElem?_append_right (Nat.le_refl _)] at h
   simp at h
   subst h
   simp only[a9]
   rw[←hl,List.getElem?_append_right (Nat.le_refl _)]
   simp

end Go.Proofs.YthmfppknagbkeaaGreatDoor.Am
