/- Committees and graphs: what the specification's functions give. Committees and vertices: what the program's functions give. Graphs: what the program's functions give. Graphs: a vertex is linked. Graphs: all vertices are linked. Graphs: heights, authors, places. -/
import Derived.Test.YthmfppknagbkeaaGreatDC5
set_option linter.unusedSimpArgs false
set_option linter.unusedVariables false
set_option maxHeartbeats 1000000
namespace Go.Proofs.YthmfppknagbkeaaGreat.Am
open Go
attribute [local irreducible] Mk bN Ari fe pI km cj eC ja iB At ah
set_option maxRecDepth 10000
theorem j4 (n lo hi:Int):ah Tryz.prog 29 [.int .i64 n,.int .i64 lo,.int .i64 hi] [] (.bool (iq n lo hi)) []:=by
 refine aa ak Tryz.func29 rfl rfl false 0 4 rfl rfl rfl rfl fun K hK hb1 hb2=>?_;simp only[ae,enc,Nat.reduceAdd]
 (repeat' first|refine st ?_|refine sa fun xe hxe=>?_|refine sb (fun hq=>?_) fun hq=>?_|exact True.intro)
 all_goals (refine⟨?_,rfl⟩;simp_all[iq])
 omega
theorem vg (c:List Int):ah Tryz.prog 133 [.lst (.int .i64) c] [] (.bool (comV c)) []:=by
 refine aa ak Tryz.func133 rfl rfl false 0 4 rfl rfl rfl rfl fun K hK hb1 hb2=>?_;simp only[ae,enc,Nat.reduceAdd]
 simp[ag,V.toD,bnd,ab,D.cells] at hb1
 (repeat' first|refine st ?_|refine sa fun xe hxe=>?_|refine sb (fun hq=>?_) fun hq=>?_|refine cr (j4 _ _ _) ?_|exact True.intro)
 refine af hK [] [0,3] (fun i:Nat=>⟨[(0,.lst (.int .i64) c),(3,.int .i64 i)],[],4⟩) (fun i=>i≤c.length∧∀j,j<i→iq (c.getD j 0) 1 9=true) (fun i=>c.length-i) 0 ⟨by simp,by simp⟩ rfl ?_
 rintro i ⟨hi,hall⟩
 (repeat' first|refine st ?_|refine sa fun xe hxe=>?_|refine sb (fun hq=>?_) fun hq=>?_|refine cr (j4 _ _ _) ?_|exact True.intro)
 ·refine⟨?_,rfl⟩
  have:comV c=false:=by
   simp only[comV,Bool.and_eq_false_iff]
   left
   exact bZ (j:=i) (by omega) (by rw[a9 hxe];exact hq)
  rw[this]
 ·refine⟨i+1,⟨by omega,bk hall (by rw[a9 hxe];exact hq)⟩,by omega,rfl⟩
 ·refine⟨?_,rfl⟩
  have:i=c.length:=by omega
  subst this
  simp only[comV,bP hall,Bool.true_and]
theorem uK {c:List Int}{i:Nat}{x:Int}(h:c[i]?=some x):pe (c.take (i+1))=pe (c.take i)+x:=by
 obtain⟨hl,rfl⟩:=List.getElem?_eq_some_iff.1 h
 rw[List.take_succ_eq_append_getElem hl]
 unfold pe
 rw[List.sum_append]
 simp
theorem BZ {c:List Int}(h:comV c=true)(i:Nat):0≤pe (c.take i)∧pe (c.take i)≤63:=by
 obtain⟨h1,h2,h3⟩:=aw.1 h
 have h4:=nD (M:=9) (by omega) (l:=c.take i) fun x hx=>⟨by have:=h1 x (List.mem_of_mem_take hx);omega,(h1 x (List.mem_of_mem_take hx)).2⟩
 rw[List.length_take] at h4
 unfold pe
 omega
theorem Eh (c:List Int)(hc:comV c=true):ah Tryz.prog 99 [.lst (.int .i64) c] [] (.int .i64 (pe c)) []:=by
 have hc1:=aw.1 hc
 refine aa ak Tryz.func99 rfl rfl false 0 4 rfl rfl rfl rfl fun K hK hb1 hb2=>?_;simp only[ae,enc,Nat.reduceAdd]
 clear hb1 hb2
 (repeat' first|refine st ?_|refine sa fun xe hxe=>?_|refine sb (fun hq=>?_) fun hq=>?_|exact True.intro)
 refine af hK [] [0,3,4] (fun i:Nat=>⟨[(0,.lst (.int .i64) c),(3,.int .i64 (pe (c.take i))),(4,.int .i64 i)],[],4⟩) (fun i=>i≤c.length) (fun i=>c.length-i) 0 (by simp) rfl ?_
 intro i hi
 have hb:=BZ hc i
 have hbx:∀x,c[i]?=some x→1≤x∧x≤9:=fun x hx=>hc1.1 x (List.mem_of_getElem? hx)
 by_cases hlt:i<c.length
 ·have hxe:c[i]?=some c[i]:=List.getElem?_eq_getElem hlt
  have hb2:=hbx _ hxe
  have hsn:=uK hxe
  generalize c[i]=x at *
  (repeat' first|refine st ?_|refine sa fun xe hxe=>?_|refine sb (fun hq=>?_) fun hq=>?_|exact True.intro)
  exact⟨i+1,by omega,by omega,by rw[hsn];rfl⟩
 (repeat' first|refine st ?_|refine sa fun xe hxe=>?_|refine sb (fun hq=>?_) fun hq=>?_|exact True.intro)
 rw[List.take_of_length_le (by omega)]
 exact⟨rfl,rfl⟩
theorem un (c:List Int)(hc:comV c=true):ah Tryz.prog 108 [.lst (.int .i64) c] [] (.int .i64 (quo c)) []:=by
 have h1:=mi hc
 have h2:=Bt hc
 have h3:(2*pe c).tdiv 3+1=quo c:=rfl
 refine aa ak Tryz.func108 rfl rfl false 0 4 rfl rfl rfl rfl fun K hK hb1 hb2=>?_;simp only[ae,enc,Nat.reduceAdd]
 (repeat' first|refine st ?_|refine sa fun xe hxe=>?_|refine sb (fun hq=>?_) fun hq=>?_|refine cr (Eh _ hc) ?_|exact True.intro)
 exact⟨rfl,rfl⟩
theorem nX (n:Int):ah Tryz.prog 66 [.int .i64 n] [] (.bool (iq n 0 990)) []:=by
 refine aa ak Tryz.func66 rfl rfl false 0 4 rfl rfl rfl rfl fun K hK hb1 hb2=>?_;simp only[ae,enc,Nat.reduceAdd]
 (repeat' first|refine st ?_|refine sa fun xe hxe=>?_|refine sb (fun hq=>?_) fun hq=>?_|refine cr (j4 _ _ _) ?_|exact True.intro)
 exact⟨rfl,rfl⟩
theorem v8 (c ms:List Int):ah Tryz.prog 100 [.lst (.int .i64) c,.lst (.int .i64) ms] [] (.bool (ci c ms)) []:=by
 refine aa ak Tryz.func100 rfl rfl false 0 4 rfl rfl rfl rfl fun K hK hb1 hb2=>?_;simp only[ae,enc,Nat.reduceAdd]
 simp[ag,V.toD,bnd,ab,D.cells] at hb1
 (repeat' first|refine st ?_|refine sa fun xe hxe=>?_|refine sb (fun hq=>?_) fun hq=>?_|refine cr (j4 _ _ _) ?_|exact True.intro)
 refine af hK [] [0,1,5] (fun i:Nat=>⟨[(0,.lst (.int .i64) c),(1,.lst (.int .i64) ms),(5,.int .i64 i)],[],4⟩) (fun i=>i≤ms.length∧∀j,j<i→fx c ms j=true) (fun i=>ms.length-i) 0 ⟨by simp,by simp⟩ rfl ?_
 rintro i ⟨hi,hall⟩
 (repeat' first|refine st ?_|refine sa fun xe hxe=>?_|refine sb (fun hq=>?_) fun hq=>?_|refine cr (j4 _ _ _) ?_|exact True.intro)
 ·refine⟨?_,rfl⟩
  have:ci c ms=false:=bZ (j:=i) (by omega) (by simp only[fx,bO,a9 hxe,hq,Bool.false_and])
  rw[this]
 ·rename_i x hx hq1 h0
  have hy':ms[i-1]?=some xe:=by rw[←hxe];congr 1;omega
  refine⟨?_,rfl⟩
  have:ci c ms=false:=bZ (j:=i) (by omega) (by simp only[fx,a9 hx,a9 hy',Bool.and_eq_false_iff,Bool.or_eq_false_iff,decide_eq_false_iff_not];right;exact⟨by simp;omega,by omega⟩)
  rw[this]
 ·rename_i x hx hq1 h0
  have hy':ms[i-1]?=some xe:=by rw[←hxe];congr 1;omega
  refine⟨i+1,⟨by omega,bk hall ?_⟩,by omega,rfl⟩
  simp only[fx,bO,a9 hx,a9 hy',hq1,Bool.true_and,Bool.or_eq_true,decide_eq_true_eq]
  right;omega
 ·have h0:i=0:=by omega
  subst h0
  refine⟨0+1,⟨by omega,bk hall ?_⟩,by omega,rfl⟩
  simp only[fx,bO,a9 hxe, *]
  rfl
 ·refine⟨?_,rfl⟩
  have:i=ms.length:=by omega
  subst this
  have:ci c ms=true:=bP hall
  rw[this]
theorem Cc {c ms:List Int}{i:Nat}{m:Int}(h:ms[i]?=some m):mV c (ms.take (i+1))=mV c (ms.take i)+c.getD m.toNat 0:=by
 obtain⟨hl,rfl⟩:=List.getElem?_eq_some_iff.1 h
 rw[List.take_succ_eq_append_getElem hl,Cb]
theorem yi (c ms:List Int)(hc:comV c=true)(hm:∀m∈ms,0≤m∧m<c.length)(hl:ms.length≤2000000):ah Tryz.prog 107 [.lst (.int .i64) c,.lst (.int .i64) ms] [] (.int .i64 (mV c ms)) []:=by
 refine aa ak Tryz.func107 rfl rfl false 0 4 rfl rfl rfl rfl fun K hK hb1 hb2=>?_;simp only[ae,enc,Nat.reduceAdd]
 clear hb1 hb2
 (repeat' first|refine st ?_|refine sa fun xe hxe=>?_|refine sb (fun hq=>?_) fun hq=>?_|exact True.intro)
 refine af hK [] [0,1,5,6] (fun i:Nat=>⟨[(0,.lst (.int .i64) c),(1,.lst (.int .i64) ms),(5,.int .i64 (mV c (ms.take i))),(6,.int .i64 i)],[],4⟩) (fun i=>i≤ms.length) (fun i=>ms.length-i) 0 (by simp) rfl ?_
 intro i hi
 by_cases hlt:i<ms.length
 ·have hxe:ms[i]?=some ms[i]:=List.getElem?_eq_getElem hlt
  have h1:=hm _ (List.getElem_mem hlt)
  have h2:=Ca (ms:=ms.take i) hc
  have h3:=Cc (c:=c) hxe
  rw[List.length_take] at h2
  generalize ms[i]=m at *
  have hx2:c[m.toNat]?=some (c.getD m.toNat 0):=by rw[List.getD_eq_getElem?_getD,List.getElem?_eq_getElem (show m.toNat<c.length by omega)];rfl
  have h4:=(aw.1 hc).1 _ (List.mem_of_getElem? hx2)
  generalize c.getD m.toNat 0=x at *
  (repeat' first|refine st ?_|refine sa fun xe hxe=>?_|refine sb (fun hq=>?_) fun hq=>?_|exact True.intro)
  exact⟨i+1,by omega,by omega,by rw[h3];rfl⟩
 (repeat' first|refine st ?_|refine sa fun xe hxe=>?_|refine sb (fun hq=>?_) fun hq=>?_|exact True.intro)
 rw[List.take_of_length_le (by omega)]
 exact⟨rfl,rfl⟩
theorem kt (v u:Vtx):ah Tryz.prog 135 [.agg [.int .i64 v.round,.int .i64 v.author,.lst (.int .i64) v.parents,.int .i64 v.digest],.agg [.int .i64 u.round,.int .i64 u.author,.lst (.int .i64) u.parents,.int .i64 u.digest]] [] (.bool (bef v u)) []:=by
 refine aa ak Tryz.func135 rfl rfl false 0 4 rfl rfl rfl rfl fun K hK hb1 hb2=>?_;simp only[ae,enc,Nat.reduceAdd]
 (repeat' first|refine st ?_|refine sa fun xe hxe=>?_|refine sb (fun hq=>?_) fun hq=>?_|exact True.intro)
 all_goals (refine⟨?_,rfl⟩;simp_all[bef])
abbrev bz (v:Vtx):V:=.agg [.int .i64 v.round,.int .i64 v.author,.lst (.int .i64) v.parents,.int .i64 v.digest]
theorem p9 {α:Type}[BEq α][LawfulBEq α]:∀{a b:List α},a.Nodup→a⊆b→a.length≤b.length
 |[],_,_,_=>Nat.zero_le _
 |x::a,b,h,hs=>by
  rw[List.nodup_cons] at h
  have hx:x∈b:=hs (List.mem_cons_self ..)
  have:=p9 (b:=b.erase x) h.2 fun y hy=>by
   have hne:y≠x:=fun e=>h.1 (e▸hy)
   exact(List.mem_erase_of_ne hne).2 (hs (List.mem_cons_of_mem _ hy))
  rw[List.length_erase_of_mem hx] at this
  have:=List.length_pos_of_mem hx
  simp only[List.length_cons]
  omega
theorem eK {c ms:List Int}(h:ci c ms=true):ms.length≤c.length:=by
 have h1:=bQ h
 have h2:ms⊆(List.range c.length).map fun n:Nat=>(n:Int):=fun m hm=>by
  have:=h1 m hm
  rw[List.mem_map]
  exact⟨m.toNat,by rw[List.mem_range];omega,by omega⟩
 have h3:ms.Nodup:=(fy h).imp fun hab=>by omega
 have:=p9 h3 h2
 simpa using this
theorem jW (c:List Int)(v:Vtx)(hc:comV c=true):ah Tryz.prog 70 [.lst (.int .i64) c,bz v] [] (.bool (vtxS c v)) []:=by
 refine aa ak Tryz.func70 rfl rfl false 0 4 rfl rfl rfl rfl fun K hK hb1 hb2=>?_;simp only[ae,enc,Nat.reduceAdd]
 simp[ag,V.toD,bnd,ab,D.cells] at hb1
 have h7:=(aw.1 hc).2
 have h8:((v.parents.length:Int)==0)=(v.parents.length==0):=by rw[Bool.eq_iff_iff,beq_iff_eq,beq_iff_eq];omega
 cases hm:ci c v.parents
 ·(repeat' first|refine st ?_|refine sa fun xe hxe=>?_|refine sb (fun hq=>?_) fun hq=>?_|refine cr (j4 _ _ _) ?_|refine cr (v8 _ _) ?_|refine cr (nX _) ?_|refine cr (un _ hc) ?_|exact True.intro)
  all_goals (refine⟨?_,rfl⟩;simp_all[vtxS,bO])
 ·have hl:=eK hm
  (repeat' first|refine st ?_|refine sa fun xe hxe=>?_|refine sb (fun hq=>?_) fun hq=>?_|refine cr (j4 _ _ _) ?_|refine cr (v8 _ _) ?_|refine cr (nX _) ?_|refine cr (un _ hc) ?_|((with_reducible refine ch ?_);(conv=>whnf);(first|with_reducible refine ax (yi _ _ hc (bQ hm) (by omega)) ?_);conv=>whnf)|exact True.intro)
  all_goals (refine⟨?_,rfl⟩;simp_all[vtxS,bO])
theorem aU {α:Type}{l:List α}{P:α→Prop}{x:α}(h:∀y∈l,P y)(hx:P x):∀y∈l++[x],P y:=by
 intro y hy
 rcases List.mem_append.1 hy with hy|hy
 ·exact h y hy
 ·rw[List.mem_singleton.1 hy];exact hx
theorem q8 {α:Type}{l:List α}{p:α→Bool}{i:Nat}{x:α}(h:l[i]?=some x)(hn:∀y∈l.take i,p y=false)(hp:p x=true):l.findIdx? p=some i:=by
 obtain⟨hi,rfl⟩:=List.getElem?_eq_some_iff.1 h
 rw[List.findIdx?_eq_some_iff_getElem]
 refine⟨hi,hp,fun j hj=>?_⟩
 rw[hn _ (List.mem_of_getElem? (i:=j) (by rw[List.getElem?_take,if_pos hj,List.getElem?_eq_getElem]))]
 simp
theorem q9 (g:List Vtx)(r a:Int):ah Tryz.prog 105 [.lst .vtx g,.int .i64 r,.int .i64 a] [] (.int .i64 (lJ g r a)) []:=by
 refine aa ak Tryz.func105 rfl rfl false 0 4 rfl rfl rfl rfl fun K hK hb1 hb2=>?_;simp only[ae,enc,Nat.reduceAdd]
 simp[ag,V.toD,bnd,ab,D.cells] at hb1
 (repeat' first|refine st ?_|refine sa fun xe hxe=>?_|refine sb (fun hq=>?_) fun hq=>?_|exact True.intro)
 refine af hK [] [0,1,2,7] (fun i:Nat=>⟨[(0,.lst .vtx g),(1,.int .i64 r),(2,.int .i64 a),(7,.int .i64 i)],[],4⟩) (fun i=>i≤g.length∧∀v∈g.take i,iN r a v=false) (fun i=>g.length-i) 0 ⟨by simp,by simp⟩ rfl ?_
 rintro i ⟨hi,hall⟩
 by_cases hlt:i<g.length
 ·have hxe:g[i]?=some g[i]:=List.getElem?_eq_getElem hlt
  have h3:g.take (i+1)=g.take i++[g[i]]:=List.take_succ_eq_append_getElem hlt
  have h4:=q8 (l:=g) (p:=iN r a) hxe hall
  generalize g[i]=v at *
  have hA:iN r a v=(v.round==r && v.author==a):=rfl
  cases h1:v.round==r
  ·(repeat' first|refine st ?_|refine sa fun xe hxe=>?_|refine sb (fun hq=>?_) fun hq=>?_|exact True.intro)
   exact⟨i+1,⟨by omega,by rw[h3];exact aU hall (by simp[hA,h1])⟩,by omega,rfl⟩
  ·cases h2:v.author==a
   ·(repeat' first|refine st ?_|refine sa fun xe hxe=>?_|refine sb (fun hq=>?_) fun hq=>?_|exact True.intro)
    exact⟨i+1,⟨by omega,by rw[h3];exact aU hall (by simp[hA,h1,h2])⟩,by omega,rfl⟩
   ·(repeat' first|refine st ?_|refine sa fun xe hxe=>?_|refine sb (fun hq=>?_) fun hq=>?_|exact True.intro)
    refine⟨?_,rfl⟩
    rw[lJ,h4 (by simp[hA,h1,h2])]
 ·(repeat' first|refine st ?_|refine sa fun xe hxe=>?_|refine sb (fun hq=>?_) fun hq=>?_|exact True.intro)
  refine⟨?_,rfl⟩
  rw[List.take_of_length_le (by omega)] at hall
  rw[lJ,List.findIdx?_eq_none_iff.2 hall]
theorem vA (g:List Vtx)(r a:Int):decide (lJ g r a<0)= !cx g r a:=by
 rw[←CC]
 unfold lJ
 cases g.findIdx? (iN r a) with
 |none=>rfl
 |some i=>simp
theorem cR (g:List Vtx)(v:Vtx)(hr:-1000000<v.round∧v.round<1000000):ah Tryz.prog 62 [.lst .vtx g,bz v] [] (.bool (parOK g v)) []:=by
 refine aa ak Tryz.func62 rfl rfl false 0 4 rfl rfl rfl rfl fun K hK hb1 hb2=>?_;simp only[ae,enc,Nat.reduceAdd]
 simp[ag,V.toD,bnd,ab,D.cells,dI] at hb1
 (repeat' first|refine st ?_|refine sa fun xe hxe=>?_|refine sb (fun hq=>?_) fun hq=>?_|exact True.intro)
 refine af hK [] [0,3,5] (fun i:Nat=>⟨[(0,.lst .vtx g),(3,.ptr 4 0),(5,.int .i64 i)],[(4,.var 43 (bz v).cells)],5⟩) (fun i=>i≤v.parents.length∧∀p∈v.parents.take i,cx g (v.round-1) p=true) (fun i=>v.parents.length-i) 0 ⟨by simp,by simp⟩ rfl ?_
 rintro i ⟨hi,hall⟩
 by_cases hlt:i<v.parents.length
 ·have hxe:v.parents[i]?=some v.parents[i]:=List.getElem?_eq_getElem hlt
  have h3:v.parents.take (i+1)=v.parents.take i++[v.parents[i]]:=List.take_succ_eq_append_getElem hlt
  have h4:v.parents[i]∈v.parents:=List.getElem_mem hlt
  generalize v.parents[i]=p at *
  have hlt2:=vA g (v.round-1) p
  cases h5:cx g (v.round-1) p
  ·have hlt2:lJ g (v.round-1) p<0:=by simpa[h5] using hlt2
   (repeat' first|refine st ?_|refine sa fun xe hxe=>?_|refine sb (fun hq=>?_) fun hq=>?_|refine cr (q9 _ _ _) ?_|exact True.intro)
   refine⟨?_,rfl⟩
   have:parOK g v=false:=by
    rw[Bool.eq_false_iff]
    intro h
    rw[eo.1 h p h4] at h5
    cases h5
   rw[this]
  ·have hlt2:¬lJ g (v.round-1) p<0:=by simpa[h5] using hlt2
   (repeat' first|refine st ?_|refine sa fun xe hxe=>?_|refine sb (fun hq=>?_) fun hq=>?_|refine cr (q9 _ _ _) ?_|exact True.intro)
   exact⟨i+1,⟨by omega,by rw[h3];exact aU hall h5⟩,by omega,rfl⟩
 ·(repeat' first|refine st ?_|refine sa fun xe hxe=>?_|refine sb (fun hq=>?_) fun hq=>?_|exact True.intro)
  refine⟨?_,rfl⟩
  rw[List.take_of_length_le (by omega)] at hall
  rw[eo.2 hall]
theorem nG {c:List Int}{v:Vtx}(h:vtxS c v=true):-1000000<v.round∧v.round<1000000:=by
 have:=(bR h).1
 omega
theorem ES (c:List Int)(g:List Vtx):ah Tryz.prog 104 [.lst (.int .i64) c,.lst .vtx g] [] (.bool (graS c g)) []:=by
 refine aa ak Tryz.func104 rfl rfl false 0 4 rfl rfl rfl rfl fun K hK hb1 hb2=>?_;simp only[ae,enc,Nat.reduceAdd]
 simp[ag,V.toD,bnd,ab,D.cells] at hb1
 cases hc:comV c
 ·(repeat' first|refine st ?_|refine sa fun xe hxe=>?_|refine sb (fun hq=>?_) fun hq=>?_|refine cr (vg _) ?_|exact True.intro)
  exact⟨by simp[graS,hc],rfl⟩
 (repeat' first|refine st ?_|refine sa fun xe hxe=>?_|refine sb (fun hq=>?_) fun hq=>?_|refine cr (vg _) ?_|exact True.intro)
 refine af hK [] [0,1,5] (fun i:Nat=>⟨[(0,.lst (.int .i64) c),(1,.lst .vtx g),(5,.int .i64 i)],[],4⟩) (fun i=>i≤g.length∧∀j,j<i→fK c g j=true) (fun i=>g.length-i) 0 ⟨by simp,by simp⟩ rfl ?_
 rintro i ⟨hi,hall⟩
 have hno:fK c g i=false→i<g.length→V.bool false=V.bool (graS c g)∧([]:VH)=[]:=fun h1 h2=>⟨by simp only[graS,hc,Bool.true_and];rw[bZ h2 h1],rfl⟩
 by_cases hlt:i<g.length
 ·have hxe:g[i]?=some g[i]:=List.getElem?_eq_getElem hlt
  have hA:fK c g i=(vtxS c g[i] && ((i==0||bef (g.getD (i-1) v0) g[i]) && parOK g g[i])):=by simp only[fK,a9 hxe]
  have hyes:fK c g i=true→∃y,(y≤g.length∧∀j,j<y→fK c g j=true)∧g.length-y<g.length-i∧VSt.mk [(0,.lst (.int .i64) c),(1,.lst .vtx g),(5,.int .i64 ((i:Int)+1))] [] 4=⟨[(0,.lst (.int .i64) c),(1,.lst .vtx g),(5,.int .i64 (y:Int))],[],4⟩:=fun h=>⟨i+1,⟨by omega,bk hall h⟩,by omega,rfl⟩
  generalize g[i]=v at *
  cases h1:vtxS c v
  ·(repeat' first|refine st ?_|refine sa fun xe hxe=>?_|refine sb (fun hq=>?_) fun hq=>?_|refine cr (jW _ _ hc) ?_|exact True.intro)
   exact hno (by rw[hA,h1];rfl) hlt
  have h0:-1000000<v.round∧v.round<1000000:=nG h1
  rw[h1] at hA
  cases h3:parOK g v
  ·rw[h3] at hA
   by_cases hi0:i=0
   ·(repeat' first|refine st ?_|refine sa fun xe hxe=>?_|refine sb (fun hq=>?_) fun hq=>?_|refine cr (jW _ _ hc) ?_|refine cr (cR _ _ h0) ?_|exact True.intro)
    exact hno (by rw[hA];simp) hlt
   ·have hye:g[((i:Int)-1).toNat]?=some (g.getD (i-1) v0):=by rw[show ((i:Int)-1).toNat=i-1 by omega,List.getD_eq_getElem?_getD,List.getElem?_eq_getElem (show i-1<g.length by omega)];rfl
    generalize g.getD (i-1) v0=u at *
    (repeat' first|refine st ?_|refine sa fun xe hxe=>?_|refine sb (fun hq=>?_) fun hq=>?_|refine cr (jW _ _ hc) ?_|refine cr (kt _ _) ?_|refine cr (cR _ _ h0) ?_|exact True.intro)
    all_goals exact hno (by rw[hA];simp) hlt
  ·rw[h3] at hA
   by_cases hi0:i=0
   ·(repeat' first|refine st ?_|refine sa fun xe hxe=>?_|refine sb (fun hq=>?_) fun hq=>?_|refine cr (jW _ _ hc) ?_|refine cr (cR _ _ h0) ?_|exact True.intro)
    exact hyes (by rw[hA];simp[hi0])
   ·have hye:g[((i:Int)-1).toNat]?=some (g.getD (i-1) v0):=by rw[show ((i:Int)-1).toNat=i-1 by omega,List.getD_eq_getElem?_getD,List.getElem?_eq_getElem (show i-1<g.length by omega)];rfl
    generalize g.getD (i-1) v0=u at *
    cases h4:bef u v
    ·(repeat' first|refine st ?_|refine sa fun xe hxe=>?_|refine sb (fun hq=>?_) fun hq=>?_|refine cr (jW _ _ hc) ?_|refine cr (kt _ _) ?_|refine cr (cR _ _ h0) ?_|exact True.intro)
     exact hno (by rw[hA,h4];simp[hi0]) hlt
    ·(repeat' first|refine st ?_|refine sa fun xe hxe=>?_|refine sb (fun hq=>?_) fun hq=>?_|refine cr (jW _ _ hc) ?_|refine cr (kt _ _) ?_|refine cr (cR _ _ h0) ?_|exact True.intro)
     exact hyes (by rw[hA,h4];simp)
 ·(repeat' first|refine st ?_|refine sa fun xe hxe=>?_|refine sb (fun hq=>?_) fun hq=>?_|exact True.intro)
  refine⟨?_,rfl⟩
  have:i=g.length:=by omega
  subst this
  simp only[graS,hc,bP hall,Bool.true_and]
theorem yt {g:List Vtx}{r:Int}{i:Nat}{v:Vtx}(h:g[i]?=some v):dj (g.take (i+1)) r=if v.round==r then dj (g.take i) r++[v.author] else dj (g.take i) r:=by
 obtain⟨hl,rfl⟩:=List.getElem?_eq_some_iff.1 h
 rw[List.take_succ_eq_append_getElem hl]
 simp only[dj,List.filter_append,List.map_append,List.filter_cons,List.filter_nil]
 split<;>simp
theorem zt (g:List Vtx)(r:Int)(i:Nat):(dj (g.take i) r).length≤g.length:=by
 unfold dj
 rw[List.length_map]
 refine Nat.le_trans (List.length_filter_le _ _) ?_
 rw[List.length_take]
 omega
theorem uY (g:List Vtx)(r:Int)(hl:g.length≤2000000):ah Tryz.prog 68 [.lst .vtx g,.int .i64 r] [] (.ref 4) [(4,.row 3 (.int .i64) (dj g r))]:=by
 refine aa ak Tryz.func68 rfl rfl false 0 4 rfl rfl rfl rfl fun K hK hb1 hb2=>?_;simp only[ae,enc,Nat.reduceAdd]
 clear hb1 hb2
 (repeat' first|refine st ?_|refine sa fun xe hxe=>?_|refine sb (fun hq=>?_) fun hq=>?_|exact True.intro)
 refine af hK [] [0,1,5,6] (fun i:Nat=>⟨[(0,.lst .vtx g),(1,.int .i64 r),(5,.ref 4),(6,.int .i64 i)],[(4,.row 3 (.int .i64) (dj (g.take i) r))],5⟩) (fun i=>i≤g.length) (fun i=>g.length-i) 0 (by simp) rfl ?_
 intro i hi
 by_cases hlt:i<g.length
 ·have hxe:g[i]?=some g[i]:=List.getElem?_eq_getElem hlt
  have h3:=yt (r:=r) hxe
  have h4:=zt g r i
  generalize g[i]=v at *
  cases h1:v.round==r
  ·rw[h1,if_neg (by simp)] at h3
   (repeat' first|refine st ?_|refine sa fun xe hxe=>?_|refine sb (fun hq=>?_) fun hq=>?_|exact True.intro)
   exact⟨i+1,by omega,by omega,by rw[h3];rfl⟩
  ·rw[h1,if_pos rfl] at h3
   (repeat' first|refine st ?_|refine sa fun xe hxe=>?_|refine sb (fun hq=>?_) fun hq=>?_|exact True.intro)
   exact⟨i+1,by omega,by omega,by rw[h3];rfl⟩
 ·(repeat' first|refine st ?_|refine sa fun xe hxe=>?_|refine sb (fun hq=>?_) fun hq=>?_|exact True.intro)
  rw[List.take_of_length_le (by omega)]
  exact⟨rfl,rfl⟩
theorem Gm (c:List Int)(g:List Vtx)(h:GraOK c g)(hl:g.length≤2000000):ah Tryz.prog 67 [.lst (.int .i64) c,.lst .vtx g] [] (.int .i64 (d5 c g)) []:=by
 have h7:=(aw.1 h.com).2
 refine aa ak Tryz.func67 rfl rfl false 0 4 rfl rfl rfl rfl fun K hK hb1 hb2=>?_;simp only[ae,enc,Nat.reduceAdd]
 clear hb1 hb2
 (repeat' first|refine st ?_|refine sa fun xe hxe=>?_|refine sb (fun hq=>?_) fun hq=>?_|exact True.intro)
 refine af hK [] [0,1,5] (fun k:Int=>⟨[(0,.lst (.int .i64) c),(1,.lst .vtx g),(5,.int .i64 k)],[],4⟩) (fun k=>(-1≤k∧k≤30)∧d5 c g=gt c g (k+1).toNat) (fun k=>(k+1).toNat) 30 ⟨by simp,rfl⟩ rfl ?_
 rintro k ⟨hi,hh⟩
 by_cases hk:k<0
 ·(repeat' first|refine st ?_|refine sa fun xe hxe=>?_|refine sb (fun hq=>?_) fun hq=>?_|exact True.intro)
  rw[show (k+1).toNat=0 by omega] at hh
  exact⟨by rw[hh];rfl,rfl⟩
 ·have h1:=lA h k
  have h2:=eK h1
  have h4:gt c g (k.toNat+1)=if quo c≤mV c (dj g k.toNat) then(k.toNat:Int) else gt c g k.toNat:=rfl
  rw[show ((k.toNat:Nat):Int)=k by omega] at h4
  rw[show (k+1).toNat=k.toNat+1 by omega,h4] at hh
  by_cases h5:quo c≤mV c (dj g k)
  ·rw[if_pos h5] at hh
   (repeat' first|refine st ?_|refine sa fun xe hxe=>?_|refine sb (fun hq=>?_) fun hq=>?_|refine cr (uY _ _ hl) ?_|refine cr (un _ h.com) ?_|((with_reducible refine ch ?_);(conv=>whnf);(first|with_reducible refine ax (yi _ _ h.com (bQ h1) (by omega)) ?_);conv=>whnf)|exact True.intro)
   exact⟨by rw[hh],rfl⟩
  ·rw[if_neg h5] at hh
   (repeat' first|refine st ?_|refine sa fun xe hxe=>?_|refine sb (fun hq=>?_) fun hq=>?_|refine cr (uY _ _ hl) ?_|refine cr (un _ h.com) ?_|((with_reducible refine ch ?_);(conv=>whnf);(first|with_reducible refine ax (yi _ _ h.com (bQ h1) (by omega)) ?_);conv=>whnf)|exact True.intro)
   exact⟨k-1,⟨by omega,by rw[hh];congr 1;omega⟩,by omega,rfl⟩
theorem rt (c:List Int):ah Tryz.prog 136 [.lst (.int .i64) c] [] (.bool (comV c)) []:=by
 refine aa ak Tryz.func136 rfl rfl false 0 4 rfl rfl rfl rfl fun K hK hb1 hb2=>?_;simp only[ae,enc,Nat.reduceAdd]
 simp[ag,V.toD,bnd,ab,D.cells] at hb1
 have hno:¬(1≤c.length∧c.length≤7)→V.bool false=V.bool (comV c)∧([]:VH)=[]:=fun h=>by
  refine⟨?_,rfl⟩
  have:comV c=false:=by rw[Bool.eq_false_iff];intro h2;exact h (aw.1 h2).2
  rw[this]
 (repeat' first|refine st ?_|refine sa fun xe hxe=>?_|refine sb (fun hq=>?_) fun hq=>?_|exact True.intro)
 ·exact hno (by omega)
 ·exact hno (by omega)
 refine af hK [] [0,13,14,15] (fun i:Nat=>⟨[(0,.lst (.int .i64) c),(13,.lst (.int .i64) c),(14,.int .i64 c.length),(15,.int .i64 i)],[],4⟩) (fun i=>i≤c.length∧∀j,j<i→iq (c.getD j 0) 1 9=true) (fun i=>c.length-i) 0 ⟨by simp,by simp⟩ rfl ?_
 rintro i ⟨hi,hall⟩
 have hno:∀x,c[i]?=some x→¬(1≤x∧x≤9)→V.bool false=V.bool (comV c)∧([]:VH)=[]:=fun x hx h=>by
  refine⟨?_,rfl⟩
  have:comV c=false:=by rw[Bool.eq_false_iff];intro h2;exact h ((aw.1 h2).1 x (List.mem_of_getElem? hx))
  rw[this]
 by_cases hlt:i<c.length
 ·have hxe:c[i]?=some c[i]:=List.getElem?_eq_getElem hlt
  have hn:=hno _ hxe
  have hy:=bk hall (p:=fun j=>iq (c.getD j 0) 1 9) (i:=i)
  simp only[a9 hxe] at hy
  generalize c[i]=x at *
  (repeat' first|refine st ?_|refine sa fun xe hxe=>?_|refine sb (fun hq=>?_) fun hq=>?_|exact True.intro)
  ·exact hn (by omega)
  ·exact hn (by omega)
  ·exact⟨i+1,⟨by omega,hy (aD.2 (by omega))⟩,by omega,rfl⟩
 ·(repeat' first|refine st ?_|refine sa fun xe hxe=>?_|refine sb (fun hq=>?_) fun hq=>?_|exact True.intro)
  refine⟨?_,rfl⟩
  have:i=c.length:=by omega
  subst this
  have h1:iq c.length 1 7=true:=aD.2 (by omega)
  simp only[comV,bP hall,Bool.true_and,h1]
theorem kL (c:List Int):ah Tryz.prog 109 [.lst (.int .i64) c] [] (.bool (comV c)) []:=by
 refine aa ak Tryz.func109 rfl rfl false 0 4 rfl rfl rfl rfl fun K hK hb1 hb2=>?_;simp only[ae,enc,Nat.reduceAdd]
 (repeat' first|refine st ?_|refine sa fun xe hxe=>?_|refine sb (fun hq=>?_) fun hq=>?_|refine cr (rt _) ?_|exact True.intro)
 exact⟨rfl,rfl⟩
theorem AU (c:List Int)(hc:comV c=true):ah Tryz.prog 137 [.lst (.int .i64) c] [] (.int .i64 (pe c)) []:=by
 have hc1:=aw.1 hc
 refine aa ak Tryz.func137 rfl rfl false 0 4 rfl rfl rfl rfl fun K hK hb1 hb2=>?_;simp only[ae,enc,Nat.reduceAdd]
 clear hb1 hb2
 (repeat' first|refine st ?_|refine sa fun xe hxe=>?_|refine sb (fun hq=>?_) fun hq=>?_|exact True.intro)
 refine af hK [] [0,3,6,7,8] (fun i:Nat=>⟨[(0,.lst (.int .i64) c),(3,.int .i64 (pe (c.take i))),(6,.lst (.int .i64) c),(7,.int .i64 c.length),(8,.int .i64 i)],[],4⟩) (fun i=>i≤c.length) (fun i=>c.length-i) 0 (by simp) rfl ?_
 intro i hi
 have hb:=BZ hc i
 by_cases hlt:i<c.length
 ·have hxe:c[i]?=some c[i]:=List.getElem?_eq_getElem hlt
  have hb2:=hc1.1 _ (List.mem_of_getElem? hxe)
  have hsn:=uK hxe
  generalize c[i]=x at *
  (repeat' first|refine st ?_|refine sa fun xe hxe=>?_|refine sb (fun hq=>?_) fun hq=>?_|exact True.intro)
  exact⟨i+1,by omega,by omega,by rw[hsn];rfl⟩
 (repeat' first|refine st ?_|refine sa fun xe hxe=>?_|refine sb (fun hq=>?_) fun hq=>?_|exact True.intro)
 rw[List.take_of_length_le (by omega)]
 exact⟨rfl,rfl⟩
theorem vR (c:List Int)(hc:comV c=true):ah Tryz.prog 155 [.lst (.int .i64) c] [] (.int .i64 (quo c)) []:=by
 have h1:=mi hc
 have h2:=Bt hc
 have h3:(2*pe c).tdiv 3+1=quo c:=rfl
 refine aa ak Tryz.func155 rfl rfl false 0 4 rfl rfl rfl rfl fun K hK hb1 hb2=>?_;simp only[ae,enc,Nat.reduceAdd]
 (repeat' first|refine st ?_|refine sa fun xe hxe=>?_|refine sb (fun hq=>?_) fun hq=>?_|refine cr (AU _ hc) ?_|exact True.intro)
 exact⟨rfl,rfl⟩
theorem xo (c:List Int):ah Tryz.prog 141 [.lst (.int .i64) c] [] (.int .i64 (if comV c then quo c else-1)) []:=by
 refine aa ak Tryz.func141 rfl rfl false 0 4 rfl rfl rfl rfl fun K hK hb1 hb2=>?_;simp only[ae,enc,Nat.reduceAdd]
 cases hc:comV c
 ·(repeat' first|refine st ?_|refine sa fun xe hxe=>?_|refine sb (fun hq=>?_) fun hq=>?_|refine cr (rt _) ?_|exact True.intro)
  exact⟨rfl,rfl⟩
 ·(repeat' first|refine st ?_|refine sa fun xe hxe=>?_|refine sb (fun hq=>?_) fun hq=>?_|refine cr (rt _) ?_|refine cr (vR _ hc) ?_|exact True.intro)
  exact⟨rfl,rfl⟩
theorem dm (c:List Int)(m:Int):ah Tryz.prog 110 [.lst (.int .i64) c,.int .i64 m] [] (.bool (bO c m)) []:=by
 refine aa ak Tryz.func110 rfl rfl false 0 4 rfl rfl rfl rfl fun K hK hb1 hb2=>?_;simp only[ae,enc,Nat.reduceAdd]
 simp[ag,V.toD,bnd,ab,D.cells] at hb1
 (repeat' first|refine st ?_|refine sa fun xe hxe=>?_|refine sb (fun hq=>?_) fun hq=>?_|exact True.intro)
 all_goals (refine⟨congrArg V.bool ?_,rfl⟩;rw[Bool.eq_iff_iff];simp only[bO,aD,decide_eq_true_eq];(try simp);omega)
theorem j5 (r:Int):ah Tryz.prog 138 [.int .i64 r] [] (.bool (iq r 0 30)) []:=by
 refine aa ak Tryz.func138 rfl rfl false 0 4 rfl rfl rfl rfl fun K hK hb1 hb2=>?_;simp only[ae,enc,Nat.reduceAdd]
 (repeat' first|refine st ?_|refine sa fun xe hxe=>?_|refine sb (fun hq=>?_) fun hq=>?_|exact True.intro)
 all_goals (refine⟨congrArg V.bool ?_,rfl⟩;rw[Bool.eq_iff_iff];simp only[aD,decide_eq_true_eq];(try simp);omega)
theorem E1 (r:Int):ah Tryz.prog 139 [.int .i64 r] [] (.bool (iq r 0 990)) []:=by
 refine aa ak Tryz.func139 rfl rfl false 0 4 rfl rfl rfl rfl fun K hK hb1 hb2=>?_;simp only[ae,enc,Nat.reduceAdd]
 (repeat' first|refine st ?_|refine sa fun xe hxe=>?_|refine sb (fun hq=>?_) fun hq=>?_|exact True.intro)
 all_goals (refine⟨congrArg V.bool ?_,rfl⟩;rw[Bool.eq_iff_iff];simp only[aD,decide_eq_true_eq];(try simp);omega)
theorem CT (c ms:List Int):ah Tryz.prog 142 [.lst (.int .i64) c,.lst (.int .i64) ms] [] (.bool (ci c ms)) []:=by
 refine aa ak Tryz.func142 rfl rfl false 0 4 rfl rfl rfl rfl fun K hK hb1 hb2=>?_;simp only[ae,enc,Nat.reduceAdd]
 simp[ag,V.toD,bnd,ab,D.cells] at hb1
 (repeat' first|refine st ?_|refine sa fun xe hxe=>?_|refine sb (fun hq=>?_) fun hq=>?_|exact True.intro)
 refine af hK [] [0,1,7,8,9] (fun i:Nat=>⟨[(0,.lst (.int .i64) c),(1,.lst (.int .i64) ms),(7,.lst (.int .i64) ms),(8,.int .i64 ms.length),(9,.int .i64 i)],[],4⟩) (fun i=>i≤ms.length∧∀j,j<i→fx c ms j=true) (fun i=>ms.length-i) 0 ⟨by simp,by simp⟩ rfl ?_
 rintro i ⟨hi,hall⟩
 have hno:fx c ms i=false→i<ms.length→V.bool false=V.bool (ci c ms)∧([]:VH)=[]:=fun h1 h2=>by
  have:ci c ms=false:=bZ h2 h1
  rw[this]
  exact⟨rfl,rfl⟩
 by_cases hlt:i<ms.length
 ·have hxe:ms[i]?=some ms[i]:=List.getElem?_eq_getElem hlt
  have hA:fx c ms i=(bO c ms[i] && (i==0||decide (ms.getD (i-1) 0<ms[i]))):=by simp only[fx,a9 hxe]
  have hyes:fx c ms i=true→∃y,(y≤ms.length∧∀j,j<y→fx c ms j=true)∧ms.length-y<ms.length-i∧VSt.mk [(0,.lst (.int .i64) c),(1,.lst (.int .i64) ms),(7,.lst (.int .i64) ms),(8,.int .i64 ms.length),(9,.int .i64 ((i:Int)+1))] [] 4=⟨[(0,.lst (.int .i64) c),(1,.lst (.int .i64) ms),(7,.lst (.int .i64) ms),(8,.int .i64 ms.length),(9,.int .i64 (y:Int))],[],4⟩:=fun h=>⟨i+1,⟨by omega,bk hall h⟩,by omega,rfl⟩
  generalize ms[i]=m at *
  cases h1:bO c m
  ·(repeat' first|refine st ?_|refine sa fun xe hxe=>?_|refine sb (fun hq=>?_) fun hq=>?_|refine cr (dm _ _) ?_|exact True.intro)
   exact hno (by rw[hA,h1];rfl) hlt
  by_cases hi0:i=0
  ·(repeat' first|refine st ?_|refine sa fun xe hxe=>?_|refine sb (fun hq=>?_) fun hq=>?_|refine cr (dm _ _) ?_|exact True.intro)
   exact hyes (by rw[hA,h1];simp[hi0])
  ·have hye:ms[((i:Int)-1).toNat]?=some (ms.getD (i-1) 0):=by rw[show ((i:Int)-1).toNat=i-1 by omega,List.getD_eq_getElem?_getD,List.getElem?_eq_getElem (show i-1<ms.length by omega)];rfl
   generalize ms.getD (i-1) 0=u at *
   (repeat' first|refine st ?_|refine sa fun xe hxe=>?_|refine sb (fun hq=>?_) fun hq=>?_|refine cr (dm _ _) ?_|exact True.intro)
   ·exact hno (by rw[hA,h1];simp;omega) hlt
   ·exact hyes (by rw[hA,h1];simp;omega)
 ·(repeat' first|refine st ?_|refine sa fun xe hxe=>?_|refine sb (fun hq=>?_) fun hq=>?_|exact True.intro)
  refine⟨?_,rfl⟩
  have:i=ms.length:=by omega
  subst this
  have:ci c ms=true:=bP hall
  rw[this]
theorem ng (c ms:List Int):ah Tryz.prog 113 [.lst (.int .i64) c,.lst (.int .i64) ms] [] (.bool (comV c && ci c ms)) []:=by
 refine aa ak Tryz.func113 rfl rfl false 0 4 rfl rfl rfl rfl fun K hK hb1 hb2=>?_;simp only[ae,enc,Nat.reduceAdd]
 (repeat' first|refine st ?_|refine sa fun xe hxe=>?_|refine sb (fun hq=>?_) fun hq=>?_|refine cr (rt _) ?_|refine cr (CT _ _) ?_|exact True.intro)
 all_goals (refine⟨?_,rfl⟩;simp_all)
theorem vS (c ms:List Int)(hc:comV c=true)(hm:∀m∈ms,0≤m∧m<c.length)(hl:ms.length≤2000000):ah Tryz.prog 154 [.lst (.int .i64) c,.lst (.int .i64) ms] [] (.int .i64 (mV c ms)) []:=by
 refine aa ak Tryz.func154 rfl rfl false 0 4 rfl rfl rfl rfl fun K hK hb1 hb2=>?_;simp only[ae,enc,Nat.reduceAdd]
 clear hb1 hb2
 (repeat' first|refine st ?_|refine sa fun xe hxe=>?_|refine sb (fun hq=>?_) fun hq=>?_|exact True.intro)
 refine af hK [] [0,1,5,8,9,10] (fun i:Nat=>⟨[(0,.lst (.int .i64) c),(1,.lst (.int .i64) ms),(5,.int .i64 (mV c (ms.take i))),(8,.lst (.int .i64) ms),(9,.int .i64 ms.length),(10,.int .i64 i)],[],4⟩) (fun i=>i≤ms.length) (fun i=>ms.length-i) 0 (by simp) rfl ?_
 intro i hi
 by_cases hlt:i<ms.length
 ·have hxe:ms[i]?=some ms[i]:=List.getElem?_eq_getElem hlt
  have h1:=hm _ (List.getElem_mem hlt)
  have h2:=Ca (ms:=ms.take i) hc
  have h3:=Cc (c:=c) hxe
  rw[List.length_take] at h2
  generalize ms[i]=m at *
  have hx2:c[m.toNat]?=some (c.getD m.toNat 0):=by rw[List.getD_eq_getElem?_getD,List.getElem?_eq_getElem (show m.toNat<c.length by omega)];rfl
  have h4:=(aw.1 hc).1 _ (List.mem_of_getElem? hx2)
  generalize c.getD m.toNat 0=x at *
  (repeat' first|refine st ?_|refine sa fun xe hxe=>?_|refine sb (fun hq=>?_) fun hq=>?_|exact True.intro)
  exact⟨i+1,by omega,by omega,by rw[h3];rfl⟩
 (repeat' first|refine st ?_|refine sa fun xe hxe=>?_|refine sb (fun hq=>?_) fun hq=>?_|exact True.intro)
 rw[List.take_of_length_le (by omega)]
 exact⟨rfl,rfl⟩
def zg (c ms:List Int):Int:=if comV c && ci c ms then mV c ms else-1
theorem xu (c ms:List Int):ah Tryz.prog 140 [.lst (.int .i64) c,.lst (.int .i64) ms] [] (.int .i64 (zg c ms)) []:=by
 refine aa ak Tryz.func140 rfl rfl false 0 4 rfl rfl rfl rfl fun K hK hb1 hb2=>?_;simp only[ae,enc,Nat.reduceAdd]
 cases hv:comV c && ci c ms
 ·(repeat' first|refine st ?_|refine sa fun xe hxe=>?_|refine sb (fun hq=>?_) fun hq=>?_|refine cr (ng _ _) ?_|exact True.intro)
  exact⟨by simp[zg,hv],rfl⟩
 ·have hc:comV c=true:=by simp_all
  have hm:ci c ms=true:=by simp_all
  have h7:=(aw.1 hc).2
  have hl:=eK hm
  (repeat' first|refine st ?_|refine sa fun xe hxe=>?_|refine sb (fun hq=>?_) fun hq=>?_|refine cr (ng _ _) ?_|((with_reducible refine ch ?_);(conv=>whnf);(first|with_reducible refine ax (vS _ _ hc (bQ hm) (by omega)) ?_);conv=>whnf)|exact True.intro)
  exact⟨by simp[zg,hv],rfl⟩
theorem vL (v u:Vtx):ah Tryz.prog 159 [bz v,bz u] [] (.bool (bef v u)) []:=by
 refine aa ak Tryz.func159 rfl rfl false 0 4 rfl rfl rfl rfl fun K hK hb1 hb2=>?_;simp only[ae,enc,Nat.reduceAdd]
 (repeat' first|refine st ?_|refine sa fun xe hxe=>?_|refine sb (fun hq=>?_) fun hq=>?_|exact True.intro)
 all_goals (refine⟨?_,rfl⟩;simp_all[bef])
theorem fV (c:List Int)(v:Vtx):ah Tryz.prog 112 [.lst (.int .i64) c,bz v] [] (.bool (comV c && vtxS c v)) []:=by
 refine aa ak Tryz.func112 rfl rfl false 0 4 rfl rfl rfl rfl fun K hK hb1 hb2=>?_;simp only[ae,enc,Nat.reduceAdd]
 simp[ag,V.toD,bnd,ab,D.cells] at hb1
 have h8:((v.parents.length:Int)==0)=(v.parents.length==0):=by rw[Bool.eq_iff_iff,beq_iff_eq,beq_iff_eq];omega
 (repeat' first|refine st ?_|refine sa fun xe hxe=>?_|refine sb (fun hq=>?_) fun hq=>?_|refine cr (ng _ _) ?_|refine cr (j5 _) ?_|refine cr (dm _ _) ?_|refine cr (E1 _) ?_|refine cr (xu _ _) ?_|refine cr (xo _) ?_|exact True.intro)
 all_goals (refine⟨?_,rfl⟩;simp_all[vtxS,bO,zg])
def Θg:TT:=(164,⟨.ptr 176,1,8,some (.nilp),some (.hp 0),false⟩)::Θ
theorem e8:TT.ok Tryz.prog Θg:=TT.okB_ok (by kernel_rfl)
theorem nC {P Q:Prop}(h:Q)(s:Hid Q→P:=by
  intro h
  (first|(with_reducible first|apply dC|apply cY)|((first|with_reducible apply cq e8|refine go ?_|(with_reducible first|apply dd|apply cE|apply ck|apply ct|refine cm e8 mixed (by kernel_rfl) ?_))<;>conv=>whnf))
  repeat(first|(with_reducible first|apply dC|apply cY)|((first|with_reducible apply cq e8|refine go ?_|(with_reducible first|apply dd|apply cE|apply ck|apply ct|refine cm e8 mixed (by kernel_rfl) ?_))<;>conv=>whnf))
  exact h.h):P:=s ⟨h⟩
abbrev gZ (c:List Int)(s:GS):VH:=[(0,.fvar 176 (.nod 1) s.nodes),(1,.frow 164 (.hp 0) s.rows),(4,.vari 168 [.lst (.int .i64) c,.nils] 217 (.hp 0) s.plc [])]
abbrev Hw (c:List Int)(s:GS)(x:VB):VH:=[(0,.fvar 176 (.nod 1) s.nodes),(1,.frow 164 (.hp 0) s.rows),(4,.vari 168 [.lst (.int .i64) c,.nils] 217 (.hp 0) s.plc []),(5,x)]
abbrev gR (c:List Int)(s:GS):VH:=[(0,.fvar 176 (.nod 1) s.nodes),(1,.frow 164 (.hp 0) s.rows),(4,.vari 168 [.lst (.int .i64) c,.ref 5] 217 (.hp 0) s.plc []),(5,.row 164 (.hp 0) ((List.range s.nodes.length).map some))]
abbrev Hv (c:List Int)(s:GS)(x:VB):VH:=[(0,.fvar 176 (.nod 1) s.nodes),(1,.frow 164 (.hp 0) s.rows),(4,.vari 168 [.lst (.int .i64) c,.ref 5] 217 (.hp 0) s.plc []),(5,.row 164 (.hp 0) ((List.range s.nodes.length).map some)),(6,x)]
theorem nu {s:GS}(hs:s.plc.length=217){r a:Int}(hr:iq r 0 30=true)(ha:0≤a∧a≤6):s.plc[r.toNat * 7+a.toNat]?=some (s.at r a):=by
 have hr:=aD.1 hr
 have e:(r*7+a).toNat=r.toNat * 7+a.toNat:=by omega
 rw[GS.at,e,List.getD_eq_getElem?_getD,List.getElem?_eq_getElem (by omega)]
 rfl
def mw (s:GS)(r:Int)(n:Nat):List Int:=((List.range n).filter fun a:Nat=>iq r 0 30 && (s.at r (a:Int)).isSome).map fun a:Nat=>(a:Int)
theorem Eu (s:GS)(r:Int)(n:Nat):mw s r (n+1)=if iq r 0 30 && (s.at r (n:Int)).isSome then mw s r n++[(n:Int)] else mw s r n:=by
 simp only[mw,List.range_succ,List.filter_append,List.map_append,List.filter_cons,List.filter_nil]
 split<;>simp
theorem FX (s:GS)(r:Int)(n:Nat):(mw s r n).length≤n:=by
 unfold mw
 rw[List.length_map]
 exact Nat.le_trans (List.length_filter_le _ _) (by simp)
theorem G0 (c:List Int)(s:GS)(r a:Int)(h:(iq r 0 30 && bO c a)=false):ah Tryz.prog 172 [.ptr 4 0,.int .i64 r,.int .i64 a] (gR c s) .nilp (gR c s):=by
 refine aa e8 Tryz.func172 rfl rfl false 2 6 rfl rfl rfl rfl fun K hK hb1 hb2=>?_;simp only[ae,enc,Nat.reduceAdd]
 clear hb1 hb2
 cases h1:iq r 0 30
 ·(repeat' first|refine st ?_|refine sa fun xe hxe=>?_|refine sb (fun hq=>?_) fun hq=>?_|refine cr (j5 _) ?_|refine cr (dm _ _) ?_|exact True.intro)
  exact⟨rfl,rfl⟩
 ·have h2:bO c a=false:=by simp_all
  (repeat' first|refine st ?_|refine sa fun xe hxe=>?_|refine sb (fun hq=>?_) fun hq=>?_|refine cr (j5 _) ?_|refine cr (dm _ _) ?_|exact True.intro)
  exact⟨rfl,rfl⟩
theorem qE (c:List Int)(s:GS)(r a:Int)(hs:s.plc.length=217)(hc:c.length≤7)(h1:iq r 0 30=true)(h2:bO c a=true):ah Tryz.prog 172 [.ptr 4 0,.int .i64 r,.int .i64 a] (gR c s) (.hpo 0 (s.at r a)) (gR c s):=by
 refine aa e8 Tryz.func172 rfl rfl false 2 6 rfl rfl rfl rfl fun K hK hb1 hb2=>?_;simp only[ae,enc,Nat.reduceAdd]
 clear hb1 hb2
 have hr:=aD.1 h1
 have ha:=aD.1 h2
 have hp:=nu hs h1 (a:=a) (by omega)
 (repeat' first|refine st ?_|refine sa fun xe hxe=>?_|refine sb (fun hq=>?_) fun hq=>?_|refine cr (j5 _) ?_|refine cr (dm _ _) ?_|exact True.intro)
 exact⟨rfl,rfl⟩
theorem G1 (c:List Int)(s:GS)(r a:Int)(h:(iq r 0 30 && bO c a)=false):ah Tryz.prog 172 [.ptr 4 0,.int .i64 r,.int .i64 a] (gZ c s) .nilp (gZ c s):=by
 refine aa e8 Tryz.func172 rfl rfl false 1 5 rfl rfl rfl rfl fun K hK hb1 hb2=>?_;simp only[ae,enc,Nat.reduceAdd]
 clear hb1 hb2
 cases h1:iq r 0 30
 ·(repeat' first|refine st ?_|refine sa fun xe hxe=>?_|refine sb (fun hq=>?_) fun hq=>?_|refine cr (j5 _) ?_|refine cr (dm _ _) ?_|exact True.intro)
  exact⟨rfl,rfl⟩
 ·have h2:bO c a=false:=by simp_all
  (repeat' first|refine st ?_|refine sa fun xe hxe=>?_|refine sb (fun hq=>?_) fun hq=>?_|refine cr (j5 _) ?_|refine cr (dm _ _) ?_|exact True.intro)
  exact⟨rfl,rfl⟩
theorem Et (c:List Int)(s:GS)(r a:Int)(hs:s.plc.length=217)(hc:c.length≤7)(h1:iq r 0 30=true)(h2:bO c a=true):ah Tryz.prog 172 [.ptr 4 0,.int .i64 r,.int .i64 a] (gZ c s) (.hpo 0 (s.at r a)) (gZ c s):=by
 refine aa e8 Tryz.func172 rfl rfl false 1 5 rfl rfl rfl rfl fun K hK hb1 hb2=>?_;simp only[ae,enc,Nat.reduceAdd]
 clear hb1 hb2
 have hr:=aD.1 h1
 have ha:=aD.1 h2
 have hp:=nu hs h1 (a:=a) (by omega)
 (repeat' first|refine st ?_|refine sa fun xe hxe=>?_|refine sb (fun hq=>?_) fun hq=>?_|refine cr (j5 _) ?_|refine cr (dm _ _) ?_|exact True.intro)
 exact⟨rfl,rfl⟩
abbrev gO (c:List Int)(s:GS):VH:=[(0,.fvar 176 (.nod 1) s.nodes),(1,.frow 164 (.hp 0) s.rows),(4,.vari 168 [.lst (.int .i64) c,.ref 6] 217 (.hp 0) s.plc []),(5,.gone),(6,.row 164 (.hp 0) ((List.range s.nodes.length).map some))]
theorem p8 (s:GS)(v:Vtx):(List.range s.nodes.length).map some++[some s.nodes.length]=(List.range (bD s v).nodes.length).map some:=by
 simp[bD,List.range_succ]
theorem lP (s:GS)(v:Vtx)(h:0≤v.round∧0≤v.author):s.plc.set (v.round.toNat * 7+v.author.toNat) (some s.nodes.length)=(bD s v).plc:=by
 have e:(v.round*7+v.author).toNat=v.round.toNat * 7+v.author.toNat:=by omega
 simp only[bD,e]
def l7 (s:GS)(v:Vtx):Bool:=v.parents.all fun p=>(s.at (v.round-1) p).isSome
abbrev Dd (v:Vtx)(n:Int)(p:V):VB:=.var 176 [.int .i64 v.round,.int .i64 v.author,.lst (.int .i64) v.parents,.int .i64 v.digest,.int .i64 n,p]
abbrev Di (s:GS)(v:Vtx)(i:Nat):VB:=.row 164 (.hp 0) ((v.parents.take i).map fun p=>s.at (v.round-1) p)
def rz (c:List Int)(s:GS)(v:Vtx):Nat→VSt
 |0=>⟨[(0,.ptr 4 0),(3,.ptr 6 0),(5,.ptr 7 0),(18,.lst (.int .i64) v.parents),(19,.int .i64 v.parents.length),(20,.int .i64 0)],gR c s++[(6,.var 43 (bz v).cells),(7,Dd v s.nodes.length .nils)],8⟩
 |i+1=>⟨[(0,.ptr 4 0),(3,.ptr 6 0),(5,.ptr 7 0),(18,.lst (.int .i64) v.parents),(19,.int .i64 v.parents.length),(20,.int .i64 ((i+1:Nat):Int))],gR c s++[(6,.var 43 (bz v).cells),(7,Dd v s.nodes.length (.ref 8)),(8,Di s v (i+1))],9⟩
theorem Db (c:List Int)(s:GS)(v:Vtx)(hs:s.plc.length=217)(hc:comV c=true)(hv:vtxS c v=true)(hn:s.nodes.length≤2000000):ah Tryz.prog 160 [.ptr 4 0,bz v] (gR c s) (.bool (l7 s v)) (if l7 s v then gO c (bD s v) else gR c s):=by
 have h7:=(aw.1 hc).2
 obtain⟨v1,v2,v3,v4,v5,v6⟩:=bR hv
 have hml:=eK v3
 have hmi:=bQ v3
 have hrl:((List.range s.nodes.length).map some).length=s.nodes.length:=by simp
 refine aa e8 Tryz.func160 rfl rfl false 2 6 rfl rfl rfl rfl fun K hK hb1 hb2=>?_;simp only[ae,enc,Nat.reduceAdd]
 clear hb1 hb2
 (repeat' first|refine nC ?_|refine sa fun xe hxe=>?_|refine sb (fun hq=>?_) fun hq=>?_|exact True.intro)
 refine af hK [] [0,3,5,18,19,20] (rz c s v) (fun i=>i≤v.parents.length∧∀p∈v.parents.take i,(s.at (v.round-1) p).isSome=true) (fun i=>v.parents.length-i) 0 ⟨by simp,by simp⟩ (by simp only[hrl];rfl) ?_
 rintro i ⟨hi,hall⟩
 have hno:∀p∈v.parents,s.at (v.round-1) p=none→l7 s v=false:=fun p hp h=>by
  rw[Bool.eq_false_iff]
  intro h2
  have:=List.all_eq_true.1 h2 p hp
  rw[h] at this
  cases this
 by_cases hlt:i<v.parents.length
 ·have hxe:v.parents[i]?=some v.parents[i]:=List.getElem?_eq_getElem hlt
  have h3:v.parents.take (i+1)=v.parents.take i++[v.parents[i]]:=List.take_succ_eq_append_getElem hlt
  have h4:v.parents[i]∈v.parents:=List.getElem_mem hlt
  have hr0:v.round≠0:=fun h=>by rw[v5 h] at hlt;simp at hlt
  have h1:iq (v.round-1) 0 30=true:=aD.2 (by omega)
  have hlk:rz c s v (i+1)=⟨[(0,.ptr 4 0),(3,.ptr 6 0),(5,.ptr 7 0),(18,.lst (.int .i64) v.parents),(19,.int .i64 v.parents.length),(20,.int .i64 ((i+1:Nat):Int))],gR c s++[(6,.var 43 (bz v).cells),(7,Dd v s.nodes.length (.ref 8)),(8,.row 164 (.hp 0) (((v.parents.take i).map fun p=>s.at (v.round-1) p)++[s.at (v.round-1) v.parents[i]]))],9⟩:=by
   rw[rz,Di,h3,List.map_append];rfl
  generalize v.parents[i]=p at *
  have h2:bO c p=true:=aD.2 (by have:=hmi p h4;omega)
  have hl2:((v.parents.take i).map fun p=>s.at (v.round-1) p).length=i:=by rw[List.length_map,List.length_take];omega
  cases h5:s.at (v.round-1) p with
  |none=>
   have hin:(s.at (v.round-1) p).isNone=true:=by rw[h5];rfl
   have hnn:=hno p h4 h5
   cases i with
   |zero=>
    have hx0:v.parents[(0:Int).toNat]?=some p:=hxe
    unfold rz
    (repeat' first|refine nC ?_|refine sa fun xe hxe=>?_|refine sb (fun hq=>?_) fun hq=>?_|refine co (qE c s (v.round-1) p hs h7.2 h1 h2) ?_|exact True.intro)
    exact⟨by rw[hnn],by rw[hnn];rfl⟩
   |succ i=>
    unfold rz
    (repeat' first|refine nC ?_|refine sa fun xe hxe=>?_|refine sb (fun hq=>?_) fun hq=>?_|refine co (qE c s (v.round-1) p hs h7.2 h1 h2) ?_|exact True.intro)
    exact⟨by rw[hnn],by rw[hnn];rfl⟩
  |some k=>
   have hin:(s.at (v.round-1) p).isNone=false:=by rw[h5];rfl
   cases i with
   |zero=>
    have hx0:v.parents[(0:Int).toNat]?=some p:=hxe
    unfold rz
    (repeat' first|refine nC ?_|refine sa fun xe hxe=>?_|refine sb (fun hq=>?_) fun hq=>?_|refine co (qE c s (v.round-1) p hs h7.2 h1 h2) ?_|exact True.intro)
    refine⟨0+1,⟨by omega,by rw[h3];exact aU hall (by rw[h5];rfl)⟩,by omega,?_⟩
    refine Eq.trans ?_ hlk.symm
    rfl
   |succ i=>
    unfold rz
    simp only[Di]
    generalize (List.map (fun p=>s.at (v.round-1) p) (List.take (i+1) v.parents))=ps at *
    (repeat' first|refine nC ?_|refine sa fun xe hxe=>?_|refine sb (fun hq=>?_) fun hq=>?_|refine co (qE c s (v.round-1) p hs h7.2 h1 h2) ?_|exact True.intro)
    refine⟨i+1+1,⟨by omega,by rw[h3];exact aU hall (by rw[h5];rfl)⟩,by omega,?_⟩
    refine Eq.trans ?_ hlk.symm
    rfl
 ·rw[List.take_of_length_le (by omega)] at hall
  have hy:l7 s v=true:=List.all_eq_true.2 hall
  have hpl:=nu hs (aD.2 v1) (a:=v.author) (by omega)
  cases i with
  |zero=>
   unfold rz
   simp only[gR]
   generalize hnr:(List.map some (List.range s.nodes.length))=nr at *
   (repeat' first|refine nC ?_|refine sa fun xe hxe=>?_|refine sb (fun hq=>?_) fun hq=>?_|exact True.intro)
   rw[hy]
   refine⟨rfl,?_⟩
   have e1:=p8 s v
   have e2:=lP s v ⟨v1.1,v2.1⟩
   simp only[if_true,gO]
   rw[←e1,←e2,hnr]
   have e3:v.parents=[]:=List.length_eq_zero_iff.1 (by omega)
   have e4:(bD s v).nodes=s.nodes++[⟨v,s.nodes.length,none⟩]:=by simp[bD,e3]
   have e5:(bD s v).rows=s.rows:=by simp[bD,e3]
   rw[e4,e5]
  |succ i=>
   unfold rz
   simp only[Di]
   generalize hps:(List.map (fun p=>s.at (v.round-1) p) (List.take (i+1) v.parents))=ps at *
   simp only[gR]
   generalize hnr:(List.map some (List.range s.nodes.length))=nr at *
   (repeat' first|refine nC ?_|refine sa fun xe hxe=>?_|refine sb (fun hq=>?_) fun hq=>?_|exact True.intro)
   rw[hy]
   refine⟨rfl,?_⟩
   have e1:=p8 s v
   have e2:=lP s v ⟨v1.1,v2.1⟩
   simp only[if_true,gO]
   rw[←e1,←e2,hnr]
   have e3:v.parents≠[]:=fun h=>by rw[h] at hi;simp at hi
   rw[List.take_of_length_le (by omega)] at hps
   simp only[bD,e3,if_false,hps]
theorem Ax (r a:Int):lN.at r a=none:=by
 simp only[lN,GS.at,List.getD_eq_getElem?_getD,List.getElem?_replicate]
 split<;>rfl
theorem GB (v:Vtx):l7 lN v=v.parents.isEmpty:=by
 unfold l7
 cases v.parents with
 |nil=>rfl
 |cons p l=>simp[Ax]
theorem Dc (c:List Int)(v:Vtx)(hc:comV c=true)(hv:vtxS c v=true):ah Tryz.prog 160 [.ptr 4 0,bz v] (gZ c lN) (.bool (l7 lN v)) (if l7 lN v then gR c (bD lN v) else gZ c lN):=by
 have h7:=(aw.1 hc).2
 have hs:lN.plc.length=217:=List.length_replicate
 obtain⟨v1,v2,v3,v4,v5,v6⟩:=bR hv
 have hmi:=bQ v3
 refine aa e8 Tryz.func160 rfl rfl false 1 5 rfl rfl rfl rfl fun K hK hb1 hb2=>?_;simp only[ae,enc,Nat.reduceAdd]
 clear hb1 hb2
 (repeat' first|refine nC ?_|refine sa fun xe hxe=>?_|refine sb (fun hq=>?_) fun hq=>?_|exact True.intro)
 refine af hK [] [0,3,5,18,19,20] (fun i:Nat=>⟨[(0,.ptr 4 0),(3,.ptr 5 0),(5,.ptr 6 0),(18,.lst (.int .i64) v.parents),(19,.int .i64 v.parents.length),(20,.int .i64 0)],gZ c lN++[(5,.var 43 (bz v).cells),(6,Dd v 0 .nils)],7⟩) (fun i=>i=0) (fun i=>i) 0 rfl (by simp only[List.length_nil];rfl) ?_
 rintro i rfl
 have hy:=GB v
 by_cases hlt:0<v.parents.length
 ·have hxe:v.parents[0]?=some v.parents[0]:=List.getElem?_eq_getElem hlt
  have h4:v.parents[0]∈v.parents:=List.getElem_mem hlt
  have hr0:v.round≠0:=fun h=>by rw[v5 h] at hlt;simp at hlt
  have h1:iq (v.round-1) 0 30=true:=aD.2 (by omega)
  have hne:v.parents.isEmpty=false:=by cases h:v.parents with|nil=>rw[h] at hlt;simp at hlt|cons _ _=>rfl
  rw[hne] at hy
  rw[hy]
  generalize v.parents[0]=p at *
  have h2:bO c p=true:=aD.2 (by have:=hmi p h4;omega)
  have hx0:v.parents[(0:Int).toNat]?=some p:=hxe
  have hin:(lN.at (v.round-1) p).isNone=true:=by rw[Ax];rfl
  (repeat' first|refine nC ?_|refine sa fun xe hxe=>?_|refine sb (fun hq=>?_) fun hq=>?_|refine co (Et c lN (v.round-1) p hs h7.2 h1 h2) ?_|exact True.intro)
  exact⟨rfl,rfl⟩
 ·have e3:v.parents=[]:=List.length_eq_zero_iff.1 (by omega)
  have hem:v.parents.isEmpty=true:=by rw[e3];rfl
  rw[hem] at hy
  rw[hy]
  have hpl:=nu hs (aD.2 v1) (a:=v.author) (by omega)
  have e2:=lP lN v ⟨v1.1,v2.1⟩
  have e4:(bD lN v).nodes=[⟨v,0,none⟩]:=by simp[bD,e3,lN]
  have e5:(bD lN v).rows=[]:=by simp[bD,e3,lN]
  simp only[if_true,gR]
  rw[←e2,e4,e5]
  (repeat' first|refine nC ?_|refine sa fun xe hxe=>?_|refine sb (fun hq=>?_) fun hq=>?_|exact True.intro)
  exact⟨rfl,rfl⟩
theorem Dj {c:List Int}{g:List Vtx}{v:Vtx}(hc:comV c=true)(hg:∀u∈g,vtxS c u=true)(hv:vtxS c v=true):l7 (lO g) v=parOK g v:=by
 obtain⟨v1,v2,v3,v4,v5,v6⟩:=bR hv
 have h7:=(aw.1 hc).2
 unfold l7 parOK
 rw[Bool.eq_iff_iff,List.all_eq_true,List.all_eq_true]
 have key:∀p∈v.parents,((lO g).at (v.round-1) p).isSome=cx g (v.round-1) p:=by
  intro p hp
  have hr0:v.round≠0:=fun h=>by rw[v5 h] at hp;cases hp
  have:=bQ v3 p hp
  exact(Ay (fun u hu=>cN hc (hg u hu)) (by omega) (by omega)).1
 constructor
 ·intro h p hp;rw[←key p hp];exact h p hp
 ·intro h p hp;rw[key p hp];exact h p hp
def Da (c:List Int)(g:List Vtx):Nat→VSt
 |0=>⟨[(0,.lst (.int .i64) c),(1,.lst .vtx g),(6,.ptr 4 0),(15,.lst .vtx g),(16,.int .i64 g.length),(17,.int .i64 0)],gZ c lN,5⟩
 |i+1=>⟨[(0,.lst (.int .i64) c),(1,.lst .vtx g),(6,.ptr 4 0),(15,.lst .vtx g),(16,.int .i64 g.length),(17,.int .i64 ((i+1:Nat):Int))],gR c (lO (g.take (i+1))),6⟩
def gF (c:List Int)(g:List Vtx):VH:=match g with|[]=>gZ c lN|v::l=>gR c (lO (v::l))
def D9 (c:List Int)(g:List Vtx):V:=if graS c g then .tup [.ptr 4 0,.bool true] else .tup [.nilp,.bool false]
def D8 (c:List Int)(g:List Vtx):VH:=if graS c g then gF c g else[]
theorem CH {c:List Int}{g:List Vtx}{i:Nat}(hi:i<g.length)(h:ed c g i=false):graS c g=false:=by
 unfold graS
 rw[←xh,bZ hi h,Bool.and_false]
theorem Av {c:List Int}{g:List Vtx}{i:Nat}(h:∀j,j<i→ed c g j=true):∀u∈g.take i,vtxS c u=true:=by
 intro u hu
 obtain⟨j,hj,rfl⟩:=ca (d:=v0) hu
 rw[List.length_take] at hj
 have:=h j (by omega)
 simp only[ed,Bool.and_eq_true] at this
 rw[show (g.take i).getD j v0=g.getD j v0 by simp only[List.getD_eq_getElem?_getD,List.getElem?_take,if_pos (show j<i by omega)]]
 exact this.1
theorem Ff (c:List Int)(g:List Vtx)(hl:g.length≤2000000):ah Tryz.prog 143 [.lst (.int .i64) c,.lst .vtx g] [] (D9 c g) (D8 c g):=by
 have hbad:graS c g=false→V.tup [.nilp,.bool false]=D9 c g∧([]:VH)=D8 c g:=fun h=>by simp[D9,D8,h]
 refine aa e8 Tryz.func143 rfl rfl false 0 4 rfl rfl rfl rfl fun K hK hb1 hb2=>?_;simp only[ae,enc,Nat.reduceAdd]
 clear hb1 hb2
 cases hc:comV c
 ·(repeat' first|refine nC ?_|refine sa fun xe hxe=>?_|refine sb (fun hq=>?_) fun hq=>?_|refine cr (kL _) ?_|exact True.intro)
  exact hbad (by simp[graS,hc])
 (repeat' first|refine nC ?_|refine sa fun xe hxe=>?_|refine sb (fun hq=>?_) fun hq=>?_|refine cr (kL _) ?_|exact True.intro)
 refine zr 4 2 217 (.hp 0) ?_
 ((conv=>whnf);refine Fh (by kernel_rfl) ?_;(conv=>whnf))
 refine fS 0 (.fvar 176 (.nod 1) []) rfl ?_
 refine fS 1 (.frow 164 (.hp 0) []) rfl ?_
 refine af hK [] [0,1,6,15,16,17] (Da c g) (fun i=>i≤g.length∧∀j,j<i→ed c g j=true) (fun i=>g.length-i) 0 ⟨by simp,by simp⟩ rfl ?_
 rintro i ⟨hi,hall⟩
 by_cases hlt:i<g.length
 ·have hxe:g[i]?=some g[i]:=List.getElem?_eq_getElem hlt
  have hA:ed c g i=(vtxS c g[i] && ((i==0||bef (g.getD (i-1) v0) g[i]) && parOK (g.take i) g[i])):=by simp only[ed,a9 hxe]
  have hno:ed c g i=false→V.tup [.nilp,.bool false]=D9 c g∧([]:VH)=D8 c g:=fun h=>hbad (CH hlt h)
  have hgs:lO (g.take (i+1))=bD (lO (g.take i)) g[i]:=by rw[List.take_succ_eq_append_getElem hlt,ot]
  have hgv:=Av hall
  have hys:ed c g i=true→∀j,j<i+1→ed c g j=true:=fun h=>bk hall h
  generalize g[i]=v at *
  cases h1:vtxS c v
  ·have h2:(comV c && vtxS c v)=false:=by simp[h1]
   cases i with
   |zero=>
    have hx0:g[(0:Int).toNat]?=some v:=hxe
    unfold Da
    (repeat' first|refine nC ?_|refine sa fun xe hxe=>?_|refine sb (fun hq=>?_) fun hq=>?_|refine cr (fV _ _) ?_|exact True.intro)
    exact hno (by simp[hA,h1])
   |succ i=>
    unfold Da
    (repeat' first|refine nC ?_|refine sa fun xe hxe=>?_|refine sb (fun hq=>?_) fun hq=>?_|refine cr (fV _ _) ?_|exact True.intro)
    exact hno (by simp[hA,h1])
  have h2:(comV c && vtxS c v)=true:=by simp[h1,hc]
  have hpe:=Dj hc hgv h1
  cases i with
  |zero=>
   have hx0:g[(0:Int).toNat]?=some v:=hxe
   have hL:=Dc c v hc h1
   have hpe:l7 lN v=parOK (g.take 0) v:=hpe
   have hf1:ao (VB.fvar 176 (.nod 1) lN.nodes)≤ao (VB.fvar 176 (.nod 1) (bD lN v).nodes):=Nat.zero_le _
   have hf2:ao (VB.frow 164 (.hp 0) lN.rows)≤ao (VB.frow 164 (.hp 0) (bD lN v).rows):=Nat.zero_le _
   cases h3:l7 lN v
   ·rw[h3] at hL
    simp only[Bool.false_eq_true,if_false] at hL
    unfold Da
    (repeat' first|refine nC ?_|refine sa fun xe hxe=>?_|refine sb (fun hq=>?_) fun hq=>?_|refine cr (fV _ _) ?_|refine co (hL) ?_|exact True.intro)
    exact hno (by rw[hA,←hpe,h3];simp)
   ·rw[h3] at hL
    simp only[if_true] at hL
    unfold Da
    (repeat' first|refine nC ?_|refine sa fun xe hxe=>?_|refine sb (fun hq=>?_) fun hq=>?_|refine cr (fV _ _) ?_|refine co (hL) ?_|exact True.intro)
    refine⟨0+1,⟨by omega,hys (by rw[hA,←hpe,h3,h1];simp)⟩,by omega,?_⟩
    show _=VSt.mk _ (gR c (lO (g.take (0+1)))) _
    rw[hgs]
    rfl
  |succ i=>
   have hgl:(lO (g.take (i+1))).nodes.length≤2000000:=by rw[(rl _).1,List.length_take];omega
   have hL:=Db c (lO (g.take (i+1))) v (rl _).2 hc h1 hgl
   have hye:g[(((i+1:Nat):Int)-1).toNat]?=some (g.getD (i+1-1) v0):=by rw[show (((i+1:Nat):Int)-1).toNat=i by omega,List.getD_eq_getElem?_getD,List.getElem?_eq_getElem (show i<g.length by omega)];simp only[Nat.add_sub_cancel,List.getElem?_eq_getElem (show i<g.length by omega)];rfl
   generalize g.getD (i+1-1) v0=u at *
   have hst:Da c g (i+1)=⟨[(0,.lst (.int .i64) c),(1,.lst .vtx g),(6,.ptr 4 0),(15,.lst .vtx g),(16,.int .i64 g.length),(17,.int .i64 ((i+1:Nat):Int))],gR c (lO (g.take (i+1))),6⟩:=rfl
   rw[hst]
   clear hst
   generalize lO (g.take (i+1))=s at *
   have hf1:ao (VB.fvar 176 (.nod 1) s.nodes)≤ao (VB.fvar 176 (.nod 1) (bD s v).nodes):=by simp[ao,bD]
   have hf2:ao (VB.frow 164 (.hp 0) s.rows)≤ao (VB.frow 164 (.hp 0) (bD s v).rows):=by simp only[ao,bD];split<;>simp
   cases h4:bef u v
   ·(repeat' first|refine nC ?_|refine sa fun xe hxe=>?_|refine sb (fun hq=>?_) fun hq=>?_|refine cr (fV _ _) ?_|refine cr (vL _ _) ?_|exact True.intro)
    exact hno (by simp[hA,h1,h4])
   cases h3:l7 s v
   ·rw[h3] at hL
    simp only[Bool.false_eq_true,if_false] at hL
    (repeat' first|refine nC ?_|refine sa fun xe hxe=>?_|refine sb (fun hq=>?_) fun hq=>?_|refine cr (fV _ _) ?_|refine cr (vL _ _) ?_|refine co (hL) ?_|exact True.intro)
    exact hno (by rw[hA,←hpe,h3];simp)
   ·rw[h3] at hL
    simp only[if_true] at hL
    (repeat' first|refine nC ?_|refine sa fun xe hxe=>?_|refine sb (fun hq=>?_) fun hq=>?_|refine cr (fV _ _) ?_|refine cr (vL _ _) ?_|refine co (hL) ?_|exact True.intro)
    refine⟨i+1+1,⟨by omega,hys (by rw[hA,←hpe,h3,h1,h4];simp)⟩,by omega,?_⟩
    show _=VSt.mk _ (gR c (lO (g.take (i+1+1)))) _
    rw[hgs]
    rfl
 ·have hg:graS c g=true:=by
   unfold graS
   rw[hc,←xh,bP (fun j hj=>hall j (by omega))]
   rfl
  have e1:D9 c g= .tup [.ptr 4 0,.bool true]:=by simp[D9,hg]
  have e2:D8 c g=gF c g:=by simp[D8,hg]
  rw[e1,e2]
  cases i with
  |zero=>
   have e3:g=[]:=List.length_eq_zero_iff.1 (by omega)
   subst e3
   unfold Da
   (repeat' first|refine nC ?_|refine sa fun xe hxe=>?_|refine sb (fun hq=>?_) fun hq=>?_|exact True.intro)
   exact⟨rfl,rfl⟩
  |succ i=>
   have hst:Da c g (i+1)=⟨[(0,.lst (.int .i64) c),(1,.lst .vtx g),(6,.ptr 4 0),(15,.lst .vtx g),(16,.int .i64 g.length),(17,.int .i64 ((i+1:Nat):Int))],gR c (lO g),6⟩:=by rw[Da,List.take_of_length_le (by omega)]
   rw[hst]
   cases g with
   |nil=>simp at hi
   |cons w g=>
    (repeat' first|refine nC ?_|refine sa fun xe hxe=>?_|refine sb (fun hq=>?_) fun hq=>?_|exact True.intro)
    exact⟨rfl,rfl⟩
theorem F8 {c:List Int}{g:List Vtx}(h:GraOK c g)(r:Int):mw (lO g) r c.length=dj g r:=by
 rw[←sJ h r]
 unfold mw sI
 congr 1
 refine List.filter_congr fun a ha=>?_
 have h7:=(aw.1 h.com).2
 have ha:=List.mem_range.1 ha
 cases h1:iq r 0 30
 ·rw[Bool.false_and]
  symm
  rw[Bool.eq_false_iff]
  intro h2
  obtain⟨v,hv,hr,-⟩:=b9.1 h2
  have:=(bR (h.vtx v hv)).1
  rw[hr] at this
  rw[aD.2 this] at h1
  cases h1
 ·rw[Bool.true_and]
  exact(Ay (fun u hu=>cN h.com (h.vtx u hu)) (aD.1 h1) (by omega)).1

end Go.Proofs.YthmfppknagbkeaaGreat.Am
