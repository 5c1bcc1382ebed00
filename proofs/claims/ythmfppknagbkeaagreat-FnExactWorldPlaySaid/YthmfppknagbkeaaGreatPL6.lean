/- Committees and graphs: what the specification's functions give. Committees and vertices: what the program's functions give. Graphs: what the program's functions give. Graphs: a vertex is linked. Graphs: all vertices are linked. Graphs: heights, authors, places. -/
import Derived.Test.YthmfppknagbkeaaGreatPL5
set_option linter.unusedSimpArgs false
set_option linter.unusedVariables false
set_option maxHeartbeats 1000000
namespace Go.Proofs.YthmfppknagbkeaaGreat.Am
open Go
attribute [local irreducible] Mk bS Ari eQ pS kR cw eG jf jg At ai
set_option maxRecDepth 10000
theorem lp (n lo hi:Int):ai Tryz.prog 29 [.int .i64 n,.int .i64 lo,.int .i64 hi] [] (.bool (gU n lo hi)) []:=by
 refine aa ak Tryz.func29 rfl rfl false 0 4 rfl rfl rfl rfl fun K hK hb1 hb2=>?_;simp only[ae,enc,Nat.reduceAdd]
 (repeat' first|refine st ?_|refine sa fun xe hxe=>?_|refine sb (fun hq=>?_) fun hq=>?_|exact True.intro)
 all_goals (refine⟨?_,rfl⟩;simp_all[gU])
 omega
theorem uo (c:List Int):ai Tryz.prog 133 [.lst (.int .i64) c] [] (.bool (comV c)) []:=by
 refine aa ak Tryz.func133 rfl rfl false 0 4 rfl rfl rfl rfl fun K hK hb1 hb2=>?_;simp only[ae,enc,Nat.reduceAdd]
 simp[af,V.toD,bnd,ab,D.cells] at hb1
 (repeat' first|refine st ?_|refine sa fun xe hxe=>?_|refine sb (fun hq=>?_) fun hq=>?_|refine cr (lp _ _ _) ?_|exact True.intro)
 refine ag hK [] [0,3] (fun i:Nat=>⟨[(0,.lst (.int .i64) c),(3,.int .i64 i)],[],4⟩) (fun i=>i≤c.length∧∀j,j<i→gU (c.getD j 0) 1 9=true) (fun i=>c.length-i) 0 ⟨by simp,by simp⟩ rfl ?_
 rintro i ⟨hi,hall⟩
 (repeat' first|refine st ?_|refine sa fun xe hxe=>?_|refine sb (fun hq=>?_) fun hq=>?_|refine cr (lp _ _ _) ?_|exact True.intro)
 ·refine⟨?_,rfl⟩
  have:comV c=false:=by
   simp only[comV,Bool.and_eq_false_iff]
   left
   exact bZ (j:=i) (by omega) (by rw[a8 hxe];exact hq)
  rw[this]
 ·refine⟨i+1,⟨by omega,bk hall (by rw[a8 hxe];exact hq)⟩,by omega,rfl⟩
 ·refine⟨?_,rfl⟩
  have:i=c.length:=by omega
  subst this
  simp only[comV,bL hall,Bool.true_and]
theorem tQ {c:List Int}{i:Nat}{x:Int}(h:c[i]?=some x):oH (c.take (i+1))=oH (c.take i)+x:=by
 obtain⟨hl,rfl⟩:=List.getElem?_eq_some_iff.1 h
 rw[List.take_succ_eq_append_getElem hl]
 unfold oH
 rw[List.sum_append]
 simp
theorem A7 {c:List Int}(h:comV c=true)(i:Nat):0≤oH (c.take i)∧oH (c.take i)≤63:=by
 obtain⟨h1,h2,h3⟩:=aw.1 h
 have h4:=mZ (M:=9) (by omega) (l:=c.take i) fun x hx=>⟨by have:=h1 x (List.mem_of_mem_take hx);omega,(h1 x (List.mem_of_mem_take hx)).2⟩
 rw[List.length_take] at h4
 unfold oH
 omega
theorem Dp (c:List Int)(hc:comV c=true):ai Tryz.prog 99 [.lst (.int .i64) c] [] (.int .i64 (oH c)) []:=by
 have hc1:=aw.1 hc
 refine aa ak Tryz.func99 rfl rfl false 0 4 rfl rfl rfl rfl fun K hK hb1 hb2=>?_;simp only[ae,enc,Nat.reduceAdd]
 clear hb1 hb2
 (repeat' first|refine st ?_|refine sa fun xe hxe=>?_|refine sb (fun hq=>?_) fun hq=>?_|exact True.intro)
 refine ag hK [] [0,3,4] (fun i:Nat=>⟨[(0,.lst (.int .i64) c),(3,.int .i64 (oH (c.take i))),(4,.int .i64 i)],[],4⟩) (fun i=>i≤c.length) (fun i=>c.length-i) 0 (by simp) rfl ?_
 intro i hi
 have hb:=A7 hc i
 have hbx:∀x,c[i]?=some x→1≤x∧x≤9:=fun x hx=>hc1.1 x (List.mem_of_getElem? hx)
 by_cases hlt:i<c.length
 ·have hxe:c[i]?=some c[i]:=List.getElem?_eq_getElem hlt
  have hb2:=hbx _ hxe
  have hsn:=tQ hxe
  generalize c[i]=x at *
  (repeat' first|refine st ?_|refine sa fun xe hxe=>?_|refine sb (fun hq=>?_) fun hq=>?_|exact True.intro)
  exact⟨i+1,by omega,by omega,by rw[hsn];rfl⟩
 (repeat' first|refine st ?_|refine sa fun xe hxe=>?_|refine sb (fun hq=>?_) fun hq=>?_|exact True.intro)
 rw[List.take_of_length_le (by omega)]
 exact⟨rfl,rfl⟩
theorem tz (c:List Int)(hc:comV c=true):ai Tryz.prog 108 [.lst (.int .i64) c] [] (.int .i64 (quo c)) []:=by
 have h1:=lL hc
 have h2:=AI hc
 have h3:(2*oH c).tdiv 3+1=quo c:=rfl
 refine aa ak Tryz.func108 rfl rfl false 0 4 rfl rfl rfl rfl fun K hK hb1 hb2=>?_;simp only[ae,enc,Nat.reduceAdd]
 (repeat' first|refine st ?_|refine sa fun xe hxe=>?_|refine sb (fun hq=>?_) fun hq=>?_|refine cr (Dp _ hc) ?_|exact True.intro)
 exact⟨rfl,rfl⟩
theorem nt (n:Int):ai Tryz.prog 66 [.int .i64 n] [] (.bool (gU n 0 990)) []:=by
 refine aa ak Tryz.func66 rfl rfl false 0 4 rfl rfl rfl rfl fun K hK hb1 hb2=>?_;simp only[ae,enc,Nat.reduceAdd]
 (repeat' first|refine st ?_|refine sa fun xe hxe=>?_|refine sb (fun hq=>?_) fun hq=>?_|refine cr (lp _ _ _) ?_|exact True.intro)
 exact⟨rfl,rfl⟩
theorem u6 (c ms:List Int):ai Tryz.prog 100 [.lst (.int .i64) c,.lst (.int .i64) ms] [] (.bool (cj c ms)) []:=by
 refine aa ak Tryz.func100 rfl rfl false 0 4 rfl rfl rfl rfl fun K hK hb1 hb2=>?_;simp only[ae,enc,Nat.reduceAdd]
 simp[af,V.toD,bnd,ab,D.cells] at hb1
 (repeat' first|refine st ?_|refine sa fun xe hxe=>?_|refine sb (fun hq=>?_) fun hq=>?_|refine cr (lp _ _ _) ?_|exact True.intro)
 refine ag hK [] [0,1,5] (fun i:Nat=>⟨[(0,.lst (.int .i64) c),(1,.lst (.int .i64) ms),(5,.int .i64 i)],[],4⟩) (fun i=>i≤ms.length∧∀j,j<i→e8 c ms j=true) (fun i=>ms.length-i) 0 ⟨by simp,by simp⟩ rfl ?_
 rintro i ⟨hi,hall⟩
 (repeat' first|refine st ?_|refine sa fun xe hxe=>?_|refine sb (fun hq=>?_) fun hq=>?_|refine cr (lp _ _ _) ?_|exact True.intro)
 ·refine⟨?_,rfl⟩
  have:cj c ms=false:=bZ (j:=i) (by omega) (by simp only[e8,bK,a8 hxe,hq,Bool.false_and])
  rw[this]
 ·rename_i x hx hq1 h0
  have hy':ms[i-1]?=some xe:=by rw[←hxe];congr 1;omega
  refine⟨?_,rfl⟩
  have:cj c ms=false:=bZ (j:=i) (by omega) (by simp only[e8,a8 hx,a8 hy',Bool.and_eq_false_iff,Bool.or_eq_false_iff,decide_eq_false_iff_not];right;exact⟨by simp;omega,by omega⟩)
  rw[this]
 ·rename_i x hx hq1 h0
  have hy':ms[i-1]?=some xe:=by rw[←hxe];congr 1;omega
  refine⟨i+1,⟨by omega,bk hall ?_⟩,by omega,rfl⟩
  simp only[e8,bK,a8 hx,a8 hy',hq1,Bool.true_and,Bool.or_eq_true,decide_eq_true_eq]
  right;omega
 ·have h0:i=0:=by omega
  subst h0
  refine⟨0+1,⟨by omega,bk hall ?_⟩,by omega,rfl⟩
  simp only[e8,bK,a8 hxe, *]
  rfl
 ·refine⟨?_,rfl⟩
  have:i=ms.length:=by omega
  subst this
  have:cj c ms=true:=bL hall
  rw[this]
theorem Bk {c ms:List Int}{i:Nat}{m:Int}(h:ms[i]?=some m):mo c (ms.take (i+1))=mo c (ms.take i)+c.getD m.toNat 0:=by
 obtain⟨hl,rfl⟩:=List.getElem?_eq_some_iff.1 h
 rw[List.take_succ_eq_append_getElem hl,Bj]
theorem xi (c ms:List Int)(hc:comV c=true)(hm:∀m∈ms,0≤m∧m<c.length)(hl:ms.length≤2000000):ai Tryz.prog 107 [.lst (.int .i64) c,.lst (.int .i64) ms] [] (.int .i64 (mo c ms)) []:=by
 refine aa ak Tryz.func107 rfl rfl false 0 4 rfl rfl rfl rfl fun K hK hb1 hb2=>?_;simp only[ae,enc,Nat.reduceAdd]
 clear hb1 hb2
 (repeat' first|refine st ?_|refine sa fun xe hxe=>?_|refine sb (fun hq=>?_) fun hq=>?_|exact True.intro)
 refine ag hK [] [0,1,5,6] (fun i:Nat=>⟨[(0,.lst (.int .i64) c),(1,.lst (.int .i64) ms),(5,.int .i64 (mo c (ms.take i))),(6,.int .i64 i)],[],4⟩) (fun i=>i≤ms.length) (fun i=>ms.length-i) 0 (by simp) rfl ?_
 intro i hi
 by_cases hlt:i<ms.length
 ·have hxe:ms[i]?=some ms[i]:=List.getElem?_eq_getElem hlt
  have h1:=hm _ (List.getElem_mem hlt)
  have h2:=Bi (ms:=ms.take i) hc
  have h3:=Bk (c:=c) hxe
  rw[List.length_take] at h2
  generalize ms[i]=m at *
  have hx2:c[m.toNat]?=some (c.getD m.toNat 0):=by rw[List.getD_eq_getElem?_getD,List.getElem?_eq_getElem (show m.toNat<c.length by omega)];rfl
  have h4:=(aw.1 hc).1 _ (List.mem_of_getElem? hx2)
  generalize c.getD m.toNat 0=x at *
  (repeat' first|refine st ?_|refine sa fun xe hxe=>?_|refine sb (fun hq=>?_) fun hq=>?_|exact True.intro)
  exact⟨i+1,by omega,by omega,by rw[h3];rfl⟩
 (repeat' first|refine st ?_|refine sa fun xe hxe=>?_|refine sb (fun hq=>?_) fun hq=>?_|exact True.intro)
 rw[List.take_of_length_le (by omega)]
 exact⟨rfl,rfl⟩
theorem jW (v u:Vtx):ai Tryz.prog 135 [.agg [.int .i64 v.round,.int .i64 v.author,.lst (.int .i64) v.parents,.int .i64 v.digest],.agg [.int .i64 u.round,.int .i64 u.author,.lst (.int .i64) u.parents,.int .i64 u.digest]] [] (.bool (bef v u)) []:=by
 refine aa ak Tryz.func135 rfl rfl false 0 4 rfl rfl rfl rfl fun K hK hb1 hb2=>?_;simp only[ae,enc,Nat.reduceAdd]
 (repeat' first|refine st ?_|refine sa fun xe hxe=>?_|refine sb (fun hq=>?_) fun hq=>?_|exact True.intro)
 all_goals (refine⟨?_,rfl⟩;simp_all[bef])
abbrev bu (v:Vtx):V:=.agg [.int .i64 v.round,.int .i64 v.author,.lst (.int .i64) v.parents,.int .i64 v.digest]
theorem pA {α:Type}[BEq α][LawfulBEq α]:∀{a b:List α},a.Nodup→a⊆b→a.length≤b.length
 |[],_,_,_=>Nat.zero_le _
 |x::a,b,h,hs=>by
  rw[List.nodup_cons] at h
  have hx:x∈b:=hs (List.mem_cons_self ..)
  have:=pA (b:=b.erase x) h.2 fun y hy=>by
   have hne:y≠x:=fun e=>h.1 (e▸hy)
   exact(List.mem_erase_of_ne hne).2 (hs (List.mem_cons_of_mem _ hy))
  rw[List.length_erase_of_mem hx] at this
  have:=List.length_pos_of_mem hx
  simp only[List.length_cons]
  omega
theorem eh {c ms:List Int}(h:cj c ms=true):ms.length≤c.length:=by
 have h1:=bQ h
 have h2:ms⊆(List.range c.length).map fun n:Nat=>(n:Int):=fun m hm=>by
  have:=h1 m hm
  rw[List.mem_map]
  exact⟨m.toNat,by rw[List.mem_range];omega,by omega⟩
 have h3:ms.Nodup:=(e9 h).imp fun hab=>by omega
 have:=pA h3 h2
 simpa using this
theorem jt (c:List Int)(v:Vtx)(hc:comV c=true):ai Tryz.prog 70 [.lst (.int .i64) c,bu v] [] (.bool (vtxS c v)) []:=by
 refine aa ak Tryz.func70 rfl rfl false 0 4 rfl rfl rfl rfl fun K hK hb1 hb2=>?_;simp only[ae,enc,Nat.reduceAdd]
 simp[af,V.toD,bnd,ab,D.cells] at hb1
 have h7:=(aw.1 hc).2
 have h8:((v.parents.length:Int)==0)=(v.parents.length==0):=by rw[Bool.eq_iff_iff,beq_iff_eq,beq_iff_eq];omega
 cases hm:cj c v.parents
 ·(repeat' first|refine st ?_|refine sa fun xe hxe=>?_|refine sb (fun hq=>?_) fun hq=>?_|refine cr (lp _ _ _) ?_|refine cr (u6 _ _) ?_|refine cr (nt _) ?_|refine cr (tz _ hc) ?_|exact True.intro)
  all_goals (refine⟨?_,rfl⟩;simp_all[vtxS,bK])
 ·have hl:=eh hm
  (repeat' first|refine st ?_|refine sa fun xe hxe=>?_|refine sb (fun hq=>?_) fun hq=>?_|refine cr (lp _ _ _) ?_|refine cr (u6 _ _) ?_|refine cr (nt _) ?_|refine cr (tz _ hc) ?_|((with_reducible refine cA ?_);(conv=>whnf);(first|with_reducible refine aB (xi _ _ hc (bQ hm) (by omega)) ?_);conv=>whnf)|exact True.intro)
  all_goals (refine⟨?_,rfl⟩;simp_all[vtxS,bK])
theorem aS {α:Type}{l:List α}{P:α→Prop}{x:α}(h:∀y∈l,P y)(hx:P x):∀y∈l++[x],P y:=by
 intro y hy
 rcases List.mem_append.1 hy with hy|hy
 ·exact h y hy
 ·rw[List.mem_singleton.1 hy];exact hx
theorem qw {α:Type}{l:List α}{p:α→Bool}{i:Nat}{x:α}(h:l[i]?=some x)(hn:∀y∈l.take i,p y=false)(hp:p x=true):l.findIdx? p=some i:=by
 obtain⟨hi,rfl⟩:=List.getElem?_eq_some_iff.1 h
 rw[List.findIdx?_eq_some_iff_getElem]
 refine⟨hi,hp,fun j hj=>?_⟩
 rw[hn _ (List.mem_of_getElem? (i:=j) (by rw[List.getElem?_take,if_pos hj,List.getElem?_eq_getElem]))]
 simp
theorem qx (g:List Vtx)(r a:Int):ai Tryz.prog 105 [.lst .vtx g,.int .i64 r,.int .i64 a] [] (.int .i64 (lg g r a)) []:=by
 refine aa ak Tryz.func105 rfl rfl false 0 4 rfl rfl rfl rfl fun K hK hb1 hb2=>?_;simp only[ae,enc,Nat.reduceAdd]
 simp[af,V.toD,bnd,ab,D.cells] at hb1
 (repeat' first|refine st ?_|refine sa fun xe hxe=>?_|refine sb (fun hq=>?_) fun hq=>?_|exact True.intro)
 refine ag hK [] [0,1,2,7] (fun i:Nat=>⟨[(0,.lst .vtx g),(1,.int .i64 r),(2,.int .i64 a),(7,.int .i64 i)],[],4⟩) (fun i=>i≤g.length∧∀v∈g.take i,iq r a v=false) (fun i=>g.length-i) 0 ⟨by simp,by simp⟩ rfl ?_
 rintro i ⟨hi,hall⟩
 by_cases hlt:i<g.length
 ·have hxe:g[i]?=some g[i]:=List.getElem?_eq_getElem hlt
  have h3:g.take (i+1)=g.take i++[g[i]]:=List.take_succ_eq_append_getElem hlt
  have h4:=qw (l:=g) (p:=iq r a) hxe hall
  generalize g[i]=v at *
  have hA:iq r a v=(v.round==r && v.author==a):=rfl
  cases h1:v.round==r
  ·(repeat' first|refine st ?_|refine sa fun xe hxe=>?_|refine sb (fun hq=>?_) fun hq=>?_|exact True.intro)
   exact⟨i+1,⟨by omega,by rw[h3];exact aS hall (by simp[hA,h1])⟩,by omega,rfl⟩
  ·cases h2:v.author==a
   ·(repeat' first|refine st ?_|refine sa fun xe hxe=>?_|refine sb (fun hq=>?_) fun hq=>?_|exact True.intro)
    exact⟨i+1,⟨by omega,by rw[h3];exact aS hall (by simp[hA,h1,h2])⟩,by omega,rfl⟩
   ·(repeat' first|refine st ?_|refine sa fun xe hxe=>?_|refine sb (fun hq=>?_) fun hq=>?_|exact True.intro)
    refine⟨?_,rfl⟩
    rw[lg,h4 (by simp[hA,h1,h2])]
 ·(repeat' first|refine st ?_|refine sa fun xe hxe=>?_|refine sb (fun hq=>?_) fun hq=>?_|exact True.intro)
  refine⟨?_,rfl⟩
  rw[List.take_of_length_le (by omega)] at hall
  rw[lg,List.findIdx?_eq_none_iff.2 hall]
theorem uD (g:List Vtx)(r a:Int):decide (lg g r a<0)= !cq g r a:=by
 rw[←BJ]
 unfold lg
 cases g.findIdx? (iq r a) with
 |none=>rfl
 |some i=>simp
theorem cN (g:List Vtx)(v:Vtx)(hr:-1000000<v.round∧v.round<1000000):ai Tryz.prog 62 [.lst .vtx g,bu v] [] (.bool (parOK g v)) []:=by
 refine aa ak Tryz.func62 rfl rfl false 0 4 rfl rfl rfl rfl fun K hK hb1 hb2=>?_;simp only[ae,enc,Nat.reduceAdd]
 simp[af,V.toD,bnd,ab,D.cells,dA] at hb1
 (repeat' first|refine st ?_|refine sa fun xe hxe=>?_|refine sb (fun hq=>?_) fun hq=>?_|exact True.intro)
 refine ag hK [] [0,3,5] (fun i:Nat=>⟨[(0,.lst .vtx g),(3,.ptr 4 0),(5,.int .i64 i)],[(4,.var 43 (bu v).cells)],5⟩) (fun i=>i≤v.parents.length∧∀p∈v.parents.take i,cq g (v.round-1) p=true) (fun i=>v.parents.length-i) 0 ⟨by simp,by simp⟩ rfl ?_
 rintro i ⟨hi,hall⟩
 by_cases hlt:i<v.parents.length
 ·have hxe:v.parents[i]?=some v.parents[i]:=List.getElem?_eq_getElem hlt
  have h3:v.parents.take (i+1)=v.parents.take i++[v.parents[i]]:=List.take_succ_eq_append_getElem hlt
  have h4:v.parents[i]∈v.parents:=List.getElem_mem hlt
  generalize v.parents[i]=p at *
  have hlt2:=uD g (v.round-1) p
  cases h5:cq g (v.round-1) p
  ·have hlt2:lg g (v.round-1) p<0:=by simpa[h5] using hlt2
   (repeat' first|refine st ?_|refine sa fun xe hxe=>?_|refine sb (fun hq=>?_) fun hq=>?_|refine cr (qx _ _ _) ?_|exact True.intro)
   refine⟨?_,rfl⟩
   have:parOK g v=false:=by
    rw[Bool.eq_false_iff]
    intro h
    rw[dY.1 h p h4] at h5
    cases h5
   rw[this]
  ·have hlt2:¬lg g (v.round-1) p<0:=by simpa[h5] using hlt2
   (repeat' first|refine st ?_|refine sa fun xe hxe=>?_|refine sb (fun hq=>?_) fun hq=>?_|refine cr (qx _ _ _) ?_|exact True.intro)
   exact⟨i+1,⟨by omega,by rw[h3];exact aS hall h5⟩,by omega,rfl⟩
 ·(repeat' first|refine st ?_|refine sa fun xe hxe=>?_|refine sb (fun hq=>?_) fun hq=>?_|exact True.intro)
  refine⟨?_,rfl⟩
  rw[List.take_of_length_le (by omega)] at hall
  rw[dY.2 hall]
theorem m8 {c:List Int}{v:Vtx}(h:vtxS c v=true):-1000000<v.round∧v.round<1000000:=by
 have:=(bR h).1
 omega
theorem D2 (c:List Int)(g:List Vtx):ai Tryz.prog 104 [.lst (.int .i64) c,.lst .vtx g] [] (.bool (graS c g)) []:=by
 refine aa ak Tryz.func104 rfl rfl false 0 4 rfl rfl rfl rfl fun K hK hb1 hb2=>?_;simp only[ae,enc,Nat.reduceAdd]
 simp[af,V.toD,bnd,ab,D.cells] at hb1
 cases hc:comV c
 ·(repeat' first|refine st ?_|refine sa fun xe hxe=>?_|refine sb (fun hq=>?_) fun hq=>?_|refine cr (uo _) ?_|exact True.intro)
  exact⟨by simp[graS,hc],rfl⟩
 (repeat' first|refine st ?_|refine sa fun xe hxe=>?_|refine sb (fun hq=>?_) fun hq=>?_|refine cr (uo _) ?_|exact True.intro)
 refine ag hK [] [0,1,5] (fun i:Nat=>⟨[(0,.lst (.int .i64) c),(1,.lst .vtx g),(5,.int .i64 i)],[],4⟩) (fun i=>i≤g.length∧∀j,j<i→fo c g j=true) (fun i=>g.length-i) 0 ⟨by simp,by simp⟩ rfl ?_
 rintro i ⟨hi,hall⟩
 have hno:fo c g i=false→i<g.length→V.bool false=V.bool (graS c g)∧([]:VH)=[]:=fun h1 h2=>⟨by simp only[graS,hc,Bool.true_and];rw[bZ h2 h1],rfl⟩
 by_cases hlt:i<g.length
 ·have hxe:g[i]?=some g[i]:=List.getElem?_eq_getElem hlt
  have hA:fo c g i=(vtxS c g[i] && ((i==0||bef (g.getD (i-1) v0) g[i]) && parOK g g[i])):=by simp only[fo,a8 hxe]
  have hyes:fo c g i=true→∃y,(y≤g.length∧∀j,j<y→fo c g j=true)∧g.length-y<g.length-i∧VSt.mk [(0,.lst (.int .i64) c),(1,.lst .vtx g),(5,.int .i64 ((i:Int)+1))] [] 4=⟨[(0,.lst (.int .i64) c),(1,.lst .vtx g),(5,.int .i64 (y:Int))],[],4⟩:=fun h=>⟨i+1,⟨by omega,bk hall h⟩,by omega,rfl⟩
  generalize g[i]=v at *
  cases h1:vtxS c v
  ·(repeat' first|refine st ?_|refine sa fun xe hxe=>?_|refine sb (fun hq=>?_) fun hq=>?_|refine cr (jt _ _ hc) ?_|exact True.intro)
   exact hno (by rw[hA,h1];rfl) hlt
  have h0:-1000000<v.round∧v.round<1000000:=m8 h1
  rw[h1] at hA
  cases h3:parOK g v
  ·rw[h3] at hA
   by_cases hi0:i=0
   ·(repeat' first|refine st ?_|refine sa fun xe hxe=>?_|refine sb (fun hq=>?_) fun hq=>?_|refine cr (jt _ _ hc) ?_|refine cr (cN _ _ h0) ?_|exact True.intro)
    exact hno (by rw[hA];simp) hlt
   ·have hye:g[((i:Int)-1).toNat]?=some (g.getD (i-1) v0):=by rw[show ((i:Int)-1).toNat=i-1 by omega,List.getD_eq_getElem?_getD,List.getElem?_eq_getElem (show i-1<g.length by omega)];rfl
    generalize g.getD (i-1) v0=u at *
    (repeat' first|refine st ?_|refine sa fun xe hxe=>?_|refine sb (fun hq=>?_) fun hq=>?_|refine cr (jt _ _ hc) ?_|refine cr (jW _ _) ?_|refine cr (cN _ _ h0) ?_|exact True.intro)
    all_goals exact hno (by rw[hA];simp) hlt
  ·rw[h3] at hA
   by_cases hi0:i=0
   ·(repeat' first|refine st ?_|refine sa fun xe hxe=>?_|refine sb (fun hq=>?_) fun hq=>?_|refine cr (jt _ _ hc) ?_|refine cr (cN _ _ h0) ?_|exact True.intro)
    exact hyes (by rw[hA];simp[hi0])
   ·have hye:g[((i:Int)-1).toNat]?=some (g.getD (i-1) v0):=by rw[show ((i:Int)-1).toNat=i-1 by omega,List.getD_eq_getElem?_getD,List.getElem?_eq_getElem (show i-1<g.length by omega)];rfl
    generalize g.getD (i-1) v0=u at *
    cases h4:bef u v
    ·(repeat' first|refine st ?_|refine sa fun xe hxe=>?_|refine sb (fun hq=>?_) fun hq=>?_|refine cr (jt _ _ hc) ?_|refine cr (jW _ _) ?_|refine cr (cN _ _ h0) ?_|exact True.intro)
     exact hno (by rw[hA,h4];simp[hi0]) hlt
    ·(repeat' first|refine st ?_|refine sa fun xe hxe=>?_|refine sb (fun hq=>?_) fun hq=>?_|refine cr (jt _ _ hc) ?_|refine cr (jW _ _) ?_|refine cr (cN _ _ h0) ?_|exact True.intro)
     exact hyes (by rw[hA,h4];simp)
 ·(repeat' first|refine st ?_|refine sa fun xe hxe=>?_|refine sb (fun hq=>?_) fun hq=>?_|exact True.intro)
  refine⟨?_,rfl⟩
  have:i=g.length:=by omega
  subst this
  simp only[graS,hc,bL hall,Bool.true_and]
theorem xt {g:List Vtx}{r:Int}{i:Nat}{v:Vtx}(h:g[i]?=some v):dd (g.take (i+1)) r=if v.round==r then dd (g.take i) r++[v.author] else dd (g.take i) r:=by
 obtain⟨hl,rfl⟩:=List.getElem?_eq_some_iff.1 h
 rw[List.take_succ_eq_append_getElem hl]
 simp only[dd,List.filter_append,List.map_append,List.filter_cons,List.filter_nil]
 split<;>simp
theorem yx (g:List Vtx)(r:Int)(i:Nat):(dd (g.take i) r).length≤g.length:=by
 unfold dd
 rw[List.length_map]
 refine Nat.le_trans (List.length_filter_le _ _) ?_
 rw[List.length_take]
 omega
theorem ua (g:List Vtx)(r:Int)(hl:g.length≤2000000):ai Tryz.prog 68 [.lst .vtx g,.int .i64 r] [] (.ref 4) [(4,.row 3 (.int .i64) (dd g r))]:=by
 refine aa ak Tryz.func68 rfl rfl false 0 4 rfl rfl rfl rfl fun K hK hb1 hb2=>?_;simp only[ae,enc,Nat.reduceAdd]
 clear hb1 hb2
 (repeat' first|refine st ?_|refine sa fun xe hxe=>?_|refine sb (fun hq=>?_) fun hq=>?_|exact True.intro)
 refine ag hK [] [0,1,5,6] (fun i:Nat=>⟨[(0,.lst .vtx g),(1,.int .i64 r),(5,.ref 4),(6,.int .i64 i)],[(4,.row 3 (.int .i64) (dd (g.take i) r))],5⟩) (fun i=>i≤g.length) (fun i=>g.length-i) 0 (by simp) rfl ?_
 intro i hi
 by_cases hlt:i<g.length
 ·have hxe:g[i]?=some g[i]:=List.getElem?_eq_getElem hlt
  have h3:=xt (r:=r) hxe
  have h4:=yx g r i
  generalize g[i]=v at *
  cases h1:v.round==r
  ·rw[h1,if_neg (by simp)] at h3
   (repeat' first|refine st ?_|refine sa fun xe hxe=>?_|refine sb (fun hq=>?_) fun hq=>?_|exact True.intro)
   exact⟨i+1,by omega,by omega,by rw[h3];rfl⟩
  ·rw[h1,if_pos rfl] at h3
   (repeat' first|refine st ?_|refine sa fun xe hxe=>?_|refine sb (fun hq=>?_) fun hq=>?_|exact True.intro)
   exact⟨i+1,by omega,by omega,by rw[h3];rfl⟩
 ·(repeat' first|refine st ?_|refine sa fun xe hxe=>?_|refine sb (fun hq=>?_) fun hq=>?_|exact True.intro)
  rw[List.take_of_length_le (by omega)]
  exact⟨rfl,rfl⟩
theorem FG (c:List Int)(g:List Vtx)(h:GraOK c g)(hl:g.length≤2000000):ai Tryz.prog 67 [.lst (.int .i64) c,.lst .vtx g] [] (.int .i64 (dJ c g)) []:=by
 have h7:=(aw.1 h.com).2
 refine aa ak Tryz.func67 rfl rfl false 0 4 rfl rfl rfl rfl fun K hK hb1 hb2=>?_;simp only[ae,enc,Nat.reduceAdd]
 clear hb1 hb2
 (repeat' first|refine st ?_|refine sa fun xe hxe=>?_|refine sb (fun hq=>?_) fun hq=>?_|exact True.intro)
 refine ag hK [] [0,1,5] (fun k:Int=>⟨[(0,.lst (.int .i64) c),(1,.lst .vtx g),(5,.int .i64 k)],[],4⟩) (fun k=>(-1≤k∧k≤30)∧dJ c g=fV c g (k+1).toNat) (fun k=>(k+1).toNat) 30 ⟨by simp,rfl⟩ rfl ?_
 rintro k ⟨hi,hh⟩
 by_cases hk:k<0
 ·(repeat' first|refine st ?_|refine sa fun xe hxe=>?_|refine sb (fun hq=>?_) fun hq=>?_|exact True.intro)
  rw[show (k+1).toNat=0 by omega] at hh
  exact⟨by rw[hh];rfl,rfl⟩
 ·have h1:=kV h k
  have h2:=eh h1
  have h4:fV c g (k.toNat+1)=if quo c≤mo c (dd g k.toNat) then(k.toNat:Int) else fV c g k.toNat:=rfl
  rw[show ((k.toNat:Nat):Int)=k by omega] at h4
  rw[show (k+1).toNat=k.toNat+1 by omega,h4] at hh
  by_cases h5:quo c≤mo c (dd g k)
  ·rw[if_pos h5] at hh
   (repeat' first|refine st ?_|refine sa fun xe hxe=>?_|refine sb (fun hq=>?_) fun hq=>?_|refine cr (ua _ _ hl) ?_|refine cr (tz _ h.com) ?_|((with_reducible refine cA ?_);(conv=>whnf);(first|with_reducible refine aB (xi _ _ h.com (bQ h1) (by omega)) ?_);conv=>whnf)|exact True.intro)
   exact⟨by rw[hh],rfl⟩
  ·rw[if_neg h5] at hh
   (repeat' first|refine st ?_|refine sa fun xe hxe=>?_|refine sb (fun hq=>?_) fun hq=>?_|refine cr (ua _ _ hl) ?_|refine cr (tz _ h.com) ?_|((with_reducible refine cA ?_);(conv=>whnf);(first|with_reducible refine aB (xi _ _ h.com (bQ h1) (by omega)) ?_);conv=>whnf)|exact True.intro)
   exact⟨k-1,⟨by omega,by rw[hh];congr 1;omega⟩,by omega,rfl⟩
theorem qJ (c:List Int):ai Tryz.prog 136 [.lst (.int .i64) c] [] (.bool (comV c)) []:=by
 refine aa ak Tryz.func136 rfl rfl false 0 4 rfl rfl rfl rfl fun K hK hb1 hb2=>?_;simp only[ae,enc,Nat.reduceAdd]
 simp[af,V.toD,bnd,ab,D.cells] at hb1
 have hno:¬(1≤c.length∧c.length≤7)→V.bool false=V.bool (comV c)∧([]:VH)=[]:=fun h=>by
  refine⟨?_,rfl⟩
  have:comV c=false:=by rw[Bool.eq_false_iff];intro h2;exact h (aw.1 h2).2
  rw[this]
 (repeat' first|refine st ?_|refine sa fun xe hxe=>?_|refine sb (fun hq=>?_) fun hq=>?_|exact True.intro)
 ·exact hno (by omega)
 ·exact hno (by omega)
 refine ag hK [] [0,13,14,15] (fun i:Nat=>⟨[(0,.lst (.int .i64) c),(13,.lst (.int .i64) c),(14,.int .i64 c.length),(15,.int .i64 i)],[],4⟩) (fun i=>i≤c.length∧∀j,j<i→gU (c.getD j 0) 1 9=true) (fun i=>c.length-i) 0 ⟨by simp,by simp⟩ rfl ?_
 rintro i ⟨hi,hall⟩
 have hno:∀x,c[i]?=some x→¬(1≤x∧x≤9)→V.bool false=V.bool (comV c)∧([]:VH)=[]:=fun x hx h=>by
  refine⟨?_,rfl⟩
  have:comV c=false:=by rw[Bool.eq_false_iff];intro h2;exact h ((aw.1 h2).1 x (List.mem_of_getElem? hx))
  rw[this]
 by_cases hlt:i<c.length
 ·have hxe:c[i]?=some c[i]:=List.getElem?_eq_getElem hlt
  have hn:=hno _ hxe
  have hy:=bk hall (p:=fun j=>gU (c.getD j 0) 1 9) (i:=i)
  simp only[a8 hxe] at hy
  generalize c[i]=x at *
  (repeat' first|refine st ?_|refine sa fun xe hxe=>?_|refine sb (fun hq=>?_) fun hq=>?_|exact True.intro)
  ·exact hn (by omega)
  ·exact hn (by omega)
  ·exact⟨i+1,⟨by omega,hy (aD.2 (by omega))⟩,by omega,rfl⟩
 ·(repeat' first|refine st ?_|refine sa fun xe hxe=>?_|refine sb (fun hq=>?_) fun hq=>?_|exact True.intro)
  refine⟨?_,rfl⟩
  have:i=c.length:=by omega
  subst this
  have h1:gU c.length 1 7=true:=aD.2 (by omega)
  simp only[comV,bL hall,Bool.true_and,h1]
theorem kg (c:List Int):ai Tryz.prog 109 [.lst (.int .i64) c] [] (.bool (comV c)) []:=by
 refine aa ak Tryz.func109 rfl rfl false 0 4 rfl rfl rfl rfl fun K hK hb1 hb2=>?_;simp only[ae,enc,Nat.reduceAdd]
 (repeat' first|refine st ?_|refine sa fun xe hxe=>?_|refine sb (fun hq=>?_) fun hq=>?_|refine cr (qJ _) ?_|exact True.intro)
 exact⟨rfl,rfl⟩
theorem z6 (c:List Int)(hc:comV c=true):ai Tryz.prog 137 [.lst (.int .i64) c] [] (.int .i64 (oH c)) []:=by
 have hc1:=aw.1 hc
 refine aa ak Tryz.func137 rfl rfl false 0 4 rfl rfl rfl rfl fun K hK hb1 hb2=>?_;simp only[ae,enc,Nat.reduceAdd]
 clear hb1 hb2
 (repeat' first|refine st ?_|refine sa fun xe hxe=>?_|refine sb (fun hq=>?_) fun hq=>?_|exact True.intro)
 refine ag hK [] [0,3,6,7,8] (fun i:Nat=>⟨[(0,.lst (.int .i64) c),(3,.int .i64 (oH (c.take i))),(6,.lst (.int .i64) c),(7,.int .i64 c.length),(8,.int .i64 i)],[],4⟩) (fun i=>i≤c.length) (fun i=>c.length-i) 0 (by simp) rfl ?_
 intro i hi
 have hb:=A7 hc i
 by_cases hlt:i<c.length
 ·have hxe:c[i]?=some c[i]:=List.getElem?_eq_getElem hlt
  have hb2:=hc1.1 _ (List.mem_of_getElem? hxe)
  have hsn:=tQ hxe
  generalize c[i]=x at *
  (repeat' first|refine st ?_|refine sa fun xe hxe=>?_|refine sb (fun hq=>?_) fun hq=>?_|exact True.intro)
  exact⟨i+1,by omega,by omega,by rw[hsn];rfl⟩
 (repeat' first|refine st ?_|refine sa fun xe hxe=>?_|refine sb (fun hq=>?_) fun hq=>?_|exact True.intro)
 rw[List.take_of_length_le (by omega)]
 exact⟨rfl,rfl⟩
theorem uS (c:List Int)(hc:comV c=true):ai Tryz.prog 155 [.lst (.int .i64) c] [] (.int .i64 (quo c)) []:=by
 have h1:=lL hc
 have h2:=AI hc
 have h3:(2*oH c).tdiv 3+1=quo c:=rfl
 refine aa ak Tryz.func155 rfl rfl false 0 4 rfl rfl rfl rfl fun K hK hb1 hb2=>?_;simp only[ae,enc,Nat.reduceAdd]
 (repeat' first|refine st ?_|refine sa fun xe hxe=>?_|refine sb (fun hq=>?_) fun hq=>?_|refine cr (z6 _ hc) ?_|exact True.intro)
 exact⟨rfl,rfl⟩
theorem ww (c:List Int):ai Tryz.prog 141 [.lst (.int .i64) c] [] (.int .i64 (if comV c then quo c else-1)) []:=by
 refine aa ak Tryz.func141 rfl rfl false 0 4 rfl rfl rfl rfl fun K hK hb1 hb2=>?_;simp only[ae,enc,Nat.reduceAdd]
 cases hc:comV c
 ·(repeat' first|refine st ?_|refine sa fun xe hxe=>?_|refine sb (fun hq=>?_) fun hq=>?_|refine cr (qJ _) ?_|exact True.intro)
  exact⟨rfl,rfl⟩
 ·(repeat' first|refine st ?_|refine sa fun xe hxe=>?_|refine sb (fun hq=>?_) fun hq=>?_|refine cr (qJ _) ?_|refine cr (uS _ hc) ?_|exact True.intro)
  exact⟨rfl,rfl⟩
theorem de (c:List Int)(m:Int):ai Tryz.prog 110 [.lst (.int .i64) c,.int .i64 m] [] (.bool (bK c m)) []:=by
 refine aa ak Tryz.func110 rfl rfl false 0 4 rfl rfl rfl rfl fun K hK hb1 hb2=>?_;simp only[ae,enc,Nat.reduceAdd]
 simp[af,V.toD,bnd,ab,D.cells] at hb1
 (repeat' first|refine st ?_|refine sa fun xe hxe=>?_|refine sb (fun hq=>?_) fun hq=>?_|exact True.intro)
 all_goals (refine⟨congrArg V.bool ?_,rfl⟩;rw[Bool.eq_iff_iff];simp only[bK,aD,decide_eq_true_eq];(try simp);omega)
theorem jz (r:Int):ai Tryz.prog 138 [.int .i64 r] [] (.bool (gU r 0 30)) []:=by
 refine aa ak Tryz.func138 rfl rfl false 0 4 rfl rfl rfl rfl fun K hK hb1 hb2=>?_;simp only[ae,enc,Nat.reduceAdd]
 (repeat' first|refine st ?_|refine sa fun xe hxe=>?_|refine sb (fun hq=>?_) fun hq=>?_|exact True.intro)
 all_goals (refine⟨congrArg V.bool ?_,rfl⟩;rw[Bool.eq_iff_iff];simp only[aD,decide_eq_true_eq];(try simp);omega)
theorem Eb (r:Int):ai Tryz.prog 139 [.int .i64 r] [] (.bool (gU r 0 990)) []:=by
 refine aa ak Tryz.func139 rfl rfl false 0 4 rfl rfl rfl rfl fun K hK hb1 hb2=>?_;simp only[ae,enc,Nat.reduceAdd]
 (repeat' first|refine st ?_|refine sa fun xe hxe=>?_|refine sb (fun hq=>?_) fun hq=>?_|exact True.intro)
 all_goals (refine⟨congrArg V.bool ?_,rfl⟩;rw[Bool.eq_iff_iff];simp only[aD,decide_eq_true_eq];(try simp);omega)
theorem BY (c ms:List Int):ai Tryz.prog 142 [.lst (.int .i64) c,.lst (.int .i64) ms] [] (.bool (cj c ms)) []:=by
 refine aa ak Tryz.func142 rfl rfl false 0 4 rfl rfl rfl rfl fun K hK hb1 hb2=>?_;simp only[ae,enc,Nat.reduceAdd]
 simp[af,V.toD,bnd,ab,D.cells] at hb1
 (repeat' first|refine st ?_|refine sa fun xe hxe=>?_|refine sb (fun hq=>?_) fun hq=>?_|exact True.intro)
 refine ag hK [] [0,1,7,8,9] (fun i:Nat=>⟨[(0,.lst (.int .i64) c),(1,.lst (.int .i64) ms),(7,.lst (.int .i64) ms),(8,.int .i64 ms.length),(9,.int .i64 i)],[],4⟩) (fun i=>i≤ms.length∧∀j,j<i→e8 c ms j=true) (fun i=>ms.length-i) 0 ⟨by simp,by simp⟩ rfl ?_
 rintro i ⟨hi,hall⟩
 have hno:e8 c ms i=false→i<ms.length→V.bool false=V.bool (cj c ms)∧([]:VH)=[]:=fun h1 h2=>by
  have:cj c ms=false:=bZ h2 h1
  rw[this]
  exact⟨rfl,rfl⟩
 by_cases hlt:i<ms.length
 ·have hxe:ms[i]?=some ms[i]:=List.getElem?_eq_getElem hlt
  have hA:e8 c ms i=(bK c ms[i] && (i==0||decide (ms.getD (i-1) 0<ms[i]))):=by simp only[e8,a8 hxe]
  have hyes:e8 c ms i=true→∃y,(y≤ms.length∧∀j,j<y→e8 c ms j=true)∧ms.length-y<ms.length-i∧VSt.mk [(0,.lst (.int .i64) c),(1,.lst (.int .i64) ms),(7,.lst (.int .i64) ms),(8,.int .i64 ms.length),(9,.int .i64 ((i:Int)+1))] [] 4=⟨[(0,.lst (.int .i64) c),(1,.lst (.int .i64) ms),(7,.lst (.int .i64) ms),(8,.int .i64 ms.length),(9,.int .i64 (y:Int))],[],4⟩:=fun h=>⟨i+1,⟨by omega,bk hall h⟩,by omega,rfl⟩
  generalize ms[i]=m at *
  cases h1:bK c m
  ·(repeat' first|refine st ?_|refine sa fun xe hxe=>?_|refine sb (fun hq=>?_) fun hq=>?_|refine cr (de _ _) ?_|exact True.intro)
   exact hno (by rw[hA,h1];rfl) hlt
  by_cases hi0:i=0
  ·(repeat' first|refine st ?_|refine sa fun xe hxe=>?_|refine sb (fun hq=>?_) fun hq=>?_|refine cr (de _ _) ?_|exact True.intro)
   exact hyes (by rw[hA,h1];simp[hi0])
  ·have hye:ms[((i:Int)-1).toNat]?=some (ms.getD (i-1) 0):=by rw[show ((i:Int)-1).toNat=i-1 by omega,List.getD_eq_getElem?_getD,List.getElem?_eq_getElem (show i-1<ms.length by omega)];rfl
   generalize ms.getD (i-1) 0=u at *
   (repeat' first|refine st ?_|refine sa fun xe hxe=>?_|refine sb (fun hq=>?_) fun hq=>?_|refine cr (de _ _) ?_|exact True.intro)
   ·exact hno (by rw[hA,h1];simp;omega) hlt
   ·exact hyes (by rw[hA,h1];simp;omega)
 ·(repeat' first|refine st ?_|refine sa fun xe hxe=>?_|refine sb (fun hq=>?_) fun hq=>?_|exact True.intro)
  refine⟨?_,rfl⟩
  have:i=ms.length:=by omega
  subst this
  have:cj c ms=true:=bL hall
  rw[this]
theorem mG (c ms:List Int):ai Tryz.prog 113 [.lst (.int .i64) c,.lst (.int .i64) ms] [] (.bool (comV c && cj c ms)) []:=by
 refine aa ak Tryz.func113 rfl rfl false 0 4 rfl rfl rfl rfl fun K hK hb1 hb2=>?_;simp only[ae,enc,Nat.reduceAdd]
 (repeat' first|refine st ?_|refine sa fun xe hxe=>?_|refine sb (fun hq=>?_) fun hq=>?_|refine cr (qJ _) ?_|refine cr (BY _ _) ?_|exact True.intro)
 all_goals (refine⟨?_,rfl⟩;simp_all)
theorem uT (c ms:List Int)(hc:comV c=true)(hm:∀m∈ms,0≤m∧m<c.length)(hl:ms.length≤2000000):ai Tryz.prog 154 [.lst (.int .i64) c,.lst (.int .i64) ms] [] (.int .i64 (mo c ms)) []:=by
 refine aa ak Tryz.func154 rfl rfl false 0 4 rfl rfl rfl rfl fun K hK hb1 hb2=>?_;simp only[ae,enc,Nat.reduceAdd]
 clear hb1 hb2
 (repeat' first|refine st ?_|refine sa fun xe hxe=>?_|refine sb (fun hq=>?_) fun hq=>?_|exact True.intro)
 refine ag hK [] [0,1,5,8,9,10] (fun i:Nat=>⟨[(0,.lst (.int .i64) c),(1,.lst (.int .i64) ms),(5,.int .i64 (mo c (ms.take i))),(8,.lst (.int .i64) ms),(9,.int .i64 ms.length),(10,.int .i64 i)],[],4⟩) (fun i=>i≤ms.length) (fun i=>ms.length-i) 0 (by simp) rfl ?_
 intro i hi
 by_cases hlt:i<ms.length
 ·have hxe:ms[i]?=some ms[i]:=List.getElem?_eq_getElem hlt
  have h1:=hm _ (List.getElem_mem hlt)
  have h2:=Bi (ms:=ms.take i) hc
  have h3:=Bk (c:=c) hxe
  rw[List.length_take] at h2
  generalize ms[i]=m at *
  have hx2:c[m.toNat]?=some (c.getD m.toNat 0):=by rw[List.getD_eq_getElem?_getD,List.getElem?_eq_getElem (show m.toNat<c.length by omega)];rfl
  have h4:=(aw.1 hc).1 _ (List.mem_of_getElem? hx2)
  generalize c.getD m.toNat 0=x at *
  (repeat' first|refine st ?_|refine sa fun xe hxe=>?_|refine sb (fun hq=>?_) fun hq=>?_|exact True.intro)
  exact⟨i+1,by omega,by omega,by rw[h3];rfl⟩
 (repeat' first|refine st ?_|refine sa fun xe hxe=>?_|refine sb (fun hq=>?_) fun hq=>?_|exact True.intro)
 rw[List.take_of_length_le (by omega)]
 exact⟨rfl,rfl⟩
def yl (c ms:List Int):Int:=if comV c && cj c ms then mo c ms else-1
theorem wA (c ms:List Int):ai Tryz.prog 140 [.lst (.int .i64) c,.lst (.int .i64) ms] [] (.int .i64 (yl c ms)) []:=by
 refine aa ak Tryz.func140 rfl rfl false 0 4 rfl rfl rfl rfl fun K hK hb1 hb2=>?_;simp only[ae,enc,Nat.reduceAdd]
 cases hv:comV c && cj c ms
 ·(repeat' first|refine st ?_|refine sa fun xe hxe=>?_|refine sb (fun hq=>?_) fun hq=>?_|refine cr (mG _ _) ?_|exact True.intro)
  exact⟨by simp[yl,hv],rfl⟩
 ·have hc:comV c=true:=by simp_all
  have hm:cj c ms=true:=by simp_all
  have h7:=(aw.1 hc).2
  have hl:=eh hm
  (repeat' first|refine st ?_|refine sa fun xe hxe=>?_|refine sb (fun hq=>?_) fun hq=>?_|refine cr (mG _ _) ?_|((with_reducible refine cA ?_);(conv=>whnf);(first|with_reducible refine aB (uT _ _ hc (bQ hm) (by omega)) ?_);conv=>whnf)|exact True.intro)
  exact⟨by simp[yl,hv],rfl⟩
theorem uN (v u:Vtx):ai Tryz.prog 159 [bu v,bu u] [] (.bool (bef v u)) []:=by
 refine aa ak Tryz.func159 rfl rfl false 0 4 rfl rfl rfl rfl fun K hK hb1 hb2=>?_;simp only[ae,enc,Nat.reduceAdd]
 (repeat' first|refine st ?_|refine sa fun xe hxe=>?_|refine sb (fun hq=>?_) fun hq=>?_|exact True.intro)
 all_goals (refine⟨?_,rfl⟩;simp_all[bef])
theorem fB (c:List Int)(v:Vtx):ai Tryz.prog 112 [.lst (.int .i64) c,bu v] [] (.bool (comV c && vtxS c v)) []:=by
 refine aa ak Tryz.func112 rfl rfl false 0 4 rfl rfl rfl rfl fun K hK hb1 hb2=>?_;simp only[ae,enc,Nat.reduceAdd]
 simp[af,V.toD,bnd,ab,D.cells] at hb1
 have h8:((v.parents.length:Int)==0)=(v.parents.length==0):=by rw[Bool.eq_iff_iff,beq_iff_eq,beq_iff_eq];omega
 (repeat' first|refine st ?_|refine sa fun xe hxe=>?_|refine sb (fun hq=>?_) fun hq=>?_|refine cr (mG _ _) ?_|refine cr (jz _) ?_|refine cr (de _ _) ?_|refine cr (Eb _) ?_|refine cr (wA _ _) ?_|refine cr (ww _) ?_|exact True.intro)
 all_goals (refine⟨?_,rfl⟩;simp_all[vtxS,bK,yl])
def Θg:TT:=(164,⟨.ptr 176,1,8,some (.nilp),some (.hp 0),false⟩)::Θ
theorem eF:TT.ok Tryz.prog Θg:=TT.okB_ok (by kernel_rfl)
theorem mY {P Q:Prop}(h:Q)(s:Hid Q→P:=by
  intro h
  (first|(with_reducible first|apply cQ|apply ca)|((first|with_reducible apply bO eF|refine go ?_|(with_reducible first|apply ck|apply b7|apply bM|apply bP|refine bN eF mixed (by kernel_rfl) ?_))<;>conv=>whnf))
  repeat(first|(with_reducible first|apply cQ|apply ca)|((first|with_reducible apply bO eF|refine go ?_|(with_reducible first|apply ck|apply b7|apply bM|apply bP|refine bN eF mixed (by kernel_rfl) ?_))<;>conv=>whnf))
  exact h.h):P:=s ⟨h⟩
abbrev gZ (c:List Int)(s:GS):VH:=[(0,.fvar 176 (.nod 1) s.nodes),(1,.frow 164 (.hp 0) s.rows),(4,.vari 168 [.lst (.int .i64) c,.nils] 217 (.hp 0) s.plc [])]
abbrev GP (c:List Int)(s:GS)(x:VB):VH:=[(0,.fvar 176 (.nod 1) s.nodes),(1,.frow 164 (.hp 0) s.rows),(4,.vari 168 [.lst (.int .i64) c,.nils] 217 (.hp 0) s.plc []),(5,x)]
abbrev gR (c:List Int)(s:GS):VH:=[(0,.fvar 176 (.nod 1) s.nodes),(1,.frow 164 (.hp 0) s.rows),(4,.vari 168 [.lst (.int .i64) c,.ref 5] 217 (.hp 0) s.plc []),(5,.row 164 (.hp 0) ((List.range s.nodes.length).map some))]
abbrev GO (c:List Int)(s:GS)(x:VB):VH:=[(0,.fvar 176 (.nod 1) s.nodes),(1,.frow 164 (.hp 0) s.rows),(4,.vari 168 [.lst (.int .i64) c,.ref 5] 217 (.hp 0) s.plc []),(5,.row 164 (.hp 0) ((List.range s.nodes.length).map some)),(6,x)]
theorem mR {s:GS}(hs:s.plc.length=217){r a:Int}(hr:gU r 0 30=true)(ha:0≤a∧a≤6):s.plc[r.toNat * 7+a.toNat]?=some (s.at r a):=by
 have hr:=aD.1 hr
 have e:(r*7+a).toNat=r.toNat * 7+a.toNat:=by omega
 rw[GS.at,e,List.getD_eq_getElem?_getD,List.getElem?_eq_getElem (by omega)]
 rfl
def lT (s:GS)(r:Int)(n:Nat):List Int:=((List.range n).filter fun a:Nat=>gU r 0 30 && (s.at r (a:Int)).isSome).map fun a:Nat=>(a:Int)
theorem DA (s:GS)(r:Int)(n:Nat):lT s r (n+1)=if gU r 0 30 && (s.at r (n:Int)).isSome then lT s r n++[(n:Int)] else lT s r n:=by
 simp only[lT,List.range_succ,List.filter_append,List.map_append,List.filter_cons,List.filter_nil]
 split<;>simp
theorem Fe (s:GS)(r:Int)(n:Nat):(lT s r n).length≤n:=by
 unfold lT
 rw[List.length_map]
 exact Nat.le_trans (List.length_filter_le _ _) (by simp)
theorem Gf (c:List Int)(s:GS)(r a:Int)(h:(gU r 0 30 && bK c a)=false):ai Tryz.prog 172 [.ptr 4 0,.int .i64 r,.int .i64 a] (gR c s) .nilp (gR c s):=by
 refine aa eF Tryz.func172 rfl rfl false 2 6 rfl rfl rfl rfl fun K hK hb1 hb2=>?_;simp only[ae,enc,Nat.reduceAdd]
 clear hb1 hb2
 cases h1:gU r 0 30
 ·(repeat' first|refine st ?_|refine sa fun xe hxe=>?_|refine sb (fun hq=>?_) fun hq=>?_|refine cr (jz _) ?_|refine cr (de _ _) ?_|exact True.intro)
  exact⟨rfl,rfl⟩
 ·have h2:bK c a=false:=by simp_all
  (repeat' first|refine st ?_|refine sa fun xe hxe=>?_|refine sb (fun hq=>?_) fun hq=>?_|refine cr (jz _) ?_|refine cr (de _ _) ?_|exact True.intro)
  exact⟨rfl,rfl⟩
theorem pZ (c:List Int)(s:GS)(r a:Int)(hs:s.plc.length=217)(hc:c.length≤7)(h1:gU r 0 30=true)(h2:bK c a=true):ai Tryz.prog 172 [.ptr 4 0,.int .i64 r,.int .i64 a] (gR c s) (.hpo 0 (s.at r a)) (gR c s):=by
 refine aa eF Tryz.func172 rfl rfl false 2 6 rfl rfl rfl rfl fun K hK hb1 hb2=>?_;simp only[ae,enc,Nat.reduceAdd]
 clear hb1 hb2
 have hr:=aD.1 h1
 have ha:=aD.1 h2
 have hp:=mR hs h1 (a:=a) (by omega)
 (repeat' first|refine st ?_|refine sa fun xe hxe=>?_|refine sb (fun hq=>?_) fun hq=>?_|refine cr (jz _) ?_|refine cr (de _ _) ?_|exact True.intro)
 exact⟨rfl,rfl⟩
theorem Gg (c:List Int)(s:GS)(r a:Int)(h:(gU r 0 30 && bK c a)=false):ai Tryz.prog 172 [.ptr 4 0,.int .i64 r,.int .i64 a] (gZ c s) .nilp (gZ c s):=by
 refine aa eF Tryz.func172 rfl rfl false 1 5 rfl rfl rfl rfl fun K hK hb1 hb2=>?_;simp only[ae,enc,Nat.reduceAdd]
 clear hb1 hb2
 cases h1:gU r 0 30
 ·(repeat' first|refine st ?_|refine sa fun xe hxe=>?_|refine sb (fun hq=>?_) fun hq=>?_|refine cr (jz _) ?_|refine cr (de _ _) ?_|exact True.intro)
  exact⟨rfl,rfl⟩
 ·have h2:bK c a=false:=by simp_all
  (repeat' first|refine st ?_|refine sa fun xe hxe=>?_|refine sb (fun hq=>?_) fun hq=>?_|refine cr (jz _) ?_|refine cr (de _ _) ?_|exact True.intro)
  exact⟨rfl,rfl⟩
theorem Dz (c:List Int)(s:GS)(r a:Int)(hs:s.plc.length=217)(hc:c.length≤7)(h1:gU r 0 30=true)(h2:bK c a=true):ai Tryz.prog 172 [.ptr 4 0,.int .i64 r,.int .i64 a] (gZ c s) (.hpo 0 (s.at r a)) (gZ c s):=by
 refine aa eF Tryz.func172 rfl rfl false 1 5 rfl rfl rfl rfl fun K hK hb1 hb2=>?_;simp only[ae,enc,Nat.reduceAdd]
 clear hb1 hb2
 have hr:=aD.1 h1
 have ha:=aD.1 h2
 have hp:=mR hs h1 (a:=a) (by omega)
 (repeat' first|refine st ?_|refine sa fun xe hxe=>?_|refine sb (fun hq=>?_) fun hq=>?_|refine cr (jz _) ?_|refine cr (de _ _) ?_|exact True.intro)
 exact⟨rfl,rfl⟩
abbrev gO (c:List Int)(s:GS):VH:=[(0,.fvar 176 (.nod 1) s.nodes),(1,.frow 164 (.hp 0) s.rows),(4,.vari 168 [.lst (.int .i64) c,.ref 6] 217 (.hp 0) s.plc []),(5,.gone),(6,.row 164 (.hp 0) ((List.range s.nodes.length).map some))]
theorem pz (s:GS)(v:Vtx):(List.range s.nodes.length).map some++[some s.nodes.length]=(List.range (bB s v).nodes.length).map some:=by
 simp[bB,List.range_succ]
theorem ln (s:GS)(v:Vtx)(h:0≤v.round∧0≤v.author):s.plc.set (v.round.toNat * 7+v.author.toNat) (some s.nodes.length)=(bB s v).plc:=by
 have e:(v.round*7+v.author).toNat=v.round.toNat * 7+v.author.toNat:=by omega
 simp only[bB,e]
def lA (s:GS)(v:Vtx):Bool:=v.parents.all fun p=>(s.at (v.round-1) p).isSome
abbrev Cj (v:Vtx)(n:Int)(p:V):VB:=.var 176 [.int .i64 v.round,.int .i64 v.author,.lst (.int .i64) v.parents,.int .i64 v.digest,.int .i64 n,p]
abbrev Co (s:GS)(v:Vtx)(i:Nat):VB:=.row 164 (.hp 0) ((v.parents.take i).map fun p=>s.at (v.round-1) p)
def qK (c:List Int)(s:GS)(v:Vtx):Nat→VSt
 |0=>⟨[(0,.ptr 4 0),(3,.ptr 6 0),(5,.ptr 7 0),(18,.lst (.int .i64) v.parents),(19,.int .i64 v.parents.length),(20,.int .i64 0)],gR c s++[(6,.var 43 (bu v).cells),(7,Cj v s.nodes.length .nils)],8⟩
 |i+1=>⟨[(0,.ptr 4 0),(3,.ptr 6 0),(5,.ptr 7 0),(18,.lst (.int .i64) v.parents),(19,.int .i64 v.parents.length),(20,.int .i64 ((i+1:Nat):Int))],gR c s++[(6,.var 43 (bu v).cells),(7,Cj v s.nodes.length (.ref 8)),(8,Co s v (i+1))],9⟩
theorem Ch (c:List Int)(s:GS)(v:Vtx)(hs:s.plc.length=217)(hc:comV c=true)(hv:vtxS c v=true)(hn:s.nodes.length≤2000000):ai Tryz.prog 160 [.ptr 4 0,bu v] (gR c s) (.bool (lA s v)) (if lA s v then gO c (bB s v) else gR c s):=by
 have h7:=(aw.1 hc).2
 obtain⟨v1,v2,v3,v4,v5,v6⟩:=bR hv
 have hml:=eh v3
 have hmi:=bQ v3
 have hrl:((List.range s.nodes.length).map some).length=s.nodes.length:=by simp
 refine aa eF Tryz.func160 rfl rfl false 2 6 rfl rfl rfl rfl fun K hK hb1 hb2=>?_;simp only[ae,enc,Nat.reduceAdd]
 clear hb1 hb2
 (repeat' first|refine mY ?_|refine sa fun xe hxe=>?_|refine sb (fun hq=>?_) fun hq=>?_|exact True.intro)
 refine ag hK [] [0,3,5,18,19,20] (qK c s v) (fun i=>i≤v.parents.length∧∀p∈v.parents.take i,(s.at (v.round-1) p).isSome=true) (fun i=>v.parents.length-i) 0 ⟨by simp,by simp⟩ (by simp only[hrl];rfl) ?_
 rintro i ⟨hi,hall⟩
 have hno:∀p∈v.parents,s.at (v.round-1) p=none→lA s v=false:=fun p hp h=>by
  rw[Bool.eq_false_iff]
  intro h2
  have:=List.all_eq_true.1 h2 p hp
  rw[h] at this
  cases this
 by_cases hlt:i<v.parents.length
 ·have hxe:v.parents[i]?=some v.parents[i]:=List.getElem?_eq_getElem hlt
  have h3:v.parents.take (i+1)=v.parents.take i++[v.parents[i]]:=List.take_succ_eq_append_getElem hlt
  have h4:v.parents[i]∈v.parents:=List.getElem_mem hlt
  have hr0:v.round≠0:=fun h=>by rw[v5 h] at hlt;simp at hlt
  have h1:gU (v.round-1) 0 30=true:=aD.2 (by omega)
  have hlk:qK c s v (i+1)=⟨[(0,.ptr 4 0),(3,.ptr 6 0),(5,.ptr 7 0),(18,.lst (.int .i64) v.parents),(19,.int .i64 v.parents.length),(20,.int .i64 ((i+1:Nat):Int))],gR c s++[(6,.var 43 (bu v).cells),(7,Cj v s.nodes.length (.ref 8)),(8,.row 164 (.hp 0) (((v.parents.take i).map fun p=>s.at (v.round-1) p)++[s.at (v.round-1) v.parents[i]]))],9⟩:=by
   rw[qK,Co,h3,List.map_append];rfl
  generalize v.parents[i]=p at *
  have h2:bK c p=true:=aD.2 (by have:=hmi p h4;omega)
  have hl2:((v.parents.take i).map fun p=>s.at (v.round-1) p).length=i:=by rw[List.length_map,List.length_take];omega
  cases h5:s.at (v.round-1) p with
  |none=>
   have hin:(s.at (v.round-1) p).isNone=true:=by rw[h5];rfl
   have hnn:=hno p h4 h5
   cases i with
   |zero=>
    have hx0:v.parents[(0:Int).toNat]?=some p:=hxe
    unfold qK
    (repeat' first|refine mY ?_|refine sa fun xe hxe=>?_|refine sb (fun hq=>?_) fun hq=>?_|refine co (pZ c s (v.round-1) p hs h7.2 h1 h2) ?_|exact True.intro)
    exact⟨by rw[hnn],by rw[hnn];rfl⟩
   |succ i=>
    unfold qK
    (repeat' first|refine mY ?_|refine sa fun xe hxe=>?_|refine sb (fun hq=>?_) fun hq=>?_|refine co (pZ c s (v.round-1) p hs h7.2 h1 h2) ?_|exact True.intro)
    exact⟨by rw[hnn],by rw[hnn];rfl⟩
  |some k=>
   have hin:(s.at (v.round-1) p).isNone=false:=by rw[h5];rfl
   cases i with
   |zero=>
    have hx0:v.parents[(0:Int).toNat]?=some p:=hxe
    unfold qK
    (repeat' first|refine mY ?_|refine sa fun xe hxe=>?_|refine sb (fun hq=>?_) fun hq=>?_|refine co (pZ c s (v.round-1) p hs h7.2 h1 h2) ?_|exact True.intro)
    refine⟨0+1,⟨by omega,by rw[h3];exact aS hall (by rw[h5];rfl)⟩,by omega,?_⟩
    refine Eq.trans ?_ hlk.symm
    rfl
   |succ i=>
    unfold qK
    simp only[Co]
    generalize (List.map (fun p=>s.at (v.round-1) p) (List.take (i+1) v.parents))=ps at *
    (repeat' first|refine mY ?_|refine sa fun xe hxe=>?_|refine sb (fun hq=>?_) fun hq=>?_|refine co (pZ c s (v.round-1) p hs h7.2 h1 h2) ?_|exact True.intro)
    refine⟨i+1+1,⟨by omega,by rw[h3];exact aS hall (by rw[h5];rfl)⟩,by omega,?_⟩
    refine Eq.trans ?_ hlk.symm
    rfl
 ·rw[List.take_of_length_le (by omega)] at hall
  have hy:lA s v=true:=List.all_eq_true.2 hall
  have hpl:=mR hs (aD.2 v1) (a:=v.author) (by omega)
  cases i with
  |zero=>
   unfold qK
   simp only[gR]
   generalize hnr:(List.map some (List.range s.nodes.length))=nr at *
   (repeat' first|refine mY ?_|refine sa fun xe hxe=>?_|refine sb (fun hq=>?_) fun hq=>?_|exact True.intro)
   rw[hy]
   refine⟨rfl,?_⟩
   have e1:=pz s v
   have e2:=ln s v ⟨v1.1,v2.1⟩
   simp only[if_true,gO]
   rw[←e1,←e2,hnr]
   have e3:v.parents=[]:=List.length_eq_zero_iff.1 (by omega)
   have e4:(bB s v).nodes=s.nodes++[⟨v,s.nodes.length,none⟩]:=by simp[bB,e3]
   have e5:(bB s v).rows=s.rows:=by simp[bB,e3]
   rw[e4,e5]
  |succ i=>
   unfold qK
   simp only[Co]
   generalize hps:(List.map (fun p=>s.at (v.round-1) p) (List.take (i+1) v.parents))=ps at *
   simp only[gR]
   generalize hnr:(List.map some (List.range s.nodes.length))=nr at *
   (repeat' first|refine mY ?_|refine sa fun xe hxe=>?_|refine sb (fun hq=>?_) fun hq=>?_|exact True.intro)
   rw[hy]
   refine⟨rfl,?_⟩
   have e1:=pz s v
   have e2:=ln s v ⟨v1.1,v2.1⟩
   simp only[if_true,gO]
   rw[←e1,←e2,hnr]
   have e3:v.parents≠[]:=fun h=>by rw[h] at hi;simp at hi
   rw[List.take_of_length_le (by omega)] at hps
   simp only[bB,e3,if_false,hps]
theorem zD (r a:Int):lk.at r a=none:=by
 simp only[lk,GS.at,List.getD_eq_getElem?_getD,List.getElem?_replicate]
 split<;>rfl
theorem FS (v:Vtx):lA lk v=v.parents.isEmpty:=by
 unfold lA
 cases v.parents with
 |nil=>rfl
 |cons p l=>simp[zD]
theorem Ci (c:List Int)(v:Vtx)(hc:comV c=true)(hv:vtxS c v=true):ai Tryz.prog 160 [.ptr 4 0,bu v] (gZ c lk) (.bool (lA lk v)) (if lA lk v then gR c (bB lk v) else gZ c lk):=by
 have h7:=(aw.1 hc).2
 have hs:lk.plc.length=217:=List.length_replicate
 obtain⟨v1,v2,v3,v4,v5,v6⟩:=bR hv
 have hmi:=bQ v3
 refine aa eF Tryz.func160 rfl rfl false 1 5 rfl rfl rfl rfl fun K hK hb1 hb2=>?_;simp only[ae,enc,Nat.reduceAdd]
 clear hb1 hb2
 (repeat' first|refine mY ?_|refine sa fun xe hxe=>?_|refine sb (fun hq=>?_) fun hq=>?_|exact True.intro)
 refine ag hK [] [0,3,5,18,19,20] (fun i:Nat=>⟨[(0,.ptr 4 0),(3,.ptr 5 0),(5,.ptr 6 0),(18,.lst (.int .i64) v.parents),(19,.int .i64 v.parents.length),(20,.int .i64 0)],gZ c lk++[(5,.var 43 (bu v).cells),(6,Cj v 0 .nils)],7⟩) (fun i=>i=0) (fun i=>i) 0 rfl (by simp only[List.length_nil];rfl) ?_
 rintro i rfl
 have hy:=FS v
 by_cases hlt:0<v.parents.length
 ·have hxe:v.parents[0]?=some v.parents[0]:=List.getElem?_eq_getElem hlt
  have h4:v.parents[0]∈v.parents:=List.getElem_mem hlt
  have hr0:v.round≠0:=fun h=>by rw[v5 h] at hlt;simp at hlt
  have h1:gU (v.round-1) 0 30=true:=aD.2 (by omega)
  have hne:v.parents.isEmpty=false:=by cases h:v.parents with|nil=>rw[h] at hlt;simp at hlt|cons _ _=>rfl
  rw[hne] at hy
  rw[hy]
  generalize v.parents[0]=p at *
  have h2:bK c p=true:=aD.2 (by have:=hmi p h4;omega)
  have hx0:v.parents[(0:Int).toNat]?=some p:=hxe
  have hin:(lk.at (v.round-1) p).isNone=true:=by rw[zD];rfl
  (repeat' first|refine mY ?_|refine sa fun xe hxe=>?_|refine sb (fun hq=>?_) fun hq=>?_|refine co (Dz c lk (v.round-1) p hs h7.2 h1 h2) ?_|exact True.intro)
  exact⟨rfl,rfl⟩
 ·have e3:v.parents=[]:=List.length_eq_zero_iff.1 (by omega)
  have hem:v.parents.isEmpty=true:=by rw[e3];rfl
  rw[hem] at hy
  rw[hy]
  have hpl:=mR hs (aD.2 v1) (a:=v.author) (by omega)
  have e2:=ln lk v ⟨v1.1,v2.1⟩
  have e4:(bB lk v).nodes=[⟨v,0,none⟩]:=by simp[bB,e3,lk]
  have e5:(bB lk v).rows=[]:=by simp[bB,e3,lk]
  simp only[if_true,gR]
  rw[←e2,e4,e5]
  (repeat' first|refine mY ?_|refine sa fun xe hxe=>?_|refine sb (fun hq=>?_) fun hq=>?_|exact True.intro)
  exact⟨rfl,rfl⟩
theorem Cq {c:List Int}{g:List Vtx}{v:Vtx}(hc:comV c=true)(hg:∀u∈g,vtxS c u=true)(hv:vtxS c v=true):lA (lm g) v=parOK g v:=by
 obtain⟨v1,v2,v3,v4,v5,v6⟩:=bR hv
 have h7:=(aw.1 hc).2
 unfold lA parOK
 rw[Bool.eq_iff_iff,List.all_eq_true,List.all_eq_true]
 have key:∀p∈v.parents,((lm g).at (v.round-1) p).isSome=cq g (v.round-1) p:=by
  intro p hp
  have hr0:v.round≠0:=fun h=>by rw[v5 h] at hp;cases hp
  have:=bQ v3 p hp
  exact(zE (fun u hu=>cK hc (hg u hu)) (by omega) (by omega)).1
 constructor
 ·intro h p hp;rw[←key p hp];exact h p hp
 ·intro h p hp;rw[key p hp];exact h p hp
def Cg (c:List Int)(g:List Vtx):Nat→VSt
 |0=>⟨[(0,.lst (.int .i64) c),(1,.lst .vtx g),(6,.ptr 4 0),(15,.lst .vtx g),(16,.int .i64 g.length),(17,.int .i64 0)],gZ c lk,5⟩
 |i+1=>⟨[(0,.lst (.int .i64) c),(1,.lst .vtx g),(6,.ptr 4 0),(15,.lst .vtx g),(16,.int .i64 g.length),(17,.int .i64 ((i+1:Nat):Int))],gR c (lm (g.take (i+1))),6⟩
def gF (c:List Int)(g:List Vtx):VH:=match g with|[]=>gZ c lk|v::l=>gR c (lm (v::l))
def Dg (c:List Int)(g:List Vtx):V:=if graS c g then .tup [.ptr 4 0,.bool true] else .tup [.nilp,.bool false]
def Df (c:List Int)(g:List Vtx):VH:=if graS c g then gF c g else[]
theorem BO {c:List Int}{g:List Vtx}{i:Nat}(hi:i<g.length)(h:dS c g i=false):graS c g=false:=by
 unfold graS
 rw[←wm,bZ hi h,Bool.and_false]
theorem zA {c:List Int}{g:List Vtx}{i:Nat}(h:∀j,j<i→dS c g j=true):∀u∈g.take i,vtxS c u=true:=by
 intro u hu
 obtain⟨j,hj,rfl⟩:=cf (d:=v0) hu
 rw[List.length_take] at hj
 have:=h j (by omega)
 simp only[dS,Bool.and_eq_true] at this
 rw[show (g.take i).getD j v0=g.getD j v0 by simp only[List.getD_eq_getElem?_getD,List.getElem?_take,if_pos (show j<i by omega)]]
 exact this.1
theorem Er (c:List Int)(g:List Vtx)(hl:g.length≤2000000):ai Tryz.prog 143 [.lst (.int .i64) c,.lst .vtx g] [] (Dg c g) (Df c g):=by
 have hbad:graS c g=false→V.tup [.nilp,.bool false]=Dg c g∧([]:VH)=Df c g:=fun h=>by simp[Dg,Df,h]
 refine aa eF Tryz.func143 rfl rfl false 0 4 rfl rfl rfl rfl fun K hK hb1 hb2=>?_;simp only[ae,enc,Nat.reduceAdd]
 clear hb1 hb2
 cases hc:comV c
 ·(repeat' first|refine mY ?_|refine sa fun xe hxe=>?_|refine sb (fun hq=>?_) fun hq=>?_|refine cr (kg _) ?_|exact True.intro)
  exact hbad (by simp[graS,hc])
 (repeat' first|refine mY ?_|refine sa fun xe hxe=>?_|refine sb (fun hq=>?_) fun hq=>?_|refine cr (kg _) ?_|exact True.intro)
 refine yw 4 2 217 (.hp 0) ?_
 ((conv=>whnf);refine Eu (by kernel_rfl) ?_;(conv=>whnf))
 refine hX 0 (.fvar 176 (.nod 1) []) rfl ?_
 refine hX 1 (.frow 164 (.hp 0) []) rfl ?_
 refine ag hK [] [0,1,6,15,16,17] (Cg c g) (fun i=>i≤g.length∧∀j,j<i→dS c g j=true) (fun i=>g.length-i) 0 ⟨by simp,by simp⟩ rfl ?_
 rintro i ⟨hi,hall⟩
 by_cases hlt:i<g.length
 ·have hxe:g[i]?=some g[i]:=List.getElem?_eq_getElem hlt
  have hA:dS c g i=(vtxS c g[i] && ((i==0||bef (g.getD (i-1) v0) g[i]) && parOK (g.take i) g[i])):=by simp only[dS,a8 hxe]
  have hno:dS c g i=false→V.tup [.nilp,.bool false]=Dg c g∧([]:VH)=Df c g:=fun h=>hbad (BO hlt h)
  have hgs:lm (g.take (i+1))=bB (lm (g.take i)) g[i]:=by rw[List.take_succ_eq_append_getElem hlt,nK]
  have hgv:=zA hall
  have hys:dS c g i=true→∀j,j<i+1→dS c g j=true:=fun h=>bk hall h
  generalize g[i]=v at *
  cases h1:vtxS c v
  ·have h2:(comV c && vtxS c v)=false:=by simp[h1]
   cases i with
   |zero=>
    have hx0:g[(0:Int).toNat]?=some v:=hxe
    unfold Cg
    (repeat' first|refine mY ?_|refine sa fun xe hxe=>?_|refine sb (fun hq=>?_) fun hq=>?_|refine cr (fB _ _) ?_|exact True.intro)
    exact hno (by simp[hA,h1])
   |succ i=>
    unfold Cg
    (repeat' first|refine mY ?_|refine sa fun xe hxe=>?_|refine sb (fun hq=>?_) fun hq=>?_|refine cr (fB _ _) ?_|exact True.intro)
    exact hno (by simp[hA,h1])
  have h2:(comV c && vtxS c v)=true:=by simp[h1,hc]
  have hpe:=Cq hc hgv h1
  cases i with
  |zero=>
   have hx0:g[(0:Int).toNat]?=some v:=hxe
   have hL:=Ci c v hc h1
   have hpe:lA lk v=parOK (g.take 0) v:=hpe
   have hf1:ao (VB.fvar 176 (.nod 1) lk.nodes)≤ao (VB.fvar 176 (.nod 1) (bB lk v).nodes):=Nat.zero_le _
   have hf2:ao (VB.frow 164 (.hp 0) lk.rows)≤ao (VB.frow 164 (.hp 0) (bB lk v).rows):=Nat.zero_le _
   cases h3:lA lk v
   ·rw[h3] at hL
    simp only[Bool.false_eq_true,if_false] at hL
    unfold Cg
    (repeat' first|refine mY ?_|refine sa fun xe hxe=>?_|refine sb (fun hq=>?_) fun hq=>?_|refine cr (fB _ _) ?_|refine co (hL) ?_|exact True.intro)
    exact hno (by rw[hA,←hpe,h3];simp)
   ·rw[h3] at hL
    simp only[if_true] at hL
    unfold Cg
    (repeat' first|refine mY ?_|refine sa fun xe hxe=>?_|refine sb (fun hq=>?_) fun hq=>?_|refine cr (fB _ _) ?_|refine co (hL) ?_|exact True.intro)
    refine⟨0+1,⟨by omega,hys (by rw[hA,←hpe,h3,h1];simp)⟩,by omega,?_⟩
    show _=VSt.mk _ (gR c (lm (g.take (0+1)))) _
    rw[hgs]
    rfl
  |succ i=>
   have hgl:(lm (g.take (i+1))).nodes.length≤2000000:=by rw[(qF _).1,List.length_take];omega
   have hL:=Ch c (lm (g.take (i+1))) v (qF _).2 hc h1 hgl
   have hye:g[(((i+1:Nat):Int)-1).toNat]?=some (g.getD (i+1-1) v0):=by rw[show (((i+1:Nat):Int)-1).toNat=i by omega,List.getD_eq_getElem?_getD,List.getElem?_eq_getElem (show i<g.length by omega)];simp only[Nat.add_sub_cancel,List.getElem?_eq_getElem (show i<g.length by omega)];rfl
   generalize g.getD (i+1-1) v0=u at *
   have hst:Cg c g (i+1)=⟨[(0,.lst (.int .i64) c),(1,.lst .vtx g),(6,.ptr 4 0),(15,.lst .vtx g),(16,.int .i64 g.length),(17,.int .i64 ((i+1:Nat):Int))],gR c (lm (g.take (i+1))),6⟩:=rfl
   rw[hst]
   clear hst
   generalize lm (g.take (i+1))=s at *
   have hf1:ao (VB.fvar 176 (.nod 1) s.nodes)≤ao (VB.fvar 176 (.nod 1) (bB s v).nodes):=by simp[ao,bB]
   have hf2:ao (VB.frow 164 (.hp 0) s.rows)≤ao (VB.frow 164 (.hp 0) (bB s v).rows):=by simp only[ao,bB];split<;>simp
   cases h4:bef u v
   ·(repeat' first|refine mY ?_|refine sa fun xe hxe=>?_|refine sb (fun hq=>?_) fun hq=>?_|refine cr (fB _ _) ?_|refine cr (uN _ _) ?_|exact True.intro)
    exact hno (by simp[hA,h1,h4])
   cases h3:lA s v
   ·rw[h3] at hL
    simp only[Bool.false_eq_true,if_false] at hL
    (repeat' first|refine mY ?_|refine sa fun xe hxe=>?_|refine sb (fun hq=>?_) fun hq=>?_|refine cr (fB _ _) ?_|refine cr (uN _ _) ?_|refine co (hL) ?_|exact True.intro)
    exact hno (by rw[hA,←hpe,h3];simp)
   ·rw[h3] at hL
    simp only[if_true] at hL
    (repeat' first|refine mY ?_|refine sa fun xe hxe=>?_|refine sb (fun hq=>?_) fun hq=>?_|refine cr (fB _ _) ?_|refine cr (uN _ _) ?_|refine co (hL) ?_|exact True.intro)
    refine⟨i+1+1,⟨by omega,hys (by rw[hA,←hpe,h3,h1,h4];simp)⟩,by omega,?_⟩
    show _=VSt.mk _ (gR c (lm (g.take (i+1+1)))) _
    rw[hgs]
    rfl
 ·have hg:graS c g=true:=by
   unfold graS
   rw[hc,←wm,bL (fun j hj=>hall j (by omega))]
   rfl
  have e1:Dg c g= .tup [.ptr 4 0,.bool true]:=by simp[Dg,hg]
  have e2:Df c g=gF c g:=by simp[Df,hg]
  rw[e1,e2]
  cases i with
  |zero=>
   have e3:g=[]:=List.length_eq_zero_iff.1 (by omega)
   subst e3
   unfold Cg
   (repeat' first|refine mY ?_|refine sa fun xe hxe=>?_|refine sb (fun hq=>?_) fun hq=>?_|exact True.intro)
   exact⟨rfl,rfl⟩
  |succ i=>
   have hst:Cg c g (i+1)=⟨[(0,.lst (.int .i64) c),(1,.lst .vtx g),(6,.ptr 4 0),(15,.lst .vtx g),(16,.int .i64 g.length),(17,.int .i64 ((i+1:Nat):Int))],gR c (lm g),6⟩:=by rw[Cg,List.take_of_length_le (by omega)]
   rw[hst]
   cases g with
   |nil=>simp at hi
   |cons w g=>
    (repeat' first|refine mY ?_|refine sa fun xe hxe=>?_|refine sb (fun hq=>?_) fun hq=>?_|exact True.intro)
    exact⟨rfl,rfl⟩
theorem Fs {c:List Int}{g:List Vtx}(h:GraOK c g)(r:Int):lT (lm g) r c.length=dd g r:=by
 rw[←rO h r]
 unfold lT rN
 congr 1
 refine List.filter_congr fun a ha=>?_
 have h7:=(aw.1 h.com).2
 have ha:=List.mem_range.1 ha
 cases h1:gU r 0 30
 ·rw[Bool.false_and]
  symm
  rw[Bool.eq_false_iff]
  intro h2
  obtain⟨v,hv,hr,-⟩:=ce.1 h2
  have:=(bR (h.vtx v hv)).1
  rw[hr] at this
  rw[aD.2 this] at h1
  cases h1
 ·rw[Bool.true_and]
  exact(zE (fun u hu=>cK h.com (h.vtx u hu)) (aD.1 h1) (by omega)).1

end Go.Proofs.YthmfppknagbkeaaGreat.Am
