/- Committees and graphs: what the specification's functions give. Committees and vertices: what the program's functions give. Graphs: what the program's functions give. Graphs: a vertex is linked. Graphs: all vertices are linked. Graphs: heights, authors, places. Runs: leaders, faulty members, pairs of proposals: what the functions give. Runs: tables of graphs, parents that are known. Runs: graphs of members, copies: what the program's functions give. Runs: clones of proposals, views that cover. Runs: parents that are known. Runs: clones of lists of numbers (the empty ones by the shelf). Runs: a -/
import Derived.Shelf.Slices.Clone
import Derived.Test.YtdjplfikgepddaaEX5
set_option linter.unusedSimpArgs false
set_option linter.unusedVariables false
namespace Go.Proofs.Ytdjplfikgepddaa.Am
open Go
attribute [local irreducible] Mk bJ Ari eC tI l8 dz km iR oZ At aE
set_option maxRecDepth 10000
theorem oO (n lo hi:Int):aE Try.prog 57 [.int .i64 n,.int .i64 lo,.int .i64 hi] [] (.bool (fS n lo hi)) []:=by
 refine am az Try.func57 rfl rfl false 0 4 rfl rfl rfl rfl fun K hK hb1 hb2=>?_;simp only[av,enc,Nat.reduceAdd]
 (repeat' first|refine st ?_|refine sa fun xe hxe=>?_|refine sb (fun hq=>?_) fun hq=>?_|exact True.intro)
 all_goals (refine⟨?_,rfl⟩;simp_all[fS])
 omega
theorem tl (c:List Int):aE Try.prog 96 [.lst (.int .i64) c] [] (.bool (comV c)) []:=by
 refine am az Try.func96 rfl rfl false 0 4 rfl rfl rfl rfl fun K hK hb1 hb2=>?_;simp only[av,enc,Nat.reduceAdd]
 simp[ab,V.toD,bnd,aa,D.cells] at hb1
 (repeat' first|refine st ?_|refine sa fun xe hxe=>?_|refine sb (fun hq=>?_) fun hq=>?_|exact True.intro|refine cr (oO _ _ _) ?_)
 refine aG hK [] [0,3] (fun i:Nat=>⟨[(0,.lst (.int .i64) c),(3,.int .i64 i)],[],4⟩) (fun i=>i≤c.length∧∀j,j<i→fS (c.getD j 0) 1 9=true) (fun i=>c.length-i) 0 ⟨by simp,by simp⟩ rfl ?_
 rintro i ⟨hi,hall⟩
 (repeat' first|refine st ?_|refine sa fun xe hxe=>?_|refine sb (fun hq=>?_) fun hq=>?_|exact True.intro|refine cr (oO _ _ _) ?_)
 ·refine⟨?_,rfl⟩
  have:comV c=false:=by
   simp only[comV,Bool.and_eq_false_iff]
   left
   exact fo (j:=i) (by omega) (by rw[bl hxe];exact hq)
  rw[this]
 ·refine⟨i+1,⟨by omega,dm hall (by rw[bl hxe];exact hq)⟩,by omega,rfl⟩
 ·refine⟨?_,rfl⟩
  have:i=c.length:=by omega
  subst this
  simp only[comV,ew hall,Bool.true_and]
theorem mz {c:List Int}{i:Nat}{x:Int}(h:c[i]?=some x):nJ (c.take (i+1))=nJ (c.take i)+x:=by
 obtain⟨hl,rfl⟩:=List.getElem?_eq_some_iff.1 h
 rw[List.take_succ_eq_append_getElem hl]
 unfold nJ
 rw[List.sum_append]
 simp
theorem sF {c:List Int}(h:comV c=true)(i:Nat):0≤nJ (c.take i)∧nJ (c.take i)≤63:=by
 obtain⟨h1,h2,h3⟩:=aT.1 h
 have h4:=jb (M:=9) (by omega) (l:=c.take i) fun x hx=>⟨by have:=h1 x (List.mem_of_mem_take hx);omega,(h1 x (List.mem_of_mem_take hx)).2⟩
 rw[List.length_take] at h4
 unfold nJ
 omega
theorem xl (c:List Int)(hc:comV c=true):aE Try.prog 58 [.lst (.int .i64) c] [] (.int .i64 (nJ c)) []:=by
 have hc1:=aT.1 hc
 refine am az Try.func58 rfl rfl false 0 4 rfl rfl rfl rfl fun K hK hb1 hb2=>?_;simp only[av,enc,Nat.reduceAdd]
 clear hb1 hb2
 (repeat' first|refine st ?_|refine sa fun xe hxe=>?_|refine sb (fun hq=>?_) fun hq=>?_|exact True.intro)
 refine aG hK [] [0,3,4] (fun i:Nat=>⟨[(0,.lst (.int .i64) c),(3,.int .i64 (nJ (c.take i))),(4,.int .i64 i)],[],4⟩) (fun i=>i≤c.length) (fun i=>c.length-i) 0 (by simp) rfl ?_
 intro i hi
 have hb:=sF hc i
 have hbx:∀x,c[i]?=some x→1≤x∧x≤9:=fun x hx=>hc1.1 x (List.mem_of_getElem? hx)
 by_cases hlt:i<c.length
 ·have hxe:c[i]?=some c[i]:=List.getElem?_eq_getElem hlt
  have hb2:=hbx _ hxe
  have hsn:=mz hxe
  generalize c[i]=x at *
  (repeat' first|refine st ?_|refine sa fun xe hxe=>?_|refine sb (fun hq=>?_) fun hq=>?_|exact True.intro)
  exact⟨i+1,by omega,by omega,by rw[hsn];rfl⟩
 (repeat' first|refine st ?_|refine sa fun xe hxe=>?_|refine sb (fun hq=>?_) fun hq=>?_|exact True.intro)
 rw[List.take_of_length_le (by omega)]
 exact⟨rfl,rfl⟩
theorem uZ (c:List Int)(hc:comV c=true):aE Try.prog 123 [.lst (.int .i64) c] [] (.int .i64 (quo c)) []:=by
 have h1:=ol hc
 have h2:=sd hc
 have h3:(2*nJ c).tdiv 3+1=quo c:=rfl
 refine am az Try.func123 rfl rfl false 0 4 rfl rfl rfl rfl fun K hK hb1 hb2=>?_;simp only[av,enc,Nat.reduceAdd]
 (repeat' first|refine st ?_|refine sa fun xe hxe=>?_|refine sb (fun hq=>?_) fun hq=>?_|exact True.intro|refine cr (xl _ hc) ?_)
 exact⟨rfl,rfl⟩
theorem mR (n:Int):aE Try.prog 157 [.int .i64 n] [] (.bool (fS n 0 990)) []:=by
 refine am az Try.func157 rfl rfl false 0 4 rfl rfl rfl rfl fun K hK hb1 hb2=>?_;simp only[av,enc,Nat.reduceAdd]
 (repeat' first|refine st ?_|refine sa fun xe hxe=>?_|refine sb (fun hq=>?_) fun hq=>?_|exact True.intro|refine cr (oO _ _ _) ?_)
 exact⟨rfl,rfl⟩
theorem su (c ms:List Int):aE Try.prog 156 [.lst (.int .i64) c,.lst (.int .i64) ms] [] (.bool (dL c ms)) []:=by
 refine am az Try.func156 rfl rfl false 0 4 rfl rfl rfl rfl fun K hK hb1 hb2=>?_;simp only[av,enc,Nat.reduceAdd]
 simp[ab,V.toD,bnd,aa,D.cells] at hb1
 (repeat' first|refine st ?_|refine sa fun xe hxe=>?_|refine sb (fun hq=>?_) fun hq=>?_|exact True.intro|refine cr (oO _ _ _) ?_)
 refine aG hK [] [0,1,5] (fun i:Nat=>⟨[(0,.lst (.int .i64) c),(1,.lst (.int .i64) ms),(5,.int .i64 i)],[],4⟩) (fun i=>i≤ms.length∧∀j,j<i→dw c ms j=true) (fun i=>ms.length-i) 0 ⟨by simp,by simp⟩ rfl ?_
 rintro i ⟨hi,hall⟩
 (repeat' first|refine st ?_|refine sa fun xe hxe=>?_|refine sb (fun hq=>?_) fun hq=>?_|exact True.intro|refine cr (oO _ _ _) ?_)
 ·refine⟨?_,rfl⟩
  have:dL c ms=false:=fo (j:=i) (by omega) (by simp only[dw,cS,bl hxe,hq,Bool.false_and])
  rw[this]
 ·rename_i x hx hq1 h0
  have hy':ms[i-1]?=some xe:=by rw[←hxe];congr 1;omega
  refine⟨?_,rfl⟩
  have:dL c ms=false:=fo (j:=i) (by omega) (by simp only[dw,bl hx,bl hy',Bool.and_eq_false_iff,Bool.or_eq_false_iff,decide_eq_false_iff_not];right;exact⟨by simp;omega,by omega⟩)
  rw[this]
 ·rename_i x hx hq1 h0
  have hy':ms[i-1]?=some xe:=by rw[←hxe];congr 1;omega
  refine⟨i+1,⟨by omega,dm hall ?_⟩,by omega,rfl⟩
  simp only[dw,cS,bl hx,bl hy',hq1,Bool.true_and,Bool.or_eq_true,decide_eq_true_eq]
  right;omega
 ·have h0:i=0:=by omega
  subst h0
  refine⟨0+1,⟨by omega,dm hall ?_⟩,by omega,rfl⟩
  simp only[dw,cS,bl hxe, *]
  rfl
 ·refine⟨?_,rfl⟩
  have:i=ms.length:=by omega
  subst this
  have:dL c ms=true:=ew hall
  rw[this]
theorem re {c ms:List Int}{i:Nat}{m:Int}(h:ms[i]?=some m):om c (ms.take (i+1))=om c (ms.take i)+c.getD m.toNat 0:=by
 obtain⟨hl,rfl⟩:=List.getElem?_eq_some_iff.1 h
 rw[List.take_succ_eq_append_getElem hl,sB]
theorem xq (c ms:List Int)(hc:comV c=true)(hm:∀m∈ms,0≤m∧m<c.length)(hl:ms.length≤2000000):aE Try.prog 122 [.lst (.int .i64) c,.lst (.int .i64) ms] [] (.int .i64 (om c ms)) []:=by
 refine am az Try.func122 rfl rfl false 0 4 rfl rfl rfl rfl fun K hK hb1 hb2=>?_;simp only[av,enc,Nat.reduceAdd]
 clear hb1 hb2
 (repeat' first|refine st ?_|refine sa fun xe hxe=>?_|refine sb (fun hq=>?_) fun hq=>?_|exact True.intro)
 refine aG hK [] [0,1,5,6] (fun i:Nat=>⟨[(0,.lst (.int .i64) c),(1,.lst (.int .i64) ms),(5,.int .i64 (om c (ms.take i))),(6,.int .i64 i)],[],4⟩) (fun i=>i≤ms.length) (fun i=>ms.length-i) 0 (by simp) rfl ?_
 intro i hi
 by_cases hlt:i<ms.length
 ·have hxe:ms[i]?=some ms[i]:=List.getElem?_eq_getElem hlt
  have h1:=hm _ (List.getElem_mem hlt)
  have h2:=rU (ms:=ms.take i) hc
  have h3:=re (c:=c) hxe
  rw[List.length_take] at h2
  generalize ms[i]=m at *
  have hx2:c[m.toNat]?=some (c.getD m.toNat 0):=by rw[List.getD_eq_getElem?_getD,List.getElem?_eq_getElem (show m.toNat<c.length by omega)];rfl
  have h4:=(aT.1 hc).1 _ (List.mem_of_getElem? hx2)
  generalize c.getD m.toNat 0=x at *
  (repeat' first|refine st ?_|refine sa fun xe hxe=>?_|refine sb (fun hq=>?_) fun hq=>?_|exact True.intro)
  exact⟨i+1,by omega,by omega,by rw[h3];rfl⟩
 (repeat' first|refine st ?_|refine sa fun xe hxe=>?_|refine sb (fun hq=>?_) fun hq=>?_|exact True.intro)
 rw[List.take_of_length_le (by omega)]
 exact⟨rfl,rfl⟩
theorem jL (v u:Vtx):aE Try.prog 98 [.agg [.int .i64 v.round,.int .i64 v.author,.lst (.int .i64) v.parents,.int .i64 v.digest],.agg [.int .i64 u.round,.int .i64 u.author,.lst (.int .i64) u.parents,.int .i64 u.digest]] [] (.bool (bef v u)) []:=by
 refine am az Try.func98 rfl rfl false 0 4 rfl rfl rfl rfl fun K hK hb1 hb2=>?_;simp only[av,enc,Nat.reduceAdd]
 (repeat' first|refine st ?_|refine sa fun xe hxe=>?_|refine sb (fun hq=>?_) fun hq=>?_|exact True.intro)
 all_goals (refine⟨?_,rfl⟩;simp_all[bef])
abbrev eF (v:Vtx):V:=.agg [.int .i64 v.round,.int .i64 v.author,.lst (.int .i64) v.parents,.int .i64 v.digest]
theorem kV {α:Type}[BEq α][LawfulBEq α]:∀{a b:List α},a.Nodup→a⊆b→a.length≤b.length
 |[],_,_,_=>Nat.zero_le _
 |x::a,b,h,hs=>by
  rw[List.nodup_cons] at h
  have hx:x∈b:=hs (List.mem_cons_self ..)
  have:=kV (b:=b.erase x) h.2 fun y hy=>by
   have hne:y≠x:=fun e=>h.1 (e▸hy)
   exact(List.mem_erase_of_ne hne).2 (hs (List.mem_cons_of_mem _ hy))
  rw[List.length_erase_of_mem hx] at this
  have:=List.length_pos_of_mem hx
  simp only[List.length_cons]
  omega
theorem gz {c ms:List Int}(h:dL c ms=true):ms.length≤c.length:=by
 have h1:=fx h
 have h2:ms⊆(List.range c.length).map fun n:Nat=>(n:Int):=fun m hm=>by
  have:=h1 m hm
  rw[List.mem_map]
  exact⟨m.toNat,by rw[List.mem_range];omega,by omega⟩
 have h3:ms.Nodup:=(sq h).imp fun hab=>by omega
 have:=kV h3 h2
 simpa using this
theorem kT (c:List Int)(v:Vtx)(hc:comV c=true):aE Try.prog 97 [.lst (.int .i64) c,eF v] [] (.bool (vtxS c v)) []:=by
 refine am az Try.func97 rfl rfl false 0 4 rfl rfl rfl rfl fun K hK hb1 hb2=>?_;simp only[av,enc,Nat.reduceAdd]
 simp[ab,V.toD,bnd,aa,D.cells] at hb1
 have h7:=(aT.1 hc).2
 have h8:((v.parents.length:Int)==0)=(v.parents.length==0):=by rw[Bool.eq_iff_iff,beq_iff_eq,beq_iff_eq];omega
 cases hm:dL c v.parents
 ·(repeat' first|refine st ?_|refine sa fun xe hxe=>?_|refine sb (fun hq=>?_) fun hq=>?_|exact True.intro|refine cr (oO _ _ _) ?_|refine cr (su _ _) ?_|refine cr (mR _) ?_|refine cr (uZ _ hc) ?_)
  all_goals (refine⟨?_,rfl⟩;simp_all[vtxS,cS])
 ·have hl:=gz hm
  (repeat' first|refine st ?_|refine sa fun xe hxe=>?_|refine sb (fun hq=>?_) fun hq=>?_|exact True.intro|refine cr (oO _ _ _) ?_|refine cr (su _ _) ?_|refine cr (mR _) ?_|refine cr (uZ _ hc) ?_|((with_reducible refine ig ?_);(conv=>whnf);(first|with_reducible refine ce (xq _ _ hc (fx hm) (by omega)) ?_);conv=>whnf))
  all_goals (refine⟨?_,rfl⟩;simp_all[vtxS,cS])
theorem gw {α:Type}{l:List α}{P:α→Prop}{x:α}(h:∀y∈l,P y)(hx:P x):∀y∈l++[x],P y:=by
 intro y hy
 rcases List.mem_append.1 hy with hy|hy
 ·exact h y hy
 ·rw[List.mem_singleton.1 hy];exact hx
theorem uE {α:Type}{l:List α}{p:α→Bool}{i:Nat}{x:α}(h:l[i]?=some x)(hn:∀y∈l.take i,p y=false)(hp:p x=true):l.findIdx? p=some i:=by
 obtain⟨hi,rfl⟩:=List.getElem?_eq_some_iff.1 h
 rw[List.findIdx?_eq_some_iff_getElem]
 refine⟨hi,hp,fun j hj=>?_⟩
 rw[hn _ (List.mem_of_getElem? (i:=j) (by rw[List.getElem?_take,if_pos hj,List.getElem?_eq_getElem]))]
 simp
theorem qU (g:List Vtx)(r a:Int):aE Try.prog 158 [.lst .vtx g,.int .i64 r,.int .i64 a] [] (.int .i64 (oK g r a)) []:=by
 refine am az Try.func158 rfl rfl false 0 4 rfl rfl rfl rfl fun K hK hb1 hb2=>?_;simp only[av,enc,Nat.reduceAdd]
 simp[ab,V.toD,bnd,aa,D.cells] at hb1
 (repeat' first|refine st ?_|refine sa fun xe hxe=>?_|refine sb (fun hq=>?_) fun hq=>?_|exact True.intro)
 refine aG hK [] [0,1,2,7] (fun i:Nat=>⟨[(0,.lst .vtx g),(1,.int .i64 r),(2,.int .i64 a),(7,.int .i64 i)],[],4⟩) (fun i=>i≤g.length∧∀v∈g.take i,jp r a v=false) (fun i=>g.length-i) 0 ⟨by simp,by simp⟩ rfl ?_
 rintro i ⟨hi,hall⟩
 by_cases hlt:i<g.length
 ·have hxe:g[i]?=some g[i]:=List.getElem?_eq_getElem hlt
  have h3:g.take (i+1)=g.take i++[g[i]]:=List.take_succ_eq_append_getElem hlt
  have h4:=uE (l:=g) (p:=jp r a) hxe hall
  generalize g[i]=v at *
  have hA:jp r a v=(v.round==r && v.author==a):=rfl
  cases h1:v.round==r
  ·(repeat' first|refine st ?_|refine sa fun xe hxe=>?_|refine sb (fun hq=>?_) fun hq=>?_|exact True.intro)
   exact⟨i+1,⟨by omega,by rw[h3];exact gw hall (by simp[hA,h1])⟩,by omega,rfl⟩
  ·cases h2:v.author==a
   ·(repeat' first|refine st ?_|refine sa fun xe hxe=>?_|refine sb (fun hq=>?_) fun hq=>?_|exact True.intro)
    exact⟨i+1,⟨by omega,by rw[h3];exact gw hall (by simp[hA,h1,h2])⟩,by omega,rfl⟩
   ·(repeat' first|refine st ?_|refine sa fun xe hxe=>?_|refine sb (fun hq=>?_) fun hq=>?_|exact True.intro)
    refine⟨?_,rfl⟩
    rw[oK,h4 (by simp[hA,h1,h2])]
 ·(repeat' first|refine st ?_|refine sa fun xe hxe=>?_|refine sb (fun hq=>?_) fun hq=>?_|exact True.intro)
  refine⟨?_,rfl⟩
  rw[List.take_of_length_le (by omega)] at hall
  rw[oK,List.findIdx?_eq_none_iff.2 hall]
theorem wn (g:List Vtx)(r a:Int):decide (oK g r a<0)= !fF g r a:=by
 rw[←t6]
 unfold oK
 cases g.findIdx? (jp r a) with
 |none=>rfl
 |some i=>simp
theorem dO (g:List Vtx)(v:Vtx)(hr:-1000000<v.round∧v.round<1000000):aE Try.prog 99 [.lst .vtx g,eF v] [] (.bool (parOK g v)) []:=by
 refine am az Try.func99 rfl rfl false 0 4 rfl rfl rfl rfl fun K hK hb1 hb2=>?_;simp only[av,enc,Nat.reduceAdd]
 simp[ab,V.toD,bnd,aa,D.cells,ch] at hb1
 (repeat' first|refine st ?_|refine sa fun xe hxe=>?_|refine sb (fun hq=>?_) fun hq=>?_|exact True.intro)
 refine aG hK [] [0,3,5] (fun i:Nat=>⟨[(0,.lst .vtx g),(3,.ptr 4 0),(5,.int .i64 i)],[(4,.var 85 (eF v).cells)],5⟩) (fun i=>i≤v.parents.length∧∀p∈v.parents.take i,fF g (v.round-1) p=true) (fun i=>v.parents.length-i) 0 ⟨by simp,by simp⟩ rfl ?_
 rintro i ⟨hi,hall⟩
 by_cases hlt:i<v.parents.length
 ·have hxe:v.parents[i]?=some v.parents[i]:=List.getElem?_eq_getElem hlt
  have h3:v.parents.take (i+1)=v.parents.take i++[v.parents[i]]:=List.take_succ_eq_append_getElem hlt
  have h4:v.parents[i]∈v.parents:=List.getElem_mem hlt
  generalize v.parents[i]=p at *
  have hlt2:=wn g (v.round-1) p
  cases h5:fF g (v.round-1) p
  ·have hlt2:oK g (v.round-1) p<0:=by simpa[h5] using hlt2
   (repeat' first|refine st ?_|refine sa fun xe hxe=>?_|refine sb (fun hq=>?_) fun hq=>?_|exact True.intro|refine cr (qU _ _ _) ?_)
   refine⟨?_,rfl⟩
   have:parOK g v=false:=by
    rw[Bool.eq_false_iff]
    intro h
    rw[fl.1 h p h4] at h5
    cases h5
   rw[this]
  ·have hlt2:¬oK g (v.round-1) p<0:=by simpa[h5] using hlt2
   (repeat' first|refine st ?_|refine sa fun xe hxe=>?_|refine sb (fun hq=>?_) fun hq=>?_|exact True.intro|refine cr (qU _ _ _) ?_)
   exact⟨i+1,⟨by omega,by rw[h3];exact gw hall h5⟩,by omega,rfl⟩
 ·(repeat' first|refine st ?_|refine sa fun xe hxe=>?_|refine sb (fun hq=>?_) fun hq=>?_|exact True.intro)
  refine⟨?_,rfl⟩
  rw[List.take_of_length_le (by omega)] at hall
  rw[fl.2 hall]
theorem uz {c:List Int}{v:Vtx}(h:vtxS c v=true):-1000000<v.round∧v.round<1000000:=by
 have:=(dB h).1
 omega
theorem sj (c:List Int)(g:List Vtx):aE Try.prog 50 [.lst (.int .i64) c,.lst .vtx g] [] (.bool (eG c g)) []:=by
 refine am az Try.func50 rfl rfl false 0 4 rfl rfl rfl rfl fun K hK hb1 hb2=>?_;simp only[av,enc,Nat.reduceAdd]
 simp[ab,V.toD,bnd,aa,D.cells] at hb1
 cases hc:comV c
 ·(repeat' first|refine st ?_|refine sa fun xe hxe=>?_|refine sb (fun hq=>?_) fun hq=>?_|exact True.intro|refine cr (tl _) ?_)
  exact⟨by simp[eG,hc],rfl⟩
 (repeat' first|refine st ?_|refine sa fun xe hxe=>?_|refine sb (fun hq=>?_) fun hq=>?_|exact True.intro|refine cr (tl _) ?_)
 refine aG hK [] [0,1,5] (fun i:Nat=>⟨[(0,.lst (.int .i64) c),(1,.lst .vtx g),(5,.int .i64 i)],[],4⟩) (fun i=>i≤g.length∧∀j,j<i→eA c g j=true) (fun i=>g.length-i) 0 ⟨by simp,by simp⟩ rfl ?_
 rintro i ⟨hi,hall⟩
 have hno:eA c g i=false→i<g.length→V.bool false=V.bool (eG c g)∧([]:VH)=[]:=fun h1 h2=>⟨by simp only[eG,hc,Bool.true_and];rw[fo h2 h1],rfl⟩
 by_cases hlt:i<g.length
 ·have hxe:g[i]?=some g[i]:=List.getElem?_eq_getElem hlt
  have hA:eA c g i=(vtxS c g[i] && ((i==0||bef (g.getD (i-1) v0) g[i]) && parOK g g[i])):=by simp only[eA,bl hxe]
  have hyes:eA c g i=true→∃y,(y≤g.length∧∀j,j<y→eA c g j=true)∧g.length-y<g.length-i∧VSt.mk [(0,.lst (.int .i64) c),(1,.lst .vtx g),(5,.int .i64 ((i:Int)+1))] [] 4=⟨[(0,.lst (.int .i64) c),(1,.lst .vtx g),(5,.int .i64 (y:Int))],[],4⟩:=fun h=>⟨i+1,⟨by omega,dm hall h⟩,by omega,rfl⟩
  generalize g[i]=v at *
  cases h1:vtxS c v
  ·(repeat' first|refine st ?_|refine sa fun xe hxe=>?_|refine sb (fun hq=>?_) fun hq=>?_|exact True.intro|refine cr (kT _ _ hc) ?_)
   exact hno (by rw[hA,h1];rfl) hlt
  have h0:-1000000<v.round∧v.round<1000000:=uz h1
  rw[h1] at hA
  cases h3:parOK g v
  ·rw[h3] at hA
   by_cases hi0:i=0
   ·(repeat' first|refine st ?_|refine sa fun xe hxe=>?_|refine sb (fun hq=>?_) fun hq=>?_|exact True.intro|refine cr (kT _ _ hc) ?_|refine cr (dO _ _ h0) ?_)
    exact hno (by rw[hA];simp) hlt
   ·have hye:g[((i:Int)-1).toNat]?=some (g.getD (i-1) v0):=by rw[show ((i:Int)-1).toNat=i-1 by omega,List.getD_eq_getElem?_getD,List.getElem?_eq_getElem (show i-1<g.length by omega)];rfl
    generalize g.getD (i-1) v0=u at *
    (repeat' first|refine st ?_|refine sa fun xe hxe=>?_|refine sb (fun hq=>?_) fun hq=>?_|exact True.intro|refine cr (kT _ _ hc) ?_|refine cr (jL _ _) ?_|refine cr (dO _ _ h0) ?_)
    all_goals exact hno (by rw[hA];simp) hlt
  ·rw[h3] at hA
   by_cases hi0:i=0
   ·(repeat' first|refine st ?_|refine sa fun xe hxe=>?_|refine sb (fun hq=>?_) fun hq=>?_|exact True.intro|refine cr (kT _ _ hc) ?_|refine cr (dO _ _ h0) ?_)
    exact hyes (by rw[hA];simp[hi0])
   ·have hye:g[((i:Int)-1).toNat]?=some (g.getD (i-1) v0):=by rw[show ((i:Int)-1).toNat=i-1 by omega,List.getD_eq_getElem?_getD,List.getElem?_eq_getElem (show i-1<g.length by omega)];rfl
    generalize g.getD (i-1) v0=u at *
    cases h4:bef u v
    ·(repeat' first|refine st ?_|refine sa fun xe hxe=>?_|refine sb (fun hq=>?_) fun hq=>?_|exact True.intro|refine cr (kT _ _ hc) ?_|refine cr (jL _ _) ?_|refine cr (dO _ _ h0) ?_)
     exact hno (by rw[hA,h4];simp[hi0]) hlt
    ·(repeat' first|refine st ?_|refine sa fun xe hxe=>?_|refine sb (fun hq=>?_) fun hq=>?_|exact True.intro|refine cr (kT _ _ hc) ?_|refine cr (jL _ _) ?_|refine cr (dO _ _ h0) ?_)
     exact hyes (by rw[hA,h4];simp)
 ·(repeat' first|refine st ?_|refine sa fun xe hxe=>?_|refine sb (fun hq=>?_) fun hq=>?_|exact True.intro)
  refine⟨?_,rfl⟩
  have:i=g.length:=by omega
  subst this
  simp only[eG,hc,ew hall,Bool.true_and]
theorem qy {g:List Vtx}{r:Int}{i:Nat}{v:Vtx}(h:g[i]?=some v):eD (g.take (i+1)) r=if v.round==r then eD (g.take i) r++[v.author] else eD (g.take i) r:=by
 obtain⟨hl,rfl⟩:=List.getElem?_eq_some_iff.1 h
 rw[List.take_succ_eq_append_getElem hl]
 simp only[eD,List.filter_append,List.map_append,List.filter_cons,List.filter_nil]
 split<;>simp
theorem rt (g:List Vtx)(r:Int)(i:Nat):(eD (g.take i) r).length≤g.length:=by
 unfold eD
 rw[List.length_map]
 refine Nat.le_trans (List.length_filter_le _ _) ?_
 rw[List.length_take]
 omega
theorem vY (g:List Vtx)(r:Int)(hl:g.length≤2000000):aE Try.prog 51 [.lst .vtx g,.int .i64 r] [] (.ref 4) [(4,.row 3 (.int .i64) (eD g r))]:=by
 refine am az Try.func51 rfl rfl false 0 4 rfl rfl rfl rfl fun K hK hb1 hb2=>?_;simp only[av,enc,Nat.reduceAdd]
 clear hb1 hb2
 (repeat' first|refine st ?_|refine sa fun xe hxe=>?_|refine sb (fun hq=>?_) fun hq=>?_|exact True.intro)
 refine aG hK [] [0,1,5,6] (fun i:Nat=>⟨[(0,.lst .vtx g),(1,.int .i64 r),(5,.ref 4),(6,.int .i64 i)],[(4,.row 3 (.int .i64) (eD (g.take i) r))],5⟩) (fun i=>i≤g.length) (fun i=>g.length-i) 0 (by simp) rfl ?_
 intro i hi
 by_cases hlt:i<g.length
 ·have hxe:g[i]?=some g[i]:=List.getElem?_eq_getElem hlt
  have h3:=qy (r:=r) hxe
  have h4:=rt g r i
  generalize g[i]=v at *
  cases h1:v.round==r
  ·rw[h1,if_neg (by simp)] at h3
   (repeat' first|refine st ?_|refine sa fun xe hxe=>?_|refine sb (fun hq=>?_) fun hq=>?_|exact True.intro)
   exact⟨i+1,by omega,by omega,by rw[h3];rfl⟩
  ·rw[h1,if_pos rfl] at h3
   (repeat' first|refine st ?_|refine sa fun xe hxe=>?_|refine sb (fun hq=>?_) fun hq=>?_|exact True.intro)
   exact⟨i+1,by omega,by omega,by rw[h3];rfl⟩
 ·(repeat' first|refine st ?_|refine sa fun xe hxe=>?_|refine sb (fun hq=>?_) fun hq=>?_|exact True.intro)
  rw[List.take_of_length_le (by omega)]
  exact⟨rfl,rfl⟩
def tH (c:List Int)(g:List Vtx)(r:Int):List Int:=if eG c g then eD g r else[]
theorem xr (c:List Int)(g:List Vtx)(r:Int)(hl:g.length≤2000000):aE Try.prog 11 [.lst (.int .i64) c,.lst .vtx g,.int .i64 r] [] (.ref 4) [(4,.row 3 (.int .i64) (tH c g r))]:=by
 refine am az Try.func11 rfl rfl false 0 4 rfl rfl rfl rfl fun K hK hb1 hb2=>?_;simp only[av,enc,Nat.reduceAdd]
 clear hb1 hb2
 cases hg:eG c g
 ·(repeat' first|refine st ?_|refine sa fun xe hxe=>?_|refine sb (fun hq=>?_) fun hq=>?_|exact True.intro|refine cr (sj _ _) ?_)
  exact⟨rfl,by simp[tH,hg]⟩
 ·(repeat' first|refine st ?_|refine sa fun xe hxe=>?_|refine sb (fun hq=>?_) fun hq=>?_|exact True.intro|refine cr (sj _ _) ?_|refine cr (vY _ _ hl) ?_)
  exact⟨rfl,by simp[tH,hg]⟩
theorem lD (c:List Int):aE Try.prog 159 [.lst (.int .i64) c] [] (.bool (comV c)) []:=by
 refine am az Try.func159 rfl rfl false 0 4 rfl rfl rfl rfl fun K hK hb1 hb2=>?_;simp only[av,enc,Nat.reduceAdd]
 simp[ab,V.toD,bnd,aa,D.cells] at hb1
 have hno:¬(1≤c.length∧c.length≤7)→V.bool false=V.bool (comV c)∧([]:VH)=[]:=fun h=>by
  refine⟨?_,rfl⟩
  have:comV c=false:=by rw[Bool.eq_false_iff];intro h2;exact h (aT.1 h2).2
  rw[this]
 (repeat' first|refine st ?_|refine sa fun xe hxe=>?_|refine sb (fun hq=>?_) fun hq=>?_|exact True.intro)
 ·exact hno (by omega)
 ·exact hno (by omega)
 refine aG hK [] [0,13,14,15] (fun i:Nat=>⟨[(0,.lst (.int .i64) c),(13,.lst (.int .i64) c),(14,.int .i64 c.length),(15,.int .i64 i)],[],4⟩) (fun i=>i≤c.length∧∀j,j<i→fS (c.getD j 0) 1 9=true) (fun i=>c.length-i) 0 ⟨by simp,by simp⟩ rfl ?_
 rintro i ⟨hi,hall⟩
 have hno:∀x,c[i]?=some x→¬(1≤x∧x≤9)→V.bool false=V.bool (comV c)∧([]:VH)=[]:=fun x hx h=>by
  refine⟨?_,rfl⟩
  have:comV c=false:=by rw[Bool.eq_false_iff];intro h2;exact h ((aT.1 h2).1 x (List.mem_of_getElem? hx))
  rw[this]
 by_cases hlt:i<c.length
 ·have hxe:c[i]?=some c[i]:=List.getElem?_eq_getElem hlt
  have hn:=hno _ hxe
  have hy:=dm hall (p:=fun j=>fS (c.getD j 0) 1 9) (i:=i)
  simp only[bl hxe] at hy
  generalize c[i]=x at *
  (repeat' first|refine st ?_|refine sa fun xe hxe=>?_|refine sb (fun hq=>?_) fun hq=>?_|exact True.intro)
  ·exact hn (by omega)
  ·exact hn (by omega)
  ·exact⟨i+1,⟨by omega,hy (aN.2 (by omega))⟩,by omega,rfl⟩
 ·(repeat' first|refine st ?_|refine sa fun xe hxe=>?_|refine sb (fun hq=>?_) fun hq=>?_|exact True.intro)
  refine⟨?_,rfl⟩
  have:i=c.length:=by omega
  subst this
  have h1:fS c.length 1 7=true:=aN.2 (by omega)
  simp only[comV,ew hall,Bool.true_and,h1]
theorem p7 (c:List Int):aE Try.prog 100 [.lst (.int .i64) c] [] (.bool (comV c)) []:=by
 refine am az Try.func100 rfl rfl false 0 4 rfl rfl rfl rfl fun K hK hb1 hb2=>?_;simp only[av,enc,Nat.reduceAdd]
 (repeat' first|refine st ?_|refine sa fun xe hxe=>?_|refine sb (fun hq=>?_) fun hq=>?_|exact True.intro|refine cr (lD _) ?_)
 exact⟨rfl,rfl⟩
theorem wI (c:List Int)(hc:comV c=true):aE Try.prog 185 [.lst (.int .i64) c] [] (.int .i64 (nJ c)) []:=by
 have hc1:=aT.1 hc
 refine am az Try.func185 rfl rfl false 0 4 rfl rfl rfl rfl fun K hK hb1 hb2=>?_;simp only[av,enc,Nat.reduceAdd]
 clear hb1 hb2
 (repeat' first|refine st ?_|refine sa fun xe hxe=>?_|refine sb (fun hq=>?_) fun hq=>?_|exact True.intro)
 refine aG hK [] [0,3,6,7,8] (fun i:Nat=>⟨[(0,.lst (.int .i64) c),(3,.int .i64 (nJ (c.take i))),(6,.lst (.int .i64) c),(7,.int .i64 c.length),(8,.int .i64 i)],[],4⟩) (fun i=>i≤c.length) (fun i=>c.length-i) 0 (by simp) rfl ?_
 intro i hi
 have hb:=sF hc i
 by_cases hlt:i<c.length
 ·have hxe:c[i]?=some c[i]:=List.getElem?_eq_getElem hlt
  have hb2:=hc1.1 _ (List.mem_of_getElem? hxe)
  have hsn:=mz hxe
  generalize c[i]=x at *
  (repeat' first|refine st ?_|refine sa fun xe hxe=>?_|refine sb (fun hq=>?_) fun hq=>?_|exact True.intro)
  exact⟨i+1,by omega,by omega,by rw[hsn];rfl⟩
 (repeat' first|refine st ?_|refine sa fun xe hxe=>?_|refine sb (fun hq=>?_) fun hq=>?_|exact True.intro)
 rw[List.take_of_length_le (by omega)]
 exact⟨rfl,rfl⟩
theorem wj (c:List Int)(hc:comV c=true):aE Try.prog 175 [.lst (.int .i64) c] [] (.int .i64 (quo c)) []:=by
 have h1:=ol hc
 have h2:=sd hc
 have h3:(2*nJ c).tdiv 3+1=quo c:=rfl
 refine am az Try.func175 rfl rfl false 0 4 rfl rfl rfl rfl fun K hK hb1 hb2=>?_;simp only[av,enc,Nat.reduceAdd]
 (repeat' first|refine st ?_|refine sa fun xe hxe=>?_|refine sb (fun hq=>?_) fun hq=>?_|exact True.intro|refine cr (wI _ hc) ?_)
 exact⟨rfl,rfl⟩
theorem uJ (c:List Int):aE Try.prog 126 [.lst (.int .i64) c] [] (.int .i64 (if comV c then quo c else-1)) []:=by
 refine am az Try.func126 rfl rfl false 0 4 rfl rfl rfl rfl fun K hK hb1 hb2=>?_;simp only[av,enc,Nat.reduceAdd]
 cases hc:comV c
 ·(repeat' first|refine st ?_|refine sa fun xe hxe=>?_|refine sb (fun hq=>?_) fun hq=>?_|exact True.intro|refine cr (lD _) ?_)
  exact⟨rfl,rfl⟩
 ·(repeat' first|refine st ?_|refine sa fun xe hxe=>?_|refine sb (fun hq=>?_) fun hq=>?_|exact True.intro|refine cr (lD _) ?_|refine cr (wj _ hc) ?_)
  exact⟨rfl,rfl⟩
theorem dH (c:List Int)(m:Int):aE Try.prog 162 [.lst (.int .i64) c,.int .i64 m] [] (.bool (cS c m)) []:=by
 refine am az Try.func162 rfl rfl false 0 4 rfl rfl rfl rfl fun K hK hb1 hb2=>?_;simp only[av,enc,Nat.reduceAdd]
 simp[ab,V.toD,bnd,aa,D.cells] at hb1
 (repeat' first|refine st ?_|refine sa fun xe hxe=>?_|refine sb (fun hq=>?_) fun hq=>?_|exact True.intro)
 all_goals (refine⟨congrArg V.bool ?_,rfl⟩;rw[Bool.eq_iff_iff];simp only[cS,aN,decide_eq_true_eq];(try simp);omega)
theorem fK (r:Int):aE Try.prog 161 [.int .i64 r] [] (.bool (fS r 0 30)) []:=by
 refine am az Try.func161 rfl rfl false 0 4 rfl rfl rfl rfl fun K hK hb1 hb2=>?_;simp only[av,enc,Nat.reduceAdd]
 (repeat' first|refine st ?_|refine sa fun xe hxe=>?_|refine sb (fun hq=>?_) fun hq=>?_|exact True.intro)
 all_goals (refine⟨congrArg V.bool ?_,rfl⟩;rw[Bool.eq_iff_iff];simp only[aN,decide_eq_true_eq];(try simp);omega)
theorem vt (r:Int):aE Try.prog 163 [.int .i64 r] [] (.bool (fS r 0 990)) []:=by
 refine am az Try.func163 rfl rfl false 0 4 rfl rfl rfl rfl fun K hK hb1 hb2=>?_;simp only[av,enc,Nat.reduceAdd]
 (repeat' first|refine st ?_|refine sa fun xe hxe=>?_|refine sb (fun hq=>?_) fun hq=>?_|exact True.intro)
 all_goals (refine⟨congrArg V.bool ?_,rfl⟩;rw[Bool.eq_iff_iff];simp only[aN,decide_eq_true_eq];(try simp);omega)
theorem tZ (c ms:List Int):aE Try.prog 184 [.lst (.int .i64) c,.lst (.int .i64) ms] [] (.bool (dL c ms)) []:=by
 refine am az Try.func184 rfl rfl false 0 4 rfl rfl rfl rfl fun K hK hb1 hb2=>?_;simp only[av,enc,Nat.reduceAdd]
 simp[ab,V.toD,bnd,aa,D.cells] at hb1
 (repeat' first|refine st ?_|refine sa fun xe hxe=>?_|refine sb (fun hq=>?_) fun hq=>?_|exact True.intro)
 refine aG hK [] [0,1,7,8,9] (fun i:Nat=>⟨[(0,.lst (.int .i64) c),(1,.lst (.int .i64) ms),(7,.lst (.int .i64) ms),(8,.int .i64 ms.length),(9,.int .i64 i)],[],4⟩) (fun i=>i≤ms.length∧∀j,j<i→dw c ms j=true) (fun i=>ms.length-i) 0 ⟨by simp,by simp⟩ rfl ?_
 rintro i ⟨hi,hall⟩
 have hno:dw c ms i=false→i<ms.length→V.bool false=V.bool (dL c ms)∧([]:VH)=[]:=fun h1 h2=>by
  have:dL c ms=false:=fo h2 h1
  rw[this]
  exact⟨rfl,rfl⟩
 by_cases hlt:i<ms.length
 ·have hxe:ms[i]?=some ms[i]:=List.getElem?_eq_getElem hlt
  have hA:dw c ms i=(cS c ms[i] && (i==0||decide (ms.getD (i-1) 0<ms[i]))):=by simp only[dw,bl hxe]
  have hyes:dw c ms i=true→∃y,(y≤ms.length∧∀j,j<y→dw c ms j=true)∧ms.length-y<ms.length-i∧VSt.mk [(0,.lst (.int .i64) c),(1,.lst (.int .i64) ms),(7,.lst (.int .i64) ms),(8,.int .i64 ms.length),(9,.int .i64 ((i:Int)+1))] [] 4=⟨[(0,.lst (.int .i64) c),(1,.lst (.int .i64) ms),(7,.lst (.int .i64) ms),(8,.int .i64 ms.length),(9,.int .i64 (y:Int))],[],4⟩:=fun h=>⟨i+1,⟨by omega,dm hall h⟩,by omega,rfl⟩
  generalize ms[i]=m at *
  cases h1:cS c m
  ·(repeat' first|refine st ?_|refine sa fun xe hxe=>?_|refine sb (fun hq=>?_) fun hq=>?_|exact True.intro|refine cr (dH _ _) ?_)
   exact hno (by rw[hA,h1];rfl) hlt
  by_cases hi0:i=0
  ·(repeat' first|refine st ?_|refine sa fun xe hxe=>?_|refine sb (fun hq=>?_) fun hq=>?_|exact True.intro|refine cr (dH _ _) ?_)
   exact hyes (by rw[hA,h1];simp[hi0])
  ·have hye:ms[((i:Int)-1).toNat]?=some (ms.getD (i-1) 0):=by rw[show ((i:Int)-1).toNat=i-1 by omega,List.getD_eq_getElem?_getD,List.getElem?_eq_getElem (show i-1<ms.length by omega)];rfl
   generalize ms.getD (i-1) 0=u at *
   (repeat' first|refine st ?_|refine sa fun xe hxe=>?_|refine sb (fun hq=>?_) fun hq=>?_|exact True.intro|refine cr (dH _ _) ?_)
   ·exact hno (by rw[hA,h1];simp;omega) hlt
   ·exact hyes (by rw[hA,h1];simp;omega)
 ·(repeat' first|refine st ?_|refine sa fun xe hxe=>?_|refine sb (fun hq=>?_) fun hq=>?_|exact True.intro)
  refine⟨?_,rfl⟩
  have:i=ms.length:=by omega
  subst this
  have:dL c ms=true:=ew hall
  rw[this]
theorem lH (c ms:List Int):aE Try.prog 160 [.lst (.int .i64) c,.lst (.int .i64) ms] [] (.bool (comV c && dL c ms)) []:=by
 refine am az Try.func160 rfl rfl false 0 4 rfl rfl rfl rfl fun K hK hb1 hb2=>?_;simp only[av,enc,Nat.reduceAdd]
 (repeat' first|refine st ?_|refine sa fun xe hxe=>?_|refine sb (fun hq=>?_) fun hq=>?_|exact True.intro|refine cr (lD _) ?_|refine cr (tZ _ _) ?_)
 all_goals (refine⟨?_,rfl⟩;simp_all)
theorem vV (c ms:List Int)(hc:comV c=true)(hm:∀m∈ms,0≤m∧m<c.length)(hl:ms.length≤2000000):aE Try.prog 174 [.lst (.int .i64) c,.lst (.int .i64) ms] [] (.int .i64 (om c ms)) []:=by
 refine am az Try.func174 rfl rfl false 0 4 rfl rfl rfl rfl fun K hK hb1 hb2=>?_;simp only[av,enc,Nat.reduceAdd]
 clear hb1 hb2
 (repeat' first|refine st ?_|refine sa fun xe hxe=>?_|refine sb (fun hq=>?_) fun hq=>?_|exact True.intro)
 refine aG hK [] [0,1,5,8,9,10] (fun i:Nat=>⟨[(0,.lst (.int .i64) c),(1,.lst (.int .i64) ms),(5,.int .i64 (om c (ms.take i))),(8,.lst (.int .i64) ms),(9,.int .i64 ms.length),(10,.int .i64 i)],[],4⟩) (fun i=>i≤ms.length) (fun i=>ms.length-i) 0 (by simp) rfl ?_
 intro i hi
 by_cases hlt:i<ms.length
 ·have hxe:ms[i]?=some ms[i]:=List.getElem?_eq_getElem hlt
  have h1:=hm _ (List.getElem_mem hlt)
  have h2:=rU (ms:=ms.take i) hc
  have h3:=re (c:=c) hxe
  rw[List.length_take] at h2
  generalize ms[i]=m at *
  have hx2:c[m.toNat]?=some (c.getD m.toNat 0):=by rw[List.getD_eq_getElem?_getD,List.getElem?_eq_getElem (show m.toNat<c.length by omega)];rfl
  have h4:=(aT.1 hc).1 _ (List.mem_of_getElem? hx2)
  generalize c.getD m.toNat 0=x at *
  (repeat' first|refine st ?_|refine sa fun xe hxe=>?_|refine sb (fun hq=>?_) fun hq=>?_|exact True.intro)
  exact⟨i+1,by omega,by omega,by rw[h3];rfl⟩
 (repeat' first|refine st ?_|refine sa fun xe hxe=>?_|refine sb (fun hq=>?_) fun hq=>?_|exact True.intro)
 rw[List.take_of_length_le (by omega)]
 exact⟨rfl,rfl⟩
def uc (c ms:List Int):Int:=if comV c && dL c ms then om c ms else-1
theorem tS (c ms:List Int):aE Try.prog 125 [.lst (.int .i64) c,.lst (.int .i64) ms] [] (.int .i64 (uc c ms)) []:=by
 refine am az Try.func125 rfl rfl false 0 4 rfl rfl rfl rfl fun K hK hb1 hb2=>?_;simp only[av,enc,Nat.reduceAdd]
 cases hv:comV c && dL c ms
 ·(repeat' first|refine st ?_|refine sa fun xe hxe=>?_|refine sb (fun hq=>?_) fun hq=>?_|exact True.intro|refine cr (lH _ _) ?_)
  exact⟨by simp[uc,hv],rfl⟩
 ·have hc:comV c=true:=by simp_all
  have hm:dL c ms=true:=by simp_all
  have h7:=(aT.1 hc).2
  have hl:=gz hm
  (repeat' first|refine st ?_|refine sa fun xe hxe=>?_|refine sb (fun hq=>?_) fun hq=>?_|exact True.intro|refine cr (lH _ _) ?_|((with_reducible refine ig ?_);(conv=>whnf);(first|with_reducible refine ce (vV _ _ hc (fx hm) (by omega)) ?_);conv=>whnf))
  exact⟨by simp[uc,hv],rfl⟩
theorem nX (v u:Vtx):aE Try.prog 102 [eF v,eF u] [] (.bool (bef v u)) []:=by
 refine am az Try.func102 rfl rfl false 0 4 rfl rfl rfl rfl fun K hK hb1 hb2=>?_;simp only[av,enc,Nat.reduceAdd]
 (repeat' first|refine st ?_|refine sa fun xe hxe=>?_|refine sb (fun hq=>?_) fun hq=>?_|exact True.intro)
 all_goals (refine⟨?_,rfl⟩;simp_all[bef])
theorem fN (c:List Int)(v:Vtx):aE Try.prog 101 [.lst (.int .i64) c,eF v] [] (.bool (comV c && vtxS c v)) []:=by
 refine am az Try.func101 rfl rfl false 0 4 rfl rfl rfl rfl fun K hK hb1 hb2=>?_;simp only[av,enc,Nat.reduceAdd]
 simp[ab,V.toD,bnd,aa,D.cells] at hb1
 have h8:((v.parents.length:Int)==0)=(v.parents.length==0):=by rw[Bool.eq_iff_iff,beq_iff_eq,beq_iff_eq];omega
 (repeat' first|refine st ?_|refine sa fun xe hxe=>?_|refine sb (fun hq=>?_) fun hq=>?_|exact True.intro|refine cr (lH _ _) ?_|refine cr (fK _) ?_|refine cr (dH _ _) ?_|refine cr (vt _) ?_|refine cr (tS _ _) ?_|refine cr (uJ _) ?_)
 all_goals (refine⟨?_,rfl⟩;simp_all[vtxS,cS,uc])
def Θg:TT:=(148,⟨.ptr 200,1,8,some (.nilp),some (.hp 0),false⟩)::Θ
theorem cc:TT.ok Try.prog Θg:=TT.okB_ok (by kernel_rfl)
theorem iX {P Q:Prop}(h:Q)(s:Hid Q→P:=by
  intro h
  (first|(with_reducible first|apply cT|apply cL)|((first|with_reducible apply bO cc|refine go ?_|(with_reducible first|apply cE|apply cX|apply bQ|apply bM|refine bL cc eB (by kernel_rfl) ?_))<;>conv=>whnf))
  repeat(first|(with_reducible first|apply cT|apply cL)|((first|with_reducible apply bO cc|refine go ?_|(with_reducible first|apply cE|apply cX|apply bQ|apply bM|refine bL cc eB (by kernel_rfl) ?_))<;>conv=>whnf))
  exact h.h):P:=s ⟨h⟩
abbrev gZ (c:List Int)(s:GS):VH:=[(0,.fvar 200 (.nod 1) s.nodes),(1,.frow 148 (.hp 0) s.rows),(4,.vari 152 [.lst (.int .i64) c,.nils] 217 (.hp 0) s.plc [])]
abbrev xP (c:List Int)(s:GS)(x:VB):VH:=[(0,.fvar 200 (.nod 1) s.nodes),(1,.frow 148 (.hp 0) s.rows),(4,.vari 152 [.lst (.int .i64) c,.nils] 217 (.hp 0) s.plc []),(5,x)]
abbrev gR (c:List Int)(s:GS):VH:=[(0,.fvar 200 (.nod 1) s.nodes),(1,.frow 148 (.hp 0) s.rows),(4,.vari 152 [.lst (.int .i64) c,.ref 5] 217 (.hp 0) s.plc []),(5,.row 148 (.hp 0) ((List.range s.nodes.length).map some))]
abbrev x5 (c:List Int)(s:GS)(x:VB):VH:=[(0,.fvar 200 (.nod 1) s.nodes),(1,.frow 148 (.hp 0) s.rows),(4,.vari 152 [.lst (.int .i64) c,.ref 5] 217 (.hp 0) s.plc []),(5,.row 148 (.hp 0) ((List.range s.nodes.length).map some)),(6,x)]
theorem i4 {s:GS}(hs:s.plc.length=217){r a:Int}(hr:fS r 0 30=true)(ha:0≤a∧a≤6):s.plc[r.toNat * 7+a.toNat]?=some (s.at r a):=by
 have hr:=aN.1 hr
 have e:(r*7+a).toNat=r.toNat * 7+a.toNat:=by omega
 rw[GS.at,e,List.getD_eq_getElem?_getD,List.getElem?_eq_getElem (by omega)]
 rfl
def dP (s:GS)(r:Int)(n:Nat):List Int:=((List.range n).filter fun a:Nat=>fS r 0 30 && (s.at r (a:Int)).isSome).map fun a:Nat=>(a:Int)
theorem jj (s:GS)(r:Int)(n:Nat):dP s r (n+1)=if fS r 0 30 && (s.at r (n:Int)).isSome then dP s r n++[(n:Int)] else dP s r n:=by
 simp only[dP,List.range_succ,List.filter_append,List.map_append,List.filter_cons,List.filter_nil]
 split<;>simp
theorem kE (s:GS)(r:Int)(n:Nat):(dP s r n).length≤n:=by
 unfold dP
 rw[List.length_map]
 exact Nat.le_trans (List.length_filter_le _ _) (by simp)
theorem vQ (c:List Int)(s:GS)(r a:Int)(h:(fS r 0 30 && cS c a)=false):aE Try.prog 104 [.ptr 4 0,.int .i64 r,.int .i64 a] (gR c s) .nilp (gR c s):=by
 refine am cc Try.func104 rfl rfl false 2 6 rfl rfl rfl rfl fun K hK hb1 hb2=>?_;simp only[av,enc,Nat.reduceAdd]
 clear hb1 hb2
 cases h1:fS r 0 30
 ·(repeat' first|refine st ?_|refine sa fun xe hxe=>?_|refine sb (fun hq=>?_) fun hq=>?_|exact True.intro|refine cr (fK _) ?_|refine cr (dH _ _) ?_)
  exact⟨rfl,rfl⟩
 ·have h2:cS c a=false:=by simp_all
  (repeat' first|refine st ?_|refine sa fun xe hxe=>?_|refine sb (fun hq=>?_) fun hq=>?_|exact True.intro|refine cr (fK _) ?_|refine cr (dH _ _) ?_)
  exact⟨rfl,rfl⟩
theorem ib (c:List Int)(s:GS)(r a:Int)(hs:s.plc.length=217)(hc:c.length≤7)(h1:fS r 0 30=true)(h2:cS c a=true):aE Try.prog 104 [.ptr 4 0,.int .i64 r,.int .i64 a] (gR c s) (.hpo 0 (s.at r a)) (gR c s):=by
 refine am cc Try.func104 rfl rfl false 2 6 rfl rfl rfl rfl fun K hK hb1 hb2=>?_;simp only[av,enc,Nat.reduceAdd]
 clear hb1 hb2
 have hr:=aN.1 h1
 have ha:=aN.1 h2
 have hp:=i4 hs h1 (a:=a) (by omega)
 (repeat' first|refine st ?_|refine sa fun xe hxe=>?_|refine sb (fun hq=>?_) fun hq=>?_|exact True.intro|refine cr (fK _) ?_|refine cr (dH _ _) ?_)
 exact⟨rfl,rfl⟩
theorem rY (c:List Int)(s:GS)(r:Int)(hs:s.plc.length=217)(hc:c.length≤7):aE Try.prog 54 [.ptr 4 0,.int .i64 r] (gR c s) (.ref 6) (x5 c s (.row 3 (.int .i64) (dP s r c.length))):=by
 refine am cc Try.func54 rfl rfl false 2 6 rfl rfl rfl rfl fun K hK hb1 hb2=>?_;simp only[av,enc,Nat.reduceAdd]
 clear hb1 hb2
 (repeat' first|refine st ?_|refine sa fun xe hxe=>?_|refine sb (fun hq=>?_) fun hq=>?_|exact True.intro)
 refine aG hK [] [0,1,5,11,12,13] (fun i:Nat=>⟨[(0,.ptr 4 0),(1,.int .i64 r),(5,.ref 6),(11,.lst (.int .i64) c),(12,.int .i64 c.length),(13,.int .i64 i)],x5 c s (.row 3 (.int .i64) (dP s r i)),7⟩) (fun i=>i≤c.length) (fun i=>c.length-i) 0 (by simp) rfl ?_
 intro i hi
 have hsn:=jj s r i
 have hl:=kE s r i
 by_cases hlt:i<c.length
 ·have h2:cS c i=true:=aN.2 (by omega)
  cases h1:fS r 0 30
  ·rw[h1,if_neg (by simp)] at hsn
   (repeat' first|refine st ?_|refine sa fun xe hxe=>?_|refine sb (fun hq=>?_) fun hq=>?_|exact True.intro|((with_reducible refine ld ?_);(conv=>whnf);(first|with_reducible refine ce (vQ c s r i (by simp[h1])) ?_);conv=>whnf))
   exact⟨i+1,by omega,by omega,by rw[hsn];rfl⟩
  ·cases h3:s.at r i with
   |none=>
    rw[h1,h3,if_neg (by simp)] at hsn
    have h4:(s.at r i).isNone=true:=by rw[h3];rfl
    (repeat' first|refine st ?_|refine sa fun xe hxe=>?_|refine sb (fun hq=>?_) fun hq=>?_|exact True.intro|refine co (ib c s r i hs hc h1 h2) ?_)
    exact⟨i+1,by omega,by omega,by rw[hsn];rfl⟩
   |some k=>
    rw[h1,h3,if_pos (by simp)] at hsn
    have h4:(s.at r i).isNone=false:=by rw[h3];rfl
    (repeat' first|refine st ?_|refine sa fun xe hxe=>?_|refine sb (fun hq=>?_) fun hq=>?_|exact True.intro|refine co (ib c s r i hs hc h1 h2) ?_)
    exact⟨i+1,by omega,by omega,by rw[hsn];rfl⟩
 ·(repeat' first|refine st ?_|refine sa fun xe hxe=>?_|refine sb (fun hq=>?_) fun hq=>?_|exact True.intro)
  rw[show i=c.length by omega]
  exact⟨rfl,rfl⟩
theorem vA (c:List Int)(s:GS)(r a:Int)(h:(fS r 0 30 && cS c a)=false):aE Try.prog 104 [.ptr 4 0,.int .i64 r,.int .i64 a] (gZ c s) .nilp (gZ c s):=by
 refine am cc Try.func104 rfl rfl false 1 5 rfl rfl rfl rfl fun K hK hb1 hb2=>?_;simp only[av,enc,Nat.reduceAdd]
 clear hb1 hb2
 cases h1:fS r 0 30
 ·(repeat' first|refine st ?_|refine sa fun xe hxe=>?_|refine sb (fun hq=>?_) fun hq=>?_|exact True.intro|refine cr (fK _) ?_|refine cr (dH _ _) ?_)
  exact⟨rfl,rfl⟩
 ·have h2:cS c a=false:=by simp_all
  (repeat' first|refine st ?_|refine sa fun xe hxe=>?_|refine sb (fun hq=>?_) fun hq=>?_|exact True.intro|refine cr (fK _) ?_|refine cr (dH _ _) ?_)
  exact⟨rfl,rfl⟩
theorem nQ (c:List Int)(s:GS)(r a:Int)(hs:s.plc.length=217)(hc:c.length≤7)(h1:fS r 0 30=true)(h2:cS c a=true):aE Try.prog 104 [.ptr 4 0,.int .i64 r,.int .i64 a] (gZ c s) (.hpo 0 (s.at r a)) (gZ c s):=by
 refine am cc Try.func104 rfl rfl false 1 5 rfl rfl rfl rfl fun K hK hb1 hb2=>?_;simp only[av,enc,Nat.reduceAdd]
 clear hb1 hb2
 have hr:=aN.1 h1
 have ha:=aN.1 h2
 have hp:=i4 hs h1 (a:=a) (by omega)
 (repeat' first|refine st ?_|refine sa fun xe hxe=>?_|refine sb (fun hq=>?_) fun hq=>?_|exact True.intro|refine cr (fK _) ?_|refine cr (dH _ _) ?_)
 exact⟨rfl,rfl⟩
theorem tf (c:List Int)(s:GS)(r:Int)(hs:s.plc.length=217)(hc:c.length≤7):aE Try.prog 54 [.ptr 4 0,.int .i64 r] (gZ c s) (.ref 5) (xP c s (.row 3 (.int .i64) (dP s r c.length))):=by
 refine am cc Try.func54 rfl rfl false 1 5 rfl rfl rfl rfl fun K hK hb1 hb2=>?_;simp only[av,enc,Nat.reduceAdd]
 clear hb1 hb2
 (repeat' first|refine st ?_|refine sa fun xe hxe=>?_|refine sb (fun hq=>?_) fun hq=>?_|exact True.intro)
 refine aG hK [] [0,1,5,11,12,13] (fun i:Nat=>⟨[(0,.ptr 4 0),(1,.int .i64 r),(5,.ref 5),(11,.lst (.int .i64) c),(12,.int .i64 c.length),(13,.int .i64 i)],xP c s (.row 3 (.int .i64) (dP s r i)),6⟩) (fun i=>i≤c.length) (fun i=>c.length-i) 0 (by simp) rfl ?_
 intro i hi
 have hsn:=jj s r i
 have hl:=kE s r i
 by_cases hlt:i<c.length
 ·have h2:cS c i=true:=aN.2 (by omega)
  cases h1:fS r 0 30
  ·rw[h1,if_neg (by simp)] at hsn
   (repeat' first|refine st ?_|refine sa fun xe hxe=>?_|refine sb (fun hq=>?_) fun hq=>?_|exact True.intro|((with_reducible refine ld ?_);(conv=>whnf);(first|with_reducible refine ce (vA c s r i (by simp[h1])) ?_);conv=>whnf))
   exact⟨i+1,by omega,by omega,by rw[hsn];rfl⟩
  ·cases h3:s.at r i with
   |none=>
    rw[h1,h3,if_neg (by simp)] at hsn
    have h4:(s.at r i).isNone=true:=by rw[h3];rfl
    (repeat' first|refine st ?_|refine sa fun xe hxe=>?_|refine sb (fun hq=>?_) fun hq=>?_|exact True.intro|refine co (nQ c s r i hs hc h1 h2) ?_)
    exact⟨i+1,by omega,by omega,by rw[hsn];rfl⟩
   |some k=>
    rw[h1,h3,if_pos (by simp)] at hsn
    have h4:(s.at r i).isNone=false:=by rw[h3];rfl
    (repeat' first|refine st ?_|refine sa fun xe hxe=>?_|refine sb (fun hq=>?_) fun hq=>?_|exact True.intro|refine co (nQ c s r i hs hc h1 h2) ?_)
    exact⟨i+1,by omega,by omega,by rw[hsn];rfl⟩
 ·(repeat' first|refine st ?_|refine sa fun xe hxe=>?_|refine sb (fun hq=>?_) fun hq=>?_|exact True.intro)
  rw[show i=c.length by omega]
  exact⟨rfl,rfl⟩
abbrev gO (c:List Int)(s:GS):VH:=[(0,.fvar 200 (.nod 1) s.nodes),(1,.frow 148 (.hp 0) s.rows),(4,.vari 152 [.lst (.int .i64) c,.ref 6] 217 (.hp 0) s.plc []),(5,.gone),(6,.row 148 (.hp 0) ((List.range s.nodes.length).map some))]
theorem kK (s:GS)(v:Vtx):(List.range s.nodes.length).map some++[some s.nodes.length]=(List.range (bf s v).nodes.length).map some:=by
 simp[bf,List.range_succ]
theorem io (s:GS)(v:Vtx)(h:0≤v.round∧0≤v.author):s.plc.set (v.round.toNat * 7+v.author.toNat) (some s.nodes.length)=(bf s v).plc:=by
 have e:(v.round*7+v.author).toNat=v.round.toNat * 7+v.author.toNat:=by omega
 simp only[bf,e]
def gM (s:GS)(v:Vtx):Bool:=v.parents.all fun p=>(s.at (v.round-1) p).isSome
abbrev tP (v:Vtx)(n:Int)(p:V):VB:=.var 200 [.int .i64 v.round,.int .i64 v.author,.lst (.int .i64) v.parents,.int .i64 v.digest,.int .i64 n,p]
abbrev ub (s:GS)(v:Vtx)(i:Nat):VB:=.row 148 (.hp 0) ((v.parents.take i).map fun p=>s.at (v.round-1) p)
def lX (c:List Int)(s:GS)(v:Vtx):Nat→VSt
 |0=>⟨[(0,.ptr 4 0),(3,.ptr 6 0),(5,.ptr 7 0),(18,.lst (.int .i64) v.parents),(19,.int .i64 v.parents.length),(20,.int .i64 0)],gR c s++[(6,.var 85 (eF v).cells),(7,tP v s.nodes.length .nils)],8⟩
 |i+1=>⟨[(0,.ptr 4 0),(3,.ptr 6 0),(5,.ptr 7 0),(18,.lst (.int .i64) v.parents),(19,.int .i64 v.parents.length),(20,.int .i64 ((i+1:Nat):Int))],gR c s++[(6,.var 85 (eF v).cells),(7,tP v s.nodes.length (.ref 8)),(8,ub s v (i+1))],9⟩
theorem tR (c:List Int)(s:GS)(v:Vtx)(hs:s.plc.length=217)(hc:comV c=true)(hv:vtxS c v=true)(hn:s.nodes.length≤2000000):aE Try.prog 103 [.ptr 4 0,eF v] (gR c s) (.bool (gM s v)) (if gM s v then gO c (bf s v) else gR c s):=by
 have h7:=(aT.1 hc).2
 obtain⟨v1,v2,v3,v4,v5,v6⟩:=dB hv
 have hml:=gz v3
 have hmi:=fx v3
 have hrl:((List.range s.nodes.length).map some).length=s.nodes.length:=by simp
 refine am cc Try.func103 rfl rfl false 2 6 rfl rfl rfl rfl fun K hK hb1 hb2=>?_;simp only[av,enc,Nat.reduceAdd]
 clear hb1 hb2
 (repeat' first|refine iX ?_|refine sa fun xe hxe=>?_|refine sb (fun hq=>?_) fun hq=>?_|exact True.intro)
 refine aG hK [] [0,3,5,18,19,20] (lX c s v) (fun i=>i≤v.parents.length∧∀p∈v.parents.take i,(s.at (v.round-1) p).isSome=true) (fun i=>v.parents.length-i) 0 ⟨by simp,by simp⟩ (by simp only[hrl];rfl) ?_
 rintro i ⟨hi,hall⟩
 have hno:∀p∈v.parents,s.at (v.round-1) p=none→gM s v=false:=fun p hp h=>by
  rw[Bool.eq_false_iff]
  intro h2
  have:=List.all_eq_true.1 h2 p hp
  rw[h] at this
  cases this
 by_cases hlt:i<v.parents.length
 ·have hxe:v.parents[i]?=some v.parents[i]:=List.getElem?_eq_getElem hlt
  have h3:v.parents.take (i+1)=v.parents.take i++[v.parents[i]]:=List.take_succ_eq_append_getElem hlt
  have h4:v.parents[i]∈v.parents:=List.getElem_mem hlt
  have hr0:v.round≠0:=fun h=>by rw[v5 h] at hlt;simp at hlt
  have h1:fS (v.round-1) 0 30=true:=aN.2 (by omega)
  have hlk:lX c s v (i+1)=⟨[(0,.ptr 4 0),(3,.ptr 6 0),(5,.ptr 7 0),(18,.lst (.int .i64) v.parents),(19,.int .i64 v.parents.length),(20,.int .i64 ((i+1:Nat):Int))],gR c s++[(6,.var 85 (eF v).cells),(7,tP v s.nodes.length (.ref 8)),(8,.row 148 (.hp 0) (((v.parents.take i).map fun p=>s.at (v.round-1) p)++[s.at (v.round-1) v.parents[i]]))],9⟩:=by
   rw[lX,ub,h3,List.map_append];rfl
  generalize v.parents[i]=p at *
  have h2:cS c p=true:=aN.2 (by have:=hmi p h4;omega)
  have hl2:((v.parents.take i).map fun p=>s.at (v.round-1) p).length=i:=by rw[List.length_map,List.length_take];omega
  cases h5:s.at (v.round-1) p with
  |none=>
   have hin:(s.at (v.round-1) p).isNone=true:=by rw[h5];rfl
   have hnn:=hno p h4 h5
   cases i with
   |zero=>
    have hx0:v.parents[(0:Int).toNat]?=some p:=hxe
    unfold lX
    (repeat' first|refine iX ?_|refine sa fun xe hxe=>?_|refine sb (fun hq=>?_) fun hq=>?_|exact True.intro|refine co (ib c s (v.round-1) p hs h7.2 h1 h2) ?_)
    exact⟨by rw[hnn],by rw[hnn];rfl⟩
   |succ i=>
    unfold lX
    (repeat' first|refine iX ?_|refine sa fun xe hxe=>?_|refine sb (fun hq=>?_) fun hq=>?_|exact True.intro|refine co (ib c s (v.round-1) p hs h7.2 h1 h2) ?_)
    exact⟨by rw[hnn],by rw[hnn];rfl⟩
  |some k=>
   have hin:(s.at (v.round-1) p).isNone=false:=by rw[h5];rfl
   cases i with
   |zero=>
    have hx0:v.parents[(0:Int).toNat]?=some p:=hxe
    unfold lX
    (repeat' first|refine iX ?_|refine sa fun xe hxe=>?_|refine sb (fun hq=>?_) fun hq=>?_|exact True.intro|refine co (ib c s (v.round-1) p hs h7.2 h1 h2) ?_)
    refine⟨0+1,⟨by omega,by rw[h3];exact gw hall (by rw[h5];rfl)⟩,by omega,?_⟩
    refine Eq.trans ?_ hlk.symm
    rfl
   |succ i=>
    unfold lX
    simp only[ub]
    generalize (List.map (fun p=>s.at (v.round-1) p) (List.take (i+1) v.parents))=ps at *
    (repeat' first|refine iX ?_|refine sa fun xe hxe=>?_|refine sb (fun hq=>?_) fun hq=>?_|exact True.intro|refine co (ib c s (v.round-1) p hs h7.2 h1 h2) ?_)
    refine⟨i+1+1,⟨by omega,by rw[h3];exact gw hall (by rw[h5];rfl)⟩,by omega,?_⟩
    refine Eq.trans ?_ hlk.symm
    rfl
 ·rw[List.take_of_length_le (by omega)] at hall
  have hy:gM s v=true:=List.all_eq_true.2 hall
  have hpl:=i4 hs (aN.2 v1) (a:=v.author) (by omega)
  cases i with
  |zero=>
   unfold lX
   simp only[gR]
   generalize hnr:(List.map some (List.range s.nodes.length))=nr at *
   (repeat' first|refine iX ?_|refine sa fun xe hxe=>?_|refine sb (fun hq=>?_) fun hq=>?_|exact True.intro)
   rw[hy]
   refine⟨rfl,?_⟩
   have e1:=kK s v
   have e2:=io s v ⟨v1.1,v2.1⟩
   simp only[if_true,gO]
   rw[←e1,←e2,hnr]
   have e3:v.parents=[]:=List.length_eq_zero_iff.1 (by omega)
   have e4:(bf s v).nodes=s.nodes++[⟨v,s.nodes.length,none⟩]:=by simp[bf,e3]
   have e5:(bf s v).rows=s.rows:=by simp[bf,e3]
   rw[e4,e5]
  |succ i=>
   unfold lX
   simp only[ub]
   generalize hps:(List.map (fun p=>s.at (v.round-1) p) (List.take (i+1) v.parents))=ps at *
   simp only[gR]
   generalize hnr:(List.map some (List.range s.nodes.length))=nr at *
   (repeat' first|refine iX ?_|refine sa fun xe hxe=>?_|refine sb (fun hq=>?_) fun hq=>?_|exact True.intro)
   rw[hy]
   refine⟨rfl,?_⟩
   have e1:=kK s v
   have e2:=io s v ⟨v1.1,v2.1⟩
   simp only[if_true,gO]
   rw[←e1,←e2,hnr]
   have e3:v.parents≠[]:=fun h=>by rw[h] at hi;simp at hi
   rw[List.take_of_length_le (by omega)] at hps
   simp only[bf,e3,if_false,hps]
theorem rg (r a:Int):fR.at r a=none:=by
 simp only[fR,GS.at,List.getD_eq_getElem?_getD,List.getElem?_replicate]
 split<;>rfl
theorem wY (v:Vtx):gM fR v=v.parents.isEmpty:=by
 unfold gM
 cases v.parents with
 |nil=>rfl
 |cons p l=>simp[rg]
theorem uq (c:List Int)(v:Vtx)(hc:comV c=true)(hv:vtxS c v=true):aE Try.prog 103 [.ptr 4 0,eF v] (gZ c fR) (.bool (gM fR v)) (if gM fR v then gR c (bf fR v) else gZ c fR):=by
 have h7:=(aT.1 hc).2
 have hs:fR.plc.length=217:=List.length_replicate
 obtain⟨v1,v2,v3,v4,v5,v6⟩:=dB hv
 have hmi:=fx v3
 refine am cc Try.func103 rfl rfl false 1 5 rfl rfl rfl rfl fun K hK hb1 hb2=>?_;simp only[av,enc,Nat.reduceAdd]
 clear hb1 hb2
 (repeat' first|refine iX ?_|refine sa fun xe hxe=>?_|refine sb (fun hq=>?_) fun hq=>?_|exact True.intro)
 refine aG hK [] [0,3,5,18,19,20] (fun i:Nat=>⟨[(0,.ptr 4 0),(3,.ptr 5 0),(5,.ptr 6 0),(18,.lst (.int .i64) v.parents),(19,.int .i64 v.parents.length),(20,.int .i64 0)],gZ c fR++[(5,.var 85 (eF v).cells),(6,tP v 0 .nils)],7⟩) (fun i=>i=0) (fun i=>i) 0 rfl (by simp only[List.length_nil];rfl) ?_
 rintro i rfl
 have hy:=wY v
 by_cases hlt:0<v.parents.length
 ·have hxe:v.parents[0]?=some v.parents[0]:=List.getElem?_eq_getElem hlt
  have h4:v.parents[0]∈v.parents:=List.getElem_mem hlt
  have hr0:v.round≠0:=fun h=>by rw[v5 h] at hlt;simp at hlt
  have h1:fS (v.round-1) 0 30=true:=aN.2 (by omega)
  have hne:v.parents.isEmpty=false:=by cases h:v.parents with|nil=>rw[h] at hlt;simp at hlt|cons _ _=>rfl
  rw[hne] at hy
  rw[hy]
  generalize v.parents[0]=p at *
  have h2:cS c p=true:=aN.2 (by have:=hmi p h4;omega)
  have hx0:v.parents[(0:Int).toNat]?=some p:=hxe
  have hin:(fR.at (v.round-1) p).isNone=true:=by rw[rg];rfl
  (repeat' first|refine iX ?_|refine sa fun xe hxe=>?_|refine sb (fun hq=>?_) fun hq=>?_|exact True.intro|refine co (nQ c fR (v.round-1) p hs h7.2 h1 h2) ?_)
  exact⟨rfl,rfl⟩
 ·have e3:v.parents=[]:=List.length_eq_zero_iff.1 (by omega)
  have hem:v.parents.isEmpty=true:=by rw[e3];rfl
  rw[hem] at hy
  rw[hy]
  have hpl:=i4 hs (aN.2 v1) (a:=v.author) (by omega)
  have e2:=io fR v ⟨v1.1,v2.1⟩
  have e4:(bf fR v).nodes=[⟨v,0,none⟩]:=by simp[bf,e3,fR]
  have e5:(bf fR v).rows=[]:=by simp[bf,e3,fR]
  simp only[if_true,gR]
  rw[←e2,e4,e5]
  (repeat' first|refine iX ?_|refine sa fun xe hxe=>?_|refine sb (fun hq=>?_) fun hq=>?_|exact True.intro)
  exact⟨rfl,rfl⟩
theorem tM {c:List Int}{g:List Vtx}{v:Vtx}(hc:comV c=true)(hg:∀u∈g,vtxS c u=true)(hv:vtxS c v=true):gM (gy g) v=parOK g v:=by
 obtain⟨v1,v2,v3,v4,v5,v6⟩:=dB hv
 have h7:=(aT.1 hc).2
 unfold gM parOK
 rw[Bool.eq_iff_iff,List.all_eq_true,List.all_eq_true]
 have key:∀p∈v.parents,((gy g).at (v.round-1) p).isSome=fF g (v.round-1) p:=by
  intro p hp
  have hr0:v.round≠0:=fun h=>by rw[v5 h] at hp;cases hp
  have:=fx v3 p hp
  exact(sw (fun u hu=>nx hc (hg u hu)) (by omega) (by omega)).1
 constructor
 ·intro h p hp;rw[←key p hp];exact h p hp
 ·intro h p hp;rw[key p hp];exact h p hp
def tO (c:List Int)(g:List Vtx):Nat→VSt
 |0=>⟨[(0,.lst (.int .i64) c),(1,.lst .vtx g),(6,.ptr 4 0),(15,.lst .vtx g),(16,.int .i64 g.length),(17,.int .i64 0)],gZ c fR,5⟩
 |i+1=>⟨[(0,.lst (.int .i64) c),(1,.lst .vtx g),(6,.ptr 4 0),(15,.lst .vtx g),(16,.int .i64 g.length),(17,.int .i64 ((i+1:Nat):Int))],gR c (gy (g.take (i+1))),6⟩
def gF (c:List Int)(g:List Vtx):VH:=match g with|[]=>gZ c fR|v::l=>gR c (gy (v::l))
def vj (c:List Int)(g:List Vtx):V:=if eG c g then .tup [.ptr 4 0,.bool true] else .tup [.nilp,.bool false]
def u6 (c:List Int)(g:List Vtx):VH:=if eG c g then gF c g else[]
theorem uN {c:List Int}{g:List Vtx}{i:Nat}(hi:i<g.length)(h:cx c g i=false):eG c g=false:=by
 unfold eG
 rw[←pX,fo hi h,Bool.and_false]
theorem tc {c:List Int}{g:List Vtx}{i:Nat}(h:∀j,j<i→cx c g j=true):∀u∈g.take i,vtxS c u=true:=by
 intro u hu
 obtain⟨j,hj,rfl⟩:=gG (d:=v0) hu
 rw[List.length_take] at hj
 have:=h j (by omega)
 simp only[cx,Bool.and_eq_true] at this
 rw[show (g.take i).getD j v0=g.getD j v0 by simp only[List.getD_eq_getElem?_getD,List.getElem?_take,if_pos (show j<i by omega)]]
 exact this.1
theorem wG (c:List Int)(g:List Vtx)(hl:g.length≤2000000):aE Try.prog 53 [.lst (.int .i64) c,.lst .vtx g] [] (vj c g) (u6 c g):=by
 have hbad:eG c g=false→V.tup [.nilp,.bool false]=vj c g∧([]:VH)=u6 c g:=fun h=>by simp[vj,u6,h]
 refine am cc Try.func53 rfl rfl false 0 4 rfl rfl rfl rfl fun K hK hb1 hb2=>?_;simp only[av,enc,Nat.reduceAdd]
 clear hb1 hb2
 cases hc:comV c
 ·(repeat' first|refine iX ?_|refine sa fun xe hxe=>?_|refine sb (fun hq=>?_) fun hq=>?_|exact True.intro|refine cr (p7 _) ?_)
  exact hbad (by simp[eG,hc])
 (repeat' first|refine iX ?_|refine sa fun xe hxe=>?_|refine sb (fun hq=>?_) fun hq=>?_|exact True.intro|refine cr (p7 _) ?_)
 refine vM 4 2 217 (.hp 0) ?_
 ((conv=>whnf);refine xo (by kernel_rfl) ?_;(conv=>whnf))
 refine n7 0 (.fvar 200 (.nod 1) []) rfl ?_
 refine n7 1 (.frow 148 (.hp 0) []) rfl ?_
 refine aG hK [] [0,1,6,15,16,17] (tO c g) (fun i=>i≤g.length∧∀j,j<i→cx c g j=true) (fun i=>g.length-i) 0 ⟨by simp,by simp⟩ rfl ?_
 rintro i ⟨hi,hall⟩
 by_cases hlt:i<g.length
 ·have hxe:g[i]?=some g[i]:=List.getElem?_eq_getElem hlt
  have hA:cx c g i=(vtxS c g[i] && ((i==0||bef (g.getD (i-1) v0) g[i]) && parOK (g.take i) g[i])):=by simp only[cx,bl hxe]
  have hno:cx c g i=false→V.tup [.nilp,.bool false]=vj c g∧([]:VH)=u6 c g:=fun h=>hbad (uN hlt h)
  have hgs:gy (g.take (i+1))=bf (gy (g.take i)) g[i]:=by rw[List.take_succ_eq_append_getElem hlt,jh]
  have hgv:=tc hall
  have hys:cx c g i=true→∀j,j<i+1→cx c g j=true:=fun h=>dm hall h
  generalize g[i]=v at *
  cases h1:vtxS c v
  ·have h2:(comV c && vtxS c v)=false:=by simp[h1]
   cases i with
   |zero=>
    have hx0:g[(0:Int).toNat]?=some v:=hxe
    unfold tO
    (repeat' first|refine iX ?_|refine sa fun xe hxe=>?_|refine sb (fun hq=>?_) fun hq=>?_|exact True.intro|refine cr (fN _ _) ?_)
    exact hno (by simp[hA,h1])
   |succ i=>
    unfold tO
    (repeat' first|refine iX ?_|refine sa fun xe hxe=>?_|refine sb (fun hq=>?_) fun hq=>?_|exact True.intro|refine cr (fN _ _) ?_)
    exact hno (by simp[hA,h1])
  have h2:(comV c && vtxS c v)=true:=by simp[h1,hc]
  have hpe:=tM hc hgv h1
  cases i with
  |zero=>
   have hx0:g[(0:Int).toNat]?=some v:=hxe
   have hL:=uq c v hc h1
   have hpe:gM fR v=parOK (g.take 0) v:=hpe
   have hf1:aR (VB.fvar 200 (.nod 1) fR.nodes)≤aR (VB.fvar 200 (.nod 1) (bf fR v).nodes):=Nat.zero_le _
   have hf2:aR (VB.frow 148 (.hp 0) fR.rows)≤aR (VB.frow 148 (.hp 0) (bf fR v).rows):=Nat.zero_le _
   cases h3:gM fR v
   ·rw[h3] at hL
    simp only[Bool.false_eq_true,if_false] at hL
    unfold tO
    (repeat' first|refine iX ?_|refine sa fun xe hxe=>?_|refine sb (fun hq=>?_) fun hq=>?_|exact True.intro|refine cr (fN _ _) ?_|refine co (hL) ?_)
    exact hno (by rw[hA,←hpe,h3];simp)
   ·rw[h3] at hL
    simp only[if_true] at hL
    unfold tO
    (repeat' first|refine iX ?_|refine sa fun xe hxe=>?_|refine sb (fun hq=>?_) fun hq=>?_|exact True.intro|refine cr (fN _ _) ?_|refine co (hL) ?_)
    refine⟨0+1,⟨by omega,hys (by rw[hA,←hpe,h3,h1];simp)⟩,by omega,?_⟩
    show _=VSt.mk _ (gR c (gy (g.take (0+1)))) _
    rw[hgs]
    rfl
  |succ i=>
   have hgl:(gy (g.take (i+1))).nodes.length≤2000000:=by rw[(i5 _).1,List.length_take];omega
   have hL:=tR c (gy (g.take (i+1))) v (i5 _).2 hc h1 hgl
   have hye:g[(((i+1:Nat):Int)-1).toNat]?=some (g.getD (i+1-1) v0):=by rw[show (((i+1:Nat):Int)-1).toNat=i by omega,List.getD_eq_getElem?_getD,List.getElem?_eq_getElem (show i<g.length by omega)];simp only[Nat.add_sub_cancel,List.getElem?_eq_getElem (show i<g.length by omega)];rfl
   generalize g.getD (i+1-1) v0=u at *
   have hst:tO c g (i+1)=⟨[(0,.lst (.int .i64) c),(1,.lst .vtx g),(6,.ptr 4 0),(15,.lst .vtx g),(16,.int .i64 g.length),(17,.int .i64 ((i+1:Nat):Int))],gR c (gy (g.take (i+1))),6⟩:=rfl
   rw[hst]
   clear hst
   generalize gy (g.take (i+1))=s at *
   have hf1:aR (VB.fvar 200 (.nod 1) s.nodes)≤aR (VB.fvar 200 (.nod 1) (bf s v).nodes):=by simp[aR,bf]
   have hf2:aR (VB.frow 148 (.hp 0) s.rows)≤aR (VB.frow 148 (.hp 0) (bf s v).rows):=by simp only[aR,bf];split<;>simp
   cases h4:bef u v
   ·(repeat' first|refine iX ?_|refine sa fun xe hxe=>?_|refine sb (fun hq=>?_) fun hq=>?_|exact True.intro|refine cr (fN _ _) ?_|refine cr (nX _ _) ?_)
    exact hno (by simp[hA,h1,h4])
   cases h3:gM s v
   ·rw[h3] at hL
    simp only[Bool.false_eq_true,if_false] at hL
    (repeat' first|refine iX ?_|refine sa fun xe hxe=>?_|refine sb (fun hq=>?_) fun hq=>?_|exact True.intro|refine cr (fN _ _) ?_|refine cr (nX _ _) ?_|refine co (hL) ?_)
    exact hno (by rw[hA,←hpe,h3];simp)
   ·rw[h3] at hL
    simp only[if_true] at hL
    (repeat' first|refine iX ?_|refine sa fun xe hxe=>?_|refine sb (fun hq=>?_) fun hq=>?_|exact True.intro|refine cr (fN _ _) ?_|refine cr (nX _ _) ?_|refine co (hL) ?_)
    refine⟨i+1+1,⟨by omega,hys (by rw[hA,←hpe,h3,h1,h4];simp)⟩,by omega,?_⟩
    show _=VSt.mk _ (gR c (gy (g.take (i+1+1)))) _
    rw[hgs]
    rfl
 ·have hg:eG c g=true:=by
   unfold eG
   rw[hc,←pX,ew (fun j hj=>hall j (by omega))]
   rfl
  have e1:vj c g= .tup [.ptr 4 0,.bool true]:=by simp[vj,hg]
  have e2:u6 c g=gF c g:=by simp[u6,hg]
  rw[e1,e2]
  cases i with
  |zero=>
   have e3:g=[]:=List.length_eq_zero_iff.1 (by omega)
   subst e3
   unfold tO
   (repeat' first|refine iX ?_|refine sa fun xe hxe=>?_|refine sb (fun hq=>?_) fun hq=>?_|exact True.intro)
   exact⟨rfl,rfl⟩
  |succ i=>
   have hst:tO c g (i+1)=⟨[(0,.lst (.int .i64) c),(1,.lst .vtx g),(6,.ptr 4 0),(15,.lst .vtx g),(16,.int .i64 g.length),(17,.int .i64 ((i+1:Nat):Int))],gR c (gy g),6⟩:=by rw[tO,List.take_of_length_le (by omega)]
   rw[hst]
   cases g with
   |nil=>simp at hi
   |cons w g=>
    (repeat' first|refine iX ?_|refine sa fun xe hxe=>?_|refine sb (fun hq=>?_) fun hq=>?_|exact True.intro)
    exact⟨rfl,rfl⟩
theorem qW {c:List Int}{g:List Vtx}(h:GraOK c g)(r:Int):dP (gy g) r c.length=eD g r:=by
 rw[←rT h r]
 unfold dP qc
 congr 1
 refine List.filter_congr fun a ha=>?_
 have h7:=(aT.1 h.com).2
 have ha:=List.mem_range.1 ha
 cases h1:fS r 0 30
 ·rw[Bool.false_and]
  symm
  rw[Bool.eq_false_iff]
  intro h2
  obtain⟨v,hv,hr,-⟩:=cK.1 h2
  have:=(dB (h.vtx v hv)).1
  rw[hr] at this
  rw[aN.2 this] at h1
  cases h1
 ·rw[Bool.true_and]
  exact(sw (fun u hu=>nx h.com (h.vtx u hu)) (aN.1 h1) (by omega)).1
theorem w5 (c:List Int)(g:List Vtx)(r:Int)(hl:g.length≤2000000):aE Try.prog 14 [.lst (.int .i64) c,.lst .vtx g,.int .i64 r] [] (.ref 4) [(4,.row 3 (.int .i64) (tH c g r))]:=by
 have hL:=wG c g hl
 refine am cc Try.func14 rfl rfl false 0 4 rfl rfl rfl rfl fun K hK hb1 hb2=>?_;simp only[av,enc,Nat.reduceAdd]
 clear hb1 hb2
 cases hg:eG c g
 ·simp only[vj,u6,hg,Bool.false_eq_true,if_false] at hL
  (repeat' first|refine iX ?_|refine sa fun xe hxe=>?_|refine sb (fun hq=>?_) fun hq=>?_|exact True.intro|refine cr (hL) ?_)
  exact⟨rfl,by simp[tH,hg]⟩
 ·have hok:=pj hg
  have h7:=(aT.1 hok.com).2
  simp only[vj,u6,hg,if_true] at hL
  have e:tH c g r=eD g r:=by simp[tH,hg]
  rw[e,←qW hok r]
  cases g with
  |nil=>
   have hz:aE Try.prog 54 [.ptr 4 0,.int .i64 r] (gZ c fR) (.ref 5) (xP c fR (.row 3 (.int .i64) (dP (gy []) r c.length))):=tf c fR r List.length_replicate h7.2
   (repeat' first|refine iX ?_|refine sa fun xe hxe=>?_|refine sb (fun hq=>?_) fun hq=>?_|exact True.intro|refine cr (hL) ?_|refine co (hz) ?_)
   exact⟨rfl,rfl⟩
  |cons v g=>
   (repeat' first|refine iX ?_|refine sa fun xe hxe=>?_|refine sb (fun hq=>?_) fun hq=>?_|exact True.intro|refine cr (hL) ?_|refine co (rY c (gy (v::g)) r (i5 _).2 h7.2) ?_)
   exact⟨rfl,rfl⟩
end Go.Proofs.Ytdjplfikgepddaa.Am
namespace Go.Proofs.Ytdjplfikgepddaa.Am
open Go
attribute [local irreducible] Mk bJ Ari eC tI l8 dz km iR oZ At aE
set_option maxRecDepth 10000
def Θw:TT:=(162,⟨.ptr 208,1,8,some (.nilp),some (.hp 0),false⟩)::(107,⟨.struct [(85,0,4),(22,4,1)],5,72,some (.agg [.int .i64 0,.int .i64 0,.nils,.int .i64 0,.nils]),some (.pplm 1),false⟩)::Θ
theorem lA:TT.ok Try.prog Θw:=TT.okB_ok (by kernel_rfl)
theorem yb {P Q:Prop}(h:Q)(s:Hid Q→P:=by
  intro h
  (first|(with_reducible first|apply cT|apply cL)|((first|with_reducible apply bO lA|refine go ?_|(with_reducible first|apply cE|apply cX|apply bQ|apply bM|refine bL lA eB (by kernel_rfl) ?_))<;>conv=>whnf))
  repeat(first|(with_reducible first|apply cT|apply cL)|((first|with_reducible apply bO lA|refine go ?_|(with_reducible first|apply cE|apply cX|apply bQ|apply bM|refine bL lA eB (by kernel_rfl) ?_))<;>conv=>whnf))
  exact h.h):P:=s ⟨h⟩
end Go.Proofs.Ytdjplfikgepddaa.Am
namespace Go.Proofs.Ytdjplfikgepddaa.Am
open Go
attribute [local irreducible] Mk bJ Ari eC tI l8 dz km iR oZ At aE
set_option maxRecDepth 10000
theorem lV {α:Type}{a b:List α}{i:Nat}{x:α}(h:a.take i=b.take i)(ha:a[i]?=some x)(hb:b[i]?=some x):a.take (i+1)=b.take (i+1):=by
 rw[List.take_add_one,List.take_add_one,h,ha,hb]
theorem sr (a b:List Int):aE Try.prog 15 [.lst (.int .i64) a,.lst (.int .i64) b] [] (.bool (decide (a=b))) []:=by
 refine am az Try.func15 rfl rfl false 0 4 rfl rfl rfl rfl fun K hK hb1 hb2=>?_;simp only[av,enc,Nat.reduceAdd]
 simp[ab,V.toD,bnd,aa,D.cells] at hb1
 by_cases hl:a.length=b.length
 ·(repeat' first|refine st ?_|refine sa fun xe hxe=>?_|refine sb (fun hq=>?_) fun hq=>?_|exact True.intro)
  refine aG hK [] [0,1,4,5] (fun i:Nat=>⟨[(0,.lst (.int .i64) a),(1,.lst (.int .i64) b),(4,.bool false),(5,.int .i64 i)],[],4⟩) (fun i=>i≤a.length∧a.take i=b.take i) (fun i=>a.length-i) 0 ⟨by simp,by simp⟩ rfl ?_
  rintro i ⟨hi,hall⟩
  by_cases hlt:i<a.length
  ·obtain⟨x,hx⟩:∃x,a[i]?=some x:=⟨_,List.getElem?_eq_getElem hlt⟩
   obtain⟨y,hy⟩:∃y,b[i]?=some y:=⟨_,List.getElem?_eq_getElem (by omega)⟩
   (repeat' first|refine st ?_|refine sa fun xe hxe=>?_|refine sb (fun hq=>?_) fun hq=>?_|exact True.intro)
   ·have hne:¬x=y:=hq
    exact⟨by rw[decide_eq_false];rintro rfl;rw[hx] at hy;exact hne (Option.some.inj hy),rfl⟩
   ·subst hq
    exact⟨i+1,⟨by omega,lV hall hx hy⟩,by omega,rfl⟩
  ·(repeat' first|refine st ?_|refine sa fun xe hxe=>?_|refine sb (fun hq=>?_) fun hq=>?_|exact True.intro)
   have hab:a=b:=by rwa [List.take_of_length_le (by omega),List.take_of_length_le (by omega)] at hall
   exact⟨by rw[decide_eq_true hab],rfl⟩
 ·(repeat' first|refine st ?_|refine sa fun xe hxe=>?_|refine sb (fun hq=>?_) fun hq=>?_|exact True.intro)
  exact⟨by rw[decide_eq_false];rintro rfl;exact hl rfl,rfl⟩
theorem e8 {α:Type}(c:List α)(a:List α)(x:α){i:Nat}(hc:c.length=i)(hi:i<a.length):(c++a.drop i).set i x=(c++[x])++a.drop (i+1):=by
 rw[List.set_append_right _ _ (by omega),hc,Nat.sub_self,List.drop_eq_getElem_cons hi]
 simp only[List.set_cons_zero,List.append_assoc,List.singleton_append]
theorem jZ {α:Type}(c:List α)(a:List α){i:Nat}(hc:c.length=i)(hi:i<a.length):i<(c++a.drop i).length:=by simp;omega
theorem tB (a:List Int)(l:Int)(hl:0≤l∧l≤1048576):aE Try.prog 67 [.lst (.int .i64) a,.int .i64 l] [] (.int .i64 (if l-a.length<0 then-1 else l-a.length)) []:=by
 refine am az Try.func67 rfl rfl false 0 4 rfl rfl rfl rfl fun K hK hb1 hb2=>?_;simp only[av,enc,Nat.reduceAdd]
 simp[ab,V.toD,bnd,aa,D.cells] at hb1
 by_cases h:l-a.length<0
 ·(repeat' first|refine st ?_|refine sa fun xe hxe=>?_|refine sb (fun hq=>?_) fun hq=>?_|exact True.intro)
  exact⟨by rw[if_pos h],rfl⟩
 ·(repeat' first|refine st ?_|refine sa fun xe hxe=>?_|refine sb (fun hq=>?_) fun hq=>?_|exact True.intro)
  exact⟨by rw[if_neg h],rfl⟩
theorem e9 (a:List Int)(ha:a.length≤1048576):aE Try.prog 12 [.lst (.int .i64) a] [] (.ref 4) [(4,.row 3 (.int .i64) a)]:=by
 refine am az Try.func12 rfl rfl false 0 4 rfl rfl rfl rfl fun K hK hb1 hb2=>?_;simp only[av,enc,Nat.reduceAdd]
 (repeat' first|refine st ?_|refine sa fun xe hxe=>?_|refine sb (fun hq=>?_) fun hq=>?_|exact True.intro)
 refine aG hK [] [0,3,4] (fun i:Nat=>⟨[(0,.lst (.int .i64) a),(3,.ref 4),(4,.int .i64 i)],[(4,.row 3 (.int .i64) (a.take i++(List.replicate a.length 0).drop i))],5⟩) (fun i=>i≤a.length) (fun i=>a.length-i) 0 (by simp) (by simp;rfl) ?_
 intro i hi
 by_cases hlt:i<a.length
 ·have hx:a[i]?=some a[i]:=List.getElem?_eq_getElem hlt
  have hg:i<(a.take i++(List.replicate a.length (0:Int)).drop i).length:=jZ _ _ (by simp;omega) (by simpa using hlt)
  have hs:(a.take i++(List.replicate a.length (0:Int)).drop i).set i a[i]=a.take (i+1)++(List.replicate a.length 0).drop (i+1):=by
   rw[e8 _ _ _ (by simp;omega) (by simpa using hlt),List.take_succ_eq_append_getElem hlt]
  generalize hrow:a.take i++(List.replicate a.length (0:Int)).drop i=row at *
  generalize a[i]=x at *
  (repeat' first|refine st ?_|refine sa fun xe hxe=>?_|refine sb (fun hq=>?_) fun hq=>?_|exact True.intro)
  refine⟨i+1,by omega,by omega,?_⟩
  rw[←hs]
  rfl
 ·obtain rfl:i=a.length:=by omega
  (repeat' first|refine st ?_|refine sa fun xe hxe=>?_|refine sb (fun hq=>?_) fun hq=>?_|exact True.intro)
  simp
theorem nI (a:List Int):aE Try.prog 15 [.lst (.int .i64) a,.lst (.int .i64) a] [] (.bool true) []:=by
 have:=sr a a
 simpa using this
def u7 (l:Int)(n:Nat):Int:=if l-n<0 then-1 else l-n
theorem oS (v:Vtx)(l:Int)(hl:0≤l∧l≤1048576):aE Try.prog 49 [eF v,.int .i64 l] [] (.int .i64 (u7 l v.parents.length)) []:=by
 have hc:=tB v.parents l hl
 refine am az Try.func49 rfl rfl false 0 4 rfl rfl rfl rfl fun K hK hb1 hb2=>?_;simp only[av,enc,Nat.reduceAdd]
 unfold u7
 by_cases h:l-v.parents.length<0
 ·rw[if_pos h] at hc
  (repeat' first|refine st ?_|refine sa fun xe hxe=>?_|refine sb (fun hq=>?_) fun hq=>?_|exact True.intro|refine cr (hc) ?_)
  exact⟨by rw[if_pos h],rfl⟩
 ·rw[if_neg h] at hc
  (repeat' first|refine st ?_|refine sa fun xe hxe=>?_|refine sb (fun hq=>?_) fun hq=>?_|exact True.intro|refine cr (hc) ?_)
  exact⟨by rw[if_neg h],rfl⟩
def da (g:List Vtx):Nat:=(g.map fun v=>v.parents.length).sum
theorem kM {g:List Vtx}{i:Nat}{v:Vtx}(h:g[i]?=some v):da (g.take (i+1))=da (g.take i)+v.parents.length:=by
 obtain⟨hl,rfl⟩:=List.getElem?_eq_some_iff.1 h
 rw[List.take_succ_eq_append_getElem hl]
 unfold da
 rw[List.map_append,List.sum_append]
 simp
theorem s6 (a b:List Vtx):da (a++b)=da a+da b:=by unfold da;rw[List.map_append,List.sum_append]
theorem pt (g:List Vtx)(i:Nat):da (g.take i)≤da g:=by
 have:=s6 (g.take i) (g.drop i)
 rw[List.take_append_drop] at this
 omega
theorem mY (g:List Vtx)(l:Int)(hl:0≤l∧l≤1048576):aE Try.prog 10 [.lst .vtx g,.int .i64 l] [] (.int .i64 (u7 l (g.length+da g))) []:=by
 refine am az Try.func10 rfl rfl false 0 4 rfl rfl rfl rfl fun K hK hb1 hb2=>?_;simp only[av,enc,Nat.reduceAdd]
 simp[ab,V.toD,bnd,aa,D.cells] at hb1
 have hno:l-g.length-da g<0→V.int .i64 (-1)=V.int .i64 (u7 l (g.length+da g))∧([]:VH)=[]:=fun h=>⟨by rw[u7,if_pos (by omega)],rfl⟩
 by_cases h0:l-g.length<0
 ·(repeat' first|refine st ?_|refine sa fun xe hxe=>?_|refine sb (fun hq=>?_) fun hq=>?_|exact True.intro)
  exact hno (by omega)
 (repeat' first|refine st ?_|refine sa fun xe hxe=>?_|refine sb (fun hq=>?_) fun hq=>?_|exact True.intro)
 refine aG hK [] [0,1,5] (fun i:Nat=>⟨[(0,.lst .vtx g),(1,.int .i64 (l-g.length-da (g.take i))),(5,.int .i64 i)],[],4⟩) (fun i=>i≤g.length∧0≤l-g.length-da (g.take i)) (fun i=>g.length-i) 0 ⟨by simp,by simp[da];omega⟩ (by simp[da];rfl) ?_
 rintro i ⟨hi,hp⟩
 by_cases hlt:i<g.length
 ·have hxe:g[i]?=some g[i]:=List.getElem?_eq_getElem hlt
  have h3:=kM hxe
  have h4:=pt g (i+1)
  generalize g[i]=v at *
  have hc:=oS v (l-g.length-da (g.take i)) (by omega)
  unfold u7 at hc
  by_cases h5:l-g.length-da (g.take i)-v.parents.length<0
  ·rw[if_pos h5] at hc
   (repeat' first|refine st ?_|refine sa fun xe hxe=>?_|refine sb (fun hq=>?_) fun hq=>?_|exact True.intro|refine cr (hc) ?_)
   exact hno (by omega)
  ·rw[if_neg h5] at hc
   (repeat' first|refine st ?_|refine sa fun xe hxe=>?_|refine sb (fun hq=>?_) fun hq=>?_|exact True.intro|refine cr (hc) ?_)
   refine⟨i+1,by omega,by omega,?_⟩
   rw[h3,show l-(g.length:Int)-((da (g.take i)+v.parents.length:Nat):Int)=l-g.length-da (g.take i)-v.parents.length by omega]
   rfl
 ·rw[List.take_of_length_le (by omega)] at *
  (repeat' first|refine st ?_|refine sa fun xe hxe=>?_|refine sb (fun hq=>?_) fun hq=>?_|exact True.intro)
  exact⟨by rw[u7,if_neg (by omega)];congr 1;omega,rfl⟩
theorem nM (v:Vtx)(hv:v.parents.length≤1048576):aE Try.prog 52 [eF v] [] (eF v) []:=by
 refine am az Try.func52 rfl rfl true 0 4 rfl rfl rfl rfl fun K hK hb1 hb2=>?_;simp only[av,enc,Nat.reduceAdd]
 (repeat' first|refine st ?_|refine sa fun xe hxe=>?_|refine sb (fun hq=>?_) fun hq=>?_|exact True.intro|refine cr (e9 _ hv) ?_)
 exact⟨rfl,rfl⟩
theorem iE (g:List Vtx)(hg:g.length≤1048576)(hv:∀v∈g,v.parents.length≤1048576):aE Try.prog 13 [.lst .vtx g] [] (.lst .vtx g) []:=by
 refine am az Try.func13 rfl rfl true 0 4 rfl rfl rfl rfl fun K hK hb1 hb2=>?_;simp only[av,enc,Nat.reduceAdd]
 clear hb1 hb2
 (repeat' first|refine st ?_|refine sa fun xe hxe=>?_|refine sb (fun hq=>?_) fun hq=>?_|exact True.intro)
 refine aG hK [] [0,3,4] (fun i:Nat=>⟨[(0,.lst .vtx g),(3,.ref 4),(4,.int .i64 i)],[(4,.row 85 .vtx (g.take i++(List.replicate g.length v0).drop i))],5⟩) (fun i=>i≤g.length) (fun i=>g.length-i) 0 (by simp) (by simp;rfl) ?_
 intro i hi
 by_cases hlt:i<g.length
 ·have hx:g[i]?=some g[i]:=List.getElem?_eq_getElem hlt
  have x6:i<(g.take i++(List.replicate g.length v0).drop i).length:=jZ _ _ (by simp;omega) (by simpa using hlt)
  have hs:(g.take i++(List.replicate g.length v0).drop i).set i g[i]=g.take (i+1)++(List.replicate g.length v0).drop (i+1):=by
   rw[e8 _ _ _ (by simp;omega) (by simpa using hlt),List.take_succ_eq_append_getElem hlt]
  have hvl:=hv _ (List.getElem_mem hlt)
  generalize hrow:g.take i++(List.replicate g.length v0).drop i=row at *
  generalize g[i]=x at *
  (repeat' first|refine st ?_|refine sa fun xe hxe=>?_|refine sb (fun hq=>?_) fun hq=>?_|exact True.intro|refine cr (nM _ hvl) ?_)
  refine⟨i+1,by omega,by omega,?_⟩
  rw[←hs]
  rfl
 ·obtain rfl:i=g.length:=by omega
  (repeat' first|refine st ?_|refine sa fun xe hxe=>?_|refine sb (fun hq=>?_) fun hq=>?_|exact True.intro)
  simp
theorem oH (v:Vtx):aE Try.prog 55 [eF v,eF v] [] (.bool true) []:=by
 refine am az Try.func55 rfl rfl false 0 4 rfl rfl rfl rfl fun K hK hb1 hb2=>?_;simp only[av,enc,Nat.reduceAdd]
 (repeat' first|refine st ?_|refine sa fun xe hxe=>?_|refine sb (fun hq=>?_) fun hq=>?_|exact True.intro|refine cr (nI _) ?_)
 all_goals first|(exact⟨rfl,rfl⟩)|exact absurd rfl hq|exact absurd trivial hq|cases hq
theorem np (g:List Vtx):aE Try.prog 16 [.lst .vtx g,.lst .vtx g] [] (.bool true) []:=by
 refine am az Try.func16 rfl rfl false 0 4 rfl rfl rfl rfl fun K hK hb1 hb2=>?_;simp only[av,enc,Nat.reduceAdd]
 simp[ab,V.toD,bnd,aa,D.cells] at hb1
 (repeat' first|refine st ?_|refine sa fun xe hxe=>?_|refine sb (fun hq=>?_) fun hq=>?_|exact True.intro)
 ·exact absurd trivial hq
 refine aG hK [] [0,1,5] (fun i:Nat=>⟨[(0,.lst .vtx g),(1,.lst .vtx g),(5,.int .i64 i)],[],4⟩) (fun i=>i≤g.length) (fun i=>g.length-i) 0 (by simp) rfl ?_
 intro i hi
 by_cases hlt:i<g.length
 ·have hx:g[i]?=some g[i]:=List.getElem?_eq_getElem hlt
  generalize g[i]=x at *
  (repeat' first|refine st ?_|refine sa fun xe hxe=>?_|refine sb (fun hq=>?_) fun hq=>?_|exact True.intro|refine cr (oH _) ?_)
  exact⟨i+1,by omega,by omega,rfl⟩
 ·(repeat' first|refine st ?_|refine sa fun xe hxe=>?_|refine sb (fun hq=>?_) fun hq=>?_|exact True.intro)
  exact⟨rfl,rfl⟩
theorem wl {g:List Vtx}{v:Vtx}(h:v∈g):v.parents.length≤da g:=by
 obtain⟨i,hi⟩:=List.getElem?_of_mem h
 have h1:=kM hi
 have h2:=pt g (i+1)
 omega
structure Small (w:Wrl):Prop where
 com:w.com.length≤1048576
 lead:w.lead.length≤1048576
 vlen:w.views.length≤1048576
 view:∀g∈w.views,g.length≤1048576∧∀v∈g,v.parents.length≤1048576
 plen:w.props.length≤1048576
 prop:∀p∈w.props,p.v.parents.length≤1048576∧p.members.length≤1048576

end Go.Proofs.Ytdjplfikgepddaa.Am
