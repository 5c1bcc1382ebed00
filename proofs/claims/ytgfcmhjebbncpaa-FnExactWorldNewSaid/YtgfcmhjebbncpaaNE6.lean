/- Committees and vertices: what the program's functions give. Graphs: what the program's functions give. Graphs: a vertex is linked. Graphs: all vertices are linked. Graphs: heights, authors, places. Runs: leaders, faulty members, pairs of proposals: what the functions give. Runs: tables of graphs, parents that are known. Runs: graphs of members, copies: what the program's functions give. -/
import Derived.Test.YtgfcmhjebbncpaaNE5
set_option linter.unusedSimpArgs false
set_option linter.unusedVariables false
set_option maxHeartbeats 1000000
namespace Go.Proofs.Ytgfcmhjebbncpaa.Am
open Go
attribute [local irreducible] Mk bC Ari d8 pN jt cf ee gx iI At am
set_option maxRecDepth 10000
theorem nG (c:List Int):am Try.prog 88 [.lst (.int .i64) c] [] (.bool (comV c)) []:=by
 refine ah ao Try.func88 rfl rfl false 0 4 rfl rfl rfl rfl fun K hK hb1 hb2=>?_;simp only[aj,enc,Nat.reduceAdd]
 simp[ab,V.toD,bnd,aa,D.cells] at hb1
 have hno:¬(1≤c.length∧c.length≤7)→V.bool false=V.bool (comV c)∧([]:VH)=[]:=fun h=>by
  refine⟨?_,rfl⟩
  have:comV c=false:=by rw[Bool.eq_false_iff];intro h2;exact h (aE.1 h2).2
  rw[this]
 (repeat' first|refine st ?_|refine sa fun xe hxe=>?_|refine sb (fun hq=>?_) fun hq=>?_|exact True.intro)
 ·exact hno (by omega)
 ·exact hno (by omega)
 refine al hK [] [0,13,14,15] (fun i:Nat=>⟨[(0,.lst (.int .i64) c),(13,.lst (.int .i64) c),(14,.int .i64 c.length),(15,.int .i64 i)],[],4⟩) (fun i=>i≤c.length∧∀j,j<i→gy (c.getD j 0) 1 9=true) (fun i=>c.length-i) 0 ⟨by simp,by simp⟩ rfl ?_
 rintro i ⟨hi,hall⟩
 have hno:∀x,c[i]?=some x→¬(1≤x∧x≤9)→V.bool false=V.bool (comV c)∧([]:VH)=[]:=fun x hx h=>by
  refine⟨?_,rfl⟩
  have:comV c=false:=by rw[Bool.eq_false_iff];intro h2;exact h ((aE.1 h2).1 x (List.mem_of_getElem? hx))
  rw[this]
 by_cases hlt:i<c.length
 ·have hxe:c[i]?=some c[i]:=List.getElem?_eq_getElem hlt
  have hn:=hno _ hxe
  have hy:=ck hall (p:=fun j=>gy (c.getD j 0) 1 9) (i:=i)
  simp only[bI hxe] at hy
  generalize c[i]=x at *
  (repeat' first|refine st ?_|refine sa fun xe hxe=>?_|refine sb (fun hq=>?_) fun hq=>?_|exact True.intro)
  ·exact hn (by omega)
  ·exact hn (by omega)
  ·exact⟨i+1,⟨by omega,hy (aI.2 (by omega))⟩,by omega,rfl⟩
 ·(repeat' first|refine st ?_|refine sa fun xe hxe=>?_|refine sb (fun hq=>?_) fun hq=>?_|exact True.intro)
  refine⟨?_,rfl⟩
  have:i=c.length:=by omega
  subst this
  have h1:gy c.length 1 7=true:=aI.2 (by omega)
  simp only[comV,cz hall,Bool.true_and,h1]
theorem ip (c:List Int):am Try.prog 66 [.lst (.int .i64) c] [] (.bool (comV c)) []:=by
 refine ah ao Try.func66 rfl rfl false 0 4 rfl rfl rfl rfl fun K hK hb1 hb2=>?_;simp only[aj,enc,Nat.reduceAdd]
 (repeat' first|refine st ?_|refine sa fun xe hxe=>?_|refine sb (fun hq=>?_) fun hq=>?_|exact True.intro|refine cr (nG _) ?_)
 exact⟨rfl,rfl⟩
theorem tN (c:List Int)(hc:comV c=true):am Try.prog 90 [.lst (.int .i64) c] [] (.int .i64 (ln c)) []:=by
 have hc1:=aE.1 hc
 refine ah ao Try.func90 rfl rfl false 0 4 rfl rfl rfl rfl fun K hK hb1 hb2=>?_;simp only[aj,enc,Nat.reduceAdd]
 clear hb1 hb2
 (repeat' first|refine st ?_|refine sa fun xe hxe=>?_|refine sb (fun hq=>?_) fun hq=>?_|exact True.intro)
 refine al hK [] [0,3,6,7,8] (fun i:Nat=>⟨[(0,.lst (.int .i64) c),(3,.int .i64 (ln (c.take i))),(6,.lst (.int .i64) c),(7,.int .i64 c.length),(8,.int .i64 i)],[],4⟩) (fun i=>i≤c.length) (fun i=>c.length-i) 0 (by simp) rfl ?_
 intro i hi
 have hb:=vY hc i
 by_cases hlt:i<c.length
 ·have hxe:c[i]?=some c[i]:=List.getElem?_eq_getElem hlt
  have hb2:=hc1.1 _ (List.mem_of_getElem? hxe)
  have hsn:=n9 hxe
  generalize c[i]=x at *
  (repeat' first|refine st ?_|refine sa fun xe hxe=>?_|refine sb (fun hq=>?_) fun hq=>?_|exact True.intro)
  exact⟨i+1,by omega,by omega,by rw[hsn];rfl⟩
 (repeat' first|refine st ?_|refine sa fun xe hxe=>?_|refine sb (fun hq=>?_) fun hq=>?_|exact True.intro)
 rw[List.take_of_length_le (by omega)]
 exact⟨rfl,rfl⟩
theorem zc (c:List Int)(hc:comV c=true):am Try.prog 89 [.lst (.int .i64) c] [] (.int .i64 (quo c)) []:=by
 have h1:=kK hc
 have h2:=yW hc
 have h3:(2*ln c).tdiv 3+1=quo c:=rfl
 refine ah ao Try.func89 rfl rfl false 0 4 rfl rfl rfl rfl fun K hK hb1 hb2=>?_;simp only[aj,enc,Nat.reduceAdd]
 (repeat' first|refine st ?_|refine sa fun xe hxe=>?_|refine sb (fun hq=>?_) fun hq=>?_|exact True.intro|refine cr (tN _ hc) ?_)
 exact⟨rfl,rfl⟩
theorem rv (c:List Int):am Try.prog 65 [.lst (.int .i64) c] [] (.int .i64 (if comV c then quo c else-1)) []:=by
 refine ah ao Try.func65 rfl rfl false 0 4 rfl rfl rfl rfl fun K hK hb1 hb2=>?_;simp only[aj,enc,Nat.reduceAdd]
 cases hc:comV c
 ·(repeat' first|refine st ?_|refine sa fun xe hxe=>?_|refine sb (fun hq=>?_) fun hq=>?_|exact True.intro|refine cr (nG _) ?_)
  exact⟨rfl,rfl⟩
 ·(repeat' first|refine st ?_|refine sa fun xe hxe=>?_|refine sb (fun hq=>?_) fun hq=>?_|exact True.intro|refine cr (nG _) ?_|refine cr (zc _ hc) ?_)
  exact⟨rfl,rfl⟩
theorem cm (c:List Int)(m:Int):am Try.prog 67 [.lst (.int .i64) c,.int .i64 m] [] (.bool (ci c m)) []:=by
 refine ah ao Try.func67 rfl rfl false 0 4 rfl rfl rfl rfl fun K hK hb1 hb2=>?_;simp only[aj,enc,Nat.reduceAdd]
 simp[ab,V.toD,bnd,aa,D.cells] at hb1
 (repeat' first|refine st ?_|refine sa fun xe hxe=>?_|refine sb (fun hq=>?_) fun hq=>?_|exact True.intro)
 all_goals (refine⟨congrArg V.bool ?_,rfl⟩;rw[Bool.eq_iff_iff];simp only[ci,aI,decide_eq_true_eq];(try simp);omega)
theorem gu (r:Int):am Try.prog 91 [.int .i64 r] [] (.bool (gy r 0 30)) []:=by
 refine ah ao Try.func91 rfl rfl false 0 4 rfl rfl rfl rfl fun K hK hb1 hb2=>?_;simp only[aj,enc,Nat.reduceAdd]
 (repeat' first|refine st ?_|refine sa fun xe hxe=>?_|refine sb (fun hq=>?_) fun hq=>?_|exact True.intro)
 all_goals (refine⟨congrArg V.bool ?_,rfl⟩;rw[Bool.eq_iff_iff];simp only[aI,decide_eq_true_eq];(try simp);omega)
theorem xS (r:Int):am Try.prog 92 [.int .i64 r] [] (.bool (gy r 0 990)) []:=by
 refine ah ao Try.func92 rfl rfl false 0 4 rfl rfl rfl rfl fun K hK hb1 hb2=>?_;simp only[aj,enc,Nat.reduceAdd]
 (repeat' first|refine st ?_|refine sa fun xe hxe=>?_|refine sb (fun hq=>?_) fun hq=>?_|exact True.intro)
 all_goals (refine⟨congrArg V.bool ?_,rfl⟩;rw[Bool.eq_iff_iff];simp only[aI,decide_eq_true_eq];(try simp);omega)
theorem wr (c ms:List Int):am Try.prog 93 [.lst (.int .i64) c,.lst (.int .i64) ms] [] (.bool (dr c ms)) []:=by
 refine ah ao Try.func93 rfl rfl false 0 4 rfl rfl rfl rfl fun K hK hb1 hb2=>?_;simp only[aj,enc,Nat.reduceAdd]
 simp[ab,V.toD,bnd,aa,D.cells] at hb1
 (repeat' first|refine st ?_|refine sa fun xe hxe=>?_|refine sb (fun hq=>?_) fun hq=>?_|exact True.intro)
 refine al hK [] [0,1,7,8,9] (fun i:Nat=>⟨[(0,.lst (.int .i64) c),(1,.lst (.int .i64) ms),(7,.lst (.int .i64) ms),(8,.int .i64 ms.length),(9,.int .i64 i)],[],4⟩) (fun i=>i≤ms.length∧∀j,j<i→gd c ms j=true) (fun i=>ms.length-i) 0 ⟨by simp,by simp⟩ rfl ?_
 rintro i ⟨hi,hall⟩
 have hno:gd c ms i=false→i<ms.length→V.bool false=V.bool (dr c ms)∧([]:VH)=[]:=fun h1 h2=>by
  have:dr c ms=false:=dZ h2 h1
  rw[this]
  exact⟨rfl,rfl⟩
 by_cases hlt:i<ms.length
 ·have hxe:ms[i]?=some ms[i]:=List.getElem?_eq_getElem hlt
  have hA:gd c ms i=(ci c ms[i] && (i==0||decide (ms.getD (i-1) 0<ms[i]))):=by simp only[gd,bI hxe]
  have hyes:gd c ms i=true→∃y,(y≤ms.length∧∀j,j<y→gd c ms j=true)∧ms.length-y<ms.length-i∧VSt.mk [(0,.lst (.int .i64) c),(1,.lst (.int .i64) ms),(7,.lst (.int .i64) ms),(8,.int .i64 ms.length),(9,.int .i64 ((i:Int)+1))] [] 4=⟨[(0,.lst (.int .i64) c),(1,.lst (.int .i64) ms),(7,.lst (.int .i64) ms),(8,.int .i64 ms.length),(9,.int .i64 (y:Int))],[],4⟩:=fun h=>⟨i+1,⟨by omega,ck hall h⟩,by omega,rfl⟩
  generalize ms[i]=m at *
  cases h1:ci c m
  ·(repeat' first|refine st ?_|refine sa fun xe hxe=>?_|refine sb (fun hq=>?_) fun hq=>?_|exact True.intro|refine cr (cm _ _) ?_)
   exact hno (by rw[hA,h1];rfl) hlt
  by_cases hi0:i=0
  ·(repeat' first|refine st ?_|refine sa fun xe hxe=>?_|refine sb (fun hq=>?_) fun hq=>?_|exact True.intro|refine cr (cm _ _) ?_)
   exact hyes (by rw[hA,h1];simp[hi0])
  ·have hye:ms[((i:Int)-1).toNat]?=some (ms.getD (i-1) 0):=by rw[show ((i:Int)-1).toNat=i-1 by omega,List.getD_eq_getElem?_getD,List.getElem?_eq_getElem (show i-1<ms.length by omega)];rfl
   generalize ms.getD (i-1) 0=u at *
   (repeat' first|refine st ?_|refine sa fun xe hxe=>?_|refine sb (fun hq=>?_) fun hq=>?_|exact True.intro|refine cr (cm _ _) ?_)
   ·exact hno (by rw[hA,h1];simp;omega) hlt
   ·exact hyes (by rw[hA,h1];simp;omega)
 ·(repeat' first|refine st ?_|refine sa fun xe hxe=>?_|refine sb (fun hq=>?_) fun hq=>?_|exact True.intro)
  refine⟨?_,rfl⟩
  have:i=ms.length:=by omega
  subst this
  have:dr c ms=true:=cz hall
  rw[this]
theorem jY (c ms:List Int):am Try.prog 70 [.lst (.int .i64) c,.lst (.int .i64) ms] [] (.bool (comV c && dr c ms)) []:=by
 refine ah ao Try.func70 rfl rfl false 0 4 rfl rfl rfl rfl fun K hK hb1 hb2=>?_;simp only[aj,enc,Nat.reduceAdd]
 (repeat' first|refine st ?_|refine sa fun xe hxe=>?_|refine sb (fun hq=>?_) fun hq=>?_|exact True.intro|refine cr (nG _) ?_|refine cr (wr _ _) ?_)
 all_goals (refine⟨?_,rfl⟩;simp_all)
theorem yB (c ms:List Int)(hc:comV c=true)(hm:∀m∈ms,0≤m∧m<c.length)(hl:ms.length≤2000000):am Try.prog 87 [.lst (.int .i64) c,.lst (.int .i64) ms] [] (.int .i64 (qM c ms)) []:=by
 refine ah ao Try.func87 rfl rfl false 0 4 rfl rfl rfl rfl fun K hK hb1 hb2=>?_;simp only[aj,enc,Nat.reduceAdd]
 clear hb1 hb2
 (repeat' first|refine st ?_|refine sa fun xe hxe=>?_|refine sb (fun hq=>?_) fun hq=>?_|exact True.intro)
 refine al hK [] [0,1,5,8,9,10] (fun i:Nat=>⟨[(0,.lst (.int .i64) c),(1,.lst (.int .i64) ms),(5,.int .i64 (qM c (ms.take i))),(8,.lst (.int .i64) ms),(9,.int .i64 ms.length),(10,.int .i64 i)],[],4⟩) (fun i=>i≤ms.length) (fun i=>ms.length-i) 0 (by simp) rfl ?_
 intro i hi
 by_cases hlt:i<ms.length
 ·have hxe:ms[i]?=some ms[i]:=List.getElem?_eq_getElem hlt
  have h1:=hm _ (List.getElem_mem hlt)
  have h2:=zi (ms:=ms.take i) hc
  have h3:=yp (c:=c) hxe
  rw[List.length_take] at h2
  generalize ms[i]=m at *
  have hx2:c[m.toNat]?=some (c.getD m.toNat 0):=by rw[List.getD_eq_getElem?_getD,List.getElem?_eq_getElem (show m.toNat<c.length by omega)];rfl
  have h4:=(aE.1 hc).1 _ (List.mem_of_getElem? hx2)
  generalize c.getD m.toNat 0=x at *
  (repeat' first|refine st ?_|refine sa fun xe hxe=>?_|refine sb (fun hq=>?_) fun hq=>?_|exact True.intro)
  exact⟨i+1,by omega,by omega,by rw[h3];rfl⟩
 (repeat' first|refine st ?_|refine sa fun xe hxe=>?_|refine sb (fun hq=>?_) fun hq=>?_|exact True.intro)
 rw[List.take_of_length_le (by omega)]
 exact⟨rfl,rfl⟩
def s9 (c ms:List Int):Int:=if comV c && dr c ms then qM c ms else-1
theorem rY (c ms:List Int):am Try.prog 64 [.lst (.int .i64) c,.lst (.int .i64) ms] [] (.int .i64 (s9 c ms)) []:=by
 refine ah ao Try.func64 rfl rfl false 0 4 rfl rfl rfl rfl fun K hK hb1 hb2=>?_;simp only[aj,enc,Nat.reduceAdd]
 cases hv:comV c && dr c ms
 ·(repeat' first|refine st ?_|refine sa fun xe hxe=>?_|refine sb (fun hq=>?_) fun hq=>?_|exact True.intro|refine cr (jY _ _) ?_)
  exact⟨by simp[s9,hv],rfl⟩
 ·have hc:comV c=true:=by simp_all
  have hm:dr c ms=true:=by simp_all
  have h7:=(aE.1 hc).2
  have hl:=ou hm
  (repeat' first|refine st ?_|refine sa fun xe hxe=>?_|refine sb (fun hq=>?_) fun hq=>?_|exact True.intro|refine cr (jY _ _) ?_|((with_reducible refine eK ?_);(conv=>whnf);(first|with_reducible refine bn (yB _ _ hc (d6 hm) (by omega)) ?_);conv=>whnf))
  exact⟨by simp[s9,hv],rfl⟩
theorem pV (v u:Vtx):am Try.prog 102 [eL v,eL u] [] (.bool (bef v u)) []:=by
 refine ah ao Try.func102 rfl rfl false 0 4 rfl rfl rfl rfl fun K hK hb1 hb2=>?_;simp only[aj,enc,Nat.reduceAdd]
 (repeat' first|refine st ?_|refine sa fun xe hxe=>?_|refine sb (fun hq=>?_) fun hq=>?_|exact True.intro)
 all_goals (refine⟨?_,rfl⟩;simp_all[bef])
theorem fB (c:List Int)(v:Vtx):am Try.prog 69 [.lst (.int .i64) c,eL v] [] (.bool (comV c && vtxS c v)) []:=by
 refine ah ao Try.func69 rfl rfl false 0 4 rfl rfl rfl rfl fun K hK hb1 hb2=>?_;simp only[aj,enc,Nat.reduceAdd]
 simp[ab,V.toD,bnd,aa,D.cells] at hb1
 have h8:((v.parents.length:Int)==0)=(v.parents.length==0):=by rw[Bool.eq_iff_iff,beq_iff_eq,beq_iff_eq];omega
 (repeat' first|refine st ?_|refine sa fun xe hxe=>?_|refine sb (fun hq=>?_) fun hq=>?_|exact True.intro|refine cr (jY _ _) ?_|refine cr (gu _) ?_|refine cr (cm _ _) ?_|refine cr (xS _) ?_|refine cr (rY _ _) ?_|refine cr (rv _) ?_)
 all_goals (refine⟨?_,rfl⟩;simp_all[vtxS,ci,s9])
def Θg:TT:=(119,⟨.ptr 125,1,8,some (.nilp),some (.hp 0),false⟩)::Θ
theorem dx:TT.ok Try.prog Θg:=TT.okB_ok (by kernel_rfl)
theorem jZ {P Q:Prop}(h:Q)(s:Hid Q→P:=by
  intro h
  (first|(with_reducible first|apply cC|apply bW)|((first|with_reducible apply bG dx|refine go ?_|(with_reducible first|apply b6|apply bT|apply bJ|apply bH|refine bK dx mixed (by kernel_rfl) ?_))<;>conv=>whnf))
  repeat(first|(with_reducible first|apply cC|apply bW)|((first|with_reducible apply bG dx|refine go ?_|(with_reducible first|apply b6|apply bT|apply bJ|apply bH|refine bK dx mixed (by kernel_rfl) ?_))<;>conv=>whnf))
  exact h.h):P:=s ⟨h⟩
abbrev gZ (c:List Int)(s:GS):VH:=[(0,.fvar 125 (.nod 1) s.nodes),(1,.frow 119 (.hp 0) s.rows),(4,.vari 123 [.lst (.int .i64) c,.nils] 217 (.hp 0) s.plc [])]
abbrev Bc (c:List Int)(s:GS)(x:VB):VH:=[(0,.fvar 125 (.nod 1) s.nodes),(1,.frow 119 (.hp 0) s.rows),(4,.vari 123 [.lst (.int .i64) c,.nils] 217 (.hp 0) s.plc []),(5,x)]
abbrev gR (c:List Int)(s:GS):VH:=[(0,.fvar 125 (.nod 1) s.nodes),(1,.frow 119 (.hp 0) s.rows),(4,.vari 123 [.lst (.int .i64) c,.ref 5] 217 (.hp 0) s.plc []),(5,.row 119 (.hp 0) ((List.range s.nodes.length).map some))]
abbrev A6 (c:List Int)(s:GS)(x:VB):VH:=[(0,.fvar 125 (.nod 1) s.nodes),(1,.frow 119 (.hp 0) s.rows),(4,.vari 123 [.lst (.int .i64) c,.ref 5] 217 (.hp 0) s.plc []),(5,.row 119 (.hp 0) ((List.range s.nodes.length).map some)),(6,x)]
theorem j3 {s:GS}(hs:s.plc.length=217){r a:Int}(hr:gy r 0 30=true)(ha:0≤a∧a≤6):s.plc[r.toNat * 7+a.toNat]?=some (s.at r a):=by
 have hr:=aI.1 hr
 have e:(r*7+a).toNat=r.toNat * 7+a.toNat:=by omega
 rw[GS.at,e,List.getD_eq_getElem?_getD,List.getElem?_eq_getElem (by omega)]
 rfl
def jm (s:GS)(r:Int)(n:Nat):List Int:=((List.range n).filter fun a:Nat=>gy r 0 30 && (s.at r (a:Int)).isSome).map fun a:Nat=>(a:Int)
theorem zd (s:GS)(r:Int)(n:Nat):jm s r (n+1)=if gy r 0 30 && (s.at r (n:Int)).isSome then jm s r n++[(n:Int)] else jm s r n:=by
 simp only[jm,List.range_succ,List.filter_append,List.map_append,List.filter_cons,List.filter_nil]
 split<;>simp
theorem zA (s:GS)(r:Int)(n:Nat):(jm s r n).length≤n:=by
 unfold jm
 rw[List.length_map]
 exact Nat.le_trans (List.length_filter_le _ _) (by simp)
theorem AJ (c:List Int)(s:GS)(r a:Int)(h:(gy r 0 30 && ci c a)=false):am Try.prog 104 [.ptr 4 0,.int .i64 r,.int .i64 a] (gR c s) .nilp (gR c s):=by
 refine ah dx Try.func104 rfl rfl false 2 6 rfl rfl rfl rfl fun K hK hb1 hb2=>?_;simp only[aj,enc,Nat.reduceAdd]
 clear hb1 hb2
 cases h1:gy r 0 30
 ·(repeat' first|refine st ?_|refine sa fun xe hxe=>?_|refine sb (fun hq=>?_) fun hq=>?_|exact True.intro|refine cr (gu _) ?_|refine cr (cm _ _) ?_)
  exact⟨rfl,rfl⟩
 ·have h2:ci c a=false:=by simp_all
  (repeat' first|refine st ?_|refine sa fun xe hxe=>?_|refine sb (fun hq=>?_) fun hq=>?_|exact True.intro|refine cr (gu _) ?_|refine cr (cm _ _) ?_)
  exact⟨rfl,rfl⟩
theorem mV (c:List Int)(s:GS)(r a:Int)(hs:s.plc.length=217)(hc:c.length≤7)(h1:gy r 0 30=true)(h2:ci c a=true):am Try.prog 104 [.ptr 4 0,.int .i64 r,.int .i64 a] (gR c s) (.hpo 0 (s.at r a)) (gR c s):=by
 refine ah dx Try.func104 rfl rfl false 2 6 rfl rfl rfl rfl fun K hK hb1 hb2=>?_;simp only[aj,enc,Nat.reduceAdd]
 clear hb1 hb2
 have hr:=aI.1 h1
 have ha:=aI.1 h2
 have hp:=j3 hs h1 (a:=a) (by omega)
 (repeat' first|refine st ?_|refine sa fun xe hxe=>?_|refine sb (fun hq=>?_) fun hq=>?_|exact True.intro|refine cr (gu _) ?_|refine cr (cm _ _) ?_)
 exact⟨rfl,rfl⟩
theorem AP (c:List Int)(s:GS)(r a:Int)(h:(gy r 0 30 && ci c a)=false):am Try.prog 104 [.ptr 4 0,.int .i64 r,.int .i64 a] (gZ c s) .nilp (gZ c s):=by
 refine ah dx Try.func104 rfl rfl false 1 5 rfl rfl rfl rfl fun K hK hb1 hb2=>?_;simp only[aj,enc,Nat.reduceAdd]
 clear hb1 hb2
 cases h1:gy r 0 30
 ·(repeat' first|refine st ?_|refine sa fun xe hxe=>?_|refine sb (fun hq=>?_) fun hq=>?_|exact True.intro|refine cr (gu _) ?_|refine cr (cm _ _) ?_)
  exact⟨rfl,rfl⟩
 ·have h2:ci c a=false:=by simp_all
  (repeat' first|refine st ?_|refine sa fun xe hxe=>?_|refine sb (fun hq=>?_) fun hq=>?_|exact True.intro|refine cr (gu _) ?_|refine cr (cm _ _) ?_)
  exact⟨rfl,rfl⟩
theorem yC (c:List Int)(s:GS)(r a:Int)(hs:s.plc.length=217)(hc:c.length≤7)(h1:gy r 0 30=true)(h2:ci c a=true):am Try.prog 104 [.ptr 4 0,.int .i64 r,.int .i64 a] (gZ c s) (.hpo 0 (s.at r a)) (gZ c s):=by
 refine ah dx Try.func104 rfl rfl false 1 5 rfl rfl rfl rfl fun K hK hb1 hb2=>?_;simp only[aj,enc,Nat.reduceAdd]
 clear hb1 hb2
 have hr:=aI.1 h1
 have ha:=aI.1 h2
 have hp:=j3 hs h1 (a:=a) (by omega)
 (repeat' first|refine st ?_|refine sa fun xe hxe=>?_|refine sb (fun hq=>?_) fun hq=>?_|exact True.intro|refine cr (gu _) ?_|refine cr (cm _ _) ?_)
 exact⟨rfl,rfl⟩
abbrev gO (c:List Int)(s:GS):VH:=[(0,.fvar 125 (.nod 1) s.nodes),(1,.frow 119 (.hp 0) s.rows),(4,.vari 123 [.lst (.int .i64) c,.ref 6] 217 (.hp 0) s.plc []),(5,.gone),(6,.row 119 (.hp 0) ((List.range s.nodes.length).map some))]
theorem lO (s:GS)(v:Vtx):(List.range s.nodes.length).map some++[some s.nodes.length]=(List.range (bg s v).nodes.length).map some:=by
 simp[bg,List.range_succ]
theorem iV (s:GS)(v:Vtx)(h:0≤v.round∧0≤v.author):s.plc.set (v.round.toNat * 7+v.author.toNat) (some s.nodes.length)=(bg s v).plc:=by
 have e:(v.round*7+v.author).toNat=v.round.toNat * 7+v.author.toNat:=by omega
 simp only[bg,e]
def iE (s:GS)(v:Vtx):Bool:=v.parents.all fun p=>(s.at (v.round-1) p).isSome
abbrev wn (v:Vtx)(n:Int)(p:V):VB:=.var 125 [.int .i64 v.round,.int .i64 v.author,.lst (.int .i64) v.parents,.int .i64 v.digest,.int .i64 n,p]
abbrev wc (s:GS)(v:Vtx)(i:Nat):VB:=.row 119 (.hp 0) ((v.parents.take i).map fun p=>s.at (v.round-1) p)
def mZ (c:List Int)(s:GS)(v:Vtx):Nat→VSt
 |0=>⟨[(0,.ptr 4 0),(3,.ptr 6 0),(5,.ptr 7 0),(18,.lst (.int .i64) v.parents),(19,.int .i64 v.parents.length),(20,.int .i64 0)],gR c s++[(6,.var 59 (eL v).cells),(7,wn v s.nodes.length .nils)],8⟩
 |i+1=>⟨[(0,.ptr 4 0),(3,.ptr 6 0),(5,.ptr 7 0),(18,.lst (.int .i64) v.parents),(19,.int .i64 v.parents.length),(20,.int .i64 ((i+1:Nat):Int))],gR c s++[(6,.var 59 (eL v).cells),(7,wn v s.nodes.length (.ref 8)),(8,wc s v (i+1))],9⟩
theorem wC (c:List Int)(s:GS)(v:Vtx)(hs:s.plc.length=217)(hc:comV c=true)(hv:vtxS c v=true)(hn:s.nodes.length≤2000000):am Try.prog 103 [.ptr 4 0,eL v] (gR c s) (.bool (iE s v)) (if iE s v then gO c (bg s v) else gR c s):=by
 have h7:=(aE.1 hc).2
 obtain⟨v1,v2,v3,v4,v5,v6⟩:=dB hv
 have hml:=ou v3
 have hmi:=d6 v3
 have hrl:((List.range s.nodes.length).map some).length=s.nodes.length:=by simp
 refine ah dx Try.func103 rfl rfl false 2 6 rfl rfl rfl rfl fun K hK hb1 hb2=>?_;simp only[aj,enc,Nat.reduceAdd]
 clear hb1 hb2
 (repeat' first|refine jZ ?_|refine sa fun xe hxe=>?_|refine sb (fun hq=>?_) fun hq=>?_|exact True.intro)
 refine al hK [] [0,3,5,18,19,20] (mZ c s v) (fun i=>i≤v.parents.length∧∀p∈v.parents.take i,(s.at (v.round-1) p).isSome=true) (fun i=>v.parents.length-i) 0 ⟨by simp,by simp⟩ (by simp only[hrl];rfl) ?_
 rintro i ⟨hi,hall⟩
 have hno:∀p∈v.parents,s.at (v.round-1) p=none→iE s v=false:=fun p hp h=>by
  rw[Bool.eq_false_iff]
  intro h2
  have:=List.all_eq_true.1 h2 p hp
  rw[h] at this
  cases this
 by_cases hlt:i<v.parents.length
 ·have hxe:v.parents[i]?=some v.parents[i]:=List.getElem?_eq_getElem hlt
  have h3:v.parents.take (i+1)=v.parents.take i++[v.parents[i]]:=List.take_succ_eq_append_getElem hlt
  have h4:v.parents[i]∈v.parents:=List.getElem_mem hlt
  have hr0:v.round≠0:=fun h=>by rw[v5 h] at hlt;simp at hlt
  have h1:gy (v.round-1) 0 30=true:=aI.2 (by omega)
  have hlk:mZ c s v (i+1)=⟨[(0,.ptr 4 0),(3,.ptr 6 0),(5,.ptr 7 0),(18,.lst (.int .i64) v.parents),(19,.int .i64 v.parents.length),(20,.int .i64 ((i+1:Nat):Int))],gR c s++[(6,.var 59 (eL v).cells),(7,wn v s.nodes.length (.ref 8)),(8,.row 119 (.hp 0) (((v.parents.take i).map fun p=>s.at (v.round-1) p)++[s.at (v.round-1) v.parents[i]]))],9⟩:=by
   rw[mZ,wc,h3,List.map_append];rfl
  generalize v.parents[i]=p at *
  have h2:ci c p=true:=aI.2 (by have:=hmi p h4;omega)
  have hl2:((v.parents.take i).map fun p=>s.at (v.round-1) p).length=i:=by rw[List.length_map,List.length_take];omega
  cases h5:s.at (v.round-1) p with
  |none=>
   have hin:(s.at (v.round-1) p).isNone=true:=by rw[h5];rfl
   have hnn:=hno p h4 h5
   cases i with
   |zero=>
    have hx0:v.parents[(0:Int).toNat]?=some p:=hxe
    unfold mZ
    (repeat' first|refine jZ ?_|refine sa fun xe hxe=>?_|refine sb (fun hq=>?_) fun hq=>?_|exact True.intro|refine co (mV c s (v.round-1) p hs h7.2 h1 h2) ?_)
    exact⟨by rw[hnn],by rw[hnn];rfl⟩
   |succ i=>
    unfold mZ
    (repeat' first|refine jZ ?_|refine sa fun xe hxe=>?_|refine sb (fun hq=>?_) fun hq=>?_|exact True.intro|refine co (mV c s (v.round-1) p hs h7.2 h1 h2) ?_)
    exact⟨by rw[hnn],by rw[hnn];rfl⟩
  |some k=>
   have hin:(s.at (v.round-1) p).isNone=false:=by rw[h5];rfl
   cases i with
   |zero=>
    have hx0:v.parents[(0:Int).toNat]?=some p:=hxe
    unfold mZ
    (repeat' first|refine jZ ?_|refine sa fun xe hxe=>?_|refine sb (fun hq=>?_) fun hq=>?_|exact True.intro|refine co (mV c s (v.round-1) p hs h7.2 h1 h2) ?_)
    refine⟨0+1,⟨by omega,by rw[h3];exact cy hall (by rw[h5];rfl)⟩,by omega,?_⟩
    refine Eq.trans ?_ hlk.symm
    rfl
   |succ i=>
    unfold mZ
    simp only[wc]
    generalize (List.map (fun p=>s.at (v.round-1) p) (List.take (i+1) v.parents))=ps at *
    (repeat' first|refine jZ ?_|refine sa fun xe hxe=>?_|refine sb (fun hq=>?_) fun hq=>?_|exact True.intro|refine co (mV c s (v.round-1) p hs h7.2 h1 h2) ?_)
    refine⟨i+1+1,⟨by omega,by rw[h3];exact cy hall (by rw[h5];rfl)⟩,by omega,?_⟩
    refine Eq.trans ?_ hlk.symm
    rfl
 ·rw[List.take_of_length_le (by omega)] at hall
  have hy:iE s v=true:=List.all_eq_true.2 hall
  have hpl:=j3 hs (aI.2 v1) (a:=v.author) (by omega)
  cases i with
  |zero=>
   unfold mZ
   simp only[gR]
   generalize hnr:(List.map some (List.range s.nodes.length))=nr at *
   (repeat' first|refine jZ ?_|refine sa fun xe hxe=>?_|refine sb (fun hq=>?_) fun hq=>?_|exact True.intro)
   rw[hy]
   refine⟨rfl,?_⟩
   have e1:=lO s v
   have e2:=iV s v ⟨v1.1,v2.1⟩
   simp only[if_true,gO]
   rw[←e1,←e2,hnr]
   have e3:v.parents=[]:=List.length_eq_zero_iff.1 (by omega)
   have e4:(bg s v).nodes=s.nodes++[⟨v,s.nodes.length,none⟩]:=by simp[bg,e3]
   have e5:(bg s v).rows=s.rows:=by simp[bg,e3]
   rw[e4,e5]
  |succ i=>
   unfold mZ
   simp only[wc]
   generalize hps:(List.map (fun p=>s.at (v.round-1) p) (List.take (i+1) v.parents))=ps at *
   simp only[gR]
   generalize hnr:(List.map some (List.range s.nodes.length))=nr at *
   (repeat' first|refine jZ ?_|refine sa fun xe hxe=>?_|refine sb (fun hq=>?_) fun hq=>?_|exact True.intro)
   rw[hy]
   refine⟨rfl,?_⟩
   have e1:=lO s v
   have e2:=iV s v ⟨v1.1,v2.1⟩
   simp only[if_true,gO]
   rw[←e1,←e2,hnr]
   have e3:v.parents≠[]:=fun h=>by rw[h] at hi;simp at hi
   rw[List.take_of_length_le (by omega)] at hps
   simp only[bg,e3,if_false,hps]
theorem vJ (r a:Int):iW.at r a=none:=by
 simp only[iW,GS.at,List.getD_eq_getElem?_getD,List.getElem?_replicate]
 split<;>rfl
theorem zG (v:Vtx):iE iW v=v.parents.isEmpty:=by
 unfold iE
 cases v.parents with
 |nil=>rfl
 |cons p l=>simp[vJ]
theorem wY (c:List Int)(v:Vtx)(hc:comV c=true)(hv:vtxS c v=true):am Try.prog 103 [.ptr 4 0,eL v] (gZ c iW) (.bool (iE iW v)) (if iE iW v then gR c (bg iW v) else gZ c iW):=by
 have h7:=(aE.1 hc).2
 have hs:iW.plc.length=217:=List.length_replicate
 obtain⟨v1,v2,v3,v4,v5,v6⟩:=dB hv
 have hmi:=d6 v3
 refine ah dx Try.func103 rfl rfl false 1 5 rfl rfl rfl rfl fun K hK hb1 hb2=>?_;simp only[aj,enc,Nat.reduceAdd]
 clear hb1 hb2
 (repeat' first|refine jZ ?_|refine sa fun xe hxe=>?_|refine sb (fun hq=>?_) fun hq=>?_|exact True.intro)
 refine al hK [] [0,3,5,18,19,20] (fun i:Nat=>⟨[(0,.ptr 4 0),(3,.ptr 5 0),(5,.ptr 6 0),(18,.lst (.int .i64) v.parents),(19,.int .i64 v.parents.length),(20,.int .i64 0)],gZ c iW++[(5,.var 59 (eL v).cells),(6,wn v 0 .nils)],7⟩) (fun i=>i=0) (fun i=>i) 0 rfl (by simp only[List.length_nil];rfl) ?_
 rintro i rfl
 have hy:=zG v
 by_cases hlt:0<v.parents.length
 ·have hxe:v.parents[0]?=some v.parents[0]:=List.getElem?_eq_getElem hlt
  have h4:v.parents[0]∈v.parents:=List.getElem_mem hlt
  have hr0:v.round≠0:=fun h=>by rw[v5 h] at hlt;simp at hlt
  have h1:gy (v.round-1) 0 30=true:=aI.2 (by omega)
  have hne:v.parents.isEmpty=false:=by cases h:v.parents with|nil=>rw[h] at hlt;simp at hlt|cons _ _=>rfl
  rw[hne] at hy
  rw[hy]
  generalize v.parents[0]=p at *
  have h2:ci c p=true:=aI.2 (by have:=hmi p h4;omega)
  have hx0:v.parents[(0:Int).toNat]?=some p:=hxe
  have hin:(iW.at (v.round-1) p).isNone=true:=by rw[vJ];rfl
  (repeat' first|refine jZ ?_|refine sa fun xe hxe=>?_|refine sb (fun hq=>?_) fun hq=>?_|exact True.intro|refine co (yC c iW (v.round-1) p hs h7.2 h1 h2) ?_)
  exact⟨rfl,rfl⟩
 ·have e3:v.parents=[]:=List.length_eq_zero_iff.1 (by omega)
  have hem:v.parents.isEmpty=true:=by rw[e3];rfl
  rw[hem] at hy
  rw[hy]
  have hpl:=j3 hs (aI.2 v1) (a:=v.author) (by omega)
  have e2:=iV iW v ⟨v1.1,v2.1⟩
  have e4:(bg iW v).nodes=[⟨v,0,none⟩]:=by simp[bg,e3,iW]
  have e5:(bg iW v).rows=[]:=by simp[bg,e3,iW]
  simp only[if_true,gR]
  rw[←e2,e4,e5]
  (repeat' first|refine jZ ?_|refine sa fun xe hxe=>?_|refine sb (fun hq=>?_) fun hq=>?_|exact True.intro)
  exact⟨rfl,rfl⟩
theorem wy {c:List Int}{g:List Vtx}{v:Vtx}(hc:comV c=true)(hg:∀u∈g,vtxS c u=true)(hv:vtxS c v=true):iE (iT g) v=parOK g v:=by
 obtain⟨v1,v2,v3,v4,v5,v6⟩:=dB hv
 have h7:=(aE.1 hc).2
 unfold iE parOK
 rw[Bool.eq_iff_iff,List.all_eq_true,List.all_eq_true]
 have key:∀p∈v.parents,((iT g).at (v.round-1) p).isSome=jv g (v.round-1) p:=by
  intro p hp
  have hr0:v.round≠0:=fun h=>by rw[v5 h] at hp;cases hp
  have:=d6 v3 p hp
  exact(th (fun u hu=>ia hc (hg u hu)) (by omega) (by omega)).1
 constructor
 ·intro h p hp;rw[←key p hp];exact h p hp
 ·intro h p hp;rw[key p hp];exact h p hp
def wH (c:List Int)(g:List Vtx):Nat→VSt
 |0=>⟨[(0,.lst (.int .i64) c),(1,.lst .vtx g),(6,.ptr 4 0),(15,.lst .vtx g),(16,.int .i64 g.length),(17,.int .i64 0)],gZ c iW,5⟩
 |i+1=>⟨[(0,.lst (.int .i64) c),(1,.lst .vtx g),(6,.ptr 4 0),(15,.lst .vtx g),(16,.int .i64 g.length),(17,.int .i64 ((i+1:Nat):Int))],gR c (iT (g.take (i+1))),6⟩
def gF (c:List Int)(g:List Vtx):VH:=match g with|[]=>gZ c iW|v::l=>gR c (iT (v::l))
def xy (c:List Int)(g:List Vtx):V:=if graS c g then .tup [.ptr 4 0,.bool true] else .tup [.nilp,.bool false]
def xG (c:List Int)(g:List Vtx):VH:=if graS c g then gF c g else[]
theorem wX {c:List Int}{g:List Vtx}{i:Nat}(hi:i<g.length)(h:cS c g i=false):graS c g=false:=by
 unfold graS
 rw[←qS,dZ hi h,Bool.and_false]
theorem up {c:List Int}{g:List Vtx}{i:Nat}(h:∀j,j<i→cS c g j=true):∀u∈g.take i,vtxS c u=true:=by
 intro u hu
 obtain⟨j,hj,rfl⟩:=bY (d:=v0) hu
 rw[List.length_take] at hj
 have:=h j (by omega)
 simp only[cS,Bool.and_eq_true] at this
 rw[show (g.take i).getD j v0=g.getD j v0 by simp only[List.getD_eq_getElem?_getD,List.getElem?_take,if_pos (show j<i by omega)]]
 exact this.1
theorem xY (c:List Int)(g:List Vtx)(hl:g.length≤2000000):am Try.prog 96 [.lst (.int .i64) c,.lst .vtx g] [] (xy c g) (xG c g):=by
 have hbad:graS c g=false→V.tup [.nilp,.bool false]=xy c g∧([]:VH)=xG c g:=fun h=>by simp[xy,xG,h]
 refine ah dx Try.func96 rfl rfl false 0 4 rfl rfl rfl rfl fun K hK hb1 hb2=>?_;simp only[aj,enc,Nat.reduceAdd]
 clear hb1 hb2
 cases hc:comV c
 ·(repeat' first|refine jZ ?_|refine sa fun xe hxe=>?_|refine sb (fun hq=>?_) fun hq=>?_|exact True.intro|refine cr (ip _) ?_)
  exact hbad (by simp[graS,hc])
 (repeat' first|refine jZ ?_|refine sa fun xe hxe=>?_|refine sb (fun hq=>?_) fun hq=>?_|exact True.intro|refine cr (ip _) ?_)
 refine vD 4 2 217 (.hp 0) ?_
 ((conv=>whnf);refine yc (by kernel_rfl) ?_;(conv=>whnf))
 refine iC 0 (.fvar 125 (.nod 1) []) rfl ?_
 refine iC 1 (.frow 119 (.hp 0) []) rfl ?_
 refine al hK [] [0,1,6,15,16,17] (wH c g) (fun i=>i≤g.length∧∀j,j<i→cS c g j=true) (fun i=>g.length-i) 0 ⟨by simp,by simp⟩ rfl ?_
 rintro i ⟨hi,hall⟩
 by_cases hlt:i<g.length
 ·have hxe:g[i]?=some g[i]:=List.getElem?_eq_getElem hlt
  have hA:cS c g i=(vtxS c g[i] && ((i==0||bef (g.getD (i-1) v0) g[i]) && parOK (g.take i) g[i])):=by simp only[cS,bI hxe]
  have hno:cS c g i=false→V.tup [.nilp,.bool false]=xy c g∧([]:VH)=xG c g:=fun h=>hbad (wX hlt h)
  have hgs:iT (g.take (i+1))=bg (iT (g.take i)) g[i]:=by rw[List.take_succ_eq_append_getElem hlt,kz]
  have hgv:=up hall
  have hys:cS c g i=true→∀j,j<i+1→cS c g j=true:=fun h=>ck hall h
  generalize g[i]=v at *
  cases h1:vtxS c v
  ·have h2:(comV c && vtxS c v)=false:=by simp[h1]
   cases i with
   |zero=>
    have hx0:g[(0:Int).toNat]?=some v:=hxe
    unfold wH
    (repeat' first|refine jZ ?_|refine sa fun xe hxe=>?_|refine sb (fun hq=>?_) fun hq=>?_|exact True.intro|refine cr (fB _ _) ?_)
    exact hno (by simp[hA,h1])
   |succ i=>
    unfold wH
    (repeat' first|refine jZ ?_|refine sa fun xe hxe=>?_|refine sb (fun hq=>?_) fun hq=>?_|exact True.intro|refine cr (fB _ _) ?_)
    exact hno (by simp[hA,h1])
  have h2:(comV c && vtxS c v)=true:=by simp[h1,hc]
  have hpe:=wy hc hgv h1
  cases i with
  |zero=>
   have hx0:g[(0:Int).toNat]?=some v:=hxe
   have hL:=wY c v hc h1
   have hpe:iE iW v=parOK (g.take 0) v:=hpe
   have hf1:az (VB.fvar 125 (.nod 1) iW.nodes)≤az (VB.fvar 125 (.nod 1) (bg iW v).nodes):=Nat.zero_le _
   have hf2:az (VB.frow 119 (.hp 0) iW.rows)≤az (VB.frow 119 (.hp 0) (bg iW v).rows):=Nat.zero_le _
   cases h3:iE iW v
   ·rw[h3] at hL
    simp only[Bool.false_eq_true,if_false] at hL
    unfold wH
    (repeat' first|refine jZ ?_|refine sa fun xe hxe=>?_|refine sb (fun hq=>?_) fun hq=>?_|exact True.intro|refine cr (fB _ _) ?_|refine co (hL) ?_)
    exact hno (by rw[hA,←hpe,h3];simp)
   ·rw[h3] at hL
    simp only[if_true] at hL
    unfold wH
    (repeat' first|refine jZ ?_|refine sa fun xe hxe=>?_|refine sb (fun hq=>?_) fun hq=>?_|exact True.intro|refine cr (fB _ _) ?_|refine co (hL) ?_)
    refine⟨0+1,⟨by omega,hys (by rw[hA,←hpe,h3,h1];simp)⟩,by omega,?_⟩
    show _=VSt.mk _ (gR c (iT (g.take (0+1)))) _
    rw[hgs]
    rfl
  |succ i=>
   have hgl:(iT (g.take (i+1))).nodes.length≤2000000:=by rw[(mW _).1,List.length_take];omega
   have hL:=wC c (iT (g.take (i+1))) v (mW _).2 hc h1 hgl
   have hye:g[(((i+1:Nat):Int)-1).toNat]?=some (g.getD (i+1-1) v0):=by rw[show (((i+1:Nat):Int)-1).toNat=i by omega,List.getD_eq_getElem?_getD,List.getElem?_eq_getElem (show i<g.length by omega)];simp only[Nat.add_sub_cancel,List.getElem?_eq_getElem (show i<g.length by omega)];rfl
   generalize g.getD (i+1-1) v0=u at *
   have hst:wH c g (i+1)=⟨[(0,.lst (.int .i64) c),(1,.lst .vtx g),(6,.ptr 4 0),(15,.lst .vtx g),(16,.int .i64 g.length),(17,.int .i64 ((i+1:Nat):Int))],gR c (iT (g.take (i+1))),6⟩:=rfl
   rw[hst]
   clear hst
   generalize iT (g.take (i+1))=s at *
   have hf1:az (VB.fvar 125 (.nod 1) s.nodes)≤az (VB.fvar 125 (.nod 1) (bg s v).nodes):=by simp[az,bg]
   have hf2:az (VB.frow 119 (.hp 0) s.rows)≤az (VB.frow 119 (.hp 0) (bg s v).rows):=by simp only[az,bg];split<;>simp
   cases h4:bef u v
   ·(repeat' first|refine jZ ?_|refine sa fun xe hxe=>?_|refine sb (fun hq=>?_) fun hq=>?_|exact True.intro|refine cr (fB _ _) ?_|refine cr (pV _ _) ?_)
    exact hno (by simp[hA,h1,h4])
   cases h3:iE s v
   ·rw[h3] at hL
    simp only[Bool.false_eq_true,if_false] at hL
    (repeat' first|refine jZ ?_|refine sa fun xe hxe=>?_|refine sb (fun hq=>?_) fun hq=>?_|exact True.intro|refine cr (fB _ _) ?_|refine cr (pV _ _) ?_|refine co (hL) ?_)
    exact hno (by rw[hA,←hpe,h3];simp)
   ·rw[h3] at hL
    simp only[if_true] at hL
    (repeat' first|refine jZ ?_|refine sa fun xe hxe=>?_|refine sb (fun hq=>?_) fun hq=>?_|exact True.intro|refine cr (fB _ _) ?_|refine cr (pV _ _) ?_|refine co (hL) ?_)
    refine⟨i+1+1,⟨by omega,hys (by rw[hA,←hpe,h3,h1,h4];simp)⟩,by omega,?_⟩
    show _=VSt.mk _ (gR c (iT (g.take (i+1+1)))) _
    rw[hgs]
    rfl
 ·have hg:graS c g=true:=by
   unfold graS
   rw[hc,←qS,cz (fun j hj=>hall j (by omega))]
   rfl
  have e1:xy c g= .tup [.ptr 4 0,.bool true]:=by simp[xy,hg]
  have e2:xG c g=gF c g:=by simp[xG,hg]
  rw[e1,e2]
  cases i with
  |zero=>
   have e3:g=[]:=List.length_eq_zero_iff.1 (by omega)
   subst e3
   unfold wH
   (repeat' first|refine jZ ?_|refine sa fun xe hxe=>?_|refine sb (fun hq=>?_) fun hq=>?_|exact True.intro)
   exact⟨rfl,rfl⟩
  |succ i=>
   have hst:wH c g (i+1)=⟨[(0,.lst (.int .i64) c),(1,.lst .vtx g),(6,.ptr 4 0),(15,.lst .vtx g),(16,.int .i64 g.length),(17,.int .i64 ((i+1:Nat):Int))],gR c (iT g),6⟩:=by rw[wH,List.take_of_length_le (by omega)]
   rw[hst]
   cases g with
   |nil=>simp at hi
   |cons w g=>
    (repeat' first|refine jZ ?_|refine sa fun xe hxe=>?_|refine sb (fun hq=>?_) fun hq=>?_|exact True.intro)
    exact⟨rfl,rfl⟩
theorem Ai {c:List Int}{g:List Vtx}(h:GraOK c g)(r:Int):jm (iT g) r c.length=oq g r:=by
 rw[←ul h r]
 unfold jm qR
 congr 1
 refine List.filter_congr fun a ha=>?_
 have h7:=(aE.1 h.com).2
 have ha:=List.mem_range.1 ha
 cases h1:gy r 0 30
 ·rw[Bool.false_and]
  symm
  rw[Bool.eq_false_iff]
  intro h2
  obtain⟨v,hv,hr,-⟩:=dg.1 h2
  have:=(dB (h.vtx v hv)).1
  rw[hr] at this
  rw[aI.2 this] at h1
  cases h1
 ·rw[Bool.true_and]
  exact(th (fun u hu=>ia h.com (h.vtx u hu)) (aI.1 h1) (by omega)).1
theorem zX (c l:List Int):am Try.prog 39 [.lst (.int .i64) c,.lst (.int .i64) l] [] (.bool (leaS c l)) []:=by
 refine ah ao Try.func39 rfl rfl false 0 4 rfl rfl rfl rfl fun K hK hb1 hb2=>?_;simp only[aj,enc,Nat.reduceAdd]
 simp[ab,V.toD,bnd,aa,D.cells] at hb1
 (repeat' first|refine st ?_|refine sa fun xe hxe=>?_|refine sb (fun hq=>?_) fun hq=>?_|exact True.intro)
 refine al hK [] [0,1,5] (fun i:Nat=>⟨[(0,.lst (.int .i64) c),(1,.lst (.int .i64) l),(5,.int .i64 i)],[],4⟩) (fun i=>i≤l.length∧∀j,j<i→ci c (l.getD j 0)=true) (fun i=>l.length-i) 0 ⟨by simp,by simp⟩ rfl ?_
 rintro i ⟨hi,hall⟩
 by_cases hlt:i<l.length
 ·have hxe:l[i]?=some l[i]:=List.getElem?_eq_getElem hlt
  have hno:ci c l[i]=false→leaS c l=false:=fun h=>by
   unfold leaS
   rw[dZ hlt (by rw[bI hxe];exact h),Bool.false_and]
  have hys:=ck hall (p:=fun j=>ci c (l.getD j 0)) (i:=i)
  simp only[bI hxe] at hys
  generalize l[i]=m at *
  (repeat' first|refine st ?_|refine sa fun xe hxe=>?_|refine sb (fun hq=>?_) fun hq=>?_|exact True.intro|refine cr (wI _ _ _) ?_)
  ·rw[hno hq]
   exact⟨rfl,rfl⟩
  ·exact⟨i+1,⟨by omega,hys hq⟩,by omega,rfl⟩
 ·(repeat' first|refine st ?_|refine sa fun xe hxe=>?_|refine sb (fun hq=>?_) fun hq=>?_|exact True.intro)
  unfold leaS
  rw[cz (fun j hj=>hall j (by omega)),Bool.true_and]
  exact⟨rfl,rfl⟩
theorem ze (c l:List Int):am Try.prog 18 [.lst (.int .i64) c,.lst (.int .i64) l] [] (.bool (comV c && leaS c l)) []:=by
 refine ah ao Try.func18 rfl rfl false 0 4 rfl rfl rfl rfl fun K hK hb1 hb2=>?_;simp only[aj,enc,Nat.reduceAdd]
 (repeat' first|refine st ?_|refine sa fun xe hxe=>?_|refine sb (fun hq=>?_) fun hq=>?_|exact True.intro|refine cr (x5 _) ?_|refine cr (zX _ _) ?_)
 all_goals (refine⟨?_,rfl⟩;simp_all)
theorem wg (c l:List Int):am Try.prog 40 [.lst (.int .i64) c,.lst (.int .i64) l] [] (.bool (comV c && leaS c l)) []:=by
 refine ah ao Try.func40 rfl rfl false 0 4 rfl rfl rfl rfl fun K hK hb1 hb2=>?_;simp only[aj,enc,Nat.reduceAdd]
 simp[ab,V.toD,bnd,aa,D.cells] at hb1
 cases hc:comV c
 ·(repeat' first|refine st ?_|refine sa fun xe hxe=>?_|refine sb (fun hq=>?_) fun hq=>?_|exact True.intro|refine cr (ip _) ?_)
  exact⟨rfl,rfl⟩
 rw[Bool.true_and]
 by_cases h15:15<(l.length:Int)
 ·(repeat' first|refine st ?_|refine sa fun xe hxe=>?_|refine sb (fun hq=>?_) fun hq=>?_|exact True.intro|refine cr (ip _) ?_)
  unfold leaS
  rw[decide_eq_false (by omega),Bool.and_false]
  exact⟨rfl,rfl⟩
 (repeat' first|refine st ?_|refine sa fun xe hxe=>?_|refine sb (fun hq=>?_) fun hq=>?_|exact True.intro|refine cr (ip _) ?_)
 refine al hK [] [0,15,16,17] (fun i:Nat=>⟨[(0,.lst (.int .i64) c),(15,.lst (.int .i64) l),(16,.int .i64 l.length),(17,.int .i64 i)],[],4⟩) (fun i=>i≤l.length∧∀j,j<i→ci c (l.getD j 0)=true) (fun i=>l.length-i) 0 ⟨by simp,by simp⟩ rfl ?_
 rintro i ⟨hi,hall⟩
 by_cases hlt:i<l.length
 ·have hxe:l[i]?=some l[i]:=List.getElem?_eq_getElem hlt
  have hno:ci c l[i]=false→leaS c l=false:=fun h=>by
   unfold leaS
   rw[dZ hlt (by rw[bI hxe];exact h),Bool.false_and]
  have hys:=ck hall (p:=fun j=>ci c (l.getD j 0)) (i:=i)
  simp only[bI hxe] at hys
  generalize l[i]=m at *
  (repeat' first|refine st ?_|refine sa fun xe hxe=>?_|refine sb (fun hq=>?_) fun hq=>?_|exact True.intro|refine cr (cm _ _) ?_)
  ·rw[hno hq]
   exact⟨rfl,rfl⟩
  ·exact⟨i+1,⟨by omega,hys hq⟩,by omega,rfl⟩
 ·(repeat' first|refine st ?_|refine sa fun xe hxe=>?_|refine sb (fun hq=>?_) fun hq=>?_|exact True.intro)
  unfold leaS
  rw[cz (fun j hj=>hall j (by omega)),Bool.true_and,decide_eq_true (by omega)]
  exact⟨rfl,rfl⟩
theorem vC (c:List Int)(hc:comV c=true):am Try.prog 68 [.lst (.int .i64) c] [] (.int .i64 (rc c)) []:=by
 have h1:=kK hc
 have h2:=vw hc
 have h3:(ln c-1).tdiv 3=rc c:=rfl
 refine ah ao Try.func68 rfl rfl false 0 4 rfl rfl rfl rfl fun K hK hb1 hb2=>?_;simp only[aj,enc,Nat.reduceAdd]
 (repeat' first|refine st ?_|refine sa fun xe hxe=>?_|refine sb (fun hq=>?_) fun hq=>?_|exact True.intro|refine cr (tN _ hc) ?_)
 exact⟨rfl,rfl⟩
theorem xg (c:List Int)(b:Int)(hc:comV c=true):am Try.prog 41 [.lst (.int .i64) c,.int .i64 b] [] (.bool (badS c b)) []:=by
 refine ah ao Try.func41 rfl rfl false 0 4 rfl rfl rfl rfl fun K hK hb1 hb2=>?_;simp only[aj,enc,Nat.reduceAdd]
 clear hb1 hb2
 cases h0:b== -1
 ·have hne:b≠-1:=by simpa using h0
  cases h1:ci c b
  ·have:badS c b=false:=by
    rw[Bool.eq_false_iff]
    intro h
    rcases kV.1 h with h|h
    ·exact hne h
    ·rw[ci,aI.2 (by omega)] at h1;cases h1
   rw[this]
   (repeat' first|refine st ?_|refine sa fun xe hxe=>?_|refine sb (fun hq=>?_) fun hq=>?_|exact True.intro|refine cr (cm _ _) ?_)
   exact⟨rfl,rfl⟩
  ·have hm:=aI.1 h1
   have hx2:c[b.toNat]?=some (c.getD b.toNat 0):=by rw[List.getD_eq_getElem?_getD,List.getElem?_eq_getElem (show b.toNat<c.length by omega)];rfl
   have hb:badS c b=decide (c.getD b.toNat 0≤rc c):=by
    rw[Bool.eq_iff_iff,kV,decide_eq_true_eq]
    constructor
    ·rintro(h|⟨-,h⟩)
     ·exact absurd h hne
     ·exact h
    ·intro h;exact .inr ⟨by omega,h⟩
   rw[hb]
   generalize c.getD b.toNat 0=x at *
   (repeat' first|refine st ?_|refine sa fun xe hxe=>?_|refine sb (fun hq=>?_) fun hq=>?_|exact True.intro|refine cr (cm _ _) ?_|refine cr (vC _ hc) ?_)
   exact⟨rfl,rfl⟩
 ·have hb:b= -1:=by simpa using h0
  have:badS c b=true:=kV.2 (.inl hb)
  rw[this]
  (repeat' first|refine st ?_|refine sa fun xe hxe=>?_|refine sb (fun hq=>?_) fun hq=>?_|exact True.intro|refine cr (cm _ _) ?_|refine cr (vC _ hc) ?_)
  all_goals exact⟨rfl,rfl⟩
abbrev py (p:Ppl):V:=.agg [.int .i64 p.v.round,.int .i64 p.v.author,.lst (.int .i64) p.v.parents,.int .i64 p.v.digest,.lst (.int .i64) p.members]
theorem rr (c:List Int)(p:Ppl)(hc:comV c=true)(hm:dr c p.members=true):am Try.prog 37 [py p,.lst (.int .i64) c] [] (.bool (don c p)) []:=by
 have hw:s9 c p.members=qM c p.members:=by simp[s9,hc,hm]
 have hwc:=rY c p.members
 have hqc:=rv c
 rw[hw] at hwc
 rw[hc] at hqc
 refine ah ao Try.func37 rfl rfl false 0 4 rfl rfl rfl rfl fun K hK hb1 hb2=>?_;simp only[aj,enc,Nat.reduceAdd]
 (repeat' first|refine st ?_|refine sa fun xe hxe=>?_|refine sb (fun hq=>?_) fun hq=>?_|exact True.intro|refine cr (hwc) ?_|refine cr (hqc) ?_)
 exact⟨rfl,rfl⟩
theorem my (v u:Vtx):am Try.prog 94 [eL v,eL u] [] (.bool (slt v u)) []:=by
 refine ah ao Try.func94 rfl rfl false 0 4 rfl rfl rfl rfl fun K hK hb1 hb2=>?_;simp only[aj,enc,Nat.reduceAdd]
 (repeat' first|refine st ?_|refine sa fun xe hxe=>?_|refine sb (fun hq=>?_) fun hq=>?_|exact True.intro)
 all_goals (refine⟨?_,rfl⟩;simp_all[slt])
theorem zn (a b:List Int):am Try.prog 98 [.lst (.int .i64) a,.lst (.int .i64) b] [] (.bool (a==b)) []:=by
 refine ah ao Try.func98 rfl rfl false 0 4 rfl rfl rfl rfl fun K hK hb1 hb2=>?_;simp only[aj,enc,Nat.reduceAdd]
 simp[ab,V.toD,bnd,aa,D.cells] at hb1
 by_cases hl:a.length=b.length
 ·(repeat' first|refine st ?_|refine sa fun xe hxe=>?_|refine sb (fun hq=>?_) fun hq=>?_|exact True.intro)
  refine al hK [] [0,1,11,12,13] (fun i:Nat=>⟨[(0,.lst (.int .i64) a),(1,.lst (.int .i64) b),(11,.lst (.int .i64) a),(12,.int .i64 a.length),(13,.int .i64 i)],[],4⟩) (fun i=>i≤a.length∧a.take i=b.take i) (fun i=>a.length-i) 0 ⟨by simp,by simp⟩ rfl ?_
  rintro i ⟨hi,hall⟩
  by_cases hlt:i<a.length
  ·obtain⟨x,hx⟩:∃x,a[i]?=some x:=⟨_,List.getElem?_eq_getElem hlt⟩
   obtain⟨y,hy⟩:∃y,b[i]?=some y:=⟨_,List.getElem?_eq_getElem (by omega)⟩
   (repeat' first|refine st ?_|refine sa fun xe hxe=>?_|refine sb (fun hq=>?_) fun hq=>?_|exact True.intro)
   ·have hne:¬x=y:=hq
    have:(a==b)=false:=by rw[beq_eq_false_iff_ne];rintro rfl;rw[hx] at hy;exact hne (Option.some.inj hy)
    rw[this]
    exact⟨rfl,rfl⟩
   ·subst hq
    exact⟨i+1,⟨by omega,by rw[List.take_add_one,List.take_add_one,hall,hx,hy]⟩,by omega,rfl⟩
  ·(repeat' first|refine st ?_|refine sa fun xe hxe=>?_|refine sb (fun hq=>?_) fun hq=>?_|exact True.intro)
   have hab:a=b:=by rwa [List.take_of_length_le (by omega),List.take_of_length_le (by omega)] at hall
   rw[hab,beq_self_eq_true]
   exact⟨rfl,rfl⟩
 ·(repeat' first|refine st ?_|refine sa fun xe hxe=>?_|refine sb (fun hq=>?_) fun hq=>?_|exact True.intro)
  have:(a==b)=false:=by rw[beq_eq_false_iff_ne];rintro rfl;exact hl rfl
  rw[this]
  exact⟨rfl,rfl⟩
theorem iX (v u:Vtx):am Try.prog 75 [eL v,eL u] [] (.bool (pg v u)) []:=by
 refine ah ao Try.func75 rfl rfl false 0 4 rfl rfl rfl rfl fun K hK hb1 hb2=>?_;simp only[aj,enc,Nat.reduceAdd]
 (repeat' first|refine st ?_|refine sa fun xe hxe=>?_|refine sb (fun hq=>?_) fun hq=>?_|exact True.intro|refine cr (zn _ _) ?_)
 all_goals (refine⟨?_,rfl⟩;simp_all[pg])
theorem ww (l:List Int)(n:Int):am Try.prog 101 [.lst (.int .i64) l,.int .i64 n] [] (.int .i64 (match l.findIdx? (· ==n) with|some i=>(i:Int)|none=>-1)) []:=by
 refine ah ao Try.func101 rfl rfl false 0 4 rfl rfl rfl rfl fun K hK hb1 hb2=>?_;simp only[aj,enc,Nat.reduceAdd]
 simp[ab,V.toD,bnd,aa,D.cells] at hb1
 (repeat' first|refine st ?_|refine sa fun xe hxe=>?_|refine sb (fun hq=>?_) fun hq=>?_|exact True.intro)
 refine al hK [] [0,1,7,8] (fun i:Nat=>⟨[(0,.lst (.int .i64) l),(1,.int .i64 n),(7,.int .i64 l.length),(8,.int .i64 i)],[],4⟩) (fun i=>i≤l.length∧∀y∈l.take i,(y==n)=false) (fun i=>l.length-i) 0 ⟨by simp,by simp⟩ rfl ?_
 rintro i ⟨hi,hall⟩
 by_cases hlt:i<l.length
 ·have hxe:l[i]?=some l[i]:=List.getElem?_eq_getElem hlt
  have h3:l.take (i+1)=l.take i++[l[i]]:=List.take_succ_eq_append_getElem hlt
  have h4:=r8 (l:=l) (p:=(· ==n)) hxe hall
  generalize l[i]=y at *
  by_cases he:n=y
  ·have hb:(n==y)=true:=by simpa using he
   (repeat' first|refine st ?_|refine sa fun xe hxe=>?_|refine sb (fun hq=>?_) fun hq=>?_|exact True.intro)
   rw[h4 (by simpa using he.symm)]
   exact⟨rfl,rfl⟩
  ·have hb:(n==y)=false:=by simpa using he
   (repeat' first|refine st ?_|refine sa fun xe hxe=>?_|refine sb (fun hq=>?_) fun hq=>?_|exact True.intro)
   exact⟨i+1,⟨by omega,by rw[h3];exact cy hall (by simpa using fun h=>he h.symm)⟩,by omega,rfl⟩
 ·(repeat' first|refine st ?_|refine sa fun xe hxe=>?_|refine sb (fun hq=>?_) fun hq=>?_|exact True.intro)
  rw[List.take_of_length_le (by omega)] at hall
  rw[List.findIdx?_eq_none_iff.2 hall]
  exact⟨rfl,rfl⟩
theorem eU (l:List Int)(n:Int):am Try.prog 95 [.lst (.int .i64) l,.int .i64 n] [] (.bool (l.contains n)) []:=by
 refine ah ao Try.func95 rfl rfl false 0 4 rfl rfl rfl rfl fun K hK hb1 hb2=>?_;simp only[aj,enc,Nat.reduceAdd]
 (repeat' first|refine st ?_|refine sa fun xe hxe=>?_|refine sb (fun hq=>?_) fun hq=>?_|exact True.intro|refine cr (ww _ _) ?_)
 refine⟨?_,rfl⟩
 have:l.contains n=(l.findIdx? (· ==n)).isSome:=by
  rw[List.findIdx?_isSome,Bool.eq_iff_iff,List.contains_iff_mem,List.any_eq_true]
  constructor
  ·intro h;exact⟨n,h,by simp⟩
  ·rintro⟨x,h1,h2⟩;rw[beq_iff_eq] at h2;exact h2▸h1
 rw[this]
 cases l.findIdx? (· ==n) with
 |none=>rfl
 |some i=>simp
theorem wS (p q:Ppl)(bad:Int):am Try.prog 71 [py p,py q,.int .i64 bad] [] (.bool (fitP bad p q)) []:=by
 refine ah ao Try.func71 rfl rfl false 0 4 rfl rfl rfl rfl fun K hK hb1 hb2=>?_;simp only[aj,enc,Nat.reduceAdd]
 simp[ab,V.toD,bnd,aa,D.cells] at hb1
 cases h1:slt p.v q.v
 ·have:fitP bad p q=true:=by simp[fitP,h1]
  rw[this]
  (repeat' first|refine st ?_|refine sa fun xe hxe=>?_|refine sb (fun hq=>?_) fun hq=>?_|exact True.intro|refine cr (my _ _) ?_|refine cr (iX _ _) ?_|refine cr (eU _ _) ?_)
  exact⟨rfl,rfl⟩
 cases h2:pg p.v q.v
 ·cases h3:p.v.author==bad
  ·have:fitP bad p q=false:=by simp[fitP,h1,h2,h3]
   rw[this]
   have hn:(p.v.author !=bad)=true:=by rw[bne,h3];rfl
   (repeat' first|refine st ?_|refine sa fun xe hxe=>?_|refine sb (fun hq=>?_) fun hq=>?_|exact True.intro|refine cr (my _ _) ?_|refine cr (iX _ _) ?_|refine cr (eU _ _) ?_)
   exact⟨rfl,rfl⟩
  ·have hf:fitP bad p q= !pj bad p.members q.members:=by simp[fitP,h1,h2,h3]
   rw[hf]
   have hn:(p.v.author !=bad)=false:=by rw[bne,h3];rfl
   (repeat' first|refine st ?_|refine sa fun xe hxe=>?_|refine sb (fun hq=>?_) fun hq=>?_|exact True.intro|refine cr (my _ _) ?_|refine cr (iX _ _) ?_|refine cr (eU _ _) ?_)
   refine al hK [] [2,4,28,29,30] (fun i:Nat=>⟨[(2,.int .i64 bad),(4,.ptr 4 0),(28,.lst (.int .i64) p.members),(29,.int .i64 p.members.length),(30,.int .i64 i)],[(4,.var 61 (py q).cells)],5⟩) (fun i=>i≤p.members.length∧∀m∈p.members.take i,(m !=bad && q.members.contains m)=false) (fun i=>p.members.length-i) 0 ⟨by simp,by simp⟩ rfl ?_
   rintro i ⟨hi,hall⟩
   by_cases hlt:i<p.members.length
   ·have hxe:p.members[i]?=some p.members[i]:=List.getElem?_eq_getElem hlt
    have hsn:p.members.take (i+1)=p.members.take i++[p.members[i]]:=List.take_succ_eq_append_getElem hlt
    have hmm:p.members[i]∈p.members:=List.getElem_mem hlt
    generalize p.members[i]=m at *
    have hyes:(m !=bad && q.members.contains m)=true→pj bad p.members q.members=true:=fun h=>List.any_eq_true.2 ⟨m,hmm,h⟩
    cases h4:m !=bad
    ·(repeat' first|refine st ?_|refine sa fun xe hxe=>?_|refine sb (fun hq=>?_) fun hq=>?_|exact True.intro|refine cr (eU _ _) ?_)
     exact⟨i+1,⟨by omega,by rw[hsn];exact cy hall (by rw[h4];rfl)⟩,by omega,rfl⟩
    ·cases h5:q.members.contains m
     ·have hc5:=eU q.members m
      rw[h5] at hc5
      (repeat' first|refine st ?_|refine sa fun xe hxe=>?_|refine sb (fun hq=>?_) fun hq=>?_|exact True.intro|refine cr (hc5) ?_)
      exact⟨i+1,⟨by omega,by rw[hsn];exact cy hall (by rw[h5,Bool.and_false])⟩,by omega,rfl⟩
     ·have hc5:=eU q.members m
      rw[h5] at hc5
      (repeat' first|refine st ?_|refine sa fun xe hxe=>?_|refine sb (fun hq=>?_) fun hq=>?_|exact True.intro|refine cr (hc5) ?_)
      rw[hyes (by rw[h4,h5];rfl)]
      exact⟨rfl,rfl⟩
   ·(repeat' first|refine st ?_|refine sa fun xe hxe=>?_|refine sb (fun hq=>?_) fun hq=>?_|exact True.intro)
    rw[List.take_of_length_le (by omega)] at hall
    have:pj bad p.members q.members=false:=by
     rw[Bool.eq_false_iff]
     intro h
     obtain⟨m,hm,h⟩:=List.any_eq_true.1 h
     rw[hall m hm] at h
     cases h
    rw[this]
    exact⟨rfl,rfl⟩
 ·have:fitP bad p q=false:=by simp[fitP,h1,h2]
  rw[this]
  (repeat' first|refine st ?_|refine sa fun xe hxe=>?_|refine sb (fun hq=>?_) fun hq=>?_|exact True.intro|refine cr (my _ _) ?_|refine cr (iX _ _) ?_|refine cr (eU _ _) ?_)
  exact⟨rfl,rfl⟩
abbrev dT (w:Wrl):V:=.agg [.lst (.int .i64) w.com,.lst (.int .i64) w.lead,.int .i64 w.bad,.lst (.lst .vtx) w.views,.lst .ppl w.props]
theorem uN (c:List Int)(p:Ppl)(hc:comV c=true):(comV c && vtxS c p.v)=vtxS c p.v∧(comV c && dr c p.members)=dr c p.members:=by simp[hc]
theorem wk (w:Wrl)(hc:comV w.com=true):am Try.prog 42 [dT w] [] (.bool (ge w.com w.bad w.props)) []:=by
 refine ah ao Try.func42 rfl rfl false 0 4 rfl rfl rfl rfl fun K hK hb1 hb2=>?_;simp only[aj,enc,Nat.reduceAdd]
 simp[ab,V.toD,bnd,aa,D.cells] at hb1
 by_cases h220:220<(w.props.length:Int)
 ·(repeat' first|refine st ?_|refine sa fun xe hxe=>?_|refine sb (fun hq=>?_) fun hq=>?_|exact True.intro)
  unfold ge
  rw[decide_eq_false (by omega),Bool.and_false]
  exact⟨rfl,rfl⟩
 have hps:ge w.com w.bad w.props=cK w.props.length (fl w.com w.bad w.props):=by
  unfold ge
  rw[decide_eq_true (by omega),Bool.and_true]
 rw[hps]
 (repeat' first|refine st ?_|refine sa fun xe hxe=>?_|refine sb (fun hq=>?_) fun hq=>?_|exact True.intro)
 refine al hK [] [1,12,13,14] (fun i:Nat=>⟨[(1,.ptr 4 0),(12,.lst .ppl w.props),(13,.int .i64 w.props.length),(14,.int .i64 i)],[(4,.var 26 (dT w).cells)],5⟩) (fun i=>i≤w.props.length∧∀j,j<i→fl w.com w.bad w.props j=true) (fun i=>w.props.length-i) 0 ⟨by simp,by simp⟩ rfl ?_
 rintro i ⟨hi,hall⟩
 by_cases hlt:i<w.props.length
 ·have hxe:w.props[i]?=some w.props[i]:=List.getElem?_eq_getElem hlt
  have hno:fl w.com w.bad w.props i=false→V.bool false=V.bool (cK w.props.length (fl w.com w.bad w.props))∧([]:VH)=[]:=fun h=>⟨by rw[dZ hlt h],rfl⟩
  have hA:fl w.com w.bad w.props i=(oneP w.com w.props[i] && cK i (fun k=>fitP w.bad w.props[i] (w.props.getD k p0))):=by simp only[fl,bI hxe]
  generalize w.props[i]=p at *
  have hvc:=fB w.com p.v
  have hmc:=jY w.com p.members
  rw[(uN _ p hc).1] at hvc
  rw[(uN _ p hc).2] at hmc
  cases h1:vtxS w.com p.v
  ·(repeat' first|refine st ?_|refine sa fun xe hxe=>?_|refine sb (fun hq=>?_) fun hq=>?_|exact True.intro|refine cr (hvc) ?_|refine cr (hmc) ?_)
   exact hno (by simp[hA,oneP,h1])
  cases h2:dr w.com p.members
  ·(repeat' first|refine st ?_|refine sa fun xe hxe=>?_|refine sb (fun hq=>?_) fun hq=>?_|exact True.intro|refine cr (hvc) ?_|refine cr (hmc) ?_)
   exact hno (by simp[hA,oneP,h2])
  have e1:tW w.props none (some (.int .i64 i)) 0 (i:Int).toNat=w.props.take i:=by simp[tW]
  have hl1:(w.props.take i).length=i:=by rw[List.length_take];omega
  (repeat' first|refine st ?_|refine sa fun xe hxe=>?_|refine sb (fun hq=>?_) fun hq=>?_|exact True.intro|refine cr (hvc) ?_|refine cr (hmc) ?_)
  refine al hK [] [1,4,12,13,14,36,37,38] (fun k:Nat=>⟨[(1,.ptr 4 0),(4,.ptr 5 0),(12,.lst .ppl w.props),(13,.int .i64 w.props.length),(14,.int .i64 i),(36,.lst .ppl (w.props.take i)),(37,.int .i64 i),(38,.int .i64 k)],[(4,.var 26 (dT w).cells),(5,.var 61 (py p).cells)],6⟩) (fun k=>k≤i∧∀j,j<k→fitP w.bad p (w.props.getD j p0)=true) (fun k=>i-k) 0 ⟨by simp,by simp⟩ (by simp only[e1,hl1];rfl) ?_
  rintro k ⟨hk,hkall⟩
  by_cases hkl:k<i
  ·have hxk:(w.props.take i)[k]?=some (w.props.getD k p0):=by rw[List.getElem?_take,if_pos hkl,List.getD_eq_getElem?_getD,List.getElem?_eq_getElem (show k<w.props.length by omega)];rfl
   have hyes:=ck hkall (p:=fun j=>fitP w.bad p (w.props.getD j p0)) (i:=k)
   have hnk:fitP w.bad p (w.props.getD k p0)=false→V.bool false=V.bool (cK w.props.length (fl w.com w.bad w.props))∧([]:VH)=[]:=fun h=>hno (by rw[hA,dZ hkl h,Bool.and_false])
   generalize w.props.getD k p0=q at *
   have hcq:=wS q p w.bad
   rw[sT] at hcq
   generalize w.props.take i=pt at *
   cases h3:fitP w.bad p q
   ·rw[h3] at hcq
    (repeat' first|refine st ?_|refine sa fun xe hxe=>?_|refine sb (fun hq=>?_) fun hq=>?_|exact True.intro|refine cr (hcq) ?_)
    exact hnk h3
   ·rw[h3] at hcq
    (repeat' first|refine st ?_|refine sa fun xe hxe=>?_|refine sb (fun hq=>?_) fun hq=>?_|exact True.intro|refine cr (hcq) ?_)
    exact⟨k+1,⟨by omega,hyes h3⟩,by omega,rfl⟩
  ·have hAt:fl w.com w.bad w.props i=true:=by
    rw[hA,cz (fun j hj=>hkall j (by omega)),oneP,h1,h2]
    rfl
   (repeat' first|refine st ?_|refine sa fun xe hxe=>?_|refine sb (fun hq=>?_) fun hq=>?_|exact True.intro)
   exact⟨i+1,⟨by omega,ck hall hAt⟩,by omega,rfl⟩
 ·(repeat' first|refine st ?_|refine sa fun xe hxe=>?_|refine sb (fun hq=>?_) fun hq=>?_|exact True.intro)
  rw[cz (fun j hj=>hall j (by omega))]
  exact⟨rfl,rfl⟩
end Go.Proofs.Ytgfcmhjebbncpaa.Am
namespace Go.Proofs.Ytgfcmhjebbncpaa.Am
open Go
def bw (g:List Vtx):List (Option Vtx):=g.foldl (fun t v=>t.set (v.round*7+v.author).toNat (some v)) (List.replicate 217 none)
theorem eF (g:List Vtx)(v:Vtx):bw (g++[v])=(bw g).set (v.round*7+v.author).toNat (some v):=by simp[bw]
theorem fx (g:List Vtx):(bw g).length=217:=by
 induction g using ep with
 |h0=>exact List.length_replicate
 |h l x ih=>rw[eF,List.length_set,ih]
def nw (tab:List (Option Vtx))(v:Vtx):Bool:=v.parents.all fun p=>(tab.getD ((v.round-1)*7+p).toNat none).isSome
def z7 (b:Int)(tabs:List (List (Option Vtx)))(v:Vtx)(ms:List Int):Bool:=ms.all fun m=>m==b||nw (tabs.getD m.toNat []) v
def sN (b:Int)(tabs:List (List (Option Vtx)))(ps:List Ppl):Bool:=ps.all fun p=>z7 b tabs p.v (p.v.author::p.members)
def AE (n:Nat)(p:Ppl):Prop:=(∀m∈p.v.author::p.members,0≤m∧m<n)∧(p.v.parents≠[]→1≤p.v.round∧p.v.round≤31)∧(∀q∈p.v.parents,0≤q∧q≤6)∧p.members.length≤1000000∧p.v.parents.length≤1000000
def aL (tab:List (Option Vtx)):List Vtx:=tab.filterMap id
theorem jU:∀{l:List (Option Vtx)},(∀x∈l,x=none)→l.filterMap id=[]
 |[],_=>rfl
 |x::l,h=>by
  rw[h x (List.mem_cons_self ..),List.filterMap_cons_none rfl]
  exact jU fun y hy=>h y (List.mem_cons_of_mem _ hy)
theorem mz (l:List (Option Vtx))(y:Vtx):(some y::l).filterMap id=y::l.filterMap id:=List.filterMap_cons_some (f:=id) rfl
theorem vF:∀{l:List (Option Vtx)} {k:Nat} {v:Vtx},k<l.length→(∀j,k≤j→l.getD j none=none)→(l.set k (some v)).filterMap id=l.filterMap id++[v]
 |[],_,_,h,_=>absurd h (Nat.not_lt_zero _)
 |x::l,0,v,_,h=>by
  have hn:∀y∈x::l,y=none:=fun y hy=>by
   obtain⟨j,hj,rfl⟩:=bY (d:=none) hy
   exact h j (Nat.zero_le _)
  rw[jU hn,List.set_cons_zero,mz,jU fun y hy=>hn y (List.mem_cons_of_mem _ hy)]
  rfl
 |x::l,k+1,v,hk,h=>by
  have ih:=vF (l:=l) (k:=k) (v:=v) (by simpa using hk) fun j hj=>by
   have:=h (j+1) (by omega)
   simpa using this
  rw[List.set_cons_succ]
  cases x with
  |none=>rw[List.filterMap_cons_none rfl,List.filterMap_cons_none rfl,ih]
  |some y=>rw[mz,mz,ih];rfl
theorem s0 {g:List Vtx}{j:Nat}(h:∀v∈g,(v.round*7+v.author).toNat≠j):(bw g).getD j none=none:=by
 induction g using ep with
 |h0=>
  simp only[bw,List.foldl_nil,List.getD_eq_getElem?_getD,List.getElem?_replicate]
  split<;>rfl
 |h l x ih=>
  rw[eF,List.getD_eq_getElem?_getD,List.getElem?_set_ne (h x (by simp)),←List.getD_eq_getElem?_getD]
  exact ih fun v hv=>h v (List.mem_append.2 (.inl hv))
theorem wQ {g:List Vtx}(hg:∀v∈g,lG v)(hs:g.Pairwise fun a b=>bef a b=true):aL (bw g)=g:=by
 induction g using ep with
 |h0=>exact jU fun x hx=>List.eq_of_mem_replicate hx
 |h l x ih=>
  obtain⟨s1,-,s3⟩:=List.pairwise_append.1 hs
  have ih:=ih (fun v hv=>hg v (List.mem_append.2 (.inl hv))) s1
  obtain⟨⟨x1,x2⟩,x3,x4⟩:=hg x (by simp)
  rw[eF,aL,vF (by rw[fx];omega) fun j hj=>s0 fun v hv=>?_]
  ·exact congrArg (· ++[x]) ih
  ·have hb:=s3 v hv x (by simp)
   obtain⟨⟨v1,v2⟩,v3,v4⟩:=hg v (List.mem_append.2 (.inl hv))
   simp only[bef,Bool.or_eq_true,Bool.and_eq_true,decide_eq_true_eq] at hb
   omega
def ey (w:Wrl):Bool:=dD w.com w.lead w.bad && (ge w.com w.bad w.props && ((w.views.length==w.com.length) && f8 w.com w.bad w.props w.views))
theorem ja {w:Wrl}(h:ey w=true):comV w.com=true∧leaS w.com w.lead=true∧badS w.com w.bad=true∧ge w.com w.bad w.props=true∧w.views.length=w.com.length∧f8 w.com w.bad w.props w.views=true:=by
 simp only[ey,dD,Bool.and_eq_true,beq_iff_eq] at h
 obtain⟨⟨h1,h2,h3⟩,h4,h5,h6⟩:=h
 exact⟨h1,h2,h3,h4,h5,h6⟩
theorem rJ {c:List Int}{g:List Vtx}(h:graS c g=true):∀v∈g,vtxS c v=true:=by
 intro v hv
 obtain⟨j,hj,rfl⟩:=bY (d:=v0) hv
 simp only[graS,Bool.and_eq_true,a7] at h
 have:=h.2 j hj
 simp only[li,Bool.and_eq_true] at this
 exact this.1
theorem ra {w:Wrl}(h:ey w=true):∀g∈w.views,graS w.com g=true:=by
 obtain⟨-,-,-,-,-,h6⟩:=ja h
 intro g hg
 obtain⟨j,hj,rfl⟩:=bY (d:=[]) hg
 simp only[f8,a7,Bool.and_eq_true] at h6
 have:=(h6 j hj).1
 simp only[qw,Bool.and_eq_true] at this
 exact this.2
theorem gg {α:Type}[BEq α][LawfulBEq α]:∀{a b:List α},a.Nodup→a⊆b→a.length≤b.length
 |[],_,_,_=>Nat.zero_le _
 |x::a,b,h,hs=>by
  rw[List.nodup_cons] at h
  have hx:x∈b:=hs (List.mem_cons_self ..)
  have:=gg (b:=b.erase x) h.2 fun y hy=>by
   have hne:y≠x:=fun e=>h.1 (e▸hy)
   exact(List.mem_erase_of_ne hne).2 (hs (List.mem_cons_of_mem _ hy))
  rw[List.length_erase_of_mem hx] at this
  have:=List.length_pos_of_mem hx
  simp only[List.length_cons]
  omega
theorem lZ {c ms:List Int}(h:dr c ms=true):ms.length≤c.length:=by
 have h1:=d6 h
 have h2:ms⊆(List.range c.length).map fun n:Nat=>(n:Int):=fun m hm=>by
  have:=h1 m hm
  rw[List.mem_map]
  exact⟨m.toNat,by rw[List.mem_range];omega,by omega⟩
 have h3:ms.Nodup:=(o5 h).imp fun hab=>by omega
 have:=gg h3 h2
 simpa using this
theorem nv {c:List Int}{v:Vtx}(hc:comV c=true)(h:vtxS c v=true):v.parents.length≤7:=by
 obtain⟨-,-,h3,-⟩:=dB h
 have:=lZ h3
 have:=(aE.1 hc).2
 omega
theorem jT {w:Wrl}(h:ey w=true):∀g∈w.views,∀v∈g,lG v∧v.parents.length≤1000:=fun g hg v hv=>by
 have hc:=(ja h).1
 have h1:=rJ (ra h g hg) v hv
 exact⟨ia hc h1,by have:=nv hc h1;omega⟩
theorem wV {c:List Int}{b:Int}{ps:List Ppl}(h:ge c b ps=true):∀p∈ps,oneP c p=true:=by
 intro p hp
 obtain⟨j,hj,rfl⟩:=bY (d:=p0) hp
 simp only[ge,Bool.and_eq_true,a7] at h
 have:=h.1 j hj
 simp only[fl,Bool.and_eq_true] at this
 exact this.1
theorem mt {c:List Int}{b:Int}{ps:List Ppl}(h:ge c b ps=true):ps.length≤220:=by
 simp only[ge,Bool.and_eq_true,decide_eq_true_eq] at h
 omega
theorem wi {c:List Int}{p:Ppl}(hc:comV c=true)(h:oneP c p=true):AE c.length p:=by
 simp only[oneP,Bool.and_eq_true] at h
 obtain⟨h1,h2⟩:=h
 have h7:=(aE.1 hc).2
 have hl:=nv hc h1
 obtain⟨v1,v2,v3,v4,v5,v6⟩:=dB h1
 have hml:=lZ h2
 refine⟨fun m hm=>?_,fun hne=>?_,fun q hq=>?_,by omega,by omega⟩
 ·rcases List.mem_cons.1 hm with rfl|hm
  ·omega
  ·exact d6 h2 m hm
 ·by_cases h0:p.v.round=0
  ·exact absurd (v5 h0) hne
  ·omega
 ·have:=d6 v3 q hq
  omega
theorem nJ {w:Wrl}(h:ey w=true):∀p∈w.props,AE w.views.length p:=by
 obtain⟨hc,-,-,h4,h5,-⟩:=ja h
 rw[h5]
 exact fun p hp=>wi hc (wV h4 p hp)
end Go.Proofs.Ytgfcmhjebbncpaa.Am
namespace Go.Proofs.Ytgfcmhjebbncpaa.Am
open Go
attribute [local irreducible] Mk bC Ari d8 pN jt cf ee gx iI At am
set_option maxRecDepth 10000
theorem uU (c:List Int)(g:List Vtx)(hl:g.length≤2000000):am Try.prog 72 [.lst (.int .i64) c,.lst .vtx g] [] (.bool (graS c g)) []:=by
 have hL:=xY c g hl
 refine ah dx Try.func72 rfl rfl false 0 4 rfl rfl rfl rfl fun K hK hb1 hb2=>?_;simp only[aj,enc,Nat.reduceAdd]
 clear hb1 hb2
 cases hg:graS c g
 ·simp only[xy,xG,hg,Bool.false_eq_true,if_false] at hL
  (repeat' first|refine jZ ?_|refine sa fun xe hxe=>?_|refine sb (fun hq=>?_) fun hq=>?_|exact True.intro|refine cr (hL) ?_)
  exact⟨rfl,rfl⟩
 ·simp only[xy,xG,hg,if_true] at hL
  cases g with
  |nil=>
   (repeat' first|refine jZ ?_|refine sa fun xe hxe=>?_|refine sb (fun hq=>?_) fun hq=>?_|exact True.intro|refine cr (hL) ?_)
   exact⟨rfl,rfl⟩
  |cons v g=>
   (repeat' first|refine jZ ?_|refine sa fun xe hxe=>?_|refine sb (fun hq=>?_) fun hq=>?_|exact True.intro|refine cr (hL) ?_)
   exact⟨rfl,rfl⟩
abbrev nD (w:Wrl)(v:Vtx):VH:=[(4,.var 59 [.int .i64 v.round,.int .i64 v.author,.lst (.int .i64) v.parents,.int .i64 v.digest]),(5,.var 26 [.lst (.int .i64) w.com,.lst (.int .i64) w.lead,.int .i64 w.bad,.lst (.lst .vtx) w.views,.lst .ppl w.props])]
theorem zH (w:Wrl)(v:Vtx)(p:Ppl)(hc:comV w.com=true)(hm:dr w.com p.members=true):am Try.prog 74 [py p,.ptr 4 0,.ptr 5 0] (nD w v) (.bool (pg p.v v && don w.com p)) (nD w v):=by
 refine ah ao Try.func74 rfl rfl false 2 6 rfl rfl rfl rfl fun K hK hb1 hb2=>?_;simp only[aj,enc,Nat.reduceAdd]
 clear hb1 hb2
 cases h1:pg p.v v
 ·(repeat' first|refine st ?_|refine sa fun xe hxe=>?_|refine sb (fun hq=>?_) fun hq=>?_|exact True.intro|refine cr (iX _ _) ?_|refine cr (rr _ _ hc hm) ?_)
  exact⟨rfl,rfl⟩
 ·(repeat' first|refine st ?_|refine sa fun xe hxe=>?_|refine sb (fun hq=>?_) fun hq=>?_|exact True.intro|refine cr (iX _ _) ?_|refine cr (rr _ _ hc hm) ?_)
  exact⟨rfl,rfl⟩
theorem yA (w:Wrl)(v:Vtx)(ps:List Ppl)(hc:comV w.com=true)(hm:∀p∈ps,dr w.com p.members=true):am Try.prog 97 [.lst .ppl ps,.clo 74 [.ptr 4 0,.ptr 5 0]] (nD w v)
  (.int .i64 (match ps.findIdx? (fun p=>pg p.v v && don w.com p) with|some i=>(i:Int)|none=>-1)) (nD w v):=by
 refine ah ao Try.func97 rfl rfl false 2 6 rfl rfl rfl rfl fun K hK hb1 hb2=>?_;simp only[aj,enc,Nat.reduceAdd]
 clear hb2
 simp[ab,V.toD,bnd,aa,D.cells] at hb1
 (repeat' first|refine st ?_|refine sa fun xe hxe=>?_|refine sb (fun hq=>?_) fun hq=>?_|exact True.intro)
 refine al hK [] [0,1,7,8] (fun i:Nat=>⟨[(0,.lst .ppl ps),(1,.clo 74 [.ptr 4 0,.ptr 5 0]),(7,.int .i64 ps.length),(8,.int .i64 i)],nD w v,6⟩) (fun i=>i≤ps.length∧∀y∈ps.take i,(pg y.v v && don w.com y)=false) (fun i=>ps.length-i) 0 ⟨by simp,by simp⟩ rfl ?_
 rintro i ⟨hi,hall⟩
 by_cases hlt:i<ps.length
 ·have hxe:ps[i]?=some ps[i]:=List.getElem?_eq_getElem hlt
  have h3:ps.take (i+1)=ps.take i++[ps[i]]:=List.take_succ_eq_append_getElem hlt
  have h4:=r8 (l:=ps) (p:=fun p=>pg p.v v && don w.com p) hxe hall
  have h5:=hm _ (List.getElem_mem hlt)
  generalize ps[i]=p at *
  have hv:=zH w v p hc h5
  cases h6:pg p.v v && don w.com p
  ·rw[h6] at hv
   (repeat' first|refine st ?_|refine sa fun xe hxe=>?_|refine sb (fun hq=>?_) fun hq=>?_|exact True.intro|refine cr (hv) ?_)
   exact⟨i+1,⟨by omega,by rw[h3];exact cy hall h6⟩,by omega,rfl⟩
  ·rw[h6] at hv
   (repeat' first|refine st ?_|refine sa fun xe hxe=>?_|refine sb (fun hq=>?_) fun hq=>?_|exact True.intro|refine cr (hv) ?_)
   rw[h4 h6]
   exact⟨rfl,rfl⟩
 ·(repeat' first|refine st ?_|refine sa fun xe hxe=>?_|refine sb (fun hq=>?_) fun hq=>?_|exact True.intro)
  rw[List.take_of_length_le (by omega)] at hall
  rw[List.findIdx?_eq_none_iff.2 hall]
  exact⟨rfl,rfl⟩
theorem zO (w:Wrl)(v:Vtx)(ps:List Ppl)(hc:comV w.com=true)(hm:∀p∈ps,dr w.com p.members=true):am Try.prog 73 [.lst .ppl ps,.clo 74 [.ptr 4 0,.ptr 5 0]] (nD w v)
  (.bool (knw w.com ps v)) (nD w v):=by
 have hk:knw w.com ps v=(ps.findIdx? (fun p=>pg p.v v && don w.com p)).isSome:=by
  rw[List.findIdx?_isSome,knw]
  congr 1
  funext p
  rw[Bool.and_comm]
 refine ah ao Try.func73 rfl rfl false 2 6 rfl rfl rfl rfl fun K hK hb1 hb2=>?_;simp only[aj,enc,Nat.reduceAdd]
 (repeat' first|refine st ?_|refine sa fun xe hxe=>?_|refine sb (fun hq=>?_) fun hq=>?_|exact True.intro|refine cr (yA _ _ _ hc hm) ?_)
 refine⟨?_,rfl⟩
 rw[hk]
 cases ps.findIdx? (fun p=>pg p.v v && don w.com p) with
 |none=>rfl
 |some i=>simp
theorem w7 (w:Wrl)(hc:comV w.com=true)(hp:ge w.com w.bad w.props=true)(hl:∀g∈w.views,g.length≤2000000):am Try.prog 43 [dT w] [] (.bool ((w.views.length==w.com.length) && f8 w.com w.bad w.props w.views)) []:=by
 have hm:∀p∈w.props,dr w.com p.members=true:=fun p hpp=>by
  obtain⟨i,hi,rfl⟩:=bY (d:=p0) hpp
  simp only[ge,Bool.and_eq_true,a7] at hp
  have:=hp.1 i hi
  simp only[fl,oneP,Bool.and_eq_true] at this
  exact this.1.2
 have h7:=(aE.1 hc).2
 refine ah ao Try.func43 rfl rfl false 0 4 rfl rfl rfl rfl fun K hK hb1 hb2=>?_;simp only[aj,enc,Nat.reduceAdd]
 simp[ab,V.toD,bnd,aa,D.cells] at hb1
 by_cases hlen:w.views.length=w.com.length
 ·have hb:(w.views.length==w.com.length)=true:=by simpa using hlen
  rw[hb,Bool.true_and]
  (repeat' first|refine st ?_|refine sa fun xe hxe=>?_|refine sb (fun hq=>?_) fun hq=>?_|exact True.intro)
  refine al hK [] [1,16,17,18] (fun i:Nat=>⟨[(1,.ptr 4 0),(16,.lst (.lst .vtx) w.views),(17,.int .i64 w.views.length),(18,.int .i64 i)],[(4,.var 26 (dT w).cells)],5⟩)
   (fun i=>i≤w.views.length∧∀j,j<i→(qw w.com w.props (w.views.getD j []) && (!((j:Int)==w.bad)||(w.views.getD j []).isEmpty))=true) (fun i=>w.views.length-i) 0 ⟨by simp,by simp⟩ rfl ?_
  rintro i ⟨hi,hall⟩
  by_cases hlt:i<w.views.length
  ·have hxe:w.views[i]?=some (w.views.getD i []):=by rw[List.getD_eq_getElem?_getD,List.getElem?_eq_getElem hlt];rfl
   have hgl:=hl _ (List.mem_of_getElem? hxe)
   have hno:(qw w.com w.props (w.views.getD i []) && (!((i:Int)==w.bad)||(w.views.getD i []).isEmpty))=false→V.bool false=V.bool (f8 w.com w.bad w.props w.views)∧([]:VH)=[]:=fun h=>⟨by unfold f8;rw[dZ hlt h],rfl⟩
   have hyes:=ck hall (p:=fun j=>qw w.com w.props (w.views.getD j []) && (!((j:Int)==w.bad)||(w.views.getD j []).isEmpty)) (i:=i)
   generalize w.views.getD i []=g at *
   have hvv:qw w.com w.props g=(g.all (knw w.com w.props) && graS w.com g):=rfl
   cases h1:graS w.com g
   ·(repeat' first|refine st ?_|refine sa fun xe hxe=>?_|refine sb (fun hq=>?_) fun hq=>?_|exact True.intro|refine cr (uU _ _ hgl) ?_)
    exact hno (by rw[hvv,h1,Bool.and_false,Bool.false_and])
   have hem:g.isEmpty=decide ((g.length:Int)=0):=by cases g<;>simp;omega
   by_cases h2:(i:Int)=w.bad∧¬(g.length:Int)=0
   ·have hb1:((i:Int)==w.bad)=true:=by simpa using h2.1
    (repeat' first|refine st ?_|refine sa fun xe hxe=>?_|refine sb (fun hq=>?_) fun hq=>?_|exact True.intro|refine cr (uU _ _ hgl) ?_)
    exact hno (by rw[hb1,hem,decide_eq_false h2.2];simp)
   have hok2:(!((i:Int)==w.bad)||g.isEmpty)=true:=by
    rw[hem]
    by_cases hb:(i:Int)=w.bad
    ·have:(g.length:Int)=0:=Classical.byContradiction fun h=>h2 ⟨hb,h⟩
     simp[this]
    ·simp[hb]
   have hkn:∀v,am Try.prog 73 [.lst .ppl w.props,.clo 74 [.ptr 4 0,.ptr 5 0]] (nD w v) (.bool (knw w.com w.props v)) (nD w v):=fun v=>zO w v _ hc hm
   (repeat' first|refine st ?_|refine sa fun xe hxe=>?_|refine sb (fun hq=>?_) fun hq=>?_|exact True.intro|refine cr (uU _ _ hgl) ?_)
   all_goals
    refine al hK [] [1,16,17,18,39,40,41] (fun k:Nat=>⟨[(1,.ptr 4 0),(16,.lst (.lst .vtx) w.views),(17,.int .i64 w.views.length),(18,.int .i64 i),(39,.lst .vtx g),(40,.int .i64 g.length),(41,.int .i64 k)],[(4,.var 26 (dT w).cells)],5⟩)
     (fun k=>k≤g.length∧∀v∈g.take k,knw w.com w.props v=true) (fun k=>g.length-k) 0 ⟨by simp,by simp⟩ rfl ?_
    rintro k ⟨hk,hkall⟩
    by_cases hkl:k<g.length
    ·have hxk:g[k]?=some g[k]:=List.getElem?_eq_getElem hkl
     have hsn:g.take (k+1)=g.take k++[g[k]]:=List.take_succ_eq_append_getElem hkl
     have hvm:g[k]∈g:=List.getElem_mem hkl
     generalize g[k]=v at *
     have hkv:=hkn v
     cases h3:knw w.com w.props v
     ·rw[h3] at hkv
      (repeat' first|refine st ?_|refine sa fun xe hxe=>?_|refine sb (fun hq=>?_) fun hq=>?_|exact True.intro|refine cr (hkv) ?_)
      have:g.all (knw w.com w.props)=false:=by
       rw[Bool.eq_false_iff]
       intro h
       rw[List.all_eq_true.1 h v hvm] at h3
       cases h3
      exact hno (by rw[hvv,this,Bool.false_and,Bool.false_and])
     ·rw[h3] at hkv
      (repeat' first|refine st ?_|refine sa fun xe hxe=>?_|refine sb (fun hq=>?_) fun hq=>?_|exact True.intro|refine cr (hkv) ?_)
      exact⟨k+1,⟨by omega,by rw[hsn];exact cy hkall h3⟩,by omega,rfl⟩
    ·rw[List.take_of_length_le (by omega)] at hkall
     (repeat' first|refine st ?_|refine sa fun xe hxe=>?_|refine sb (fun hq=>?_) fun hq=>?_|exact True.intro)
     exact⟨i+1,⟨by omega,hyes (by rw[hvv,List.all_eq_true.2 hkall,h1,hok2];rfl)⟩,by omega,rfl⟩
  ·(repeat' first|refine st ?_|refine sa fun xe hxe=>?_|refine sb (fun hq=>?_) fun hq=>?_|exact True.intro)
   unfold f8
   rw[cz (fun j hj=>hall j (by omega))]
   exact⟨rfl,rfl⟩
 ·have hb:(w.views.length==w.com.length)=false:=by simpa using hlen
  rw[hb,Bool.false_and]
  (repeat' first|refine st ?_|refine sa fun xe hxe=>?_|refine sb (fun hq=>?_) fun hq=>?_|exact True.intro)
  exact⟨rfl,rfl⟩
theorem lH (v:Vtx)(hl:v.parents.length≤1000000):am Try.prog 76 [eL v] [] (.agg [.int .i64 v.round,.int .i64 v.author,.ref 4,.int .i64 v.digest]) [(4,.row 3 (.int .i64) v.parents)]:=by
 refine ah ao Try.func76 rfl rfl false 0 4 rfl rfl rfl rfl fun K hK hb1 hb2=>?_;simp only[aj,enc,Nat.reduceAdd]
 (repeat' first|refine st ?_|refine sa fun xe hxe=>?_|refine sb (fun hq=>?_) fun hq=>?_|exact True.intro)
 exact⟨rfl,rfl⟩
theorem xx (g:List Vtx)(hg:∀v∈g,lG v∧v.parents.length≤1000):am Try.prog 45 [.lst .vtx g] [] (.ptr 4 0) [(4,.vari 108 [] 217 (.ob .vtx) (bw g) [])]:=by
 refine ah ao Try.func45 rfl rfl false 0 4 rfl rfl rfl rfl fun K hK hb1 hb2=>?_;simp only[aj,enc,Nat.reduceAdd]
 simp[ab,V.toD,bnd,aa,D.cells] at hb1
 (repeat' first|refine st ?_|refine sa fun xe hxe=>?_|refine sb (fun hq=>?_) fun hq=>?_|exact True.intro)
 refine vD 4 0 217 (.ob .vtx) ?_
 ((conv=>whnf);refine yc (by kernel_rfl) ?_;(conv=>whnf))
 refine al hK [] [3,9,10,11] (fun i:Nat=>⟨[(3,.ptr 4 0),(9,.lst .vtx g),(10,.int .i64 g.length),(11,.int .i64 (i:Int))],[(4,.vari 108 [] 217 (.ob .vtx) (bw (g.take i)) [])],5⟩) (fun i=>i≤g.length) (fun i=>g.length-i) 0 (by simp) rfl ?_
 intro i hi
 by_cases hlt:i<g.length
 ·have hxe:g[i]?=some g[i]:=List.getElem?_eq_getElem hlt
  have hsn:g.take (i+1)=g.take i++[g[i]]:=List.take_succ_eq_append_getElem hlt
  obtain⟨⟨⟨v1,v2⟩,v3,v4⟩,v5⟩:=hg _ (List.getElem_mem hlt)
  have hl2:=fx (g.take i)
  have hst:bw (g.take (i+1))=(bw (g.take i)).set (g[i].round*7+g[i].author).toNat (some g[i]):=by rw[hsn,eF]
  generalize g[i]=v at *
  generalize bw (g.take i)=s at *
  (repeat' first|refine st ?_|refine sa fun xe hxe=>?_|refine sb (fun hq=>?_) fun hq=>?_|exact True.intro|((with_reducible refine eK ?_);(conv=>whnf);(first|with_reducible refine bn (lH _ (by omega)) ?_);conv=>whnf))
  refine⟨i+1,by omega,by omega,?_⟩
  have hix:(v.round*7+v.author).toNat=v.round.toNat * 7+v.author.toNat:=by omega
  rw[hst,hix]
  rfl
 ·rw[List.take_of_length_le (by omega)]
  (repeat' first|refine st ?_|refine sa fun xe hxe=>?_|refine sb (fun hq=>?_) fun hq=>?_|exact True.intro)
  exact⟨rfl,rfl⟩

end Go.Proofs.Ytgfcmhjebbncpaa.Am
