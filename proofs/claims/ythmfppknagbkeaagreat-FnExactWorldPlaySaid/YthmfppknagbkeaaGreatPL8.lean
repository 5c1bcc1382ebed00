/- Runs: the laws' own functions. The exact laws' own functions, on own rows within own rows. The exact laws' own functions: marks on own rows within own rows. The exact laws' own functions: whether the marks are there. Runs: what the specification's functions give. -/
import Derived.Test.YthmfppknagbkeaaGreatPL7
set_option linter.unusedSimpArgs false
set_option linter.unusedVariables false
set_option maxHeartbeats 1000000
namespace Go.Proofs.YthmfppknagbkeaaGreat.Am
open Go
attribute [local irreducible] Mk bS Ari eQ pS kR cw eG jf jg At ai
set_option maxRecDepth 10000
theorem lK {α:Type}{f:α→Nat}{l:List α}{i:Nat}{x:α}(h:l[i]?=some x):((l.take (i+1)).map f).sum=((l.take i).map f).sum+f x:=by
 obtain⟨hl,rfl⟩:=List.getElem?_eq_some_iff.1 h
 rw[List.take_succ_eq_append_getElem hl,List.map_append,List.sum_append]
 simp
theorem rh {α:Type}(f:α→Nat)(l:List α)(i:Nat):((l.take i).map f).sum≤(l.map f).sum:=by
 conv=>rhs;rw[←List.take_append_drop i l,List.map_append,List.sum_append]
 omega
theorem w8 {α:Type}{f:α→Nat}{l:List α}{x:α}(h:x∈l):f x≤(l.map f).sum:=by
 obtain⟨i,hi⟩:=List.getElem?_of_mem h
 have h1:=lK (f:=f) hi
 have h2:=rh f l (i+1)
 omega
def uI (g:List Vtx):Nat:=g.length+en g
def oG (gs:List (List Vtx)):Nat:=(gs.map uI).sum
def oV (p:Ppl):Nat:=p.v.parents.length+p.members.length
def pH (ps:List Ppl):Nat:=(ps.map oV).sum
def Bo (w:Wrl):Nat:=w.com.length+w.lead.length+(w.views.length+oG w.views)+(w.props.length+pH w.props)
theorem rm (gs:List (List Vtx))(l:Int)(hl:0≤l∧l≤1048576):ai Tryz.prog 26 [.lst (.lst .vtx) gs,.int .i64 l] [] (.int .i64 (jr l (gs.length+oG gs))) []:=by
 refine aa ak Tryz.func26 rfl rfl false 0 4 rfl rfl rfl rfl fun K hK hb1 hb2=>?_;simp only[ae,enc,Nat.reduceAdd]
 simp[af,V.toD,bnd,ab,D.cells] at hb1
 have hno:l-gs.length-oG gs<0→V.int .i64 (-1)=V.int .i64 (jr l (gs.length+oG gs))∧([]:VH)=[]:=fun h=>⟨by rw[jr,if_pos (by omega)],rfl⟩
 by_cases h0:l-gs.length<0
 ·(repeat' first|refine st ?_|refine sa fun xe hxe=>?_|refine sb (fun hq=>?_) fun hq=>?_|exact True.intro)
  exact hno (by omega)
 (repeat' first|refine st ?_|refine sa fun xe hxe=>?_|refine sb (fun hq=>?_) fun hq=>?_|exact True.intro)
 refine ag hK [] [0,1,5] (fun i:Nat=>⟨[(0,.lst (.lst .vtx) gs),(1,.int .i64 (l-gs.length-oG (gs.take i))),(5,.int .i64 i)],[],4⟩) (fun i=>i≤gs.length∧0≤l-gs.length-oG (gs.take i)) (fun i=>gs.length-i) 0 ⟨by simp,by simp[oG];omega⟩ (by simp[oG];rfl) ?_
 rintro i ⟨hi,hp⟩
 by_cases hlt:i<gs.length
 ·have hxe:gs[i]?=some gs[i]:=List.getElem?_eq_getElem hlt
  have h3:oG (gs.take (i+1))=oG (gs.take i)+uI gs[i]:=lK hxe
  have h4:oG (gs.take (i+1))≤oG gs:=rh _ gs (i+1)
  generalize gs[i]=g at *
  have hc:=tI g (l-gs.length-oG (gs.take i)) (by omega)
  unfold jr at hc
  unfold uI at h3
  by_cases h5:l-gs.length-oG (gs.take i)-(g.length+en g:Nat)<0
  ·rw[if_pos h5] at hc
   (repeat' first|refine st ?_|refine sa fun xe hxe=>?_|refine sb (fun hq=>?_) fun hq=>?_|refine cr (hc) ?_|exact True.intro)
   exact hno (by omega)
  ·rw[if_neg h5] at hc
   (repeat' first|refine st ?_|refine sa fun xe hxe=>?_|refine sb (fun hq=>?_) fun hq=>?_|refine cr (hc) ?_|exact True.intro)
   refine⟨i+1,by omega,by omega,?_⟩
   rw[h3,show l-(gs.length:Int)-((oG (gs.take i)+(g.length+en g):Nat):Int)=l-gs.length-oG (gs.take i)-(g.length+en g:Nat) by omega]
   rfl
 ·rw[List.take_of_length_le (by omega)] at *
  (repeat' first|refine st ?_|refine sa fun xe hxe=>?_|refine sb (fun hq=>?_) fun hq=>?_|exact True.intro)
  exact⟨by rw[jr,if_neg (by omega)];congr 1;omega,rfl⟩
theorem rl (p:Ppl)(l:Int)(hl:0≤l∧l≤1048576):ai Tryz.prog 57 [jj p,.int .i64 l] [] (.int .i64 (jr l (oV p))) []:=by
 have hc:=jN p.v l hl
 unfold oV
 refine aa ak Tryz.func57 rfl rfl false 0 4 rfl rfl rfl rfl fun K hK hb1 hb2=>?_;simp only[ae,enc,Nat.reduceAdd]
 clear hb1 hb2
 unfold jr at hc⊢
 by_cases h:l-p.v.parents.length<0
 ·rw[if_pos h] at hc
  (repeat' first|refine st ?_|refine sa fun xe hxe=>?_|refine sb (fun hq=>?_) fun hq=>?_|refine cr (hc) ?_|exact True.intro)
  exact⟨by rw[if_pos (by omega)],rfl⟩
 ·rw[if_neg h] at hc
  have hd:=kH p.members (l-p.v.parents.length) (by omega)
  by_cases h2:l-p.v.parents.length-p.members.length<0
  ·rw[if_pos h2] at hd
   (repeat' first|refine st ?_|refine sa fun xe hxe=>?_|refine sb (fun hq=>?_) fun hq=>?_|refine cr (hc) ?_|refine cr (hd) ?_|exact True.intro)
   exact⟨by rw[if_pos (by omega)],rfl⟩
  ·rw[if_neg h2] at hd
   (repeat' first|refine st ?_|refine sa fun xe hxe=>?_|refine sb (fun hq=>?_) fun hq=>?_|refine cr (hc) ?_|refine cr (hd) ?_|exact True.intro)
   exact⟨by rw[if_neg (by omega)];congr 1;omega,rfl⟩
theorem oX (ps:List Ppl)(l:Int)(hl:0≤l∧l≤1048576):ai Tryz.prog 27 [.lst .ppl ps,.int .i64 l] [] (.int .i64 (jr l (ps.length+pH ps))) []:=by
 refine aa ak Tryz.func27 rfl rfl false 0 4 rfl rfl rfl rfl fun K hK hb1 hb2=>?_;simp only[ae,enc,Nat.reduceAdd]
 simp[af,V.toD,bnd,ab,D.cells] at hb1
 have hno:l-ps.length-pH ps<0→V.int .i64 (-1)=V.int .i64 (jr l (ps.length+pH ps))∧([]:VH)=[]:=fun h=>⟨by rw[jr,if_pos (by omega)],rfl⟩
 by_cases h0:l-ps.length<0
 ·(repeat' first|refine st ?_|refine sa fun xe hxe=>?_|refine sb (fun hq=>?_) fun hq=>?_|exact True.intro)
  exact hno (by omega)
 (repeat' first|refine st ?_|refine sa fun xe hxe=>?_|refine sb (fun hq=>?_) fun hq=>?_|exact True.intro)
 refine ag hK [] [0,1,5] (fun i:Nat=>⟨[(0,.lst .ppl ps),(1,.int .i64 (l-ps.length-pH (ps.take i))),(5,.int .i64 i)],[],4⟩) (fun i=>i≤ps.length∧0≤l-ps.length-pH (ps.take i)) (fun i=>ps.length-i) 0 ⟨by simp,by simp[pH];omega⟩ (by simp[pH];rfl) ?_
 rintro i ⟨hi,hp⟩
 by_cases hlt:i<ps.length
 ·have hxe:ps[i]?=some ps[i]:=List.getElem?_eq_getElem hlt
  have h3:pH (ps.take (i+1))=pH (ps.take i)+oV ps[i]:=lK hxe
  have h4:pH (ps.take (i+1))≤pH ps:=rh _ ps (i+1)
  generalize ps[i]=p at *
  have hc:=rl p (l-ps.length-pH (ps.take i)) (by omega)
  unfold jr at hc
  by_cases h5:l-ps.length-pH (ps.take i)-(oV p:Nat)<0
  ·rw[if_pos h5] at hc
   (repeat' first|refine st ?_|refine sa fun xe hxe=>?_|refine sb (fun hq=>?_) fun hq=>?_|refine cr (hc) ?_|exact True.intro)
   exact hno (by omega)
  ·rw[if_neg h5] at hc
   (repeat' first|refine st ?_|refine sa fun xe hxe=>?_|refine sb (fun hq=>?_) fun hq=>?_|refine cr (hc) ?_|exact True.intro)
   refine⟨i+1,by omega,by omega,?_⟩
   rw[h3,show l-(ps.length:Int)-((pH (ps.take i)+oV p:Nat):Int)=l-ps.length-pH (ps.take i)-(oV p:Nat) by omega]
   rfl
 ·rw[List.take_of_length_le (by omega)] at *
  (repeat' first|refine st ?_|refine sa fun xe hxe=>?_|refine sb (fun hq=>?_) fun hq=>?_|exact True.intro)
  exact⟨by rw[jr,if_neg (by omega)];congr 1;omega,rfl⟩
theorem x9 (w:Wrl)(l:Int)(hl:0≤l∧l≤1048576):ai Tryz.prog 6 [aP w,.int .i64 l] [] (.int .i64 (jr l (Bo w))) []:=by
 have h1:=kH w.com l hl
 refine aa ak Tryz.func6 rfl rfl false 0 4 rfl rfl rfl rfl fun K hK hb1 hb2=>?_;simp only[ae,enc,Nat.reduceAdd]
 clear hb1 hb2
 unfold jr Bo
 by_cases c1:l-w.com.length<0
 ·rw[if_pos c1] at h1
  (repeat' first|refine st ?_|refine sa fun xe hxe=>?_|refine sb (fun hq=>?_) fun hq=>?_|refine cr (h1) ?_|exact True.intro)
  exact⟨by rw[if_pos (by omega)],rfl⟩
 rw[if_neg c1] at h1
 have h2:=kH w.lead (l-w.com.length) (by omega)
 by_cases c2:l-w.com.length-w.lead.length<0
 ·rw[if_pos c2] at h2
  (repeat' first|refine st ?_|refine sa fun xe hxe=>?_|refine sb (fun hq=>?_) fun hq=>?_|refine cr (h1) ?_|refine cr (h2) ?_|exact True.intro)
  exact⟨by rw[if_pos (by omega)],rfl⟩
 rw[if_neg c2] at h2
 have h3:=rm w.views (l-w.com.length-w.lead.length) (by omega)
 unfold jr at h3
 by_cases c3:l-w.com.length-w.lead.length-(w.views.length+oG w.views:Nat)<0
 ·rw[if_pos c3] at h3
  (repeat' first|refine st ?_|refine sa fun xe hxe=>?_|refine sb (fun hq=>?_) fun hq=>?_|refine cr (h1) ?_|refine cr (h2) ?_|refine cr (h3) ?_|exact True.intro)
  exact⟨by rw[if_pos (by omega)],rfl⟩
 rw[if_neg c3] at h3
 have h4:=oX w.props (l-w.com.length-w.lead.length-(w.views.length+oG w.views:Nat)) (by omega)
 unfold jr at h4
 by_cases c4:l-w.com.length-w.lead.length-(w.views.length+oG w.views:Nat)-(w.props.length+pH w.props:Nat)<0
 ·rw[if_pos c4] at h4
  (repeat' first|refine st ?_|refine sa fun xe hxe=>?_|refine sb (fun hq=>?_) fun hq=>?_|refine cr (h1) ?_|refine cr (h2) ?_|refine cr (h3) ?_|refine cr (h4) ?_|exact True.intro)
  exact⟨by rw[if_pos (by omega)],rfl⟩
 ·rw[if_neg c4] at h4
  (repeat' first|refine st ?_|refine sa fun xe hxe=>?_|refine sb (fun hq=>?_) fun hq=>?_|refine cr (h1) ?_|refine cr (h2) ?_|refine cr (h3) ?_|refine cr (h4) ?_|exact True.intro)
  exact⟨by rw[if_neg (by omega)];congr 1;omega,rfl⟩
structure Small (w:Wrl):Prop where
 com:w.com.length≤1048576
 lead:w.lead.length≤1048576
 vlen:w.views.length≤1048576
 view:∀g∈w.views,g.length≤1048576∧∀v∈g,v.parents.length≤1048576
 plen:w.props.length≤1048576
 prop:∀p∈w.props,p.v.parents.length≤1048576∧p.members.length≤1048576
theorem AX {w:Wrl}(h:Bo w≤1048576):Small w:=by
 unfold Bo at h
 refine⟨by omega,by omega,by omega,fun g hg=>?_,by omega,fun p hp=>?_⟩
 ·have h1:uI g≤oG w.views:=w8 hg
  unfold uI at h1
  refine⟨by omega,fun v hv=>?_⟩
  have:=EE hv
  omega
 ·have h1:oV p≤pH w.props:=w8 hp
  unfold oV at h1
  omega
theorem ru (gs:List (List Vtx))(hg:gs.length≤1048576)(hv:∀g∈gs,g.length≤1048576∧∀v∈g,v.parents.length≤1048576):ai Tryz.prog 35 [.lst (.lst .vtx) gs] [] (.lst (.lst .vtx) gs) []:=by
 refine aa ak Tryz.func35 rfl rfl true 0 4 rfl rfl rfl rfl fun K hK hb1 hb2=>?_;simp only[ae,enc,Nat.reduceAdd]
 clear hb1 hb2
 (repeat' first|refine st ?_|refine sa fun xe hxe=>?_|refine sb (fun hq=>?_) fun hq=>?_|exact True.intro)
 refine ag hK [] [0,3,4] (fun i:Nat=>⟨[(0,.lst (.lst .vtx) gs),(3,.ref 4),(4,.int .i64 i)],[(4,.row 102 (.lst .vtx) (gs.take i++(List.replicate gs.length []).drop i))],5⟩) (fun i=>i≤gs.length) (fun i=>gs.length-i) 0 (by simp) (by simp;rfl) ?_
 intro i hi
 by_cases hlt:i<gs.length
 ·have hx:gs[i]?=some gs[i]:=List.getElem?_eq_getElem hlt
  have dJ:i<(gs.take i++(List.replicate gs.length []).drop i).length:=cI _ _ (by simp;omega) (by simpa using hlt)
  have hs:(gs.take i++(List.replicate gs.length []).drop i).set i gs[i]=gs.take (i+1)++(List.replicate gs.length []).drop (i+1):=by
   rw[bE _ _ _ (by simp;omega) (by simpa using hlt),List.take_succ_eq_append_getElem hlt]
  obtain⟨hvl,hvp⟩:=hv _ (List.getElem_mem hlt)
  generalize hrow:gs.take i++(List.replicate gs.length []).drop i=row at *
  generalize gs[i]=x at *
  (repeat' first|refine st ?_|refine sa fun xe hxe=>?_|refine sb (fun hq=>?_) fun hq=>?_|refine cr (tO _ hvl hvp) ?_|exact True.intro)
  refine⟨i+1,by omega,by omega,?_⟩
  rw[←hs]
  rfl
 ·obtain rfl:i=gs.length:=by omega
  (repeat' first|refine st ?_|refine sa fun xe hxe=>?_|refine sb (fun hq=>?_) fun hq=>?_|exact True.intro)
  simp
theorem rr (p:Ppl)(hv:p.v.parents.length≤1048576∧p.members.length≤1048576):ai Tryz.prog 74 [jj p] [] (jj p) []:=by
 refine aa ak Tryz.func74 rfl rfl true 0 4 rfl rfl rfl rfl fun K hK hb1 hb2=>?_;simp only[ae,enc,Nat.reduceAdd]
 clear hb1 hb2
 (repeat' first|refine st ?_|refine sa fun xe hxe=>?_|refine sb (fun hq=>?_) fun hq=>?_|refine cr (jO _ hv.1) ?_|refine cr (eu _ hv.2) ?_|exact True.intro)
 exact⟨rfl,rfl⟩
theorem o4 (ps:List Ppl)(hp:ps.length≤1048576)(hv:∀p∈ps,p.v.parents.length≤1048576∧p.members.length≤1048576):ai Tryz.prog 36 [.lst .ppl ps] [] (.lst .ppl ps) []:=by
 refine aa ak Tryz.func36 rfl rfl true 0 4 rfl rfl rfl rfl fun K hK hb1 hb2=>?_;simp only[ae,enc,Nat.reduceAdd]
 clear hb1 hb2
 (repeat' first|refine st ?_|refine sa fun xe hxe=>?_|refine sb (fun hq=>?_) fun hq=>?_|exact True.intro)
 refine ag hK [] [0,3,4] (fun i:Nat=>⟨[(0,.lst .ppl ps),(3,.ref 4),(4,.int .i64 i)],[(4,.row 104 .ppl (ps.take i++(List.replicate ps.length p0).drop i))],5⟩) (fun i=>i≤ps.length) (fun i=>ps.length-i) 0 (by simp) (by simp;rfl) ?_
 intro i hi
 by_cases hlt:i<ps.length
 ·have hx:ps[i]?=some ps[i]:=List.getElem?_eq_getElem hlt
  have dJ:i<(ps.take i++(List.replicate ps.length p0).drop i).length:=cI _ _ (by simp;omega) (by simpa using hlt)
  have hs:(ps.take i++(List.replicate ps.length p0).drop i).set i ps[i]=ps.take (i+1)++(List.replicate ps.length p0).drop (i+1):=by
   rw[bE _ _ _ (by simp;omega) (by simpa using hlt),List.take_succ_eq_append_getElem hlt]
  have hvl:=hv _ (List.getElem_mem hlt)
  generalize hrow:ps.take i++(List.replicate ps.length p0).drop i=row at *
  generalize ps[i]=x at *
  (repeat' first|refine st ?_|refine sa fun xe hxe=>?_|refine sb (fun hq=>?_) fun hq=>?_|refine cr (rr _ hvl) ?_|exact True.intro)
  refine⟨i+1,by omega,by omega,?_⟩
  rw[←hs]
  rfl
 ·obtain rfl:i=ps.length:=by omega
  (repeat' first|refine st ?_|refine sa fun xe hxe=>?_|refine sb (fun hq=>?_) fun hq=>?_|exact True.intro)
  simp
theorem yf (w:Wrl)(h:Small w):ai Tryz.prog 8 [aP w] [] (aP w) []:=by
 obtain⟨h1,h2,h3,h4,h5,h6⟩:=h
 refine aa ak Tryz.func8 rfl rfl true 0 4 rfl rfl rfl rfl fun K hK hb1 hb2=>?_;simp only[ae,enc,Nat.reduceAdd]
 clear hb1 hb2
 (repeat' first|refine st ?_|refine sa fun xe hxe=>?_|refine sb (fun hq=>?_) fun hq=>?_|refine cr (eu _ h1) ?_|refine cr (eu _ h2) ?_|refine cr (ru _ h3 h4) ?_|refine cr (o4 _ h5 h6) ?_|exact True.intro)
 exact⟨rfl,rfl⟩
theorem qn (g:List (List Vtx)):ai Tryz.prog 43 [.lst (.lst .vtx) g,.lst (.lst .vtx) g] [] (.bool true) []:=by
 refine aa ak Tryz.func43 rfl rfl false 0 4 rfl rfl rfl rfl fun K hK hb1 hb2=>?_;simp only[ae,enc,Nat.reduceAdd]
 simp[af,V.toD,bnd,ab,D.cells] at hb1
 (repeat' first|refine st ?_|refine sa fun xe hxe=>?_|refine sb (fun hq=>?_) fun hq=>?_|exact True.intro)
 ·exact absurd trivial hq
 refine ag hK [] [0,1,5] (fun i:Nat=>⟨[(0,.lst (.lst .vtx) g),(1,.lst (.lst .vtx) g),(5,.int .i64 i)],[],4⟩) (fun i=>i≤g.length) (fun i=>g.length-i) 0 (by simp) rfl ?_
 intro i hi
 by_cases hlt:i<g.length
 ·have hx:g[i]?=some g[i]:=List.getElem?_eq_getElem hlt
  generalize g[i]=x at *
  (repeat' first|refine st ?_|refine sa fun xe hxe=>?_|refine sb (fun hq=>?_) fun hq=>?_|refine cr (r8 _) ?_|exact True.intro)
  exact⟨i+1,by omega,by omega,rfl⟩
 ·(repeat' first|refine st ?_|refine sa fun xe hxe=>?_|refine sb (fun hq=>?_) fun hq=>?_|exact True.intro)
  exact⟨rfl,rfl⟩
theorem qm (p:Ppl):ai Tryz.prog 93 [jj p,jj p] [] (.bool true) []:=by
 refine aa ak Tryz.func93 rfl rfl false 0 4 rfl rfl rfl rfl fun K hK hb1 hb2=>?_;simp only[ae,enc,Nat.reduceAdd]
 (repeat' first|refine st ?_|refine sa fun xe hxe=>?_|refine sb (fun hq=>?_) fun hq=>?_|refine cr (jx _) ?_|refine cr (nw _) ?_|exact True.intro)
 all_goals first|(exact⟨rfl,rfl⟩)|exact absurd rfl hq|exact absurd trivial hq|cases hq
theorem oN (g:List Ppl):ai Tryz.prog 44 [.lst .ppl g,.lst .ppl g] [] (.bool true) []:=by
 refine aa ak Tryz.func44 rfl rfl false 0 4 rfl rfl rfl rfl fun K hK hb1 hb2=>?_;simp only[ae,enc,Nat.reduceAdd]
 simp[af,V.toD,bnd,ab,D.cells] at hb1
 (repeat' first|refine st ?_|refine sa fun xe hxe=>?_|refine sb (fun hq=>?_) fun hq=>?_|exact True.intro)
 ·exact absurd trivial hq
 refine ag hK [] [0,1,5] (fun i:Nat=>⟨[(0,.lst .ppl g),(1,.lst .ppl g),(5,.int .i64 i)],[],4⟩) (fun i=>i≤g.length) (fun i=>g.length-i) 0 (by simp) rfl ?_
 intro i hi
 by_cases hlt:i<g.length
 ·have hx:g[i]?=some g[i]:=List.getElem?_eq_getElem hlt
  generalize g[i]=x at *
  (repeat' first|refine st ?_|refine sa fun xe hxe=>?_|refine sb (fun hq=>?_) fun hq=>?_|refine cr (qm _) ?_|exact True.intro)
  exact⟨i+1,by omega,by omega,rfl⟩
 ·(repeat' first|refine st ?_|refine sa fun xe hxe=>?_|refine sb (fun hq=>?_) fun hq=>?_|exact True.intro)
  exact⟨rfl,rfl⟩
theorem lc (w:Wrl):ai Tryz.prog 10 [aP w,aP w] [] (.bool true) []:=by
 refine aa ak Tryz.func10 rfl rfl false 0 4 rfl rfl rfl rfl fun K hK hb1 hb2=>?_;simp only[ae,enc,Nat.reduceAdd]
 clear hb1 hb2
 (repeat' first|refine st ?_|refine sa fun xe hxe=>?_|refine sb (fun hq=>?_) fun hq=>?_|refine cr (nw _) ?_|refine cr (qn _) ?_|refine cr (oN _) ?_|exact True.intro)
 all_goals first|(exact⟨rfl,rfl⟩)|exact absurd rfl hq|exact absurd trivial hq|cases hq
def Θx:TT:=(102,⟨.slice 43,1,24,some .nils,some (.hr 0),false⟩)::(43,⟨.struct [(3,0,1),(3,1,1),(22,2,1),(3,3,1)],4,48,some (.agg [.int .i64 0,.int .i64 0,.nils,.int .i64 0]),some (.vtxo 1),false⟩)::(104,⟨.struct [(43,0,4),(22,4,1)],5,72,some (.agg [.int .i64 0,.int .i64 0,.nils,.int .i64 0,.nils]),some (.pplo 1 1),false⟩)::Θ
theorem iL:TT.ok Tryz.prog Θx:=TT.okB_ok (by kernel_rfl)
theorem Bn {P Q:Prop}(h:Q)(s:Hid Q→P:=by
  intro h
  (first|(with_reducible first|apply cQ|apply ca)|((first|with_reducible apply bO iL|refine go ?_|(with_reducible first|apply ck|apply b7|apply bM|apply bP|refine bN iL mixed (by kernel_rfl) ?_))<;>conv=>whnf))
  repeat(first|(with_reducible first|apply cQ|apply ca)|((first|with_reducible apply bO iL|refine go ?_|(with_reducible first|apply ck|apply b7|apply bM|apply bP|refine bN iL mixed (by kernel_rfl) ?_))<;>conv=>whnf))
  exact h.h):P:=s ⟨h⟩
def Fl:VtxO:=⟨0,0,none,0⟩
def yo:PplO:=⟨⟨0,0,none,0⟩,none⟩
theorem j5 (E:TypeId)(a b:List (List Int)):ao (VB.frow E (.int .i64) a)≤ao (VB.frow E (.int .i64) (a++b)):=by simp[ao]
theorem jP (v:Vtx)(hv:v.parents.length≤1048576):ai Tryz.prog 53 [bu v] [] (.agg [.int .i64 v.round,.int .i64 v.author,.ref 4,.int .i64 v.digest]) [(4,.row 3 (.int .i64) v.parents)]:=by
 refine aa ak Tryz.func53 rfl rfl false 0 4 rfl rfl rfl rfl fun K hK hb1 hb2=>?_;simp only[ae,enc,Nat.reduceAdd]
 (repeat' first|refine st ?_|refine sa fun xe hxe=>?_|refine sb (fun hq=>?_) fun hq=>?_|refine cr (eu _ hv) ?_|exact True.intro)
 exact⟨rfl,rfl⟩
theorem tP (g:List Vtx)(pss:List (List Int))(hg:g.length≤1048576)(hv:∀v∈g,v.parents.length≤1048576):ai Tryz.prog 73 [.lst .vtx g] [(1,.frow 3 (.int .i64) pss)] (.ref 4) [(1,.frow 3 (.int .i64) (pss++g.map (·.parents))),(4,.row 43 (.vtxo 1) (gV pss.length g))]:=by
 refine aa iL Tryz.func73 rfl rfl false 0 4 rfl rfl rfl rfl fun K hK hb1 hb2=>?_;simp only[ae,enc,Nat.reduceAdd]
 clear hb1 hb2
 (repeat' first|refine Bn ?_|refine sa fun xe hxe=>?_|refine sb (fun hq=>?_) fun hq=>?_|exact True.intro)
 refine ag hK [] [0,3,4] (fun i:Nat=>⟨[(0,.lst .vtx g),(3,.ref 4),(4,.int .i64 i)],[(1,.frow 3 (.int .i64) (pss++(g.take i).map (·.parents))),(4,.row 43 (.vtxo 1) (gV pss.length (g.take i)++(List.replicate g.length Fl).drop i))],5⟩) (fun i=>i≤g.length) (fun i=>g.length-i) 0 (by simp) (by simp[gV];rfl) ?_
 intro i hi
 by_cases hlt:i<g.length
 ·have hx:g[i]?=some g[i]:=List.getElem?_eq_getElem hlt
  have hsn:g.take (i+1)=g.take i++[g[i]]:=List.take_succ_eq_append_getElem hlt
  have hvl:=hv _ (List.getElem_mem hlt)
  have hln:(gV pss.length (g.take i)).length=i:=by rw[xf,List.length_take];omega
  have dJ:i<(gV pss.length (g.take i)++(List.replicate g.length Fl).drop i).length:=cI _ _ hln (by simpa using hlt)
  have hs:(gV pss.length (g.take i)++(List.replicate g.length Fl).drop i).set i ⟨g[i].round,g[i].author,some (pss++(g.take i).map (·.parents)).length,g[i].digest⟩=gV pss.length (g.take (i+1))++(List.replicate g.length Fl).drop (i+1):=by
   rw[bE _ _ _ hln (by simpa using hlt),hsn,tU,List.length_append,List.length_map]
  have hp:pss++(g.take (i+1)).map (·.parents)=(pss++(g.take i).map (·.parents))++[g[i].parents]:=by rw[hsn,List.map_append,List.append_assoc];rfl
  generalize hrow:gV pss.length (g.take i)++(List.replicate g.length Fl).drop i=row at *
  generalize pss++(g.take i).map (·.parents)=ps at *
  generalize g[i]=x at *
  (repeat' first|refine Bn ?_|refine sa fun xe hxe=>?_|refine sb (fun hq=>?_) fun hq=>?_|refine cr (jP _ hvl) ?_|exact True.intro)
  refine⟨i+1,by omega,by omega,?_⟩
  rw[←hs,hp]
  rfl
 ·obtain rfl:i=g.length:=by omega
  rw[List.take_of_length_le (Nat.le_refl _),show gV pss.length g++(List.replicate g.length Fl).drop g.length=gV pss.length g by simp]
  (repeat' first|refine Bn ?_|refine sa fun xe hxe=>?_|refine sb (fun hq=>?_) fun hq=>?_|exact True.intro)
  exact⟨rfl,rfl⟩
theorem rv (gs:List (List Vtx))(hg:gs.length≤1048576)(hv:∀g∈gs,g.length≤1048576∧∀v∈g,v.parents.length≤1048576):ai Tryz.prog 35 [.lst (.lst .vtx) gs] [] (.ref 4) [(0,.frow 43 (.vtxo 1) (fI 0 gs)),(1,.frow 3 (.int .i64) (aW gs)),(4,.row 102 (.hr 0) ((List.range gs.length).map some))]:=by
 refine aa iL Tryz.func35 rfl rfl false 0 4 rfl rfl rfl rfl fun K hK hb1 hb2=>?_;simp only[ae,enc,Nat.reduceAdd]
 clear hb1 hb2
 (repeat' first|refine Bn ?_|refine sa fun xe hxe=>?_|refine sb (fun hq=>?_) fun hq=>?_|exact True.intro)
 refine hX 0 (.frow 43 (.vtxo 1) []) rfl ?_
 refine hX 1 (.frow 3 (.int .i64) []) rfl ?_
 refine ag hK [] [0,3,4] (fun i:Nat=>⟨[(0,.lst (.lst .vtx) gs),(3,.ref 4),(4,.int .i64 i)],[(0,.frow 43 (.vtxo 1) (fI 0 (gs.take i))),(1,.frow 3 (.int .i64) (aW (gs.take i))),(4,.row 102 (.hr 0) ((List.range i).map some++(List.replicate gs.length none).drop i))],5⟩) (fun i=>i≤gs.length) (fun i=>gs.length-i) 0 (by simp) (by simp[fI,aW];rfl) ?_
 intro i hi
 by_cases hlt:i<gs.length
 ·have hx:gs[i]?=some gs[i]:=List.getElem?_eq_getElem hlt
  have hsn:gs.take (i+1)=gs.take i++[gs[i]]:=List.take_succ_eq_append_getElem hlt
  obtain⟨hvl,hvp⟩:=hv _ (List.getElem_mem hlt)
  have hln:((List.range i).map some).length=i:=by simp
  have dJ:i<((List.range i).map some++(List.replicate gs.length none).drop i).length:=cI _ _ hln (by simpa using hlt)
  have hs:((List.range i).map some++(List.replicate gs.length none).drop i).set i (some i)=(List.range (i+1)).map some++(List.replicate gs.length none).drop (i+1):=by
   rw[bE _ _ _ hln (by simpa using hlt),List.range_succ,List.map_append];rfl
  have hp:aW (gs.take (i+1))=aW (gs.take i)++gs[i].map (·.parents):=by rw[hsn,pF]
  have hq:fI 0 (gs.take (i+1))=fI 0 (gs.take i)++[gV (aW (gs.take i)).length gs[i]]:=by rw[hsn,nJ,Nat.zero_add]
  have hgl:(fI 0 (gs.take i)).length=i:=by rw[wo,List.length_take];omega
  generalize hrow:(List.range i).map some++(List.replicate gs.length none).drop i=row at *
  generalize fI 0 (gs.take i)=vss at *
  generalize aW (gs.take i)=ps at *
  generalize gs[i]=x at *
  have hF:=j5 3 ps (x.map (·.parents))
  (repeat' first|refine Bn ?_|refine sa fun xe hxe=>?_|refine sb (fun hq=>?_) fun hq=>?_|((with_reducible refine ij [1] ?_);(conv=>whnf);(with_reducible refine aB (tP _ _ hvl hvp) ?_);conv=>whnf)|exact True.intro)
  refine⟨i+1,by omega,by omega,?_⟩
  rw[←hs,hp,hq,hgl]
  rfl
 ·obtain rfl:i=gs.length:=by omega
  rw[List.take_of_length_le (Nat.le_refl _),show (List.range gs.length).map some++(List.replicate gs.length none).drop gs.length=(List.range gs.length).map some by simp]
  (repeat' first|refine Bn ?_|refine sa fun xe hxe=>?_|refine sb (fun hq=>?_) fun hq=>?_|exact True.intro)
  exact⟨rfl,rfl⟩
theorem rt (p:Ppl)(hv:p.v.parents.length≤1048576∧p.members.length≤1048576):ai Tryz.prog 74 [jj p] [] (.agg [.int .i64 p.v.round,.int .i64 p.v.author,.ref 4,.int .i64 p.v.digest,.ref 5]) [(4,.row 3 (.int .i64) p.v.parents),(5,.row 3 (.int .i64) p.members)]:=by
 refine aa ak Tryz.func74 rfl rfl false 0 4 rfl rfl rfl rfl fun K hK hb1 hb2=>?_;simp only[ae,enc,Nat.reduceAdd]
 clear hb1 hb2
 (repeat' first|refine st ?_|refine sa fun xe hxe=>?_|refine sb (fun hq=>?_) fun hq=>?_|refine cr (eu _ hv.2) ?_|refine co (jP _ hv.1) ?_|exact True.intro)
 exact⟨rfl,rfl⟩
theorem o5 (g:List Ppl)(pss:List (List Int))(hg:g.length≤1048576)(hv:∀p∈g,p.v.parents.length≤1048576∧p.members.length≤1048576):ai Tryz.prog 36 [.lst .ppl g] [(1,.frow 3 (.int .i64) pss)] (.ref 4) [(1,.frow 3 (.int .i64) (pss++aF g)),(4,.row 104 (.pplo 1 1) (fJ pss.length g))]:=by
 refine aa iL Tryz.func36 rfl rfl false 0 4 rfl rfl rfl rfl fun K hK hb1 hb2=>?_;simp only[ae,enc,Nat.reduceAdd]
 clear hb1 hb2
 (repeat' first|refine Bn ?_|refine sa fun xe hxe=>?_|refine sb (fun hq=>?_) fun hq=>?_|exact True.intro)
 refine ag hK [] [0,3,4] (fun i:Nat=>⟨[(0,.lst .ppl g),(3,.ref 4),(4,.int .i64 i)],[(1,.frow 3 (.int .i64) (pss++aF (g.take i))),(4,.row 104 (.pplo 1 1) (fJ pss.length (g.take i)++(List.replicate g.length yo).drop i))],5⟩) (fun i=>i≤g.length) (fun i=>g.length-i) 0 (by simp) (by simp[fJ,aF];rfl) ?_
 intro i hi
 by_cases hlt:i<g.length
 ·have hx:g[i]?=some g[i]:=List.getElem?_eq_getElem hlt
  have hsn:g.take (i+1)=g.take i++[g[i]]:=List.take_succ_eq_append_getElem hlt
  have hvl:=hv _ (List.getElem_mem hlt)
  have hln:(fJ pss.length (g.take i)).length=i:=by rw[wT,List.length_take];omega
  have dJ:i<(fJ pss.length (g.take i)++(List.replicate g.length yo).drop i).length:=cI _ _ hln (by simpa using hlt)
  have hpl:(pss++aF (g.take i)).length=pss.length+2*i:=by rw[List.length_append,og,List.length_take];omega
  have hs:(fJ pss.length (g.take i)++(List.replicate g.length yo).drop i).set i ⟨⟨g[i].v.round,g[i].v.author,some (pss++aF (g.take i)).length,g[i].v.digest⟩,some ((pss++aF (g.take i))++[g[i].v.parents]).length⟩=fJ pss.length (g.take (i+1))++(List.replicate g.length yo).drop (i+1):=by
   have hpl1:((pss++aF (g.take i))++[g[i].v.parents]).length=pss.length+2*i+1:=by rw[List.length_append,hpl];rfl
   rw[bE _ _ _ hln (by simpa using hlt),hsn,oe,hpl1,hpl,List.length_take,Nat.min_eq_left (by omega)]
  have hp:pss++aF (g.take (i+1))=((pss++aF (g.take i))++[g[i].v.parents])++[g[i].members]:=by rw[hsn,pG];simp
  clear hpl
  generalize hrow:fJ pss.length (g.take i)++(List.replicate g.length yo).drop i=row at *
  generalize pss++aF (g.take i)=ps at *
  generalize g[i]=x at *
  (repeat' first|refine Bn ?_|refine sa fun xe hxe=>?_|refine sb (fun hq=>?_) fun hq=>?_|refine cr (rt _ hvl) ?_|exact True.intro)
  refine⟨i+1,by omega,by omega,?_⟩
  rw[←hs,hp]
  rfl
 ·obtain rfl:i=g.length:=by omega
  rw[List.take_of_length_le (Nat.le_refl _),show fJ pss.length g++(List.replicate g.length yo).drop g.length=fJ pss.length g by simp]
  (repeat' first|refine Bn ?_|refine sa fun xe hxe=>?_|refine sb (fun hq=>?_) fun hq=>?_|exact True.intro)
  exact⟨rfl,rfl⟩
abbrev yn (bad:Int):V:=.agg [.ref 4,.ref 5,.int .i64 bad,.ref 6,.ref 7]
theorem yg (w:Wrl)(h:Small w):ai Tryz.prog 8 [aP w] [] (yn w.bad) [(0,.frow 43 (.vtxo 1) (fI 0 w.views)),(1,.frow 3 (.int .i64) (aW w.views++aF w.props)),(4,.row 3 (.int .i64) w.com),(5,.row 3 (.int .i64) w.lead),(6,.row 102 (.hr 0) ((List.range w.views.length).map some)),(7,.row 104 (.pplo 1 1) (fJ (aW w.views).length w.props))]:=by
 obtain⟨h1,h2,h3,h4,h5,h6⟩:=h
 have hF:=j5 3 (aW w.views) (aF w.props)
 refine aa iL Tryz.func8 rfl rfl false 0 4 rfl rfl rfl rfl fun K hK hb1 hb2=>?_;simp only[ae,enc,Nat.reduceAdd]
 clear hb1 hb2
 (repeat' first|refine Bn ?_|refine sa fun xe hxe=>?_|refine sb (fun hq=>?_) fun hq=>?_|refine cr (eu _ h1) ?_|refine cr (eu _ h2) ?_|refine cr (rv _ h3 h4) ?_|((with_reducible refine ij [1] ?_);(conv=>whnf);(with_reducible refine aB (o5 _ _ h5 h6) ?_);conv=>whnf)|exact True.intro)
 exact⟨rfl,rfl⟩
theorem nZ (a:List Int)(k:Int)(hk:0≤k∧k+a.length≤1000000000):ai Tryz.prog 45 [.ref 4,.int .i64 k] [(4,.row 3 (.int .i64) a)] (.int .i64 (k+a.length)) [(4,.row 3 (.int .i64) (mk k a.length))]:=by
 refine aa ak Tryz.func45 rfl rfl false 1 5 rfl rfl rfl rfl fun K hK hb1 hb2=>?_;simp only[ae,enc,Nat.reduceAdd]
 (repeat' first|refine st ?_|refine sa fun xe hxe=>?_|refine sb (fun hq=>?_) fun hq=>?_|exact True.intro)
 refine ag hK [] [0,1,4,5] (fun i:Nat=>⟨[(0,.ref 4),(1,.int .i64 (k+i)),(4,.int .i64 0),(5,.int .i64 i)],[(4,.row 3 (.int .i64) (mk k i++a.drop i))],5⟩) (fun i=>i≤a.length) (fun i=>a.length-i) 0 (by simp) (by simp[mk];rfl) ?_
 intro i hi
 have hlen:(mk k i++a.drop i).length=a.length:=by simp[dp];omega
 by_cases hlt:i<a.length
 ·have hs:(mk k i++a.drop i).set i (k+i)=mk k (i+1)++a.drop (i+1):=by
   rw[bE _ _ _ (dp k i) hlt,qR]
  generalize mk k i++a.drop i=row at *
  (repeat' first|refine st ?_|refine sa fun xe hxe=>?_|refine sb (fun hq=>?_) fun hq=>?_|exact True.intro)
  refine⟨i+1,by omega,by omega,?_⟩
  rw[←hs,show k+((i+1:Nat):Int)=k+i+1 by omega]
  rfl
 ·obtain rfl:i=a.length:=by omega
  generalize hrow:mk k a.length++a.drop a.length=row at *
  (repeat' first|refine st ?_|refine sa fun xe hxe=>?_|refine sb (fun hq=>?_) fun hq=>?_|exact True.intro)
  subst hrow
  simp
theorem jy (n:Nat)(k:Int)(hk:0≤k∧k+n≤1000000000):ai Tryz.prog 48 [.lst (.int .i64) (mk k n),.int .i64 k] [] (.int .i64 (k+n)) []:=by
 refine aa ak Tryz.func48 rfl rfl false 0 4 rfl rfl rfl rfl fun K hK hb1 hb2=>?_;simp only[ae,enc,Nat.reduceAdd]
 clear hb1 hb2
 have hl:=dp k n
 (repeat' first|refine st ?_|refine sa fun xe hxe=>?_|refine sb (fun hq=>?_) fun hq=>?_|exact True.intro)
 refine ag hK [] [0,1,4,5] (fun i:Nat=>⟨[(0,.lst (.int .i64) (mk k n)),(1,.int .i64 (k+i)),(4,.int .i64 0),(5,.int .i64 i)],[],4⟩) (fun i=>i≤n) (fun i=>n-i) 0 (by simp) (by simp;rfl) ?_
 intro i hi
 by_cases hlt:i<n
 ·have hx:=Et k hlt
  generalize mk k n=row at *
  (repeat' first|refine st ?_|refine sa fun xe hxe=>?_|refine sb (fun hq=>?_) fun hq=>?_|exact True.intro)
  ·exact absurd trivial hq
  ·refine⟨i+1,by omega,by omega,?_⟩
   rw[show k+((i+1:Nat):Int)=k+i+1 by omega]
   rfl
 ·obtain rfl:i=n:=by omega
  generalize mk k i=row at *
  (repeat' first|refine st ?_|refine sa fun xe hxe=>?_|refine sb (fun hq=>?_) fun hq=>?_|exact True.intro)
  exact⟨rfl,rfl⟩
theorem gy (E:TypeId)(a:List (List Int))(j:Nat)(b:List Int):ao (VB.frow E (.int .i64) a)≤ao (VB.frow E (.int .i64) (a.set j b)):=by simp[ao]
theorem gC (pss:List (List Int))(j:Nat)(a:List Int)(k:Int)(hj:pss[j]?=some a)(hk:0≤k∧k+a.length≤1000000000):ai Tryz.prog 45 [.hro 1 (some j),.int .i64 k] [(1,.frow 3 (.int .i64) pss)] (.int .i64 (k+a.length)) [(1,.frow 3 (.int .i64) (pss.set j (mk k a.length)))]:=by
 have hjl:j<pss.length:=(List.getElem?_eq_some_iff.1 hj).1
 refine aa ak Tryz.func45 rfl rfl false 0 4 rfl rfl rfl rfl fun K hK hb1 hb2=>?_;simp only[ae,enc,Nat.reduceAdd]
 clear hb1 hb2
 have h0:pss.set j (mk k 0++a.drop 0)=pss:=by
  apply List.ext_getElem?
  intro x
  rw[List.getElem?_set]
  split
  ·rename_i e
   subst e
   first|rw[if_pos hjl,hj]|rw[hj]
   simp[mk]
  ·rfl
 (repeat' first|refine st ?_|refine sa fun xe hxe=>?_|refine sb (fun hq=>?_) fun hq=>?_|exact True.intro)
 refine ag hK [] [0,1,4,5] (fun i:Nat=>⟨[(0,.hro 1 (some j)),(1,.int .i64 (k+i)),(4,.int .i64 0),(5,.int .i64 i)],[(1,.frow 3 (.int .i64) (pss.set j (mk k i++a.drop i)))],4⟩) (fun i=>i≤a.length) (fun i=>a.length-i) 0 (by simp) (by rw[h0];simp;rfl) ?_
 intro i hi
 have hlen:(mk k i++a.drop i).length=a.length:=by simp[dp];omega
 have hjr:(pss.set j (mk k i++a.drop i))[j]?=some (mk k i++a.drop i):=List.getElem?_set_self hjl
 by_cases hlt:i<a.length
 ·have hs:(pss.set j (mk k i++a.drop i)).set j ((mk k i++a.drop i).set i (k+i))=pss.set j (mk k (i+1)++a.drop (i+1)):=by
   rw[bE _ _ _ (dp k i) hlt,qR,List.set_set]
  generalize mk k i++a.drop i=row at *
  generalize pss.set j row=ps at *
  (repeat' first|refine st ?_|refine sa fun xe hxe=>?_|refine sb (fun hq=>?_) fun hq=>?_|exact True.intro)
  refine⟨i+1,by omega,by omega,?_⟩
  rw[←hs,show k+((i+1:Nat):Int)=k+i+1 by omega]
  rfl
 ·obtain rfl:i=a.length:=by omega
  rw[show mk k a.length++a.drop a.length=mk k a.length by simp] at *
  generalize pss.set j (mk k a.length)=ps at *
  (repeat' first|refine st ?_|refine sa fun xe hxe=>?_|refine sb (fun hq=>?_) fun hq=>?_|exact True.intro)
  exact⟨rfl,rfl⟩
theorem zb (E:TypeId)(a:List (List VtxO))(j:Nat)(b:List VtxO):ao (VB.frow E (.vtxo 1) a)≤ao (VB.frow E (.vtxo 1) (a.set j b)):=by simp[ao]
theorem oT (vss:List (List VtxO))(w:Nat)(vs:List VtxO)(hw:vss[w]?=some vs)(pss:List (List Int))(g:List Vtx)(k:Int)(hr:VsR pss vs g)(hk:0≤k∧k+cV g≤1000000000):ai Tryz.prog 94 [.hro 0 (some w),.int .i64 k] [(0,.frow 43 (.vtxo 1) vss),(1,.frow 3 (.int .i64) pss)] (.int .i64 (cD vs k pss).1) [(0,.frow 43 (.vtxo 1) (vss.set w (cD vs k pss).2.2)),(1,.frow 3 (.int .i64) (cD vs k pss).2.1)]:=by
 have hwl:w<vss.length:=(List.getElem?_eq_some_iff.1 hw).1
 refine aa ak Tryz.func94 rfl rfl false 0 4 rfl rfl rfl rfl fun K hK hb1 hb2=>?_;simp only[ae,enc,Nat.reduceAdd]
 clear hb1 hb2
 have h0:vss.set w ((cD (vs.take 0) k pss).2.2++vs.drop 0)=vss:=by
  apply List.ext_getElem?
  intro x
  rw[List.getElem?_set]
  split
  ·rename_i e
   subst e
   first|rw[if_pos hwl,hw]|rw[hw]
   simp[cD]
  ·rfl
 (repeat' first|refine st ?_|refine sa fun xe hxe=>?_|refine sb (fun hq=>?_) fun hq=>?_|exact True.intro)
 refine ag hK [] [0,1,5] (fun i:Nat=>⟨[(0,.hro 0 (some w)),(1,.int .i64 (cD (vs.take i) k pss).1),(5,.int .i64 i)],[(0,.frow 43 (.vtxo 1) (vss.set w ((cD (vs.take i) k pss).2.2++vs.drop i))),(1,.frow 3 (.int .i64) (cD (vs.take i) k pss).2.1)],4⟩) (fun i=>i≤vs.length) (fun i=>vs.length-i) 0 (by simp) (by rw[h0];simp[cD];rfl) ?_
 intro i hi
 have hgl:=hr.len
 have hcl:=ui g
 by_cases hlt:i<vs.length
 ·have hv:g[i]?=some g[i]:=List.getElem?_eq_getElem (by omega)
  obtain⟨j,y,h1,h2,h3,h4,h5,h6,h7,h8⟩:=s9 (k:=k) hr hv rfl
  have hc:=qc hv
  have hc2:=yC g (i+1)
  have hll:((cD (vs.take i) k pss).2.2++vs.drop i).length=vs.length:=by simp[i0];omega
  have hgw:(vss.set w ((cD (vs.take i) k pss).2.2++vs.drop i))[w]?=some ((cD (vs.take i) k pss).2.2++vs.drop i):=List.getElem?_set_self hwl
  have hss:∀b,(vss.set w ((cD (vs.take i) k pss).2.2++vs.drop i)).set w b=vss.set w b:=fun b=>List.set_set ..
  have hpl:(vss.set w ((cD (vs.take i) k pss).2.2++vs.drop i)).length=vss.length:=List.length_set
  generalize hr':cD (vs.take (i+1)) k pss=r' at *
  generalize cD (vs.take i) k pss=r at *
  obtain⟨r1,r2,r3⟩:=r
  simp only at h1 h2 h4 h5 h6 h7 h8 hll hgw hss hpl⊢
  generalize r3++vs.drop i=row at *
  generalize g[i]=v at *
  generalize vss.set w row=ps at *
  have hti:(i:Int).toNat<row.length:=by simp;omega
  have hwp:w<ps.length:=by omega
  (repeat' first|refine st ?_|refine sa fun xe hxe=>?_|refine sb (fun hq=>?_) fun hq=>?_|exact True.intro)
  obtain rfl:=Option.some.inj ((List.getElem?_set_self hwp).symm.trans hxe)
  clear hxe
  dsimp only
  have hl1:(row.set (i:Int).toNat (⟨r1,v.author,some j,v.digest⟩:VtxO)).length=row.length:=List.length_set
  have hx1:(row.set (i:Int).toNat (⟨r1,v.author,some j,v.digest⟩:VtxO))[(i:Int).toNat]?=some ⟨r1,v.author,some j,v.digest⟩:=List.getElem?_set_self hti
  have hs1:∀x:VtxO,(row.set (i:Int).toNat (⟨r1,v.author,some j,v.digest⟩:VtxO)).set (i:Int).toNat x=row.set i x:=fun x=>by rw[List.set_set,Int.toNat_natCast]
  generalize row.set (i:Int).toNat (⟨r1,v.author,some j,v.digest⟩:VtxO)=row1 at *
  have hw1:(ps.set w row1)[w]?=some row1:=List.getElem?_set_self hwp
  have hp1:∀b,(ps.set w row1).set w b=vss.set w b:=fun b=>by rw[List.set_set,hss]
  have hwp1:w<(ps.set w row1).length:=by rw[List.length_set];exact hwp
  generalize ps.set w row1=ps1 at *
  (repeat' first|refine st ?_|refine sa fun xe hxe=>?_|refine sb (fun hq=>?_) fun hq=>?_|exact True.intro)
  obtain rfl:=Option.some.inj ((List.getElem?_set_self hwp1).symm.trans hxe)
  clear hxe
  dsimp only
  have hl2:(row1.set (i:Int).toNat (⟨r1,r1+1,some j,v.digest⟩:VtxO)).length=row.length:=by rw[List.length_set,hl1]
  have hx2:(row1.set (i:Int).toNat (⟨r1,r1+1,some j,v.digest⟩:VtxO))[(i:Int).toNat]?=some ⟨r1,r1+1,some j,v.digest⟩:=List.getElem?_set_self (by omega)
  have hs2:∀x:VtxO,(row1.set (i:Int).toNat (⟨r1,r1+1,some j,v.digest⟩:VtxO)).set (i:Int).toNat x=row.set i x:=fun x=>by rw[List.set_set,hs1]
  generalize row1.set (i:Int).toNat (⟨r1,r1+1,some j,v.digest⟩:VtxO)=row2 at *
  have hw2:(ps1.set w row2)[w]?=some row2:=List.getElem?_set_self hwp1
  have hp2:∀b,(ps1.set w row2).set w b=vss.set w b:=fun b=>by rw[List.set_set,hp1]
  generalize ps1.set w row2=ps2 at *
  have hM:=gC r2 j y (r1+1+1) h2 (by omega)
  rw[show r1+1+1=r1+2 by omega] at *
  have hF:=gy 3 r2 j (mk (r1+2) y.length)
  (repeat' first|refine st ?_|refine sa fun xe hxe=>?_|refine sb (fun hq=>?_) fun hq=>?_|refine co (hM) ?_|exact True.intro)
  refine⟨i+1,by omega,by omega,?_⟩
  rw[hr',h6,h7,h8,←hp2,show r1+3+(y.length:Int)=r1+2+y.length+1 by omega,←hs2]
  rfl
 ·obtain rfl:i=vs.length:=by omega
  rw[List.take_of_length_le (Nat.le_refl _),List.drop_eq_nil_of_le (Nat.le_refl _),List.append_nil] at *
  have hlm:=i0 vs k pss
  have hgw:(vss.set w (cD vs k pss).2.2)[w]?=some (cD vs k pss).2.2:=List.getElem?_set_self hwl
  generalize cD vs k pss=r at *
  (repeat' first|refine st ?_|refine sa fun xe hxe=>?_|refine sb (fun hq=>?_) fun hq=>?_|exact True.intro)
  exact⟨rfl,rfl⟩
theorem dw (E:TypeId){a b:List (List Int)}(h:b.map List.length=a.map List.length):ao (VB.frow E (.int .i64) a)≤ao (VB.frow E (.int .i64) b):=by
 have:=congrArg List.length h
 simp only[List.length_map] at this
 simp[ao,this]
theorem n7 (hs:List (Option Nat))(pss:List (List Int))(vss:List (List VtxO))(gs:List (List Vtx))(k:Int)(hr:GsR pss vss hs gs)(hn:(hs.map (·.getD 0)).Nodup)(hk:0≤k∧k+cG gs≤1000000000)(hl:hs.length≤1048576):ai Tryz.prog 46 [.ref 4,.int .i64 k] [(0,.frow 43 (.vtxo 1) vss),(1,.frow 3 (.int .i64) pss),(4,.row 102 (.hr 0) hs)] (.int .i64 (cg hs k pss vss).1) [(0,.frow 43 (.vtxo 1) (cg hs k pss vss).2.2),(1,.frow 3 (.int .i64) (cg hs k pss vss).2.1),(4,.row 102 (.hr 0) hs)]:=by
 refine aa ak Tryz.func46 rfl rfl false 1 5 rfl rfl rfl rfl fun K hK hb1 hb2=>?_;simp only[ae,enc,Nat.reduceAdd]
 clear hb1 hb2
 (repeat' first|refine st ?_|refine sa fun xe hxe=>?_|refine sb (fun hq=>?_) fun hq=>?_|exact True.intro)
 refine ag hK [] [0,1,5] (fun i:Nat=>⟨[(0,.ref 4),(1,.int .i64 (cg (hs.take i) k pss vss).1),(5,.int .i64 i)],[(0,.frow 43 (.vtxo 1) (cg (hs.take i) k pss vss).2.2),(1,.frow 3 (.int .i64) (cg (hs.take i) k pss vss).2.1),(4,.row 102 (.hr 0) hs)],5⟩) (fun i=>i≤hs.length) (fun i=>hs.length-i) 0 (by simp) rfl ?_
 intro i hi
 have hgl:=hr.len
 by_cases hlt:i<hs.length
 ·have hv:gs[i]?=some gs[i]:=List.getElem?_eq_getElem (by omega)
  obtain⟨j,vs,g',h1,h2,h3,h4,h5,h6,h7,h8⟩:=sU (k:=k) hr hn hv rfl
  have hc:=qa hv
  have hc2:=yA gs (i+1)
  generalize hr':cg (hs.take (i+1)) k pss vss=r' at *
  generalize cg (hs.take i) k pss vss=r at *
  obtain⟨r1,r2,r3⟩:=r
  simp only at h2 h3 h5 h6 h7 h8⊢
  have hM:=oT r3 j vs h2 r2 g' r1 h3 (by omega)
  have hF0:=zb 43 r3 j (cD vs r1 r2).2.2
  have hF1:=dw 3 (ga vs r1 r2)
  generalize cD vs r1 r2=m at *
  (repeat' first|refine st ?_|refine sa fun xe hxe=>?_|refine sb (fun hq=>?_) fun hq=>?_|refine co (hM) ?_|exact True.intro)
  refine⟨i+1,by omega,by omega,?_⟩
  rw[hr',h6,h7,h8]
  rfl
 ·obtain rfl:i=hs.length:=by omega
  rw[List.take_of_length_le (Nat.le_refl _)] at *
  generalize cg hs k pss vss=r at *
  (repeat' first|refine st ?_|refine sa fun xe hxe=>?_|refine sb (fun hq=>?_) fun hq=>?_|exact True.intro)
  exact⟨rfl,rfl⟩
theorem mj (vs:List PplO)(pss:List (List Int))(g:List Ppl)(k:Int)(hr:PsR pss vs g)(hk:0≤k∧k+cP g≤1000000000):ai Tryz.prog 47 [.ref 4,.int .i64 k] [(1,.frow 3 (.int .i64) pss),(4,.row 104 (.pplo 1 1) vs)] (.int .i64 (eH vs k pss).1) [(1,.frow 3 (.int .i64) (eH vs k pss).2.1),(4,.row 104 (.pplo 1 1) (eH vs k pss).2.2)]:=by
 refine aa ak Tryz.func47 rfl rfl false 1 5 rfl rfl rfl rfl fun K hK hb1 hb2=>?_;simp only[ae,enc,Nat.reduceAdd]
 clear hb1 hb2
 (repeat' first|refine st ?_|refine sa fun xe hxe=>?_|refine sb (fun hq=>?_) fun hq=>?_|exact True.intro)
 refine ag hK [] [0,1,5] (fun i:Nat=>⟨[(0,.ref 4),(1,.int .i64 (eH (vs.take i) k pss).1),(5,.int .i64 i)],[(1,.frow 3 (.int .i64) (eH (vs.take i) k pss).2.1),(4,.row 104 (.pplo 1 1) ((eH (vs.take i) k pss).2.2++vs.drop i))],5⟩) (fun i=>i≤vs.length) (fun i=>vs.length-i) 0 (by simp) (by simp[eH];rfl) ?_
 intro i hi
 have hgl:=hr.len
 have hcl:=uh g
 by_cases hlt:i<vs.length
 ·have hv:g[i]?=some g[i]:=List.getElem?_eq_getElem (by omega)
  obtain⟨j,y,j2,y2,h1,h2,h2',h3,h3',h4,h5,h6,h7,h8⟩:=s6 (k:=k) hr hv rfl
  have hc:=qb hv
  have hc2:=yB g (i+1)
  have hll:((eH (vs.take i) k pss).2.2++vs.drop i).length=vs.length:=by simp[iZ];omega
  generalize hr':eH (vs.take (i+1)) k pss=r' at *
  generalize eH (vs.take i) k pss=r at *
  obtain⟨r1,r2,r3⟩:=r
  simp only at h1 h2 h2' h4 h5 h6 h7 h8 hll⊢
  generalize r3++vs.drop i=row at *
  generalize g[i]=v at *
  have hti:(i:Int).toNat<row.length:=by simp;omega
  (repeat' first|refine st ?_|refine sa fun xe hxe=>?_|refine sb (fun hq=>?_) fun hq=>?_|exact True.intro)
  rename_i ya hya
  obtain rfl:=Option.some.inj ((List.getElem?_set_self hti).symm.trans hya)
  obtain rfl:=Option.some.inj ((List.getElem?_set_self (by rw[List.length_set];exact hti)).symm.trans hxe)
  clear hya hxe
  dsimp only
  rw[List.set_set]
  have hg2:(i:Int).toNat<(row.set (i:Int).toNat (⟨⟨r1,r1+1,some j,v.v.digest⟩,some j2⟩:PplO)).length:=by rw[List.length_set];exact hti
  have hg3:(row.set (i:Int).toNat (⟨⟨r1,r1+1,some j,v.v.digest⟩,some j2⟩:PplO))[(i:Int).toNat]?=some ⟨⟨r1,r1+1,some j,v.v.digest⟩,some j2⟩:=List.getElem?_set_self hti
  have hg4:∀x:PplO,(row.set (i:Int).toNat (⟨⟨r1,r1+1,some j,v.v.digest⟩,some j2⟩:PplO)).set (i:Int).toNat x=row.set i x:=fun x=>by rw[List.set_set,Int.toNat_natCast]
  generalize row.set (i:Int).toNat (⟨⟨r1,r1+1,some j,v.v.digest⟩,some j2⟩:PplO)=row2 at *
  have hM:=gC r2 j y (r1+1+1) h2 (by omega)
  rw[show r1+1+1=r1+2 by omega] at *
  have hF:=gy 3 r2 j (mk (r1+2) y.length)
  (repeat(any_goals(first|refine st ?_|refine sa fun xe hxe=>?_|refine sb (fun hq=>?_) fun hq=>?_|refine co (hM) ?_|exact True.intro)))
  obtain rfl:=Option.some.inj ((List.getElem?_set_self hg2).symm.trans hxe)
  clear hxe hM hF
  dsimp only
  rw[hg4]
  have hM:=gC (r2.set j (mk (r1+2) y.length)) j2 y2 (r1+2+y.length+1) h2' (by omega)
  rw[show r1+3+(y.length:Int)=r1+2+y.length+1 by omega] at *
  have hF:=gy 3 (r2.set j (mk (r1+2) y.length)) j2 (mk (r1+2+y.length+1) y2.length)
  generalize r2.set j (mk (r1+2) y.length)=r4 at *
  (repeat' first|refine st ?_|refine sa fun xe hxe=>?_|refine sb (fun hq=>?_) fun hq=>?_|refine co (hM) ?_|exact True.intro)
  refine⟨i+1,by omega,by omega,?_⟩
  rw[hr',h6,h7,h8]
  rfl
 ·obtain rfl:i=vs.length:=by omega
  rw[List.take_of_length_le (Nat.le_refl _),List.drop_eq_nil_of_le (Nat.le_refl _),List.append_nil] at *
  have hlm:=iZ vs k pss
  generalize eH vs k pss=r at *
  (repeat' first|refine st ?_|refine sa fun xe hxe=>?_|refine sb (fun hq=>?_) fun hq=>?_|exact True.intro)
  exact⟨rfl,rfl⟩
theorem sP (a b:List Int)(bad:Int)(vss:List (List VtxO))(pss:List (List Int))(hs:List (Option Nat))(ps:List PplO)(gs:List (List Vtx))(qs:List Ppl)(k:Int)(h:WO vss pss hs ps gs qs)(hl:hs.length≤1048576)(hk:0≤k∧k+(a.length+b.length+cG gs+cP qs:Nat)≤1000000000):
  ∃x:(Int×List (List Int)×List (List VtxO))×(Int×List (List Int)×List PplO),(x.1=cg hs (k+a.length+b.length) pss vss∧x.2=eH ps x.1.1 x.1.2.1)∧ai Tryz.prog 11 [yn bad,.int .i64 k] [(0,.frow 43 (.vtxo 1) vss),(1,.frow 3 (.int .i64) pss),(4,.row 3 (.int .i64) a),(5,.row 3 (.int .i64) b),(6,.row 102 (.hr 0) hs),(7,.row 104 (.pplo 1 1) ps)]
   (.int .i64 x.2.1) [(0,.frow 43 (.vtxo 1) x.1.2.2),(1,.frow 3 (.int .i64) x.2.2.1),(4,.row 3 (.int .i64) (mk k a.length)),(5,.row 3 (.int .i64) (mk (k+a.length) b.length)),(6,.row 102 (.hr 0) hs),(7,.row 104 (.pplo 1 1) x.2.2.2)]:=by
 refine⟨(cg hs (k+a.length+b.length) pss vss,eH ps (cg hs (k+a.length+b.length) pss vss).1 (cg hs (k+a.length+b.length) pss vss).2.1),⟨rfl,rfl⟩,?_⟩
 obtain⟨h1,h2,h3,-,-⟩:=h.mark (k+a.length+b.length)
 have hG:=n7 hs pss vss gs (k+a.length+b.length) h.g h.hn (by omega) hl
 have hP:=mj ps (cg hs (k+a.length+b.length) pss vss).2.1 qs (cg hs (k+a.length+b.length) pss vss).1 h1 (by omega)
 have hF0:ao (VB.frow 43 (.vtxo 1) vss)≤ao (VB.frow 43 (.vtxo 1) (cg hs (k+a.length+b.length) pss vss).2.2):=by
  have key:∀(hs:List (Option Nat)) (k:Int) (pss:List (List Int)) (vss:List (List VtxO)),(cg hs k pss vss).2.2.length=vss.length:=by
   intro hs
   induction hs with
   |nil=>intros;rfl
   |cons x l ih=>intro k pss vss;simp only[cg];rw[ih,List.length_set]
  simp[ao,key]
 have hF1:=dw 3 (fZ hs (k+a.length+b.length) pss vss)
 have hF2:=dw 3 (eX ps (cg hs (k+a.length+b.length) pss vss).1 (cg hs (k+a.length+b.length) pss vss).2.1)
 generalize cg hs (k+a.length+b.length) pss vss=x at *
 generalize eH ps x.1 x.2.1=y at *
 refine aa ak Tryz.func11 rfl rfl false 4 8 rfl rfl rfl rfl fun K hK hb1 hb2=>?_;simp only[ae,enc,Nat.reduceAdd]
 clear hb1 hb2
 (repeat' first|refine st ?_|refine sa fun xe hxe=>?_|refine sb (fun hq=>?_) fun hq=>?_|refine co (hG) ?_|refine co (hP) ?_|((with_reducible refine uj ?_);(conv=>whnf);(first|with_reducible refine aB (nZ _ _ (by omega)) ?_);conv=>whnf)|exact True.intro)
 exact⟨rfl,rfl⟩
theorem qG {l:List Int}{n:Nat}{k:Int}(hl:l=mk k n)(hk:0≤k∧k+n≤1000000000):ai Tryz.prog 48 [.lst (.int .i64) l,.int .i64 k] [] (.int .i64 (k+n)) []:=by
 subst hl
 exact jy n k hk
theorem oP (g:List Vtx)(k:Int)(hk:0≤k∧k+cV g≤1000000000):ai Tryz.prog 95 [.lst .vtx (ko k g),.int .i64 k] [] (.int .i64 (k+cV g)) []:=by
 refine aa ak Tryz.func95 rfl rfl false 0 4 rfl rfl rfl rfl fun K hK hb1 hb2=>?_;simp only[ae,enc,Nat.reduceAdd]
 clear hb1 hb2
 have hl:=s0 g k
 have hcl:=ui g
 (repeat' first|refine st ?_|refine sa fun xe hxe=>?_|refine sb (fun hq=>?_) fun hq=>?_|exact True.intro)
 refine ag hK [] [0,1,5] (fun i:Nat=>⟨[(0,.lst .vtx (ko k g)),(1,.int .i64 (k+cV (g.take i))),(5,.int .i64 i)],[],4⟩) (fun i=>i≤g.length) (fun i=>g.length-i) 0 (by simp) (by simp[cV];rfl) ?_
 intro i hi
 by_cases hlt:i<g.length
 ·have hv:g[i]?=some g[i]:=List.getElem?_eq_getElem hlt
  have hx:=sZ k hv
  have hc:=qc hv
  have hc2:=yC g (i+1)
  generalize ko k g=row at *
  generalize g[i]=v at *
  generalize hkk:k+(cV (g.take i):Int)=kk at *
  generalize v.parents.length=n at *
  have hl2:mk (kk+2) n=mk (kk+1+1) n:=by rw[show kk+2=kk+1+1 by omega]
  generalize mk (kk+2) n=l at *
  rw[show kk+2+(n:Int)=kk+1+1+n by omega] at hx
  (repeat' first|refine st ?_|refine sa fun xe hxe=>?_|refine sb (fun hq=>?_) fun hq=>?_|((with_reducible refine cA ?_);(conv=>whnf);(first|with_reducible refine aB (qG hl2 (by omega)) ?_);conv=>whnf)|exact True.intro)
  (try any_goals(first|exact absurd trivial hq|exact absurd rfl hq|exact absurd hq (by omega)|(exfalso;simp at hq;done)))
  refine⟨i+1,by omega,by omega,?_⟩
  rw[show k+(cV (g.take (i+1)):Int)=kk+1+1+n+1 by omega]
  rfl
 ·obtain rfl:i=g.length:=by omega
  rw[List.take_of_length_le (Nat.le_refl _)]
  generalize ko k g=row at *
  (repeat' first|refine st ?_|refine sa fun xe hxe=>?_|refine sb (fun hq=>?_) fun hq=>?_|exact True.intro)
  exact⟨rfl,rfl⟩
theorem nN (g:List (List Vtx))(k:Int)(hgl:g.length≤1048576)(hk:0≤k∧k+cG g≤1000000000):ai Tryz.prog 49 [.lst (.lst .vtx) (jh k g),.int .i64 k] [] (.int .i64 (k+cG g)) []:=by
 refine aa ak Tryz.func49 rfl rfl false 0 4 rfl rfl rfl rfl fun K hK hb1 hb2=>?_;simp only[ae,enc,Nat.reduceAdd]
 clear hb1 hb2
 have hl:=sW g k
 (repeat' first|refine st ?_|refine sa fun xe hxe=>?_|refine sb (fun hq=>?_) fun hq=>?_|exact True.intro)
 refine ag hK [] [0,1,5] (fun i:Nat=>⟨[(0,.lst (.lst .vtx) (jh k g)),(1,.int .i64 (k+cG (g.take i))),(5,.int .i64 i)],[],4⟩) (fun i=>i≤g.length) (fun i=>g.length-i) 0 (by simp) (by simp[cG];rfl) ?_
 intro i hi
 by_cases hlt:i<g.length
 ·have hv:g[i]?=some g[i]:=List.getElem?_eq_getElem hlt
  have hx:=sV k hv
  have hc:=qa hv
  have hc2:=yA g (i+1)
  generalize jh k g=row at *
  generalize g[i]=v at *
  generalize hkk:k+(cG (g.take i):Int)=kk at *
  (repeat' first|refine st ?_|refine sa fun xe hxe=>?_|refine sb (fun hq=>?_) fun hq=>?_|((with_reducible refine cA ?_);(conv=>whnf);(first|with_reducible refine aB (oP v kk (by omega)) ?_);conv=>whnf)|exact True.intro)
  (try any_goals(first|exact absurd trivial hq|exact absurd rfl hq|exact absurd hq (by omega)|(exfalso;simp at hq;done)))
  refine⟨i+1,by omega,by omega,?_⟩
  rw[show k+(cG (g.take (i+1)):Int)=kk+cV v by omega]
  rfl
 ·obtain rfl:i=g.length:=by omega
  rw[List.take_of_length_le (Nat.le_refl _)]
  generalize jh k g=row at *
  (repeat' first|refine st ?_|refine sa fun xe hxe=>?_|refine sb (fun hq=>?_) fun hq=>?_|exact True.intro)
  exact⟨rfl,rfl⟩
theorem mg (g:List Ppl)(k:Int)(hk:0≤k∧k+cP g≤1000000000):ai Tryz.prog 50 [.lst .ppl (jJ k g),.int .i64 k] [] (.int .i64 (k+cP g)) []:=by
 refine aa ak Tryz.func50 rfl rfl false 0 4 rfl rfl rfl rfl fun K hK hb1 hb2=>?_;simp only[ae,enc,Nat.reduceAdd]
 clear hb1 hb2
 have hl:=sY g k
 have hcl:=uh g
 (repeat' first|refine st ?_|refine sa fun xe hxe=>?_|refine sb (fun hq=>?_) fun hq=>?_|exact True.intro)
 refine ag hK [] [0,1,5] (fun i:Nat=>⟨[(0,.lst .ppl (jJ k g)),(1,.int .i64 (k+cP (g.take i))),(5,.int .i64 i)],[],4⟩) (fun i=>i≤g.length) (fun i=>g.length-i) 0 (by simp) (by simp[cP];rfl) ?_
 intro i hi
 by_cases hlt:i<g.length
 ·have hv:g[i]?=some g[i]:=List.getElem?_eq_getElem hlt
  have hx:=sX k hv
  have hc:=qb hv
  have hc2:=yB g (i+1)
  generalize jJ k g=row at *
  generalize g[i]=v at *
  generalize hkk:k+(cP (g.take i):Int)=kk at *
  generalize v.v.parents.length=n at *
  generalize v.members.length=m at *
  have hl2:mk (kk+2) n=mk (kk+1+1) n:=by rw[show kk+2=kk+1+1 by omega]
  have hl3:mk (kk+3+n) m=mk (kk+1+1+n+1) m:=by rw[show kk+3+(n:Int)=kk+1+1+n+1 by omega]
  generalize mk (kk+2) n=l at *
  generalize mk (kk+3+n) m=l3 at *
  rw[show kk+2+(n:Int)=kk+1+1+n by omega] at hx
  (repeat' first|refine st ?_|refine sa fun xe hxe=>?_|refine sb (fun hq=>?_) fun hq=>?_|((with_reducible refine cA ?_);(conv=>whnf);(first|with_reducible refine aB (qG hl2 (by omega)) ?_|with_reducible refine aB (qG hl3 (by omega)) ?_);conv=>whnf)|exact True.intro)
  (try any_goals(first|exact absurd trivial hq|exact absurd rfl hq|exact absurd hq (by omega)|(exfalso;simp at hq;done)))
  refine⟨i+1,by omega,by omega,?_⟩
  rw[show k+(cP (g.take (i+1)):Int)=kk+1+1+n+1+m by omega]
  rfl
 ·obtain rfl:i=g.length:=by omega
  rw[List.take_of_length_le (Nat.le_refl _)]
  generalize jJ k g=row at *
  (repeat' first|refine st ?_|refine sa fun xe hxe=>?_|refine sb (fun hq=>?_) fun hq=>?_|exact True.intro)
  exact⟨rfl,rfl⟩
def Gw (k:Int)(w:Wrl):Wrl:=⟨mk k w.com.length,mk (k+w.com.length) w.lead.length,w.bad,jh (k+w.com.length+w.lead.length) w.views,jJ (k+w.com.length+w.lead.length+cG w.views) w.props⟩
def cW (w:Wrl):Nat:=w.com.length+w.lead.length+cG w.views+cP w.props
theorem lZ (w:Wrl)(k:Int)(hgl:w.views.length≤1048576)(hk:0≤k∧k+cW w≤1000000000):ai Tryz.prog 12 [aP (Gw k w),.int .i64 k] [] (.int .i64 (k+cW w)) []:=by
 unfold cW at *
 have h1:=jy w.com.length k (by omega)
 have h2:=jy w.lead.length (k+w.com.length) (by omega)
 have h3:=nN w.views (k+w.com.length+w.lead.length) hgl (by omega)
 have h4:=mg w.props (k+w.com.length+w.lead.length+cG w.views) (by omega)
 refine aa ak Tryz.func12 rfl rfl false 0 4 rfl rfl rfl rfl fun K hK hb1 hb2=>?_;simp only[ae,enc,Nat.reduceAdd]
 clear hb1 hb2
 unfold Gw
 generalize mk k w.com.length=x1 at *
 generalize mk (k+w.com.length) w.lead.length=x2 at *
 generalize jh (k+w.com.length+w.lead.length) w.views=x3 at *
 generalize jJ (k+w.com.length+w.lead.length+cG w.views) w.props=x4 at *
 (repeat' first|refine st ?_|refine sa fun xe hxe=>?_|refine sb (fun hq=>?_) fun hq=>?_|refine cr (h1) ?_|refine cr (h2) ?_|refine cr (h3) ?_|refine cr (h4) ?_|exact True.intro)
 (try any_goals(first|exact absurd trivial hq|exact absurd rfl hq|exact absurd hq (by omega)|(exfalso;simp at hq;done)))
 exact⟨congrArg (V.int .i64) (by omega),rfl⟩
theorem zH (l:List Int)(n:Int):ai Tryz.prog 61 [.lst (.int .i64) l,.int .i64 n] [] (.bool (l.contains n)) []:=by
 refine aa ak Tryz.func61 rfl rfl false 0 4 rfl rfl rfl rfl fun K hK hb1 hb2=>?_;simp only[ae,enc,Nat.reduceAdd]
 simp[af,V.toD,bnd,ab,D.cells] at hb1
 (repeat' first|refine st ?_|refine sa fun xe hxe=>?_|refine sb (fun hq=>?_) fun hq=>?_|exact True.intro)
 refine ag hK [] [0,1,5] (fun i:Nat=>⟨[(0,.lst (.int .i64) l),(1,.int .i64 n),(5,.int .i64 i)],[],4⟩) (fun i=>i≤l.length∧∀y∈l.take i,(y==n)=false) (fun i=>l.length-i) 0 ⟨by simp,by simp⟩ rfl ?_
 rintro i ⟨hi,hall⟩
 by_cases hlt:i<l.length
 ·have hxe:l[i]?=some l[i]:=List.getElem?_eq_getElem hlt
  have hsn:l.take (i+1)=l.take i++[l[i]]:=List.take_succ_eq_append_getElem hlt
  have hm:l[i]∈l:=List.getElem_mem hlt
  generalize l[i]=x at *
  by_cases h:x=n
  ·subst h
   (repeat' first|refine st ?_|refine sa fun xe hxe=>?_|refine sb (fun hq=>?_) fun hq=>?_|exact True.intro)
   ·rw[List.contains_iff_mem.2 hm]
    exact⟨rfl,rfl⟩
   ·exact absurd trivial hq
  ·(repeat' first|refine st ?_|refine sa fun xe hxe=>?_|refine sb (fun hq=>?_) fun hq=>?_|exact True.intro)
   exact⟨i+1,⟨by omega,by rw[hsn];exact aS hall (by simpa using h)⟩,by omega,rfl⟩
 ·(repeat' first|refine st ?_|refine sa fun xe hxe=>?_|refine sb (fun hq=>?_) fun hq=>?_|exact True.intro)
  rw[List.take_of_length_le (by omega)] at hall
  have:l.contains n=false:=by
   rw[Bool.eq_false_iff]
   intro h
   have:=hall _ (List.contains_iff_mem.1 h)
   simp at this
  rw[this]
  exact⟨rfl,rfl⟩
theorem Em {a b:List Int}{i:Nat}{x y:Int}(hx:a[i]?=some x)(hy:b[i]?=some y)(h:x≠y):(a==b)=false:=by
 rw[beq_eq_false_iff_ne]
 rintro rfl
 rw[hx] at hy
 exact h (Option.some.inj hy)
theorem vn (v u:Vtx):ai Tryz.prog 102 [bu v,bu u] [] (.bool (gm v u)) []:=by
 have hno:∀b,gm v u=b→V.bool b=V.bool (gm v u)∧([]:VH)=[]:=fun b h=>⟨by rw[h],rfl⟩
 refine aa ak Tryz.func102 rfl rfl false 0 4 rfl rfl rfl rfl fun K hK hb1 hb2=>?_;simp only[ae,enc,Nat.reduceAdd]
 simp[af,V.toD,bnd,ab,D.cells,dA] at hb1
 by_cases h1:v.round=u.round
 rotate_left
 ·(repeat' first|refine st ?_|refine sa fun xe hxe=>?_|refine sb (fun hq=>?_) fun hq=>?_|exact True.intro)
  exact hno _ (by simp[gm,h1])
 by_cases h2:v.author=u.author
 rotate_left
 ·(repeat' first|refine st ?_|refine sa fun xe hxe=>?_|refine sb (fun hq=>?_) fun hq=>?_|exact True.intro)
  exact hno _ (by simp[gm,h2])
 by_cases h3:v.digest=u.digest
 rotate_left
 ·(repeat' first|refine st ?_|refine sa fun xe hxe=>?_|refine sb (fun hq=>?_) fun hq=>?_|exact True.intro)
  exact hno _ (by simp[gm,h3])
 have he:gm v u=(v.parents==u.parents):=by simp[gm,h1,h2,h3]
 by_cases h4:v.parents.length=u.parents.length
 rotate_left
 ·(repeat' first|refine st ?_|refine sa fun xe hxe=>?_|refine sb (fun hq=>?_) fun hq=>?_|exact True.intro)
  exact hno _ (by rw[he,beq_eq_false_iff_ne];intro h;exact h4 (by rw[h]))
 (repeat' first|refine st ?_|refine sa fun xe hxe=>?_|refine sb (fun hq=>?_) fun hq=>?_|exact True.intro)
 refine ag hK [] [2,3,5] (fun i:Nat=>⟨[(2,.ptr 4 0),(3,.ptr 5 0),(5,.int .i64 i)],[(4,.var 43 (bu v).cells),(5,.var 43 (bu u).cells)],6⟩) (fun i=>i≤v.parents.length∧v.parents.take i=u.parents.take i) (fun i=>v.parents.length-i) 0 ⟨by simp,by simp⟩ rfl ?_
 rintro i ⟨hi,hall⟩
 by_cases hlt:i<v.parents.length
 ·have hxe:v.parents[i]?=some v.parents[i]:=List.getElem?_eq_getElem hlt
  have hye:u.parents[i]?=some (u.parents[i]'(by omega)):=List.getElem?_eq_getElem (by omega)
  have hsn:v.parents.take (i+1)=v.parents.take i++[v.parents[i]]:=List.take_succ_eq_append_getElem hlt
  have hsu:u.parents.take (i+1)=u.parents.take i++[u.parents[i]'(by omega)]:=List.take_succ_eq_append_getElem (by omega)
  generalize v.parents[i]=x at *
  generalize u.parents[i]'(by omega)=y at *
  by_cases h:x=y
  ·subst h
   (repeat' first|refine st ?_|refine sa fun xe hxe=>?_|refine sb (fun hq=>?_) fun hq=>?_|exact True.intro)
   ·exact absurd trivial hq
   ·exact⟨i+1,⟨by omega,by rw[hsn,hsu,hall]⟩,by omega,rfl⟩
  ·(repeat' first|refine st ?_|refine sa fun xe hxe=>?_|refine sb (fun hq=>?_) fun hq=>?_|exact True.intro)
   exact hno _ (by rw[he];exact Em hxe hye h)
 ·(repeat' first|refine st ?_|refine sa fun xe hxe=>?_|refine sb (fun hq=>?_) fun hq=>?_|exact True.intro)
  rw[List.take_of_length_le (by omega),List.take_of_length_le (by omega)] at hall
  exact hno _ (by rw[he,hall];simp)
theorem AZ (v u:Vtx):ai Tryz.prog 101 [bu v,bu u] [] (.bool (slt v u)) []:=by
 refine aa ak Tryz.func101 rfl rfl false 0 4 rfl rfl rfl rfl fun K hK hb1 hb2=>?_;simp only[ae,enc,Nat.reduceAdd]
 (repeat' first|refine st ?_|refine sa fun xe hxe=>?_|refine sb (fun hq=>?_) fun hq=>?_|exact True.intro)
 all_goals (refine⟨?_,rfl⟩;simp_all[slt])
theorem wZ (w:Wrl)(p:Ppl)(hc:comV w.com=true)(hm:cj w.com p.members=true):ai Tryz.prog 103 [aP w,jj p] [] (.bool (don w.com p)) []:=by
 have h1:=bQ hm
 have h2:=gb hm
 have h3:=(aw.1 hc).2
 refine aa ak Tryz.func103 rfl rfl false 0 4 rfl rfl rfl rfl fun K hK hb1 hb2=>?_;simp only[ae,enc,Nat.reduceAdd]
 (repeat' first|refine st ?_|refine sa fun xe hxe=>?_|refine sb (fun hq=>?_) fun hq=>?_|refine cr (tz _ hc) ?_|((with_reducible refine cA ?_);(conv=>whnf);(first|with_reducible refine aB (xi _ _ hc h1 (by omega)) ?_);conv=>whnf)|exact True.intro)
 exact⟨rfl,rfl⟩
theorem EW (w:Wrl)(hc:comV w.com=true):ai Tryz.prog 59 [aP w] [] (.bool (eD w.com w.bad w.props)) []:=by
 refine aa ak Tryz.func59 rfl rfl false 0 4 rfl rfl rfl rfl fun K hK hb1 hb2=>?_;simp only[ae,enc,Nat.reduceAdd]
 simp[af,V.toD,bnd,ab,D.cells] at hb1
 (repeat' first|refine st ?_|refine sa fun xe hxe=>?_|refine sb (fun hq=>?_) fun hq=>?_|exact True.intro)
 refine ag hK [] [1,3] (fun i:Nat=>⟨[(1,.ptr 4 0),(3,.int .i64 i)],[(4,.var 31 (aP w).cells)],5⟩) (fun i=>i≤w.props.length∧∀j,j<i→dN w.com w.bad w.props j=true) (fun i=>w.props.length-i) 0 ⟨by simp,by simp⟩ rfl ?_
 rintro i ⟨hi,hall⟩
 by_cases hlt:i<w.props.length
 ·have hxe:w.props[i]?=some w.props[i]:=List.getElem?_eq_getElem hlt
  have hno:dN w.com w.bad w.props i=false→V.bool false=V.bool (eD w.com w.bad w.props)∧([]:VH)=[]:=fun h=>⟨by rw[eD,bZ hlt h,Bool.false_and],rfl⟩
  have hA:dN w.com w.bad w.props i=(oneP w.com w.props[i] && cR i (fun k=>fitP w.bad w.props[i] (w.props.getD k p0))):=by simp only[dN,a8 hxe]
  generalize w.props[i]=p at *
  have hvc:=jt w.com p.v hc
  have hmc:=u6 w.com p.members
  cases h1:vtxS w.com p.v
  ·rw[h1] at hvc
   (repeat' first|refine st ?_|refine sa fun xe hxe=>?_|refine sb (fun hq=>?_) fun hq=>?_|refine cr (hvc) ?_|refine cr (hmc) ?_|exact True.intro)
   exact hno (by simp[hA,oneP,h1])
  rw[h1] at hvc
  cases h2:cj w.com p.members
  ·rw[h2] at hmc
   (repeat' first|refine st ?_|refine sa fun xe hxe=>?_|refine sb (fun hq=>?_) fun hq=>?_|refine cr (hvc) ?_|refine cr (hmc) ?_|exact True.intro)
   exact hno (by simp[hA,oneP,h2])
  rw[h2] at hmc
  (repeat' first|refine st ?_|refine sa fun xe hxe=>?_|refine sb (fun hq=>?_) fun hq=>?_|refine cr (hvc) ?_|refine cr (hmc) ?_|exact True.intro)
  refine ag hK [] [1,3,4,5] (fun k:Nat=>⟨[(1,.ptr 4 0),(3,.int .i64 i),(4,.ptr 5 0),(5,.int .i64 k)],[(4,.var 31 (aP w).cells),(5,.var 104 (jj p).cells)],6⟩) (fun k=>k≤i∧∀j,j<k→fitP w.bad p (w.props.getD j p0)=true) (fun k=>i-k) 0 ⟨by simp,by simp⟩ rfl ?_
  rintro k ⟨hk,hkall⟩
  by_cases hkl:k<i
  ·have hxk:w.props[k]?=some (w.props.getD k p0):=by rw[List.getD_eq_getElem?_getD,List.getElem?_eq_getElem (show k<w.props.length by omega)];rfl
   have hyes:=bk hkall (p:=fun j=>fitP w.bad p (w.props.getD j p0)) (i:=k)
   have hnk:fitP w.bad p (w.props.getD k p0)=false→V.bool false=V.bool (eD w.com w.bad w.props)∧([]:VH)=[]:=fun h=>hno (by rw[hA,bZ hkl h,Bool.and_false])
   generalize w.props.getD k p0=q at *
   have hsc:=AZ p.v q.v
   have hqc:=vn p.v q.v
   cases h3:slt p.v q.v
   ·rw[h3] at hsc
    (repeat' first|refine st ?_|refine sa fun xe hxe=>?_|refine sb (fun hq=>?_) fun hq=>?_|refine cr (hsc) ?_|refine cr (hqc) ?_|exact True.intro)
    exact⟨k+1,⟨by omega,hyes (by simp[fitP,h3])⟩,by omega,rfl⟩
   rw[h3] at hsc
   cases h4:gm p.v q.v
   rotate_left
   ·rw[h4] at hqc
    (repeat' first|refine st ?_|refine sa fun xe hxe=>?_|refine sb (fun hq=>?_) fun hq=>?_|refine cr (hsc) ?_|refine cr (hqc) ?_|exact True.intro)
    exact hnk (by simp[fitP,h3,h4])
   rw[h4] at hqc
   by_cases h5:p.v.author=w.bad
   rotate_left
   ·(repeat' first|refine st ?_|refine sa fun xe hxe=>?_|refine sb (fun hq=>?_) fun hq=>?_|refine cr (hsc) ?_|refine cr (hqc) ?_|exact True.intro)
    exact hnk (by simp[fitP,h3,h5])
   have hfe:fitP w.bad p q= !jX w.bad p.members q.members:=by simp[fitP,h3,h4,h5]
   (repeat' first|refine st ?_|refine sa fun xe hxe=>?_|refine sb (fun hq=>?_) fun hq=>?_|refine cr (hsc) ?_|refine cr (hqc) ?_|exact True.intro)
   refine ag hK [] [1,3,4,5,6,7] (fun n:Nat=>⟨[(1,.ptr 4 0),(3,.int .i64 i),(4,.ptr 5 0),(5,.int .i64 k),(6,.ptr 6 0),(7,.int .i64 n)],[(4,.var 31 (aP w).cells),(5,.var 104 (jj p).cells),(6,.var 104 (jj q).cells)],7⟩) (fun n=>n≤p.members.length∧∀m∈p.members.take n,(m !=w.bad && q.members.contains m)=false) (fun n=>p.members.length-n) 0 ⟨by simp,by simp⟩ rfl ?_
   rintro n ⟨hn,hnall⟩
   by_cases hnl:n<p.members.length
   ·have hxm:p.members[n]?=some p.members[n]:=List.getElem?_eq_getElem hnl
    have hsn:p.members.take (n+1)=p.members.take n++[p.members[n]]:=List.take_succ_eq_append_getElem hnl
    have hmm:p.members[n]∈p.members:=List.getElem_mem hnl
    have hml:p.members.length≤7:=by have:=gb h2;have:=(aw.1 hc).2;omega
    generalize p.members[n]=m at *
    have hhc:=zH q.members m
    by_cases h6:m=w.bad
    ·(repeat' first|refine st ?_|refine sa fun xe hxe=>?_|refine sb (fun hq=>?_) fun hq=>?_|refine cr (hhc) ?_|exact True.intro)
     exact⟨n+1,⟨by omega,by rw[hsn];exact aS hnall (by simp[h6])⟩,by omega,rfl⟩
    ·cases h7:q.members.contains m
     ·rw[h7] at hhc
      (repeat' first|refine st ?_|refine sa fun xe hxe=>?_|refine sb (fun hq=>?_) fun hq=>?_|refine cr (hhc) ?_|exact True.intro)
      exact⟨n+1,⟨by omega,by rw[hsn];exact aS hnall (by rw[h7,Bool.and_false])⟩,by omega,rfl⟩
     ·rw[h7] at hhc
      (repeat' first|refine st ?_|refine sa fun xe hxe=>?_|refine sb (fun hq=>?_) fun hq=>?_|refine cr (hhc) ?_|exact True.intro)
      refine hnk ?_
      have:jX w.bad p.members q.members=true:=List.any_eq_true.2 ⟨m,hmm,by rw[h7];simpa using h6⟩
      rw[hfe,this]
      rfl
   ·(repeat' first|refine st ?_|refine sa fun xe hxe=>?_|refine sb (fun hq=>?_) fun hq=>?_|exact True.intro)
    rw[List.take_of_length_le (by omega)] at hnall
    have:jX w.bad p.members q.members=false:=by
     rw[Bool.eq_false_iff]
     intro h
     obtain⟨m,hm,h⟩:=List.any_eq_true.1 h
     rw[hnall m hm] at h
     cases h
    exact⟨k+1,⟨by omega,hyes (by rw[hfe,this];rfl)⟩,by omega,rfl⟩
  ·have hAt:dN w.com w.bad w.props i=true:=by
    rw[hA,bL (fun j hj=>hkall j (by omega)),oneP,h1,h2]
    rfl
   (repeat' first|refine st ?_|refine sa fun xe hxe=>?_|refine sb (fun hq=>?_) fun hq=>?_|exact True.intro)
   exact⟨i+1,⟨by omega,bk hall hAt⟩,by omega,rfl⟩
 ·(repeat' first|refine st ?_|refine sa fun xe hxe=>?_|refine sb (fun hq=>?_) fun hq=>?_|exact True.intro)
  rw[eD,bL (fun j hj=>hall j (by omega)),Bool.true_and]
  exact⟨rfl,rfl⟩
theorem CQ (w:Wrl)(g:List Vtx)(hc:comV w.com=true)(hp:eD w.com w.bad w.props=true):ai Tryz.prog 60 [aP w,.lst .vtx g] [] (.bool (lO w.com w.props g)) []:=by
 have hpl:=i4 hp
 have hv:lO w.com w.props g=(g.all (knw w.com w.props) && graS w.com g):=rfl
 refine aa ak Tryz.func60 rfl rfl false 0 4 rfl rfl rfl rfl fun K hK hb1 hb2=>?_;simp only[ae,enc,Nat.reduceAdd]
 simp[af,V.toD,bnd,ab,D.cells] at hb1
 (repeat' first|refine st ?_|refine sa fun xe hxe=>?_|refine sb (fun hq=>?_) fun hq=>?_|exact True.intro)
 refine ag hK [] [1,2,5] (fun i:Nat=>⟨[(1,.lst .vtx g),(2,.ptr 4 0),(5,.int .i64 i)],[(4,.var 31 (aP w).cells)],5⟩) (fun i=>i≤g.length∧∀v∈g.take i,knw w.com w.props v=true) (fun i=>g.length-i) 0 ⟨by simp,by simp⟩ rfl ?_
 rintro i ⟨hi,hall⟩
 by_cases hlt:i<g.length
 ·have hxe:g[i]?=some g[i]:=List.getElem?_eq_getElem hlt
  have hsn:g.take (i+1)=g.take i++[g[i]]:=List.take_succ_eq_append_getElem hlt
  have hvm:g[i]∈g:=List.getElem_mem hlt
  generalize g[i]=v at *
  (repeat' first|refine st ?_|refine sa fun xe hxe=>?_|refine sb (fun hq=>?_) fun hq=>?_|exact True.intro)
  refine ag hK [] [1,2,5,6,7] (fun k:Nat=>⟨[(1,.lst .vtx g),(2,.ptr 4 0),(5,.int .i64 i),(6,.bool (knw w.com (w.props.take k) v)),(7,.int .i64 k)],[(4,.var 31 (aP w).cells)],5⟩) (fun k=>k≤w.props.length) (fun k=>w.props.length-k) 0 (by simp) rfl ?_
  intro k hk
  by_cases hkl:k<w.props.length
  ·have hxk:w.props[k]?=some w.props[k]:=List.getElem?_eq_getElem hkl
   have hks:w.props.take (k+1)=w.props.take k++[w.props[k]]:=List.take_succ_eq_append_getElem hkl
   have hom:=mT hp _ (List.getElem_mem hkl)
   generalize w.props[k]=p at *
   simp only[oneP,Bool.and_eq_true] at hom
   have hks2:knw w.com (w.props.take (k+1)) v=(knw w.com (w.props.take k) v||(don w.com p && gm p.v v)):=by rw[hks];simp[knw]
   have hdc:=wZ w p hc hom.2
   have hqc:=vn p.v v
   cases h1:knw w.com (w.props.take k) v
   ·cases h2:don w.com p
    ·rw[h2] at hdc
     (repeat' first|refine st ?_|refine sa fun xe hxe=>?_|refine sb (fun hq=>?_) fun hq=>?_|refine cr (hdc) ?_|refine cr (hqc) ?_|exact True.intro)
     exact⟨k+1,by omega,by omega,by rw[hks2,h1,h2];rfl⟩
    ·rw[h2] at hdc
     (repeat' first|refine st ?_|refine sa fun xe hxe=>?_|refine sb (fun hq=>?_) fun hq=>?_|refine cr (hdc) ?_|refine cr (hqc) ?_|exact True.intro)
     exact⟨k+1,by omega,by omega,by rw[hks2,h1,h2];rfl⟩
   ·(repeat' first|refine st ?_|refine sa fun xe hxe=>?_|refine sb (fun hq=>?_) fun hq=>?_|refine cr (hdc) ?_|refine cr (hqc) ?_|exact True.intro)
    exact⟨k+1,by omega,by omega,by rw[hks2,h1];rfl⟩
  ·rw[List.take_of_length_le (by omega)]
   cases h1:knw w.com w.props v
   ·(repeat' first|refine st ?_|refine sa fun xe hxe=>?_|refine sb (fun hq=>?_) fun hq=>?_|exact True.intro)
    have:g.all (knw w.com w.props)=false:=by
     rw[Bool.eq_false_iff]
     intro h
     rw[List.all_eq_true.1 h v hvm] at h1
     cases h1
    exact⟨by rw[hv,this,Bool.false_and],rfl⟩
   ·(repeat' first|refine st ?_|refine sa fun xe hxe=>?_|refine sb (fun hq=>?_) fun hq=>?_|exact True.intro)
    exact⟨i+1,⟨by omega,by rw[hsn];exact aS hall h1⟩,by omega,rfl⟩
 ·rw[List.take_of_length_le (by omega)] at hall
  (repeat' first|refine st ?_|refine sa fun xe hxe=>?_|refine sb (fun hq=>?_) fun hq=>?_|refine cr (D2 _ _) ?_|exact True.intro)
  exact⟨by rw[hv,List.all_eq_true.2 hall,Bool.true_and],rfl⟩

end Go.Proofs.YthmfppknagbkeaaGreat.Am
