/- Runs: the laws' own functions. The exact laws' own functions, on own rows within own rows. The exact laws' own functions: marks on own rows within own rows. Runs: what the specification's functions give. Runs: new runs, and the specification's checks. -/
import Derived.Test.YtgfcmhjebbncpaaCE7
set_option linter.unusedSimpArgs false
set_option linter.unusedVariables false
set_option maxHeartbeats 1000000
namespace Go.Proofs.Ytgfcmhjebbncpaa.Am
open Go
attribute [local irreducible] Mk bP Ari eJ sI lB di gf iN lD At ao
set_option maxRecDepth 10000
theorem iY {α:Type}{f:α→Nat}{l:List α}{i:Nat}{x:α}(h:l[i]?=some x):((l.take (i+1)).map f).sum=((l.take i).map f).sum+f x:=by
 obtain⟨hl,rfl⟩:=List.getElem?_eq_some_iff.1 h
 rw[List.take_succ_eq_append_getElem hl,List.map_append,List.sum_append]
 simp
theorem nC {α:Type}(f:α→Nat)(l:List α)(i:Nat):((l.take i).map f).sum≤(l.map f).sum:=by
 conv=>rhs;rw[←List.take_append_drop i l,List.map_append,List.sum_append]
 omega
theorem ru {α:Type}{f:α→Nat}{l:List α}{x:α}(h:x∈l):f x≤(l.map f).sum:=by
 obtain⟨i,hi⟩:=List.getElem?_of_mem h
 have h1:=iY (f:=f) hi
 have h2:=nC f l (i+1)
 omega
def pX (g:List Vtx):Nat:=g.length+dq g
def lz (gs:List (List Vtx)):Nat:=(gs.map pX).sum
def lQ (p:Ppl):Nat:=p.v.parents.length+p.members.length
def mt (ps:List Ppl):Nat:=(ps.map lQ).sum
def zP (w:Wrl):Nat:=w.com.length+w.lead.length+(w.views.length+lz w.views)+(w.props.length+mt w.props)
theorem nL (gs:List (List Vtx))(l:Int)(hl:0≤l∧l≤1048576):ao Try.prog 30 [.lst (.lst .vtx) gs,.int .i64 l] [] (.int .i64 (jO l (gs.length+lz gs))) []:=by
 refine af al Try.func30 rfl rfl false 0 4 rfl rfl rfl rfl fun K hK hb1 hb2=>?_;simp only[aj,enc,Nat.reduceAdd]
 simp[ab,V.toD,bnd,aa,D.cells] at hb1
 have hno:l-gs.length-lz gs<0→V.int .i64 (-1)=V.int .i64 (jO l (gs.length+lz gs))∧([]:VH)=[]:=fun h=>⟨by rw[jO,if_pos (by omega)],rfl⟩
 by_cases h0:l-gs.length<0
 ·(repeat' first|refine st ?_|refine sa fun xe hxe=>?_|refine sb (fun hq=>?_) fun hq=>?_|exact True.intro)
  exact hno (by omega)
 (repeat' first|refine st ?_|refine sa fun xe hxe=>?_|refine sb (fun hq=>?_) fun hq=>?_|exact True.intro)
 refine ak hK [] [0,1,5] (fun i:Nat=>⟨[(0,.lst (.lst .vtx) gs),(1,.int .i64 (l-gs.length-lz (gs.take i))),(5,.int .i64 i)],[],4⟩) (fun i=>i≤gs.length∧0≤l-gs.length-lz (gs.take i)) (fun i=>gs.length-i) 0 ⟨by simp,by simp[lz];omega⟩ (by simp[lz];rfl) ?_
 rintro i ⟨hi,hp⟩
 by_cases hlt:i<gs.length
 ·have hxe:gs[i]?=some gs[i]:=List.getElem?_eq_getElem hlt
  have h3:lz (gs.take (i+1))=lz (gs.take i)+pX gs[i]:=iY hxe
  have h4:lz (gs.take (i+1))≤lz gs:=nC _ gs (i+1)
  generalize gs[i]=g at *
  have hc:=ol g (l-gs.length-lz (gs.take i)) (by omega)
  unfold jO at hc
  unfold pX at h3
  by_cases h5:l-gs.length-lz (gs.take i)-(g.length+dq g:Nat)<0
  ·rw[if_pos h5] at hc
   (repeat' first|refine st ?_|refine sa fun xe hxe=>?_|refine sb (fun hq=>?_) fun hq=>?_|exact True.intro|refine cr (hc) ?_)
   exact hno (by omega)
  ·rw[if_neg h5] at hc
   (repeat' first|refine st ?_|refine sa fun xe hxe=>?_|refine sb (fun hq=>?_) fun hq=>?_|exact True.intro|refine cr (hc) ?_)
   refine⟨i+1,by omega,by omega,?_⟩
   rw[h3,show l-(gs.length:Int)-((lz (gs.take i)+(g.length+dq g):Nat):Int)=l-gs.length-lz (gs.take i)-(g.length+dq g:Nat) by omega]
   rfl
 ·rw[List.take_of_length_le (by omega)] at *
  (repeat' first|refine st ?_|refine sa fun xe hxe=>?_|refine sb (fun hq=>?_) fun hq=>?_|exact True.intro)
  exact⟨by rw[jO,if_neg (by omega)];congr 1;omega,rfl⟩
theorem mI (p:Ppl)(l:Int)(hl:0≤l∧l≤1048576):ao Try.prog 55 [gc p,.int .i64 l] [] (.int .i64 (jO l (lQ p))) []:=by
 have hc:=kY p.v l hl
 unfold lQ
 refine af al Try.func55 rfl rfl false 0 4 rfl rfl rfl rfl fun K hK hb1 hb2=>?_;simp only[aj,enc,Nat.reduceAdd]
 clear hb1 hb2
 unfold jO at hc⊢
 by_cases h:l-p.v.parents.length<0
 ·rw[if_pos h] at hc
  (repeat' first|refine st ?_|refine sa fun xe hxe=>?_|refine sb (fun hq=>?_) fun hq=>?_|exact True.intro|refine cr (hc) ?_)
  exact⟨by rw[if_pos (by omega)],rfl⟩
 ·rw[if_neg h] at hc
  have hd:=gU p.members (l-p.v.parents.length) (by omega)
  by_cases h2:l-p.v.parents.length-p.members.length<0
  ·rw[if_pos h2] at hd
   (repeat' first|refine st ?_|refine sa fun xe hxe=>?_|refine sb (fun hq=>?_) fun hq=>?_|exact True.intro|refine cr (hc) ?_|refine cr (hd) ?_)
   exact⟨by rw[if_pos (by omega)],rfl⟩
  ·rw[if_neg h2] at hd
   (repeat' first|refine st ?_|refine sa fun xe hxe=>?_|refine sb (fun hq=>?_) fun hq=>?_|exact True.intro|refine cr (hc) ?_|refine cr (hd) ?_)
   exact⟨by rw[if_neg (by omega)];congr 1;omega,rfl⟩
theorem lS (ps:List Ppl)(l:Int)(hl:0≤l∧l≤1048576):ao Try.prog 31 [.lst .ppl ps,.int .i64 l] [] (.int .i64 (jO l (ps.length+mt ps))) []:=by
 refine af al Try.func31 rfl rfl false 0 4 rfl rfl rfl rfl fun K hK hb1 hb2=>?_;simp only[aj,enc,Nat.reduceAdd]
 simp[ab,V.toD,bnd,aa,D.cells] at hb1
 have hno:l-ps.length-mt ps<0→V.int .i64 (-1)=V.int .i64 (jO l (ps.length+mt ps))∧([]:VH)=[]:=fun h=>⟨by rw[jO,if_pos (by omega)],rfl⟩
 by_cases h0:l-ps.length<0
 ·(repeat' first|refine st ?_|refine sa fun xe hxe=>?_|refine sb (fun hq=>?_) fun hq=>?_|exact True.intro)
  exact hno (by omega)
 (repeat' first|refine st ?_|refine sa fun xe hxe=>?_|refine sb (fun hq=>?_) fun hq=>?_|exact True.intro)
 refine ak hK [] [0,1,5] (fun i:Nat=>⟨[(0,.lst .ppl ps),(1,.int .i64 (l-ps.length-mt (ps.take i))),(5,.int .i64 i)],[],4⟩) (fun i=>i≤ps.length∧0≤l-ps.length-mt (ps.take i)) (fun i=>ps.length-i) 0 ⟨by simp,by simp[mt];omega⟩ (by simp[mt];rfl) ?_
 rintro i ⟨hi,hp⟩
 by_cases hlt:i<ps.length
 ·have hxe:ps[i]?=some ps[i]:=List.getElem?_eq_getElem hlt
  have h3:mt (ps.take (i+1))=mt (ps.take i)+lQ ps[i]:=iY hxe
  have h4:mt (ps.take (i+1))≤mt ps:=nC _ ps (i+1)
  generalize ps[i]=p at *
  have hc:=mI p (l-ps.length-mt (ps.take i)) (by omega)
  unfold jO at hc
  by_cases h5:l-ps.length-mt (ps.take i)-(lQ p:Nat)<0
  ·rw[if_pos h5] at hc
   (repeat' first|refine st ?_|refine sa fun xe hxe=>?_|refine sb (fun hq=>?_) fun hq=>?_|exact True.intro|refine cr (hc) ?_)
   exact hno (by omega)
  ·rw[if_neg h5] at hc
   (repeat' first|refine st ?_|refine sa fun xe hxe=>?_|refine sb (fun hq=>?_) fun hq=>?_|exact True.intro|refine cr (hc) ?_)
   refine⟨i+1,by omega,by omega,?_⟩
   rw[h3,show l-(ps.length:Int)-((mt (ps.take i)+lQ p:Nat):Int)=l-ps.length-mt (ps.take i)-(lQ p:Nat) by omega]
   rfl
 ·rw[List.take_of_length_le (by omega)] at *
  (repeat' first|refine st ?_|refine sa fun xe hxe=>?_|refine sb (fun hq=>?_) fun hq=>?_|exact True.intro)
  exact⟨by rw[jO,if_neg (by omega)];congr 1;omega,rfl⟩
theorem tB (w:Wrl)(l:Int)(hl:0≤l∧l≤1048576):ao Try.prog 13 [bD w,.int .i64 l] [] (.int .i64 (jO l (zP w))) []:=by
 have h1:=gU w.com l hl
 refine af al Try.func13 rfl rfl false 0 4 rfl rfl rfl rfl fun K hK hb1 hb2=>?_;simp only[aj,enc,Nat.reduceAdd]
 clear hb1 hb2
 unfold jO zP
 by_cases c1:l-w.com.length<0
 ·rw[if_pos c1] at h1
  (repeat' first|refine st ?_|refine sa fun xe hxe=>?_|refine sb (fun hq=>?_) fun hq=>?_|exact True.intro|refine cr (h1) ?_)
  exact⟨by rw[if_pos (by omega)],rfl⟩
 rw[if_neg c1] at h1
 have h2:=gU w.lead (l-w.com.length) (by omega)
 by_cases c2:l-w.com.length-w.lead.length<0
 ·rw[if_pos c2] at h2
  (repeat' first|refine st ?_|refine sa fun xe hxe=>?_|refine sb (fun hq=>?_) fun hq=>?_|exact True.intro|refine cr (h1) ?_|refine cr (h2) ?_)
  exact⟨by rw[if_pos (by omega)],rfl⟩
 rw[if_neg c2] at h2
 have h3:=nL w.views (l-w.com.length-w.lead.length) (by omega)
 unfold jO at h3
 by_cases c3:l-w.com.length-w.lead.length-(w.views.length+lz w.views:Nat)<0
 ·rw[if_pos c3] at h3
  (repeat' first|refine st ?_|refine sa fun xe hxe=>?_|refine sb (fun hq=>?_) fun hq=>?_|exact True.intro|refine cr (h1) ?_|refine cr (h2) ?_|refine cr (h3) ?_)
  exact⟨by rw[if_pos (by omega)],rfl⟩
 rw[if_neg c3] at h3
 have h4:=lS w.props (l-w.com.length-w.lead.length-(w.views.length+lz w.views:Nat)) (by omega)
 unfold jO at h4
 by_cases c4:l-w.com.length-w.lead.length-(w.views.length+lz w.views:Nat)-(w.props.length+mt w.props:Nat)<0
 ·rw[if_pos c4] at h4
  (repeat' first|refine st ?_|refine sa fun xe hxe=>?_|refine sb (fun hq=>?_) fun hq=>?_|exact True.intro|refine cr (h1) ?_|refine cr (h2) ?_|refine cr (h3) ?_|refine cr (h4) ?_)
  exact⟨by rw[if_pos (by omega)],rfl⟩
 ·rw[if_neg c4] at h4
  (repeat' first|refine st ?_|refine sa fun xe hxe=>?_|refine sb (fun hq=>?_) fun hq=>?_|exact True.intro|refine cr (h1) ?_|refine cr (h2) ?_|refine cr (h3) ?_|refine cr (h4) ?_)
  exact⟨by rw[if_neg (by omega)];congr 1;omega,rfl⟩
structure Small (w:Wrl):Prop where
 com:w.com.length≤1048576
 lead:w.lead.length≤1048576
 vlen:w.views.length≤1048576
 view:∀g∈w.views,g.length≤1048576∧∀v∈g,v.parents.length≤1048576
 plen:w.props.length≤1048576
 prop:∀p∈w.props,p.v.parents.length≤1048576∧p.members.length≤1048576
theorem tT {w:Wrl}(h:zP w≤1048576):Small w:=by
 unfold zP at h
 refine⟨by omega,by omega,by omega,fun g hg=>?_,by omega,fun p hp=>?_⟩
 ·have h1:pX g≤lz w.views:=ru hg
  unfold pX at h1
  refine⟨by omega,fun v hv=>?_⟩
  have:=ze hv
  omega
 ·have h1:lQ p≤mt w.props:=ru hp
  unfold lQ at h1
  omega
theorem nf (gs:List (List Vtx))(hg:gs.length≤1048576)(hv:∀g∈gs,g.length≤1048576∧∀v∈g,v.parents.length≤1048576):ao Try.prog 34 [.lst (.lst .vtx) gs] [] (.lst (.lst .vtx) gs) []:=by
 refine af al Try.func34 rfl rfl true 0 4 rfl rfl rfl rfl fun K hK hb1 hb2=>?_;simp only[aj,enc,Nat.reduceAdd]
 clear hb1 hb2
 (repeat' first|refine st ?_|refine sa fun xe hxe=>?_|refine sb (fun hq=>?_) fun hq=>?_|exact True.intro)
 refine ak hK [] [0,3,4] (fun i:Nat=>⟨[(0,.lst (.lst .vtx) gs),(3,.ref 4),(4,.int .i64 i)],[(4,.row 45 (.lst .vtx) (gs.take i++(List.replicate gs.length []).drop i))],5⟩) (fun i=>i≤gs.length) (fun i=>gs.length-i) 0 (by simp) (by simp;rfl) ?_
 intro i hi
 by_cases hlt:i<gs.length
 ·have hx:gs[i]?=some gs[i]:=List.getElem?_eq_getElem hlt
  have zZ:i<(gs.take i++(List.replicate gs.length []).drop i).length:=dO _ _ (by simp;omega) (by simpa using hlt)
  have hs:(gs.take i++(List.replicate gs.length []).drop i).set i gs[i]=gs.take (i+1)++(List.replicate gs.length []).drop (i+1):=by
   rw[ct _ _ _ (by simp;omega) (by simpa using hlt),List.take_succ_eq_append_getElem hlt]
  obtain⟨hvl,hvp⟩:=hv _ (List.getElem_mem hlt)
  generalize hrow:gs.take i++(List.replicate gs.length []).drop i=row at *
  generalize gs[i]=x at *
  (repeat' first|refine st ?_|refine sa fun xe hxe=>?_|refine sb (fun hq=>?_) fun hq=>?_|exact True.intro|refine cr (oA _ hvl hvp) ?_)
  refine⟨i+1,by omega,by omega,?_⟩
  rw[←hs]
  rfl
 ·obtain rfl:i=gs.length:=by omega
  (repeat' first|refine st ?_|refine sa fun xe hxe=>?_|refine sb (fun hq=>?_) fun hq=>?_|exact True.intro)
  simp
theorem nP (p:Ppl)(hv:p.v.parents.length≤1048576∧p.members.length≤1048576):ao Try.prog 63 [gc p] [] (gc p) []:=by
 refine af al Try.func63 rfl rfl true 0 4 rfl rfl rfl rfl fun K hK hb1 hb2=>?_;simp only[aj,enc,Nat.reduceAdd]
 clear hb1 hb2
 (repeat' first|refine st ?_|refine sa fun xe hxe=>?_|refine sb (fun hq=>?_) fun hq=>?_|exact True.intro|refine cr (k7 _ hv.1) ?_|refine cr (dj _ hv.2) ?_)
 exact⟨rfl,rfl⟩
theorem lE (ps:List Ppl)(hp:ps.length≤1048576)(hv:∀p∈ps,p.v.parents.length≤1048576∧p.members.length≤1048576):ao Try.prog 35 [.lst .ppl ps] [] (.lst .ppl ps) []:=by
 refine af al Try.func35 rfl rfl true 0 4 rfl rfl rfl rfl fun K hK hb1 hb2=>?_;simp only[aj,enc,Nat.reduceAdd]
 clear hb1 hb2
 (repeat' first|refine st ?_|refine sa fun xe hxe=>?_|refine sb (fun hq=>?_) fun hq=>?_|exact True.intro)
 refine ak hK [] [0,3,4] (fun i:Nat=>⟨[(0,.lst .ppl ps),(3,.ref 4),(4,.int .i64 i)],[(4,.row 61 .ppl (ps.take i++(List.replicate ps.length p0).drop i))],5⟩) (fun i=>i≤ps.length) (fun i=>ps.length-i) 0 (by simp) (by simp;rfl) ?_
 intro i hi
 by_cases hlt:i<ps.length
 ·have hx:ps[i]?=some ps[i]:=List.getElem?_eq_getElem hlt
  have zZ:i<(ps.take i++(List.replicate ps.length p0).drop i).length:=dO _ _ (by simp;omega) (by simpa using hlt)
  have hs:(ps.take i++(List.replicate ps.length p0).drop i).set i ps[i]=ps.take (i+1)++(List.replicate ps.length p0).drop (i+1):=by
   rw[ct _ _ _ (by simp;omega) (by simpa using hlt),List.take_succ_eq_append_getElem hlt]
  have hvl:=hv _ (List.getElem_mem hlt)
  generalize hrow:ps.take i++(List.replicate ps.length p0).drop i=row at *
  generalize ps[i]=x at *
  (repeat' first|refine st ?_|refine sa fun xe hxe=>?_|refine sb (fun hq=>?_) fun hq=>?_|exact True.intro|refine cr (nP _ hvl) ?_)
  refine⟨i+1,by omega,by omega,?_⟩
  rw[←hs]
  rfl
 ·obtain rfl:i=ps.length:=by omega
  (repeat' first|refine st ?_|refine sa fun xe hxe=>?_|refine sb (fun hq=>?_) fun hq=>?_|exact True.intro)
  simp
theorem tq (w:Wrl)(h:Small w):ao Try.prog 15 [bD w] [] (bD w) []:=by
 obtain⟨h1,h2,h3,h4,h5,h6⟩:=h
 refine af al Try.func15 rfl rfl true 0 4 rfl rfl rfl rfl fun K hK hb1 hb2=>?_;simp only[aj,enc,Nat.reduceAdd]
 clear hb1 hb2
 (repeat' first|refine st ?_|refine sa fun xe hxe=>?_|refine sb (fun hq=>?_) fun hq=>?_|exact True.intro|refine cr (dj _ h1) ?_|refine cr (dj _ h2) ?_|refine cr (nf _ h3 h4) ?_|refine cr (lE _ h5 h6) ?_)
 exact⟨rfl,rfl⟩
theorem nG (g:List (List Vtx)):ao Try.prog 23 [.lst (.lst .vtx) g,.lst (.lst .vtx) g] [] (.bool true) []:=by
 refine af al Try.func23 rfl rfl false 0 4 rfl rfl rfl rfl fun K hK hb1 hb2=>?_;simp only[aj,enc,Nat.reduceAdd]
 simp[ab,V.toD,bnd,aa,D.cells] at hb1
 (repeat' first|refine st ?_|refine sa fun xe hxe=>?_|refine sb (fun hq=>?_) fun hq=>?_|exact True.intro)
 ·exact absurd trivial hq
 refine ak hK [] [0,1,5] (fun i:Nat=>⟨[(0,.lst (.lst .vtx) g),(1,.lst (.lst .vtx) g),(5,.int .i64 i)],[],4⟩) (fun i=>i≤g.length) (fun i=>g.length-i) 0 (by simp) rfl ?_
 intro i hi
 by_cases hlt:i<g.length
 ·have hx:g[i]?=some g[i]:=List.getElem?_eq_getElem hlt
  generalize g[i]=x at *
  (repeat' first|refine st ?_|refine sa fun xe hxe=>?_|refine sb (fun hq=>?_) fun hq=>?_|exact True.intro|refine cr (oV _) ?_)
  exact⟨i+1,by omega,by omega,rfl⟩
 ·(repeat' first|refine st ?_|refine sa fun xe hxe=>?_|refine sb (fun hq=>?_) fun hq=>?_|exact True.intro)
  exact⟨rfl,rfl⟩
theorem mG (p:Ppl):ao Try.prog 51 [gc p,gc p] [] (.bool true) []:=by
 refine af al Try.func51 rfl rfl false 0 4 rfl rfl rfl rfl fun K hK hb1 hb2=>?_;simp only[aj,enc,Nat.reduceAdd]
 (repeat' first|refine st ?_|refine sa fun xe hxe=>?_|refine sb (fun hq=>?_) fun hq=>?_|exact True.intro|refine cr (kI _) ?_|refine cr (iq _) ?_)
 all_goals first|(exact⟨rfl,rfl⟩)|exact absurd rfl hq|exact absurd trivial hq|cases hq
theorem lP (g:List Ppl):ao Try.prog 24 [.lst .ppl g,.lst .ppl g] [] (.bool true) []:=by
 refine af al Try.func24 rfl rfl false 0 4 rfl rfl rfl rfl fun K hK hb1 hb2=>?_;simp only[aj,enc,Nat.reduceAdd]
 simp[ab,V.toD,bnd,aa,D.cells] at hb1
 (repeat' first|refine st ?_|refine sa fun xe hxe=>?_|refine sb (fun hq=>?_) fun hq=>?_|exact True.intro)
 ·exact absurd trivial hq
 refine ak hK [] [0,1,5] (fun i:Nat=>⟨[(0,.lst .ppl g),(1,.lst .ppl g),(5,.int .i64 i)],[],4⟩) (fun i=>i≤g.length) (fun i=>g.length-i) 0 (by simp) rfl ?_
 intro i hi
 by_cases hlt:i<g.length
 ·have hx:g[i]?=some g[i]:=List.getElem?_eq_getElem hlt
  generalize g[i]=x at *
  (repeat' first|refine st ?_|refine sa fun xe hxe=>?_|refine sb (fun hq=>?_) fun hq=>?_|exact True.intro|refine cr (mG _) ?_)
  exact⟨i+1,by omega,by omega,rfl⟩
 ·(repeat' first|refine st ?_|refine sa fun xe hxe=>?_|refine sb (fun hq=>?_) fun hq=>?_|exact True.intro)
  exact⟨rfl,rfl⟩
theorem sM (w:Wrl):ao Try.prog 8 [bD w,bD w] [] (.bool true) []:=by
 refine af al Try.func8 rfl rfl false 0 4 rfl rfl rfl rfl fun K hK hb1 hb2=>?_;simp only[aj,enc,Nat.reduceAdd]
 clear hb1 hb2
 (repeat' first|refine st ?_|refine sa fun xe hxe=>?_|refine sb (fun hq=>?_) fun hq=>?_|exact True.intro|refine cr (iq _) ?_|refine cr (nG _) ?_|refine cr (lP _) ?_)
 all_goals first|(exact⟨rfl,rfl⟩)|exact absurd rfl hq|exact absurd trivial hq|cases hq
def Θx:TT:=(45,⟨.slice 59,1,24,some .nils,some (.hr 0),false⟩)::(59,⟨.struct [(3,0,1),(3,1,1),(22,2,1),(3,3,1)],4,48,some (.agg [.int .i64 0,.int .i64 0,.nils,.int .i64 0]),some (.vtxo 1),false⟩)::(61,⟨.struct [(59,0,4),(22,4,1)],5,72,some (.agg [.int .i64 0,.int .i64 0,.nils,.int .i64 0,.nils]),some (.pplo 1 1),false⟩)::Θ
theorem fx:TT.ok Try.prog Θx:=TT.okB_ok (by kernel_rfl)
theorem wr {P Q:Prop}(h:Q)(s:Hid Q→P:=by
  intro h
  (first|(with_reducible first|apply dD|apply dr)|((first|with_reducible apply b6 fx|refine go ?_|(with_reducible first|apply dg|apply cI|apply b7|apply b5|refine b8 fx mixed (by kernel_rfl) ?_))<;>conv=>whnf))
  repeat(first|(with_reducible first|apply dD|apply dr)|((first|with_reducible apply b6 fx|refine go ?_|(with_reducible first|apply dg|apply cI|apply b7|apply b5|refine b8 fx mixed (by kernel_rfl) ?_))<;>conv=>whnf))
  exact h.h):P:=s ⟨h⟩
def zY:VtxO:=⟨0,0,none,0⟩
def Aa:PplO:=⟨⟨0,0,none,0⟩,none⟩
theorem oM (E:TypeId)(a b:List (List Int)):aE (VB.frow E (.int .i64) a)≤aE (VB.frow E (.int .i64) (a++b)):=by simp[aE]
theorem lc (v:Vtx)(hv:v.parents.length≤1048576):ao Try.prog 86 [bU v] [] (.agg [.int .i64 v.round,.int .i64 v.author,.ref 4,.int .i64 v.digest]) [(4,.row 3 (.int .i64) v.parents)]:=by
 refine af al Try.func86 rfl rfl false 0 4 rfl rfl rfl rfl fun K hK hb1 hb2=>?_;simp only[aj,enc,Nat.reduceAdd]
 (repeat' first|refine st ?_|refine sa fun xe hxe=>?_|refine sb (fun hq=>?_) fun hq=>?_|exact True.intro|refine cr (dj _ hv) ?_)
 exact⟨rfl,rfl⟩
theorem oB (g:List Vtx)(pss:List (List Int))(hg:g.length≤1048576)(hv:∀v∈g,v.parents.length≤1048576):ao Try.prog 62 [.lst .vtx g] [(1,.frow 3 (.int .i64) pss)] (.ref 4) [(1,.frow 3 (.int .i64) (pss++g.map (·.parents))),(4,.row 59 (.vtxo 1) (jH pss.length g))]:=by
 refine af fx Try.func62 rfl rfl false 0 4 rfl rfl rfl rfl fun K hK hb1 hb2=>?_;simp only[aj,enc,Nat.reduceAdd]
 clear hb1 hb2
 (repeat' first|refine wr ?_|refine sa fun xe hxe=>?_|refine sb (fun hq=>?_) fun hq=>?_|exact True.intro)
 refine ak hK [] [0,3,4] (fun i:Nat=>⟨[(0,.lst .vtx g),(3,.ref 4),(4,.int .i64 i)],[(1,.frow 3 (.int .i64) (pss++(g.take i).map (·.parents))),(4,.row 59 (.vtxo 1) (jH pss.length (g.take i)++(List.replicate g.length zY).drop i))],5⟩) (fun i=>i≤g.length) (fun i=>g.length-i) 0 (by simp) (by simp[jH];rfl) ?_
 intro i hi
 by_cases hlt:i<g.length
 ·have hx:g[i]?=some g[i]:=List.getElem?_eq_getElem hlt
  have hsn:g.take (i+1)=g.take i++[g[i]]:=List.take_succ_eq_append_getElem hlt
  have hvl:=hv _ (List.getElem_mem hlt)
  have hln:(jH pss.length (g.take i)).length=i:=by rw[wG,List.length_take];omega
  have zZ:i<(jH pss.length (g.take i)++(List.replicate g.length zY).drop i).length:=dO _ _ hln (by simpa using hlt)
  have hs:(jH pss.length (g.take i)++(List.replicate g.length zY).drop i).set i ⟨g[i].round,g[i].author,some (pss++(g.take i).map (·.parents)).length,g[i].digest⟩=jH pss.length (g.take (i+1))++(List.replicate g.length zY).drop (i+1):=by
   rw[ct _ _ _ hln (by simpa using hlt),hsn,u9,List.length_append,List.length_map]
  have hp:pss++(g.take (i+1)).map (·.parents)=(pss++(g.take i).map (·.parents))++[g[i].parents]:=by rw[hsn,List.map_append,List.append_assoc];rfl
  generalize hrow:jH pss.length (g.take i)++(List.replicate g.length zY).drop i=row at *
  generalize pss++(g.take i).map (·.parents)=ps at *
  generalize g[i]=x at *
  (repeat' first|refine wr ?_|refine sa fun xe hxe=>?_|refine sb (fun hq=>?_) fun hq=>?_|exact True.intro|refine cr (lc _ hvl) ?_)
  refine⟨i+1,by omega,by omega,?_⟩
  rw[←hs,hp]
  rfl
 ·obtain rfl:i=g.length:=by omega
  rw[List.take_of_length_le (Nat.le_refl _),show jH pss.length g++(List.replicate g.length zY).drop g.length=jH pss.length g by simp]
  (repeat' first|refine wr ?_|refine sa fun xe hxe=>?_|refine sb (fun hq=>?_) fun hq=>?_|exact True.intro)
  exact⟨rfl,rfl⟩
theorem nj (gs:List (List Vtx))(hg:gs.length≤1048576)(hv:∀g∈gs,g.length≤1048576∧∀v∈g,v.parents.length≤1048576):ao Try.prog 34 [.lst (.lst .vtx) gs] [] (.ref 4) [(0,.frow 59 (.vtxo 1) (lO 0 gs)),(1,.frow 3 (.int .i64) (cC gs)),(4,.row 45 (.hr 0) ((List.range gs.length).map some))]:=by
 refine af fx Try.func34 rfl rfl false 0 4 rfl rfl rfl rfl fun K hK hb1 hb2=>?_;simp only[aj,enc,Nat.reduceAdd]
 clear hb1 hb2
 (repeat' first|refine wr ?_|refine sa fun xe hxe=>?_|refine sb (fun hq=>?_) fun hq=>?_|exact True.intro)
 refine jc 0 (.frow 59 (.vtxo 1) []) rfl ?_
 refine jc 1 (.frow 3 (.int .i64) []) rfl ?_
 refine ak hK [] [0,3,4] (fun i:Nat=>⟨[(0,.lst (.lst .vtx) gs),(3,.ref 4),(4,.int .i64 i)],[(0,.frow 59 (.vtxo 1) (lO 0 (gs.take i))),(1,.frow 3 (.int .i64) (cC (gs.take i))),(4,.row 45 (.hr 0) ((List.range i).map some++(List.replicate gs.length none).drop i))],5⟩) (fun i=>i≤gs.length) (fun i=>gs.length-i) 0 (by simp) (by simp[lO,cC];rfl) ?_
 intro i hi
 by_cases hlt:i<gs.length
 ·have hx:gs[i]?=some gs[i]:=List.getElem?_eq_getElem hlt
  have hsn:gs.take (i+1)=gs.take i++[gs[i]]:=List.take_succ_eq_append_getElem hlt
  obtain⟨hvl,hvp⟩:=hv _ (List.getElem_mem hlt)
  have hln:((List.range i).map some).length=i:=by simp
  have zZ:i<((List.range i).map some++(List.replicate gs.length none).drop i).length:=dO _ _ hln (by simpa using hlt)
  have hs:((List.range i).map some++(List.replicate gs.length none).drop i).set i (some i)=(List.range (i+1)).map some++(List.replicate gs.length none).drop (i+1):=by
   rw[ct _ _ _ hln (by simpa using hlt),List.range_succ,List.map_append];rfl
  have hp:cC (gs.take (i+1))=cC (gs.take i)++gs[i].map (·.parents):=by rw[hsn,ta]
  have hq:lO 0 (gs.take (i+1))=lO 0 (gs.take i)++[jH (cC (gs.take i)).length gs[i]]:=by rw[hsn,pc,Nat.zero_add]
  have hgl:(lO 0 (gs.take i)).length=i:=by rw[wt,List.length_take];omega
  generalize hrow:(List.range i).map some++(List.replicate gs.length none).drop i=row at *
  generalize lO 0 (gs.take i)=vss at *
  generalize cC (gs.take i)=ps at *
  generalize gs[i]=x at *
  have hF:=oM 3 ps (x.map (·.parents))
  (repeat' first|refine wr ?_|refine sa fun xe hxe=>?_|refine sb (fun hq=>?_) fun hq=>?_|exact True.intro|((with_reducible refine uh [1] ?_);(conv=>whnf);(with_reducible refine cR (oB _ _ hvl hvp) ?_);conv=>whnf))
  refine⟨i+1,by omega,by omega,?_⟩
  rw[←hs,hp,hq,hgl]
  rfl
 ·obtain rfl:i=gs.length:=by omega
  rw[List.take_of_length_le (Nat.le_refl _),show (List.range gs.length).map some++(List.replicate gs.length none).drop gs.length=(List.range gs.length).map some by simp]
  (repeat' first|refine wr ?_|refine sa fun xe hxe=>?_|refine sb (fun hq=>?_) fun hq=>?_|exact True.intro)
  exact⟨rfl,rfl⟩
theorem nA (p:Ppl)(hv:p.v.parents.length≤1048576∧p.members.length≤1048576):ao Try.prog 63 [gc p] [] (.agg [.int .i64 p.v.round,.int .i64 p.v.author,.ref 4,.int .i64 p.v.digest,.ref 5]) [(4,.row 3 (.int .i64) p.v.parents),(5,.row 3 (.int .i64) p.members)]:=by
 refine af al Try.func63 rfl rfl false 0 4 rfl rfl rfl rfl fun K hK hb1 hb2=>?_;simp only[aj,enc,Nat.reduceAdd]
 clear hb1 hb2
 (repeat' first|refine st ?_|refine sa fun xe hxe=>?_|refine sb (fun hq=>?_) fun hq=>?_|exact True.intro|refine cr (dj _ hv.2) ?_|refine co (lc _ hv.1) ?_)
 exact⟨rfl,rfl⟩
theorem lC (g:List Ppl)(pss:List (List Int))(hg:g.length≤1048576)(hv:∀p∈g,p.v.parents.length≤1048576∧p.members.length≤1048576):ao Try.prog 35 [.lst .ppl g] [(1,.frow 3 (.int .i64) pss)] (.ref 4) [(1,.frow 3 (.int .i64) (pss++eo g)),(4,.row 61 (.pplo 1 1) (kL pss.length g))]:=by
 refine af fx Try.func35 rfl rfl false 0 4 rfl rfl rfl rfl fun K hK hb1 hb2=>?_;simp only[aj,enc,Nat.reduceAdd]
 clear hb1 hb2
 (repeat' first|refine wr ?_|refine sa fun xe hxe=>?_|refine sb (fun hq=>?_) fun hq=>?_|exact True.intro)
 refine ak hK [] [0,3,4] (fun i:Nat=>⟨[(0,.lst .ppl g),(3,.ref 4),(4,.int .i64 i)],[(1,.frow 3 (.int .i64) (pss++eo (g.take i))),(4,.row 61 (.pplo 1 1) (kL pss.length (g.take i)++(List.replicate g.length Aa).drop i))],5⟩) (fun i=>i≤g.length) (fun i=>g.length-i) 0 (by simp) (by simp[kL,eo];rfl) ?_
 intro i hi
 by_cases hlt:i<g.length
 ·have hx:g[i]?=some g[i]:=List.getElem?_eq_getElem hlt
  have hsn:g.take (i+1)=g.take i++[g[i]]:=List.take_succ_eq_append_getElem hlt
  have hvl:=hv _ (List.getElem_mem hlt)
  have hln:(kL pss.length (g.take i)).length=i:=by rw[wu,List.length_take];omega
  have zZ:i<(kL pss.length (g.take i)++(List.replicate g.length Aa).drop i).length:=dO _ _ hln (by simpa using hlt)
  have hpl:(pss++eo (g.take i)).length=pss.length+2*i:=by rw[List.length_append,wh,List.length_take];omega
  have hs:(kL pss.length (g.take i)++(List.replicate g.length Aa).drop i).set i ⟨⟨g[i].v.round,g[i].v.author,some (pss++eo (g.take i)).length,g[i].v.digest⟩,some ((pss++eo (g.take i))++[g[i].v.parents]).length⟩=kL pss.length (g.take (i+1))++(List.replicate g.length Aa).drop (i+1):=by
   have hpl1:((pss++eo (g.take i))++[g[i].v.parents]).length=pss.length+2*i+1:=by rw[List.length_append,hpl];rfl
   rw[ct _ _ _ hln (by simpa using hlt),hsn,oQ,hpl1,hpl,List.length_take,Nat.min_eq_left (by omega)]
  have hp:pss++eo (g.take (i+1))=((pss++eo (g.take i))++[g[i].v.parents])++[g[i].members]:=by rw[hsn,sE];simp
  clear hpl
  generalize hrow:kL pss.length (g.take i)++(List.replicate g.length Aa).drop i=row at *
  generalize pss++eo (g.take i)=ps at *
  generalize g[i]=x at *
  (repeat' first|refine wr ?_|refine sa fun xe hxe=>?_|refine sb (fun hq=>?_) fun hq=>?_|exact True.intro|refine cr (nA _ hvl) ?_)
  refine⟨i+1,by omega,by omega,?_⟩
  rw[←hs,hp]
  rfl
 ·obtain rfl:i=g.length:=by omega
  rw[List.take_of_length_le (Nat.le_refl _),show kL pss.length g++(List.replicate g.length Aa).drop g.length=kL pss.length g by simp]
  (repeat' first|refine wr ?_|refine sa fun xe hxe=>?_|refine sb (fun hq=>?_) fun hq=>?_|exact True.intro)
  exact⟨rfl,rfl⟩
abbrev AO (bad:Int):V:=.agg [.ref 4,.ref 5,.int .i64 bad,.ref 6,.ref 7]
theorem tl (w:Wrl)(h:Small w):ao Try.prog 15 [bD w] [] (AO w.bad) [(0,.frow 59 (.vtxo 1) (lO 0 w.views)),(1,.frow 3 (.int .i64) (cC w.views++eo w.props)),(4,.row 3 (.int .i64) w.com),(5,.row 3 (.int .i64) w.lead),(6,.row 45 (.hr 0) ((List.range w.views.length).map some)),(7,.row 61 (.pplo 1 1) (kL (cC w.views).length w.props))]:=by
 obtain⟨h1,h2,h3,h4,h5,h6⟩:=h
 have hF:=oM 3 (cC w.views) (eo w.props)
 refine af fx Try.func15 rfl rfl false 0 4 rfl rfl rfl rfl fun K hK hb1 hb2=>?_;simp only[aj,enc,Nat.reduceAdd]
 clear hb1 hb2
 (repeat' first|refine wr ?_|refine sa fun xe hxe=>?_|refine sb (fun hq=>?_) fun hq=>?_|exact True.intro|refine cr (dj _ h1) ?_|refine cr (dj _ h2) ?_|refine cr (nj _ h3 h4) ?_|((with_reducible refine uh [1] ?_);(conv=>whnf);(with_reducible refine cR (lC _ _ h5 h6) ?_);conv=>whnf))
 exact⟨rfl,rfl⟩
theorem k9 (a:List Int)(k:Int)(hk:0≤k∧k+a.length≤1000000000):ao Try.prog 10 [.ref 4,.int .i64 k] [(4,.row 3 (.int .i64) a)] (.int .i64 (k+a.length)) [(4,.row 3 (.int .i64) (mk k a.length))]:=by
 refine af al Try.func10 rfl rfl false 1 5 rfl rfl rfl rfl fun K hK hb1 hb2=>?_;simp only[aj,enc,Nat.reduceAdd]
 (repeat' first|refine st ?_|refine sa fun xe hxe=>?_|refine sb (fun hq=>?_) fun hq=>?_|exact True.intro)
 refine ak hK [] [0,1,4,5] (fun i:Nat=>⟨[(0,.ref 4),(1,.int .i64 (k+i)),(4,.int .i64 0),(5,.int .i64 i)],[(4,.row 3 (.int .i64) (mk k i++a.drop i))],5⟩) (fun i=>i≤a.length) (fun i=>a.length-i) 0 (by simp) (by simp[mk];rfl) ?_
 intro i hi
 have hlen:(mk k i++a.drop i).length=a.length:=by simp[dJ];omega
 by_cases hlt:i<a.length
 ·have hs:(mk k i++a.drop i).set i (k+i)=mk k (i+1)++a.drop (i+1):=by
   rw[ct _ _ _ (dJ k i) hlt,sB]
  generalize mk k i++a.drop i=row at *
  (repeat' first|refine st ?_|refine sa fun xe hxe=>?_|refine sb (fun hq=>?_) fun hq=>?_|exact True.intro)
  refine⟨i+1,by omega,by omega,?_⟩
  rw[←hs,show k+((i+1:Nat):Int)=k+i+1 by omega]
  rfl
 ·obtain rfl:i=a.length:=by omega
  generalize hrow:mk k a.length++a.drop a.length=row at *
  (repeat' first|refine st ?_|refine sa fun xe hxe=>?_|refine sb (fun hq=>?_) fun hq=>?_|exact True.intro)
  subst hrow
  simp
theorem qp (n:Nat)(k:Int)(hk:0≤k∧k+n≤1000000000):ao Try.prog 17 [.lst (.int .i64) (mk k n),.int .i64 k] [] (.int .i64 (k+n)) []:=by
 refine af al Try.func17 rfl rfl false 0 4 rfl rfl rfl rfl fun K hK hb1 hb2=>?_;simp only[aj,enc,Nat.reduceAdd]
 clear hb1 hb2
 have hl:=dJ k n
 (repeat' first|refine st ?_|refine sa fun xe hxe=>?_|refine sb (fun hq=>?_) fun hq=>?_|exact True.intro)
 refine ak hK [] [0,1,4,5] (fun i:Nat=>⟨[(0,.lst (.int .i64) (mk k n)),(1,.int .i64 (k+i)),(4,.int .i64 0),(5,.int .i64 i)],[],4⟩) (fun i=>i≤n) (fun i=>n-i) 0 (by simp) (by simp;rfl) ?_
 intro i hi
 by_cases hlt:i<n
 ·have hx:=zM k hlt
  generalize mk k n=row at *
  (repeat' first|refine st ?_|refine sa fun xe hxe=>?_|refine sb (fun hq=>?_) fun hq=>?_|exact True.intro)
  ·exact absurd trivial hq
  ·refine⟨i+1,by omega,by omega,?_⟩
   rw[show k+((i+1:Nat):Int)=k+i+1 by omega]
   rfl
 ·obtain rfl:i=n:=by omega
  generalize mk k i=row at *
  (repeat' first|refine st ?_|refine sa fun xe hxe=>?_|refine sb (fun hq=>?_) fun hq=>?_|exact True.intro)
  exact⟨rfl,rfl⟩
theorem mT (E:TypeId)(a:List (List Int))(j:Nat)(b:List Int):aE (VB.frow E (.int .i64) a)≤aE (VB.frow E (.int .i64) (a.set j b)):=by simp[aE]
theorem gu (pss:List (List Int))(j:Nat)(a:List Int)(k:Int)(hj:pss[j]?=some a)(hk:0≤k∧k+a.length≤1000000000):ao Try.prog 10 [.hro 1 (some j),.int .i64 k] [(1,.frow 3 (.int .i64) pss)] (.int .i64 (k+a.length)) [(1,.frow 3 (.int .i64) (pss.set j (mk k a.length)))]:=by
 have hjl:j<pss.length:=(List.getElem?_eq_some_iff.1 hj).1
 refine af al Try.func10 rfl rfl false 0 4 rfl rfl rfl rfl fun K hK hb1 hb2=>?_;simp only[aj,enc,Nat.reduceAdd]
 clear hb1 hb2
 have h0:pss.set j (mk k 0++a.drop 0)=pss:=by
  apply List.ext_getElem?
  intro x
  rw[List.getElem?_set]
  split
  ·rename_i e
   subst e
   first|rw[if_pos hjl,hj]|rw[hj]
   simp[mk]
  ·rfl
 (repeat' first|refine st ?_|refine sa fun xe hxe=>?_|refine sb (fun hq=>?_) fun hq=>?_|exact True.intro)
 refine ak hK [] [0,1,4,5] (fun i:Nat=>⟨[(0,.hro 1 (some j)),(1,.int .i64 (k+i)),(4,.int .i64 0),(5,.int .i64 i)],[(1,.frow 3 (.int .i64) (pss.set j (mk k i++a.drop i)))],4⟩) (fun i=>i≤a.length) (fun i=>a.length-i) 0 (by simp) (by rw[h0];simp;rfl) ?_
 intro i hi
 have hlen:(mk k i++a.drop i).length=a.length:=by simp[dJ];omega
 have hjr:(pss.set j (mk k i++a.drop i))[j]?=some (mk k i++a.drop i):=List.getElem?_set_self hjl
 by_cases hlt:i<a.length
 ·have hs:(pss.set j (mk k i++a.drop i)).set j ((mk k i++a.drop i).set i (k+i))=pss.set j (mk k (i+1)++a.drop (i+1)):=by
   rw[ct _ _ _ (dJ k i) hlt,sB,List.set_set]
  generalize mk k i++a.drop i=row at *
  generalize pss.set j row=ps at *
  (repeat' first|refine st ?_|refine sa fun xe hxe=>?_|refine sb (fun hq=>?_) fun hq=>?_|exact True.intro)
  refine⟨i+1,by omega,by omega,?_⟩
  rw[←hs,show k+((i+1:Nat):Int)=k+i+1 by omega]
  rfl
 ·obtain rfl:i=a.length:=by omega
  rw[show mk k a.length++a.drop a.length=mk k a.length by simp] at *
  generalize pss.set j (mk k a.length)=ps at *
  (repeat' first|refine st ?_|refine sa fun xe hxe=>?_|refine sb (fun hq=>?_) fun hq=>?_|exact True.intro)
  exact⟨rfl,rfl⟩
theorem wj (E:TypeId)(a:List (List VtxO))(j:Nat)(b:List VtxO):aE (VB.frow E (.vtxo 1) a)≤aE (VB.frow E (.vtxo 1) (a.set j b)):=by simp[aE]
theorem lK (vss:List (List VtxO))(w:Nat)(vs:List VtxO)(hw:vss[w]?=some vs)(pss:List (List Int))(g:List Vtx)(k:Int)(hr:VsR pss vs g)(hk:0≤k∧k+cV g≤1000000000):ao Try.prog 52 [.hro 0 (some w),.int .i64 k] [(0,.frow 59 (.vtxo 1) vss),(1,.frow 3 (.int .i64) pss)] (.int .i64 (dG vs k pss).1) [(0,.frow 59 (.vtxo 1) (vss.set w (dG vs k pss).2.2)),(1,.frow 3 (.int .i64) (dG vs k pss).2.1)]:=by
 have hwl:w<vss.length:=(List.getElem?_eq_some_iff.1 hw).1
 refine af al Try.func52 rfl rfl false 0 4 rfl rfl rfl rfl fun K hK hb1 hb2=>?_;simp only[aj,enc,Nat.reduceAdd]
 clear hb1 hb2
 have h0:vss.set w ((dG (vs.take 0) k pss).2.2++vs.drop 0)=vss:=by
  apply List.ext_getElem?
  intro x
  rw[List.getElem?_set]
  split
  ·rename_i e
   subst e
   first|rw[if_pos hwl,hw]|rw[hw]
   simp[dG]
  ·rfl
 (repeat' first|refine st ?_|refine sa fun xe hxe=>?_|refine sb (fun hq=>?_) fun hq=>?_|exact True.intro)
 refine ak hK [] [0,1,5] (fun i:Nat=>⟨[(0,.hro 0 (some w)),(1,.int .i64 (dG (vs.take i) k pss).1),(5,.int .i64 i)],[(0,.frow 59 (.vtxo 1) (vss.set w ((dG (vs.take i) k pss).2.2++vs.drop i))),(1,.frow 3 (.int .i64) (dG (vs.take i) k pss).2.1)],4⟩) (fun i=>i≤vs.length) (fun i=>vs.length-i) 0 (by simp) (by rw[h0];simp[dG];rfl) ?_
 intro i hi
 have hgl:=hr.len
 have hcl:=zz g
 by_cases hlt:i<vs.length
 ·have hv:g[i]?=some g[i]:=List.getElem?_eq_getElem (by omega)
  obtain⟨j,y,h1,h2,h3,h4,h5,h6,h7,h8⟩:=v9 (k:=k) hr hv rfl
  have hc:=xi hv
  have hc2:=Au g (i+1)
  have hll:((dG (vs.take i) k pss).2.2++vs.drop i).length=vs.length:=by simp[jY];omega
  have hgw:(vss.set w ((dG (vs.take i) k pss).2.2++vs.drop i))[w]?=some ((dG (vs.take i) k pss).2.2++vs.drop i):=List.getElem?_set_self hwl
  have hss:∀b,(vss.set w ((dG (vs.take i) k pss).2.2++vs.drop i)).set w b=vss.set w b:=fun b=>List.set_set ..
  have hpl:(vss.set w ((dG (vs.take i) k pss).2.2++vs.drop i)).length=vss.length:=List.length_set
  generalize hr':dG (vs.take (i+1)) k pss=r' at *
  generalize dG (vs.take i) k pss=r at *
  obtain⟨r1,r2,r3⟩:=r
  simp only at h1 h2 h4 h5 h6 h7 h8 hll hgw hss hpl⊢
  generalize r3++vs.drop i=row at *
  generalize g[i]=v at *
  generalize vss.set w row=ps at *
  have hti:(i:Int).toNat<row.length:=by simp;omega
  have hwp:w<ps.length:=by omega
  (repeat' first|refine st ?_|refine sa fun xe hxe=>?_|refine sb (fun hq=>?_) fun hq=>?_|exact True.intro)
  obtain rfl:=Option.some.inj ((List.getElem?_set_self hwp).symm.trans hxe)
  clear hxe
  dsimp only
  have hl1:(row.set (i:Int).toNat (⟨r1,v.author,some j,v.digest⟩:VtxO)).length=row.length:=List.length_set
  have hx1:(row.set (i:Int).toNat (⟨r1,v.author,some j,v.digest⟩:VtxO))[(i:Int).toNat]?=some ⟨r1,v.author,some j,v.digest⟩:=List.getElem?_set_self hti
  have hs1:∀x:VtxO,(row.set (i:Int).toNat (⟨r1,v.author,some j,v.digest⟩:VtxO)).set (i:Int).toNat x=row.set i x:=fun x=>by rw[List.set_set,Int.toNat_natCast]
  generalize row.set (i:Int).toNat (⟨r1,v.author,some j,v.digest⟩:VtxO)=row1 at *
  have hw1:(ps.set w row1)[w]?=some row1:=List.getElem?_set_self hwp
  have hp1:∀b,(ps.set w row1).set w b=vss.set w b:=fun b=>by rw[List.set_set,hss]
  have hwp1:w<(ps.set w row1).length:=by rw[List.length_set];exact hwp
  generalize ps.set w row1=ps1 at *
  (repeat' first|refine st ?_|refine sa fun xe hxe=>?_|refine sb (fun hq=>?_) fun hq=>?_|exact True.intro)
  obtain rfl:=Option.some.inj ((List.getElem?_set_self hwp1).symm.trans hxe)
  clear hxe
  dsimp only
  have hl2:(row1.set (i:Int).toNat (⟨r1,r1+1,some j,v.digest⟩:VtxO)).length=row.length:=by rw[List.length_set,hl1]
  have hx2:(row1.set (i:Int).toNat (⟨r1,r1+1,some j,v.digest⟩:VtxO))[(i:Int).toNat]?=some ⟨r1,r1+1,some j,v.digest⟩:=List.getElem?_set_self (by omega)
  have hs2:∀x:VtxO,(row1.set (i:Int).toNat (⟨r1,r1+1,some j,v.digest⟩:VtxO)).set (i:Int).toNat x=row.set i x:=fun x=>by rw[List.set_set,hs1]
  generalize row1.set (i:Int).toNat (⟨r1,r1+1,some j,v.digest⟩:VtxO)=row2 at *
  have hw2:(ps1.set w row2)[w]?=some row2:=List.getElem?_set_self hwp1
  have hp2:∀b,(ps1.set w row2).set w b=vss.set w b:=fun b=>by rw[List.set_set,hp1]
  generalize ps1.set w row2=ps2 at *
  have hM:=gu r2 j y (r1+1+1) h2 (by omega)
  rw[show r1+1+1=r1+2 by omega] at *
  have hF:=mT 3 r2 j (mk (r1+2) y.length)
  (repeat' first|refine st ?_|refine sa fun xe hxe=>?_|refine sb (fun hq=>?_) fun hq=>?_|exact True.intro|refine co (hM) ?_)
  refine⟨i+1,by omega,by omega,?_⟩
  rw[hr',h6,h7,h8,←hp2,show r1+3+(y.length:Int)=r1+2+y.length+1 by omega,←hs2]
  rfl
 ·obtain rfl:i=vs.length:=by omega
  rw[List.take_of_length_le (Nat.le_refl _),List.drop_eq_nil_of_le (Nat.le_refl _),List.append_nil] at *
  have hlm:=jY vs k pss
  have hgw:(vss.set w (dG vs k pss).2.2)[w]?=some (dG vs k pss).2.2:=List.getElem?_set_self hwl
  generalize dG vs k pss=r at *
  (repeat' first|refine st ?_|refine sa fun xe hxe=>?_|refine sb (fun hq=>?_) fun hq=>?_|exact True.intro)
  exact⟨rfl,rfl⟩
theorem io (E:TypeId){a b:List (List Int)}(h:b.map List.length=a.map List.length):aE (VB.frow E (.int .i64) a)≤aE (VB.frow E (.int .i64) b):=by
 have:=congrArg List.length h
 simp only[List.length_map] at this
 simp[aE,this]
theorem le (hs:List (Option Nat))(pss:List (List Int))(vss:List (List VtxO))(gs:List (List Vtx))(k:Int)(hr:GsR pss vss hs gs)(hn:(hs.map (·.getD 0)).Nodup)(hk:0≤k∧k+cG gs≤1000000000)(hl:hs.length≤1048576):ao Try.prog 25 [.ref 4,.int .i64 k] [(0,.frow 59 (.vtxo 1) vss),(1,.frow 3 (.int .i64) pss),(4,.row 45 (.hr 0) hs)] (.int .i64 (cE hs k pss vss).1) [(0,.frow 59 (.vtxo 1) (cE hs k pss vss).2.2),(1,.frow 3 (.int .i64) (cE hs k pss vss).2.1),(4,.row 45 (.hr 0) hs)]:=by
 refine af al Try.func25 rfl rfl false 1 5 rfl rfl rfl rfl fun K hK hb1 hb2=>?_;simp only[aj,enc,Nat.reduceAdd]
 clear hb1 hb2
 (repeat' first|refine st ?_|refine sa fun xe hxe=>?_|refine sb (fun hq=>?_) fun hq=>?_|exact True.intro)
 refine ak hK [] [0,1,5] (fun i:Nat=>⟨[(0,.ref 4),(1,.int .i64 (cE (hs.take i) k pss vss).1),(5,.int .i64 i)],[(0,.frow 59 (.vtxo 1) (cE (hs.take i) k pss vss).2.2),(1,.frow 3 (.int .i64) (cE (hs.take i) k pss vss).2.1),(4,.row 45 (.hr 0) hs)],5⟩) (fun i=>i≤hs.length) (fun i=>hs.length-i) 0 (by simp) rfl ?_
 intro i hi
 have hgl:=hr.len
 by_cases hlt:i<hs.length
 ·have hv:gs[i]?=some gs[i]:=List.getElem?_eq_getElem (by omega)
  obtain⟨j,vs,g',h1,h2,h3,h4,h5,h6,h7,h8⟩:=uR (k:=k) hr hn hv rfl
  have hc:=w8 hv
  have hc2:=AG gs (i+1)
  generalize hr':cE (hs.take (i+1)) k pss vss=r' at *
  generalize cE (hs.take i) k pss vss=r at *
  obtain⟨r1,r2,r3⟩:=r
  simp only at h2 h3 h5 h6 h7 h8⊢
  have hM:=lK r3 j vs h2 r2 g' r1 h3 (by omega)
  have hF0:=wj 59 r3 j (dG vs r1 r2).2.2
  have hF1:=io 3 (fy vs r1 r2)
  generalize dG vs r1 r2=m at *
  (repeat' first|refine st ?_|refine sa fun xe hxe=>?_|refine sb (fun hq=>?_) fun hq=>?_|exact True.intro|refine co (hM) ?_)
  refine⟨i+1,by omega,by omega,?_⟩
  rw[hr',h6,h7,h8]
  rfl
 ·obtain rfl:i=hs.length:=by omega
  rw[List.take_of_length_le (Nat.le_refl _)] at *
  generalize cE hs k pss vss=r at *
  (repeat' first|refine st ?_|refine sa fun xe hxe=>?_|refine sb (fun hq=>?_) fun hq=>?_|exact True.intro)
  exact⟨rfl,rfl⟩
theorem jL (vs:List PplO)(pss:List (List Int))(g:List Ppl)(k:Int)(hr:PsR pss vs g)(hk:0≤k∧k+cP g≤1000000000):ao Try.prog 26 [.ref 4,.int .i64 k] [(1,.frow 3 (.int .i64) pss),(4,.row 61 (.pplo 1 1) vs)] (.int .i64 (fi vs k pss).1) [(1,.frow 3 (.int .i64) (fi vs k pss).2.1),(4,.row 61 (.pplo 1 1) (fi vs k pss).2.2)]:=by
 refine af al Try.func26 rfl rfl false 1 5 rfl rfl rfl rfl fun K hK hb1 hb2=>?_;simp only[aj,enc,Nat.reduceAdd]
 clear hb1 hb2
 (repeat' first|refine st ?_|refine sa fun xe hxe=>?_|refine sb (fun hq=>?_) fun hq=>?_|exact True.intro)
 refine ak hK [] [0,1,5] (fun i:Nat=>⟨[(0,.ref 4),(1,.int .i64 (fi (vs.take i) k pss).1),(5,.int .i64 i)],[(1,.frow 3 (.int .i64) (fi (vs.take i) k pss).2.1),(4,.row 61 (.pplo 1 1) ((fi (vs.take i) k pss).2.2++vs.drop i))],5⟩) (fun i=>i≤vs.length) (fun i=>vs.length-i) 0 (by simp) (by simp[fi];rfl) ?_
 intro i hi
 have hgl:=hr.len
 have hcl:=zI g
 by_cases hlt:i<vs.length
 ·have hv:g[i]?=some g[i]:=List.getElem?_eq_getElem (by omega)
  obtain⟨j,y,j2,y2,h1,h2,h2',h3,h3',h4,h5,h6,h7,h8⟩:=uz (k:=k) hr hv rfl
  have hc:=xP hv
  have hc2:=Aj g (i+1)
  have hll:((fi (vs.take i) k pss).2.2++vs.drop i).length=vs.length:=by simp[ki];omega
  generalize hr':fi (vs.take (i+1)) k pss=r' at *
  generalize fi (vs.take i) k pss=r at *
  obtain⟨r1,r2,r3⟩:=r
  simp only at h1 h2 h2' h4 h5 h6 h7 h8 hll⊢
  generalize r3++vs.drop i=row at *
  generalize g[i]=v at *
  have hti:(i:Int).toNat<row.length:=by simp;omega
  (repeat' first|refine st ?_|refine sa fun xe hxe=>?_|refine sb (fun hq=>?_) fun hq=>?_|exact True.intro)
  rename_i ya hya
  obtain rfl:=Option.some.inj ((List.getElem?_set_self hti).symm.trans hya)
  obtain rfl:=Option.some.inj ((List.getElem?_set_self (by rw[List.length_set];exact hti)).symm.trans hxe)
  clear hya hxe
  dsimp only
  rw[List.set_set]
  have hg2:(i:Int).toNat<(row.set (i:Int).toNat (⟨⟨r1,r1+1,some j,v.v.digest⟩,some j2⟩:PplO)).length:=by rw[List.length_set];exact hti
  have hg3:(row.set (i:Int).toNat (⟨⟨r1,r1+1,some j,v.v.digest⟩,some j2⟩:PplO))[(i:Int).toNat]?=some ⟨⟨r1,r1+1,some j,v.v.digest⟩,some j2⟩:=List.getElem?_set_self hti
  have hg4:∀x:PplO,(row.set (i:Int).toNat (⟨⟨r1,r1+1,some j,v.v.digest⟩,some j2⟩:PplO)).set (i:Int).toNat x=row.set i x:=fun x=>by rw[List.set_set,Int.toNat_natCast]
  generalize row.set (i:Int).toNat (⟨⟨r1,r1+1,some j,v.v.digest⟩,some j2⟩:PplO)=row2 at *
  have hM:=gu r2 j y (r1+1+1) h2 (by omega)
  rw[show r1+1+1=r1+2 by omega] at *
  have hF:=mT 3 r2 j (mk (r1+2) y.length)
  (repeat(any_goals(first|refine st ?_|refine sa fun xe hxe=>?_|refine sb (fun hq=>?_) fun hq=>?_|refine co (hM) ?_|exact True.intro)))
  obtain rfl:=Option.some.inj ((List.getElem?_set_self hg2).symm.trans hxe)
  clear hxe hM hF
  dsimp only
  rw[hg4]
  have hM:=gu (r2.set j (mk (r1+2) y.length)) j2 y2 (r1+2+y.length+1) h2' (by omega)
  rw[show r1+3+(y.length:Int)=r1+2+y.length+1 by omega] at *
  have hF:=mT 3 (r2.set j (mk (r1+2) y.length)) j2 (mk (r1+2+y.length+1) y2.length)
  generalize r2.set j (mk (r1+2) y.length)=r4 at *
  (repeat' first|refine st ?_|refine sa fun xe hxe=>?_|refine sb (fun hq=>?_) fun hq=>?_|exact True.intro|refine co (hM) ?_)
  refine⟨i+1,by omega,by omega,?_⟩
  rw[hr',h6,h7,h8]
  rfl
 ·obtain rfl:i=vs.length:=by omega
  rw[List.take_of_length_le (Nat.le_refl _),List.drop_eq_nil_of_le (Nat.le_refl _),List.append_nil] at *
  have hlm:=ki vs k pss
  generalize fi vs k pss=r at *
  (repeat' first|refine st ?_|refine sa fun xe hxe=>?_|refine sb (fun hq=>?_) fun hq=>?_|exact True.intro)
  exact⟨rfl,rfl⟩
theorem n8 (a b:List Int)(bad:Int)(vss:List (List VtxO))(pss:List (List Int))(hs:List (Option Nat))(ps:List PplO)(gs:List (List Vtx))(qs:List Ppl)(k:Int)(h:WO vss pss hs ps gs qs)(hl:hs.length≤1048576)(hk:0≤k∧k+(a.length+b.length+cG gs+cP qs:Nat)≤1000000000):
  ∃x:(Int×List (List Int)×List (List VtxO))×(Int×List (List Int)×List PplO),(x.1=cE hs (k+a.length+b.length) pss vss∧x.2=fi ps x.1.1 x.1.2.1)∧ao Try.prog 11 [AO bad,.int .i64 k] [(0,.frow 59 (.vtxo 1) vss),(1,.frow 3 (.int .i64) pss),(4,.row 3 (.int .i64) a),(5,.row 3 (.int .i64) b),(6,.row 45 (.hr 0) hs),(7,.row 61 (.pplo 1 1) ps)]
   (.int .i64 x.2.1) [(0,.frow 59 (.vtxo 1) x.1.2.2),(1,.frow 3 (.int .i64) x.2.2.1),(4,.row 3 (.int .i64) (mk k a.length)),(5,.row 3 (.int .i64) (mk (k+a.length) b.length)),(6,.row 45 (.hr 0) hs),(7,.row 61 (.pplo 1 1) x.2.2.2)]:=by
 refine⟨(cE hs (k+a.length+b.length) pss vss,fi ps (cE hs (k+a.length+b.length) pss vss).1 (cE hs (k+a.length+b.length) pss vss).2.1),⟨rfl,rfl⟩,?_⟩
 obtain⟨h1,h2,h3,-,-⟩:=h.mark (k+a.length+b.length)
 have hG:=le hs pss vss gs (k+a.length+b.length) h.g h.hn (by omega) hl
 have hP:=jL ps (cE hs (k+a.length+b.length) pss vss).2.1 qs (cE hs (k+a.length+b.length) pss vss).1 h1 (by omega)
 have hF0:aE (VB.frow 59 (.vtxo 1) vss)≤aE (VB.frow 59 (.vtxo 1) (cE hs (k+a.length+b.length) pss vss).2.2):=by
  have key:∀(hs:List (Option Nat)) (k:Int) (pss:List (List Int)) (vss:List (List VtxO)),(cE hs k pss vss).2.2.length=vss.length:=by
   intro hs
   induction hs with
   |nil=>intros;rfl
   |cons x l ih=>intro k pss vss;simp only[cE];rw[ih,List.length_set]
  simp[aE,key]
 have hF1:=io 3 (ib hs (k+a.length+b.length) pss vss)
 have hF2:=io 3 (fp ps (cE hs (k+a.length+b.length) pss vss).1 (cE hs (k+a.length+b.length) pss vss).2.1)
 generalize cE hs (k+a.length+b.length) pss vss=x at *
 generalize fi ps x.1 x.2.1=y at *
 refine af al Try.func11 rfl rfl false 4 8 rfl rfl rfl rfl fun K hK hb1 hb2=>?_;simp only[aj,enc,Nat.reduceAdd]
 clear hb1 hb2
 (repeat' first|refine st ?_|refine sa fun xe hxe=>?_|refine sb (fun hq=>?_) fun hq=>?_|exact True.intro|refine co (hG) ?_|refine co (hP) ?_|((with_reducible refine qy ?_);(conv=>whnf);(first|with_reducible refine cR (k9 _ _ (by omega)) ?_);conv=>whnf))
 exact⟨rfl,rfl⟩
theorem x9 (l:List Int)(n:Int):ao Try.prog 58 [.lst (.int .i64) l,.int .i64 n] [] (.bool (l.contains n)) []:=by
 refine af al Try.func58 rfl rfl false 0 4 rfl rfl rfl rfl fun K hK hb1 hb2=>?_;simp only[aj,enc,Nat.reduceAdd]
 simp[ab,V.toD,bnd,aa,D.cells] at hb1
 (repeat' first|refine st ?_|refine sa fun xe hxe=>?_|refine sb (fun hq=>?_) fun hq=>?_|exact True.intro)
 refine ak hK [] [0,1,5] (fun i:Nat=>⟨[(0,.lst (.int .i64) l),(1,.int .i64 n),(5,.int .i64 i)],[],4⟩) (fun i=>i≤l.length∧∀y∈l.take i,(y==n)=false) (fun i=>l.length-i) 0 ⟨by simp,by simp⟩ rfl ?_
 rintro i ⟨hi,hall⟩
 by_cases hlt:i<l.length
 ·have hxe:l[i]?=some l[i]:=List.getElem?_eq_getElem hlt
  have hsn:l.take (i+1)=l.take i++[l[i]]:=List.take_succ_eq_append_getElem hlt
  have hm:l[i]∈l:=List.getElem_mem hlt
  generalize l[i]=x at *
  by_cases h:x=n
  ·subst h
   (repeat' first|refine st ?_|refine sa fun xe hxe=>?_|refine sb (fun hq=>?_) fun hq=>?_|exact True.intro)
   ·rw[List.contains_iff_mem.2 hm]
    exact⟨rfl,rfl⟩
   ·exact absurd trivial hq
  ·(repeat' first|refine st ?_|refine sa fun xe hxe=>?_|refine sb (fun hq=>?_) fun hq=>?_|exact True.intro)
   exact⟨i+1,⟨by omega,by rw[hsn];exact a6 hall (by simpa using h)⟩,by omega,rfl⟩
 ·(repeat' first|refine st ?_|refine sa fun xe hxe=>?_|refine sb (fun hq=>?_) fun hq=>?_|exact True.intro)
  rw[List.take_of_length_le (by omega)] at hall
  have:l.contains n=false:=by
   rw[Bool.eq_false_iff]
   intro h
   have:=hall _ (List.contains_iff_mem.1 h)
   simp at this
  rw[this]
  exact⟨rfl,rfl⟩
theorem zc {a b:List Int}{i:Nat}{x y:Int}(hx:a[i]?=some x)(hy:b[i]?=some y)(h:x≠y):(a==b)=false:=by
 rw[beq_eq_false_iff_ne]
 rintro rfl
 rw[hx] at hy
 exact h (Option.some.inj hy)
theorem vo (v u:Vtx):ao Try.prog 83 [bU v,bU u] [] (.bool (i5 v u)) []:=by
 have hno:∀b,i5 v u=b→V.bool b=V.bool (i5 v u)∧([]:VH)=[]:=fun b h=>⟨by rw[h],rfl⟩
 refine af al Try.func83 rfl rfl false 0 4 rfl rfl rfl rfl fun K hK hb1 hb2=>?_;simp only[aj,enc,Nat.reduceAdd]
 simp[ab,V.toD,bnd,aa,D.cells,cz] at hb1
 by_cases h1:v.round=u.round
 rotate_left
 ·(repeat' first|refine st ?_|refine sa fun xe hxe=>?_|refine sb (fun hq=>?_) fun hq=>?_|exact True.intro)
  exact hno _ (by simp[i5,h1])
 by_cases h2:v.author=u.author
 rotate_left
 ·(repeat' first|refine st ?_|refine sa fun xe hxe=>?_|refine sb (fun hq=>?_) fun hq=>?_|exact True.intro)
  exact hno _ (by simp[i5,h2])
 by_cases h3:v.digest=u.digest
 rotate_left
 ·(repeat' first|refine st ?_|refine sa fun xe hxe=>?_|refine sb (fun hq=>?_) fun hq=>?_|exact True.intro)
  exact hno _ (by simp[i5,h3])
 have he:i5 v u=(v.parents==u.parents):=by simp[i5,h1,h2,h3]
 by_cases h4:v.parents.length=u.parents.length
 rotate_left
 ·(repeat' first|refine st ?_|refine sa fun xe hxe=>?_|refine sb (fun hq=>?_) fun hq=>?_|exact True.intro)
  exact hno _ (by rw[he,beq_eq_false_iff_ne];intro h;exact h4 (by rw[h]))
 (repeat' first|refine st ?_|refine sa fun xe hxe=>?_|refine sb (fun hq=>?_) fun hq=>?_|exact True.intro)
 refine ak hK [] [2,3,5] (fun i:Nat=>⟨[(2,.ptr 4 0),(3,.ptr 5 0),(5,.int .i64 i)],[(4,.var 59 (bU v).cells),(5,.var 59 (bU u).cells)],6⟩) (fun i=>i≤v.parents.length∧v.parents.take i=u.parents.take i) (fun i=>v.parents.length-i) 0 ⟨by simp,by simp⟩ rfl ?_
 rintro i ⟨hi,hall⟩
 by_cases hlt:i<v.parents.length
 ·have hxe:v.parents[i]?=some v.parents[i]:=List.getElem?_eq_getElem hlt
  have hye:u.parents[i]?=some (u.parents[i]'(by omega)):=List.getElem?_eq_getElem (by omega)
  have hsn:v.parents.take (i+1)=v.parents.take i++[v.parents[i]]:=List.take_succ_eq_append_getElem hlt
  have hsu:u.parents.take (i+1)=u.parents.take i++[u.parents[i]'(by omega)]:=List.take_succ_eq_append_getElem (by omega)
  generalize v.parents[i]=x at *
  generalize u.parents[i]'(by omega)=y at *
  by_cases h:x=y
  ·subst h
   (repeat' first|refine st ?_|refine sa fun xe hxe=>?_|refine sb (fun hq=>?_) fun hq=>?_|exact True.intro)
   ·exact absurd trivial hq
   ·exact⟨i+1,⟨by omega,by rw[hsn,hsu,hall]⟩,by omega,rfl⟩
  ·(repeat' first|refine st ?_|refine sa fun xe hxe=>?_|refine sb (fun hq=>?_) fun hq=>?_|exact True.intro)
   exact hno _ (by rw[he];exact zc hxe hye h)
 ·(repeat' first|refine st ?_|refine sa fun xe hxe=>?_|refine sb (fun hq=>?_) fun hq=>?_|exact True.intro)
  rw[List.take_of_length_le (by omega),List.take_of_length_le (by omega)] at hall
  exact hno _ (by rw[he,hall];simp)
theorem zq (v u:Vtx):ao Try.prog 82 [bU v,bU u] [] (.bool (slt v u)) []:=by
 refine af al Try.func82 rfl rfl false 0 4 rfl rfl rfl rfl fun K hK hb1 hb2=>?_;simp only[aj,enc,Nat.reduceAdd]
 (repeat' first|refine st ?_|refine sa fun xe hxe=>?_|refine sb (fun hq=>?_) fun hq=>?_|exact True.intro)
 all_goals (refine⟨?_,rfl⟩;simp_all[slt])
theorem r8 (w:Wrl)(p:Ppl)(hc:comV w.com=true)(hm:bV w.com p.members=true):ao Try.prog 33 [bD w,gc p] [] (.bool (don w.com p)) []:=by
 have h1:=db hm
 have h2:=f5 hm
 have h3:=(aF.1 hc).2
 refine af al Try.func33 rfl rfl false 0 4 rfl rfl rfl rfl fun K hK hb1 hb2=>?_;simp only[aj,enc,Nat.reduceAdd]
 (repeat' first|refine st ?_|refine sa fun xe hxe=>?_|refine sb (fun hq=>?_) fun hq=>?_|exact True.intro|refine cr (tG _ hc) ?_|((with_reducible refine i4 ?_);(conv=>whnf);(first|with_reducible refine cR (xS _ _ hc h1 (by omega)) ?_);conv=>whnf))
 exact⟨rfl,rfl⟩
theorem zj (w:Wrl)(hc:comV w.com=true):ao Try.prog 56 [bD w] [] (.bool (dE w.com w.bad w.props)) []:=by
 refine af al Try.func56 rfl rfl false 0 4 rfl rfl rfl rfl fun K hK hb1 hb2=>?_;simp only[aj,enc,Nat.reduceAdd]
 simp[ab,V.toD,bnd,aa,D.cells] at hb1
 (repeat' first|refine st ?_|refine sa fun xe hxe=>?_|refine sb (fun hq=>?_) fun hq=>?_|exact True.intro)
 refine ak hK [] [1,3] (fun i:Nat=>⟨[(1,.ptr 4 0),(3,.int .i64 i)],[(4,.var 26 (bD w).cells)],5⟩) (fun i=>i≤w.props.length∧∀j,j<i→cF w.com w.bad w.props j=true) (fun i=>w.props.length-i) 0 ⟨by simp,by simp⟩ rfl ?_
 rintro i ⟨hi,hall⟩
 by_cases hlt:i<w.props.length
 ·have hxe:w.props[i]?=some w.props[i]:=List.getElem?_eq_getElem hlt
  have hno:cF w.com w.bad w.props i=false→V.bool false=V.bool (dE w.com w.bad w.props)∧([]:VH)=[]:=fun h=>⟨by rw[dE,bC hlt h,Bool.false_and],rfl⟩
  have hA:cF w.com w.bad w.props i=(oneP w.com w.props[i] && bW i (fun k=>fitP w.bad w.props[i] (w.props.getD k p0))):=by simp only[cF,aU hxe]
  generalize w.props[i]=p at *
  have hvc:=kz w.com p.v hc
  have hmc:=qG w.com p.members
  cases h1:vtxS w.com p.v
  ·rw[h1] at hvc
   (repeat' first|refine st ?_|refine sa fun xe hxe=>?_|refine sb (fun hq=>?_) fun hq=>?_|exact True.intro|refine cr (hvc) ?_|refine cr (hmc) ?_)
   exact hno (by simp[hA,oneP,h1])
  rw[h1] at hvc
  cases h2:bV w.com p.members
  ·rw[h2] at hmc
   (repeat' first|refine st ?_|refine sa fun xe hxe=>?_|refine sb (fun hq=>?_) fun hq=>?_|exact True.intro|refine cr (hvc) ?_|refine cr (hmc) ?_)
   exact hno (by simp[hA,oneP,h2])
  rw[h2] at hmc
  (repeat' first|refine st ?_|refine sa fun xe hxe=>?_|refine sb (fun hq=>?_) fun hq=>?_|exact True.intro|refine cr (hvc) ?_|refine cr (hmc) ?_)
  refine ak hK [] [1,3,4,5] (fun k:Nat=>⟨[(1,.ptr 4 0),(3,.int .i64 i),(4,.ptr 5 0),(5,.int .i64 k)],[(4,.var 26 (bD w).cells),(5,.var 61 (gc p).cells)],6⟩) (fun k=>k≤i∧∀j,j<k→fitP w.bad p (w.props.getD j p0)=true) (fun k=>i-k) 0 ⟨by simp,by simp⟩ rfl ?_
  rintro k ⟨hk,hkall⟩
  by_cases hkl:k<i
  ·have hxk:w.props[k]?=some (w.props.getD k p0):=by rw[List.getD_eq_getElem?_getD,List.getElem?_eq_getElem (show k<w.props.length by omega)];rfl
   have hyes:=a5 hkall (p:=fun j=>fitP w.bad p (w.props.getD j p0)) (i:=k)
   have hnk:fitP w.bad p (w.props.getD k p0)=false→V.bool false=V.bool (dE w.com w.bad w.props)∧([]:VH)=[]:=fun h=>hno (by rw[hA,bC hkl h,Bool.and_false])
   generalize w.props.getD k p0=q at *
   have hsc:=zq p.v q.v
   have hqc:=vo p.v q.v
   cases h3:slt p.v q.v
   ·rw[h3] at hsc
    (repeat' first|refine st ?_|refine sa fun xe hxe=>?_|refine sb (fun hq=>?_) fun hq=>?_|exact True.intro|refine cr (hsc) ?_|refine cr (hqc) ?_)
    exact⟨k+1,⟨by omega,hyes (by simp[fitP,h3])⟩,by omega,rfl⟩
   rw[h3] at hsc
   cases h4:i5 p.v q.v
   rotate_left
   ·rw[h4] at hqc
    (repeat' first|refine st ?_|refine sa fun xe hxe=>?_|refine sb (fun hq=>?_) fun hq=>?_|exact True.intro|refine cr (hsc) ?_|refine cr (hqc) ?_)
    exact hnk (by simp[fitP,h3,h4])
   rw[h4] at hqc
   by_cases h5:p.v.author=w.bad
   rotate_left
   ·(repeat' first|refine st ?_|refine sa fun xe hxe=>?_|refine sb (fun hq=>?_) fun hq=>?_|exact True.intro|refine cr (hsc) ?_|refine cr (hqc) ?_)
    exact hnk (by simp[fitP,h3,h5])
   have hfe:fitP w.bad p q= !lv w.bad p.members q.members:=by simp[fitP,h3,h4,h5]
   (repeat' first|refine st ?_|refine sa fun xe hxe=>?_|refine sb (fun hq=>?_) fun hq=>?_|exact True.intro|refine cr (hsc) ?_|refine cr (hqc) ?_)
   refine ak hK [] [1,3,4,5,6,7] (fun n:Nat=>⟨[(1,.ptr 4 0),(3,.int .i64 i),(4,.ptr 5 0),(5,.int .i64 k),(6,.ptr 6 0),(7,.int .i64 n)],[(4,.var 26 (bD w).cells),(5,.var 61 (gc p).cells),(6,.var 61 (gc q).cells)],7⟩) (fun n=>n≤p.members.length∧∀m∈p.members.take n,(m !=w.bad && q.members.contains m)=false) (fun n=>p.members.length-n) 0 ⟨by simp,by simp⟩ rfl ?_
   rintro n ⟨hn,hnall⟩
   by_cases hnl:n<p.members.length
   ·have hxm:p.members[n]?=some p.members[n]:=List.getElem?_eq_getElem hnl
    have hsn:p.members.take (n+1)=p.members.take n++[p.members[n]]:=List.take_succ_eq_append_getElem hnl
    have hmm:p.members[n]∈p.members:=List.getElem_mem hnl
    have hml:p.members.length≤7:=by have:=f5 h2;have:=(aF.1 hc).2;omega
    generalize p.members[n]=m at *
    have hhc:=x9 q.members m
    by_cases h6:m=w.bad
    ·(repeat' first|refine st ?_|refine sa fun xe hxe=>?_|refine sb (fun hq=>?_) fun hq=>?_|exact True.intro|refine cr (hhc) ?_)
     exact⟨n+1,⟨by omega,by rw[hsn];exact a6 hnall (by simp[h6])⟩,by omega,rfl⟩
    ·cases h7:q.members.contains m
     ·rw[h7] at hhc
      (repeat' first|refine st ?_|refine sa fun xe hxe=>?_|refine sb (fun hq=>?_) fun hq=>?_|exact True.intro|refine cr (hhc) ?_)
      exact⟨n+1,⟨by omega,by rw[hsn];exact a6 hnall (by rw[h7,Bool.and_false])⟩,by omega,rfl⟩
     ·rw[h7] at hhc
      (repeat' first|refine st ?_|refine sa fun xe hxe=>?_|refine sb (fun hq=>?_) fun hq=>?_|exact True.intro|refine cr (hhc) ?_)
      refine hnk ?_
      have:lv w.bad p.members q.members=true:=List.any_eq_true.2 ⟨m,hmm,by rw[h7];simpa using h6⟩
      rw[hfe,this]
      rfl
   ·(repeat' first|refine st ?_|refine sa fun xe hxe=>?_|refine sb (fun hq=>?_) fun hq=>?_|exact True.intro)
    rw[List.take_of_length_le (by omega)] at hnall
    have:lv w.bad p.members q.members=false:=by
     rw[Bool.eq_false_iff]
     intro h
     obtain⟨m,hm,h⟩:=List.any_eq_true.1 h
     rw[hnall m hm] at h
     cases h
    exact⟨k+1,⟨by omega,hyes (by rw[hfe,this];rfl)⟩,by omega,rfl⟩
  ·have hAt:cF w.com w.bad w.props i=true:=by
    rw[hA,br (fun j hj=>hkall j (by omega)),oneP,h1,h2]
    rfl
   (repeat' first|refine st ?_|refine sa fun xe hxe=>?_|refine sb (fun hq=>?_) fun hq=>?_|exact True.intro)
   exact⟨i+1,⟨by omega,a5 hall hAt⟩,by omega,rfl⟩
 ·(repeat' first|refine st ?_|refine sa fun xe hxe=>?_|refine sb (fun hq=>?_) fun hq=>?_|exact True.intro)
  rw[dE,br (fun j hj=>hall j (by omega)),Bool.true_and]
  exact⟨rfl,rfl⟩
theorem xI (w:Wrl)(g:List Vtx)(hc:comV w.com=true)(hp:dE w.com w.bad w.props=true):ao Try.prog 57 [bD w,.lst .vtx g] [] (.bool (iS w.com w.props g)) []:=by
 have hpl:=jR hp
 have hv:iS w.com w.props g=(g.all (knw w.com w.props) && graS w.com g):=rfl
 refine af al Try.func57 rfl rfl false 0 4 rfl rfl rfl rfl fun K hK hb1 hb2=>?_;simp only[aj,enc,Nat.reduceAdd]
 simp[ab,V.toD,bnd,aa,D.cells] at hb1
 (repeat' first|refine st ?_|refine sa fun xe hxe=>?_|refine sb (fun hq=>?_) fun hq=>?_|exact True.intro)
 refine ak hK [] [1,2,5] (fun i:Nat=>⟨[(1,.lst .vtx g),(2,.ptr 4 0),(5,.int .i64 i)],[(4,.var 26 (bD w).cells)],5⟩) (fun i=>i≤g.length∧∀v∈g.take i,knw w.com w.props v=true) (fun i=>g.length-i) 0 ⟨by simp,by simp⟩ rfl ?_
 rintro i ⟨hi,hall⟩
 by_cases hlt:i<g.length
 ·have hxe:g[i]?=some g[i]:=List.getElem?_eq_getElem hlt
  have hsn:g.take (i+1)=g.take i++[g[i]]:=List.take_succ_eq_append_getElem hlt
  have hvm:g[i]∈g:=List.getElem_mem hlt
  generalize g[i]=v at *
  (repeat' first|refine st ?_|refine sa fun xe hxe=>?_|refine sb (fun hq=>?_) fun hq=>?_|exact True.intro)
  refine ak hK [] [1,2,5,6,7] (fun k:Nat=>⟨[(1,.lst .vtx g),(2,.ptr 4 0),(5,.int .i64 i),(6,.bool (knw w.com (w.props.take k) v)),(7,.int .i64 k)],[(4,.var 26 (bD w).cells)],5⟩) (fun k=>k≤w.props.length) (fun k=>w.props.length-k) 0 (by simp) rfl ?_
  intro k hk
  by_cases hkl:k<w.props.length
  ·have hxk:w.props[k]?=some w.props[k]:=List.getElem?_eq_getElem hkl
   have hks:w.props.take (k+1)=w.props.take k++[w.props[k]]:=List.take_succ_eq_append_getElem hkl
   have hom:=ke hp _ (List.getElem_mem hkl)
   generalize w.props[k]=p at *
   simp only[oneP,Bool.and_eq_true] at hom
   have hks2:knw w.com (w.props.take (k+1)) v=(knw w.com (w.props.take k) v||(don w.com p && i5 p.v v)):=by rw[hks];simp[knw]
   have hdc:=r8 w p hc hom.2
   have hqc:=vo p.v v
   cases h1:knw w.com (w.props.take k) v
   ·cases h2:don w.com p
    ·rw[h2] at hdc
     (repeat' first|refine st ?_|refine sa fun xe hxe=>?_|refine sb (fun hq=>?_) fun hq=>?_|exact True.intro|refine cr (hdc) ?_|refine cr (hqc) ?_)
     exact⟨k+1,by omega,by omega,by rw[hks2,h1,h2];rfl⟩
    ·rw[h2] at hdc
     (repeat' first|refine st ?_|refine sa fun xe hxe=>?_|refine sb (fun hq=>?_) fun hq=>?_|exact True.intro|refine cr (hdc) ?_|refine cr (hqc) ?_)
     exact⟨k+1,by omega,by omega,by rw[hks2,h1,h2];rfl⟩
   ·(repeat' first|refine st ?_|refine sa fun xe hxe=>?_|refine sb (fun hq=>?_) fun hq=>?_|exact True.intro|refine cr (hdc) ?_|refine cr (hqc) ?_)
    exact⟨k+1,by omega,by omega,by rw[hks2,h1];rfl⟩
  ·rw[List.take_of_length_le (by omega)]
   cases h1:knw w.com w.props v
   ·(repeat' first|refine st ?_|refine sa fun xe hxe=>?_|refine sb (fun hq=>?_) fun hq=>?_|exact True.intro)
    have:g.all (knw w.com w.props)=false:=by
     rw[Bool.eq_false_iff]
     intro h
     rw[List.all_eq_true.1 h v hvm] at h1
     cases h1
    exact⟨by rw[hv,this,Bool.false_and],rfl⟩
   ·(repeat' first|refine st ?_|refine sa fun xe hxe=>?_|refine sb (fun hq=>?_) fun hq=>?_|exact True.intro)
    exact⟨i+1,⟨by omega,by rw[hsn];exact a6 hall h1⟩,by omega,rfl⟩
 ·rw[List.take_of_length_le (by omega)] at hall
  (repeat' first|refine st ?_|refine sa fun xe hxe=>?_|refine sb (fun hq=>?_) fun hq=>?_|exact True.intro|refine cr (yR _ _) ?_)
  exact⟨by rw[hv,List.all_eq_true.2 hall,Bool.true_and],rfl⟩
abbrev A2:V:=.agg [.nils,.nils,.int .i64 0,.nils,.nils]
theorem yV (c l:List Int)(b:Int)(hl:c.length≤2000000):ao Try.prog 5 [.lst (.int .i64) c,.lst (.int .i64) l,.int .i64 b] [] (if ge c l b then .tup [bD (Bb c l b),.bool true] else .tup [A2,.bool false]) []:=by
 have hL:=zu c l
 refine af al Try.func5 rfl rfl true 0 4 rfl rfl rfl rfl fun K hK hb1 hb2=>?_;simp only[aj,enc,Nat.reduceAdd]
 simp[ab,V.toD,bnd,aa,D.cells] at hb1
 cases h1:comV c && leaS c l
 ·rw[h1] at hL
  have hn:ge c l b=false:=by
   rw[Bool.and_eq_false_iff] at h1
   rcases h1 with h1|h1<;>simp[ge,h1]
  rw[hn]
  (repeat' first|refine st ?_|refine sa fun xe hxe=>?_|refine sb (fun hq=>?_) fun hq=>?_|exact True.intro|refine cr (hL) ?_)
  exact⟨rfl,rfl⟩
 rw[h1] at hL
 have hc:comV c=true:=(Bool.and_eq_true_iff.1 h1).1
 have hle:leaS c l=true:=(Bool.and_eq_true_iff.1 h1).2
 have hns:ge c l b=badS c b:=by simp[ge,hc,hle]
 rw[hns]
 have h7:=(aF.1 hc).2
 have hll:=(oH.1 hle).2
 have hI:=nd b (-1) ((c.length:Int)-1)
 cases h2:gx b (-1) ((c.length:Int)-1)
 ·rw[h2] at hI
  have hb:badS c b=false:=by simp[badS,h2]
  rw[hb]
  (repeat' first|refine st ?_|refine sa fun xe hxe=>?_|refine sb (fun hq=>?_) fun hq=>?_|exact True.intro|refine cr (hL) ?_|refine cr (hI) ?_)
  exact⟨rfl,rfl⟩
 rw[h2] at hI
 have hbr:=aJ.1 h2
 have hT:=yh c hc
 have hfd:=vW hc
 have htb:=i0 hc
 have hfau:(lA c-1).tdiv 3=rx c:=rfl
 have hst:∀i:Nat,(⟨[(0,.lst (.int .i64) c),(6,.ptr 4 0),(8,.ptr 5 0),(9,.int .i64 ((i:Int)+1))],[(4,.var 26 [.nils,.nils,.int .i64 0,.nils,.nils]),(5,.var 26 [.ref 6,.ref 7,.int .i64 b,.ref 8,.ref 9]),(6,.row 3 (.int .i64) c),(7,.row 3 (.int .i64) l),(8,.row 45 (.lst .vtx) (List.replicate i []++[[]])),(9,.row 61 .ppl [])],10⟩:VSt)=
   ⟨[(0,.lst (.int .i64) c),(6,.ptr 4 0),(8,.ptr 5 0),(9,.int .i64 ((i+1:Nat):Int))],[(4,.var 26 [.nils,.nils,.int .i64 0,.nils,.nils]),(5,.var 26 [.ref 6,.ref 7,.int .i64 b,.ref 8,.ref 9]),(6,.row 3 (.int .i64) c),(7,.row 3 (.int .i64) l),(8,.row 45 (.lst .vtx) (List.replicate (i+1) [])),(9,.row 61 .ppl [])],10⟩:=fun i=>by
  rw[List.replicate_succ']
  rfl
 have hfin:∀x:Int,rx c<x→(lA c-1).tdiv 3<x:=fun x h=>h
 have hfin2:∀x:Int,x≤rx c→¬(lA c-1).tdiv 3<x:=fun x h=>by rw[hfau];omega
 by_cases h3:b<0
 ·have hb:badS c b=true:=by simp[badS,h2,h3]
  rw[hb]
  (repeat' first|refine st ?_|refine sa fun xe hxe=>?_|refine sb (fun hq=>?_) fun hq=>?_|exact True.intro|refine cr (hL) ?_|refine cr (hI) ?_|refine cr (hT) ?_)
  refine ak hK [] [0,6,8,9] (fun i:Nat=>⟨[(0,.lst (.int .i64) c),(6,.ptr 4 0),(8,.ptr 5 0),(9,.int .i64 (i:Int))],[(4,.var 26 [.nils,.nils,.int .i64 0,.nils,.nils]),(5,.var 26 [.ref 6,.ref 7,.int .i64 b,.ref 8,.ref 9]),(6,.row 3 (.int .i64) c),(7,.row 3 (.int .i64) l),(8,.row 45 (.lst .vtx) (List.replicate i [])),(9,.row 61 .ppl [])],10⟩) (fun i=>i≤c.length) (fun i=>c.length-i) 0 (by simp) rfl ?_
  intro i hi
  have hrl:(List.replicate i ([]:List Vtx)).length=i:=by simp
  have hst:=hst i
  generalize hrs:List.replicate i ([]:List Vtx)=rs at *
  by_cases hlt:i<c.length
  ·(repeat' first|refine st ?_|refine sa fun xe hxe=>?_|refine sb (fun hq=>?_) fun hq=>?_|exact True.intro)
   refine⟨i+1,by omega,by omega,?_⟩
   rw[←hst]
   try rfl
  ·obtain rfl:i=c.length:=by omega
   (repeat' first|refine st ?_|refine sa fun xe hxe=>?_|refine sb (fun hq=>?_) fun hq=>?_|exact True.intro)
   rw[←hrs]
   exact⟨rfl,rfl⟩
 ·have hxe:c[b.toNat]?=some (c.getD b.toNat 0):=by rw[List.getD_eq_getElem?_getD,List.getElem?_eq_getElem (show b.toNat<c.length by omega)];rfl
  have hb:badS c b=decide (c.getD b.toNat 0≤rx c):=by simp[badS,h2,h3]
  rw[hb]
  generalize c.getD b.toNat 0=x at *
  by_cases hxf:x≤rx c
  ·rw[decide_eq_true hxf]
   have hxf:=hfin2 x hxf
   (repeat' first|refine st ?_|refine sa fun xe hxe=>?_|refine sb (fun hq=>?_) fun hq=>?_|exact True.intro|refine cr (hL) ?_|refine cr (hI) ?_|refine cr (hT) ?_)
   refine ak hK [] [0,6,8,9] (fun i:Nat=>⟨[(0,.lst (.int .i64) c),(6,.ptr 4 0),(8,.ptr 5 0),(9,.int .i64 (i:Int))],[(4,.var 26 [.nils,.nils,.int .i64 0,.nils,.nils]),(5,.var 26 [.ref 6,.ref 7,.int .i64 b,.ref 8,.ref 9]),(6,.row 3 (.int .i64) c),(7,.row 3 (.int .i64) l),(8,.row 45 (.lst .vtx) (List.replicate i [])),(9,.row 61 .ppl [])],10⟩) (fun i=>i≤c.length) (fun i=>c.length-i) 0 (by simp) rfl ?_
   intro i hi
   have hrl:(List.replicate i ([]:List Vtx)).length=i:=by simp
   have hst:=hst i
   generalize hrs:List.replicate i ([]:List Vtx)=rs at *
   by_cases hlt:i<c.length
   ·(repeat' first|refine st ?_|refine sa fun xe hxe=>?_|refine sb (fun hq=>?_) fun hq=>?_|exact True.intro)
    refine⟨i+1,by omega,by omega,?_⟩
    rw[←hst]
    try rfl
   ·obtain rfl:i=c.length:=by omega
    (repeat' first|refine st ?_|refine sa fun xe hxe=>?_|refine sb (fun hq=>?_) fun hq=>?_|exact True.intro)
    rw[←hrs]
    exact⟨rfl,rfl⟩
  ·rw[decide_eq_false hxf]
   have hxf:=hfin x (by omega)
   (repeat' first|refine st ?_|refine sa fun xe hxe=>?_|refine sb (fun hq=>?_) fun hq=>?_|exact True.intro|refine cr (hL) ?_|refine cr (hI) ?_|refine cr (hT) ?_)
   exact⟨rfl,rfl⟩
set_option maxHeartbeats 1000000 in
theorem Ai (w:Wrl)(hcl:w.com.length≤2000000):ao Try.prog 32 [bD w] [] (.bool (gz w)) []:=by
 have hN:=yV w.com w.lead w.bad hcl
 refine af al Try.func32 rfl rfl false 0 4 rfl rfl rfl rfl fun K hK hb1 hb2=>?_;simp only[aj,enc,Nat.reduceAdd]
 simp[ab,V.toD,bnd,aa,D.cells] at hb1
 cases h1:ge w.com w.lead w.bad
 ·rw[h1] at hN
  simp only[Bool.false_eq_true,if_false] at hN
  (repeat' first|refine st ?_|refine sa fun xe hxe=>?_|refine sb (fun hq=>?_) fun hq=>?_|exact True.intro|refine cr (hN) ?_)
  exact⟨by simp[gz,h1],rfl⟩
 rw[h1] at hN
 simp only[if_true] at hN
 have hc:comV w.com=true:=by
  simp only[ge,Bool.and_eq_true] at h1
  exact h1.1
 have h7:=(aF.1 hc).2
 by_cases h2:w.views.length=w.com.length
 rotate_left
 ·have hf:gz w=false:=by
   have:(w.views.length==w.com.length)=false:=by simpa using h2
   simp[gz,this]
  rw[hf]
  (repeat' first|refine st ?_|refine sa fun xe hxe=>?_|refine sb (fun hq=>?_) fun hq=>?_|exact True.intro|refine cr (hN) ?_)
  exact⟨rfl,rfl⟩
 have hP:=zj w hc
 cases h3:dE w.com w.bad w.props
 ·rw[h3] at hP
  have hf:gz w=false:=by simp[gz,h3]
  rw[hf]
  (repeat' first|refine st ?_|refine sa fun xe hxe=>?_|refine sb (fun hq=>?_) fun hq=>?_|exact True.intro|refine cr (hN) ?_|refine cr (hP) ?_)
  exact⟨rfl,rfl⟩
 rw[h3] at hP
 have hpl:=jR h3
 have he:gz w=(dk w.com w.bad w.props w.views && jz w.bad w.props w.views):=by simp[gz,h1,h2,h3]
 rw[he]
 (repeat' first|refine st ?_|refine sa fun xe hxe=>?_|refine sb (fun hq=>?_) fun hq=>?_|exact True.intro|refine cr (hN) ?_|refine cr (hP) ?_)
 refine ak hK [] [1,5] (fun i:Nat=>⟨[(1,.ptr 4 0),(5,.int .i64 i)],[(4,.var 26 (bD w).cells)],5⟩)
  (fun i=>i≤w.views.length∧∀j,j<i→(iS w.com w.props (w.views.getD j []) && (!((j:Int)==w.bad)||(w.views.getD j []).isEmpty))=true) (fun i=>w.views.length-i) 0 ⟨by simp,by simp⟩ rfl ?_
 rintro i ⟨hi,hall⟩
 by_cases hlt:i<w.views.length
 ·have hxe:w.views[i]?=some (w.views.getD i []):=by rw[List.getD_eq_getElem?_getD,List.getElem?_eq_getElem hlt];rfl
  have hno:(iS w.com w.props (w.views.getD i []) && (!((i:Int)==w.bad)||(w.views.getD i []).isEmpty))=false→V.bool false=V.bool (dk w.com w.bad w.props w.views && jz w.bad w.props w.views)∧([]:VH)=[]:=fun h=>⟨by unfold dk;rw[bC hlt h,Bool.false_and],rfl⟩
  have hyes:=a5 hall (p:=fun j=>iS w.com w.props (w.views.getD j []) && (!((j:Int)==w.bad)||(w.views.getD j []).isEmpty)) (i:=i)
  generalize w.views.getD i []=g at *
  have hV:=xI w g hc h3
  cases h4:iS w.com w.props g
  ·rw[h4] at hV
   (repeat' first|refine st ?_|refine sa fun xe hxe=>?_|refine sb (fun hq=>?_) fun hq=>?_|exact True.intro|refine cr (hV) ?_)
   exact hno (by rw[h4,Bool.false_and])
  rw[h4] at hV
  have hem:g.isEmpty=decide ((g.length:Int)=0):=by cases g<;>simp;omega
  by_cases h5:(i:Int)=w.bad
  ·have hb1:((i:Int)==w.bad)=true:=by simpa using h5
   by_cases h6:0<(g.length:Int)
   ·(repeat' first|refine st ?_|refine sa fun xe hxe=>?_|refine sb (fun hq=>?_) fun hq=>?_|exact True.intro|refine cr (hV) ?_)
    exact hno (by rw[hb1,hem,decide_eq_false (by omega)];simp)
   ·(repeat' first|refine st ?_|refine sa fun xe hxe=>?_|refine sb (fun hq=>?_) fun hq=>?_|exact True.intro|refine cr (hV) ?_)
    exact⟨i+1,⟨by omega,hyes (by rw[h4,hb1,hem,decide_eq_true (by omega)];simp)⟩,by omega,rfl⟩
  ·have hb1:((i:Int)==w.bad)=false:=by simpa using h5
   (repeat' first|refine st ?_|refine sa fun xe hxe=>?_|refine sb (fun hq=>?_) fun hq=>?_|exact True.intro|refine cr (hV) ?_)
   exact⟨i+1,⟨by omega,hyes (by rw[h4,hb1];rfl)⟩,by omega,rfl⟩
 have hvs:dk w.com w.bad w.props w.views=true:=by
  unfold dk
  exact br (fun j hj=>hall j (by omega))
 rw[hvs,Bool.true_and]
 (repeat' first|refine st ?_|refine sa fun xe hxe=>?_|refine sb (fun hq=>?_) fun hq=>?_|exact True.intro)
 refine ak hK [] [1,6] (fun i:Nat=>⟨[(1,.ptr 4 0),(6,.int .i64 i)],[(4,.var 26 (bD w).cells)],5⟩)
  (fun i=>i≤w.props.length∧∀p∈w.props.take i,bW w.views.length (ef w.bad w.views p)=true) (fun i=>w.props.length-i) 0 ⟨by simp,by simp⟩ rfl ?_
 rintro k ⟨hk,hkall⟩
 by_cases hkl:k<w.props.length
 ·have hxp:w.props[k]?=some w.props[k]:=List.getElem?_eq_getElem hkl
  have hsn:w.props.take (k+1)=w.props.take k++[w.props[k]]:=List.take_succ_eq_append_getElem hkl
  have hpm:w.props[k]∈w.props:=List.getElem_mem hkl
  have hone:=ke h3 _ hpm
  have hno:bW w.views.length (ef w.bad w.views w.props[k])=false→V.bool false=V.bool (jz w.bad w.props w.views)∧([]:VH)=[]:=fun h=>⟨by
   have:jz w.bad w.props w.views=false:=by
    rw[Bool.eq_false_iff]
    intro h2
    rw[List.all_eq_true.1 h2 _ hpm] at h
    cases h
   rw[this],rfl⟩
  generalize w.props[k]=p at *
  simp only[oneP,Bool.and_eq_true] at hone
  have hrd:=rH hone.1
  (repeat' first|refine st ?_|refine sa fun xe hxe=>?_|refine sb (fun hq=>?_) fun hq=>?_|exact True.intro)
  refine ak hK [] [1,6,7,8] (fun m:Nat=>⟨[(1,.ptr 4 0),(6,.int .i64 k),(7,.ptr 5 0),(8,.int .i64 m)],[(4,.var 26 (bD w).cells),(5,.var 59 (bU p.v).cells)],6⟩)
   (fun m=>m≤w.views.length∧∀j,j<m→ef w.bad w.views p j=true) (fun m=>w.views.length-m) 0 ⟨by simp,by simp⟩ rfl ?_
  rintro m ⟨hm,hmall⟩
  by_cases hml:m<w.views.length
  ·have hxv:w.views[m]?=some (w.views.getD m []):=by rw[List.getD_eq_getElem?_getD,List.getElem?_eq_getElem hml];rfl
   have hyes:=a5 hmall (p:=ef w.bad w.views p) (i:=m)
   have hno2:ef w.bad w.views p m=false→V.bool false=V.bool (jz w.bad w.props w.views)∧([]:VH)=[]:=fun h=>hno (bC hml h)
   have hA:ef w.bad w.views p m=(!((m:Int) !=w.bad && ((m:Int)==p.v.author||p.members.contains (m:Int)))||parOK (w.views.getD m []) p.v):=rfl
   generalize w.views.getD m []=g at *
   have hH:=x9 p.members m
   have hG:=dK g p.v hrd
   by_cases c1:(m:Int)=w.bad
   ·(repeat' first|refine st ?_|refine sa fun xe hxe=>?_|refine sb (fun hq=>?_) fun hq=>?_|exact True.intro|refine cr (hH) ?_|refine cr (hG) ?_)
    exact⟨m+1,⟨by omega,hyes (by simp[hA,c1])⟩,by omega,rfl⟩
   cases c2:(m:Int)==p.v.author||p.members.contains (m:Int)
   ·rw[Bool.or_eq_false_iff] at c2
    have c3:¬(m:Int)=p.v.author:=by simpa using c2.1
    rw[c2.2] at hH
    (repeat' first|refine st ?_|refine sa fun xe hxe=>?_|refine sb (fun hq=>?_) fun hq=>?_|exact True.intro|refine cr (hH) ?_|refine cr (hG) ?_)
    exact⟨m+1,⟨by omega,hyes (by rw[hA,c2.1,c2.2];simp)⟩,by omega,rfl⟩
   ·cases c4:parOK g p.v
    ·rw[c4] at hG
     have hn:=hno2 (by rw[hA,c2,c4];simpa using c1)
     by_cases c3:(m:Int)=p.v.author
     ·(repeat' first|refine st ?_|refine sa fun xe hxe=>?_|refine sb (fun hq=>?_) fun hq=>?_|exact True.intro|refine cr (hH) ?_|refine cr (hG) ?_)
      exact hn
     ·have c5:p.members.contains (m:Int)=true:=by simpa[c3] using c2
      rw[c5] at hH
      (repeat' first|refine st ?_|refine sa fun xe hxe=>?_|refine sb (fun hq=>?_) fun hq=>?_|exact True.intro|refine cr (hH) ?_|refine cr (hG) ?_)
      exact hn
    ·rw[c4] at hG
     have hn:=hyes (by rw[hA,c4,Bool.or_true])
     by_cases c3:(m:Int)=p.v.author
     ·(repeat' first|refine st ?_|refine sa fun xe hxe=>?_|refine sb (fun hq=>?_) fun hq=>?_|exact True.intro|refine cr (hH) ?_|refine cr (hG) ?_)
      exact⟨m+1,⟨by omega,hn⟩,by omega,rfl⟩
     ·have c5:p.members.contains (m:Int)=true:=by simpa[c3] using c2
      rw[c5] at hH
      (repeat' first|refine st ?_|refine sa fun xe hxe=>?_|refine sb (fun hq=>?_) fun hq=>?_|exact True.intro|refine cr (hH) ?_|refine cr (hG) ?_)
      exact⟨m+1,⟨by omega,hn⟩,by omega,rfl⟩
  ·(repeat' first|refine st ?_|refine sa fun xe hxe=>?_|refine sb (fun hq=>?_) fun hq=>?_|exact True.intro)
   exact⟨k+1,⟨by omega,by rw[hsn];exact a6 hkall (br fun j hj=>hmall j (by omega))⟩,by omega,rfl⟩
 ·(repeat' first|refine st ?_|refine sa fun xe hxe=>?_|refine sb (fun hq=>?_) fun hq=>?_|exact True.intro)
  rw[List.take_of_length_le (by omega)] at hkall
  have:jz w.bad w.props w.views=true:=List.all_eq_true.2 hkall
  rw[this]
  exact⟨rfl,rfl⟩

end Go.Proofs.Ytgfcmhjebbncpaa.Am
