/- Runs: new runs, and the specification's checks. What is drawn: the reader of bytes. What is drawn for graphs. New runs: what the program gives; equal runs; the law FnWorldNew. Runs: what events do, and what they keep: plain laws. Runs: more plain laws: bounds, what is put into lists in order, quiet rounds. The plain machine: a row into which an element is put, by the shelf's contract of slices.Insert. Runs: a member is searched and put among the voters (by the shelf's contracts of slices.BinarySearch and slices.Insert). Runs while events are applied: what is asked of a run, what is added. Runs -/
import Derived.Shelf.Spec.SlicesInsertGrow
import Derived.Shelf.Slices.SearchI
import Derived.Shelf.Slices.Empties
import Derived.Test.YthmfppknagbkeaaGreatPL8
set_option linter.unusedSimpArgs false
set_option linter.unusedVariables false
set_option maxHeartbeats 1000000
namespace Go.Proofs.YthmfppknagbkeaaGreat.Am
open Go
attribute [local irreducible] Mk bS Ari eQ pS kR cw eG jf jg At ai
set_option maxRecDepth 10000
abbrev vJ:V:=.agg [.nils,.nils,.int .i64 0,.nils,.nils]
theorem EV (c l:List Int)(b:Int)(hl:c.length≤2000000):ai Tryz.prog 58 [.lst (.int .i64) c,.lst (.int .i64) l,.int .i64 b] [] (if ji c l b then .tup [aP (Gx c l b),.bool true] else .tup [vJ,.bool false]) []:=by
 have hL:=Eo c l
 refine aa ak Tryz.func58 rfl rfl true 0 4 rfl rfl rfl rfl fun K hK hb1 hb2=>?_;simp only[ae,enc,Nat.reduceAdd]
 simp[af,V.toD,bnd,ab,D.cells] at hb1
 cases h1:comV c && leaS c l
 ·rw[h1] at hL
  have hn:ji c l b=false:=by
   rw[Bool.and_eq_false_iff] at h1
   rcases h1 with h1|h1<;>simp[ji,h1]
  rw[hn]
  (repeat' first|refine st ?_|refine sa fun xe hxe=>?_|refine sb (fun hq=>?_) fun hq=>?_|refine cr (hL) ?_|exact True.intro)
  exact⟨rfl,rfl⟩
 rw[h1] at hL
 have hc:comV c=true:=(Bool.and_eq_true_iff.1 h1).1
 have hle:leaS c l=true:=(Bool.and_eq_true_iff.1 h1).2
 have hns:ji c l b=badS c b:=by simp[ji,hc,hle]
 rw[hns]
 have h7:=(aw.1 hc).2
 have hll:=(fX.1 hle).2
 have hI:=lp b (-1) ((c.length:Int)-1)
 cases h2:gU b (-1) ((c.length:Int)-1)
 ·rw[h2] at hI
  have hb:badS c b=false:=by simp[badS,h2]
  rw[hb]
  (repeat' first|refine st ?_|refine sa fun xe hxe=>?_|refine sb (fun hq=>?_) fun hq=>?_|refine cr (hL) ?_|refine cr (hI) ?_|exact True.intro)
  exact⟨rfl,rfl⟩
 rw[h2] at hI
 have hbr:=aD.1 h2
 have hT:=Dp c hc
 have hfd:=zd hc
 have htb:=lL hc
 have hfau:(oH c-1).tdiv 3=wg c:=rfl
 have hst:∀i:Nat,(⟨[(0,.lst (.int .i64) c),(6,.ptr 4 0),(8,.ptr 5 0),(9,.int .i64 ((i:Int)+1))],[(4,.var 31 [.nils,.nils,.int .i64 0,.nils,.nils]),(5,.var 31 [.ref 6,.ref 7,.int .i64 b,.ref 8,.ref 9]),(6,.row 3 (.int .i64) c),(7,.row 3 (.int .i64) l),(8,.row 102 (.lst .vtx) (List.replicate i []++[[]])),(9,.row 104 .ppl [])],10⟩:VSt)=
   ⟨[(0,.lst (.int .i64) c),(6,.ptr 4 0),(8,.ptr 5 0),(9,.int .i64 ((i+1:Nat):Int))],[(4,.var 31 [.nils,.nils,.int .i64 0,.nils,.nils]),(5,.var 31 [.ref 6,.ref 7,.int .i64 b,.ref 8,.ref 9]),(6,.row 3 (.int .i64) c),(7,.row 3 (.int .i64) l),(8,.row 102 (.lst .vtx) (List.replicate (i+1) [])),(9,.row 104 .ppl [])],10⟩:=fun i=>by
  rw[List.replicate_succ']
  rfl
 have hfin:∀x:Int,wg c<x→(oH c-1).tdiv 3<x:=fun x h=>h
 have hfin2:∀x:Int,x≤wg c→¬(oH c-1).tdiv 3<x:=fun x h=>by rw[hfau];omega
 by_cases h3:b<0
 ·have hb:badS c b=true:=by simp[badS,h2,h3]
  rw[hb]
  (repeat' first|refine st ?_|refine sa fun xe hxe=>?_|refine sb (fun hq=>?_) fun hq=>?_|refine cr (hL) ?_|refine cr (hI) ?_|refine cr (hT) ?_|exact True.intro)
  refine ag hK [] [0,6,8,9] (fun i:Nat=>⟨[(0,.lst (.int .i64) c),(6,.ptr 4 0),(8,.ptr 5 0),(9,.int .i64 (i:Int))],[(4,.var 31 [.nils,.nils,.int .i64 0,.nils,.nils]),(5,.var 31 [.ref 6,.ref 7,.int .i64 b,.ref 8,.ref 9]),(6,.row 3 (.int .i64) c),(7,.row 3 (.int .i64) l),(8,.row 102 (.lst .vtx) (List.replicate i [])),(9,.row 104 .ppl [])],10⟩) (fun i=>i≤c.length) (fun i=>c.length-i) 0 (by simp) rfl ?_
  intro i hi
  have hrl:(List.replicate i ([]:List Vtx)).length=i:=by simp
  have hst:=hst i
  generalize hrs:List.replicate i ([]:List Vtx)=rs at *
  by_cases hlt:i<c.length
  ·(repeat' first|refine st ?_|refine sa fun xe hxe=>?_|refine sb (fun hq=>?_) fun hq=>?_|exact True.intro)
   refine⟨i+1,by omega,by omega,?_⟩
   rw[←hst]
   try rfl
  ·obtain rfl:i=c.length:=by omega
   (repeat' first|refine st ?_|refine sa fun xe hxe=>?_|refine sb (fun hq=>?_) fun hq=>?_|exact True.intro)
   rw[←hrs]
   exact⟨rfl,rfl⟩
 ·have hxe:c[b.toNat]?=some (c.getD b.toNat 0):=by rw[List.getD_eq_getElem?_getD,List.getElem?_eq_getElem (show b.toNat<c.length by omega)];rfl
  have hb:badS c b=decide (c.getD b.toNat 0≤wg c):=by simp[badS,h2,h3]
  rw[hb]
  generalize c.getD b.toNat 0=x at *
  by_cases hxf:x≤wg c
  ·rw[decide_eq_true hxf]
   have hxf:=hfin2 x hxf
   (repeat' first|refine st ?_|refine sa fun xe hxe=>?_|refine sb (fun hq=>?_) fun hq=>?_|refine cr (hL) ?_|refine cr (hI) ?_|refine cr (hT) ?_|exact True.intro)
   refine ag hK [] [0,6,8,9] (fun i:Nat=>⟨[(0,.lst (.int .i64) c),(6,.ptr 4 0),(8,.ptr 5 0),(9,.int .i64 (i:Int))],[(4,.var 31 [.nils,.nils,.int .i64 0,.nils,.nils]),(5,.var 31 [.ref 6,.ref 7,.int .i64 b,.ref 8,.ref 9]),(6,.row 3 (.int .i64) c),(7,.row 3 (.int .i64) l),(8,.row 102 (.lst .vtx) (List.replicate i [])),(9,.row 104 .ppl [])],10⟩) (fun i=>i≤c.length) (fun i=>c.length-i) 0 (by simp) rfl ?_
   intro i hi
   have hrl:(List.replicate i ([]:List Vtx)).length=i:=by simp
   have hst:=hst i
   generalize hrs:List.replicate i ([]:List Vtx)=rs at *
   by_cases hlt:i<c.length
   ·(repeat' first|refine st ?_|refine sa fun xe hxe=>?_|refine sb (fun hq=>?_) fun hq=>?_|exact True.intro)
    refine⟨i+1,by omega,by omega,?_⟩
    rw[←hst]
    try rfl
   ·obtain rfl:i=c.length:=by omega
    (repeat' first|refine st ?_|refine sa fun xe hxe=>?_|refine sb (fun hq=>?_) fun hq=>?_|exact True.intro)
    rw[←hrs]
    exact⟨rfl,rfl⟩
  ·rw[decide_eq_false hxf]
   have hxf:=hfin x (by omega)
   (repeat' first|refine st ?_|refine sa fun xe hxe=>?_|refine sb (fun hq=>?_) fun hq=>?_|refine cr (hL) ?_|refine cr (hI) ?_|refine cr (hT) ?_|exact True.intro)
   exact⟨rfl,rfl⟩
set_option maxHeartbeats 1000000 in
theorem Dn (w:Wrl)(hcl:w.com.length≤2000000):ai Tryz.prog 28 [aP w] [] (.bool (fH w)) []:=by
 have hN:=EV w.com w.lead w.bad hcl
 refine aa ak Tryz.func28 rfl rfl false 0 4 rfl rfl rfl rfl fun K hK hb1 hb2=>?_;simp only[ae,enc,Nat.reduceAdd]
 simp[af,V.toD,bnd,ab,D.cells] at hb1
 cases h1:ji w.com w.lead w.bad
 ·rw[h1] at hN
  simp only[Bool.false_eq_true,if_false] at hN
  (repeat' first|refine st ?_|refine sa fun xe hxe=>?_|refine sb (fun hq=>?_) fun hq=>?_|refine cr (hN) ?_|exact True.intro)
  exact⟨by simp[fH,h1],rfl⟩
 rw[h1] at hN
 simp only[if_true] at hN
 have hc:comV w.com=true:=by
  simp only[ji,Bool.and_eq_true] at h1
  exact h1.1
 have h7:=(aw.1 hc).2
 by_cases h2:w.views.length=w.com.length
 rotate_left
 ·have hf:fH w=false:=by
   have:(w.views.length==w.com.length)=false:=by simpa using h2
   simp[fH,this]
  rw[hf]
  (repeat' first|refine st ?_|refine sa fun xe hxe=>?_|refine sb (fun hq=>?_) fun hq=>?_|refine cr (hN) ?_|exact True.intro)
  exact⟨rfl,rfl⟩
 have hP:=EW w hc
 cases h3:eD w.com w.bad w.props
 ·rw[h3] at hP
  have hf:fH w=false:=by simp[fH,h3]
  rw[hf]
  (repeat' first|refine st ?_|refine sa fun xe hxe=>?_|refine sb (fun hq=>?_) fun hq=>?_|refine cr (hN) ?_|refine cr (hP) ?_|exact True.intro)
  exact⟨rfl,rfl⟩
 rw[h3] at hP
 have hpl:=i4 h3
 have he:fH w=(ew w.com w.bad w.props w.views && lr w.bad w.props w.views):=by simp[fH,h1,h2,h3]
 rw[he]
 (repeat' first|refine st ?_|refine sa fun xe hxe=>?_|refine sb (fun hq=>?_) fun hq=>?_|refine cr (hN) ?_|refine cr (hP) ?_|exact True.intro)
 refine ag hK [] [1,5] (fun i:Nat=>⟨[(1,.ptr 4 0),(5,.int .i64 i)],[(4,.var 31 (aP w).cells)],5⟩)
  (fun i=>i≤w.views.length∧∀j,j<i→(lO w.com w.props (w.views.getD j []) && (!((j:Int)==w.bad)||(w.views.getD j []).isEmpty))=true) (fun i=>w.views.length-i) 0 ⟨by simp,by simp⟩ rfl ?_
 rintro i ⟨hi,hall⟩
 by_cases hlt:i<w.views.length
 ·have hxe:w.views[i]?=some (w.views.getD i []):=by rw[List.getD_eq_getElem?_getD,List.getElem?_eq_getElem hlt];rfl
  have hno:(lO w.com w.props (w.views.getD i []) && (!((i:Int)==w.bad)||(w.views.getD i []).isEmpty))=false→V.bool false=V.bool (ew w.com w.bad w.props w.views && lr w.bad w.props w.views)∧([]:VH)=[]:=fun h=>⟨by unfold ew;rw[bZ hlt h,Bool.false_and],rfl⟩
  have hyes:=bk hall (p:=fun j=>lO w.com w.props (w.views.getD j []) && (!((j:Int)==w.bad)||(w.views.getD j []).isEmpty)) (i:=i)
  generalize w.views.getD i []=g at *
  have hV:=CQ w g hc h3
  cases h4:lO w.com w.props g
  ·rw[h4] at hV
   (repeat' first|refine st ?_|refine sa fun xe hxe=>?_|refine sb (fun hq=>?_) fun hq=>?_|refine cr (hV) ?_|exact True.intro)
   exact hno (by rw[h4,Bool.false_and])
  rw[h4] at hV
  have hem:g.isEmpty=decide ((g.length:Int)=0):=by cases g<;>simp;omega
  by_cases h5:(i:Int)=w.bad
  ·have hb1:((i:Int)==w.bad)=true:=by simpa using h5
   by_cases h6:0<(g.length:Int)
   ·(repeat' first|refine st ?_|refine sa fun xe hxe=>?_|refine sb (fun hq=>?_) fun hq=>?_|refine cr (hV) ?_|exact True.intro)
    exact hno (by rw[hb1,hem,decide_eq_false (by omega)];simp)
   ·(repeat' first|refine st ?_|refine sa fun xe hxe=>?_|refine sb (fun hq=>?_) fun hq=>?_|refine cr (hV) ?_|exact True.intro)
    exact⟨i+1,⟨by omega,hyes (by rw[h4,hb1,hem,decide_eq_true (by omega)];simp)⟩,by omega,rfl⟩
  ·have hb1:((i:Int)==w.bad)=false:=by simpa using h5
   (repeat' first|refine st ?_|refine sa fun xe hxe=>?_|refine sb (fun hq=>?_) fun hq=>?_|refine cr (hV) ?_|exact True.intro)
   exact⟨i+1,⟨by omega,hyes (by rw[h4,hb1];rfl)⟩,by omega,rfl⟩
 have hvs:ew w.com w.bad w.props w.views=true:=by
  unfold ew
  exact bL (fun j hj=>hall j (by omega))
 rw[hvs,Bool.true_and]
 (repeat' first|refine st ?_|refine sa fun xe hxe=>?_|refine sb (fun hq=>?_) fun hq=>?_|exact True.intro)
 refine ag hK [] [1,6] (fun i:Nat=>⟨[(1,.ptr 4 0),(6,.int .i64 i)],[(4,.var 31 (aP w).cells)],5⟩)
  (fun i=>i≤w.props.length∧∀p∈w.props.take i,cR w.views.length (fC w.bad w.views p)=true) (fun i=>w.props.length-i) 0 ⟨by simp,by simp⟩ rfl ?_
 rintro k ⟨hk,hkall⟩
 by_cases hkl:k<w.props.length
 ·have hxp:w.props[k]?=some w.props[k]:=List.getElem?_eq_getElem hkl
  have hsn:w.props.take (k+1)=w.props.take k++[w.props[k]]:=List.take_succ_eq_append_getElem hkl
  have hpm:w.props[k]∈w.props:=List.getElem_mem hkl
  have hone:=mT h3 _ hpm
  have hno:cR w.views.length (fC w.bad w.views w.props[k])=false→V.bool false=V.bool (lr w.bad w.props w.views)∧([]:VH)=[]:=fun h=>⟨by
   have:lr w.bad w.props w.views=false:=by
    rw[Bool.eq_false_iff]
    intro h2
    rw[List.all_eq_true.1 h2 _ hpm] at h
    cases h
   rw[this],rfl⟩
  generalize w.props[k]=p at *
  simp only[oneP,Bool.and_eq_true] at hone
  have hrd:=m8 hone.1
  (repeat' first|refine st ?_|refine sa fun xe hxe=>?_|refine sb (fun hq=>?_) fun hq=>?_|exact True.intro)
  refine ag hK [] [1,6,7,8] (fun m:Nat=>⟨[(1,.ptr 4 0),(6,.int .i64 k),(7,.ptr 5 0),(8,.int .i64 m)],[(4,.var 31 (aP w).cells),(5,.var 43 (bu p.v).cells)],6⟩)
   (fun m=>m≤w.views.length∧∀j,j<m→fC w.bad w.views p j=true) (fun m=>w.views.length-m) 0 ⟨by simp,by simp⟩ rfl ?_
  rintro m ⟨hm,hmall⟩
  by_cases hml:m<w.views.length
  ·have hxv:w.views[m]?=some (w.views.getD m []):=by rw[List.getD_eq_getElem?_getD,List.getElem?_eq_getElem hml];rfl
   have hyes:=bk hmall (p:=fC w.bad w.views p) (i:=m)
   have hno2:fC w.bad w.views p m=false→V.bool false=V.bool (lr w.bad w.props w.views)∧([]:VH)=[]:=fun h=>hno (bZ hml h)
   have hA:fC w.bad w.views p m=(!((m:Int) !=w.bad && ((m:Int)==p.v.author||p.members.contains (m:Int)))||parOK (w.views.getD m []) p.v):=rfl
   generalize w.views.getD m []=g at *
   have hH:=zH p.members m
   have hG:=cN g p.v hrd
   by_cases c1:(m:Int)=w.bad
   ·(repeat' first|refine st ?_|refine sa fun xe hxe=>?_|refine sb (fun hq=>?_) fun hq=>?_|refine cr (hH) ?_|refine cr (hG) ?_|exact True.intro)
    exact⟨m+1,⟨by omega,hyes (by simp[hA,c1])⟩,by omega,rfl⟩
   cases c2:(m:Int)==p.v.author||p.members.contains (m:Int)
   ·rw[Bool.or_eq_false_iff] at c2
    have c3:¬(m:Int)=p.v.author:=by simpa using c2.1
    rw[c2.2] at hH
    (repeat' first|refine st ?_|refine sa fun xe hxe=>?_|refine sb (fun hq=>?_) fun hq=>?_|refine cr (hH) ?_|refine cr (hG) ?_|exact True.intro)
    exact⟨m+1,⟨by omega,hyes (by rw[hA,c2.1,c2.2];simp)⟩,by omega,rfl⟩
   ·cases c4:parOK g p.v
    ·rw[c4] at hG
     have hn:=hno2 (by rw[hA,c2,c4];simpa using c1)
     by_cases c3:(m:Int)=p.v.author
     ·(repeat' first|refine st ?_|refine sa fun xe hxe=>?_|refine sb (fun hq=>?_) fun hq=>?_|refine cr (hH) ?_|refine cr (hG) ?_|exact True.intro)
      exact hn
     ·have c5:p.members.contains (m:Int)=true:=by simpa[c3] using c2
      rw[c5] at hH
      (repeat' first|refine st ?_|refine sa fun xe hxe=>?_|refine sb (fun hq=>?_) fun hq=>?_|refine cr (hH) ?_|refine cr (hG) ?_|exact True.intro)
      exact hn
    ·rw[c4] at hG
     have hn:=hyes (by rw[hA,c4,Bool.or_true])
     by_cases c3:(m:Int)=p.v.author
     ·(repeat' first|refine st ?_|refine sa fun xe hxe=>?_|refine sb (fun hq=>?_) fun hq=>?_|refine cr (hH) ?_|refine cr (hG) ?_|exact True.intro)
      exact⟨m+1,⟨by omega,hn⟩,by omega,rfl⟩
     ·have c5:p.members.contains (m:Int)=true:=by simpa[c3] using c2
      rw[c5] at hH
      (repeat' first|refine st ?_|refine sa fun xe hxe=>?_|refine sb (fun hq=>?_) fun hq=>?_|refine cr (hH) ?_|refine cr (hG) ?_|exact True.intro)
      exact⟨m+1,⟨by omega,hn⟩,by omega,rfl⟩
  ·(repeat' first|refine st ?_|refine sa fun xe hxe=>?_|refine sb (fun hq=>?_) fun hq=>?_|exact True.intro)
   exact⟨k+1,⟨by omega,by rw[hsn];exact aS hkall (bL fun j hj=>hmall j (by omega))⟩,by omega,rfl⟩
 ·(repeat' first|refine st ?_|refine sa fun xe hxe=>?_|refine sb (fun hq=>?_) fun hq=>?_|exact True.intro)
  rw[List.take_of_length_le (by omega)] at hkall
  have:lr w.bad w.props w.views=true:=List.all_eq_true.2 hkall
  rw[this]
  exact⟨rfl,rfl⟩
theorem tL {g:List Vtx}{v:Vtx}(h:some v∈az g):v∈g:=by
 induction g using cJ with
 |h0=>
  have:=List.eq_of_mem_replicate h
  cases this
 |h l x ih=>
  rw[eO] at h
  rcases List.mem_or_eq_of_mem_set h with h|h
  ·exact List.mem_append.2 (.inl (ih h))
  ·obtain rfl:=Option.some.inj h
   simp
theorem pP {w:Wrl}(h:eJ w=true):(w.views.map az).map aT=w.views:=by
 rw[List.map_map]
 conv=>rhs;rw[←List.map_id w.views]
 refine List.map_congr_left fun g hg=>?_
 have hok:=j8 (wR h g hg)
 exact CX (fun v hv=>(kw h g hg v hv).1) hok.pw
end Go.Proofs.YthmfppknagbkeaaGreat.Am
namespace Go.Proofs.YthmfppknagbkeaaGreat.Am
open Go
structure WOK (w:Wrl):Prop where
 com:comV w.com=true
 lead:leaS w.com w.lead=true
 bad:badS w.com w.bad=true
 one:∀p∈w.props,oneP w.com p=true
 fit:w.props.Pairwise fun q p=>fitP w.bad p q=true
 plen:w.props.length≤220
 vlen:w.views.length=w.com.length
 gra:∀g∈w.views,graS w.com g=true
 knw:∀g∈w.views,∀v∈g,∃p∈w.props,don w.com p=true∧p.v=v
 bv:∀i:Nat,i<w.views.length→(i:Int)=w.bad→w.views.getD i []=[]
 kp:∀p∈w.props,∀m:Nat,m<w.views.length→(m:Int)≠w.bad→((m:Int)=p.v.author∨(m:Int)∈p.members)→parOK (w.views.getD m []) p.v=true
theorem wB {c:List Int}{ps:List Ppl}{v:Vtx}:knw c ps v=true↔∃p∈ps,don c p=true∧p.v=v:=by
 simp only[knw,List.any_eq_true,Bool.and_eq_true,kL]
theorem sH {b:Int}{ps:List Ppl}{gs:List (List Vtx)}:lr b ps gs=true↔∀p∈ps,∀m:Nat,m<gs.length→(m:Int)≠b→((m:Int)=p.v.author∨(m:Int)∈p.members)→parOK (gs.getD m []) p.v=true:=by
 simp only[lr,List.all_eq_true,aN,fC,Bool.or_eq_true,Bool.not_eq_true',Bool.and_eq_false_iff,bne_eq_false_iff_eq,Bool.or_eq_false_iff,beq_eq_false_iff_ne]
 constructor
 ·intro h p hp m hm hb hv
  rcases h p hp m hm with(h1|h1)|h1
  ·exact absurd h1 hb
  ·rcases hv with hv|hv
   ·exact absurd hv h1.1
   ·have:=h1.2
    rw[List.contains_iff_mem.2 hv] at this
    cases this
  ·exact h1
 ·intro h p hp m hm
  by_cases hb:(m:Int)=b
  ·exact .inl (.inl hb)
  by_cases hv:(m:Int)=p.v.author∨(m:Int)∈p.members
  ·exact .inr (h p hp m hm hb hv)
  ·refine .inl (.inr ⟨fun h=>hv (.inl h),?_⟩)
   rw[Bool.eq_false_iff]
   exact fun h=>hv (.inr (List.contains_iff_mem.1 h))
theorem tu {c:List Int}{b:Int}{ps:List Ppl}:eD c b ps=true↔(∀p∈ps,oneP c p=true)∧(ps.Pairwise fun q p=>fitP b p q=true)∧ps.length≤220:=by
 constructor
 ·intro h
  refine⟨mT h,?_,i4 h⟩
  simp only[eD,Bool.and_eq_true,aN] at h
  rw[List.pairwise_iff_getElem]
  intro i j hi hj hij
  have:=h.1 j hj
  simp only[dN,Bool.and_eq_true,aN] at this
  have:=this.2 i hij
  simpa[List.getD_eq_getElem?_getD,List.getElem?_eq_getElem hi,List.getElem?_eq_getElem hj] using this
 ·rintro⟨h1,h2,h3⟩
  simp only[eD,Bool.and_eq_true,aN,decide_eq_true_eq]
  refine⟨fun j hj=>?_,by omega⟩
  simp only[dN,Bool.and_eq_true,aN]
  refine⟨h1 _ (dx hj),fun i hi=>?_⟩
  have:=List.pairwise_iff_getElem.1 h2 i j (by omega) hj hi
  simpa[List.getD_eq_getElem?_getD,List.getElem?_eq_getElem hj,List.getElem?_eq_getElem (show i<ps.length by omega)] using this
theorem tT {c:List Int}{b:Int}{ps:List Ppl}{gs:List (List Vtx)}:ew c b ps gs=true↔(∀g∈gs,graS c g=true)∧(∀g∈gs,∀v∈g,knw c ps v=true)∧∀i:Nat,i<gs.length→(i:Int)=b→gs.getD i []=[]:=by
 simp only[ew,aN,lO,Bool.and_eq_true,List.all_eq_true,Bool.or_eq_true,Bool.not_eq_true',beq_eq_false_iff_ne,List.isEmpty_iff]
 constructor
 ·intro h
  refine⟨fun g hg=>?_,fun g hg=>?_,fun i hi hb=>?_⟩
  ·obtain⟨j,hj,rfl⟩:=cf (d:=[]) hg
   exact(h j hj).1.2
  ·obtain⟨j,hj,rfl⟩:=cf (d:=[]) hg
   exact(h j hj).1.1
  ·rcases (h i hi).2 with h1|h1
   ·exact absurd hb h1
   ·exact h1
 ·rintro⟨h1,h2,h3⟩ i hi
  have hm:gs.getD i []∈gs:=dx hi
  refine⟨⟨h2 _ hm,h1 _ hm⟩,?_⟩
  by_cases hb:(i:Int)=b
  ·exact .inr (h3 i hi hb)
  ·exact .inl hb
theorem je {w:Wrl}:fH w=true↔WOK w:=by
 rw[kP,Bool.and_eq_true]
 constructor
 ·rintro⟨h1,h2⟩
  obtain⟨p1,p2,p3,p4,p5,p6⟩:=jM h1
  obtain⟨q1,q2,q3⟩:=tu.1 p4
  obtain⟨r1,r2,r3⟩:=tT.1 p6
  exact⟨p1,p2,p3,q1,q2,q3,p5,r1,fun g hg v hv=>wB.1 (r2 g hg v hv),r3,sH.1 h2⟩
 ·intro h
  refine⟨?_,sH.2 h.kp⟩
  have h1:=tu.2 ⟨h.one,h.fit,h.plen⟩
  have h2:=tT.2 ⟨h.gra,fun g hg v hv=>wB.2 (h.knw g hg v hv),h.bv⟩
  simp[eJ,ji,h.com,h.lead,h.bad,h1,h2,h.vlen]
def good (w:Wrl)(m:Int):Bool:=bK w.com m && m !=w.bad
def view (w:Wrl)(m:Int):List Vtx:=w.views.getD m.toNat []
def gX (ps:List Ppl)(m:Int):Int:=ps.foldl (fun n p=>if p.v.author=m then max n (p.v.round+1) else n) 0
def oL (w:Wrl)(v:Vtx):Wrl:={w with props:=w.props++[⟨v,[]⟩]}
def eo (w:Wrl)(m d:Int):Vtx:=⟨dJ w.com (view w m)+1,m,if 0<dJ w.com (view w m)+1 then dd (view w m) (dJ w.com (view w m)) else[],d⟩
def fh (w:Wrl)(m d:Int):Bool:=good w m && (gU d 0 990 && (decide (w.props.length<220) && (decide (gX w.props m≤(eo w m d).round) && vtxS w.com (eo w m d))))
def kD (w:Wrl)(m d:Int):Wrl:=if fh w m d then oL w (eo w m d) else w
def dz:List Int→Int→List Int
 |[],n=>[n]
 |x::l,n=>if x<n then x::dz l n else if x=n then x::l else n::x::l
def prop (w:Wrl)(i:Int):Ppl:=w.props.getD i.toNat p0
def jl (w:Wrl)(i m:Int):Wrl:={w with props:=w.props.set i.toNat ⟨(prop w i).v,dz (prop w i).members m⟩}
def mH (w:Wrl)(i:Int):Bool:=gU i 0 (w.props.length-1)
def By (w:Wrl)(m i:Int):Bool:=(List.range w.props.length).any fun j=>(j:Int) !=i && (slt (w.props.getD j p0).v (prop w i).v && (w.props.getD j p0).members.contains m)
def fj (w:Wrl)(m i:Int):Bool:=good w m && (mH w i && (!By w m i && parOK (view w m) (prop w i).v))
def iF (w:Wrl)(m i:Int):Wrl:=if fj w m i then jl w i m else w
def eV:List Vtx→Vtx→List Vtx
 |[],v=>[v]
 |x::g,v=>if bef x v then x::eV g v else v::x::g
def eI (w:Wrl)(m i:Int):Bool:=good w m && (mH w i && (don w.com (prop w i) && (!cq (view w m) (prop w i).v.round (prop w i).v.author && parOK (view w m) (prop w i).v)))
def hJ (w:Wrl)(m i:Int):Wrl:=if eI w m i then {w with views:=w.views.set m.toNat (eV (view w m) (prop w i).v)} else w
def fg (w:Wrl)(v:Vtx):Bool:=decide (0≤w.bad) && (v.author==w.bad && (vtxS w.com v && (decide (w.props.length<220) && !w.props.any fun p=>gm p.v v)))
def ml (w:Wrl)(v:Vtx):Wrl:=if fg w v then oL w v else w
def ig (w:Wrl)(i:Int):Bool:=decide (0≤w.bad) && mH w i
def iE (w:Wrl)(i:Int):Wrl:=if ig w i then jl w i w.bad else w
def js (w:Wrl)(e:Evt):Wrl:=
 if e.kind=1 then kD w e.a e.b else if e.kind=2 then iF w e.a e.b else if e.kind=3 then hJ w e.a e.b else if e.kind=4 then ml w e.v else if e.kind=5 then iE w e.b else w
theorem mQ (ps:List Ppl)(p:Ppl)(m:Int):gX (ps++[p]) m=if p.v.author=m then max (gX ps m) (p.v.round+1) else gX ps m:=by simp only[gX,List.foldl_append,List.foldl_cons,List.foldl_nil]
theorem Ao {ps:List Ppl}{m:Int}:∀p∈ps,p.v.author=m→p.v.round+1≤gX ps m:=by
 induction ps using cJ with
 |h0=>intro p hp;cases hp
 |h l x ih=>
  intro p hp ha
  rw[mQ]
  rcases List.mem_append.1 hp with h|h
  ·have:=ih p h ha
   split<;>omega
  ·obtain rfl:=List.mem_singleton.1 h
   rw[if_pos ha]
   omega
theorem Af (c:List Int):cj c []=true:=rfl
theorem Bq {ps:List Ppl}{b:Int}{p:Ppl}(h:ps.Pairwise fun q p=>fitP b p q=true)(hn:∀q∈ps,fitP b p q=true):(ps++[p]).Pairwise fun q p=>fitP b p q=true:=
 List.pairwise_append.2 ⟨h,by simp,fun q hq p' hp'=>by obtain rfl:=List.mem_singleton.1 hp';exact hn q hq⟩
theorem zi {b:Int}{p q:Ppl}(h:¬(p.v.round=q.v.round∧p.v.author=q.v.author)):fitP b p q=true:=by
 have:slt p.v q.v=false:=by rw[Bool.eq_false_iff];exact fun h2=>h (mX.1 h2)
 simp[fitP,this]
theorem vP {w:Wrl}(h:WOK w){v:Vtx}(h1:vtxS w.com v=true)(h2:w.props.length<220)(h3:∀q∈w.props,fitP w.bad ⟨v,[]⟩ q=true)
  (h4:∀m:Nat,m<w.views.length→(m:Int)≠w.bad→(m:Int)=v.author→parOK (w.views.getD m []) v=true):WOK (oL w v) where
 com:=h.com
 lead:=h.lead
 bad:=h.bad
 one p hp:=by
  rcases List.mem_append.1 hp with hp|hp
  ·exact h.one p hp
  ·obtain rfl:=List.mem_singleton.1 hp
   simp only[oL,oneP,h1,Af,Bool.and_self]
 fit:=Bq h.fit h3
 plen:=by simp only[oL,List.length_append,List.length_singleton];omega
 vlen:=h.vlen
 gra:=h.gra
 knw g hg u hu:=by
  obtain⟨p,hp,h5⟩:=h.knw g hg u hu
  exact⟨p,List.mem_append.2 (.inl hp),h5⟩
 bv:=h.bv
 kp p hp m hm hb hv:=by
  rcases List.mem_append.1 hp with hp|hp
  ·exact h.kp p hp m hm hb hv
  ·obtain rfl:=List.mem_singleton.1 hp
   rcases hv with hv|hv
   ·exact h4 m hm hb hv
   ·cases hv
theorem CJ {w:Wrl}(h:WOK w)(m d:Int):WOK (kD w m d):=by
 unfold kD
 split
 rotate_left
 ·exact h
 rename_i hb
 simp only[fh,Bool.and_eq_true,decide_eq_true_eq] at hb
 obtain⟨-,-,h1,h2,h3⟩:=hb
 refine vP h h3 h1 (fun q hq=>zi fun hs=>?_) fun k hk _ hka=>?_
 ·have:=Ao q hq (m:=m) hs.2.symm
  have:=hs.1
  dsimp only at this
  omega
 ·have hka:(k:Int)=m:=hka
  have hv:w.views.getD k []=view w m:=by unfold view;rw[←hka];rfl
  rw[hv,dY]
  intro p hp
  have hp:p∈if 0<dJ w.com (view w m)+1 then dd (view w m) (dJ w.com (view w m)) else[]:=hp
  split at hp
  ·have hr:(eo w m d).round-1=dJ w.com (view w m):=by simp only[eo];omega
   rw[hr]
   exact nk.1 hp
  ·cases hp
theorem CI {w:Wrl}(h:WOK w)(v:Vtx):WOK (ml w v):=by
 unfold ml
 split
 rotate_left
 ·exact h
 rename_i hb
 simp only[fg,Bool.and_eq_true,decide_eq_true_eq,beq_iff_eq,Bool.not_eq_true'] at hb
 obtain⟨h0,h1,h2,h3,h4⟩:=hb
 refine vP h h2 h3 (fun q hq=>?_) fun k _ hk hka=>absurd (hka.trans h1) hk
 have hne:gm v q.v=false:=by
  rw[Bool.eq_false_iff]
  intro he
  rw[kL] at he
  have:(w.props.any fun p=>gm p.v v)=true:=List.any_eq_true.2 ⟨q,hq,by rw[he];exact Bb _⟩
  rw[h4] at this
  cases this
 have ha:(v.author==w.bad)=true:=by simpa using h1
 simp[fitP,hne,ha,jX]
theorem io {l:List Int}{n x:Int}:x∈dz l n↔x=n∨x∈l:=by
 induction l with
 |nil=>simp[dz]
 |cons y l ih=>
  unfold dz
  split
  ·simp only[List.mem_cons,ih]
   constructor
   ·rintro(h|h|h)
    ·exact .inr (.inl h)
    ·exact .inl h
    ·exact .inr (.inr h)
   ·rintro(h|h|h)
    ·exact .inr (.inl h)
    ·exact .inl h
    ·exact .inr (.inr h)
  ·split
   ·rename_i h1 h2
    simp only[List.mem_cons,h2]
    constructor
    ·intro h;exact .inr h
    ·rintro(h|h)
     ·exact .inl h
     ·exact h
   ·simp only[List.mem_cons]
theorem zV {l:List Int}{n:Int}(h:l.Pairwise (· < ·)):(dz l n).Pairwise (· < ·):=by
 induction l with
 |nil=>simp[dz]
 |cons y l ih=>
  rw[List.pairwise_cons] at h
  unfold dz
  split
  ·rw[List.pairwise_cons]
   refine⟨fun x hx=>?_,ih h.2⟩
   rcases io.1 hx with rfl|hx
   ·assumption
   ·exact h.1 x hx
  ·split
   ·exact List.pairwise_cons.2 h
   ·rw[List.pairwise_cons,List.pairwise_cons]
    refine⟨fun x hx=>?_,h⟩
    rcases List.mem_cons.1 hx with rfl|hx
    ·omega
    ·have:=h.1 x hx
     omega
theorem xJ {c ms:List Int}{m:Int}(h:cj c ms=true)(hm:0≤m∧m<c.length):cj c (dz ms m)=true:=by
 refine wG (fun x hx=>?_) (zV (e9 h))
 rcases io.1 hx with rfl|hx
 ·exact hm
 ·exact bQ h x hx
theorem sx {c:List Int}(hc:comV c=true)(m:Int):∀ms:List Int,mo c ms≤mo c (dz ms m)
 |[]=>by
  have:0≤c.getD m.toNat 0:=by
   by_cases h:m.toNat<c.length
   ·have:=(aw.1 hc).1 _ (dx (d:=0) h);omega
   ·rw[List.getD_eq_getElem?_getD,List.getElem?_eq_none (by omega)];simp
  simpa[mo,dz] using this
 |y::ms=>by
  have ih:=sx hc m ms
  have:0≤c.getD m.toNat 0:=by
   by_cases h:m.toNat<c.length
   ·have:=(aw.1 hc).1 _ (dx (d:=0) h);omega
   ·rw[List.getD_eq_getElem?_getD,List.getElem?_eq_none (by omega)];simp
  unfold dz
  simp only[mo] at ih⊢
  split
  ·simp only[List.map_cons,List.sum_cons];omega
  ·split
   ·simp
   ·simp only[List.map_cons,List.sum_cons];omega
theorem yz {b m:Int}{a c:List Int}(h:m=b∨m∉c):jX b (dz a m) c=jX b a c:=by
 rw[Bool.eq_iff_iff,jY,jY]
 constructor
 ·rintro⟨x,h1,h2,h3⟩
  rcases io.1 h2 with rfl|h2
  ·rcases h with h|h
   ·exact absurd h h1
   ·exact absurd h3 h
  ·exact⟨x,h1,h2,h3⟩
 ·rintro⟨x,h1,h2,h3⟩
  exact⟨x,h1,io.2 (.inr h2),h3⟩
theorem EK {α:Type}{R:α→α→Prop}{l:List α}{i:Nat}{x:α}(h:l.Pairwise R)(h1:∀j y,j<i→l[j]?=some y→R y x)(h2:∀j y,i<j→l[j]?=some y→R x y):(l.set i x).Pairwise R:=by
 rw[List.pairwise_iff_getElem] at h⊢
 intro a b ha hb hab
 rw[List.length_set] at ha hb
 rw[List.getElem_set,List.getElem_set]
 split
 ·rename_i e
  rw[if_neg (by omega)]
  exact h2 b _ (by omega) (List.getElem?_eq_getElem hb)
 ·split
  ·exact h1 a _ (by omega) (List.getElem?_eq_getElem ha)
  ·exact h a b ha hb hab
theorem mem_set {α:Type}{l:List α}{i:Nat}{x y:α}(h:y∈l.set i x):y=x∨y∈l:=by
 rcases List.mem_or_eq_of_mem_set h with h|h
 ·exact .inr h
 ·exact .inl h
theorem gJ {w:Wrl}{i:Int}(hi:mH w i=true):i.toNat<w.props.length∧w.props[i.toNat]?=some (prop w i)∧prop w i∈w.props:=by
 have:=aD.1 hi
 have hl:i.toNat<w.props.length:=by omega
 refine⟨hl,?_,dx hl⟩
 unfold prop
 rw[List.getD_eq_getElem?_getD,List.getElem?_eq_getElem hl]
 rfl
theorem wX {w:Wrl}(h:WOK w){i m:Int}(hi:mH w i=true)(hm:0≤m∧m<w.com.length)
  (h1:m=w.bad∨(∀j:Nat,j<w.props.length→(j:Int)≠i→slt (w.props.getD j p0).v (prop w i).v=true→m∉(w.props.getD j p0).members))
  (h2:m=w.bad∨parOK (view w m) (prop w i).v=true):WOK (jl w i m):=by
 obtain⟨hl,hx,hp⟩:=gJ hi
 have hir:=aD.1 hi
 have hone:=h.one _ hp
 have key:∀j:Nat,∀q,j≠i.toNat→w.props[j]?=some q→fitP w.bad (prop w i) q=true→fitP w.bad ⟨(prop w i).v,dz (prop w i).members m⟩ q=true:=fun j q hj hq hf=>by
  unfold fitP at hf⊢
  dsimp only
  cases hs:slt (prop w i).v q.v
  ·simp
  ·rw[hs] at hf
   rw[yz]
   ·exact hf
   ·rcases h1 with h1|h1
    ·exact .inl h1
    ·right
     have:=h1 j (List.getElem?_eq_some_iff.1 hq).1 (by omega) (by rw[a8 hq,tF];exact hs)
     rwa [a8 hq] at this
 have hset:∀y∈w.props,∃z∈(jl w i m).props,z.v=y.v∧(don w.com y=true→don w.com z=true):=fun y hy=>by
  obtain⟨j,hj⟩:=List.getElem?_of_mem hy
  by_cases hji:j=i.toNat
  ·subst hji
   rw[hx] at hj
   obtain rfl:=Option.some.inj hj
   refine⟨_,List.mem_set hl ..,rfl,fun hd=>?_⟩
   simp only[don,decide_eq_true_eq] at hd⊢
   have:=sx h.com m (prop w i).members
   omega
  ·refine⟨y,List.mem_of_getElem? (i:=j) ?_,rfl,id⟩
   simp only[jl]
   rw[List.getElem?_set_ne (by omega)]
   exact hj
 refine⟨h.com,h.lead,h.bad,fun p hp'=>?_,EK h.fit (fun j y hj hy=>?_) (fun j y hj hy=>?_),by simp only[jl,List.length_set];exact h.plen,h.vlen,h.gra,fun g hg v hv=>?_,h.bv,fun p hp' k hk hb hv=>?_⟩
 ·rcases mem_set hp' with rfl|hp'
  ·simp only[oneP,Bool.and_eq_true] at hone⊢
   exact⟨hone.1,xJ hone.2 hm⟩
  ·exact h.one p hp'
 ·refine key j y (by omega) hy ?_
  exact qX h.fit hj hy hx
 ·rw[ld]
  refine key j y (by omega) hy ?_
  rw[ld]
  exact qX h.fit hj hx hy
 ·obtain⟨p,hp,hd,rfl⟩:=h.knw g hg v hv
  obtain⟨z,hz,hzv,hzd⟩:=hset p hp
  exact⟨z,hz,hzd hd,hzv⟩
 ·rcases mem_set hp' with rfl|hp'
  ·dsimp only at hv⊢
   by_cases hkm:(k:Int)=m
   ·rcases h2 with h2|h2
    ·exact absurd (hkm.trans h2) hb
    ·unfold view at h2
     rw[←hkm] at h2
     exact h2
   ·refine h.kp _ hp k hk hb ?_
    rcases hv with hv|hv
    ·exact .inl hv
    ·rcases io.1 hv with hv|hv
     ·exact absurd hv hkm
     ·exact .inr hv
  ·exact h.kp p hp' k hk hb hv
theorem cS {w:Wrl}{m:Int}:good w m=true↔(0≤m∧m<w.com.length)∧m≠w.bad:=by
 simp only[good,bK,Bool.and_eq_true,aD,bne_iff_ne]
 omega
theorem CK {w:Wrl}(h:WOK w)(m i:Int):WOK (iF w m i):=by
 unfold iF
 split
 rotate_left
 ·exact h
 rename_i hb
 simp only[fj,Bool.and_eq_true,Bool.not_eq_true'] at hb
 obtain⟨h1,h2,h3,h4⟩:=hb
 refine wX h h2 (cS.1 h1).1 (.inr fun j hj hji hs hm=>?_) (.inr h4)
 have:By w m i=true:=by
  refine List.any_eq_true.2 ⟨j,List.mem_range.2 hj,?_⟩
  rw[hs,List.contains_iff_mem.2 hm]
  simpa using hji
 rw[h3] at this
 cases this
theorem CG {w:Wrl}(h:WOK w)(i:Int):WOK (iE w i):=by
 unfold iE
 split
 rotate_left
 ·exact h
 rename_i hb
 simp only[ig,Bool.and_eq_true,decide_eq_true_eq] at hb
 have:=jV.1 h.bad
 exact wX h hb.2 (by omega) (.inl rfl) (.inl rfl)
theorem fW {g:List Vtx}{v x:Vtx}:x∈eV g v↔x=v∨x∈g:=by
 induction g with
 |nil=>simp[eV]
 |cons y g ih=>
  unfold eV
  split
  ·simp only[List.mem_cons,ih]
   constructor
   ·rintro(h|h|h)
    ·exact .inr (.inl h)
    ·exact .inl h
    ·exact .inr (.inr h)
   ·rintro(h|h|h)
    ·exact .inr (.inl h)
    ·exact .inl h
    ·exact .inr (.inr h)
  ·simp only[List.mem_cons]
theorem Bt {a b:Vtx}(h:¬(a.round=b.round∧a.author=b.author))(h2:bef a b=false):bef b a=true:=by
 simp only[bef,Bool.or_eq_true,Bool.and_eq_true,decide_eq_true_eq,Bool.or_eq_false_iff,Bool.and_eq_false_iff,decide_eq_false_iff_not] at *
 omega
theorem B0 {g:List Vtx}{v:Vtx}(h:g.Pairwise fun a b=>bef a b=true)(hn:cq g v.round v.author=false):(eV g v).Pairwise fun a b=>bef a b=true:=by
 induction g with
 |nil=>simp[eV]
 |cons y g ih=>
  rw[List.pairwise_cons] at h
  have hn2:iq v.round v.author y=false∧cq g v.round v.author=false:=by simpa[cq] using hn
  unfold eV
  split
  ·rw[List.pairwise_cons]
   refine⟨fun x hx=>?_,ih h.2 hn2.2⟩
   rcases fW.1 hx with rfl|hx
   ·assumption
   ·exact h.1 x hx
  ·rename_i hb
   have hvy:bef v y=true:=Bt (fun he=>by
    rw[kh.2 he] at hn2
    cases hn2.1) (by simpa using hb)
   rw[List.pairwise_cons,List.pairwise_cons]
   refine⟨fun x hx=>?_,h⟩
   rcases List.mem_cons.1 hx with rfl|hx
   ·exact hvy
   ·exact o9 hvy (h.1 x hx)
theorem xH {g g':List Vtx}{r a:Int}(h:∀x∈g,x∈g')(hh:cq g r a=true):cq g' r a=true:=by
 obtain⟨v,hv,e⟩:=ce.1 hh
 exact ce.2 ⟨v,h v hv,e⟩
theorem jL {g g':List Vtx}{v:Vtx}(h:∀x∈g,x∈g')(hh:parOK g v=true):parOK g' v=true:=
 dY.2 fun p hp=>xH h (dY.1 hh p hp)
theorem BP {c:List Int}{g:List Vtx}(h:GraOK c g):graS c g=true:=by
 simp only[graS,Bool.and_eq_true,aN,fo,Bool.or_eq_true,beq_iff_eq]
 refine⟨h.com,fun i hi=>⟨h.vtx _ (dx hi),?_,h.par _ (dx hi)⟩⟩
 cases i with
 |zero=>exact .inl rfl
 |succ i=>
  right
  exact qX h.pw (show i<i+1 by omega) (by rw[Nat.add_sub_cancel,List.getD_eq_getElem?_getD,List.getElem?_eq_getElem (show i<g.length by omega)];rfl) (by rw[List.getD_eq_getElem?_getD,List.getElem?_eq_getElem hi];rfl)
theorem zW {c:List Int}{g:List Vtx}{v:Vtx}(h:graS c g=true)(h1:vtxS c v=true)(h2:cq g v.round v.author=false)(h3:parOK g v=true):graS c (eV g v)=true:=by
 have hg:=j8 h
 have hs:∀x∈g,x∈eV g v:=fun x hx=>fW.2 (.inr hx)
 refine BP ⟨hg.com,fun x hx=>?_,B0 hg.pw h2,fun x hx=>?_⟩
 ·rcases fW.1 hx with rfl|hx
  ·exact h1
  ·exact hg.vtx x hx
 ·rcases fW.1 hx with rfl|hx
  ·exact jL hs h3
  ·exact jL hs (hg.par x hx)
theorem ss {α:Type}{l:List α}{i j:Nat}{x d:α}(hi:i<l.length):(l.set i x).getD j d=if i=j then x else l.getD j d:=by
 simp only[List.getD_eq_getElem?_getD,List.getElem?_set]
 split
 ·subst_vars;simp[hi]
 ·rfl
theorem CH {w:Wrl}(h:WOK w)(m i:Int):WOK (hJ w m i):=by
 unfold hJ
 split
 rotate_left
 ·exact h
 rename_i hb
 simp only[eI,Bool.and_eq_true,Bool.not_eq_true'] at hb
 obtain⟨h1,h2,h3,h4,h5⟩:=hb
 have hg:=cS.1 h1
 obtain⟨hl,hx,hp⟩:=gJ h2
 have hone:=h.one _ hp
 simp only[oneP,Bool.and_eq_true] at hone
 have hml:m.toNat<w.views.length:=by rw[h.vlen];omega
 have hvm:view w m∈w.views:=dx hml
 refine⟨h.com,h.lead,h.bad,h.one,h.fit,h.plen,by simp only[List.length_set];exact h.vlen,fun g hg'=>?_,fun g hg' v hv=>?_,fun k hk hkb=>?_,fun p hp' k hk hb hv=>?_⟩
 ·rcases mem_set hg' with rfl|hg'
  ·exact zW (h.gra _ hvm) hone.1 h4 h5
  ·exact h.gra g hg'
 ·rcases mem_set hg' with rfl|hg'
  ·rcases fW.1 hv with rfl|hv
   ·exact⟨prop w i,hp,h3,rfl⟩
   ·exact h.knw _ hvm v hv
  ·exact h.knw g hg' v hv
 ·simp only[List.length_set] at hk
  have hkb:(k:Int)=w.bad:=hkb
  dsimp only
  rw[ss hml,if_neg (by intro e;apply hg.2;omega)]
  exact h.bv k hk hkb
 ·simp only[List.length_set] at hk
  have:=h.kp p hp' k hk hb hv
  dsimp only
  rw[ss hml]
  split
  ·rename_i e
   subst e
   exact jL (fun x hx=>fW.2 (.inr hx)) this
  ·exact this
theorem EN {w:Wrl}(h:WOK w)(e:Evt):WOK (js w e):=by
 unfold js
 split
 ·exact CJ h _ _
 split
 ·exact CK h _ _
 split
 ·exact CH h _ _
 split
 ·exact CI h _
 split
 ·exact CG h _
 ·exact h
theorem BQ {c:List Int}{g:List Vtx}(h:graS c g=true):g.length≤217:=by
 have hg:=j8 h
 have ht:∀v∈g,fp v:=fun v hv=>cK hg.com (hg.vtx v hv)
 have h1:((g.map fun v=>(v.round*7+v.author).toNat)).Nodup:=by
  rw[List.Nodup,List.pairwise_map]
  refine hg.pw.imp_of_mem fun {a b} ha hb hab=>?_
  obtain⟨⟨a1,a2⟩,a3,a4⟩:=ht a ha
  obtain⟨⟨b1,b2⟩,b3,b4⟩:=ht b hb
  simp only[bef,Bool.or_eq_true,Bool.and_eq_true,decide_eq_true_eq] at hab
  omega
 have h2:=jK h1 (b:=List.range 217) fun k hk=>by
  obtain⟨v,hv,rfl⟩:=List.mem_map.1 hk
  obtain⟨⟨a1,a2⟩,a3,a4⟩:=ht v hv
  rw[List.mem_range]
  omega
 simpa using h2
theorem wy:∀{l:List Int} {n:Int} {k:Nat},(∀y∈l.take k,y<n)→k≤l.length→(∀y,l[k]?=some y→¬y<n)→dz l n=if l[k]?=some n then l else l.take k++[n]++l.drop k
 |[],n,k,_,hk,_=>by
  obtain rfl:k=0:=by simpa using hk
  simp[dz]
 |x::l,n,0,_,_,h=>by
  have hx:=h x rfl
  unfold dz
  rw[if_neg hx]
  simp
 |x::l,n,k+1,h1,hk,h=>by
  have hx:x<n:=h1 x (by simp)
  unfold dz
  rw[if_pos hx,wy (l:=l) (k:=k) (fun y hy=>h1 y (by simp[hy])) (by simpa using hk) (fun y hy=>h y (by simpa using hy))]
  simp only[List.getElem?_cons_succ]
  split<;>simp
theorem wz:∀{g:List Vtx} {v:Vtx} {k:Nat},(∀y∈g.take k,bef y v=true)→k≤g.length→(∀y,g[k]?=some y→bef y v=false)→eV g v=g.take k++[v]++g.drop k
 |[],v,k,_,hk,_=>by
  obtain rfl:k=0:=by simpa using hk
  simp[eV]
 |x::g,v,0,_,_,h=>by
  have hx:=h x rfl
  unfold eV
  rw[if_neg (by rw[hx];simp)]
  simp
 |x::g,v,k+1,h1,hk,h=>by
  have hx:bef x v=true:=h1 x (by simp)
  unfold eV
  rw[if_pos hx,wz (g:=g) (k:=k) (fun y hy=>h1 y (by simp[hy])) (by simpa using hk) (fun y hy=>h y (by simpa using hy))]
  simp
theorem An {ps:List Ppl}{m:Int}(h:∀p∈ps,0≤p.v.round∧p.v.round≤30):0≤gX ps m∧gX ps m≤31:=by
 induction ps using cJ with
 |h0=>simp[gX]
 |h l x ih=>
  have ih:=ih fun p hp=>h p (List.mem_append.2 (.inl hp))
  have hx:=h x (by simp)
  rw[mQ]
  split<;>omega
theorem WOK.len {w:Wrl}(h:WOK w):1≤w.com.length∧w.com.length≤7:=(aw.1 h.com).2
theorem WOK.vl {w:Wrl}(h:WOK w):∀g∈w.views,g.length≤217:=fun g hg=>BQ (h.gra g hg)
theorem WOK.vv {w:Wrl}(h:WOK w):∀g∈w.views,∀v∈g,vtxS w.com v=true:=fun g hg=>wn (h.gra g hg)
theorem WOK.pv {w:Wrl}(h:WOK w):∀p∈w.props,vtxS w.com p.v=true∧cj w.com p.members=true:=fun p hp=>by
 have:=h.one p hp
 simpa only[oneP,Bool.and_eq_true] using this
theorem WOK.par {w:Wrl}(h:WOK w){v:Vtx}(hv:vtxS w.com v=true):v.parents.length≤7:=kO h.com hv
theorem WOK.mem {w:Wrl}(h:WOK w):∀p∈w.props,p.members.length≤7:=fun p hp=>by
 have:=gb (h.pv p hp).2
 have:=h.len
 omega
theorem WOK.view {w:Wrl}(h:WOK w){m:Int}(hm:good w m=true):w.views[m.toNat]?=some (view w m)∧view w m∈w.views∧m.toNat<w.views.length:=by
 have hg:=cS.1 hm
 have hl:m.toNat<w.views.length:=by rw[h.vlen];omega
 refine⟨?_,dx hl,hl⟩
 unfold Am.view
 rw[List.getD_eq_getElem?_getD,List.getElem?_eq_getElem hl]
 rfl
def C6 (w:Wrl)(i:Int):Nat→Wrl
 |0=>w
 |n+1=>hJ (C6 w i n) n i
def vf (w:Wrl):Nat→Wrl
 |0=>w
 |k+1=>C6 (vf w k) k (vf w k).com.length
def pass (w:Wrl):Wrl:=vf w w.props.length
def be (w:Wrl)(es:List Evt):Wrl:=es.foldl js w
theorem gM (w:Wrl)(es:List Evt)(e:Evt):be w (es++[e])=js (be w es) e:=by simp[be]
theorem kC {w:Wrl}(h:WOK w):∀es,WOK (be w es):=by
 intro es
 induction es using cJ with
 |h0=>exact h
 |h l x ih=>rw[gM];exact EN ih x
end Go.Proofs.YthmfppknagbkeaaGreat.Am
namespace Go.Proofs.YthmfppknagbkeaaGreat.Am
open Go Go.Shelf Go.RowKit
variable {P:Program} {w0:World} {S:SD} {A:Nat→Prop} {N:Nat} {ρ:Id→Pl} {t:List (Nat×D)} {h:HL} {a:Act} {w:World}
theorem Sim.rowAt (s:Sim P w0 S A N ρ t h a w){b n:Id}{E:TypeId}{xs zs:List D}{w':World}{p:Pl}{c':Array Value}(hb:look h b=some (.row E xs))(hn:look h n=none)
  (hfr:Fr (fun k=>k=(ρ b).blk) w w') (hp:p.blk=(ρ b).blk∨w.heap.size≤p.blk) (hpw:p.blk<w'.heap.size) (hc:w'.heap[p.blk]?=some (.cells c' E (0,0))) (hcs:c'.size=p.cap*p.sz) (hl:zs.length=p.len) (hle:p.len≤p.cap)
  (hmax:p.cap≤maxLen) (hpos:0<p.sz) (hsT:(P.info? E).map (·.size)=some p.sz) (hwf:∀e∈zs,wfC p.sz e) (hv:∀i j,i<zs.length→j<p.sz→∀ok W,Rep ok W ((zs.getD i .undef).cells.getD j .undef) (c'.getD (i*p.sz+j) undef)):
  Ext h ρ (dR ρ n p)∧Sim P w0 S A N (dR ρ n p) t (puts [(b,.gone),(n,.row E zs)] h) a w':=by
 refine⟨Ext.at hn _,?_⟩
 have hpu:puts [(b,Blk.gone),(n,.row E zs)] h=put n (.row E zs) (put b .gone h):=rfl
 rw[hpu]
 have hbn:b≠n:=by rintro rfl;rw[hn] at hb;cases hb
 have hown:=s.own b _ hb rfl
 have key:∀b' y,look (put n (.row E zs) (put b .gone h)) b'=some y→y.live=true→b'≠n→look h b'=some y∧b'≠b:=by
  intro b' y hy hl hne
  rw[ah,if_neg hne,ah] at hy
  by_cases e:b'=b
  ·simp only[e,if_true,Option.some.injEq] at hy
   subst hy
   simp[Blk.live] at hl
  ·simp only[e,if_false] at hy
   exact⟨hy,e⟩
 have hlv:∀b',Live h b'→Live (put n (.row E zs) (put b .gone h)) b'∧dR ρ n p b'=ρ b':=fun b' hb'=>⟨hb'.put.put,aL ρ _ (hb'.ne hn)⟩
 have hok:∀k,okOf A ρ h w k→okOf A (dR ρ n p) (put n (.row E zs) (put b .gone h)) w' k∧w'.heap[k]?=w.heap[k]?:=by
  rintro k ⟨hk,hm'⟩
  have hkb:=hm' b _ hb rfl
  refine⟨⟨⟨Nat.lt_of_lt_of_le hk.1 hfr.size,hk.2⟩,fun b' y hy hmu=>?_⟩,hfr.block k hk.1 (Ne.symm hkb)⟩
  by_cases e:b'=n
  ·subst e
   rw[aq]
   rcases hp with hp|hp
   ·rw[hp];exact hkb
   ·have:=hk.1;omega
  ·rw[aL ρ _ e]
   exact hm' b' y (key b' y hy (ba hmu) e).1 hmu
 have hpS:S p.blk∨w0.heap.size≤p.blk:=by
  rcases hp with hp|hp
  ·rw[hp];exact hown.2
  ·exact .inr (Nat.le_trans s.fr.size hp)
 refine s.step (s.fr.andThen hfr fun k _ hk=>by subst hk;exact hown.2) hlv hok (fun b' y hy=>?_) hfr.size (fun b1 b2 y1 y2 hy1 hy2 hl1 hl2 he=>?_)
 ·by_cases e:b'=n
  ·subst e
   rw[ah] at hy
   simp only[if_true,Option.some.injEq] at hy
   subst hy
   refine .inr ⟨?_,fun _=>by rw[aq];exact⟨hpw,hpS⟩⟩
   simp only[BlkOK,aq]
   exact⟨c',hc,hcs,hl,hle,hmax,hpos,hsT,hwf,fun i j hi hj=>.pure (hv i j hi hj _ _)⟩
  ·by_cases hl:y.live=true
   ·obtain⟨q1,q2⟩:=key b' y hy hl e
    exact .inl ⟨q1,fun hmu=>hfr.block _ (s.own b' y q1 hl).1 fun he=>q2 (s.inj b' b y _ q1 hb hl rfl he)⟩
   ·by_cases e3:b'=b
    ·rw[ah,if_neg e,ah,if_pos e3] at hy
     obtain rfl:=Option.some.inj hy
     exact .inr ⟨trivial,fun h=>absurd h hl⟩
    ·rw[ah,if_neg e,ah,if_neg e3] at hy
     exact .inl ⟨hy,fun hmu=>absurd (ba hmu) hl⟩
 ·have oth:∀b' y,look h b'=some y→y.live=true→b'≠b→(ρ b').blk≠p.blk:=by
   intro b' y hy hl hne he
   rcases hp with hp|hp
   ·exact hne (s.inj b' b y _ hy hb hl rfl (he.trans hp))
   ·have:=(s.own b' y hy hl).1;omega
  by_cases e1:b1=n<;>by_cases e2:b2=n
  ·rw[e1,e2]
  ·subst e1
   obtain⟨q1,q2⟩:=key b2 y2 hy2 hl2 e2
   rw[aq,aL ρ _ e2] at he
   exact absurd he.symm (oth b2 y2 q1 hl2 q2)
  ·subst e2
   obtain⟨q1,q2⟩:=key b1 y1 hy1 hl1 e1
   rw[aq,aL ρ _ e1] at he
   exact absurd he (oth b1 y1 q1 hl1 q2)
  ·rw[aL ρ _ e1,aL ρ _ e2] at he
   exact s.inj b1 b2 y1 y2 (key b1 y1 hy1 hl1 e1).1 (key b2 y2 hy2 hl2 e2).1 hl1 hl2 he
theorem bU (g:Nat):∀(vs:List Value) (o:Nat) (w:World),∃hp:Array Obj,w.setCells g o vs={w with heap:=hp}∧hp.size=w.heap.size∧(∀k,k≠g→hp[k]?=w.heap[k]?)∧∀c E fr,w.heap[g]?=some (.cells c E fr)→∃c':Array Value,hp[g]?=some (.cells c' E fr)∧c'.size=c.size
 |[],o,w=>⟨w.heap,rfl,rfl,fun _ _=>rfl,fun c E fr h=>⟨c,h,rfl⟩⟩
 |v::r,o,w=>by
  obtain⟨hp,e1,e2,e3,e4⟩:=bU g r (o+1) (w.setCell ⟨g,o,none⟩ v)
  refine⟨hp,by rw[World.setCells,e1];rfl,by rw[e2];simp[World.setCell],fun k hk=>?_,fun c E fr hc=>?_⟩
  ·rw[e3 k hk]
   simp[World.setCell,Array.getElem?_modify,Ne.symm hk]
  ·have hlt:=(Array.getElem?_eq_some_iff.1 hc).1
   obtain⟨c',h1,h2⟩:=e4 (c.setIfInBounds o v) E fr (by
    simp only[World.setCell]
    rw[Array.getElem?_modify,if_pos rfl,hc]
    rfl)
   exact⟨c',h1,by rw[h2];simp⟩
theorem cM {w:World}{g j:Nat}{c:Array Value}{E:TypeId}{fr:Nat×Nat}(h:w.heap[g]?=some (.cells c E fr)):w.cell? ⟨g,j,none⟩=c[j]?:=by simp[World.cell?,h]
theorem qz {w:World}{g j:Nat}{c:Array Value}{E:TypeId}(h:w.heap[g]?=some (.cells c E (0,0))):w.frozen? ⟨g,j,none⟩=false:=by simp[World.frozen?,h]
theorem tE {w:World}{g:Nat}{c:Array Value}{E:TypeId}{fr:Nat×Nat}(h:w.heap[g]?=some (.cells c E fr)):w.shape? g=some (E,c.size):=by simp[World.shape?,h]
def bX (xs:List Int)(i:Nat)(m:Int):List Int:=xs.take i++[m]++xs.drop i
theorem gd {xs:List Int}{i:Nat}(m:Int)(h:i≤xs.length):(bX xs i m).length=xs.length+1:=by
 simp only[bX,List.length_append,List.length_take,List.length_singleton,List.length_drop];omega
theorem lC {xs:List Int}{i j:Nat}(m:Int)(h:i≤xs.length):(bX xs i m)[j]?=if j<i then xs[j]? else if j=i then some m else xs[j-1]?:=by
 have h1:(xs.take i).length=i:=by rw[List.length_take];omega
 unfold bX
 rw[List.append_assoc]
 by_cases c1:j<i
 ·rw[if_pos c1,List.getElem?_append_left (by omega),List.getElem?_take,if_pos c1]
 ·rw[if_neg c1,List.getElem?_append_right (by omega),h1]
  by_cases c2:j=i
  ·subst c2
   simp
  ·rw[if_neg c2,List.getElem?_append_right (by simp;omega),List.getElem?_drop]
   congr 1
   simp
   omega
set_option maxHeartbeats 1000000 in
theorem yI {ρ0 : Go.Shelf.Ren} (L : Lays2.n21 P ρ0) {f : FuncId} (hf : ρ0.f 21 = f) (hfn : ∃ fn, P.funcs[f]? = some fn ∧ fn.body.isNone = false ∧ (fn.name == "runtime.NumGoroutine") = false) {h : HL} {b c n : Id} {xs : List Int} {m : Int} {place : Nat} {E E2 : TypeId} (hE : ρ0.t 3 = E)
  (hb:look h b=some (.row E (xs.map (.int .i64)))) (hc:look h c=some (.row E2 [.int .i64 m])) (hbc:b≠c) (hn:look h n=none) (hpl:place≤xs.length) (hlen:xs.length≤1000000):
  Con P f [.ref b,.int .i64 place,.ref c] h (.ref n) (puts [(b,.gone),(n,.row E ((bX xs place m).map (.int .i64)))] h):=by
 subst hf hE
 refine⟨hfn,fun w A ρ vs s hl hcv=>?_⟩
 obtain⟨v0,v1,v2,rfl⟩:∃v0 v1 v2,vs= #[v0,v1,v2]:=by
  have h3:vs.size=3:=hl.symm
  refine⟨vs[0],vs[1],vs[2],Array.ext (by simp[h3]) fun i h1 h2=>?_⟩
  match i,h2 with
  |0,_=>rfl
  |1,_=>rfl
  |2,_=>rfl
 obtain⟨-,e0⟩:=(hcv 0 (by simp)).ref_inv
 have e1:=(hcv 1 (by simp)).int_inv
 obtain⟨-,e2⟩:=(hcv 2 (by simp)).ref_inv
 have e0:v0= .slice (some ⟨(ρ b).blk,0,none⟩) (ρ b).len (ρ b).cap:=e0
 have e1:v1= .int .i64 place:=e1
 have e2:v2= .slice (some ⟨(ρ c).blk,0,none⟩) (ρ c).len (ρ c).cap:=e2
 subst e0 e1 e2
 obtain⟨cb,g1,g2,g3,g4,g5,g6,g7,g8,g9⟩:=s.blk b _ hb
 obtain⟨cc,k1,k2,k3,k4,k5,k6,k7,k8,k9⟩:=s.blk c _ hc
 have hne:(ρ b).blk≠(ρ c).blk:=fun he=>hbc (s.inj b c _ _ hb hc rfl rfl he)
 have hsz:(ρ b).sz=1:=by
  have:=L.i3
  cases hi:P.info? (ρ0.t 3) with
  |none=>rw[hi] at this;cases this
  |some i=>
   rw[hi] at this g7
   simp only[Option.map_some,Option.some.injEq,Prod.mk.injEq] at this g7
   omega
 have hsE:(P.info? (ρ0.t 3)).map (·.size)=some 1:=by rw[g7,hsz]
 have hcl:(ρ c).len=1:=by simpa using k3.symm
 rw[hsz,Nat.mul_one] at g2
 simp only[List.length_map] at g3
 have hmax:(ρ b).cap≤9223372036854775807:=by have:=g5;unfold maxLen at this;omega
 have hsc:(ρ c).sz=1:=by
  have:=(k8 (D.int .i64 m) (by simp)).1
  exact this.symm
 have hcell:∀(j:Nat) (x:Int),xs[j]?=some x→cb[j]?=some (Value.int .i64 x):=fun j x hx=>by
  have hj:=(List.getElem?_eq_some_iff.1 hx).1
  have h1:=g9 j 0 (by simpa using hj) (by omega)
  rw[hsz,Nat.mul_one,Nat.add_zero] at h1
  have h2:((xs.map (D.int .i64)).getD j .undef).cells.getD 0 .undef= .int .i64 x:=by
   simp only[List.getD_eq_getElem?_getD,List.getElem?_map,hx,Option.map_some,Option.getD_some]
   rfl
  rw[h2] at h1
  have h3:=h1.int_inv
  have hjc:j<cb.size:=by omega
  rw[Array.getD_eq_getD_getElem?,Array.getElem?_eq_getElem hjc,Option.getD_some] at h3
  rw[Array.getElem?_eq_getElem hjc,h3]
 have hccell:cc[0]?=some (Value.int .i64 m):=by
  have h1:=k9 0 0 (by simp) (by omega)
  have h3:=h1.int_inv
  have hjc:0<cc.size:=by rw[k2,hsc];omega
  rw[Nat.zero_mul,Nat.zero_add,Array.getD_eq_getD_getElem?,Array.getElem?_eq_getElem hjc,Option.getD_some] at h3
  rw[Array.getElem?_eq_getElem hjc,h3]
 have hcs:∀j v,(xs.map (Value.int .i64))[j]?=some v→w.cell? ⟨(ρ b).blk,0+j,none⟩=some v:=fun j v hv=>by
  rw[List.getElem?_map] at hv
  obtain⟨x,hx,rfl⟩:=Option.map_eq_some_iff.1 hv
  rw[Nat.zero_add,cM g1]
  exact hcell j x hx
 have hvs:∀j v,[Value.int .i64 m][j]?=some v→w.cell? ⟨(ρ c).blk,0+j,none⟩=some v:=fun j v hv=>by
  cases j with
  |zero=>
   simp only[List.getElem?_cons_zero,Option.some.injEq] at hv
   subst hv
   rw[cM k1]
   exact hccell
  |succ j=>simp at hv
 have h1c:∀v∈xs.map (Value.int .i64),v.oneCell'=true:=fun v hv=>by
  obtain⟨x,-,rfl⟩:=List.mem_map.1 hv
  rfl
 have h1v:∀v∈[Value.int .i64 m],v.oneCell'=true:=fun v hv=>by
  rw[List.mem_singleton.1 hv]
  rfl
 have hwf:∀e∈(bX xs place m).map (D.int .i64),wfC 1 e:=fun e he=>by
  obtain⟨x,-,rfl⟩:=List.mem_map.1 he
  exact⟨rfl,rfl⟩
 have hzl:((bX xs place m).map (D.int .i64)).length=xs.length+1:=by rw[List.length_map,gd m hpl]
 have fin:∀(w':World) (p:Pl) (c':Array Value),Fr (fun k=>k=(ρ b).blk) w w'→(p.blk=(ρ b).blk∨w.heap.size≤p.blk)→p.blk<w'.heap.size→w'.heap[p.blk]?=some (.cells c' (ρ0.t 3) (0,0))→c'.size=p.cap→p.len=xs.length+1→p.len≤p.cap→p.cap≤maxLen→p.sz=1→
   (∀(j:Nat) (x:Int),(bX xs place m)[j]?=some x→c'[j]?=some (Value.int .i64 x))→∃u ρ',Ending.returned (.slice (some ⟨p.blk,0,none⟩) p.len p.cap)= .returned u∧(∀b',Live h b'→ρ' b'=ρ b'∧Live (puts [(b,.gone),(n,.row (ρ0.t 3) ((bX xs place m).map (.int .i64)))] h) b')∧
    Sim P w (rD ρ h) A 0 ρ' [] (puts [(b,.gone),(n,.row (ρ0.t 3) ((bX xs place m).map (.int .i64)))] h) eS w'∧C ρ' (Live (puts [(b,.gone),(n,.row (ρ0.t 3) ((bX xs place m).map (.int .i64)))] h)) (okOf A ρ' (puts [(b,.gone),(n,.row (ρ0.t 3) ((bX xs place m).map (.int .i64)))] h) w') w' (.ref n) u:=by
  intro w' p c' f1 f2 f3 f4 f5 f6 f7 f8 f9 f10
  obtain⟨q1,q2⟩:=s.rowAt (zs:=(bX xs place m).map (D.int .i64)) hb hn f1 f2 f3 f4 (by rw[f9,Nat.mul_one];exact f5) (by rw[hzl,f6]) f7 f8 (by omega) (by rw[f9];exact hsE) (by rw[f9];exact hwf) (fun i j hi hj ok W=>by
   rw[f9] at hj⊢
   obtain rfl:j=0:=by omega
   rw[List.length_map] at hi
   have hx:(bX xs place m)[i]?=some ((bX xs place m)[i]):=List.getElem?_eq_getElem hi
   have h2:(((bX xs place m).map (D.int .i64)).getD i .undef).cells.getD 0 .undef= .int .i64 ((bX xs place m)[i]):=by
    simp only[List.getD_eq_getElem?_getD,List.getElem?_map,hx,Option.map_some,Option.getD_some]
    rfl
   rw[h2,Nat.mul_one,Nat.add_zero,Array.getD_eq_getD_getElem?,f10 i _ hx,Option.getD_some]
   exact .int _ _)
  refine⟨_,dR ρ n p,rfl,fun b' hb'=>⟨q1 b' hb',hb'.put.put⟩,q2,?_⟩
  have hL:Live (puts [(b,Blk.gone),(n,.row (ρ0.t 3) ((bX xs place m).map (.int .i64)))] h) n:=by
   show Live (put n _ (put b _ h)) n
   unfold Live;rw[ah];simp
  have:=C.ref (ρ:=dR ρ n p) (L:=Live (puts [(b,Blk.gone),(n,.row (ρ0.t 3) ((bX xs place m).map (.int .i64)))] h)) (ok:=okOf A (dR ρ n p) (puts [(b,Blk.gone),(n,.row (ρ0.t 3) ((bX xs place m).map (.int .i64)))] h) w') (w:=w') n hL
  simpa only[aq] using this
 have hcapb:(ρ b).blk<w.heap.size:=(s.own b _ hb rfl).1
 rw[←g3,hcl]
 by_cases hroom:xs.length+1≤(ρ b).cap
 ·by_cases hpe:place<xs.length
  ·-- shifted
   refine(Any2.slices_Insert_int_shift L (ρ b).blk 0 xs.length (ρ b).cap place (ρ c).blk 0 1 (ρ c).cap (xs.map (Value.int .i64)) [Value.int .i64 m] w hpe (by omega) hroom (by omega) (Ne.symm hne) (by simp) rfl hcs (fun j hj=>?_) (fun j _=>qz g1) hvs h1c h1v E2 (ρ0.t 3) cc.size cb.size (tE k1) (tE g1) (by omega) (qz k1) (qz k1)).mono ?_
   ·rw[Nat.zero_add,cM g1,Array.getElem?_eq_getElem (by omega)];rfl
   ·rintro e w' ⟨rfl,rfl⟩
    have hb0:∀j,j<cb.size→(w.drew.cell? ⟨(ρ b).blk,j,none⟩)=some cb[j]!:=fun j hj=>by
     have:w.drew.cell? ⟨(ρ b).blk,j,none⟩=w.cell? ⟨(ρ b).blk,j,none⟩:=rfl
     rw[this,cM g1,getElem!_pos cb j hj,Array.getElem?_eq_getElem hj]
    obtain⟨hp1,a1,a2,a3,a4⟩:=bU (ρ b).blk ((xs.map (Value.int .i64)).drop place) (0+(place+1)) w.drew
    obtain⟨c1,a5,a6⟩:=a4 cb _ _ g1
    obtain⟨hp2,b1,b2,b3,b4⟩:=bU (ρ b).blk [Value.int .i64 m] (0+place) (w.drew.setCells (ρ b).blk (0+(place+1)) ((xs.map (Value.int .i64)).drop place))
    obtain⟨c2,b5,b6⟩:=b4 c1 _ _ (by rw[a1];exact a5)
    have hdl:((xs.map (Value.int .i64)).drop place).length=xs.length-place:=by simp
    refine fin _ ⟨(ρ b).blk,(ρ b).cap,1,xs.length+1⟩ c2 ?_ (.inl rfl) ?_ (by rw[b1];exact b5) (by show c2.size=(ρ b).cap;rw[b6,a6,g2]) rfl hroom g5 rfl (fun j x hx=>?_)
    ·rw[b1,a1]
     exact⟨rfl,rfl,rfl,by show w.heap.size≤hp2.size;rw[b2,a1];show w.heap.size≤hp1.size;rw[a2];exact Nat.le_refl _,fun k hk hne2=>by
      show hp2[k]?=_
      rw[b3 k hne2,a1]
      show hp1[k]?=_
      rw[a3 k hne2];rfl⟩
    ·rw[b1];show _<hp2.size;rw[b2,a1];show _<hp1.size;rw[a2];exact hcapb
    ·have hj:j<xs.length+1:=by have:=(List.getElem?_eq_some_iff.1 hx).1;rw[gd m hpl] at this;exact this
     have e:c2[j]?=((w.drew.setCells (ρ b).blk (0+(place+1)) ((xs.map (Value.int .i64)).drop place)).setCells (ρ b).blk (0+place) [Value.int .i64 m]).cell? ⟨(ρ b).blk,j,none⟩:=by
      rw[b1];exact(cM (w:={(w.drew.setCells (ρ b).blk (0+(place+1)) ((xs.map (Value.int .i64)).drop place)) with heap:=hp2}) b5).symm
     rw[e]
     rw[lC m hpl] at hx
     by_cases q1:j=place
     ·subst q1
      rw[if_neg (by omega),if_pos rfl] at hx
      obtain rfl:=Option.some.inj hx
      have:=World.cell?_setCells_in (ρ b).blk [Value.int .i64 m] (0+j) (w.drew.setCells (ρ b).blk (0+(j+1)) ((xs.map (Value.int .i64)).drop j)) (fun i hi=>by
       have hi0:i=0:=by simpa using hi
       subst hi0
       refine isSome_setCells _ _ _ _ (fun q hq=>?_) _ ?_
       ·rw[hb0 _ (by rw[hdl] at hq;omega)];rfl
       ·rw[hb0 _ (by omega)];rfl) 0 (by simp)
      rw[show 0+j+0=j by omega] at this
      exact this
     ·rw[World.cell?_setCells_out _ _ _ _ _ (fun _ _=>by simp;omega)]
      by_cases q2:j<place
      ·rw[if_pos q2] at hx
       rw[World.cell?_setCells_out _ _ _ _ _ (fun _ _=>by simp;omega),show w.drew.cell? ⟨(ρ b).blk,j,none⟩=w.cell? ⟨(ρ b).blk,j,none⟩ from rfl,cM g1]
       exact hcell j x hx
      ·rw[if_neg q2,if_neg q1] at hx
       have:=World.cell?_setCells_in (ρ b).blk ((xs.map (Value.int .i64)).drop place) (0+(place+1)) w.drew (fun i hi=>by
        rw[hb0 _ (by rw[hdl] at hi;omega)];rfl) (j-(place+1)) (by rw[hdl];omega)
       rw[show 0+(place+1)+(j-(place+1))=j by omega] at this
       rw[this]
       have h5:xs[j-1]'(by omega)=x:=by rw[List.getElem?_eq_getElem (by omega)] at hx;exact Option.some.inj hx
       congr 1
       rw[List.getElem_drop,List.getElem_map]
       congr 1
       rw[←h5]
       congr 1
       omega
  ·-- at the end,in place
   obtain rfl:place=xs.length:=by omega
   refine(Any2.slices_Insert_int_end_room L (ρ b).blk 0 xs.length (ρ b).cap (ρ c).blk 0 1 (ρ c).cap [Value.int .i64 m] w (by omega) hroom (by omega) rfl (fun j hj=>?_) (fun j _=>qz g1) hvs h1v).mono ?_
   ·rw[cM g1,Array.getElem?_eq_getElem (by omega)];rfl
   ·rintro e w' ⟨rfl,rfl⟩
    obtain⟨hp1,a1,a2,a3,a4⟩:=bU (ρ b).blk [Value.int .i64 m] (0+xs.length) w
    obtain⟨c1,a5,a6⟩:=a4 cb _ _ g1
    refine fin _ ⟨(ρ b).blk,(ρ b).cap,1,xs.length+1⟩ c1 ?_ (.inl rfl) ?_ (by rw[a1];exact a5) (by show c1.size=(ρ b).cap;rw[a6,g2]) rfl hroom g5 rfl (fun j x hx=>?_)
    ·rw[a1]
     exact⟨rfl,rfl,rfl,by show w.heap.size≤hp1.size;rw[a2];exact Nat.le_refl _,fun k hk hne2=>a3 k hne2⟩
    ·rw[a1];show _<hp1.size;rw[a2];exact hcapb
    ·have hj:j<xs.length+1:=by have:=(List.getElem?_eq_some_iff.1 hx).1;rw[gd m hpl] at this;exact this
     have e:c1[j]?=(w.setCells (ρ b).blk (0+xs.length) [Value.int .i64 m]).cell? ⟨(ρ b).blk,j,none⟩:=by
      rw[a1];exact(cM (w:={w with heap:=hp1}) a5).symm
     rw[e]
     rw[lC m hpl] at hx
     by_cases q1:j=xs.length
     ·subst q1
      rw[if_neg (by omega),if_pos rfl] at hx
      obtain rfl:=Option.some.inj hx
      have:=World.cell?_setCells_in (ρ b).blk [Value.int .i64 m] (0+xs.length) w (fun i hi=>by
       have hi0:i=0:=by simpa using hi
       subst hi0
       rw[cM g1,Array.getElem?_eq_getElem (by omega)];rfl) 0 (by simp)
      rw[show 0+xs.length+0=xs.length by omega] at this
      exact this
     ·rw[if_pos (by omega)] at hx
      rw[World.cell?_setCells_out _ _ _ _ _ (fun _ _=>by simp;omega),cM g1]
      exact hcell j x hx
 ·by_cases hpe:place<xs.length
  ·refine(Any2.slices_Insert_int_grow L (ρ b).blk 0 xs.length (ρ b).cap place (ρ c).blk 0 1 (ρ c).cap (xs.map (Value.int .i64)) [Value.int .i64 m] w hpe (by omega) (by omega) (by omega) (by omega) (by simp) rfl hcs hvs h1c h1v).mono ?_
   rintro e w' ⟨rfl,rfl⟩
   have hG:=grownCap_ge w (xs.length+1) (ρ b).cap (ρ0.t 3)
   have hGm:grownCap w (xs.length+1) (ρ b).cap (ρ0.t 3)≤maxLen:=grownCap_le_maxLen w _ _ _ (by unfold maxLen;omega)
   generalize grownCap w (xs.length+1) (ρ b).cap (ρ0.t 3)=G at *
   obtain⟨ROW,hROW⟩:∃ROW:Array Value,ROW=((xs.map (Value.int .i64)).take place).toArray++Builtin.zeroCells (Value.int .i64 0).cells (xs.length+1-place)++Builtin.zeroCells (Value.int .i64 0).cells (G-(xs.length+1)):=⟨_,rfl⟩
   rw[←hROW]
   have hRs:ROW.size=G:=by
    rw[hROW]
    simp[Builtin.zeroCells,Value.cells]
    omega
   have hRg:∀j,j<place→ROW[j]?=(xs[j]?).map (Value.int .i64):=fun j hj=>by
    have h1:j<((xs.map (Value.int .i64)).take place).toArray.size:=by simp;omega
    rw[hROW,Array.append_assoc,Array.getElem?_append_left h1]
    simp[List.getElem?_take,hj]
   obtain⟨W0,hW0⟩:∃W0,W0=(w.alloc (.cells ROW (ρ0.t 3))).drew:=⟨_,rfl⟩
   rw[←hW0]
   have zh:W0.heap=w.heap.push (.cells ROW (ρ0.t 3)):=by rw[hW0];rfl
   have z0:W0.heap[w.heap.size]?=some (.cells ROW (ρ0.t 3) (0,0)):=by rw[zh];simp
   have zs:W0.heap.size=w.heap.size+1:=by rw[zh];simp
   have zo:∀k,k<w.heap.size→W0.heap[k]?=w.heap[k]?:=fun k hk=>by rw[zh,Array.getElem?_push,if_neg (by omega)]
   have z1:W0.os=w.os∧W0.tape=w.tape∧W0.output=w.output:=by rw[hW0];exact⟨rfl,rfl,rfl⟩
   obtain⟨hp1,a1,a2,a3,a4⟩:=bU w.heap.size [Value.int .i64 m] place W0
   obtain⟨c1,a5,a6⟩:=a4 ROW _ _ z0
   obtain⟨hp2,b1,b2,b3,b4⟩:=bU w.heap.size ((xs.map (Value.int .i64)).drop place) (place+1) (W0.setCells w.heap.size place [Value.int .i64 m]).drew
   obtain⟨c2,b5,b6⟩:=b4 c1 _ _ (by rw[a1];exact a5)
   have hdl:((xs.map (Value.int .i64)).drop place).length=xs.length-place:=by simp
   refine fin _ ⟨w.heap.size,G,1,xs.length+1⟩ c2 ?_ (.inr (Nat.le_refl _)) ?_ (by rw[b1];exact b5) (by show c2.size=G;rw[b6,a6,hRs]) rfl hG hGm rfl (fun j x hx=>?_)
   ·rw[b1,a1]
    refine⟨z1.1,z1.2.1,z1.2.2,by show w.heap.size≤hp2.size;rw[b2,a1];show w.heap.size≤hp1.size;rw[a2];omega,fun k hk _=>?_⟩
    show hp2[k]?=_
    rw[b3 k (by omega),a1]
    show hp1[k]?=_
    rw[a3 k (by omega)]
    exact zo k hk
   ·rw[b1];show _<hp2.size;rw[b2,a1];show _<hp1.size;rw[a2,zs];show w.heap.size<_;omega
   ·have hj:j<xs.length+1:=by have:=(List.getElem?_eq_some_iff.1 hx).1;rw[gd m hpl] at this;exact this
    have e:c2[j]?=(((W0.setCells w.heap.size place [Value.int .i64 m]).drew).setCells w.heap.size (place+1) ((xs.map (Value.int .i64)).drop place)).cell? ⟨w.heap.size,j,none⟩:=by
     rw[b1];exact(cM (w:={(W0.setCells w.heap.size place [Value.int .i64 m]).drew with heap:=hp2}) b5).symm
    rw[e]
    have hs0:∀i,i<G→(W0.cell? ⟨w.heap.size,i,none⟩).isSome=true:=fun i hi=>by rw[cM z0,Array.getElem?_eq_getElem (by omega)];rfl
    have hdr:∀x,(W0.setCells w.heap.size place [Value.int .i64 m]).drew.cell? x=(W0.setCells w.heap.size place [Value.int .i64 m]).cell? x:=fun _=>rfl
    rw[lC m hpl] at hx
    by_cases q1:place<j
    ·rw[if_neg (by omega),if_neg (by omega)] at hx
     have:=World.cell?_setCells_in w.heap.size ((xs.map (Value.int .i64)).drop place) (place+1) (W0.setCells w.heap.size place [Value.int .i64 m]).drew (fun i hi=>by
      rw[hdr]
      refine isSome_setCells _ _ _ _ (fun q hq=>?_) _ (hs0 _ (by rw[hdl] at hi;omega))
      have hq0:q=0:=by simpa using hq
      exact hs0 _ (by omega)) (j-(place+1)) (by rw[hdl];omega)
     rw[show place+1+(j-(place+1))=j by omega] at this
     rw[this]
     have h5:xs[j-1]'(by omega)=x:=by rw[List.getElem?_eq_getElem (by omega)] at hx;exact Option.some.inj hx
     congr 1
     rw[List.getElem_drop,List.getElem_map]
     congr 1
     rw[←h5]
     congr 1
     omega
    ·rw[World.cell?_setCells_out _ _ _ _ _ (fun _ _=>by simp;omega),hdr]
     by_cases q2:j=place
     ·subst q2
      rw[if_neg (by omega),if_pos rfl] at hx
      obtain rfl:=Option.some.inj hx
      have:=World.cell?_setCells_in w.heap.size [Value.int .i64 m] j W0 (fun i hi=>by
       have hi0:i=0:=by simpa using hi
       exact hs0 _ (by omega)) 0 (by simp)
      rw[Nat.add_zero] at this
      exact this
     ·rw[if_pos (by omega)] at hx
      rw[World.cell?_setCells_out _ _ _ _ _ (fun _ _=>by simp;omega),cM z0,hRg j (by omega),hx]
      rfl
  ·obtain rfl:place=xs.length:=by omega
   refine(Any2.slices_Insert_int_end_grow L (some ⟨(ρ b).blk,0,none⟩) xs.length (ρ b).cap (ρ c).blk 0 1 (ρ c).cap (xs.map (Value.int .i64)) [Value.int .i64 m] w (by omega) (by omega) (by omega) (by omega) (by simp) rfl (fun h=>by cases h) (fun a ha j v hv=>by cases ha;rw[cz];exact hcs j v hv) hvs h1v).mono ?_
   rintro e w' ⟨rfl,rfl⟩
   have hG:=grownCap_ge w (xs.length+1) (ρ b).cap (ρ0.t 3)
   have hGm:grownCap w (xs.length+1) (ρ b).cap (ρ0.t 3)≤maxLen:=grownCap_le_maxLen w _ _ _ (by unfold maxLen;omega)
   generalize grownCap w (xs.length+1) (ρ b).cap (ρ0.t 3)=G at *
   obtain⟨ROW,hROW⟩:∃ROW:Array Value,ROW=(xs.map (Value.int .i64)++[Value.int .i64 m]).toArray++Builtin.zeroCells (Value.int .i64 0).cells (G-(xs.length+1)):=⟨_,rfl⟩
   rw[←hROW]
   have hRs:ROW.size=G:=by
    rw[hROW]
    simp[Builtin.zeroCells,Value.cells]
    omega
   have zh:(w.drew.alloc (.cells ROW (ρ0.t 3))).heap=w.heap.push (.cells ROW (ρ0.t 3)):=rfl
   refine fin _ ⟨w.heap.size,G,1,xs.length+1⟩ ROW ⟨rfl,rfl,rfl,by rw[zh];simp,fun k hk _=>by rw[zh,Array.getElem?_push,if_neg (by omega)]⟩ (.inr (Nat.le_refl _)) (by rw[zh];simp) (by rw[zh];simp) hRs rfl hG hGm rfl (fun j x hx=>?_)
   have hj:j<xs.length+1:=by have:=(List.getElem?_eq_some_iff.1 hx).1;rw[gd m hpl] at this;exact this
   have h1:j<(xs.map (Value.int .i64)++[Value.int .i64 m]).toArray.size:=by simp;omega
   have h2:bX xs xs.length m=xs++[m]:=by simp[bX]
   rw[h2] at hx
   rw[hROW,Array.getElem?_append_left h1]
   have h3:xs.map (Value.int .i64)++[Value.int .i64 m]=(xs++[m]).map (Value.int .i64):=by simp
   rw[h3,List.getElem?_toArray,List.getElem?_map,hx]
   rfl
end Go.Proofs.YthmfppknagbkeaaGreat.Am
namespace Go.Proofs.YthmfppknagbkeaaGreat.Am
open Go Go.Shelf Go.RowKit
attribute [local irreducible] Mk bS Ari eQ pS kR cw eG jf jg At
set_option maxRecDepth 10000
theorem Con.out {P:Program}{f:FuncId}{ds:List D}{hin hout hout':HL}{r:D}(h:Con P f ds hin r hout)(he:∀b,look hout' b=look hout b):Con P f ds hin r hout':=by
 refine⟨h.1,fun w A ρ vs s hl hc=>(h.2 w A ρ vs s hl hc).mono ?_⟩
 rintro e w' ⟨u,ρ',h1,h2,h3,h4⟩
 have hl:∀b,Live hout b→Live hout' b:=fun b hb=>by
  unfold Live at hb⊢
  rw[he]
  exact hb
 exact⟨u,ρ',h1,fun b hb=>⟨(h2 b hb).1,hl b (h2 b hb).2⟩,h3.congr (fun _=>rfl) he,h4.mono (fun b hb=>⟨hl b hb,rfl⟩) fun k hk=>⟨⟨hk.1,fun b y hy hmu=>hk.2 b y (by rw[←he];exact hy) hmu⟩,rfl⟩⟩
def uY:Go.Shelf.Ren:=⟨fun|25=>157|31=>168|32=>169|37=>173|n=>n,fun|22=>22|3=>3|4=>4|40=>169|0=>0|n=>n,fun|n=>n⟩
theorem Ac:Go.Proofs.Lays2.n25 Tryz.prog uY where
  mixed:=by kernel_rfl
  f25:=Tryz.func157.trans (congrArg some (by kernel_rfl))
  f31:=Tryz.func168.trans (congrArg some (by kernel_rfl))
  f32:=Tryz.func169.trans (congrArg some (by kernel_rfl))
  f37:=Tryz.func173.trans (congrArg some (by kernel_rfl))
  t0:=Tryz.underlying0
  a0:=Tryz.isAgg0
  z0:=Tryz.sizeOf0
  v0:=Tryz.zeroValue0
  t3:=Tryz.underlying3
  a3:=Tryz.isAgg3
  z3:=Tryz.sizeOf3
  v3:=Tryz.zeroValue3
  t4:=Tryz.underlying4
  a4:=Tryz.isAgg4
  z4:=Tryz.sizeOf4
  v4:=Tryz.zeroValue4
  t22:=Tryz.underlying22
  a22:=Tryz.isAgg22
  z22:=Tryz.sizeOf22
  v22:=Tryz.zeroValue22
  t40:=Tryz.underlying169
  a40:=Tryz.isAgg169
  z40:=Tryz.sizeOf169
  v40:=Tryz.zeroValue169
def uX:Go.Shelf.Ren:=⟨fun|21=>158|27=>170|28=>171|35=>174|39=>175|n=>n,fun|22=>22|3=>3|4=>4|0=>0|n=>n,fun|n=>n⟩
theorem En:Go.Proofs.Lays2.n21 Tryz.prog uX where
  mixed:=by kernel_rfl
  f21:=Tryz.func158.trans (congrArg some (by kernel_rfl))
  f27:=Tryz.func170.trans (congrArg some (by kernel_rfl))
  f28:=Tryz.func171.trans (congrArg some (by kernel_rfl))
  f35:=Tryz.func174.trans (congrArg some (by kernel_rfl))
  f39:=Tryz.func175.trans (congrArg some (by kernel_rfl))
  t0:=Tryz.underlying0
  a0:=Tryz.isAgg0
  z0:=Tryz.sizeOf0
  v0:=Tryz.zeroValue0
  t3:=Tryz.underlying3
  a3:=Tryz.isAgg3
  z3:=Tryz.sizeOf3
  v3:=Tryz.zeroValue3
  t4:=Tryz.underlying4
  a4:=Tryz.isAgg4
  z4:=Tryz.sizeOf4
  v4:=Tryz.zeroValue4
  t22:=Tryz.underlying22
  a22:=Tryz.isAgg22
  z22:=Tryz.sizeOf22
  v22:=Tryz.zeroValue22
  i3:=by kernel_rfl
theorem lU (w:World)(q:Nat):Below w.heap.size w (w.drewN q):=⟨rfl,rfl,rfl,Nat.le_refl _,fun _ _=>rfl⟩
theorem Da (xs:List Int)(x:Int)(hs:xs.Pairwise (· ≤ ·))(hl:xs.length≤1000000):ai Tryz.prog 157 [.lst (.int .i64) xs,.int .i64 x] [] (.tup [.int .i64 (xs.countP (· <x):Nat),.bool (xs.contains x)]) []:=by
 unfold ai
 refine pd ⟨_,Tryz.func157,rfl,rfl⟩ fun w ok ρ vs hl2 hc=>?_
 obtain⟨v0,v1,rfl⟩:∃v0 v1,vs= #[v0,v1]:=by
  have h2:vs.size=2:=hl2.symm
  refine⟨vs[0],vs[1],Array.ext (by simp[h2]) fun i h1 h3=>?_⟩
  match i,h3 with
  |0,_=>rfl
  |1,_=>rfl
 have h0:C ρ (fun _=>False) ok w (.lst (xs.map (D.int .i64))) v0:=hc 0 (by simp[af])
 have h1:C ρ (fun _=>False) ok w (.int .i64 x) v1:=hc 1 (by simp[af])
 obtain rfl:=h1.int_inv
 have h0:=h0.lst_inv
 have fin:∀w':World,Below w.heap.size w w'→∀ok',Rep ok' w' ((V.tup [.int .i64 (xs.countP (· <x):Nat),.bool (xs.contains x)]).toD) (.tuple #[.int .i64 (xs.countP (· <x):Nat),.bool (xs.contains x)]):=fun w' _ ok'=>by
  refine .tup _ _ rfl fun i hi=>?_
  match i,hi with
  |0,_=>exact .int _ _
  |1,_=>exact .bool _
 cases xs with
 |nil=>
  obtain⟨a,cap,rfl⟩:∃a cap,v0= .slice a 0 cap:=by
   generalize hd:(([]:List Int).map (D.int .i64))=dl at h0
   cases h0 with
   |none a cap ha hcap=>exact⟨a,cap,rfl⟩
   |lst l n b off cap f hn=>subst hd;exact⟨_,cap,by rw[←hn];rfl⟩
  refine Calls.mono (Any.slices_BinarySearch_int_empty Ac a cap x w) ?_
  rintro e w' ⟨rfl,rfl⟩
  exact⟨_,rfl,Below.refl _ _,fin _ (Below.refl _ _)⟩
 |cons y ys=>
  obtain⟨b,off,cap,rfl,hcell⟩:∃b off cap,v0= .slice (some ⟨b,off,none⟩) (y::ys).length cap∧∀j,j<(y::ys).length→w.cell? ⟨b,off+j,none⟩=some (.int .i64 ((y::ys).getD j 0)):=by
   generalize hd:((y::ys).map (D.int .i64))=dl at h0
   cases h0 with
   |none a cap ha hcap=>cases hd
   |lst l n b off cap f hn hcap hmax hok hsz hpos hcc hr=>
    have hlen:(y::ys).length=n:=by rw[←hn,←hd];simp
    have hz:szl dl=1:=by rw[←hd];rfl
    refine⟨b,off,cap,by rw[hlen],fun j hj=>?_⟩
    have q1:=hcc j 0 (by omega) (by omega)
    have q2:=hr j 0 (by omega) (by omega)
    rw[hz,Nat.mul_one,Nat.add_zero] at q1
    have q3:(dl.getD j .undef).cells.getD 0 .undef= .int .i64 ((y::ys).getD j 0):=by
     rw[←hd]
     simp only[List.getD_eq_getElem?_getD,List.getElem?_map,List.getElem?_eq_getElem hj,Option.map_some,Option.getD_some]
     rfl
    rw[q3] at q2
    generalize f j 0=z at q1 q2
    cases q2
    exact q1
  refine Calls.mono (Any.slices_BinarySearch_int Ac b off (y::ys).length cap (y::ys) x w (Nat.le_refl _) (by omega) hcell (by rw[List.take_length];exact hs)) ?_
  rintro e w' ⟨rfl,q,rfl⟩
  rw[List.take_length]
  exact⟨_,rfl,lU _ _,fin _ (lU _ _)⟩
theorem B4 (xss:List (Option (List Int)))(i:Nat)(xs:List Int)(m:Int)(place:Nat)(hi:xss[i]?=some (some xs))(hp:place≤xs.length)(hl:xs.length≤1000000):ai Tryz.prog 158 [.hro 1 (some i),.int .i64 place,.ref 4] [(1,.frowx 3 (.int .i64) xss),(4,.row 3 (.int .i64) [m])]
  (.hro 1 (some xss.length)) [(1,.frowx 3 (.int .i64) (xss.set i none++[some (bX xs place m)])),(4,.row 3 (.int .i64) [m])]:=by
 have hil:=(List.getElem?_eq_some_iff.1 hi).1
 have l1:∀j,look (toH [(1,VB.frowx 3 (.int .i64) xss),(4,.row 3 (.int .i64) [m])]) (1,j)=(xss[j]?).map (rowX 3 (.int .i64)):=fun j=>by rw[al];simp[look,VB.blks]
 have h1:look (toH [(1,VB.frowx 3 (.int .i64) xss),(4,.row 3 (.int .i64) [m])]) (1,i)=some (.row 3 (xs.map (.int .i64))):=by rw[l1,hi];rfl
 have h2:look (toH [(1,VB.frowx 3 (.int .i64) xss),(4,.row 3 (.int .i64) [m])]) (4,0)=some (.row 3 [.int .i64 m]):=by rw[al];rfl
 have h3:look (toH [(1,VB.frowx 3 (.int .i64) xss),(4,.row 3 (.int .i64) [m])]) (1,xss.length)=none:=by rw[l1];simp
 have hc:=yI En (f:=158) rfl ⟨_,Tryz.func158,rfl,rfl⟩ rfl h1 h2 (by simp) h3 hp hl
 unfold ai
 refine hc.out fun b=>?_
 obtain⟨b1,b2⟩:=b
 show look (toH _) (b1,b2)=look (put (1,xss.length) _ (put (1,i) _ _)) (b1,b2)
 rw[ah,ah,al,al]
 by_cases e1:b1=1
 ·subst e1
  simp only[look,if_true,Option.bind_some,VB.blks,Prod.mk.injEq,true_and]
  by_cases e2:b2=xss.length
  ·subst e2
   rw[if_pos rfl]
   simp[rowX]
   exact⟨rfl,fun _ _=>rfl⟩
  ·rw[if_neg e2]
   by_cases e3:b2=i
   ·subst e3
    rw[if_pos rfl,List.map_append,List.getElem?_append_left (by simpa using hil)]
    simp[List.getElem?_set,hil,rowX]
   ·rw[if_neg e3,List.map_append]
    rcases Nat.lt_or_ge b2 xss.length with hlt|hge
    ·rw[List.getElem?_append_left (by simpa using hlt)]
     simp[List.getElem?_set,Ne.symm e3]
    ·rw[List.getElem?_eq_none (by simp;omega),List.getElem?_eq_none (by simpa using hge)]
 ·simp[look,e1]
end Go.Proofs.YthmfppknagbkeaaGreat.Am
namespace Go.Proofs.YthmfppknagbkeaaGreat.Am
open Go
attribute [local irreducible] Mk bS Ari eQ pS kR cw eG jf jg At ai
set_option maxRecDepth 10000
abbrev rX (s:Int)(c l:List Int)(b:Int)(tabs:List (List (Option Vtx)))(xss:List (Option (List Int)))(ms:List PplM):VH:=[(0,.fvari 142 217 (.ob .vtx) tabs),(1,.frowx 3 (.int .i64) xss),(4,.var 83 [.int .i32 s,.int .u32 0,.lst (.int .i64) c,.lst (.int .i64) l,.int .i64 b,.ref 5,.ref 6]),(5,.row 115 (.hp 0) ((List.range tabs.length).map some)),(6,.row 104 (.pplm 1) ms)]
abbrev FU (s:Int)(c l:List Int)(b:Int)(tabs:List (List (Option Vtx)))(xss:List (Option (List Int)))(ms:List PplM):VH:=[(0,.fvari 142 217 (.ob .vtx) tabs),(1,.frowx 3 (.int .i64) xss),(4,.var 83 [.int .i32 s,.int .u32 0,.lst (.int .i64) c,.lst (.int .i64) l,.int .i64 b,.ref 5,.ref 7]),(5,.row 115 (.hp 0) ((List.range tabs.length).map some)),(6,.gone),(7,.row 104 (.pplm 1) ms)]
def ia (tab:List (Option Vtx))(r n:Nat):List Int:=((List.range n).filter fun a:Nat=>(tab.getD (r*7+a) none).isSome).map fun a:Nat=>(a:Int)
theorem t9 (tab:List (Option Vtx))(r n:Nat):ia tab r (n+1)=if(tab.getD (r*7+n) none).isSome then ia tab r n++[(n:Int)] else ia tab r n:=by
 simp only[ia,List.range_succ,List.filter_append,List.map_append,List.filter_cons,List.filter_nil]
 split<;>simp
theorem xr (tab:List (Option Vtx))(r n:Nat):(ia tab r n).length≤n:=by
 simp only[ia,List.length_map]
 exact Nat.le_trans (List.length_filter_le _ _) (by simp)
theorem j6 {p q:Nat→Bool}{n:Nat}:∀m,n≤m→(∀a,a<n→p a=q a)→(∀a,n≤a→a<m→p a=false)→(List.range m).filter p=(List.range n).filter q
 |0,h,_,_=>by
  obtain rfl:n=0:=by omega
  rfl
 |m+1,h,h1,h2=>by
  rcases Nat.lt_or_ge n (m+1) with hlt|hge
  ·rw[List.range_succ,List.filter_append,j6 m (by omega) h1 (fun a ha hb=>h2 a ha (by omega)),List.filter_cons,h2 m (by omega) (by omega)]
   simp
  ·obtain rfl:n=m+1:=by omega
   exact List.filter_congr fun a ha=>h1 a (List.mem_range.1 ha)
theorem rQ {c:List Int}{g:List Vtx}(h:GraOK c g){r:Nat}(hr:r≤30):ia (az g) r 7=dd g r:=by
 have h7:=(aw.1 h.com).2
 have ht:∀v∈g,fp v:=fun u hu=>cK h.com (h.vtx u hu)
 rw[←rO h]
 unfold ia rN
 congr 1
 refine j6 7 (by omega) (fun a ha=>?_) fun a ha hb=>?_
 ·have:=m6 ht (r:=r) (a:=a) (by omega) (by omega)
  rwa [show ((r:Int)*7+(a:Int)).toNat=r*7+a by omega] at this
 ·have h1:=m6 ht (r:=r) (a:=a) (by omega) (by omega)
  rw[show ((r:Int)*7+(a:Int)).toNat=r*7+a by omega] at h1
  rw[h1,Bool.eq_false_iff]
  intro h2
  obtain⟨v,hv,-,hva⟩:=ce.1 h2
  have:=(bR (h.vtx v hv)).2.1
  omega
theorem uO (s:Int)(c l:List Int)(b:Int)(tabs:List (List (Option Vtx)))(xss:List (Option (List Int)))(ms:List PplM)(m:Int):ai Tryz.prog 124 [.ptr 4 0,.int .i64 m] (rX s c l b tabs xss ms) (.bool (bK c m && m !=b)) (rX s c l b tabs xss ms):=by
 refine aa aX Tryz.func124 rfl rfl false 3 7 rfl rfl rfl rfl fun K hK hb1 hb2=>?_;simp only[ae,enc,Nat.reduceAdd]
 clear hb1 hb2
 have hC:=de c m
 cases h:bK c m<;>rw[h] at hC<;>(repeat' first|refine bf ?_|refine sa fun xe hxe=>?_|refine sb (fun hq=>?_) fun hq=>?_|refine cr (hC) ?_|exact True.intro)<;>(refine⟨congrArg V.bool ?_,rfl⟩;(first|rfl|(simp;done)|(simp_all;done)|(rw[Bool.eq_iff_iff];(try simp at *);omega)|(simp_all;omega)))
theorem uR (s:Int)(c l:List Int)(b:Int)(tabs:List (List (Option Vtx)))(xss:List (Option (List Int)))(ms:List PplM)(i:Nat)(hi:i<ms.length)(hl:ms.length≤1000000):ai Tryz.prog 128 [.ptr 4 0,.int .i64 (i:Int)] (rX s c l b tabs xss ms) (.eptr 6 i 0) (rX s c l b tabs xss ms):=by
 refine aa aX Tryz.func128 rfl rfl false 3 7 rfl rfl rfl rfl fun K hK hb1 hb2=>?_;simp only[ae,enc,Nat.reduceAdd]
 clear hb1 hb2
 (repeat' first|refine bf ?_|refine sa fun xe hxe=>?_|refine sb (fun hq=>?_) fun hq=>?_|exact True.intro)
 exact⟨rfl,rfl⟩
theorem uQ (s:Int)(c l:List Int)(b:Int)(tabs:List (List (Option Vtx)))(xss:List (Option (List Int)))(ms:List PplM)(i:Int)(hi:i<0∨(ms.length:Int)≤i)(hl:ms.length≤1000000):ai Tryz.prog 128 [.ptr 4 0,.int .i64 i] (rX s c l b tabs xss ms) .nilp (rX s c l b tabs xss ms):=by
 refine aa aX Tryz.func128 rfl rfl false 3 7 rfl rfl rfl rfl fun K hK hb1 hb2=>?_;simp only[ae,enc,Nat.reduceAdd]
 clear hb1 hb2
 by_cases h0:i<0
 ·(repeat' first|refine bf ?_|refine sa fun xe hxe=>?_|refine sb (fun hq=>?_) fun hq=>?_|exact True.intro)
  exact⟨rfl,rfl⟩
 ·(repeat' first|refine bf ?_|refine sa fun xe hxe=>?_|refine sb (fun hq=>?_) fun hq=>?_|exact True.intro)
  exact⟨rfl,rfl⟩
theorem C9 (tabs:List (List (Option Vtx)))(k:Nat)(tab:List (Option Vtx))(r:Int)(hk:tabs[k]?=some tab)(ht:tab.length=217)(hr:0≤r∧r≤30):ai Tryz.prog 126 [.hpo 0 (some k),.int .i64 r] [(0,.fvari 142 217 (.ob .vtx) tabs)] (.ref 4) [(0,.fvari 142 217 (.ob .vtx) tabs),(4,.row 3 (.int .i64) (ia tab r.toNat 7))]:=by
 obtain⟨n,rfl⟩:=Int.eq_ofNat_of_zero_le hr.1
 obtain⟨-,hr⟩:=hr
 rw[show (n:Int).toNat=n from rfl]
 refine aa aX Tryz.func126 rfl rfl false 0 4 rfl rfl rfl rfl fun K hK hb1 hb2=>?_;simp only[ae,enc,Nat.reduceAdd]
 clear hb1 hb2
 have hat:∀n,n<217→tab[n]?=some (tab.getD n none):=fun n hn=>by rw[List.getD_eq_getElem?_getD,List.getElem?_eq_getElem (by omega)];rfl
 obtain⟨e,he⟩:∃e:Nat→Option Vtx,∀j,e j=tab.getD (n*7+j) none:=⟨_,fun _=>rfl⟩
 have hg:∀j,j<7→tab[n*7+j]?=some (e j):=fun j hj=>by rw[he];exact hat _ (by omega)
 (repeat' first|refine bf ?_|refine sa fun xe hxe=>?_|refine sb (fun hq=>?_) fun hq=>?_|exact True.intro)
 rename_i e0 h0 e1 h1 e2 h2 e3 h3 e4 h4 e5 h5
 obtain rfl:e0=e 0:=Option.some.inj (h0.symm.trans (hg 0 (by omega)))
 obtain rfl:e1=e 1:=Option.some.inj (h1.symm.trans (hg 1 (by omega)))
 obtain rfl:e2=e 2:=Option.some.inj (h2.symm.trans (hg 2 (by omega)))
 obtain rfl:e3=e 3:=Option.some.inj (h3.symm.trans (hg 3 (by omega)))
 obtain rfl:e4=e 4:=Option.some.inj (h4.symm.trans (hg 4 (by omega)))
 obtain rfl:e5=e 5:=Option.some.inj (h5.symm.trans (hg 5 (by omega)))
 obtain rfl:xe=e 6:=Option.some.inj (hxe.symm.trans (hg 6 (by omega)))
 clear h0 h1 h2 h3 h4 h5 hxe
 refine ag hK [] [5,13,14] (fun j:Nat=>⟨[(5,.ref 4),(13,.agg [.obo .vtx (e 0),.obo .vtx (e 1),.obo .vtx (e 2),.obo .vtx (e 3),.obo .vtx (e 4),.obo .vtx (e 5),.obo .vtx (e 6)]),(14,.int .i64 (j:Int))],[(0,.fvari 142 217 (.ob .vtx) tabs),(4,.row 3 (.int .i64) (ia tab n j))],5⟩) (fun j=>j≤7) (fun j=>7-j) 0 (by omega) rfl ?_
 intro j hj
 by_cases hjl:j<7
 ·have hs:=t9 tab n j
  have hll:=xr tab n j
  rw[←he] at hs
  obtain⟨j1,hj1⟩:∃j1,j1=j+1:=⟨_,rfl⟩
  have hji:((j1:Nat):Int)=(j:Int)+1:=by omega
  rw[←hj1] at hs
  obtain⟨o,ho⟩:∃o,o=e j:=⟨_,rfl⟩
  rw[←ho] at hs
  generalize ia tab n j=la at *
  obtain rfl|rfl|rfl|rfl|rfl|rfl|rfl:j=0∨j=1∨j=2∨j=3∨j=4∨j=5∨j=6:=by omega
  all_goals
   rw[←ho]
   cases o with
   |none=>
    (repeat' first|refine bf ?_|refine sa fun xe hxe=>?_|refine sb (fun hq=>?_) fun hq=>?_|exact True.intro)
    refine⟨j1,by omega,by omega,?_⟩
    rw[hs,hji]
    rfl
   |some v=>
    (repeat' first|refine bf ?_|refine sa fun xe hxe=>?_|refine sb (fun hq=>?_) fun hq=>?_|exact True.intro)
    refine⟨j1,by omega,by omega,?_⟩
    rw[hs,hji]
    rfl
 ·obtain rfl:j=7:=by omega
  (repeat' first|refine bf ?_|refine sa fun xe hxe=>?_|refine sb (fun hq=>?_) fun hq=>?_|exact True.intro)
  exact⟨rfl,rfl⟩
theorem FJ (s:Int)(c l:List Int)(b:Int)(tabs:List (List (Option Vtx)))(xss:List (Option (List Int)))(ms:List PplM)(k:Nat)(g:List Vtx)(h:GraOK c g)(hk:tabs[k]?=some (az g)):ai Tryz.prog 125 [.ptr 4 0,.hpo 0 (some k)] (rX s c l b tabs xss ms) (.int .i64 (dJ c g)) (rX s c l b tabs xss ms):=by
 refine aa aX Tryz.func125 rfl rfl false 3 7 rfl rfl rfl rfl fun K hK hb1 hb2=>?_;simp only[ae,enc,Nat.reduceAdd]
 clear hb1 hb2
 (repeat' first|refine bf ?_|refine sa fun xe hxe=>?_|refine sb (fun hq=>?_) fun hq=>?_|exact True.intro)
 refine ag hK [] [0,1,5] (fun k':Int=>⟨[(0,.ptr 4 0),(1,.hpo 0 (some k)),(5,.int .i64 k')],rX s c l b tabs xss ms,7⟩) (fun k=>(-1≤k∧k≤30)∧dJ c g=fV c g (k+1).toNat) (fun k=>(k+1).toNat) 30 ⟨by simp,rfl⟩ rfl ?_
 rintro r ⟨hi,hh⟩
 by_cases hr:r<0
 ·(repeat' first|refine bf ?_|refine sa fun xe hxe=>?_|refine sb (fun hq=>?_) fun hq=>?_|exact True.intro)
  rw[show (r+1).toNat=0 by omega] at hh
  exact⟨by rw[hh];rfl,rfl⟩
 ·have h1:=kV h r
  have h2:=eh h1
  have h7:=(aw.1 h.com).2
  have ha:=C9 tabs k (az g) r hk (ch g) (by omega)
  rw[rQ h (r:=r.toNat) (by omega),show ((r.toNat:Nat):Int)=r by omega] at ha
  have h4:fV c g (r.toNat+1)=if quo c≤mo c (dd g r.toNat) then(r.toNat:Int) else fV c g r.toNat:=rfl
  rw[show ((r.toNat:Nat):Int)=r by omega] at h4
  rw[show (r+1).toNat=r.toNat+1 by omega,h4] at hh
  by_cases h5:quo c≤mo c (dd g r)
  ·rw[if_pos h5] at hh
   (repeat' first|refine bf ?_|refine sa fun xe hxe=>?_|refine sb (fun hq=>?_) fun hq=>?_|refine cr (uS _ h.com) ?_|((with_reducible refine cA ?_);(conv=>whnf);(first|with_reducible refine aB (uT _ _ h.com (bQ h1) (by omega)) ?_);conv=>whnf)|refine co (ha) ?_|exact True.intro)
   exact⟨by rw[hh],rfl⟩
  ·rw[if_neg h5] at hh
   (repeat' first|refine bf ?_|refine sa fun xe hxe=>?_|refine sb (fun hq=>?_) fun hq=>?_|refine cr (uS _ h.com) ?_|((with_reducible refine cA ?_);(conv=>whnf);(first|with_reducible refine aB (uT _ _ h.com (bQ h1) (by omega)) ?_);conv=>whnf)|refine co (ha) ?_|exact True.intro)
   exact⟨r-1,⟨by omega,by rw[hh];congr 1;omega⟩,by omega,rfl⟩
theorem uM (s:Int)(c l:List Int)(b:Int)(tabs:List (List (Option Vtx)))(xss:List (Option (List Int)))(ms:List PplM)(v:Vtx)(hc:comV c=true)(hv:vtxS c v=true)(hl:ms.length<220):ai Tryz.prog 127 [.ptr 4 0,bu v] (rX s c l b tabs xss ms) (.bool true) (FU s c l b tabs (xss++[some []]) (ms++[⟨v,some xss.length⟩])):=by
 refine aa aX Tryz.func127 rfl rfl false 3 7 rfl rfl rfl rfl fun K hK hb1 hb2=>?_;simp only[ae,enc,Nat.reduceAdd]
 clear hb1 hb2
 have h1:=fB c v
 rw[hc,hv,show (true && true)=true from rfl] at h1
 have hp:=kO hc hv
 (repeat' first|refine bf ?_|refine sa fun xe hxe=>?_|refine sb (fun hq=>?_) fun hq=>?_|refine cr (h1) ?_|((with_reducible refine cA ?_);(conv=>whnf);(first|with_reducible refine aB (jq _ (Nat.le_trans hp (by omega))) ?_);conv=>whnf)|exact True.intro)
 exact⟨rfl,rfl⟩
theorem uL (s:Int)(c l:List Int)(b:Int)(tabs:List (List (Option Vtx)))(xss:List (Option (List Int)))(ms:List PplM)(v:Vtx)(hc:comV c=true)(hn:(vtxS c v && decide (ms.length<220))=false)(hl:ms.length≤1000000):ai Tryz.prog 127 [.ptr 4 0,bu v] (rX s c l b tabs xss ms) (.bool false) (rX s c l b tabs xss ms):=by
 refine aa aX Tryz.func127 rfl rfl false 3 7 rfl rfl rfl rfl fun K hK hb1 hb2=>?_;simp only[ae,enc,Nat.reduceAdd]
 clear hb1 hb2
 have h1:=fB c v
 rw[hc,Bool.true_and] at h1
 cases hv:vtxS c v
 ·rw[hv] at h1
  (repeat' first|refine bf ?_|refine sa fun xe hxe=>?_|refine sb (fun hq=>?_) fun hq=>?_|refine cr (h1) ?_|exact True.intro)
  exact⟨rfl,rfl⟩
 ·rw[hv] at h1 hn
  have hn:¬ms.length<220:=by simpa using hn
  (repeat' first|refine bf ?_|refine sa fun xe hxe=>?_|refine sb (fun hq=>?_) fun hq=>?_|refine cr (h1) ?_|exact True.intro)
  exact⟨rfl,rfl⟩
theorem yv {xs:List Int}(h:xs.Pairwise (· < ·)):xs.Pairwise (· ≤ ·):=h.imp fun h=>Int.le_of_lt h
theorem zL (xss:List (Option (List Int)))(ms:List PplM)(i j:Nat)(v:Vtx)(xs:List Int)(m:Int)(hi:ms[i]?=some ⟨v,some j⟩)(hj:xss[j]?=some (some xs))(hs:xs.Pairwise (· < ·))(hl:xs.length≤1000000)(hm:xs.contains m=true):ai Tryz.prog 131 [.eptr 4 i 0,.int .i64 m] [(1,.frowx 3 (.int .i64) xss),(4,.row 104 (.pplm 1) ms)]
  (.bool false) [(1,.frowx 3 (.int .i64) xss),(4,.row 104 (.pplm 1) ms)]:=by
 refine aa aX Tryz.func131 rfl rfl false 1 5 rfl rfl rfl rfl fun K hK hb1 hb2=>?_;simp only[ae,enc,Nat.reduceAdd]
 clear hb1 hb2
 have hb:=Da xs m (yv hs) hl
 rw[hm] at hb
 (repeat' first|refine bf ?_|refine sa fun xe hxe=>?_|refine sb (fun hq=>?_) fun hq=>?_|((with_reducible refine gr ?_);(conv=>whnf))|((first|with_reducible refine aB (hb) ?_);conv=>whnf)|exact True.intro)
 exact⟨rfl,rfl⟩
theorem zM (xss:List (Option (List Int)))(ms:List PplM)(i j:Nat)(v:Vtx)(xs:List Int)(m:Int)(hi:ms[i]?=some ⟨v,some j⟩)(hj:xss[j]?=some (some xs))(hs:xs.Pairwise (· < ·))(hl:xs.length≤1000000)(hm:xs.contains m=false):ai Tryz.prog 131 [.eptr 4 i 0,.int .i64 m] [(1,.frowx 3 (.int .i64) xss),(4,.row 104 (.pplm 1) ms)]
  (.bool true) [(1,.frowx 3 (.int .i64) (xss.set j none++[some (bX xs (xs.countP (· <m)) m)])),(4,.row 104 (.pplm 1) (ms.set i ⟨v,some xss.length⟩))]:=by
 refine aa aX Tryz.func131 rfl rfl false 1 5 rfl rfl rfl rfl fun K hK hb1 hb2=>?_;simp only[ae,enc,Nat.reduceAdd]
 clear hb1 hb2
 have hb:=Da xs m (yv hs) hl
 rw[hm] at hb
 have hp:xs.countP (· <m)≤xs.length:=List.countP_le_length
 have hC:=B4 xss j xs m _ hj hp hl
 (repeat' first|refine bf ?_|refine sa fun xe hxe=>?_|refine sb (fun hq=>?_) fun hq=>?_|refine co (hC) ?_|((with_reducible refine gr ?_);(conv=>whnf))|((first|with_reducible refine aB (hb) ?_);conv=>whnf)|exact True.intro)
 refine dD (by show xss.length≤(xss.set j none++[_]).length;simp) ?_
 (conv=>whnf)
 (repeat' first|refine bf ?_|refine sa fun xe hxe=>?_|refine sb (fun hq=>?_) fun hq=>?_|refine co (hC) ?_|((with_reducible refine gr ?_);(conv=>whnf))|((first|with_reducible refine aB (hb) ?_);conv=>whnf)|exact True.intro)
 exact⟨rfl,rfl⟩
end Go.Proofs.YthmfppknagbkeaaGreat.Am
namespace Go.Proofs.YthmfppknagbkeaaGreat.Am
open Go
structure Rel (ps:List Ppl)(xss:List (Option (List Int)))(ms:List PplM):Prop where
 len:ms.length=ps.length
 get:∀(i:Nat) (p:Ppl),ps[i]?=some p→∃j:Nat,ms[i]?=some ⟨p.v,some j⟩∧xss[j]?=some (some p.members)
 inj:∀(i i':Nat) (v v':Vtx) (j:Nat),ms[i]?=some ⟨v,some j⟩→ms[i']?=some ⟨v',some j⟩→i=i'
theorem FW (ps:List Ppl):Rel ps (ps.map fun p=>some p.members) (qW ps):=by
 refine⟨ku ps,fun i p h=>⟨i,vg h,by rw[List.getElem?_map,h];rfl⟩,fun i i' v v' j h h'=>?_⟩
 have key:∀{i:Nat} {v:Vtx},(qW ps)[i]?=some ⟨v,some j⟩→i=j:=fun {i v} h=>by
  have hi:=(List.getElem?_eq_some_iff.1 h).1
  rw[ku] at hi
  rw[vg (List.getElem?_eq_getElem hi)] at h
  injection h with h
  injection h with _ h
  exact Option.some.inj h
 rw[key h,key h']
theorem Rel.old {ps:List Ppl}{xss:List (Option (List Int))}{ms:List PplM}(h:Rel ps xss ms){i:Nat}{v:Vtx}{j:Nat}(hi:ms[i]?=some ⟨v,some j⟩):j<xss.length∧∃p,ps[i]?=some p∧p.v=v∧xss[j]?=some (some p.members):=by
 have hl:=(List.getElem?_eq_some_iff.1 hi).1
 rw[h.len] at hl
 obtain⟨j',h1,h2⟩:=h.get i _ (List.getElem?_eq_getElem hl)
 rw[h1] at hi
 injection hi with hi
 injection hi with e1 e2
 obtain rfl:=Option.some.inj e2
 exact⟨(List.getElem?_eq_some_iff.1 h2).1,_,List.getElem?_eq_getElem hl,e1,h2⟩
theorem Rel.add {ps:List Ppl}{xss:List (Option (List Int))}{ms:List PplM}(h:Rel ps xss ms)(v:Vtx):Rel (ps++[⟨v,[]⟩]) (xss++[some []]) (ms++[⟨v,some xss.length⟩]):=by
 refine⟨by simp[h.len],fun i p hi=>?_,fun i i' v1 v2 j h1 h2=>?_⟩
 ·rcases Nat.lt_or_ge i ps.length with hlt|hge
  ·rw[List.getElem?_append_left hlt] at hi
   obtain⟨j,h1,h2⟩:=h.get i p hi
   exact⟨j,by rw[List.getElem?_append_left (by rw[h.len];exact hlt)];exact h1,by rw[List.getElem?_append_left (List.getElem?_eq_some_iff.1 h2).1];exact h2⟩
  ·rw[List.getElem?_append_right hge] at hi
   have e:i=ps.length:=by
    have:=(List.getElem?_eq_some_iff.1 hi).1
    simp at this
    omega
   subst e
   simp at hi
   subst hi
   exact⟨xss.length,by rw[←h.len];simp,by simp⟩
 ·have key:∀{i:Nat} {v1:Vtx},(ms++[(⟨v,some xss.length⟩:PplM)])[i]?=some ⟨v1,some j⟩→(i<ms.length∧ms[i]?=some ⟨v1,some j⟩∧j<xss.length)∨(i=ms.length∧j=xss.length):=fun {i v1} hi=>by
   rcases Nat.lt_or_ge i ms.length with hlt|hge
   ·rw[List.getElem?_append_left hlt] at hi
    exact .inl ⟨hlt,hi,(h.old hi).1⟩
   ·rw[List.getElem?_append_right hge] at hi
    have e:i=ms.length:=by
     have:=(List.getElem?_eq_some_iff.1 hi).1
     simp at this
     omega
    subst e
    simp at hi
    exact .inr ⟨rfl,hi.2.symm⟩
  rcases key h1 with⟨a1,a2,a3⟩|⟨a1,a2⟩<;>rcases key h2 with⟨b1,b2,b3⟩|⟨b1,b2⟩
  ·exact h.inj _ _ _ _ _ a2 b2
  ·omega
  ·omega
  ·omega
theorem Rel.cast {ps:List Ppl}{xss:List (Option (List Int))}{ms:List PplM}(h:Rel ps xss ms){i:Nat}{v:Vtx}{j:Nat}(hi:ms[i]?=some ⟨v,some j⟩)(zs:List Int):Rel (ps.set i ⟨v,zs⟩) (xss.set j none++[some zs]) (ms.set i ⟨v,some xss.length⟩):=by
 have hil:=(List.getElem?_eq_some_iff.1 hi).1
 refine⟨by simp[h.len],fun k p hk=>?_,fun k k' v1 v2 j' h1 h2=>?_⟩
 ·rw[List.getElem?_set] at hk
  by_cases e:i=k
  ·subst e
   rw[if_pos rfl,if_pos (by rw[←h.len];exact hil)] at hk
   obtain rfl:=Option.some.inj hk
   exact⟨xss.length,by rw[List.getElem?_set,if_pos rfl,if_pos hil],by simp⟩
  ·rw[if_neg e] at hk
   obtain⟨j',a1,a2⟩:=h.get k p hk
   have hjl:=(List.getElem?_eq_some_iff.1 a2).1
   refine⟨j',by rw[List.getElem?_set,if_neg e];exact a1,?_⟩
   rw[List.getElem?_append_left (by simpa using hjl),List.getElem?_set,if_neg (fun he=>e (h.inj _ _ _ _ _ hi (he▸a1)))]
   exact a2
 ·have key:∀{k:Nat} {v1:Vtx},(ms.set i (⟨v,some xss.length⟩:PplM))[k]?=some ⟨v1,some j'⟩→(k≠i∧ms[k]?=some ⟨v1,some j'⟩∧j'<xss.length)∨(k=i∧j'=xss.length):=fun {k v1} hk=>by
   rw[List.getElem?_set] at hk
   by_cases e:i=k
   ·subst e
    rw[if_pos rfl,if_pos hil] at hk
    injection hk with hk
    injection hk with _ hk
    exact .inr ⟨rfl,(Option.some.inj hk).symm⟩
   ·rw[if_neg e] at hk
    exact .inl ⟨Ne.symm e,hk,(h.old hk).1⟩
  rcases key h1 with⟨a1,a2,a3⟩|⟨a1,a2⟩<;>rcases key h2 with⟨b1,b2,b3⟩|⟨b1,b2⟩
  ·exact h.inj _ _ _ _ _ a2 b2
  ·omega
  ·omega
  ·omega
theorem lD:∀{xs:List Int} {m:Int},xs.Pairwise (· < ·)→m∉xs→bX xs (xs.countP (· <m)) m=dz xs m
 |[],m,_,_=>rfl
 |x::l,m,h,hm=>by
  obtain⟨h1,h2⟩:=List.pairwise_cons.1 h
  simp only[List.mem_cons,not_or] at hm
  unfold dz
  by_cases c:x<m
  ·rw[if_pos c,←lD h2 hm.2,List.countP_cons,if_pos (by simpa using c)]
   simp[bX]
  ·have h0:l.countP (fun y=>decide (y<m))=0:=by
    rw[List.countP_eq_zero]
    intro y hy
    have:=h1 y hy
    simp only[decide_eq_true_eq]
    omega
   rw[if_neg c,if_neg (fun e=>hm.1 e.symm),List.countP_cons,if_neg (by simpa using c),h0]
   rfl
theorem sy:∀{xs:List Int} {m:Int},xs.Pairwise (· < ·)→m∈xs→dz xs m=xs
 |x::l,m,h,hm=>by
  obtain⟨h1,h2⟩:=List.pairwise_cons.1 h
  unfold dz
  rcases List.mem_cons.1 hm with rfl|hm
  ·rw[if_neg (by omega),if_pos rfl]
  ·rw[if_pos (h1 m hm),sy h2 hm]
theorem rU {w:Wrl}{i m:Int}(hi:mH w i=true)(hs:(prop w i).members.Pairwise (· < ·))(hm:m∈(prop w i).members):jl w i m=w:=by
 obtain⟨h1,h2,-⟩:=gJ hi
 unfold jl
 rw[sy hs hm]
 have:(⟨(prop w i).v,(prop w i).members⟩:Ppl)=prop w i:=rfl
 rw[this]
 have e:w.props.set i.toNat (prop w i)=w.props:=by
  apply List.ext_getElem?
  intro k
  rw[List.getElem?_set]
  by_cases e:i.toNat=k
  ·subst e;rw[if_pos rfl,if_pos h1,h2]
  ·rw[if_neg e]
 rw[e]
def iG (v:Vtx):Nat:=(v.round*7+v.author).toNat
theorem tK:∀(g:List Vtx) (t:List (Option Vtx)) (s:Nat) (a:Option Vtx),(∀x∈g,iG x≠s)→g.foldl (fun t v=>t.set (v.round*7+v.author).toNat (some v)) (t.set s a)=(g.foldl (fun t v=>t.set (v.round*7+v.author).toNat (some v)) t).set s a
 |[],_,_,_,_=>rfl
 |x::g,t,s,a,h=>by
  simp only[List.foldl_cons]
  have h1:(x.round*7+x.author).toNat≠s:=h x (by simp)
  rw[List.set_comm _ _ (Ne.symm h1)]
  exact tK g _ s a fun y hy=>h y (by simp[hy])
theorem tJ:∀(g:List Vtx) (t:List (Option Vtx)) (v:Vtx),(∀x∈g,iG x≠iG v)→(eV g v).foldl (fun t v=>t.set (v.round*7+v.author).toNat (some v)) t=(g.foldl (fun t v=>t.set (v.round*7+v.author).toNat (some v)) t).set (iG v) (some v)
 |[],_,_,_=>rfl
 |x::g,t,v,h=>by
  have h1:(x.round*7+x.author).toNat≠(v.round*7+v.author).toNat:=h x (by simp)
  unfold eV
  split
  ·simp only[List.foldl_cons]
   exact tJ g _ v fun y hy=>h y (by simp[hy])
  ·simp only[List.foldl_cons]
   rw[←tK g _ (iG v) (some v) fun y hy=>h y (by simp[hy]),List.set_comm _ _ (Ne.symm h1)]
   rfl
theorem A5 {g:List Vtx}{v:Vtx}(hg:∀x∈g,fp x)(hv:fp v)(hn:cq g v.round v.author=false):az (eV g v)=(az g).set (iG v) (some v):=by
 refine tJ g _ v fun x hx he=>?_
 obtain⟨⟨a1,a2⟩,a3,a4⟩:=hg x hx
 obtain⟨⟨b1,b2⟩,b3,b4⟩:=hv
 have:cq g v.round v.author=true:=ce.2 ⟨x,hx,by unfold iG at he;omega,by unfold iG at he;omega⟩
 rw[hn] at this
 cases this
theorem Ap {ps:List Ppl}{m r:Int}(hr:0≤r)(h:∀p∈ps,p.v.author=m→p.v.round+1≤r):gX ps m≤r:=by
 induction ps using cJ with
 |h0=>exact hr
 |h l x ih=>
  rw[mQ]
  have h1:=ih fun p hp=>h p (by simp[hp])
  split
  ·rename_i e
   have:=h x (by simp) e
   omega
  ·exact h1
end Go.Proofs.YthmfppknagbkeaaGreat.Am
namespace Go.Proofs.YthmfppknagbkeaaGreat.Am
open Go
attribute [local irreducible] Mk bS Ari eQ pS kR cw eG jf jg At ai
set_option maxRecDepth 10000
abbrev rW (s:Int)(w:Wrl)(xss:List (Option (List Int)))(ms:List PplM):VH:=rX s w.com w.lead w.bad (w.views.map az) xss ms
abbrev Gz (s:Int)(w:Wrl)(xss:List (Option (List Int)))(ms:List PplM):VH:=FU s w.com w.lead w.bad (w.views.map az) xss ms
theorem gk {w:Wrl}(hw:WOK w){m:Int}(hm:0≤m∧m<w.com.length):(w.views.map az)[m.toNat]?=some (az (view w m))∧GraOK w.com (view w m):=by
 have hl:=hw.vlen
 have h:w.views[m.toNat]?=some (view w m):=by
  unfold view
  rw[List.getD_eq_getElem?_getD,List.getElem?_eq_getElem (by omega)]
  rfl
 exact⟨by rw[List.getElem?_map,h];rfl,j8 (hw.gra _ (List.mem_of_getElem? h))⟩
theorem zJ {n:Nat}{m:Int}(hm:0≤m∧m<n):((List.range n).map some)[m.toNat]?=some (some m.toNat):=by
 rw[List.getElem?_map,List.getElem?_range (by omega)]
 rfl
theorem Cw {w:Wrl}{m d:Int}(h1:good w m=true)(h2:gX w.props m≤(eo w m d).round):fh w m d=(vtxS w.com (eo w m d) && decide (w.props.length<220)):=by
 have hd:vtxS w.com (eo w m d)=true→gU d 0 990=true:=fun h=>aD.2 (bR h).2.2.2.1
 unfold fh
 rw[h1,decide_eq_true h2]
 cases h:vtxS w.com (eo w m d)
 ·simp
 ·rw[hd h]
  simp
theorem Cx {w:Wrl}{m d:Int}{p:Ppl}(hp:p∈w.props)(h1:p.v.author=m)(h2:(eo w m d).round≤p.v.round):fh w m d=false:=by
 have:=Ao p hp h1
 unfold fh
 rw[decide_eq_false (p:=gX w.props m≤(eo w m d).round) (by omega)]
 simp
theorem EH {w:Wrl}{m d:Int}(h:dJ w.com (view w m)<0):eo w m d=⟨0,m,[],d⟩:=by
 have:=(ka w.com (view w m) 31).1
 have:dJ w.com (view w m)= -1:=by unfold dJ at *;omega
 unfold eo
 rw[this]
 rfl
theorem EI {w:Wrl}{m d:Int}(h:0≤dJ w.com (view w m)):eo w m d=⟨dJ w.com (view w m)+1,m,dd (view w m) (dJ w.com (view w m)),d⟩:=by
 unfold eo
 rw[if_pos (by omega)]
theorem uC (E:TypeId)(t:Ty)(xs ys:List (Option (List t.den))):ao (VB.frowx E t xs)≤ao (VB.frowx E t (xs++ys)):=by
 show xs.length≤(xs++ys).length
 simp
set_option maxHeartbeats 1000000 in
theorem zZ (s:Int)(w:Wrl)(xss:List (Option (List Int)))(ms:List PplM)(hw:WOK w)(hR:Rel w.props xss ms)(m d:Int):ai Tryz.prog 85 [.ptr 4 0,.int .i64 m,.int .i64 d] (rW s w xss ms) (.bool (fh w m d)) (if fh w m d then Gz s w (xss++[some []]) (ms++[⟨eo w m d,some xss.length⟩]) else rW s w xss ms):=by
 refine aa aX Tryz.func85 rfl rfl false 3 7 rfl rfl rfl rfl fun K hK hb1 hb2=>?_;simp only[ae,enc,Nat.reduceAdd]
 clear hb1 hb2
 have hC:=uO s w.com w.lead w.bad (w.views.map az) xss ms m
 have hpl:=hw.plen
 have hml:=hR.len
 rw[show (bK w.com m && m !=w.bad)=good w m from rfl] at hC
 cases hg:good w m
 ·have hF:fh w m d=false:=by unfold fh;rw[hg];rfl
  rw[hg] at hC
  (repeat' first|refine bf ?_|refine sa fun xe hxe=>?_|refine sb (fun hq=>?_) fun hq=>?_|refine cr (hC) ?_|exact True.intro)
  rw[hF]
  exact⟨rfl,rfl⟩
 ·rw[hg] at hC
  obtain⟨hm,-⟩:=cS.1 hg
  obtain⟨hk,hG⟩:=gk hw hm
  have hvl:(w.views.map az).length=w.com.length:=by rw[List.length_map,hw.vlen]
  have hc:=hw.com
  have h7:=(aw.1 hc).2
  have hxv:=zJ (n:=(w.views.map az).length) (m:=m) (by rw[hvl];exact hm)
  have hrl:((List.range (w.views.map az).length).map some).length=w.com.length:=by simp[hvl,hw.vlen]
  have hno:=fun p hp=>Cx (w:=w) (m:=m) (d:=d) (p:=p) hp
  have heq:=Cw (w:=w) (m:=m) (d:=d) hg
  have hH:=FJ s w.com w.lead w.bad (w.views.map az) xss ms m.toNat (view w m) hG hk
  have hlt31:=ka w.com (view w m) 31
  have hT:=fun r h0 h1=>C9 (w.views.map az) m.toNat _ r hk (ch _) ⟨h0,h1⟩
  have hTe:=fun(r:Nat) (hr:r≤30)=>rQ hG hr
  have hAm:=kV hG
  rw[show fV w.com (view w m) 31=dJ w.com (view w m) from rfl] at hlt31
  rcases Int.lt_or_le (dJ w.com (view w m)) 0 with hh|hh
  ·rw[EH hh] at hno heq⊢
   (repeat' first|refine bf ?_|refine sa fun xe hxe=>?_|refine sb (fun hq=>?_) fun hq=>?_|refine cr (hC) ?_|refine cr (hH) ?_|exact True.intro)
   refine ag hK [] [0,1,7,45,46,47] (fun i:Nat=>⟨[(0,.ptr 4 0),(1,.int .i64 m),(7,.ptr 7 0),(45,.ref 6),(46,.int .i64 ms.length),(47,.int .i64 (i:Int))],rW s w xss ms++[(7,VB.var 43 [.int .i64 0,.int .i64 m,.nils,.int .i64 d])],8⟩) (fun i=>i≤w.props.length∧∀p∈w.props.take i,¬(p.v.author=m∧0≤p.v.round)) (fun i=>w.props.length-i) 0 (by simp) (by(conv=>whnf);rfl) ?_
   rintro i ⟨hi,hall⟩
   by_cases hlt:i<w.props.length
   ·have hxe:w.props[i]?=some w.props[i]:=List.getElem?_eq_getElem hlt
    have hsn:w.props.take (i+1)=w.props.take i++[w.props[i]]:=List.take_succ_eq_append_getElem hlt
    obtain⟨j,hj1,hj2⟩:=hR.get i _ hxe
    have hno:=hno _ (List.getElem_mem hlt)
    generalize w.props[i]=p at *
    by_cases c1:p.v.author=m
    ·by_cases c2:0≤p.v.round
     ·have hF:=hno c1 c2
      (repeat' first|refine bf ?_|refine sa fun xe hxe=>?_|refine sb (fun hq=>?_) fun hq=>?_|exact True.intro)
      rw[hF]
      exact⟨rfl,rfl⟩
     ·(repeat' first|refine bf ?_|refine sa fun xe hxe=>?_|refine sb (fun hq=>?_) fun hq=>?_|exact True.intro)
      exact⟨i+1,⟨by omega,by rw[hsn];exact aS hall fun h=>c2 h.2⟩,by omega,rfl⟩
    ·(repeat' first|refine bf ?_|refine sa fun xe hxe=>?_|refine sb (fun hq=>?_) fun hq=>?_|exact True.intro)
     exact⟨i+1,⟨by omega,by rw[hsn];exact aS hall fun h=>c1 h.1⟩,by omega,rfl⟩
   ·rw[List.take_of_length_le (by omega)] at hall
    have heq:=heq (Ap (by show (0:Int)≤0;omega) fun p hp ha=>by
     have:=hall p hp
     show p.v.round+1≤0
     omega)
    cases hv:(vtxS w.com ⟨0,m,[],d⟩ && decide (w.props.length<220))
    ·rw[hv] at heq
     have hN:=uL s w.com w.lead w.bad (w.views.map az) xss ms ⟨0,m,[],d⟩ hc (by rw[hml];exact hv) (by omega)
     (repeat' first|refine bf ?_|refine sa fun xe hxe=>?_|refine sb (fun hq=>?_) fun hq=>?_|refine cr (hN) ?_|exact True.intro)
     rw[heq]
     exact⟨rfl,rfl⟩
    ·rw[hv] at heq
     simp only[Bool.and_eq_true,decide_eq_true_eq] at hv
     have hY:=uM s w.com w.lead w.bad (w.views.map az) xss ms ⟨0,m,[],d⟩ hc hv.1 (by omega)
     (repeat' first|refine bf ?_|refine sa fun xe hxe=>?_|refine sb (fun hq=>?_) fun hq=>?_|refine cr (hY) ?_|exact True.intro)
     refine dD (uC _ _ _ _) ?_
     (conv=>whnf)
     (repeat' first|refine bf ?_|refine sa fun xe hxe=>?_|refine sb (fun hq=>?_) fun hq=>?_|refine cr (hY) ?_|exact True.intro)
     rw[heq]
     exact⟨rfl,rfl⟩
  ·rw[EI hh] at hno heq⊢
   have hT:=hT (dJ w.com (view w m)) hh (by omega)
   rw[hTe (dJ w.com (view w m)).toNat (by omega),show (((dJ w.com (view w m)).toNat:Nat):Int)=dJ w.com (view w m) by omega] at hT
   have hal:=eh (hAm (dJ w.com (view w m)))
   (repeat' first|refine bf ?_|refine sa fun xe hxe=>?_|refine sb (fun hq=>?_) fun hq=>?_|refine cr (hC) ?_|refine cr (hH) ?_|refine co (hT) ?_|exact True.intro)
   refine ag hK [] [0,1,7,45,46,47] (fun i:Nat=>⟨[(0,.ptr 4 0),(1,.int .i64 m),(7,.ptr 7 0),(45,.ref 6),(46,.int .i64 ms.length),(47,.int .i64 (i:Int))],rW s w xss ms++[(7,VB.var 43 [.int .i64 (dJ w.com (view w m)+1),.int .i64 m,.ref 8,.int .i64 d]),(8,VB.row 3 (.int .i64) (dd (view w m) (dJ w.com (view w m))))],9⟩) (fun i=>i≤w.props.length∧∀p∈w.props.take i,¬(p.v.author=m∧(dJ w.com (view w m)+1)≤p.v.round)) (fun i=>w.props.length-i) 0 (by simp) (by(conv=>whnf);rfl) ?_
   rintro i ⟨hi,hall⟩
   by_cases hlt:i<w.props.length
   ·have hxe:w.props[i]?=some w.props[i]:=List.getElem?_eq_getElem hlt
    have hsn:w.props.take (i+1)=w.props.take i++[w.props[i]]:=List.take_succ_eq_append_getElem hlt
    obtain⟨j,hj1,hj2⟩:=hR.get i _ hxe
    have hno:=hno _ (List.getElem_mem hlt)
    generalize w.props[i]=p at *
    by_cases c1:p.v.author=m
    ·by_cases c2:(dJ w.com (view w m)+1)≤p.v.round
     ·have hF:=hno c1 c2
      (repeat' first|refine bf ?_|refine sa fun xe hxe=>?_|refine sb (fun hq=>?_) fun hq=>?_|exact True.intro)
      rw[hF]
      exact⟨rfl,rfl⟩
     ·(repeat' first|refine bf ?_|refine sa fun xe hxe=>?_|refine sb (fun hq=>?_) fun hq=>?_|exact True.intro)
      exact⟨i+1,⟨by omega,by rw[hsn];exact aS hall fun h=>c2 h.2⟩,by omega,rfl⟩
    ·(repeat' first|refine bf ?_|refine sa fun xe hxe=>?_|refine sb (fun hq=>?_) fun hq=>?_|exact True.intro)
     exact⟨i+1,⟨by omega,by rw[hsn];exact aS hall fun h=>c1 h.1⟩,by omega,rfl⟩
   ·rw[List.take_of_length_le (by omega)] at hall
    have heq:=heq (Ap (by show (0:Int)≤(dJ w.com (view w m)+1);omega) fun p hp ha=>by
     have:=hall p hp
     show p.v.round+1≤(dJ w.com (view w m)+1)
     omega)
    cases hv:(vtxS w.com ⟨(dJ w.com (view w m)+1),m,dd (view w m) (dJ w.com (view w m)),d⟩ && decide (w.props.length<220))
    ·rw[hv] at heq
     have hN:=uL s w.com w.lead w.bad (w.views.map az) xss ms ⟨(dJ w.com (view w m)+1),m,dd (view w m) (dJ w.com (view w m)),d⟩ hc (by rw[hml];exact hv) (by omega)
     (repeat' first|refine bf ?_|refine sa fun xe hxe=>?_|refine sb (fun hq=>?_) fun hq=>?_|refine cr (hN) ?_|exact True.intro)
     rw[heq]
     exact⟨rfl,rfl⟩
    ·rw[hv] at heq
     simp only[Bool.and_eq_true,decide_eq_true_eq] at hv
     have hY:=uM s w.com w.lead w.bad (w.views.map az) xss ms ⟨(dJ w.com (view w m)+1),m,dd (view w m) (dJ w.com (view w m)),d⟩ hc hv.1 (by omega)
     (repeat' first|refine bf ?_|refine sa fun xe hxe=>?_|refine sb (fun hq=>?_) fun hq=>?_|refine cr (hY) ?_|exact True.intro)
     refine dD (uC _ _ _ _) ?_
     (conv=>whnf)
     (repeat' first|refine bf ?_|refine sa fun xe hxe=>?_|refine sb (fun hq=>?_) fun hq=>?_|refine cr (hY) ?_|exact True.intro)
     rw[heq]
     exact⟨rfl,rfl⟩
theorem zj {E:TypeId}{t:Ty}{xs:List (Option (List t.den))}{j:Nat}{o:Option (List t.den)}{ys:List (Option (List t.den))}:ao (VB.frowx E t xs)≤ao (VB.frowx E t (xs.set j o++ys)):=by
 show xs.length≤(xs.set j o++ys).length
 simp
theorem lv {w:Wrl}{i:Int}(hi:mH w i=true):∃n:Nat,i=n∧n<w.props.length∧w.props[n]?=some (prop w i):=by
 obtain⟨h1,h2,-⟩:=gJ hi
 have h0:=(aD.1 hi).1
 exact⟨i.toNat,by omega,h1,h2⟩
theorem vd {w:Wrl}{i:Int}(hi:mH w i=false):i<0∨(w.props.length:Int)≤i:=by
 rw[Bool.eq_false_iff] at hi
 rcases Int.lt_or_le i 0 with h|h
 ·exact .inl h
 ·refine .inr ?_
  rcases Int.lt_or_le i w.props.length with h2|h2
  ·exact absurd (aD.2 ⟨h,by omega⟩) hi
  ·exact h2
theorem ly {w:Wrl}(hw:WOK w){p:Ppl}(hp:p∈w.props):vtxS w.com p.v=true∧cj w.com p.members=true:=by
 have:=hw.one p hp
 simpa[oneP] using this
theorem jd {c:List Int}{v:Vtx}(hc:comV c=true)(h:vtxS c v=true):(v.parents≠[]→1≤v.round∧v.round≤31)∧(∀p∈v.parents,0≤p∧p≤6):=by
 obtain⟨h1,h2,h3,h4,h5,h6⟩:=bR h
 have h7:=(aw.1 hc).2
 refine⟨fun hne=>⟨?_,by omega⟩,fun p hp=>?_⟩
 ·rcases Int.lt_or_le v.round 1 with hlt|hge
  ·exact absurd (h5 (by omega)) hne
  ·exact hge
 ·have:=bQ h3 p hp
  omega
theorem yQ {w:Wrl}(hw:WOK w){m:Int}(hm:0≤m∧m<w.com.length){v:Vtx}(hv:vtxS w.com v=true):mn (az (view w m)) v=parOK (view w m) v:=by
 have hG:=(gk hw hm).2
 exact xb (fun u hu=>cK hw.com (hG.vtx u hu)) (jd hw.com hv).1 (jd hw.com hv).2
def rY (w:Wrl)(m i:Int)(k:Nat):Bool:=(k:Int) !=i && (slt (w.props.getD k p0).v (prop w i).v && (w.props.getD k p0).members.contains m)
theorem Bz {w:Wrl}{m i:Int}{k:Nat}(hk:k<w.props.length)(h:rY w m i k=true):By w m i=true:=List.any_eq_true.2 ⟨k,List.mem_range.2 hk,h⟩
theorem DI {w:Wrl}{m i:Int}(h:∀k,k<w.props.length→rY w m i k=false):By w m i=false:=by
 rw[Bool.eq_false_iff]
 intro h2
 obtain⟨k,hk,h3⟩:=List.any_eq_true.1 h2
 have:=h k (List.mem_range.1 hk)
 rw[show rY w m i k=true from h3] at this
 cases this
theorem B6 (s:Int)(w:Wrl)(xss:List (Option (List Int)))(ms:List PplM)(hw:WOK w)(hR:Rel w.props xss ms)(m i:Int)(hi:mH w i=false):ai Tryz.prog 86 [.ptr 4 0,.int .i64 m,.int .i64 i] (rW s w xss ms) (.bool false) (rW s w xss ms):=by
 have hpl:=hw.plen
 have hml:=hR.len
 refine aa aX Tryz.func86 rfl rfl false 3 7 rfl rfl rfl rfl fun K hK hb1 hb2=>?_;simp only[ae,enc,Nat.reduceAdd]
 clear hb1 hb2
 have hP:=uQ s w.com w.lead w.bad (w.views.map az) xss ms i (by rw[hml];exact vd hi) (by omega)
 (repeat' first|refine bf ?_|refine sa fun xe hxe=>?_|refine sb (fun hq=>?_) fun hq=>?_|refine cr (hP) ?_|exact True.intro)
 exact⟨rfl,rfl⟩
set_option maxHeartbeats 1000000 in
theorem Eh (s:Int)(w:Wrl)(xss:List (Option (List Int)))(ms:List PplM)(hw:WOK w)(hR:Rel w.props xss ms)(m:Int)(i j:Nat)(hi:mH w i=true)(hj1:ms[i]?=some ⟨(prop w i).v,some j⟩)(hj2:xss[j]?=some (some (prop w i).members)):ai Tryz.prog 86 [.ptr 4 0,.int .i64 m,.int .i64 (i:Int)] (rW s w xss ms)
  (.bool (fj w m i && !(prop w i).members.contains m)) (if fj w m i && !(prop w i).members.contains m then rW s w (xss.set j none++[some (dz (prop w i).members m)]) (ms.set i ⟨(prop w i).v,some xss.length⟩) else rW s w xss ms):=by
 have hpl:=hw.plen
 have hml:=hR.len
 have hil:=(List.getElem?_eq_some_iff.1 hj1).1
 obtain⟨n,hn,hn1,hn2⟩:=lv hi
 obtain rfl:i=n:=by omega
 obtain⟨o1,o2⟩:=ly hw (List.mem_of_getElem? hn2)
 refine aa aX Tryz.func86 rfl rfl false 3 7 rfl rfl rfl rfl fun K hK hb1 hb2=>?_;simp only[ae,enc,Nat.reduceAdd]
 clear hb1 hb2
 have hP:=uR s w.com w.lead w.bad (w.views.map az) xss ms i (by omega) (by omega)
 have hC:=uO s w.com w.lead w.bad (w.views.map az) xss ms m
 rw[show (bK w.com m && m !=w.bad)=good w m from rfl] at hC
 cases hg:good w m
 ·have hF:fj w m i=false:=by unfold fj;rw[hg];rfl
  rw[hg] at hC
  (repeat' first|refine bf ?_|refine sa fun xe hxe=>?_|refine sb (fun hq=>?_) fun hq=>?_|refine cr (hP) ?_|refine cr (hC) ?_|exact True.intro)
  rw[hF]
  exact⟨rfl,rfl⟩
 ·rw[hg] at hC
  obtain⟨hm,-⟩:=cS.1 hg
  obtain⟨hk,hG⟩:=gk hw hm
  have hc:=hw.com
  have h7:=(aw.1 hc).2
  have hvl:(w.views.map az).length=w.com.length:=by rw[List.length_map,hw.vlen]
  have hxv:=zJ (n:=(w.views.map az).length) (m:=m) (by rw[hvl];exact hm)
  have hrl:((List.range (w.views.map az).length).map some).length=w.com.length:=by simp[hvl,hw.vlen]
  have hV:=yR (w.views.map az) m.toNat _ (prop w i).v hk (ch _) (jd hc o1).1 (jd hc o1).2
  rw[yQ hw hm o1] at hV
  cases hp:parOK (view w m) (prop w i).v
  ·have hF:fj w m i=false:=by unfold fj;rw[hp];simp
   rw[hp] at hV
   (repeat' first|refine bf ?_|refine sa fun xe hxe=>?_|refine sb (fun hq=>?_) fun hq=>?_|refine cr (hP) ?_|refine cr (hC) ?_|refine cr (hV) ?_|exact True.intro)
   rw[hF]
   exact⟨rfl,rfl⟩
  ·rw[hp] at hV
   have hB:fj w m i= !By w m i:=by unfold fj;rw[hg,hi,hp];simp
   (repeat' first|refine bf ?_|refine sa fun xe hxe=>?_|refine sb (fun hq=>?_) fun hq=>?_|refine cr (hP) ?_|refine cr (hC) ?_|refine cr (hV) ?_|exact True.intro)
   refine ag hK [] [0,1,2,7,39,40,41] (fun k:Nat=>⟨[(0,.ptr 4 0),(1,.int .i64 m),(2,.int .i64 (i:Int)),(7,.eptr 6 i 0),(39,.ref 6),(40,.int .i64 ms.length),(41,.int .i64 (k:Int))],rW s w xss ms,7⟩) (fun k=>k≤w.props.length∧∀k',k'<k→rY w m i k'=false) (fun k=>w.props.length-k) 0 (by simp) (by(conv=>whnf);rfl) ?_
   rintro k ⟨hk1,hall⟩
   by_cases hlt:k<w.props.length
   ·have hxe:w.props[k]?=some w.props[k]:=List.getElem?_eq_getElem hlt
    obtain⟨jk,hq1,hq2⟩:=hR.get k _ hxe
    have hyes:=Bz (m:=m) (i:=(i:Int)) hlt
    have hgd:w.props.getD k p0=w.props[k]:=by rw[List.getD_eq_getElem?_getD,hxe];rfl
    have hD:rY w m i k=((k:Int) !=i && (slt w.props[k].v (prop w i).v && w.props[k].members.contains m)):=by unfold rY;rw[hgd]
    generalize w.props[k]=q at *
    have hS:=nQ q.v (prop w i).v
    have hN:=fv q.members m
    have gX:rY w m i k=false→∀k',k'<k+1→rY w m i k'=false:=fun h k' hk'=>by
     rcases Nat.lt_or_ge k' k with h1|h1
     ·exact hall k' h1
     ·obtain rfl:k'=k:=by omega
      exact h
    by_cases c1:k=i
    ·have c2:((k:Int) !=i)=false:=by simp[c1]
     rw[c2,Bool.false_and] at hD
     (repeat' first|refine bf ?_|refine sa fun xe hxe=>?_|refine sb (fun hq=>?_) fun hq=>?_|exact True.intro)
     exact⟨k+1,⟨by omega,gX hD⟩,by omega,rfl⟩
    ·have c2:((k:Int) !=i)=true:=by simp;omega
     rw[c2,Bool.true_and] at hD
     cases c3:slt q.v (prop w i).v
     ·rw[c3] at hD hS
      (repeat' first|refine bf ?_|refine sa fun xe hxe=>?_|refine sb (fun hq=>?_) fun hq=>?_|refine cr (hS) ?_|exact True.intro)
      exact⟨k+1,⟨by omega,gX hD⟩,by omega,rfl⟩
     ·rw[c3,Bool.true_and] at hD
      rw[c3] at hS
      cases c4:q.members.contains m
      ·rw[c4] at hD hN
       (repeat' first|refine bf ?_|refine sa fun xe hxe=>?_|refine sb (fun hq=>?_) fun hq=>?_|refine cr (hS) ?_|((with_reducible refine gr ?_);(conv=>whnf))|((first|with_reducible refine aB (hN) ?_);conv=>whnf)|exact True.intro)
       exact⟨k+1,⟨by omega,gX hD⟩,by omega,rfl⟩
      ·rw[c4] at hD hN
       rw[hyes hD] at hB
       (repeat' first|refine bf ?_|refine sa fun xe hxe=>?_|refine sb (fun hq=>?_) fun hq=>?_|refine cr (hS) ?_|((with_reducible refine gr ?_);(conv=>whnf))|((first|with_reducible refine aB (hN) ?_);conv=>whnf)|exact True.intro)
       rw[hB]
       exact⟨rfl,rfl⟩
   ·rw[DI fun k' hk'=>hall k' (by omega)] at hB
    rw[hB]
    have hl:=eh o2
    have ha:=e9 o2
    cases hm2:(prop w i).members.contains m
    ·have hY:=zM xss ms i j _ _ m hj1 hj2 ha (by omega) hm2
     rw[lD ha (by simpa using hm2)] at hY
     (repeat' first|refine bf ?_|refine sa fun xe hxe=>?_|refine sb (fun hq=>?_) fun hq=>?_|refine cr (hY) ?_|exact True.intro)
     refine dD zj ?_
     (conv=>whnf)
     (repeat' first|refine bf ?_|refine sa fun xe hxe=>?_|refine sb (fun hq=>?_) fun hq=>?_|refine cr (hY) ?_|exact True.intro)
     exact⟨rfl,rfl⟩
    ·have hY:=zL xss ms i j _ _ m hj1 hj2 ha (by omega) hm2
     (repeat' first|refine bf ?_|refine sa fun xe hxe=>?_|refine sb (fun hq=>?_) fun hq=>?_|refine cr (hY) ?_|exact True.intro)
     exact⟨rfl,rfl⟩

end Go.Proofs.YthmfppknagbkeaaGreat.Am
