/- Runs: what events do, and what they keep: plain laws. Runs: more plain laws: bounds, what is put into lists in order, quiet rounds. Runs: what the specification's functions of events give. Runs: what the specification's functions of events give, put together. Runs: quiet rounds, copies, whole events: what the specification gives. What is drawn: the reader of bytes. What is drawn for graphs. New runs: what the program gives; equal runs; the law FnWorldNew. What is drawn for new runs; the law FnWorldNew. What is drawn for runs. What is drawn for runs: whole runs, runs that are often invalid. Cer -/
import Derived.WalkKit
import Derived.ProofKit
import Derived.OpenShut
import Derived.Carry
import Derived.ChangeSlices
import Derived.ChangeSame
import Derived.Test.YtgfcmhjebbncpaaRows
import Derived.Test.YtgfcmhjebbncpaaCE8
set_option linter.unusedSimpArgs false
set_option linter.unusedVariables false
set_option maxHeartbeats 1000000
namespace Go.Proofs.Ytgfcmhjebbncpaa.Am
open Go
structure WOK (w:Wrl):Prop where
 com:comV w.com=true
 lead:leaS w.com w.lead=true
 bad:badS w.com w.bad=true
 one:∀p∈w.props,oneP w.com p=true
 fit:w.props.Pairwise fun q p=>fitP w.bad p q=true
 plen:w.props.length≤220
 vlen:w.views.length=w.com.length
 gra:∀g∈w.views,graS w.com g=true
 knw:∀g∈w.views,∀v∈g,∃p∈w.props,don w.com p=true∧p.v=v
 bv:∀i:Nat,i<w.views.length→(i:Int)=w.bad→w.views.getD i []=[]
 kp:∀p∈w.props,∀m:Nat,m<w.views.length→(m:Int)≠w.bad→((m:Int)=p.v.author∨(m:Int)∈p.members)→parOK (w.views.getD m []) p.v=true
theorem rP {c:List Int}{ps:List Ppl}{v:Vtx}:knw c ps v=true↔∃p∈ps,don c p=true∧p.v=v:=by
 simp only[knw,List.any_eq_true,Bool.and_eq_true,mK]
theorem o5 {b:Int}{ps:List Ppl}{gs:List (List Vtx)}:jz b ps gs=true↔∀p∈ps,∀m:Nat,m<gs.length→(m:Int)≠b→((m:Int)=p.v.author∨(m:Int)∈p.members)→parOK (gs.getD m []) p.v=true:=by
 simp only[jz,List.all_eq_true,aI,ef,Bool.or_eq_true,Bool.not_eq_true',Bool.and_eq_false_iff,bne_eq_false_iff_eq,Bool.or_eq_false_iff,beq_eq_false_iff_ne]
 constructor
 ·intro h p hp m hm hb hv
  rcases h p hp m hm with(h1|h1)|h1
  ·exact absurd h1 hb
  ·rcases hv with hv|hv
   ·exact absurd hv h1.1
   ·have:=h1.2
    rw[List.contains_iff_mem.2 hv] at this
    cases this
  ·exact h1
 ·intro h p hp m hm
  by_cases hb:(m:Int)=b
  ·exact .inl (.inl hb)
  by_cases hv:(m:Int)=p.v.author∨(m:Int)∈p.members
  ·exact .inr (h p hp m hm hb hv)
  ·refine .inl (.inr ⟨fun h=>hv (.inl h),?_⟩)
   rw[Bool.eq_false_iff]
   exact fun h=>hv (.inr (List.contains_iff_mem.1 h))
theorem o6 {c:List Int}{b:Int}{ps:List Ppl}:dE c b ps=true↔(∀p∈ps,oneP c p=true)∧(ps.Pairwise fun q p=>fitP b p q=true)∧ps.length≤220:=by
 constructor
 ·intro h
  refine⟨ke h,?_,jR h⟩
  simp only[dE,Bool.and_eq_true,aI] at h
  rw[List.pairwise_iff_getElem]
  intro i j hi hj hij
  have:=h.1 j hj
  simp only[cF,Bool.and_eq_true,aI] at this
  have:=this.2 i hij
  simpa[List.getD_eq_getElem?_getD,List.getElem?_eq_getElem hi,List.getElem?_eq_getElem hj] using this
 ·rintro⟨h1,h2,h3⟩
  simp only[dE,Bool.and_eq_true,aI,decide_eq_true_eq]
  refine⟨fun j hj=>?_,by omega⟩
  simp only[cF,Bool.and_eq_true,aI]
  refine⟨h1 _ (eN hj),fun i hi=>?_⟩
  have:=List.pairwise_iff_getElem.1 h2 i j (by omega) hj hi
  simpa[List.getD_eq_getElem?_getD,List.getElem?_eq_getElem hj,List.getElem?_eq_getElem (show i<ps.length by omega)] using this
theorem pG {c:List Int}{b:Int}{ps:List Ppl}{gs:List (List Vtx)}:dk c b ps gs=true↔(∀g∈gs,graS c g=true)∧(∀g∈gs,∀v∈g,knw c ps v=true)∧∀i:Nat,i<gs.length→(i:Int)=b→gs.getD i []=[]:=by
 simp only[dk,aI,iS,Bool.and_eq_true,List.all_eq_true,Bool.or_eq_true,Bool.not_eq_true',beq_eq_false_iff_ne,List.isEmpty_iff]
 constructor
 ·intro h
  refine⟨fun g hg=>?_,fun g hg=>?_,fun i hi hb=>?_⟩
  ·obtain⟨j,hj,rfl⟩:=bK (d:=[]) hg
   exact(h j hj).1.2
  ·obtain⟨j,hj,rfl⟩:=bK (d:=[]) hg
   exact(h j hj).1.1
  ·rcases (h i hi).2 with h1|h1
   ·exact absurd hb h1
   ·exact h1
 ·rintro⟨h1,h2,h3⟩ i hi
  have hm:gs.getD i []∈gs:=eN hi
  refine⟨⟨h2 _ hm,h1 _ hm⟩,?_⟩
  by_cases hb:(i:Int)=b
  ·exact .inr (h3 i hi hb)
  ·exact .inl hb
theorem rI {w:Wrl}:gz w=true↔WOK w:=by
 rw[sg,Bool.and_eq_true]
 constructor
 ·rintro⟨h1,h2⟩
  obtain⟨p1,p2,p3,p4,p5,p6⟩:=kV h1
  obtain⟨q1,q2,q3⟩:=o6.1 p4
  obtain⟨r1,r2,r3⟩:=pG.1 p6
  exact⟨p1,p2,p3,q1,q2,q3,p5,r1,fun g hg v hv=>rP.1 (r2 g hg v hv),r3,o5.1 h2⟩
 ·intro h
  refine⟨?_,o5.2 h.kp⟩
  have h1:=o6.2 ⟨h.one,h.fit,h.plen⟩
  have h2:=pG.2 ⟨h.gra,fun g hg v hv=>rP.2 (h.knw g hg v hv),h.bv⟩
  simp[eS,ge,h.com,h.lead,h.bad,h1,h2,h.vlen]
def good (w:Wrl)(m:Int):Bool:=bQ w.com m && m !=w.bad
def view (w:Wrl)(m:Int):List Vtx:=w.views.getD m.toNat []
def A9 (ps:List Ppl)(m:Int):Int:=ps.foldl (fun n p=>if p.v.author=m then max n (p.v.round+1) else n) 0
def prop (w:Wrl)(i:Int):Ppl:=w.props.getD i.toNat p0
def By (w:Wrl)(i:Int):Bool:=gx i 0 (w.props.length-1)
def AC:List Vtx→Vtx→List Vtx
 |[],v=>[v]
 |x::g,v=>if bef x v then x::AC g v else v::x::g
def Bk (w:Wrl)(m i:Int):Bool:=good w m && (By w i && (don w.com (prop w i) && (!eg (view w m) (prop w i).v.round (prop w i).v.author && parOK (view w m) (prop w i).v)))
def A4 (w:Wrl)(m i:Int):Wrl:=if Bk w m i then {w with views:=w.views.set m.toNat (AC (view w m) (prop w i).v)} else w
theorem tO {w:Wrl}{m:Int}:good w m=true↔(0≤m∧m<w.com.length)∧m≠w.bad:=by
 simp only[good,bQ,Bool.and_eq_true,aJ,bne_iff_ne]
 omega
theorem xo {c:List Int}{g:List Vtx}(h:graS c g=true):g.length≤217:=by
 have hg:=xJ h
 have ht:∀v∈g,js v:=fun v hv=>iB hg.com (hg.vtx v hv)
 have h1:((g.map fun v=>(v.round*7+v.author).toNat)).Nodup:=by
  rw[List.Nodup,List.pairwise_map]
  refine hg.pw.imp_of_mem fun {a b} ha hb hab=>?_
  obtain⟨⟨a1,a2⟩,a3,a4⟩:=ht a ha
  obtain⟨⟨b1,b2⟩,b3,b4⟩:=ht b hb
  simp only[bef,Bool.or_eq_true,Bool.and_eq_true,decide_eq_true_eq] at hab
  omega
 have h2:=gt h1 (b:=List.range 217) fun k hk=>by
  obtain⟨v,hv,rfl⟩:=List.mem_map.1 hk
  obtain⟨⟨a1,a2⟩,a3,a4⟩:=ht v hv
  rw[List.mem_range]
  omega
 simpa using h2
theorem WOK.len {w:Wrl}(h:WOK w):1≤w.com.length∧w.com.length≤7:=(aF.1 h.com).2
theorem WOK.vl {w:Wrl}(h:WOK w):∀g∈w.views,g.length≤217:=fun g hg=>xo (h.gra g hg)
theorem WOK.vv {w:Wrl}(h:WOK w):∀g∈w.views,∀v∈g,vtxS w.com v=true:=fun g hg=>rp (h.gra g hg)
theorem WOK.pv {w:Wrl}(h:WOK w):∀p∈w.props,vtxS w.com p.v=true∧bV w.com p.members=true:=fun p hp=>by
 have:=h.one p hp
 simpa only[oneP,Bool.and_eq_true] using this
theorem WOK.par {w:Wrl}(h:WOK w){v:Vtx}(hv:vtxS w.com v=true):v.parents.length≤7:=nS h.com hv
theorem WOK.view {w:Wrl}(h:WOK w){m:Int}(hm:good w m=true):w.views[m.toNat]?=some (view w m)∧view w m∈w.views∧m.toNat<w.views.length:=by
 have hg:=tO.1 hm
 have hl:m.toNat<w.views.length:=by rw[h.vlen];omega
 refine⟨?_,eN hl,hl⟩
 unfold Am.view
 rw[List.getD_eq_getElem?_getD,List.getElem?_eq_getElem hl]
 rfl
def xV (w:Wrl)(i:Int):Nat→Wrl
 |0=>w
 |n+1=>A4 (xV w i n) n i
def qT (w:Wrl):Nat→Wrl
 |0=>w
 |k+1=>xV (qT w k) k (qT w k).com.length
def pass (w:Wrl):Wrl:=qT w w.props.length
end Go.Proofs.Ytgfcmhjebbncpaa.Am
namespace Go.Proofs.Ytgfcmhjebbncpaa.Am
open Go
attribute [local irreducible] Mk bP Ari eJ sI lB di gf iN lD At ao
set_option maxRecDepth 10000
def e0:Evt:=⟨0,0,0,v0⟩
def fH (c:List Int)(ps:List Ppl):Nat→List Int
 |0=>[]
 |n+1=>if don c (ps.getD n p0) then fH c ps n++[(n:Int)] else fH c ps n
def iT (w:Wrl):List Int:=if gz w then fH w.com w.props w.props.length else[]
theorem gH (c:List Int)(ps:List Ppl):∀n,(fH c ps n).length≤n
 |0=>Nat.le_refl _
 |n+1=>by
  have ih:=gH c ps n
  unfold fH
  split
  ·simp;omega
  ·omega
theorem xG (w:Wrl)(hw:∀g∈w.views,g.length≤2000000):ao Try.prog 16 [bD w] [] (.ref 4) [(4,.row 3 (.int .i64) (iT w))]:=by
 have hV:=Al w hw
 refine af al Try.func16 rfl rfl false 0 4 rfl rfl rfl rfl fun K hK hb1 hb2=>?_;simp only[aj,enc,Nat.reduceAdd]
 clear hb1 hb2
 cases hv:gz w
 ·have:iT w=[]:=by simp[iT,hv]
  rw[this]
  rw[hv] at hV
  (repeat' first|refine st ?_|refine sa fun xe hxe=>?_|refine sb (fun hq=>?_) fun hq=>?_|exact True.intro|refine cr (hV) ?_)
  exact⟨rfl,rfl⟩
 ·have hok:=rI.1 hv
  have hce:iT w=fH w.com w.props w.props.length:=by simp[iT,hv]
  have hpl:=hok.plen
  rw[hce]
  rw[hv] at hV
  (repeat' first|refine st ?_|refine sa fun xe hxe=>?_|refine sb (fun hq=>?_) fun hq=>?_|exact True.intro|refine cr (hV) ?_)
  refine ak hK [] [1,3,12,13,14] (fun i:Nat=>⟨[(1,.ptr 4 0),(3,.ref 5),(12,.lst .ppl w.props),(13,.int .i64 w.props.length),(14,.int .i64 (i:Int))],[(4,.var 26 (bD w).cells),(5,.row 3 (.int .i64) (fH w.com w.props i))],6⟩) (fun i=>i≤w.props.length) (fun i=>w.props.length-i) 0 (by simp) rfl ?_
  intro i hi
  have hll:=gH w.com w.props i
  have hs:fH w.com w.props (i+1)=if don w.com (w.props.getD i p0) then fH w.com w.props i++[(i:Int)] else fH w.com w.props i:=rfl
  by_cases hlt:i<w.props.length
  ·have hxe:w.props[i]?=some (w.props.getD i p0):=by rw[List.getD_eq_getElem?_getD,List.getElem?_eq_getElem hlt];rfl
   have hC:=nT w.com (w.props.getD i p0) hok.com (hok.pv _ (eN hlt)).2
   generalize w.props.getD i p0=p at *
   generalize fH w.com w.props i=l at *
   cases hd:don w.com p
   ·rw[hd] at hC hs
    (repeat' first|refine st ?_|refine sa fun xe hxe=>?_|refine sb (fun hq=>?_) fun hq=>?_|exact True.intro|refine cr (hC) ?_)
    exact⟨i+1,by omega,by omega,by rw[hs];rfl⟩
   ·rw[hd] at hC hs
    (repeat' first|refine st ?_|refine sa fun xe hxe=>?_|refine sb (fun hq=>?_) fun hq=>?_|exact True.intro|refine cr (hC) ?_)
    exact⟨i+1,by omega,by omega,by rw[hs];rfl⟩
  ·obtain rfl:i=w.props.length:=by omega
   (repeat' first|refine st ?_|refine sa fun xe hxe=>?_|refine sb (fun hq=>?_) fun hq=>?_|exact True.intro)
   exact⟨rfl,rfl⟩
theorem zx (w:Wrl)(hw:w.com.length≤2000000):ao Try.prog 14 [bD w] [] (.lst (.int .i64) (iT w)) []:=by
 have hV:=Ai w hw
 refine af al Try.func14 rfl rfl true 0 4 rfl rfl rfl rfl fun K hK hb1 hb2=>?_;simp only[aj,enc,Nat.reduceAdd]
 clear hb1 hb2
 cases hv:gz w
 ·have:iT w=[]:=by simp[iT,hv]
  rw[this]
  rw[hv] at hV
  (repeat' first|refine st ?_|refine sa fun xe hxe=>?_|refine sb (fun hq=>?_) fun hq=>?_|exact True.intro|refine cr (hV) ?_)
  exact⟨rfl,rfl⟩
 ·have hok:=rI.1 hv
  have hce:iT w=fH w.com w.props w.props.length:=by simp[iT,hv]
  have hpl:=hok.plen
  rw[hce]
  rw[hv] at hV
  (repeat' first|refine st ?_|refine sa fun xe hxe=>?_|refine sb (fun hq=>?_) fun hq=>?_|exact True.intro|refine cr (hV) ?_)
  refine ak hK [] [1,3,4] (fun i:Nat=>⟨[(1,.ptr 4 0),(3,.ref 5),(4,.int .i64 (i:Int))],[(4,.var 26 (bD w).cells),(5,.row 3 (.int .i64) (fH w.com w.props i))],6⟩) (fun i=>i≤w.props.length) (fun i=>w.props.length-i) 0 (by simp) rfl ?_
  intro i hi
  have hll:=gH w.com w.props i
  have hs:fH w.com w.props (i+1)=if don w.com (w.props.getD i p0) then fH w.com w.props i++[(i:Int)] else fH w.com w.props i:=rfl
  by_cases hlt:i<w.props.length
  ·have hxe:w.props[i]?=some (w.props.getD i p0):=by rw[List.getD_eq_getElem?_getD,List.getElem?_eq_getElem hlt];rfl
   have hC:=r8 w (w.props.getD i p0) hok.com (hok.pv _ (eN hlt)).2
   generalize w.props.getD i p0=p at *
   generalize fH w.com w.props i=l at *
   cases hd:don w.com p
   ·rw[hd] at hC hs
    (repeat' first|refine st ?_|refine sa fun xe hxe=>?_|refine sb (fun hq=>?_) fun hq=>?_|exact True.intro|refine cr (hC) ?_)
    exact⟨i+1,by omega,by omega,by rw[hs];rfl⟩
   ·rw[hd] at hC hs
    (repeat' first|refine st ?_|refine sa fun xe hxe=>?_|refine sb (fun hq=>?_) fun hq=>?_|exact True.intro|refine cr (hC) ?_)
    exact⟨i+1,by omega,by omega,by rw[hs];rfl⟩
  ·obtain rfl:i=w.props.length:=by omega
   (repeat' first|refine st ?_|refine sa fun xe hxe=>?_|refine sb (fun hq=>?_) fun hq=>?_|exact True.intro)
   exact⟨rfl,rfl⟩
theorem vS {w:Wrl}(h:w.props.length≤1048576):(iT w).length≤1048576:=by
 unfold iT
 split
 ·have:=gH w.com w.props w.props.length
  omega
 ·simp
theorem AB (gs:List (List Vtx)):cG gs≤3*lz gs:=by
 have hv:∀g:List Vtx,cV g≤3*pX g:=fun g=>by
  unfold cV pX dq
  induction g with
  |nil=>simp
  |cons v g ih=>simp only[List.map_cons,List.sum_cons,List.length_cons] at ih⊢;omega
 unfold cG lz
 induction gs with
 |nil=>simp
 |cons g l ih=>have:=hv g;simp only[List.map_cons,List.sum_cons] at ih⊢;omega
theorem AM (ps:List Ppl):cP ps=3*ps.length+mt ps:=by
 unfold cP mt lQ
 induction ps with
 |nil=>rfl
 |cons p l ih=>simp only[List.map_cons,List.sum_cons,List.length_cons] at ih⊢;omega
theorem yy {w:Wrl}(h:zP w≤1048576):w.com.length+w.lead.length+cG w.views+cP w.props≤10000000:=by
 have h1:=AB w.views
 have h2:=AM w.props
 unfold zP at h
 omega
set_option maxHeartbeats 16000000 in
theorem qV (w:Wrl):ao Try.prog 4 [bD w] [] (.bool true) []:=by
 have hsz:=tB w 1048576 (by omega)
 unfold jO at hsz
 refine af al Try.func4 rfl rfl false 0 4 rfl rfl rfl rfl fun K hK hb1 hb2=>?_;simp only[aj,enc,Nat.reduceAdd]
 clear hb1 hb2
 by_cases hl:(1048576:Int)-(zP w:Nat)<0
 ·rw[if_pos hl] at hsz
  (repeat' first|refine st ?_|refine sa fun xe hxe=>?_|refine sb (fun hq=>?_) fun hq=>?_|exact True.intro|refine cr (hsz) ?_)
  exact⟨rfl,rfl⟩
 rw[if_neg hl] at hsz
 have hs:Small w:=tT (by omega)
 have hcn:=yy (w:=w) (by omega)
 have hI:=xG w fun g hg=>by have:=(hs.view g hg).1;omega
 have hS:=zx w (by have:=hs.com;omega)
 have hO:=tl w hs
 have hW:=wv w.views w.props
 have hd1:=hW.readG
 have hd2:=hW.readP
 have hvl:((List.range w.views.length).map some).length≤1048576:=by simpa using hs.vlen
 obtain⟨⟨x,y⟩,⟨hx,hy⟩,hM⟩:=n8 w.com w.lead w.bad _ _ _ _ _ _ 1 hW hvl (by omega)
 obtain⟨m1,m2,m3,-,-⟩:=hW.mark (1+w.com.length+w.lead.length)
 dsimp only at hx hy hM m3
 rw[←hx,←hy] at m3
 have hF1:aE (VB.frow 3 (.int .i64) (cC w.views++eo w.props))≤aE (VB.frow 3 (.int .i64) y.2.1):=by
  refine io _ ?_
  rw[hy,fp,hx,ib]
 have hF0:aE (VB.frow 59 (.vtxo 1) (lO 0 w.views))≤aE (VB.frow 59 (.vtxo 1) x.2.2):=by
  rw[hx]
  have key:∀(hs:List (Option Nat)) (k:Int) (pss:List (List Int)) (vss:List (List VtxO)),(cE hs k pss vss).2.2.length=vss.length:=by
   intro hs
   induction hs with
   |nil=>intros;rfl
   |cons x l ih=>intro k pss vss;simp only[cE];rw[ih,List.length_set]
  simp[aE,key]
 have hcl:=vS (w:=w) hs.plen
 have hT:=tq w hs
 have hE:=sM w
 generalize iT w=a at *
 generalize lO 0 w.views=vss at *
 generalize kL (cC w.views).length w.props=ps at *
 generalize cC w.views++eo w.props=pss at *
 generalize (List.range w.views.length).map some=hh at *
 clear hx hy m1 m2 hW
 (repeat' first|refine st ?_|refine sa fun xe hxe=>?_|refine sb (fun hq=>?_) fun hq=>?_|exact True.intro|refine cr (hsz) ?_)
 refine cr hT ?_
 (repeat' first|refine st ?_|refine sa fun xe hxe=>?_|refine sb (fun hq=>?_) fun hq=>?_|exact True.intro|refine cr (hS) ?_)
 (repeat' first|refine st ?_|refine sa fun xe hxe=>?_|refine sb (fun hq=>?_) fun hq=>?_|exact True.intro|refine cr (hO) ?_)
 (repeat' first|refine st ?_|refine sa fun xe hxe=>?_|refine sb (fun hq=>?_) fun hq=>?_|exact True.intro|refine cr (hT) ?_|refine cr (iq _) ?_|refine cr (hI) ?_|((with_reducible refine i4 ?_);(conv=>whnf);(first|with_reducible refine cR (qp _ _ (by omega)) ?_);conv=>whnf)|refine co (hM) ?_|((with_reducible refine qy ?_);(conv=>whnf);(first|with_reducible refine cR (k9 _ _ (by omega)) ?_);conv=>whnf)|((with_reducible refine yO ?_);(conv=>whnf))|((first|with_reducible refine cR (hI) ?_|with_reducible refine cR (hE) ?_);conv=>whnf))
 all_goals first|(exact⟨rfl,rfl⟩)|exact absurd rfl hq|exact absurd trivial hq|cases hq
end Go.Proofs.Ytgfcmhjebbncpaa.Am
namespace Go.Proofs.Ytgfcmhjebbncpaa.Am
open Go Go.RowKit Go.ChangeShapes Go.WideShapes Go.ChangeAt
section
variable {H:Type} {enc:TypeId×Value→H} {P:Program}
theorem qj {f:Func}{s:ChangeSpec}{apart fresh handsOn again:Bool}{W W':World}{args:Array Value}{v:Value}{ds gs:List (DataW H)}{before pa pv:List MemPlace}
  (hW:DataW.Whole enc P f.params.toList s.vars apart W args.toList ds gs before)
  (hres:∀(b:Nat) (sp:Nat→Bool) (hd:Bool),DataW.TrodAll enc P W' b sp hd f.resultTypes.toList (v.resultList f.resultTypes.size) (s.fn H (ds++gs)).results [])
  (hargs:∀sp:Nat→Bool,(∀p∈before,sp p.block=true)→DataW.TrodAll enc P W' 0 sp true f.params.toList args.toList (s.fn H (ds++gs)).args pa)
  (hvars:∀sp:Nat→Bool,(∀p∈before,sp p.block=true)→DataW.TrodVars enc P W' sp s.vars (s.fn H (ds++gs)).vars pv)
  (hps:before=pa++pv) (hb:Below W.heap.size W W')
  (hok:∀(j:Nat) (t:TypeId) (r:Value),f.resultTypes[j]?=some t→(v.resultList f.resultTypes.size)[j]?=some r→Value.okWide P W' .any 0 t r):
  s.post enc P f apart fresh handsOn again W args v W':=by
 have hlt:∀p∈before,p.block<W.heap.size:=fun p hp=>hW.lt p hp
 have hold:∀p∈before,(fun b=>decide (b<W.heap.size)) p.block=true:=fun p hp=>by simpa using hlt p hp
 refine⟨ds,gs,before,[],pa,pv,hW,hres _ _ _,hargs _ hold,hvars _ hold,World.keptBut_mono (fun p hp=>⟨hp,?_⟩) (hb.frame (· ∈before)),fun _=>?_⟩
 ·rw[hps,List.mem_append] at hp
  exact Or.inr hp
 ·obtain⟨_,_,_,_,_,hz,hn⟩:=hW
  refine⟨hok,_,_,([]++pa)++pv,⟨[]++pa,pv,trodAll_append (hargs _ (fun _ _=>rfl)) (hres _ _ _),hvars _ (fun _ _=>rfl),rfl,?_,?_⟩,?_⟩
  ·intro b off hp
   have hin:MemPlace.cell b off∈before:=by rw[hps];simpa using hp
   rw[hb.frozen (hlt _ hin)]
   exact hz b off hin
  ·intro ha
   have:=hn ha
   rw[hps] at this
   simpa using this
  ·intro p hp _
   rw[hps]
   simpa using hp
end
theorem sJ {P:Program}{f:FuncId}{vs:List V}(h:ao P f vs [] (.bool true) []){w:World}{args:Array Value}(hl:(ab vs).length=args.size)
  (hr:∀i,i<(ab vs).length→Rep (fun k=>k<w.heap.size) w ((ab vs).getD i .undef) (args.getD i undef))
  (hg:∀g x,look Gl g=some x→g<w.heap.size∧∃ad,w.cell? ⟨g,0,none⟩=some (.iface x.1 (.pointer (some ad))):=by intro g x h;cases h):
  Calls P f args w fun e w'=>e= .returned (.bool true)∧Below w.heap.size w w':=by
 have hno:∀k,¬sW (fun _=>⟨0,0,0,0⟩) (toH []) k:=by
  rintro k ⟨b,x,hb,-⟩
  cases hb
 have hs:Sim P w (sW (fun _=>⟨0,0,0,0⟩) (toH [])) (fun _=>True) 0 (fun _=>⟨0,0,0,0⟩) [] (toH []) gw w:=by
  refine⟨fun _ _=>trivial,fun _ _=>trivial,Fr.refl _ _,rfl,rfl,?_,?_,?_,?_,?_⟩
  ·intro k d hk;cases hk
  ·intro b x hx;cases hx
  ·intro b x hx;cases hx
  ·intro b b' x x' hx;cases hx
  ·intro g x hx
   exact⟨⟨trivial,hno g,(hg g x hx).1⟩,(hg g x hx).2⟩
 refine(h.2 w (fun _=>True) (fun _=>⟨0,0,0,0⟩) args hs hl fun i hi=>.pure ((hr i hi).mono fun b hb=>⟨⟨⟨hb,trivial⟩,fun b x hx=>by cases hx⟩,rfl⟩)).mono fun e w' he=>?_
 obtain⟨u,ρ',rfl,-,hs',hc⟩:=he
 refine⟨by rw[hc.bool_inv],⟨hs'.fr.os,hs'.fr.tape,hs'.fr.output,hs'.fr.size,fun k hk=>hs'.fr.block k hk (hno k)⟩⟩
theorem sk {w:World}{a:Addr}{v:Value}(h:w.cell? a=some v):a.block<w.heap.size:=by
 rcases Nat.lt_or_ge a.block w.heap.size with hl|hl
 ·exact hl
 ·have:w.heap[a.block]?=none:=by simp[hl]
  simp[World.cell?,this] at h
theorem ww {w:World}{l:List D}{a:Addr}{n cap:Nat}{g:Nat→Value}(hn:l.length=n)(hcap:n≤cap)(hmax:cap≤maxLen)(hl:∀e∈l,e.cells=[e]∧e.pure0=true)
  (hc:∀i,i<n→w.cell? (a.add i)=some (g i)) (hr:∀i,i<n→Rep (fun k=>k<w.heap.size) w (l.getD i .undef) (g i)):Rep (fun k=>k<w.heap.size) w (.lst l) (.slice (some a) n cap):=by
 cases l with
 |nil=>
  simp only[List.length_nil] at hn
  subst hn
  exact .none _ _ (fun h=>by cases h) hmax
 |cons x l=>
  have hp:0<n:=by rw[←hn];simp
  have hsz:szl (x::l)=1:=by show x.cells.length=1;rw[(hl x (List.mem_cons_self ..)).1];rfl
  obtain⟨b,off,spot⟩:=a
  have hspot:spot=none:=by simpa[Addr.add] using World.cell?_spot (hc 0 hp)
  subst hspot
  have h0:=sk (hc 0 hp)
  refine .lst _ n b off cap (fun i _=>g i) hn hcap hmax h0 ?_ (by rw[hsz];omega) ?_ ?_
  ·intro e he
   rw[hsz]
   exact⟨by rw[(hl e he).1];rfl,by rw[(hl e he).1];simp[(hl e he).2]⟩
  ·intro i j hi hj
   rw[hsz] at hj⊢
   obtain rfl:j=0:=by omega
   have:=hc i hi
   rw[Go.WideShapes.add_plain] at this
   rw[Nat.mul_one,Nat.add_zero]
   exact this
  ·intro i j hi hj
   rw[hsz] at hj
   obtain rfl:j=0:=by omega
   have hi':i<(x::l).length:=by omega
   have e:(x::l).getD i .undef=(x::l)[i]:=by simp[List.getD_eq_getElem?_getD,List.getElem?_eq_getElem hi']
   have h1:=(hl _ (List.getElem_mem hi')).1
   have h2:=hr i hi
   rw[e] at h2⊢
   rw[h1]
   exact h2
theorem fa {H:Type}{enc:TypeId×Value→H}{P:Program}{W:World}{sp:Nat→Bool}{hd:Bool}{t e:TypeId}{k:IntKind}{cs:List Value}{fuel:Nat}{x:DataW H×List MemPlace}(ht:P.underlying t=some (.slice e))(he:P.underlying e=some (.int k))(hc:P.cellsOf e=1)
  (h:DataW.trod enc P W 0 sp hd fuel t cs=some x):∃(c:List Int) (v:Value),cs=[v]∧Rep (fun b=>b<W.heap.size) W (.lst (c.map (.int k))) v:=by
 rcases open_ints ht he hc h with⟨h1,-⟩|⟨a,len,cap,zs,h1,h2,h3,h4,h5,-,h6,h7⟩
 ·exact⟨[],_,h1,.none _ _ (fun _=>rfl) (Nat.zero_le _)⟩
 ·have hle:len≤zs.length:=by rw[h5];split<;>omega
  have hlen:(zs.take len).length=len:=by rw[List.length_take];omega
  refine⟨zs.take len,_,h1,?_⟩
  refine ww (g:=fun i=>.int k (zs.getD i 0)) (by rw[List.length_map,hlen]) h3 h4 ?_ (fun i hi=>h6 i (by omega)) ?_
  ·intro e he
   obtain⟨z,_,rfl⟩:=List.mem_map.1 he
   exact⟨rfl,rfl⟩
  ·intro i hi
   have e1:((zs.take len).map (D.int k)).getD i .undef= .int k (zs.getD i 0):=by
    have hi2:i<zs.length:=by omega
    simp[List.getD_eq_getElem?_getD,List.getElem?_map,List.getElem?_take,hi,List.getElem?_eq_getElem hi2]
   rw[e1]
   exact .int _ _
theorem fJ {H:Type}{enc:TypeId×Value→H}{P:Program}{W:World}{sp:Nat→Bool}{hd:Bool}{t:TypeId}{k:IntKind}{v:Value}{fuel:Nat}{x:DataW H×List MemPlace}(ht:P.underlying t=some (.int k))(h:DataW.trod enc P W 0 sp hd fuel t [v]=some x):∃n,v= .int k n:=by
 obtain⟨n,h1,-,-⟩:=DataW.trod_int ht h
 simp only[List.cons.injEq,and_true] at h1
 exact⟨n,h1⟩
theorem wS {H:Type}{enc:TypeId×Value→H}{P:Program}{W:World}{sp:Nat→Bool}{hd:Bool}{t:TypeId}{fs:Array Field}{v:Value}{d:DataW H}{p:List MemPlace}{base:Nat}(ht:P.underlying t=some (.struct fs))(hs:P.cellsOf t=fs.size)(hf:(fs.toList.zipIdx.all fun q=>q.1.offset==q.2 && P.cellsOf q.1.type==1)=true)
  (hv:Value.okWide P W .any base t v) (h:DataW.Trod enc P W 0 sp hd t v d p):∃vs:Array Value,v= .agg vs∧vs.size=fs.size∧∀(i:Nat) (f:Field),fs[i]?=some f→∃fuel y,DataW.trod enc P W 0 sp hd fuel f.type [vs.getD i undef]=some y:=by
 obtain⟨vs,rfl,hsz⟩:=okWide_struct ht hv
 obtain⟨fuel,h⟩:=h
 obtain⟨xs,n,-,-,-,hl,hx⟩:=DataW.trod_struct ht h
 refine⟨vs,rfl,by omega,fun i f hi=>?_⟩
 have hi':=(Array.getElem?_eq_some_iff.1 hi).1
 have h1:=hx i f hi
 rw[List.all_eq_true] at hf
 have h2:=hf (f,i) (List.mem_zipIdx_iff_getElem?.2 (by simpa using hi))
 simp only[Bool.and_eq_true,beq_iff_eq] at h2
 have hvi:i<vs.size:=by omega
 refine⟨n,xs[i],?_⟩
 have e:((Value.agg vs).cells.toList.drop f.offset).take (P.cellsOf f.type)=[vs.getD i undef]:=by
  rw[h2.1,h2.2]
  show (vs.toList.drop i).take 1=_
  rw[List.drop_eq_getElem_cons (by simpa using hvi)]
  simp[Array.getD_eq_getD_getElem?,hvi]
 rw[←e,h1,List.getElem?_eq_getElem (by omega)]
theorem xt {ok:Nat→Prop}{W:World}{ds:List D}{vs:Array Value}(hl:ds.length=vs.size)(h:∀i,i<ds.length→Rep ok W (ds.getD i .undef) (vs.getD i undef)):Rep ok W (.agg ds) (.agg vs):=.agg ds vs hl h
def sA (W:World)(T:Ty)(x:T.den)(cs:List Value):Prop:=cs.length=T.sz∧∀j,j<T.sz→Rep (fun k=>k<W.heap.size) W ((aa T x).cells.getD j .undef) (cs.getD j undef)
theorem rQ {α:Type}{p:Nat→α→Prop}:∀n,(∀i,i<n→∃d,p i d)→∃l:List α,l.length=n∧∀i (h:i<l.length),p i l[i]
 |0,_=>⟨[],rfl,fun i h=>absurd h (Nat.not_lt_zero i)⟩
 |n+1,h=>by
  obtain⟨l,hl,hp⟩:=rQ n fun i hi=>h i (by omega)
  obtain⟨d,hd⟩:=h n (by omega)
  refine⟨l++[d],by simp[hl],fun i hi=>?_⟩
  rcases Nat.lt_or_ge i l.length with hlt|hge
  ·rw[List.getElem_append_left hlt]
   exact hp i hlt
  ·obtain rfl:i=l.length:=by simp at hi;omega
   rw[List.getElem_append_right (Nat.le_refl _)]
   simpa[hl] using hd
theorem row_cells {H:Type}{enc:TypeId×Value→H}{P:Program}{W:World}{sp:Nat→Bool}{hd:Bool}{t e:TypeId}{T:Ty}{cs:List Value}{fuel:Nat}{x:DataW H×List MemPlace}(hp:T.pure=true)(ht:P.underlying t=some (.slice e))(hc:P.cellsOf e=T.sz)
  (hel:∀fuel cs x,DataW.trod enc P W 0 sp hd fuel e cs=some x→∃d,sA W T d cs) (h:DataW.trod enc P W 0 sp hd fuel t cs=some x):∃(l:List T.den) (v:Value),cs=[v]∧Rep (fun b=>b<W.heap.size) W (V.lst T l).toD v:=by
 rcases DataW.trod_slice ht h with⟨h1,-⟩|⟨a,len,cap,elems,rest,n,-,h1,-,-,hl,hm,hlen,hel2,-,-⟩
 ·exact⟨[],_,h1,.none _ _ (fun _=>rfl) (Nat.zero_le _)⟩
 ·have each:∀i,i<len→∃d:T.den,∃cs',W.cells? 0 (a.add (i*T.sz)) T.sz=some cs'∧sA W T d cs':=by
   intro i hi
   have h2:=hel2 i hi
   rw[List.getElem?_eq_getElem (by omega),hc,Option.bind_eq_some_iff] at h2
   obtain⟨cs',h3,h4⟩:=h2
   obtain⟨d,hd⟩:=hel _ _ _ h4
   exact⟨d,cs',h3,hd⟩
  obtain⟨l,hll,hlp⟩:=rQ len each
  refine⟨l,_,h1,?_⟩
  show Rep _ W (.lst (l.map (aa T))) _
  by_cases hz:l=[]
  ·subst hz
   subst hll
   exact .none _ _ (fun h=>by cases h) hm
  ·have hpos:0<l.length:=List.length_pos_iff.2 hz
   have hsz:szl (l.map (aa T))=T.sz:=by
    cases l with
    |nil=>exact absurd rfl hz
    |cons y l=>exact(cu T y).1
   have cell:∀i j,i<l.length→j<T.sz→∃v,W.cell? ((a.add (i*T.sz)).add j)=some v∧Rep (fun k=>k<W.heap.size) W ((aa T (l[i]?.getD (l[0]'hpos))).cells.getD j .undef) v:=by
    intro i j hi hj
    obtain⟨cs',h3,h4,h5⟩:=hlp i hi
    have h6:=(World.cells?_some h3).2.2 j hj
    have hj':j<cs'.length:=by omega
    refine⟨cs'[j],by rw[h6,List.getElem?_eq_getElem hj'],?_⟩
    have:=h5 j hj
    rw[List.getElem?_eq_getElem hi]
    simp only[List.getD_eq_getElem?_getD (l:=cs'),List.getElem?_eq_getElem hj',Option.getD_some] at this
    exact this
   obtain⟨b,off,spot⟩:=a
   obtain⟨v0,hv0,-⟩:=cell 0 0 hpos T.sz_pos
   have hspot:spot=none:=by simpa[Addr.add] using World.cell?_spot hv0
   subst hspot
   have hb:=sk hv0
   refine .lst _ len b off cap (fun i j=>(W.cell? ⟨b,off+i*T.sz+j,none⟩).getD undef) (by simpa using hll) hl hm (by simpa[Addr.add] using hb) ?_ (by rw[hsz];exact T.sz_pos) ?_ ?_
   ·intro e he
    obtain⟨y,-,rfl⟩:=List.mem_map.1 he
    rw[hsz]
    exact eE hp y
   ·intro i j hi hj
    rw[hsz] at hj⊢
    obtain⟨v,hv,-⟩:=cell i j (by omega) hj
    rw[Go.WideShapes.add_plain,Go.WideShapes.add_plain] at hv
    rw[hv]
    rfl
   ·intro i j hi hj
    rw[hsz] at hj
    obtain⟨v,hv,hr⟩:=cell i j (by omega) hj
    rw[Go.WideShapes.add_plain,Go.WideShapes.add_plain] at hv
    rw[hv]
    have e:(l.map (aa T)).getD i .undef=aa T (l[i]?.getD (l[0]'hpos)):=by
     have:i<l.length:=by omega
     simp[List.getD_eq_getElem?_getD,List.getElem?_eq_getElem this]
    rw[e]
    exact hr
theorem nD {H:Type}{enc:TypeId×Value→H}{P:Program}{W:World}{sp:Nat→Bool}{hd:Bool}{t:TypeId}{fs:Array Field}{cs:List Value}{fuel:Nat}{x:DataW H×List MemPlace}(ht:P.underlying t=some (.struct fs))(hs:P.cellsOf t=fs.size)(hf:(fs.toList.zipIdx.all fun q=>q.1.offset==q.2 && P.cellsOf q.1.type==1)=true)
  (h:DataW.trod enc P W 0 sp hd fuel t cs=some x):cs.length=fs.size∧∀(i:Nat) (f:Field),fs[i]?=some f→∃fuel y,DataW.trod enc P W 0 sp hd fuel f.type [cs.getD i undef]=some y:=by
 obtain⟨xs,n,-,-,hlc,hl,hx⟩:=DataW.trod_struct ht h
 refine⟨by omega,fun i f hi=>?_⟩
 have hi':=(Array.getElem?_eq_some_iff.1 hi).1
 have h1:=hx i f hi
 rw[List.all_eq_true] at hf
 have h2:=hf (f,i) (List.mem_zipIdx_iff_getElem?.2 (by simpa using hi))
 simp only[Bool.and_eq_true,beq_iff_eq] at h2
 have hci:i<cs.length:=by omega
 refine⟨n,xs[i],?_⟩
 have e:(cs.drop f.offset).take (P.cellsOf f.type)=[cs.getD i undef]:=by
  have e2:(cs.drop i).take 1=[cs[i]]:=by rw[List.drop_eq_getElem_cons hci];rfl
  rw[h2.1,h2.2,e2]
  simp[List.getD_eq_getElem?_getD,hci]
 rw[←e,h1,List.getElem?_eq_getElem (by omega)]
end Go.Proofs.Ytgfcmhjebbncpaa.Am
namespace Go.Proofs.Ytgfcmhjebbncpaa.Am
open Go Go.RowKit Go.ChangeShapes Go.WideShapes Go.ChangeAt
theorem Bf:ownKnob Try.prog.godebug=none:=by kernel_rfl
theorem Bn:laidOutB Try.prog=true:=by kernel_rfl
theorem fS:Try.prog.cellsOf 3=1:=by kernel_rfl
set_option maxRecDepth 100000 in
theorem me {H:Type}{enc:TypeId×Value→H}{W:World}{sp:Nat→Bool}{hd:Bool}{cs:List Value}{fuel:Nat}{x:DataW H×List MemPlace}(h:DataW.trod enc Try.prog W 0 sp hd fuel 89 cs=some x):∃d:Vtx,sA W .vtx d cs:=by
 obtain⟨hl,hf⟩:=nD Try.underlying89 (by kernel_rfl) (by kernel_rfl) h
 obtain⟨n0,y0,h0⟩:=hf 0 _ rfl
 obtain⟨n1,y1,h1⟩:=hf 1 _ rfl
 obtain⟨n2,y2,h2⟩:=hf 2 _ rfl
 obtain⟨n3,y3,h3⟩:=hf 3 _ rfl
 obtain⟨r,e0⟩:=fJ Try.underlying3 h0
 obtain⟨a,e1⟩:=fJ Try.underlying3 h1
 obtain⟨ps,v2,e2,r2⟩:=fa Try.underlying22 Try.underlying3 fS h2
 obtain⟨d,e3⟩:=fJ Try.underlying3 h3
 simp only[List.cons.injEq,and_true] at e2
 refine⟨⟨r,a,ps,d⟩,hl,fun j hj=>?_⟩
 match j,hj with
 |0,_=>rw[e0];exact .int _ _
 |1,_=>rw[e1];exact .int _ _
 |2,_=>rw[e2];exact r2
 |3,_=>rw[e3];exact .int _ _
theorem oN {H:Type}{enc:TypeId×Value→H}{P:Program}{W:World}{sp:Nat→Bool}{hd:Bool}{t:TypeId}{fs:Array Field}{cs:List Value}{fuel:Nat}{x:DataW H×List MemPlace}(ht:P.underlying t=some (.struct fs))
  (h:DataW.trod enc P W 0 sp hd fuel t cs=some x):cs.length=P.cellsOf t∧∀(i:Nat) (f:Field),fs[i]?=some f→∃fuel y,DataW.trod enc P W 0 sp hd fuel f.type ((cs.drop f.offset).take (P.cellsOf f.type))=some y:=by
 obtain⟨xs,n,-,-,hlc,hl,hx⟩:=DataW.trod_struct ht h
 refine⟨by omega,fun i f hi=>?_⟩
 have hi':=(Array.getElem?_eq_some_iff.1 hi).1
 have h1:=hx i f hi
 exact⟨n,xs[i],by rw[h1,List.getElem?_eq_getElem (by omega)]⟩
theorem mw (cs:List Value){o n j:Nat}(hj:j<n):((cs.drop o).take n).getD j undef=cs.getD (o+j) undef:=by
 simp[List.getD_eq_getElem?_getD,List.getElem?_take,List.getElem?_drop,hj]
set_option maxRecDepth 100000 in
theorem sT:Try.prog.cellsOf 89=4:=by kernel_rfl
theorem qv:Try.prog.cellsOf 22=1:=by kernel_rfl
set_option maxRecDepth 100000 in
theorem tx {H:Type}{enc:TypeId×Value→H}{W:World}{sp:Nat→Bool}{hd:Bool}{cs:List Value}{fuel:Nat}{x:DataW H×List MemPlace}(h:DataW.trod enc Try.prog W 0 sp hd fuel 91 cs=some x):∃d:Ppl,sA W .ppl d cs:=by
 obtain⟨hl,hf⟩:=oN Try.underlying91 h
 have hl5:cs.length=5:=hl.trans (by kernel_rfl)
 obtain⟨n0,y0,h0⟩:=hf 0 _ rfl
 obtain⟨n1,y1,h1⟩:=hf 1 _ rfl
 obtain⟨v,hv1,hv2⟩:=me h0
 obtain⟨ms,v2,e2,r2⟩:=fa Try.underlying22 Try.underlying3 fS h1
 have e3:cs.getD 4 undef=v2:=by
  have:=mw cs (o:=4) (n:=1) (j:=0) (by omega)
  rw[Nat.add_zero] at this
  rw[←this]
  have e4:(cs.drop 4).take 1=[v2]:=by
   have this:(cs.drop 4).take (Try.prog.cellsOf 22)=[v2]:=e2
   rw[qv] at this
   exact this
  rw[e4]
  rfl
 have hvv:∀j,j<4→Rep (fun k=>k<W.heap.size) W ((aa .vtx v).cells.getD j .undef) (cs.getD j undef):=fun j hj=>by
  have h5:Rep (fun k=>k<W.heap.size) W ((aa .vtx v).cells.getD j .undef) (((cs.drop 0).take (Try.prog.cellsOf 89)).getD j undef):=hv2 j hj
  rw[sT,mw cs hj,Nat.zero_add] at h5
  exact h5
 refine⟨⟨v,ms⟩,hl5,fun j hj=>?_⟩
 match j,hj with
 |0,_=>exact hvv 0 (by omega)
 |1,_=>exact hvv 1 (by omega)
 |2,_=>exact hvv 2 (by omega)
 |3,_=>exact hvv 3 (by omega)
 |4,_=>rw[e3];exact r2
set_option maxRecDepth 100000 in
theorem w7 {H:Type}{enc:TypeId×Value→H}{W:World}{sp:Nat→Bool}{hd:Bool}{v:Value}{d:DataW H}{p:List MemPlace}{base:Nat}(hv:Value.okWide Try.prog W .any base 38 v)(h:DataW.Trod enc Try.prog W 0 sp hd 38 v d p):
  ∃w:Wrl,Rep (fun k=>k<W.heap.size) W (V.agg [.lst (.int .i64) w.com,.lst (.int .i64) w.lead,.int .i64 w.bad,.lst (.lst .vtx) w.views,.lst .ppl w.props]).toD v:=by
 obtain⟨vs,rfl,hs,hf⟩:=wS Try.underlying38 (by kernel_rfl) (by kernel_rfl) hv h
 obtain⟨n0,y0,h0⟩:=hf 0 _ rfl
 obtain⟨n1,y1,h1⟩:=hf 1 _ rfl
 obtain⟨n2,y2,h2⟩:=hf 2 _ rfl
 obtain⟨n3,y3,h3⟩:=hf 3 _ rfl
 obtain⟨n4,y4,h4⟩:=hf 4 _ rfl
 obtain⟨c,v0,e0,r0⟩:=fa Try.underlying22 Try.underlying3 fS h0
 obtain⟨l,v1,e1,r1⟩:=fa Try.underlying22 Try.underlying3 fS h1
 obtain⟨b,e2⟩:=fJ Try.underlying3 h2
 obtain⟨gs,v3,e3,r3⟩:=row_cells (T:=.lst .vtx) rfl Try.underlying35 (by kernel_rfl) (fun fuel cs x hx=>by
  obtain⟨g,u,rfl,hr⟩:=row_cells (T:=.vtx) rfl Try.underlying87 (by kernel_rfl) (fun fuel cs x hx=>me hx) hx
  refine⟨g,rfl,fun j hj=>?_⟩
  obtain rfl:j=0:=by have:j<1:=hj;omega
  exact hr) h3
 obtain⟨ps,v4,e4,r4⟩:=row_cells (T:=.ppl) rfl Try.underlying36 (by kernel_rfl) (fun fuel cs x hx=>tx hx) h4
 simp only[List.cons.injEq,and_true] at e0 e1 e3 e4
 refine⟨⟨c,l,b,gs,ps⟩,xt hs.symm fun i hi=>?_⟩
 match i,hi with
 |0,_=>rw[e0];exact r0
 |1,_=>rw[e1];exact r1
 |2,_=>rw[e2];exact .int _ _
 |3,_=>rw[e3];exact r3
 |4,_=>rw[e4];exact r4

end Go.Proofs.Ytgfcmhjebbncpaa.Am
