/- What is drawn for runs. What is drawn for runs: whole runs, runs that are often invalid. Certified proposals: the law FnWorldCertified. Runs: the reference's WorldDo and WorldPlay; what is drawn for them. Runs: quorums meet; what is held of valid runs. Runs: what quiet periods lead to (plain laws): nothing is left to deliver, so all correct members have all that is certified. Runs: what single events leave (plain laws). Runs: events and quiet periods only add (plain laws); every quiet round adds a round. Orders: what graphs order, and that graphs of one run never order differently (plain laws) -/
import Derived.LaidEql
import Derived.Stop.Asserts
import Derived.RowKitTokens
import Derived.Test.YthmfppknagbkeaaGreatDoorA49
set_option linter.unusedSimpArgs false
set_option linter.unusedVariables false
set_option maxHeartbeats 1000000
namespace Go.Proofs.YthmfppknagbkeaaGreatDoor.Am
open Go
attribute [local irreducible] Mk bk Ari eD ky iB br b8 fY er At af
set_option maxRecDepth 10000
theorem oX {c l:List Int}(hc:comV c=true)(hl:leaS c l=true):fo c l (-1)=true:=by
 have:badS c (-1)=true:=dy.2 (.inl rfl)
 simp[fo,hc,hl,this]
theorem v8 {c l:List Int}{b:Int}(h:fo c l b=true):WOK (rY c l b):=ce.1 (E0 h)
theorem zX (b:List Int)(p:Int)(h:o7 b 0)(hp:0≤p∧p≤900000):∃x:Wrl×Int,(p≤x.2∧x.2≤p+60∧WOK x.1)∧af Tryz.prog 53 [.ptr 4 0] [(4,bV b p)] (ap x.1) [(4,bV b x.2)]:=by
 obtain⟨⟨c,q⟩,⟨h1,h2,h3⟩,hg⟩:=C8 b p h (by omega)
 dsimp only at h1 h2 h3 hg
 have h7:=(ao.1 h3).2
 suffices hs:∃r hout,(∃x:Wrl×Int,(p≤x.2∧x.2≤p+60∧WOK x.1)∧r=ap x.1∧hout=[(4,bV b x.2)])∧af Tryz.prog 53 [.ptr 4 0] [(4,bV b p)] r hout by
  obtain⟨r,hout,⟨v,hv,rfl,rfl⟩,h⟩:=hs
  exact⟨v,hv,h⟩
 have h0:WOK (rY c [] (-1)):=v8 (oX h3 rfl)
 refine dM al Tryz.func53 rfl rfl true 1 5 rfl rfl rfl rfl (R:=fun r hout=>∃x:Wrl×Int,(p≤x.2∧x.2≤p+60∧WOK x.1)∧r=ap x.1∧hout=[(4,bV b x.2)]) (r0:=ap (rY c [] (-1))) (hout0:=[(4,bV b p)]) (⟨(rY c [] (-1),p),⟨by dsimp only;omega,by dsimp only;omega,h0⟩,rfl,rfl⟩) fun K hK hb1 hb2=>?_;simp only[ae,enc,Nat.reduceAdd]
 clear hb1 hb2
 (repeat' first|refine st ?_|refine sa fun xe hxe=>?_|refine sb (fun hq=>?_) fun hq=>?_|refine co (hg) ?_|exact True.intro)
 refine ab hK [] [0,2,3,4,5] (fun i:Nat×List Int×Int=>⟨[(0,.ptr 4 0),(2,.ptr 5 0),(3,.lst (.int .i64) c),(4,.ref 6),(5,.int .i64 i.1)],[(4,bV b i.2.2),(5,.var 33 sR),(6,.row 3 (.int .i64) i.2.1)],7⟩)
  (fun i=>i.1≤11∧i.2.1.length=i.1∧i.2.2=q+2*i.1∧∀x∈i.2.1,0≤x∧x<c.length) (fun i=>12-i.1) (0,[],q) (by simp) rfl ?_
 rintro⟨i,l,q2⟩ ⟨hi1,hi2,hi3,hi4⟩
 dsimp only at hi1 hi2 hi3 hi4⊢
 have hle:leaS c l=true:=be.2 ⟨hi4,by omega⟩
 (repeat' first|refine st ?_|refine sa fun xe hxe=>?_|refine sb (fun hq=>?_) fun hq=>?_|((with_reducible refine bl ?_);(conv=>whnf);(first|refine bP (dP b _ _ h (by omega) (by omega)) fun xv hxv=>?_);conv=>whnf)|exact True.intro)
 ·exact⟨(i+1,l++[xv],q2+1+1),⟨by dsimp only;omega,by simp;omega,by dsimp only;omega,fun x hx=>by
   rcases List.mem_append.1 hx with hx|hx
   ·exact hi4 x hx
   ·rw[List.mem_singleton.1 hx];omega⟩,by dsimp only;omega,rfl⟩
 ·have hN:=wv c l (xv-1) (by omega)
  cases hn:fo c l (xv-1)
  ·rw[hn] at hN
   simp only[Bool.false_eq_true,if_false] at hN
   have hN2:=wv c l (-1) (by omega)
   rw[oX h3 hle] at hN2
   simp only[if_true] at hN2
   (repeat' first|refine st ?_|refine sa fun xe hxe=>?_|refine sb (fun hq=>?_) fun hq=>?_|refine cr (hN) ?_|refine cr (hN2) ?_|exact True.intro)
   exact⟨(rY c l (-1),q2+1+1),⟨by dsimp only;omega,by dsimp only;omega,v8 (oX h3 hle)⟩,rfl,rfl⟩
  ·rw[hn] at hN
   simp only[if_true] at hN
   (repeat' first|refine st ?_|refine sa fun xe hxe=>?_|refine sb (fun hq=>?_) fun hq=>?_|refine cr (hN) ?_|exact True.intro)
   exact⟨(rY c l (xv-1),q2+1+1),⟨by dsimp only;omega,by dsimp only;omega,v8 hn⟩,rfl,rfl⟩
def e0:Evt:=⟨0,0,0,v0⟩
abbrev Al (z:Bool)(e:Evt):V:=if z then .agg [.int .i64 e.kind,.int .i64 e.a,.int .i64 e.b,.int .i64 e.v.round,.int .i64 e.v.author,.nils,.int .i64 e.v.digest] else lh e
def Df (b:List Int)(q:Int)(k a c r u d:Int)(l:List Int):Nat→VSt
 |0=>⟨[(0,.ptr 4 0),(4,.ptr 5 0),(7,.ptr 6 0)],[(4,bV b q),(5,.var 58 [.int .i64 0,.int .i64 0,.int .i64 0,.int .i64 0,.int .i64 0,.nils,.int .i64 0]),(6,.var 58 [.int .i64 k,.int .i64 a,.int .i64 c,.int .i64 r,.int .i64 u,.nils,.int .i64 d])],7⟩
 |1=>⟨[(0,.ptr 4 0),(4,.ptr 5 0),(7,.ptr 6 0)],[(4,bV b q),(5,.var 58 [.int .i64 0,.int .i64 0,.int .i64 0,.int .i64 0,.int .i64 0,.nils,.int .i64 0]),(6,.var 58 [.int .i64 k,.int .i64 a,.int .i64 c,.int .i64 r,.int .i64 u,.lst (.int .i64) l,.int .i64 d])],7⟩
 |_=>⟨[(0,.ptr 4 0),(4,.ptr 5 0),(7,.ptr 6 0)],[(4,bV b q),(5,.var 58 [.int .i64 0,.int .i64 0,.int .i64 0,.int .i64 0,.int .i64 0,.nils,.int .i64 0]),(6,.var 58 [.int .i64 k,.int .i64 a,.int .i64 c,.int .i64 r,.int .i64 u,.ref 7,.int .i64 d]),(7,.row 3 (.int .i64) l)],8⟩
def Ak (b:List Int)(x:(Int×Int×Int×Int)×Int×Int×Int×List Int×Nat):VSt:=Df b x.2.1 x.1.1 x.1.2.1 x.1.2.2.1 x.1.2.2.2 x.2.2.1 x.2.2.2.1 x.2.2.2.2.1 x.2.2.2.2.2
theorem FT {b:List Int}{q k a c r u d:Int}{p:(Int×Int×Int×Int)×Int×Int×Int×List Int×Nat→Prop}(hp:p ((k,a,c,r),q,u,d,[],0)):∃x,p x∧(⟨[(0,.ptr 4 0),(4,.ptr 5 0),(7,.ptr 6 0)],[(4,bV b q),(5,.var 58 [.int .i64 0,.int .i64 0,.int .i64 0,.int .i64 0,.int .i64 0,.nils,.int .i64 0]),(6,.var 58 [.int .i64 k,.int .i64 a,.int .i64 c,.int .i64 r,.int .i64 u,.nils,.int .i64 d])],7⟩:VSt)=Ak b x:=⟨_,hp,rfl⟩
theorem FU {b:List Int}{q k a c r u d:Int}{l:List Int}{p:(Int×Int×Int×Int)×Int×Int×Int×List Int×Nat→Prop}(hp:p ((k,a,c,r),q,u,d,l,1)):∃x,p x∧(⟨[(0,.ptr 4 0),(4,.ptr 5 0),(7,.ptr 6 0)],[(4,bV b q),(5,.var 58 [.int .i64 0,.int .i64 0,.int .i64 0,.int .i64 0,.int .i64 0,.nils,.int .i64 0]),(6,.var 58 [.int .i64 k,.int .i64 a,.int .i64 c,.int .i64 r,.int .i64 u,.lst (.int .i64) l,.int .i64 d])],7⟩:VSt)=Ak b x:=⟨_,hp,rfl⟩
theorem FV {b:List Int}{q k a c r u d:Int}{l:List Int}{p:(Int×Int×Int×Int)×Int×Int×Int×List Int×Nat→Prop}(hp:p ((k,a,c,r),q,u,d,l,2)):∃x,p x∧(⟨[(0,.ptr 4 0),(4,.ptr 5 0),(7,.ptr 6 0)],[(4,bV b q),(5,.var 58 [.int .i64 0,.int .i64 0,.int .i64 0,.int .i64 0,.int .i64 0,.nils,.int .i64 0]),(6,.var 58 [.int .i64 k,.int .i64 a,.int .i64 c,.int .i64 r,.int .i64 u,.ref 7,.int .i64 d]),(7,.row 3 (.int .i64) l)],8⟩:VSt)=Ak b x:=⟨_,hp,rfl⟩
set_option maxHeartbeats 4000000 in
theorem ra (b:List Int)(p:Int)(w:Wrl)(h:o7 b 0)(hp:0≤p∧p≤900000)(hw:WOK w):∃x:(Bool×Evt)×Int,(p≤x.2∧x.2≤p+60∧x.1.2.v.parents.length≤30∧(x.1.1=true→x.1.2.v.parents=[]))∧af Tryz.prog 55 [.ptr 4 0,ap w] [(4,bV b p)] (Al x.1.1 x.1.2) [(4,bV b x.2)]:=by
 have h7:=hw.len
 have hpl:=hw.plen
 have hbd:=dy.1 hw.bad
 suffices hs:∃r hout,(∃x:(Bool×Evt)×Int,(p≤x.2∧x.2≤p+60∧x.1.2.v.parents.length≤30∧(x.1.1=true→x.1.2.v.parents=[]))∧r=Al x.1.1 x.1.2∧hout=[(4,bV b x.2)])∧af Tryz.prog 55 [.ptr 4 0,ap w] [(4,bV b p)] r hout by
  obtain⟨r,hout,⟨v,hv,rfl,rfl⟩,h⟩:=hs
  exact⟨v,hv,h⟩
 refine dM al Tryz.func55 rfl rfl true 1 5 rfl rfl rfl rfl (R:=fun r hout=>∃x:(Bool×Evt)×Int,(p≤x.2∧x.2≤p+60∧x.1.2.v.parents.length≤30∧(x.1.1=true→x.1.2.v.parents=[]))∧r=Al x.1.1 x.1.2∧hout=[(4,bV b x.2)]) (r0:=Al true e0) (hout0:=[(4,bV b p)]) (⟨((true,e0),p),⟨by dsimp only;omega,by dsimp only;omega,by simp[e0,v0],fun _=>rfl⟩,rfl,rfl⟩) fun K hK hb1 hb2=>?_;simp only[ae,enc,Nat.reduceAdd]
 clear hb1 hb2
 (repeat' first|refine Jf ?_|refine sa fun xe hxe=>?_|refine sb (fun hq=>?_) fun hq=>?_|((with_reducible refine bl ?_);(conv=>whnf);(first|refine bP (dP b _ _ h (by omega) (by omega)) fun xv hxv=>?_);conv=>whnf)|exact True.intro)
 refine qQ hK [] [0,4,7] (Ak b) (fun x=>(p≤x.2.1∧x.2.1≤p+50∧x.2.2.2.2.1.length≤30)) ?_ ?_
 ·(repeat' first|refine st ?_|refine sa fun xe hxe=>?_|refine sb (fun hq=>?_) fun hq=>?_|((with_reducible refine bl ?_);(conv=>whnf);(first|refine bP (dP b _ _ h (by omega) (by omega)) fun xv hxv=>?_|refine bP (zY b _ h (by omega)) fun xv hxv=>?_|refine bP (z8 b _ _ h (by omega) (by omega)) fun xv hxv=>?_);conv=>whnf)|exact True.intro)
  all_goals first
   |(refine FT ⟨?_,?_,?_⟩<;>first|(dsimp only;omega)|simp;done)
   |(refine FU ⟨?_,?_,?_⟩<;>first|(dsimp only;omega)|simp;done)
   |(refine FV ⟨?_,?_,?_⟩<;>first|(dsimp only;omega)|simp;done)
 ·rintro⟨⟨k,a,c,r⟩,q,u,d,l,z⟩ ⟨hq1,hq2,hq3⟩
  dsimp only[Ak] at hq1 hq2 hq3⊢
  match z with
  |0=>
   have hs0:Df b q k a c r u d l 0=⟨[(0,.ptr 4 0),(4,.ptr 5 0),(7,.ptr 6 0)],[(4,bV b q),(5,.var 58 [.int .i64 0,.int .i64 0,.int .i64 0,.int .i64 0,.int .i64 0,.nils,.int .i64 0]),(6,.var 58 [.int .i64 k,.int .i64 a,.int .i64 c,.int .i64 r,.int .i64 u,.nils,.int .i64 d])],7⟩:=rfl
   rw[hs0]
   (repeat' first|refine st ?_|refine sa fun xe hxe=>?_|refine sb (fun hq=>?_) fun hq=>?_|((with_reducible refine bl ?_);(conv=>whnf);(first|refine bP (dP b _ _ h (by omega) (by omega)) fun xv hxv=>?_);conv=>whnf)|exact True.intro)
   all_goals exact⟨((true,⟨_,_,_,⟨_,_,[],_⟩⟩),_),⟨by dsimp only;omega,by dsimp only;omega,by simp,fun h=>by rfl⟩,rfl,rfl⟩
  |1=>
   have hs0:Df b q k a c r u d l 1=⟨[(0,.ptr 4 0),(4,.ptr 5 0),(7,.ptr 6 0)],[(4,bV b q),(5,.var 58 [.int .i64 0,.int .i64 0,.int .i64 0,.int .i64 0,.int .i64 0,.nils,.int .i64 0]),(6,.var 58 [.int .i64 k,.int .i64 a,.int .i64 c,.int .i64 r,.int .i64 u,.lst (.int .i64) l,.int .i64 d])],7⟩:=rfl
   rw[hs0]
   (repeat' first|refine st ?_|refine sa fun xe hxe=>?_|refine sb (fun hq=>?_) fun hq=>?_|((with_reducible refine bl ?_);(conv=>whnf);(first|refine bP (dP b _ _ h (by omega) (by omega)) fun xv hxv=>?_);conv=>whnf)|exact True.intro)
   all_goals exact⟨((false,⟨_,_,_,⟨_,_,l,_⟩⟩),_),⟨by dsimp only;omega,by dsimp only;omega,by dsimp only;omega,fun h=>by cases h⟩,rfl,rfl⟩
  |n+2=>
   have hs0:Df b q k a c r u d l (n+2)=⟨[(0,.ptr 4 0),(4,.ptr 5 0),(7,.ptr 6 0)],[(4,bV b q),(5,.var 58 [.int .i64 0,.int .i64 0,.int .i64 0,.int .i64 0,.int .i64 0,.nils,.int .i64 0]),(6,.var 58 [.int .i64 k,.int .i64 a,.int .i64 c,.int .i64 r,.int .i64 u,.ref 7,.int .i64 d]),(7,.row 3 (.int .i64) l)],8⟩:=rfl
   rw[hs0]
   (repeat' first|refine st ?_|refine sa fun xe hxe=>?_|refine sb (fun hq=>?_) fun hq=>?_|((with_reducible refine bl ?_);(conv=>whnf);(first|refine bP (dP b _ _ h (by omega) (by omega)) fun xv hxv=>?_);conv=>whnf)|exact True.intro)
   all_goals exact⟨((false,⟨_,_,_,⟨_,_,l,_⟩⟩),_),⟨by dsimp only;omega,by dsimp only;omega,by dsimp only;omega,fun h=>by cases h⟩,rfl,rfl⟩
theorem G7 (w:Wrl)(h:WOK w):af Tryz.prog 60 [ap w] [] (.agg [.ref 4,.ref 5,.int .i64 w.bad,.ref 6,.ref 7]) [(4,.row 3 (.int .i64) w.com),(5,.row 3 (.int .i64) w.lead),(6,.row 73 (.lst .vtx) w.views),(7,.row 50 .ppl w.props)]:=by
 have h7:=h.len
 have hvl:=h.vlen
 have hpl:=h.plen
 have hll:=(be.1 h.lead).2
 refine aa al Tryz.func60 rfl rfl false 0 4 rfl rfl rfl rfl fun K hK hb1 hb2=>?_;simp only[ae,enc,Nat.reduceAdd]
 clear hb1 hb2
 (repeat' first|refine st ?_|refine sa fun xe hxe=>?_|refine sb (fun hq=>?_) fun hq=>?_|exact True.intro)
 refine ab hK [] [1,2,3,4] (fun i:Nat=>⟨[(1,.ptr 4 0),(2,.ptr 5 0),(3,.ptr 6 0),(4,.int .i64 (i:Int))],[(4,.var 33 (ap w).cells),(5,.var 33 sR),(6,.var 33 [.ref 7,.ref 8,.int .i64 w.bad,.ref 9,.ref 10]),(7,.row 3 (.int .i64) w.com),(8,.row 3 (.int .i64) w.lead),(9,.row 73 (.lst .vtx) (w.views.take i)),(10,.row 50 .ppl [])],11⟩) (fun i=>i≤w.views.length) (fun i=>w.views.length-i) 0 (by omega) rfl ?_
 intro i hi
 by_cases hlt:i<w.views.length
 ·have hxe:w.views[i]?=some w.views[i]:=List.getElem?_eq_getElem hlt
  have hsn:w.views.take (i+1)=w.views.take i++[w.views[i]]:=List.take_succ_eq_append_getElem hlt
  have hgm:=List.getElem_mem hlt
  have hC:=ss w.views[i] (by have:=h.vl _ hgm;omega) fun v hv=>by have:=h.par (h.vv _ hgm v hv);omega
  have hl1:(w.views.take i).length=i:=by rw[List.length_take];omega
  generalize w.views[i]=g at *
  generalize w.views.take i=l at *
  (repeat' first|refine st ?_|refine sa fun xe hxe=>?_|refine sb (fun hq=>?_) fun hq=>?_|refine cr (hC) ?_|exact True.intro)
  exact⟨i+1,by omega,by omega,by rw[hsn];rfl⟩
 rw[List.take_of_length_le (by omega)]
 (repeat' first|refine st ?_|refine sa fun xe hxe=>?_|refine sb (fun hq=>?_) fun hq=>?_|exact True.intro)
 refine ab hK [] [1,2,3,5] (fun i:Nat=>⟨[(1,.ptr 4 0),(2,.ptr 5 0),(3,.ptr 6 0),(5,.int .i64 (i:Int))],[(4,.var 33 (ap w).cells),(5,.var 33 sR),(6,.var 33 [.ref 7,.ref 8,.int .i64 w.bad,.ref 9,.ref 10]),(7,.row 3 (.int .i64) w.com),(8,.row 3 (.int .i64) w.lead),(9,.row 73 (.lst .vtx) w.views),(10,.row 50 .ppl (w.props.take i))],11⟩) (fun i=>i≤w.props.length) (fun i=>w.props.length-i) 0 (by omega) rfl ?_
 intro k hk
 by_cases hkl:k<w.props.length
 ·have hxe:w.props[k]?=some w.props[k]:=List.getElem?_eq_getElem hkl
  have hsn:w.props.take (k+1)=w.props.take k++[w.props[k]]:=List.take_succ_eq_append_getElem hkl
  have hpm:=List.getElem_mem hkl
  have hC:=kO w.props[k].v (by have:=h.par (h.pv _ hpm).1;omega)
  have hm:=h.mem _ hpm
  have hl1:(w.props.take k).length=k:=by rw[List.length_take];omega
  generalize w.props[k]=p at *
  generalize w.props.take k=l at *
  (repeat' first|refine st ?_|refine sa fun xe hxe=>?_|refine sb (fun hq=>?_) fun hq=>?_|refine cr (hC) ?_|exact True.intro)
  exact⟨k+1,by omega,by omega,by rw[hsn];rfl⟩
 ·(repeat' first|refine st ?_|refine sa fun xe hxe=>?_|refine sb (fun hq=>?_) fun hq=>?_|exact True.intro)
  rw[List.take_of_length_le (by omega)]
  exact⟨rfl,rfl⟩
theorem rq (w:Wrl)(z:Bool)(e:Evt)(h:WOK w)(hvl:e.v.parents.length≤30)(hz:z=true→e.v.parents=[]):af Tryz.prog 56 [ap w,.agg [.int .i64 e.kind,.int .i64 e.a,.int .i64 e.b,.int .i64 e.v.round,.int .i64 e.v.author,.lst (.int .i64) e.v.parents,.int .i64 e.v.digest]] [] (ap (dG w e)) []:=
 B8 w e h (by omega)
set_option maxHeartbeats 1000000 in
theorem vo (b:List Int)(p:Int)(h:o7 b 0)(hp:0≤p∧p≤500000):∃x:Wrl×Int,(p≤x.2∧x.2≤p+6000∧WOK x.1)∧af Tryz.prog 69 [.ptr 4 0] [(4,bV b p)] (ap x.1) [(4,bV b x.2)]:=by
 obtain⟨⟨w0,q⟩,⟨h1,h2,h3⟩,hB⟩:=zX b p h (by omega)
 dsimp only at h1 h2 h3 hB
 obtain⟨m,hm,hmc⟩:=dP b q 3 h (by omega) (by omega)
 obtain⟨r,hr,hrc⟩:=dP b (q+1) 5 h (by omega) (by omega)
 obtain⟨r,rfl⟩:∃k:Nat,(k:Int)=r:=⟨r.toNat,by omega⟩
 have hC:=sr w0 r h3 (by omega)
 have hco:=cD h3 r
 suffices hs:∃r hout,(∃x:Wrl×Int,(p≤x.2∧x.2≤p+6000∧WOK x.1)∧r=ap x.1∧hout=[(4,bV b x.2)])∧af Tryz.prog 69 [.ptr 4 0] [(4,bV b p)] r hout by
  obtain⟨r,hout,⟨v,hv,rfl,rfl⟩,h⟩:=hs
  exact⟨v,hv,h⟩
 refine dM al Tryz.func69 rfl rfl true 1 5 rfl rfl rfl rfl (R:=fun r hout=>∃x:Wrl×Int,(p≤x.2∧x.2≤p+6000∧WOK x.1)∧r=ap x.1∧hout=[(4,bV b x.2)]) (r0:=ap w0) (hout0:=[(4,bV b p)]) (⟨(w0,p),⟨by dsimp only;omega,by dsimp only;omega,h3⟩,rfl,rfl⟩) fun K hK hb1 hb2=>?_;simp only[ae,enc,Nat.reduceAdd]
 clear hb1 hb2
 generalize aX w0 r=w1 at *
 have body:∀(K:Id→Prop) (c:Code) (i:Nat) (w:Wrl) (q2:Int),True:=fun _ _ _ _ _=>trivial
 by_cases hm0:0<m
 ·(repeat' first|refine st ?_|refine sa fun xe hxe=>?_|refine sb (fun hq=>?_) fun hq=>?_|refine cr (hmc) ?_|refine cr (hrc) ?_|refine cr (hC) ?_|refine co (hB) ?_|exact True.intro)
  refine ab hK [] [0,2,3,4] (fun x:Nat×Wrl×Int=>⟨[(0,.ptr 4 0),(2,.ptr 5 0),(3,.ptr 6 0),(4,.int .i64 x.1)],[(4,bV b x.2.2),(5,.var 33 sR),(6,.var 33 (ap x.2.1).cells)],7⟩)
   (fun x=>x.1≤69∧WOK x.2.1∧p≤x.2.2∧x.2.2≤p+100+61*x.1) (fun x=>70-x.1) (0,w1,q+1+1) ⟨by dsimp only;omega,hco,by dsimp only;omega,by dsimp only;omega⟩ rfl ?_
  rintro⟨i,w,q2⟩ ⟨hi1,hi2,hi3,hi4⟩
  dsimp only at hi1 hi2 hi3 hi4⊢
  obtain⟨n,hn,hnc⟩:=dP b q2 70 h (by omega) (by omega)
  obtain⟨⟨⟨z,e⟩,q3⟩,⟨e1,e2,e3,e4⟩,hE⟩:=ra b (q2+1) w h (by omega) hi2
  dsimp only at e1 e2 e3 e4 hE
  have hD:=rq w z e hi2 e3 e4
  have hdo:=iT hi2 e
  by_cases hlt:(i:Int)<n
  ·cases z with
   |false=>
    have hE:af Tryz.prog 55 [.ptr 4 0,ap w] [(4,bV b (q2+1))] (lh e) [(4,bV b q3)]:=hE
    generalize dG w e=w2 at *
    (repeat' first|refine st ?_|refine sa fun xe hxe=>?_|refine sb (fun hq=>?_) fun hq=>?_|refine cr (hnc) ?_|refine cr (hD) ?_|refine co (hE) ?_|exact True.intro)
    exact⟨(i+1,w2,q3),⟨by dsimp only;omega,hdo,by dsimp only;omega,by dsimp only;omega⟩,by dsimp only;omega,rfl⟩
   |true=>
    have hE:af Tryz.prog 55 [.ptr 4 0,ap w] [(4,bV b (q2+1))] (.agg [.int .i64 e.kind,.int .i64 e.a,.int .i64 e.b,.int .i64 e.v.round,.int .i64 e.v.author,.nils,.int .i64 e.v.digest]) [(4,bV b q3)]:=hE
    rw[e4 rfl] at hD
    generalize dG w e=w2 at *
    (repeat' first|refine st ?_|refine sa fun xe hxe=>?_|refine sb (fun hq=>?_) fun hq=>?_|refine cr (hnc) ?_|refine cr (hD) ?_|refine co (hE) ?_|exact True.intro)
    exact⟨(i+1,w2,q3),⟨by dsimp only;omega,hdo,by dsimp only;omega,by dsimp only;omega⟩,by dsimp only;omega,rfl⟩
  ·(repeat' first|refine st ?_|refine sa fun xe hxe=>?_|refine sb (fun hq=>?_) fun hq=>?_|refine cr (hnc) ?_|exact True.intro)
   exact⟨(w,q2+1),⟨by dsimp only;omega,by dsimp only;omega,hi2⟩,rfl,rfl⟩
 ·(repeat' first|refine st ?_|refine sa fun xe hxe=>?_|refine sb (fun hq=>?_) fun hq=>?_|refine cr (hmc) ?_|refine co (hB) ?_|exact True.intro)
  refine ab hK [] [0,2,3,4] (fun x:Nat×Wrl×Int=>⟨[(0,.ptr 4 0),(2,.ptr 5 0),(3,.ptr 6 0),(4,.int .i64 x.1)],[(4,bV b x.2.2),(5,.var 33 sR),(6,.var 33 (ap x.2.1).cells)],7⟩)
   (fun x=>x.1≤69∧WOK x.2.1∧p≤x.2.2∧x.2.2≤p+100+61*x.1) (fun x=>70-x.1) (0,w0,q+1) ⟨by dsimp only;omega,h3,by dsimp only;omega,by dsimp only;omega⟩ rfl ?_
  rintro⟨i,w,q2⟩ ⟨hi1,hi2,hi3,hi4⟩
  dsimp only at hi1 hi2 hi3 hi4⊢
  obtain⟨n,hn,hnc⟩:=dP b q2 70 h (by omega) (by omega)
  obtain⟨⟨⟨z,e⟩,q3⟩,⟨e1,e2,e3,e4⟩,hE⟩:=ra b (q2+1) w h (by omega) hi2
  dsimp only at e1 e2 e3 e4 hE
  have hD:=rq w z e hi2 e3 e4
  have hdo:=iT hi2 e
  by_cases hlt:(i:Int)<n
  ·cases z with
   |false=>
    have hE:af Tryz.prog 55 [.ptr 4 0,ap w] [(4,bV b (q2+1))] (lh e) [(4,bV b q3)]:=hE
    generalize dG w e=w2 at *
    (repeat' first|refine st ?_|refine sa fun xe hxe=>?_|refine sb (fun hq=>?_) fun hq=>?_|refine cr (hnc) ?_|refine cr (hD) ?_|refine co (hE) ?_|exact True.intro)
    exact⟨(i+1,w2,q3),⟨by dsimp only;omega,hdo,by dsimp only;omega,by dsimp only;omega⟩,by dsimp only;omega,rfl⟩
   |true=>
    have hE:af Tryz.prog 55 [.ptr 4 0,ap w] [(4,bV b (q2+1))] (.agg [.int .i64 e.kind,.int .i64 e.a,.int .i64 e.b,.int .i64 e.v.round,.int .i64 e.v.author,.nils,.int .i64 e.v.digest]) [(4,bV b q3)]:=hE
    rw[e4 rfl] at hD
    generalize dG w e=w2 at *
    (repeat' first|refine st ?_|refine sa fun xe hxe=>?_|refine sb (fun hq=>?_) fun hq=>?_|refine cr (hnc) ?_|refine cr (hD) ?_|refine co (hE) ?_|exact True.intro)
    exact⟨(i+1,w2,q3),⟨by dsimp only;omega,hdo,by dsimp only;omega,by dsimp only;omega⟩,by dsimp only;omega,rfl⟩
  ·(repeat' first|refine st ?_|refine sa fun xe hxe=>?_|refine sb (fun hq=>?_) fun hq=>?_|refine cr (hnc) ?_|exact True.intro)
   exact⟨(w,q2+1),⟨by dsimp only;omega,by dsimp only;omega,hi2⟩,rfl,rfl⟩
def wL (w:Wrl):Prop:=w.com.length≤1000∧∀g∈w.views,g.length≤1000
theorem WOK.sm {w:Wrl}(h:WOK w):wL w:=⟨by have:=h.len;omega,fun g hg=>by have:=h.vl g hg;omega⟩
theorem C1 {α:Type}{xs:List α}{lo hi:Option V}{a b:Nat}{x:α}(h:x∈fF xs lo hi a b):x∈xs:=by
 unfold fF at h
 split at h
 ·exact h
 ·exact List.mem_of_mem_take h
 ·exact List.mem_of_mem_drop h
 ·exact List.mem_of_mem_take (List.mem_of_mem_drop h)
theorem C0 {α:Type}(xs:List α)(lo hi:Option V)(a b:Nat):(fF xs lo hi a b).length≤xs.length:=by
 unfold fF
 split
 ·omega
 ·rw[List.length_take];omega
 ·rw[List.length_drop];omega
 ·rw[List.length_drop,List.length_take];omega
theorem E1 {vs:List (List Vtx)}{lo hi:Option V}{a b:Nat}(h:∀g∈vs,g.length≤1000):∀g∈fF vs lo hi a b,g.length≤1000:=fun g hg=>h g (C1 hg)
theorem ym {vs:List (List Vtx)}{k k2:Nat}{g0:List Vtx}{lo hi:Option V}{a b:Nat}(h:∀g∈vs,g.length≤1000)(hx:vs[k2]?=some g0):∀g∈vs.set k (fF g0 lo hi a b),g.length≤1000:=fun g hg=>by
 rcases mem_set hg with rfl|hg
 ·have h1:=C0 g0 lo hi a b
  have h2:=h g0 (List.mem_of_getElem? hx)
  omega
 ·exact h g hg
theorem Is {b:List Int}{p q:Int}{c l:List Int}{bd:Int}{vs:List (List Vtx)}{ps:List Ppl}(h1:p≤q∧q≤p+6100)(h2:c.length≤1000)(h3:∀g∈vs,g.length≤1000):∃x:Wrl×Int,(p≤x.2∧x.2≤p+6100∧wL x.1)∧V.agg [.lst (.int .i64) c,.lst (.int .i64) l,.int .i64 bd,.lst (.lst .vtx) vs,.lst .ppl ps]=ap x.1∧([(4,bV b q)]:VH)=[(4,bV b x.2)]:=⟨(⟨c,l,bd,vs,ps⟩,q),⟨h1.1,h1.2,h2,h3⟩,rfl,rfl⟩
set_option maxHeartbeats 1000000 in
theorem Ad (b:List Int)(p:Int)(h:o7 b 0)(hp:0≤p∧p≤400000):∃x:Wrl×Int,(p≤x.2∧x.2≤p+6100∧wL x.1)∧af Tryz.prog 70 [.ptr 4 0] [(4,bV b p)] (ap x.1) [(4,bV b x.2)]:=by
 obtain⟨⟨w,q⟩,⟨h1,h2,h3⟩,hB⟩:=vo b p h (by omega)
 dsimp only at h1 h2 h3 hB
 have hC:=G7 w h3
 have h7:=h3.len
 have hvl:=h3.vlen
 have hpl:=h3.plen
 have hll:=(be.1 h3.lead).2
 have hsm:=h3.sm
 suffices hs:∃r hout,(∃x:Wrl×Int,(p≤x.2∧x.2≤p+6100∧wL x.1)∧r=ap x.1∧hout=[(4,bV b x.2)])∧af Tryz.prog 70 [.ptr 4 0] [(4,bV b p)] r hout by
  obtain⟨r,hout,⟨v,hv,rfl,rfl⟩,h⟩:=hs
  exact⟨v,hv,h⟩
 refine dM al Tryz.func70 rfl rfl true 1 5 rfl rfl rfl rfl (R:=fun r hout=>∃x:Wrl×Int,(p≤x.2∧x.2≤p+6100∧wL x.1)∧r=ap x.1∧hout=[(4,bV b x.2)]) (r0:=ap w) (hout0:=[(4,bV b p)]) (⟨(w,p),⟨by dsimp only;omega,by dsimp only;omega,hsm⟩,rfl,rfl⟩) fun K hK hb1 hb2=>?_;simp only[ae,enc,Nat.reduceAdd]
 clear hb1 hb2
 (repeat' first|refine st ?_|refine sa fun xe hxe=>?_|refine sb (fun hq=>?_) fun hq=>?_|refine cr (hC) ?_|((with_reducible refine bl ?_);(conv=>whnf);(first|refine bP (dP b _ _ h (by omega) (by omega)) fun xv hxv=>?_|refine bP (zY b _ h (by omega)) fun xv hxv=>?_|refine bP (z8 b _ _ h (by omega) (by omega)) fun xv hxv=>?_);conv=>whnf)|refine co (hB) ?_|exact True.intro)
 all_goals refine Is ?_ ?_ ?_
 all_goals first|omega|(rw[List.length_set];omega)|omega|exact hsm.2|exact E1 hsm.2|exact ym hsm.2 hxe|(exact ym hsm.2 (by assumption))
theorem F8 (l:List Int)(n:Int):af Tryz.prog 81 [.lst (.int .i64) l,.int .i64 n] [] (.bool (l.contains n)) []:=by
 refine aa al Tryz.func81 rfl rfl false 0 4 rfl rfl rfl rfl fun K hK hb1 hb2=>?_;simp only[ae,enc,Nat.reduceAdd]
 simp[ah,V.toD,bnd,ag,D.cells] at hb1
 (repeat' first|refine st ?_|refine sa fun xe hxe=>?_|refine sb (fun hq=>?_) fun hq=>?_|exact True.intro)
 refine ab hK [] [0,1,5] (fun i:Nat=>⟨[(0,.lst (.int .i64) l),(1,.int .i64 n),(5,.int .i64 i)],[],4⟩) (fun i=>i≤l.length∧∀y∈l.take i,(y==n)=false) (fun i=>l.length-i) 0 ⟨by simp,by simp⟩ rfl ?_
 rintro i ⟨hi,hall⟩
 by_cases hlt:i<l.length
 ·have hxe:l[i]?=some l[i]:=List.getElem?_eq_getElem hlt
  have hsn:l.take (i+1)=l.take i++[l[i]]:=List.take_succ_eq_append_getElem hlt
  have hm:l[i]∈l:=List.getElem_mem hlt
  generalize l[i]=x at *
  by_cases h:x=n
  ·subst h
   (repeat' first|refine st ?_|refine sa fun xe hxe=>?_|refine sb (fun hq=>?_) fun hq=>?_|exact True.intro)
   ·rw[List.contains_iff_mem.2 hm]
    exact⟨rfl,rfl⟩
   ·exact absurd trivial hq
  ·(repeat' first|refine st ?_|refine sa fun xe hxe=>?_|refine sb (fun hq=>?_) fun hq=>?_|exact True.intro)
   exact⟨i+1,⟨by omega,by rw[hsn];exact aP hall (by simpa using h)⟩,by omega,rfl⟩
 ·(repeat' first|refine st ?_|refine sa fun xe hxe=>?_|refine sb (fun hq=>?_) fun hq=>?_|exact True.intro)
  rw[List.take_of_length_le (by omega)] at hall
  have:l.contains n=false:=by
   rw[Bool.eq_false_iff]
   intro h
   have:=hall _ (List.contains_iff_mem.1 h)
   simp at this
  rw[this]
  exact⟨rfl,rfl⟩
theorem H8 (w:Wrl)(i:Nat)(p:Ppl)(h:WOK w)(hx:w.props[i]?=some p):af Tryz.prog 22 [ap w,.int .i64 (i:Int)] [] (.bool (don w.com p)) []:=by
 have hpm:=(h.pv p (List.mem_of_getElem? hx)).2
 have hW:=nI w.com p.members
 have hw:pR w.com p.members=cR w.com p.members:=by simp[pR,h.com,hpm]
 rw[hw] at hW
 have hQ:=rN w.com
 rw[if_pos h.com] at hQ
 refine aa al Tryz.func22 rfl rfl false 0 4 rfl rfl rfl rfl fun K hK hb1 hb2=>?_;simp only[ae,enc,Nat.reduceAdd]
 clear hb1 hb2
 (repeat' first|refine st ?_|refine sa fun xe hxe=>?_|refine sb (fun hq=>?_) fun hq=>?_|refine cr (hW) ?_|refine cr (hQ) ?_|exact True.intro)
 exact⟨rfl,rfl⟩
theorem Hi (w:Wrl)(e:Evt)(hl:w.com.length≤2000000)(hvl:e.v.parents.length≤1000000):af Tryz.prog 28 [ap w,lh e] [] (if dw w then ap (dG w e) else sM) []:=by
 have hV:=uG w hl
 refine aa al Tryz.func28 rfl rfl true 0 4 rfl rfl rfl rfl fun K hK hb1 hb2=>?_;simp only[ae,enc,Nat.reduceAdd]
 clear hb1 hb2
 cases hs:dw w
 ·rw[hs] at hV
  (repeat' first|refine st ?_|refine sa fun xe hxe=>?_|refine sb (fun hq=>?_) fun hq=>?_|refine cr (hV) ?_|exact True.intro)
  exact⟨rfl,rfl⟩
 ·rw[hs] at hV
  have hw:=ce.1 hs
  have hD:=B8 w e hw hvl
  have hC:=wq _ (iT hw e)
  generalize dG w e=u at *
  (repeat' first|refine st ?_|refine sa fun xe hxe=>?_|refine sb (fun hq=>?_) fun hq=>?_|refine cr (hV) ?_|refine cr (hD) ?_|refine cr (hC) ?_|exact True.intro)
  exact⟨rfl,rfl⟩
theorem Cp (w:Wrl)(es:List Evt)(hl:w.com.length≤2000000)(hel:es.length≤1000000)(hvl:∀e∈es,e.v.parents.length≤1000000):af Tryz.prog 19 [ap w,.lst .evt es] [] (if decide (es.length≤80) && dw w then .tup [ap (eC w es),.bool true] else .tup [sM,.bool false]) []:=by
 have hV:=uG w hl
 refine aa al Tryz.func19 rfl rfl true 0 4 rfl rfl rfl rfl fun K hK hb1 hb2=>?_;simp only[ae,enc,Nat.reduceAdd]
 clear hb1 hb2
 cases hs:dw w
 ·rw[hs] at hV
  (repeat' first|refine st ?_|refine sa fun xe hxe=>?_|refine sb (fun hq=>?_) fun hq=>?_|refine cr (hV) ?_|exact True.intro)
  rw[Bool.and_false]
  exact⟨rfl,rfl⟩
 ·rw[hs] at hV
  have hw:=ce.1 hs
  by_cases h80:80<(es.length:Int)
  ·(repeat' first|refine st ?_|refine sa fun xe hxe=>?_|refine sb (fun hq=>?_) fun hq=>?_|refine cr (hV) ?_|exact True.intro)
   rw[decide_eq_false (p:=es.length≤80) (by omega)]
   exact⟨rfl,rfl⟩
  ·rw[decide_eq_true (p:=es.length≤80) (by omega),Bool.true_and]
   (repeat' first|refine st ?_|refine sa fun xe hxe=>?_|refine sb (fun hq=>?_) fun hq=>?_|refine cr (hV) ?_|exact True.intro)
   refine ab hK [] [1,2,4,6] (fun i:Nat=>⟨[(1,.lst .evt es),(2,.ptr 4 0),(4,.ptr 5 0),(6,.int .i64 (i:Int))],[(4,.var 33 (ap (eC w (es.take i))).cells),(5,.var 33 sR)],6⟩) (fun i=>i≤es.length) (fun i=>es.length-i) 0 (by simp) rfl ?_
   intro i hi
   have hwi:=lJ hw (es.take i)
   by_cases hlt:i<es.length
   ·have hxe:es[i]?=some es[i]:=List.getElem?_eq_getElem hlt
    have hsn:=kN w (es.take i) es[i]
    rw[←List.take_succ_eq_append_getElem hlt] at hsn
    have hD:=B8 _ es[i] hwi (hvl _ (List.getElem_mem hlt))
    generalize es[i]=e at *
    generalize eC w (es.take i)=u at *
    (repeat' first|refine st ?_|refine sa fun xe hxe=>?_|refine sb (fun hq=>?_) fun hq=>?_|refine cr (hD) ?_|exact True.intro)
    refine⟨i+1,by omega,by omega,?_⟩
    rw[hsn]
    rfl
   ·rw[List.take_of_length_le (by omega)] at hwi⊢
    have hC:=wq _ hwi
    (repeat' first|refine st ?_|refine sa fun xe hxe=>?_|refine sb (fun hq=>?_) fun hq=>?_|refine cr (hC) ?_|exact True.intro)
    exact⟨rfl,rfl⟩
theorem HQ (c:List Int)(hc:∀x∈c,0≤x∧x≤255):∃x:Wrl×Bool×Evt,(wL x.1∧x.2.2.v.parents.length≤30∧(x.2.1=true→x.2.2.v.parents=[]))∧af Tryz.prog 26 [.lst (.int .u8) c] [] (.tup [ap x.1,Al x.2.1 x.2.2]) []:=by
 have h:=GZ hc
 obtain⟨⟨w,q⟩,⟨h1,h2,h3⟩,hw⟩:=vo _ 0 h (by omega)
 dsimp only at h1 h2 h3 hw
 obtain⟨⟨⟨z,e⟩,q3⟩,⟨e1,e2,e3,e4⟩,hE⟩:=ra _ q w h (by omega) h3
 dsimp only at e1 e2 e3 e4 hE
 obtain⟨n,hn,hnc⟩:=dP _ q3 14 h (by omega) (by omega)
 by_cases h0:n=0
 ·obtain⟨⟨w2,q4⟩,⟨g1,g2,g3⟩,hW⟩:=Ad _ (q3+1) h (by omega)
  dsimp only at g1 g2 g3 hW
  refine⟨(w2,z,e),⟨g3,e3,e4⟩,?_⟩
  refine aa al Tryz.func26 rfl rfl true 0 4 rfl rfl rfl rfl fun K hK hb1 hb2=>?_;simp only[ae,enc,Nat.reduceAdd]
  clear hb1 hb2
  cases z with
  |false=>
   have hE:af Tryz.prog 55 [.ptr 4 0,ap w] [(4,bV (c.take 2000) q)] (lh e) [(4,bV (c.take 2000) q3)]:=hE
   (repeat' first|refine st ?_|refine sa fun xe hxe=>?_|refine sb (fun hq=>?_) fun hq=>?_|refine cr (kK _) ?_|refine cr (hw) ?_|refine cr (hnc) ?_|refine cr (hW) ?_|refine co (hE) ?_|exact True.intro)
   exact⟨rfl,rfl⟩
  |true=>
   have hE:af Tryz.prog 55 [.ptr 4 0,ap w] [(4,bV (c.take 2000) q)] (.agg [.int .i64 e.kind,.int .i64 e.a,.int .i64 e.b,.int .i64 e.v.round,.int .i64 e.v.author,.nils,.int .i64 e.v.digest]) [(4,bV (c.take 2000) q3)]:=hE
   (repeat' first|refine st ?_|refine sa fun xe hxe=>?_|refine sb (fun hq=>?_) fun hq=>?_|refine cr (kK _) ?_|refine cr (hw) ?_|refine cr (hnc) ?_|refine cr (hW) ?_|refine co (hE) ?_|exact True.intro)
   exact⟨rfl,rfl⟩
 ·refine⟨(w,z,e),⟨h3.sm,e3,e4⟩,?_⟩
  refine aa al Tryz.func26 rfl rfl true 0 4 rfl rfl rfl rfl fun K hK hb1 hb2=>?_;simp only[ae,enc,Nat.reduceAdd]
  clear hb1 hb2
  cases z with
  |false=>
   have hE:af Tryz.prog 55 [.ptr 4 0,ap w] [(4,bV (c.take 2000) q)] (lh e) [(4,bV (c.take 2000) q3)]:=hE
   (repeat' first|refine st ?_|refine sa fun xe hxe=>?_|refine sb (fun hq=>?_) fun hq=>?_|refine cr (kK _) ?_|refine cr (hw) ?_|refine cr (hnc) ?_|refine co (hE) ?_|exact True.intro)
   exact⟨rfl,rfl⟩
  |true=>
   have hE:af Tryz.prog 55 [.ptr 4 0,ap w] [(4,bV (c.take 2000) q)] (.agg [.int .i64 e.kind,.int .i64 e.a,.int .i64 e.b,.int .i64 e.v.round,.int .i64 e.v.author,.nils,.int .i64 e.v.digest]) [(4,bV (c.take 2000) q3)]:=hE
   (repeat' first|refine st ?_|refine sa fun xe hxe=>?_|refine sb (fun hq=>?_) fun hq=>?_|refine cr (kK _) ?_|refine cr (hw) ?_|refine cr (hnc) ?_|refine co (hE) ?_|exact True.intro)
   exact⟨rfl,rfl⟩
def Iv (es:List Evt):Prop:=es.length≤100∧∀e∈es,e.v.parents.length≤30
theorem De {es:List Evt}{e:Evt}(h:∀e∈es,e.v.parents.length≤30)(he:e.v.parents.length≤30):∀x∈es++[e],x.v.parents.length≤30:=fun x hx=>by
 rcases List.mem_append.1 hx with hx|hx
 ·exact h x hx
 ·rw[List.mem_singleton.1 hx];exact he
set_option maxHeartbeats 1000000 in
theorem Fc (c:List Int)(hc:∀x∈c,0≤x∧x≤255):∃x:Wrl×List Evt,(WOK x.1∧Iv x.2)∧af Tryz.prog 17 [.lst (.int .u8) c] [] (.tup [ap x.1,.lst .evt x.2]) []:=by
 have h:=GZ hc
 obtain⟨⟨w0,q⟩,⟨h1,h2,h3⟩,hB⟩:=zX _ 0 h (by omega)
 dsimp only at h1 h2 h3 hB
 suffices hs:∃r hout,(∃x:Wrl×List Evt,(WOK x.1∧Iv x.2)∧r= .tup [ap x.1,.lst .evt x.2]∧hout=[])∧af Tryz.prog 17 [.lst (.int .u8) c] [] r hout by
  obtain⟨r,hout,⟨v,hv,rfl,rfl⟩,h⟩:=hs
  exact⟨v,hv,h⟩
 refine dM al Tryz.func17 rfl rfl true 0 4 rfl rfl rfl rfl (R:=fun r hout=>∃x:Wrl×List Evt,(WOK x.1∧Iv x.2)∧r= .tup [ap x.1,.lst .evt x.2]∧hout=[]) (r0:=.tup [ap w0,.lst .evt []]) (hout0:=[]) (⟨(w0,[]),⟨h3,by simp[Iv]⟩,rfl,rfl⟩) fun K hK hb1 hb2=>?_;simp only[ae,enc,Nat.reduceAdd]
 clear hb1 hb2
 obtain⟨m,hm,hmc⟩:=dP _ q 2 h (by omega) (by omega)
 obtain⟨r,hr,hrc⟩:=dP _ (q+1) 4 h (by omega) (by omega)
 have hC:=sr w0 r.toNat h3 (by omega)
 rw[show ((r.toNat:Nat):Int)=r by omega] at hC
 have hco:=cD h3 r.toNat
 (repeat' first|refine Jc ?_|refine sa fun xe hxe=>?_|refine sb (fun hq=>?_) fun hq=>?_|refine cr (kK _) ?_|refine cr (hmc) ?_|refine co (hB) ?_|exact True.intro)
 refine qQ hK [] [2,4,5] (fun x:Wrl×Int=>⟨[(2,.ptr 4 0),(4,.ptr 5 0),(5,.ptr 6 0)],[(4,.var 33 sR),(5,bV (c.take 2000) x.2),(6,.var 33 (ap x.1).cells)],7⟩) (fun x=>WOK x.1∧0≤x.2∧x.2≤100) ?_ ?_
 ·by_cases h0:m=0
  ·(repeat' first|refine st ?_|refine sa fun xe hxe=>?_|refine sb (fun hq=>?_) fun hq=>?_|refine cr (hrc) ?_|refine cr (hC) ?_|exact True.intro)
   exact⟨(aX w0 r.toNat,q+1+1),⟨hco,by dsimp only;omega,by dsimp only;omega⟩,rfl⟩
  ·(repeat' first|refine st ?_|refine sa fun xe hxe=>?_|refine sb (fun hq=>?_) fun hq=>?_|exact True.intro)
   exact⟨(w0,q+1),⟨h3,by dsimp only;omega,by dsimp only;omega⟩,rfl⟩
 ·rintro⟨w,p1⟩ ⟨g1,g2,g3⟩
  dsimp only at g1 g2 g3⊢
  clear hmc hrc hC hB
  obtain⟨n,hn,hnc⟩:=dP _ p1 60 h (by omega) (by omega)
  obtain⟨k,hk,hkc⟩:=dP _ (p1+1) 20 h (by omega) (by omega)
  obtain⟨j,hj,hjc⟩:=dP _ (p1+1+1) 3 h (by omega) (by omega)
  (repeat' first|refine Jc ?_|refine sa fun xe hxe=>?_|refine sb (fun hq=>?_) fun hq=>?_|refine cr (hnc) ?_|refine cr (hkc) ?_|exact True.intro)
  refine qQ hK [] [2,4,5,6,7,8] (fun x:Int×Int=>⟨[(2,.ptr 4 0),(4,.ptr 5 0),(5,.ptr 6 0),(6,.ptr 7 0),(7,.ref 8),(8,.int .i64 x.1)],[(4,.var 33 sR),(5,bV (c.take 2000) x.2),(6,.var 33 (ap w).cells),(7,.var 33 (ap w).cells),(8,.row 58 .evt [])],9⟩) (fun x=>x.1≤82∧0≤x.2∧x.2≤200) ?_ ?_
  ·by_cases h0:k=0
   ·(repeat' first|refine st ?_|refine sa fun xe hxe=>?_|refine sb (fun hq=>?_) fun hq=>?_|refine cr (hjc) ?_|exact True.intro)
    exact⟨(79+j,p1+1+1+1),⟨by dsimp only;omega,by dsimp only;omega,by dsimp only;omega⟩,rfl⟩
   ·(repeat' first|refine st ?_|refine sa fun xe hxe=>?_|refine sb (fun hq=>?_) fun hq=>?_|exact True.intro)
    exact⟨(n,p1+1+1),⟨by dsimp only;omega,by dsimp only;omega,by dsimp only;omega⟩,rfl⟩
  ·rintro⟨n,p2⟩ ⟨f1,f2,f3⟩
   dsimp only at f1 f2 f3⊢
   clear hnc hkc hjc
   (repeat' first|refine st ?_|refine sa fun xe hxe=>?_|refine sb (fun hq=>?_) fun hq=>?_|exact True.intro)
   refine ab hK [] [2,4,5,6,7,8,9] (fun x:Nat×Wrl×List Evt×Int=>⟨[(2,.ptr 4 0),(4,.ptr 5 0),(5,.ptr 6 0),(6,.ptr 7 0),(7,.ref 8),(8,.int .i64 n),(9,.int .i64 (x.1:Int))],[(4,.var 33 sR),(5,bV (c.take 2000) x.2.2.2),(6,.var 33 (ap w).cells),(7,.var 33 (ap x.2.1).cells),(8,.row 58 .evt x.2.2.1)],9⟩)
    (fun x=>x.1≤82∧WOK x.2.1∧(x.2.2.1.length=x.1∧∀e∈x.2.2.1,e.v.parents.length≤30)∧0≤x.2.2.2∧x.2.2.2≤200+60*x.1) (fun x=>90-x.1) (0,w,[],p2) ⟨by dsimp only;omega,g1,⟨rfl,by simp⟩,by dsimp only;omega,by dsimp only;omega⟩ rfl ?_
   rintro⟨i,u,es,p3⟩ ⟨i1,i2,⟨i3,i4⟩,i5,i6⟩
   dsimp only at i1 i2 i3 i4 i5 i6⊢
   obtain⟨⟨⟨z,e⟩,p4⟩,⟨e1,e2,e3,e4⟩,hE⟩:=ra _ p3 u h (by omega) i2
   dsimp only at e1 e2 e3 e4 hE
   have hD:=rq u z e i2 e3 e4
   have hdo:=iT i2 e
   by_cases hlt:(i:Int)<n
   ·have hap:=De i4 e3
    cases z with
    |false=>
     have hE:af Tryz.prog 55 [.ptr 4 0,ap u] [(4,bV (c.take 2000) p3)] (lh e) [(4,bV (c.take 2000) p4)]:=hE
     generalize dG u e=u2 at *
     (repeat' first|refine st ?_|refine sa fun xe hxe=>?_|refine sb (fun hq=>?_) fun hq=>?_|refine cr (hD) ?_|refine co (hE) ?_|exact True.intro)
     exact⟨(i+1,u2,es++[e],p4),⟨by dsimp only;omega,hdo,⟨by simp[i3],hap⟩,by dsimp only;omega,by dsimp only;omega⟩,by dsimp only;omega,rfl⟩
    |true=>
     have hE:af Tryz.prog 55 [.ptr 4 0,ap u] [(4,bV (c.take 2000) p3)] (.agg [.int .i64 e.kind,.int .i64 e.a,.int .i64 e.b,.int .i64 e.v.round,.int .i64 e.v.author,.nils,.int .i64 e.v.digest]) [(4,bV (c.take 2000) p4)]:=hE
     obtain⟨kd,a,b,⟨rd,au,ps,dg⟩⟩:=e
     obtain rfl:ps=[]:=e4 rfl
     dsimp only at hD hE
     generalize dG u _=u2 at *
     (repeat' first|refine st ?_|refine sa fun xe hxe=>?_|refine sb (fun hq=>?_) fun hq=>?_|refine cr (hD) ?_|refine co (hE) ?_|exact True.intro)
     exact⟨(i+1,u2,es++[⟨kd,a,b,⟨rd,au,[],dg⟩⟩],p4),⟨by dsimp only;omega,hdo,⟨by simp[i3],hap⟩,by dsimp only;omega,by dsimp only;omega⟩,by dsimp only;omega,rfl⟩
   ·(repeat' first|refine st ?_|refine sa fun xe hxe=>?_|refine sb (fun hq=>?_) fun hq=>?_|exact True.intro)
    exact⟨(w,es),⟨g1,by dsimp only;omega,i4⟩,rfl,rfl⟩
end Go.Proofs.YthmfppknagbkeaaGreatDoor.Am
namespace Go.Proofs.YthmfppknagbkeaaGreatDoor.Am
open Go
theorem Dl {w:Wrl}(hw:WOK w){i k:Nat}{p q:Ppl}(hk:k<i)(hp:w.props[i]?=some p)(hq:w.props[k]?=some q)(h1:p.v.round=q.v.round)(h2:p.v.author=q.v.author):p.v.author=w.bad∧jb w.bad p.members q.members=false:=by
 have h:=fq hw.fit hk hq hp
 unfold fitP at h
 rw[lM.2 ⟨h1,h2⟩] at h
 have h:gL p.v q.v=false∧p.v.author=w.bad∧jb w.bad p.members q.members=false:=by simpa using h
 exact h.2
theorem xC {c:List Int}:∀{ms:List Int} {m:Int},m∉ms→cR c (cH ms m)=cR c ms+c.getD m.toNat 0
 |[],m,_=>by simp[cH,cR]
 |x::l,m,h=>by
  simp only[List.mem_cons,not_or] at h
  unfold cH
  split
  ·have:=xC (c:=c) h.2
   simp only[cR,List.map_cons,List.sum_cons] at this⊢
   omega
  ·rw[if_neg fun e=>h.1 e.symm]
   simp only[cR,List.map_cons,List.sum_cons]
   omega
theorem wR (c:List Int):cR c ((List.range c.length).map fun i:Nat=>(i:Int))=jf c:=by
 have:((List.range c.length).map fun i:Nat=>(i:Int)).map (fun m=>c.getD m.toNat 0)=c:=by
  apply List.ext_getElem?
  intro i
  simp only[List.map_map,List.getElem?_map]
  rcases Nat.lt_or_ge i c.length with h|h
  ·rw[List.getElem?_range h,List.getElem?_eq_getElem h]
   simp[List.getD_eq_getElem?_getD,List.getElem?_eq_getElem h]
  ·rw[List.getElem?_eq_none (by simpa using h),List.getElem?_eq_none h]
   rfl
 unfold cR jf
 rw[this]
theorem gQ {l:List Int}(h:l.Pairwise (· < ·)):l.Nodup:=h.imp fun h=>by omega
theorem yf {c a b:List Int}(hc:∀x∈c,0≤x)(ha:a.Pairwise (· < ·))(hb:b.Pairwise (· < ·))(ha1:∀x∈a,0≤x∧x<c.length)(hb1:∀x∈b,0≤x∧x<c.length)(hd:∀x∈a,x∉b):cR c a+cR c b≤jf c:=by
 have key:∀b:List Int,b.Nodup→(∀x∈b,0≤x∧x<c.length)→(∀x∈a,x∉b)→∃l:List Int,l.Pairwise (· < ·)∧(∀x,x∈l↔x∈a∨x∈b)∧cR c l=cR c a+cR c b:=by
  intro b
  induction b with
  |nil=>exact fun _ _ _=>⟨a,ha,fun x=>by simp,by simp[cR]⟩
  |cons y b ih=>
   intro h1 h2 h3
   obtain⟨n1,n2⟩:=List.nodup_cons.1 h1
   obtain⟨l,l1,l2,l3⟩:=ih n2 (fun x hx=>h2 x (by simp[hx])) fun x hx hb=>h3 x hx (by simp[hb])
   refine⟨cH l y,tP l1,fun x=>?_,?_⟩
   ·rw[fL,l2,List.mem_cons]
    constructor
    ·rintro(h|h|h)
     ·exact .inr (.inl h)
     ·exact .inl h
     ·exact .inr (.inr h)
    ·rintro(h|h|h)
     ·exact .inr (.inl h)
     ·exact .inl h
     ·exact .inr (.inr h)
   ·rw[xC (fun h=>(l2 y).1 h|>.elim (fun ha=>h3 y ha (by simp)) n1),l3]
    simp only[cR,List.map_cons,List.sum_cons]
    omega
 obtain⟨l,l1,l2,l3⟩:=key b (gQ hb) hb1 hd
 rw[←l3,←wR]
 refine kP hc l1 ?_ fun x hx=>?_
 ·rw[List.pairwise_map]
  exact List.pairwise_lt_range.imp fun h=>by omega
 ·have:0≤x∧x<c.length:=((l2 x).1 hx).elim (ha1 x) (hb1 x)
  exact List.mem_map.2 ⟨x.toNat,List.mem_range.2 (by omega),by omega⟩
theorem l7 {c:List Int}{b:Int}:∀{a:List Int},a.Nodup→cR c a=cR c (a.filter fun m=>m !=b)+if b∈a then c.getD b.toNat 0 else 0
 |[],_=>by simp[cR]
 |x::l,h=>by
  obtain⟨h1,h2⟩:=List.nodup_cons.1 h
  have ih:=l7 (c:=c) (b:=b) h2
  by_cases e:x=b
  ·subst e
   rw[if_neg h1] at ih
   rw[if_pos (by simp),List.filter_cons,if_neg (by simp)]
   simp only[cR,List.map_cons,List.sum_cons] at ih⊢
   omega
  ·rw[List.filter_cons,if_pos (by simpa using e)]
   have:(b∈x::l)=(b∈l):=by simp[Ne.symm e]
   simp only[this]
   simp only[cR,List.map_cons,List.sum_cons] at ih⊢
   omega
theorem BS {c a b:List Int}{bad:Int}(hc:comV c=true)(hbad:badS c bad=true)(ha:cd c a=true)(hb:cd c b=true)(h1:quo c≤cR c a)(h2:quo c≤cR c b):jb bad a b=true:=by
 cases hbo:jb bad a b with
 |true=>rfl
 |false=>
  exfalso
  have hno:∀m∈a,m≠bad→m∉b:=fun m hm hne hmb=>by
   have:=jj.2 ⟨m,hne,hm,hmb⟩
   rw[hbo] at this
   cases this
  have a1:=bG ha
  have a2:=bf ha
  have hp:=(ao.1 hc).1
  have hw:=l7 (c:=c) (b:=bad) (gQ a1)
  have ht:=yf (c:=c) (a:=a.filter fun m=>m !=bad) (b:=b) (fun x hx=>by have:=hp x hx;omega) (a1.filter _) (bG hb) (fun x hx=>a2 x ((List.mem_filter.1 hx).1)) (bf hb) fun x hx=>hno x ((List.mem_filter.1 hx).1) (by simpa using(List.mem_filter.1 hx).2)
  have hf:=kF hc
  have hle:(if bad∈a then c.getD bad.toNat 0 else 0)≤pD c:=by
   split
   ·rename_i hm
    rcases dy.1 hbad with h|⟨-,h⟩
    ·have:=a2 _ hm;omega
    ·exact h
   ·exact hf.1
  have hq:quo c=2*jf c/3+1:=by
   have:=en hc
   unfold quo
   rw[Int.tdiv_eq_ediv_of_nonneg (by omega)]
  omega
theorem pY {w:Wrl}(hw:WOK w){i k:Nat}{p q:Ppl}(hk:k<i)(hp:w.props[i]?=some p)(hq:w.props[k]?=some q)(d1:don w.com p=true)(d2:don w.com q=true)(h1:p.v.round=q.v.round)(h2:p.v.author=q.v.author):False:=by
 have h:=(Dl hw hk hp hq h1 h2).2
 have m1:=(fp hw (List.mem_of_getElem? hp)).2
 have m2:=(fp hw (List.mem_of_getElem? hq)).2
 rw[BS hw.com hw.bad m1 m2 (by simpa[don] using d1) (by simpa[don] using d2)] at h
 cases h
def q7 (a b:List Int):List Int:=a.filter fun m=>b.contains m
def still (w:Wrl):Prop:=∀m i:Nat,m<w.com.length→i<w.props.length→cG w m i=false
theorem EE {w:Wrl}(h:WOK w)(m i:Int):cI w≤cI (bJ w m i):=by
 rcases eQ h m i with⟨-,e⟩|⟨-,e⟩
 ·rw[e];exact Nat.le_refl _
 ·omega
theorem tp {w:Wrl}(h:WOK w)(i:Int):∀n:Nat,cI (bS w i n)≤cI w→bS w i n=w∧∀m:Nat,m<n→cG w m i=false
 |0,_=>⟨rfl,fun m hm=>absurd hm (Nat.not_lt_zero m)⟩
 |n+1,ht=>by
  have ho:=fG h i n
  have h1:=EE ho n i
  have ht:cI (bJ (bS w i n) n i)≤cI w:=ht
  obtain⟨e1,e2⟩:=tp h i n (by omega)
  show bJ (bS w i n) n i=w∧_
  rw[e1] at ht⊢
  rcases eQ h n i with⟨d1,d2⟩|⟨d1,d2⟩
  ·refine⟨d2,fun m hm=>?_⟩
   rcases Nat.lt_or_ge m n with hlt|hge
   ·exact e2 m hlt
   ·obtain rfl:m=n:=by omega
    exact d1
  ·omega
theorem qt {w:Wrl}(h:WOK w):∀k:Nat,cI (aT w k)≤cI w→aT w k=w∧∀i m:Nat,i<k→m<w.com.length→cG w m i=false
 |0,_=>⟨rfl,fun i _ hi _=>absurd hi (Nat.not_lt_zero i)⟩
 |k+1,ht=>by
  have ho:=eN h k
  have h1:=lb ho k (aT w k).com.length
  have ht:cI (bS (aT w k) k (aT w k).com.length)≤cI w:=ht
  obtain⟨e1,e2⟩:=qt h k (by omega)
  show bS (aT w k) k (aT w k).com.length=w∧_
  rw[e1] at ht⊢
  obtain⟨d1,d2⟩:=tp h k _ ht
  refine⟨d1,fun i m hi hm=>?_⟩
  rcases Nat.lt_or_ge i k with hlt|hge
  ·exact e2 i m hlt hm
  ·obtain rfl:i=k:=by omega
   exact d2 m hm
theorem pe:∀(n:Nat) {w:Wrl},1519-cI w≤n→WOK w→still (bK w):=by
 have fin:∀{w:Wrl},WOK w→¬(cI w<cI (pass w)∧cI (pass w)≤1519)→still (pass w):=fun {w} h hn=>by
  have:=pB (gj h)
  obtain⟨e1,e2⟩:=qt h w.props.length (show cI (pass w)≤cI w by omega)
  have e1:pass w=w:=e1
  rw[e1]
  exact fun m i hm hi=>e2 i m hi hm
 intro n
 induction n with
 |zero=>
  intro w hn h
  rw[bK]
  split
  ·omega
  ·rename_i hh
   exact fin h hh
 |succ n ih=>
  intro w hn h
  rw[bK]
  split
  ·exact ih (by omega) (gj h)
  ·rename_i hh
   exact fin h hh
theorem qV {w:Wrl}(h:WOK w):∀r,still (aX w r)
 |0=>pe _ (Nat.le_refl _) h
 |r+1=>pe _ (Nat.le_refl _) (cF (fU (gm (cD h r)) _ _) _)
theorem CA {w:Wrl}(hw:WOK w){p:Ppl}(hp:p∈w.props)(hd:don w.com p=true):∃m:Nat,(m:Int)∈p.members∧(m:Int)≠w.bad∧m<w.com.length:=by
 have hm:=(fp hw hp).2
 have hq:quo w.com≤cR w.com p.members:=by simpa[don] using hd
 by_cases hx:∃m∈p.members,m≠w.bad
 ·obtain⟨m,h1,h2⟩:=hx
  have:=bf hm m h1
  exact⟨m.toNat,by rw[Int.toNat_of_nonneg this.1];exact h1,by rw[Int.toNat_of_nonneg this.1];exact h2,by omega⟩
 ·exfalso
  have hf:p.members.filter (fun m=>m !=w.bad)=[]:=List.filter_eq_nil_iff.2 fun m h1 h2=>hx ⟨m,h1,by simpa using h2⟩
  have h1:=l7 (c:=w.com) (b:=w.bad) (gQ (bG hm))
  rw[hf] at h1
  have hle:(if w.bad∈p.members then w.com.getD w.bad.toNat 0 else 0)≤pD w.com:=by
   have hb:=kF hw.com
   split
   ·rename_i h2
    rcases dy.1 hw.bad with h|⟨-,h⟩
    ·have:=bf hm _ h2;omega
    ·exact h
   ·exact hb.1
  have hb:=kF hw.com
  have ht:=en hw.com
  have:quo w.com=2*jf w.com/3+1:=by
   unfold quo
   rw[Int.tdiv_eq_ediv_of_nonneg (by omega)]
  have h0:cR w.com []=0:=rfl
  omega
theorem Da {w:Wrl}(hw:WOK w){p q:Ppl}(hp:p∈w.props)(hq:q∈w.props)(dp:don w.com p=true)(dq:don w.com q=true)(h1:p.v.round=q.v.round)(h2:p.v.author=q.v.author):p=q:=by
 obtain⟨i,hi⟩:=List.getElem?_of_mem hp
 obtain⟨k,hk⟩:=List.getElem?_of_mem hq
 rcases Nat.lt_trichotomy i k with h|h|h
 ·exact(pY hw h hk hi dq dp h1.symm h2.symm).elim
 ·subst h
  rw[hi] at hk
  exact Option.some.inj hk
 ·exact(pY hw h hi hk dp dq h1 h2).elim
theorem gu {w:Wrl}(hw:WOK w){m:Nat}(hm:m<w.com.length):w.views.getD m []∈w.views:=du (by rw[hw.vlen];exact hm)
theorem y9 {w:Wrl}(hw:WOK w)(hs:still w):∀(n:Nat) (p:Ppl),p∈w.props→don w.com p=true→p.v.round.toNat=n→∀m:Nat,m<w.com.length→(m:Int)≠w.bad→p.v∈w.views.getD m []:=by
 intro n
 induction n using Nat.strongRecOn with
 |ind n ih=>
  intro p hp hd hn m hm hb
  obtain⟨i,hi⟩:=List.getElem?_of_mem hp
  have hil:=(List.getElem?_eq_some_iff.1 hi).1
  have hdel:=hs m i hm hil
  have hgood:good w m=true:=cZ.2 ⟨⟨by omega,by omega⟩,hb⟩
  have hin:m8 w i=true:=ar.2 ⟨by omega,by omega⟩
  have hpr:ay w i=p:=by unfold ay;rw[Int.toNat_natCast];exact aU hi
  have hvw:view w m=w.views.getD m []:=by unfold view;rw[Int.toNat_natCast]
  unfold cG at hdel
  rw[hgood,hin,hpr,hd,hvw] at hdel
  simp only[Bool.true_and] at hdel
  obtain⟨k,k1,k2,k3⟩:=CA hw hp hd
  have hkp:=hw.kp p hp k (by rw[hw.vlen];exact k3) k2 (.inr k1)
  have hpar:parOK (w.views.getD m []) p.v=true:=by
   rw[bN] at hkp⊢
   intro q hq
   obtain⟨u,u1,u2,u3⟩:=aY.1 (hkp q hq)
   obtain⟨p',q1,q2,rfl⟩:=hw.knw _ (gu hw k3) u u1
   have h0:=(bc (fp hw q1).1).1.1
   exact aY.2 ⟨_,ih _ (by omega) p' q1 q2 rfl m hm hb,u2,u3⟩
  rw[hpar] at hdel
  have hh:cA (w.views.getD m []) p.v.round p.v.author=true:=by
   cases h:cA (w.views.getD m []) p.v.round p.v.author with
   |true=>rfl
   |false=>rw[h] at hdel;cases hdel
  obtain⟨u,u1,u2,u3⟩:=aY.1 hh
  obtain⟨p',q1,q2,rfl⟩:=hw.knw _ (gu hw hm) u u1
  rw[Da hw hp q1 hd q2 u2.symm u3.symm]
  exact u1
theorem yx {a b:List Int}(h:∀m∈a,m∈b):q7 a b=a:=List.filter_eq_self.2 fun m hm=>by simpa using h m hm
theorem tQ:∀(l:List Int) (m:Int),(cH l m).length=l.length+(if m∈l then 0 else 1)∨(cH l m).length=l.length+1
 |[],m=>.inr rfl
 |x::l,m=>by
  unfold cH
  split
  ·rename_i h
   rcases tQ l m with ih|ih
   ·by_cases hm:m∈l
    ·rw[if_pos hm] at ih
     exact .inl (by rw[if_pos (by simp[hm])];simp[ih])
    ·rw[if_neg hm] at ih
     exact .inr (by simp[ih])
   ·exact .inr (by simp[ih])
  ·split
   ·rename_i h
    exact .inl (by rw[if_pos (by simp[h])];simp)
   ·exact .inr rfl
theorem yV {w:Wrl}(_:WOK w)(e:Evt):∃(i0 d n:Nat),n+d≤1∧(dG w e).props.length=w.props.length+n∧∀(k:Nat) (p:Ppl),w.props[k]?=some p→∃l,(dG w e).props[k]?=some ⟨p.v,l⟩∧(∀m∈p.members,m∈l)∧l.length=p.members.length+(if k=i0 then d else 0):=by
 have same:∀u:Wrl,u.props=w.props→∃(i0 d n:Nat),n+d≤1∧u.props.length=w.props.length+n∧∀(k:Nat) (p:Ppl),w.props[k]?=some p→∃l,u.props[k]?=some ⟨p.v,l⟩∧(∀m∈p.members,m∈l)∧l.length=p.members.length+(if k=i0 then d else 0):=fun u hu=>
  ⟨0,0,0,by omega,by rw[hu];rfl,fun k p hp=>⟨p.members,by rw[hu];exact hp,fun _ h=>h,by simp⟩⟩
 have app:∀v,∃(i0 d n:Nat),n+d≤1∧(kT w v).props.length=w.props.length+n∧∀(k:Nat) (p:Ppl),w.props[k]?=some p→∃l,(kT w v).props[k]?=some ⟨p.v,l⟩∧(∀m∈p.members,m∈l)∧l.length=p.members.length+(if k=i0 then d else 0):=fun v=>
  ⟨0,0,1,by omega,by simp[kT],fun k p hp=>⟨p.members,by show (w.props++_)[k]?=_;rw[List.getElem?_append_left (List.getElem?_eq_some_iff.1 hp).1];exact hp,fun _ h=>h,by simp⟩⟩
 have cnt:∀i m,m8 w i=true→∃(i0 d n:Nat),n+d≤1∧(gG w i m).props.length=w.props.length+n∧∀(k:Nat) (p:Ppl),w.props[k]?=some p→∃l,(gG w i m).props[k]?=some ⟨p.v,l⟩∧(∀m∈p.members,m∈l)∧l.length=p.members.length+(if k=i0 then d else 0):=fun i m hi=>by
  obtain⟨h1,h2,-⟩:=gk hi
  obtain⟨d,hd,hl⟩:∃d,d≤1∧(cH (ay w i).members m).length=(ay w i).members.length+d:=by
   rcases tQ (ay w i).members m with h|h
   ·split at h
    ·exact⟨0,by omega,h⟩
    ·exact⟨1,by omega,h⟩
   ·exact⟨1,by omega,h⟩
  refine⟨i.toNat,d,0,by omega,by simp[gG],fun k p hp=>?_⟩
  show∃l,(w.props.set i.toNat _)[k]?=_∧_
  rw[List.getElem?_set]
  by_cases e:i.toNat=k
  ·subst e
   rw[h2] at hp
   obtain rfl:=Option.some.inj hp
   rw[if_pos rfl,if_pos h1,if_pos rfl]
   exact⟨_,rfl,fun x hx=>fL.2 (.inr hx),hl⟩
  ·rw[if_neg e,if_neg (Ne.symm e)]
   exact⟨p.members,hp,fun _ h=>h,rfl⟩
 unfold dG
 split
 ·unfold ew
  split
  ·exact app _
  ·exact same _ rfl
 split
 ·unfold eR
  split
  ·rename_i hb
   unfold fX at hb
   simp only[Bool.and_eq_true] at hb
   exact cnt _ _ hb.2.1
  ·exact same _ rfl
 split
 ·unfold bJ
  split
  ·exact same _ rfl
  ·exact same _ rfl
 split
 ·unfold lI
  split
  ·exact app _
  ·exact same _ rfl
 split
 ·unfold iS
  split
  ·rename_i hb
   unfold ja at hb
   simp only[Bool.and_eq_true] at hb
   exact cnt _ _ hb.2
  ·exact same _ rfl
 ·exact same _ rfl
structure Grw (w u:Wrl):Prop where
 com:u.com=w.com
 lead:u.lead=w.lead
 bad:u.bad=w.bad
 vlen:u.views.length=w.views.length
 views:∀m:Nat,∀v∈w.views.getD m [],v∈u.views.getD m []
 props:∀(k:Nat) (p:Ppl),w.props[k]?=some p→∃l,u.props[k]?=some ⟨p.v,l⟩∧∀m∈p.members,m∈l
theorem Grw.refl (w:Wrl):Grw w w:=⟨rfl,rfl,rfl,rfl,fun _ _ h=>h,fun _ p h=>⟨p.members,h,fun _ h=>h⟩⟩
theorem Grw.trans {w u x:Wrl}(h1:Grw w u)(h2:Grw u x):Grw w x:=by
 refine⟨h2.com.trans h1.com,h2.lead.trans h1.lead,h2.bad.trans h1.bad,h2.vlen.trans h1.vlen,fun m v h=>h2.views m v (h1.views m v h),fun k p h=>?_⟩
 obtain⟨l,a1,a2⟩:=h1.props k p h
 obtain⟨l2,b1,b2⟩:=h2.props k _ a1
 exact⟨l2,b1,fun m hm=>b2 m (a2 m hm)⟩
theorem Grw.plen {w u:Wrl}(h:Grw w u):w.props.length≤u.props.length:=by
 rcases Nat.lt_or_ge u.props.length w.props.length with hlt|hge
 ·obtain⟨l,a1,-⟩:=h.props u.props.length _ (List.getElem?_eq_getElem hlt)
  have:=(List.getElem?_eq_some_iff.1 a1).1
  omega
 ·exact hge
theorem rH {w:Wrl}(hw:WOK w)(e:Evt):Grw w (dG w e):=by
 obtain⟨c1,c2,c3,c4⟩:=uA w e
 obtain⟨_,_,_,-,-,hp⟩:=yV hw e
 refine⟨c1,c2,c3,c4,fun m v hv=>?_,fun k p h=>?_⟩
 ·by_cases h3:e.kind=3
  ·have hd:dG w e=bJ w e.a e.b:=by unfold dG;rw[if_neg (by omega),if_neg (by omega),if_pos h3]
   rw[hd]
   cases hb:cG w e.a e.b
   ·have:bJ w e.a e.b=w:=by unfold bJ;rw[hb];rfl
    rw[this]
    exact hv
   ·have hs:(bJ w e.a e.b).views=w.views.set e.a.toNat (eu (view w e.a) (ay w e.b).v):=by unfold bJ;rw[hb];rfl
    rw[hs]
    have hg:good w e.a=true:=by
     simp only[cG,Bool.and_eq_true] at hb
     exact hb.1
    have hvl:=(hw.view hg).2.2
    rw[List.getD_eq_getElem?_getD,List.getElem?_set]
    by_cases em:e.a.toNat=m
    ·subst em
     rw[if_pos rfl,if_pos hvl]
     exact fM.2 (.inr hv)
    ·rw[if_neg em,←List.getD_eq_getElem?_getD]
     exact hv
  ·have:(dG w e).views=w.views:=by
    unfold dG
    rw[if_neg h3]
    (repeat' split)<;>first|rfl|(simp only[ew,eR,lI,iS,gG,kT];split<;>rfl)
   rw[this]
   exact hv
 ·obtain⟨l,a1,a2,-⟩:=hp k p h
  exact⟨l,a1,a2⟩
theorem Dv {w:Wrl}(hw:WOK w)(m d:Int):Grw w (ew w m d):=by
 have:=rH hw ⟨1,m,d,v0⟩
 exact this
theorem Dx {w:Wrl}(hw:WOK w)(m i:Int):Grw w (eR w m i):=by
 have:=rH hw ⟨2,m,i,v0⟩
 exact this
theorem Du {w:Wrl}(hw:WOK w)(m i:Int):Grw w (bJ w m i):=by
 have:=rH hw ⟨3,m,i,v0⟩
 exact this
theorem qc {w:Wrl}(hw:WOK w)(i:Int):∀n,Grw w (bS w i n)
 |0=>Grw.refl w
 |n+1=>(qc hw i n).trans (Du (fG hw i n) _ _)
theorem iJ {w:Wrl}(hw:WOK w):∀k,Grw w (aT w k)
 |0=>Grw.refl w
 |k+1=>(iJ hw k).trans (qc (eN hw k) _ _)
theorem xu:∀(n:Nat) {w:Wrl},1519-cI w≤n→WOK w→Grw w (bK w):=by
 intro n
 induction n with
 |zero=>
  intro w hn h
  rw[bK]
  split
  ·rename_i hh
   exact absurd hh (by omega)
  ·exact iJ h _
 |succ n ih=>
  intro w hn h
  rw[bK]
  split
  ·rename_i hh
   have hh1:=hh.1
   exact(iJ h _).trans (ih (w:=pass w) (by omega) (gj h))
  ·exact iJ h _
theorem qf {w:Wrl}(hw:WOK w)(i:Int):∀n,Grw w (iA w i n)
 |0=>Grw.refl w
 |n+1=>(qf hw i n).trans (Dx (lX hw i n) _ _)
theorem oK {w:Wrl}(hw:WOK w):∀k,Grw w (cJ w k)
 |0=>Grw.refl w
 |k+1=>(oK hw k).trans (qf (cF hw k) _ _)
theorem qd {w:Wrl}(hw:WOK w)(r:Nat):∀n,Grw w (df w r n)
 |0=>Grw.refl w
 |n+1=>(qd hw r n).trans (Dv (fU hw r n) _ _)
theorem tM {w:Wrl}(hw:WOK w):Grw w (gb w):=(oK hw _).trans (xu _ (Nat.le_refl _) (cF hw _))
theorem Dw {w:Wrl}(hw:WOK w)(r:Nat):Grw w (I0 w r):=((tM hw).trans (qd (gm hw) r _)).trans (tM (fU (gm hw) _ _))
theorem oJ {w:Wrl}(hw:WOK w):∀r,Grw w (aX w r)
 |0=>xu _ (Nat.le_refl _) hw
 |r+1=>(oJ hw r).trans (Dw (cD hw r) r)
theorem zy:∀{a b:List Vtx},(a.Pairwise fun a b=>bef a b=true)→(b.Pairwise fun a b=>bef a b=true)→(∀x,x∈a↔x∈b)→a=b:=by
 have irr:∀x:Vtx,bef x x=false:=fun x=>by
  rw[Bool.eq_false_iff]
  intro h
  simp only[bef,Bool.or_eq_true,Bool.and_eq_true,decide_eq_true_eq] at h
  omega
 intro a
 induction a with
 |nil=>
  intro b _ _ h
  match b with
  |[]=>rfl
  |y::b=>exact absurd ((h y).2 (by simp)) (by simp)
 |cons x a ih=>
  intro b h1 h2 h
  match b,h2,h with
  |[],_,h=>exact absurd ((h x).1 (by simp)) (by simp)
  |y::b,h2,h=>
   obtain⟨a1,a2⟩:=List.pairwise_cons.1 h1
   obtain⟨b1,b2⟩:=List.pairwise_cons.1 h2
   have e:x=y:=by
    rcases List.mem_cons.1 ((h x).1 (by simp)) with e|hx
    ·exact e
    rcases List.mem_cons.1 ((h y).2 (by simp)) with e|hy
    ·exact e.symm
    have:=mf (b1 x hx) (a1 y hy)
    rw[irr] at this
    cases this
   subst e
   rw[ih a2 b2 fun z=>?_]
   constructor
   ·intro hz
    rcases List.mem_cons.1 ((h z).1 (by simp[hz])) with e|hz2
    ·have:=a1 z hz
     rw[e,irr] at this
     cases this
    ·exact hz2
   ·intro hz
    rcases List.mem_cons.1 ((h z).2 (by simp[hz])) with e|hz2
    ·have:=b1 z hz
     rw[e,irr] at this
     cases this
    ·exact hz2
theorem CY {c ms:List Int}{b:Int}(hc:comV c=true)(hb:badS c b=true)(ha:ms.Pairwise (· < ·))(h:∀m:Nat,m<c.length→(m:Int)≠b→(m:Int)∈ms):quo c≤cR c ms:=by
 have hall:=wR c
 have hp:=(ao.1 hc).1
 have hasc:((List.range c.length).map fun i:Nat=>(i:Int)).Pairwise (· < ·):=by
  rw[List.pairwise_map]
  exact List.pairwise_lt_range.imp fun h=>by omega
 generalize hL:((List.range c.length).map fun i:Nat=>(i:Int))=L at hall hasc
 have hin:∀x∈L,0≤x∧x<c.length:=fun x hx=>by
  rw[←hL] at hx
  obtain⟨i,hi,rfl⟩:=List.mem_map.1 hx
  rw[List.mem_range] at hi
  omega
 have h1:=l7 (c:=c) (b:=b) (gQ hasc)
 have h2:=kP (c:=c) (fun x hx=>by have:=hp x hx;omega) (hasc.filter fun m=>m !=b) ha fun x hx=>by
  obtain⟨x1,x2⟩:=List.mem_filter.1 hx
  have:=hin x x1
  have:=h x.toNat (by omega) (by rw[Int.toNat_of_nonneg this.1];simpa using x2)
  rwa [Int.toNat_of_nonneg (hin x x1).1] at this
 have hle:(if b∈L then c.getD b.toNat 0 else 0)≤pD c:=by
  have hf:=kF hc
  split
  ·rename_i hm
   rcases dy.1 hb with h|⟨-,h⟩
   ·have:=hin _ hm;omega
   ·exact h
  ·exact hf.1
 have ht:=en hc
 have hq:quo c=2*jf c/3+1:=by
  unfold quo
  rw[Int.tdiv_eq_ediv_of_nonneg (by omega)]
 have hf2:pD c=(jf c-1)/3:=by
  unfold pD
  rw[Int.tdiv_eq_ediv_of_nonneg (by omega)]
 omega
inductive Rv (g:List Vtx):Vtx→Vtx→Prop where
 |refl (u:Vtx):Rv g u u
 |step {u x v:Vtx} (hx:x∈g) (h1:x.round=u.round-1) (h2:x.author∈u.parents) (h:Rv g x v):Rv g u v
theorem Rv.trans {g:List Vtx}{u x v:Vtx}(h:Rv g u x)(h':Rv g x v):Rv g u v:=by
 induction h with
 |refl u=>exact h'
 |step hx h1 h2 _ ih=>exact .step hx h1 h2 (ih h')
theorem Rv.mem {g:List Vtx}{u v:Vtx}(h:Rv g u v)(hu:u∈g):v∈g:=by
 induction h with
 |refl u=>exact hu
 |step hx _ _ _ ih=>exact ih hx
theorem Rv.round {g:List Vtx}{u v:Vtx}(h:Rv g u v):v.round≤u.round:=by
 induction h with
 |refl u=>exact Int.le_refl _
 |step _ h1 _ _ ih=>omega
theorem Rv.mono {g U:List Vtx}(hs:∀v∈g,v∈U){u v:Vtx}(h:Rv g u v):Rv U u v:=by
 induction h with
 |refl u=>exact .refl u
 |step hx h1 h2 _ ih=>exact .step (hs _ hx) h1 h2 ih
theorem kf {g:List Vtx}(h:g.Pairwise fun a b=>bef a b=true){u v:Vtx}(hu:u∈g)(hv:v∈g)(h1:u.round=v.round)(h2:u.author=v.author):u=v:=by
 obtain⟨i,hi⟩:=List.getElem?_of_mem hu
 obtain⟨k,hk⟩:=List.getElem?_of_mem hv
 rcases Nat.lt_trichotomy i k with hlt|rfl|hlt
 ·have:=fq h hlt hi hk
  simp only[bef,Bool.or_eq_true,Bool.and_eq_true,decide_eq_true_eq] at this
  omega
 ·rw[hi] at hk;exact Option.some.inj hk
 ·have:=fq h hlt hk hi
  simp only[bef,Bool.or_eq_true,Bool.and_eq_true,decide_eq_true_eq] at this
  omega
theorem Rv.down {c:List Int}{g U:List Vtx}(hg:GraOK c g)(hU:GraOK c U)(hs:∀v∈g,v∈U){u v:Vtx}(h:Rv U u v)(hu:u∈g):Rv g u v:=by
 induction h with
 |refl u=>exact .refl u
 | @step u x v hx h1 h2 _ ih=>
  obtain⟨y,y1,y2,y3⟩:=aY.1 (bN.1 (hg.par u hu) _ h2)
  have e:y=x:=kf hU.pw (hs y y1) hx (by omega) y3
  subst e
  exact .step y1 h1 h2 (ih y1)
def fO (l:List Int)(w:Nat):Int:=l.getD (w-1) 0
def j7 (g:List Vtx)(l:List Int)(w:Nat):Option Vtx:=g.find? (dO (2*(w:Int)-1) (fO l w))
theorem cg {g:List Vtx}{l:List Int}{w:Nat}{v:Vtx}(h:j7 g l w=some v):v∈g∧v.round=2*(w:Int)-1∧v.author=fO l w:=
 ⟨List.mem_of_find?_eq_some h,ed.1 (List.find?_some h)⟩
theorem mz {g:List Vtx}(hp:g.Pairwise fun a b=>bef a b=true){l:List Int}{w:Nat}{v:Vtx}(hv:v∈g)(h1:v.round=2*(w:Int)-1)(h2:v.author=fO l w):j7 g l w=some v:=by
 cases h:j7 g l w with
 |none=>exact absurd (ed.2 ⟨h1,h2⟩) (List.find?_eq_none.1 h v hv)
 |some u=>
  obtain⟨u1,u2,u3⟩:=cg h
  rw[kf hp u1 hv (by omega) (by rw[u3,h2])]
def zq (g:List Vtx)(l:List Int)(w:Nat):List Int:=(g.filter fun v=>v.round==2*(w:Int) && v.parents.contains (fO l w)).map (·.author)
def CF (c:List Int)(g:List Vtx)(l:List Int)(w:Nat):Int:=if(j7 g l w).isSome then cR c (zq g l w) else 0
def uU (c:List Int):Int:=(jf c).tdiv 3+1
def pI (c:List Int)(g:List Vtx)(l:List Int)(w:Nat):Bool:=decide (uU c≤CF c g l w)
theorem lP {c:List Int}(h:comV c=true):1≤uU c∧uU c=jf c/3+1:=by
 have:=en h
 unfold uU
 rw[Int.tdiv_eq_ediv_of_nonneg (by omega)]
 omega
theorem iE {c:List Int}{g:List Vtx}{l:List Int}{w:Nat}(hc:comV c=true)(h:pI c g l w=true):∃v,j7 g l w=some v∧uU c≤cR c (zq g l w):=by
 have hs:=lP hc
 unfold pI CF at h
 have h:=of_decide_eq_true h
 cases hl:j7 g l w with
 |none=>rw[hl] at h;simp at h;omega
 |some v=>rw[hl] at h;exact⟨v,rfl,by simpa using h⟩
theorem lY {g:List Vtx}{l:List Int}{w:Nat}{a:Int}:a∈zq g l w↔∃v∈g,v.round=2*(w:Int)∧fO l w∈v.parents∧v.author=a:=by
 simp only[zq,List.mem_map,List.mem_filter,Bool.and_eq_true,beq_iff_eq,List.contains_iff_mem]
 constructor
 ·rintro⟨v,⟨h1,h2,h3⟩,h4⟩;exact⟨v,h1,h2,h3,h4⟩
 ·rintro⟨v,h1,h2,h3,h4⟩;exact⟨v,⟨h1,h2,h3⟩,h4⟩
theorem n4 {g:List Vtx}(h:g.Pairwise fun a b=>bef a b=true)(l:List Int)(w:Nat):(zq g l w).Pairwise (· < ·):=by
 unfold zq
 rw[List.pairwise_map]
 refine(h.sublist (List.filter_sublist ..)).imp_of_mem fun {a b} ha hb hab=>?_
 have ha:=(List.mem_filter.1 ha).2
 have hb:=(List.mem_filter.1 hb).2
 simp only[bef,Bool.or_eq_true,Bool.and_eq_true,decide_eq_true_eq,beq_iff_eq] at *
 omega
theorem lc {c:List Int}{g U:List Vtx}(hg:GraOK c g)(hU:GraOK c U)(hs:∀v∈g,v∈U){l:List Int}{w:Nat}(h:pI c g l w=true):pI c U l w=true:=by
 obtain⟨v,h1,h2⟩:=iE hg.com h
 obtain⟨v1,v2,v3⟩:=cg h1
 have hp:=(ao.1 hg.com).1
 have:=kP (c:=c) (fun x hx=>by have:=hp x hx;omega) (n4 hg.pw l w) (n4 hU.pw l w) fun x hx=>by
  obtain⟨u,u1,u2⟩:=lY.1 hx
  exact lY.2 ⟨u,hs u u1,u2⟩
 unfold pI CF
 rw[mz hU.pw (hs v v1) v2 v3]
 exact decide_eq_true (by simp only[Option.isSome_some,if_true];omega)
theorem z7 {c:List Int}{U:List Vtx}(hU:GraOK c U){l:List Int}{w:Nat}(h:pI c U l w=true):∃k,j7 U l w=some k∧∀(n:Nat) (u:Vtx),u∈U→u.round=2*(w:Int)+1+n→Rv U u k:=by
 obtain⟨k,h1,h2⟩:=iE hU.com h
 obtain⟨k1,k2,k3⟩:=cg h1
 refine⟨k,h1,?_⟩
 have hp:=(ao.1 hU.com).1
 have ht:=en hU.com
 have hs:=lP hU.com
 have hq:quo c=2*jf c/3+1:=by
  unfold quo
  rw[Int.tdiv_eq_ediv_of_nonneg (by omega)]
 intro n
 induction n with
 |zero=>
  intro u hu hr
  obtain⟨q1,q2,q3,q4,q5,q6⟩:=bc (hU.vtx u hu)
  have hw:=q6 (by omega)
  have:∃a,a∈zq U l w∧a∈u.parents:=by
   refine Classical.byContradiction fun hno=>?_
   have:=yf (c:=c) (a:=zq U l w) (b:=u.parents) (fun x hx=>by have:=hp x hx;omega) (n4 hU.pw l w) (bG q3) (fun x hx=>by
    obtain⟨v,v1,-,-,rfl⟩:=lY.1 hx
    exact(bc (hU.vtx v v1)).2.1) (bf q3) fun x hx hx2=>hno ⟨x,hx,hx2⟩
   omega
  obtain⟨a,a1,a2⟩:=this
  obtain⟨x,x1,x2,x3,x4⟩:=lY.1 a1
  exact .step x1 (by omega) (by rw[x4];exact a2) (.step k1 (by omega) (by rw[k3];exact x3) (.refl k))
 |succ n ih=>
  intro u hu hr
  obtain⟨q1,q2,q3,q4,q5,q6⟩:=bc (hU.vtx u hu)
  have hw:=q6 (by omega)
  have hqb:=sj hU.com
  cases hps:u.parents with
  |nil=>rw[hps] at hw;have:cR c []=0:=rfl;omega
  |cons a ps=>
   have ha:a∈u.parents:=by rw[hps];simp
   obtain⟨x,x1,x2,x3⟩:=aY.1 (bN.1 (hU.par u hu) a ha)
   exact .step x1 (by omega) (by rw[x3];exact ha) (ih x x1 (by omega))
open Classical in
noncomputable def dwn (g:List Vtx) (l:List Int) (last:Nat):Nat→Vtx→List Nat
 |0,_=>[]
 |x+1,cur=>if x+1≤last then[] else match j7 g l (x+1) with
  |some k=>if Rv g cur k then dwn g l last x k++[x+1] else dwn g l last x cur
  |none=>dwn g l last x cur
noncomputable def chn (g:List Vtx) (l:List Int) (w last:Nat):List Nat:=match j7 g l w with
 |some k=>dwn g l last (w-1) k++[w]
 |none=>[w]
noncomputable def cmt (c:List Int) (g:List Vtx) (l:List Int):Nat→List Nat×Nat
 |0=>([],0)
 |n+1=>if pI c g l (n+1) then((cmt c g l n).1++chn g l (n+1) (cmt c g l n).2,n+1) else cmt c g l n
open Classical in
theorem nw {c:List Int}{g U:List Vtx}(hg:GraOK c g)(hU:GraOK c U)(hs:∀v∈g,v∈U)(l:List Int)(last:Nat):∀(x:Nat) (cur:Vtx),cur∈g→dwn g l last x cur=dwn U l last x cur
 |0,_,_=>rfl
 |x+1,cur,hc=>by
  unfold dwn
  by_cases hx:x+1≤last
  ·rw[if_pos hx,if_pos hx]
  rw[if_neg hx,if_neg hx]
  cases h:j7 U l (x+1) with
  |none=>
   have:j7 g l (x+1)=none:=by
    cases h2:j7 g l (x+1) with
    |none=>rfl
    |some v=>
     obtain⟨v1,v2,v3⟩:=cg h2
     rw[mz hU.pw (hs v v1) v2 v3] at h
     cases h
   rw[this]
   exact nw hg hU hs l last x cur hc
  |some k=>
   obtain⟨k1,k2,k3⟩:=cg h
   by_cases hr:Rv U cur k
   ·have hr':=hr.down hg hU hs hc
    have hk:=hr'.mem hc
    rw[mz hg.pw hk k2 k3]
    simp only[if_pos hr,if_pos hr',nw hg hU hs l last x k hk]
   ·have hl:(match j7 g l (x+1) with
      |some k=>if Rv g cur k then dwn g l last x k++[x+1] else dwn g l last x cur
      |none=>dwn g l last x cur)=dwn g l last x cur:=by
     cases h2:j7 g l (x+1) with
     |none=>rfl
     |some v=>
      obtain⟨v1,v2,v3⟩:=cg h2
      have e:v=k:=kf hU.pw (hs v v1) k1 (by omega) (by rw[v3,k3])
      subst e
      exact if_neg fun hh=>hr (hh.mono hs)
    rw[hl]
    simp only[if_neg hr]
    exact nw hg hU hs l last x cur hc
open Classical in
theorem nu {c:List Int}{U:List Vtx}(hU:GraOK c U)(l:List Int){w:Nat}(hw:1≤w)(hd:pI c U l w=true):∀(x:Nat) (cur:Vtx),w≤x→cur∈U→2*(w:Int)+1≤cur.round→dwn U l 0 x cur=chn U l w 0++dwn U l w x cur
 |0,_,hx,_,_=>by omega
 |x+1,cur,hx,hc,hr=>by
  obtain⟨kw,kw1,kw2⟩:=z7 hU hd
  rcases Nat.lt_or_ge x w with hlt|hge
  ·obtain rfl:w=x+1:=by omega
   have e1:dwn U l (x+1) (x+1) cur=[]:=by unfold dwn;rw[if_pos (Nat.le_refl _)]
   have e2:chn U l (x+1) 0=dwn U l 0 x kw++[x+1]:=by unfold chn;rw[kw1];rfl
   have hrv:Rv U cur kw:=kw2 (cur.round-(2*((x+1:Nat):Int)+1)).toNat cur hc (by omega)
   rw[e1,e2,List.append_nil]
   conv=>lhs;unfold dwn
   rw[if_neg (by omega),kw1]
   simp only[if_pos hrv]
  ·have e1:dwn U l w (x+1) cur=(match j7 U l (x+1) with
     |some k=>if Rv U cur k then dwn U l w x k++[x+1] else dwn U l w x cur
     |none=>dwn U l w x cur):=by
     conv=>lhs;unfold dwn
     rw[if_neg (by omega)]
   have e2:dwn U l 0 (x+1) cur=(match j7 U l (x+1) with
     |some k=>if Rv U cur k then dwn U l 0 x k++[x+1] else dwn U l 0 x cur
     |none=>dwn U l 0 x cur):=by
     conv=>lhs;unfold dwn
     rw[if_neg (by omega)]
   rw[e1,e2]
   cases h:j7 U l (x+1) with
   |none=>exact nu hU l hw hd x cur hge hc hr
   |some k=>
    obtain⟨k1,k2,k3⟩:=cg h
    by_cases hrv:Rv U cur k
    ·simp only[if_pos hrv]
     rw[nu hU l hw hd x k hge k1 (by omega),List.append_assoc]
    ·simp only[if_neg hrv]
     exact nu hU l hw hd x cur hge hc hr
theorem wY {c:List Int}{U:List Vtx}(hU:GraOK c U)(l:List Int){w x:Nat}(hw:1≤w)(hwx:w<x)(hd:pI c U l w=true){k:Vtx}(hk:j7 U l x=some k):chn U l x 0=chn U l w 0++chn U l x w:=by
 obtain⟨k1,k2,-⟩:=cg hk
 unfold chn
 simp only[hk]
 rw[nu hU l hw hd (x-1) k (by omega) k1 (by omega),List.append_assoc]
 rfl
theorem wZ {c:List Int}{g U:List Vtx}(hg:GraOK c g)(hU:GraOK c U)(hs:∀v∈g,v∈U)(l:List Int){w:Nat}(last:Nat){k:Vtx}(hk:j7 g l w=some k):chn g l w last=chn U l w last:=by
 obtain⟨k1,k2,k3⟩:=cg hk
 unfold chn
 rw[hk,mz hU.pw (hs k k1) k2 k3]
 simp only[nw hg hU hs l last _ k k1]
theorem qY {c:List Int}{g U:List Vtx}(hg:GraOK c g)(hU:GraOK c U)(hs:∀v∈g,v∈U)(l:List Int):∀n:Nat,(cmt c g l n).2≤n∧(((cmt c g l n).2=0∧(cmt c g l n).1=[])∨(1≤(cmt c g l n).2∧pI c g l (cmt c g l n).2=true∧(cmt c g l n).1=chn U l (cmt c g l n).2 0))
 |0=>⟨Nat.le_refl _,.inl ⟨rfl,rfl⟩⟩
 |n+1=>by
  obtain⟨h1,h2⟩:=qY hg hU hs l n
  unfold cmt
  by_cases hd:pI c g l (n+1)=true
  ·rw[if_pos hd]
   refine⟨Nat.le_refl _,.inr ⟨by omega,hd,?_⟩⟩
   obtain⟨k,hk,-⟩:=iE hg.com hd
   obtain⟨k1,k2,k3⟩:=cg hk
   have hkU:=mz hU.pw (hs k k1) k2 k3
   dsimp only
   rcases h2 with⟨e1,e2⟩|⟨e1,e2,e3⟩
   ·rw[e1,e2,List.nil_append]
    exact wZ hg hU hs l 0 hk
   ·rw[e3,wZ hg hU hs l _ hk]
    exact(wY hU l e1 (by omega) (lc hg hU hs e2) hkU).symm
  ·rw[if_neg hd]
   exact⟨by omega,h2⟩
theorem ks {c:List Int}{g g':List Vtx}(hg:GraOK c g)(hg':GraOK c g')(hs:∀v∈g,v∈g')(l:List Int):∀n:Nat,(cmt c g l n).2≤(cmt c g' l n).2
 |0=>Nat.le_refl _
 |n+1=>by
  have ih:=ks hg hg' hs l n
  have hb:=(qY hg hg (fun _ h=>h) l n).1
  unfold cmt
  by_cases hd:pI c g l (n+1)=true
  ·rw[if_pos hd,if_pos (lc hg hg' hs hd)]
   exact Nat.le_refl _
  ·rw[if_neg hd]
   split
   ·dsimp only;omega
   ·exact ih
theorem CV {c:List Int}{g g' U:List Vtx}(hg:GraOK c g)(hg':GraOK c g')(hU:GraOK c U)(hs:∀v∈g,v∈U)(hs':∀v∈g',v∈U)(l:List Int)(n:Nat)(hle:(cmt c g l n).2≤(cmt c g' l n).2):∃ws,(cmt c g' l n).1=(cmt c g l n).1++ws:=by
 obtain⟨-,h1⟩:=qY hg hU hs l n
 obtain⟨-,h2⟩:=qY hg' hU hs' l n
 rcases h1 with⟨a1,a2⟩|⟨a1,a2,a3⟩
 ·exact⟨_,by rw[a2,List.nil_append]⟩
 ·rcases h2 with⟨b1,b2⟩|⟨b1,b2,b3⟩
  ·omega
  ·rw[a3,b3]
   rcases Nat.lt_or_ge (cmt c g l n).2 (cmt c g' l n).2 with hlt|hge
   ·obtain⟨k,hk,-⟩:=iE hU.com (lc hg' hU hs' b2)
    exact⟨_,wY hU l a1 hlt (lc hg hU hs a2) hk⟩
   ·have:(cmt c g l n).2=(cmt c g' l n).2:=by omega
    rw[this]
    exact⟨[],by rw[List.append_nil]⟩
theorem nv (g:List Vtx)(l:List Int)(last:Nat):∀(x:Nat) (cur:Vtx),∀w∈dwn g l last x cur,1≤w∧w≤x∧∃k,j7 g l w=some k
 |0,_,w,hw=>by simp[dwn] at hw
 |x+1,cur,w,hw=>by
  unfold dwn at hw
  split at hw
  ·cases hw
  ·split at hw
   ·rename_i k hk
    split at hw
    ·rcases List.mem_append.1 hw with h|h
     ·obtain⟨h1,h2,h3⟩:=nv g l last x k w h
      exact⟨h1,by omega,h3⟩
     ·obtain rfl:=List.mem_singleton.1 h
      exact⟨by omega,Nat.le_refl _,k,hk⟩
    ·obtain⟨h1,h2,h3⟩:=nv g l last x cur w hw
     exact⟨h1,by omega,h3⟩
   ·obtain⟨h1,h2,h3⟩:=nv g l last x cur w hw
    exact⟨h1,by omega,h3⟩
theorem jT {c:List Int}{g:List Vtx}(hc:comV c=true)(l:List Int):∀n:Nat,∀w∈(cmt c g l n).1,1≤w∧w≤n∧∃k,j7 g l w=some k
 |0,w,hw=>by simp[cmt] at hw
 |n+1,w,hw=>by
  unfold cmt at hw
  split at hw
  ·rename_i hd
   obtain⟨k,hk,-⟩:=iE hc hd
   rcases List.mem_append.1 hw with h|h
   ·obtain⟨h1,h2,h3⟩:=jT hc l n w h
    exact⟨h1,by omega,h3⟩
   ·unfold chn at h
    rw[hk] at h
    rcases List.mem_append.1 h with h|h
    ·obtain⟨h1,h2,h3⟩:=nv g l _ _ k w h
     exact⟨h1,by omega,h3⟩
    ·obtain rfl:=List.mem_singleton.1 h
     exact⟨by omega,Nat.le_refl _,k,hk⟩
  ·obtain⟨h1,h2,h3⟩:=jT hc l n w hw
   exact⟨h1,by omega,h3⟩
open Classical in
noncomputable def ordW (g:List Vtx) (l:List Int) (acc:List Vtx) (w:Nat):List Vtx:=match j7 g l w with
 |some k=>g.filter fun v=>decide (Rv g k v) && (decide (2*(w:Int)-7≤v.round) && decide (v∉acc))
 |none=>[]
noncomputable def ordTo (g:List Vtx) (l:List Int) (acc:List Vtx) (ws:List Nat):List Vtx:=ws.foldl (fun acc w=>acc++ordW g l acc w) acc
theorem iM (g:List Vtx)(l:List Int)(acc:List Vtx)(w:Nat)(ws:List Nat):ordTo g l acc (w::ws)=ordTo g l (acc++ordW g l acc w) ws:=rfl
theorem yR (g:List Vtx)(l:List Int)(acc:List Vtx)(ws ws':List Nat):ordTo g l acc (ws++ws')=ordTo g l (ordTo g l acc ws) ws':=by simp[ordTo,List.foldl_append]
theorem qr (g:List Vtx)(l:List Int):∀(ws:List Nat) (acc:List Vtx),∃vs,ordTo g l acc ws=acc++vs
 |[],acc=>⟨[],by simp[ordTo]⟩
 |w::ws,acc=>by
  obtain⟨vs,h⟩:=qr g l ws (acc++ordW g l acc w)
  exact⟨ordW g l acc w++vs,by rw[iM,h,List.append_assoc]⟩
noncomputable def ordG (c:List Int) (g:List Vtx) (l:List Int):List Vtx:=ordTo g l [] (cmt c g l l.length).1
theorem BK {c:List Int}{g U:List Vtx}(hg:GraOK c g)(hU:GraOK c U)(hs:∀v∈g,v∈U)(l:List Int)(acc:List Vtx){w:Nat}{k:Vtx}(hk:j7 g l w=some k):ordW g l acc w=ordW U l acc w:=by
 obtain⟨k1,k2,k3⟩:=cg hk
 unfold ordW
 rw[hk,mz hU.pw (hs k k1) k2 k3]
 refine zy (hg.pw.sublist (List.filter_sublist ..)) (hU.pw.sublist (List.filter_sublist ..)) fun x=>?_
 simp only[List.mem_filter,Bool.and_eq_true,decide_eq_true_eq]
 constructor
 ·rintro⟨h1,h2,h3⟩
  exact⟨hs x h1,h2.mono hs,h3⟩
 ·rintro⟨h1,h2,h3⟩
  have:=h2.down hg hU hs k1
  exact⟨this.mem k1,this,h3⟩
theorem mG {c:List Int}{g U:List Vtx}(hg:GraOK c g)(hU:GraOK c U)(hs:∀v∈g,v∈U)(l:List Int):∀(ws:List Nat) (acc:List Vtx),(∀w∈ws,∃k,j7 g l w=some k)→ordTo g l acc ws=ordTo U l acc ws
 |[],_,_=>rfl
 |w::ws,acc,h=>by
  obtain⟨k,hk⟩:=h w (by simp)
  rw[iM,iM,BK hg hU hs l acc hk]
  exact mG hg hU hs l ws _ fun x hx=>h x (by simp[hx])
theorem r7 {c:List Int}{g g' U:List Vtx}(hg:GraOK c g)(hg':GraOK c g')(hU:GraOK c U)(hs:∀v∈g,v∈U)(hs':∀v∈g',v∈U)(l:List Int)(hle:(cmt c g l l.length).2≤(cmt c g' l l.length).2):∃vs,ordG c g' l=ordG c g l++vs:=by
 obtain⟨ws,h⟩:=CV hg hg' hU hs hs' l l.length hle
 unfold ordG
 rw[mG hg hU hs l _ [] fun w hw=>(jT hg.com l _ w hw).2.2,mG hg' hU hs' l _ [] fun w hw=>(jT hg.com l _ w hw).2.2,h,yR]
 exact qr U l ws _
theorem D8 {c:List Int}{g g' U:List Vtx}(hg:GraOK c g)(hg':GraOK c g')(hU:GraOK c U)(hs:∀v∈g,v∈U)(hs':∀v∈g',v∈U)(l:List Int):(∃vs,ordG c g' l=ordG c g l++vs)∨∃vs,ordG c g l=ordG c g' l++vs:=by
 rcases Nat.le_total (cmt c g l l.length).2 (cmt c g' l l.length).2 with h|h
 ·exact .inl (r7 hg hg' hU hs hs' l h)
 ·exact .inr (r7 hg' hg hU hs' hs l h)
theorem BL {c:List Int}{g g':List Vtx}(hg:GraOK c g)(hg':GraOK c g')(hs:∀v∈g,v∈g')(l:List Int):∃vs,ordG c g' l=ordG c g l++vs:=
 r7 hg hg' hg' hs (fun _ h=>h) l (ks hg hg' hs l _)
theorem EB {w:Wrl}(hw:WOK w):∃U,GraOK w.com U∧∀g∈w.views,∀v∈g,v∈U:=by
 have hx:∃m:Nat,m<w.com.length∧(m:Int)≠w.bad:=by
  refine Classical.byContradiction fun hno=>?_
  have:=CY (c:=w.com) (ms:=[]) hw.com hw.bad List.Pairwise.nil fun m h1 h2=>absurd ⟨m,h1,h2⟩ hno
  have hb:=sj hw.com
  have h0:cR w.com []=0:=rfl
  omega
 obtain⟨m,m1,m2⟩:=hx
 have ho:=cD hw 0
 have hst:=qV hw 0
 have hg:=oJ hw 0
 generalize aX w 0=u at *
 refine⟨u.views.getD m [],?_,fun g hgm v hv=>?_⟩
 ·have:=cP (ho.gra _ (gu ho (m:=m) (by rw[hg.com];exact m1)))
  rw[hg.com] at this
  exact this
 ·obtain⟨p,p1,p2,rfl⟩:=hw.knw g hgm v hv
  obtain⟨i,hi⟩:=List.getElem?_of_mem p1
  obtain⟨l,a1,a2⟩:=hg.props i p hi
  have hone:=fp ho (List.mem_of_getElem? a1)
  have hp:=(ao.1 hw.com).1
  have hd:don u.com ⟨p.v,l⟩=true:=by
   unfold don
   rw[hg.com]
   have h1:quo w.com≤cR w.com p.members:=by simpa[don] using p2
   have h2:cR w.com p.members≤cR w.com l:=kP (c:=w.com) (fun x hx=>by have:=hp x hx;omega) (bG (fp hw p1).2) (bG hone.2) a2
   exact decide_eq_true (by dsimp only;omega)
  have:=y9 ho hst _ _ (List.mem_of_getElem? a1) hd rfl m (by rw[hg.com];exact m1) (by rw[hg.bad];exact m2)
  exact this
end Go.Proofs.YthmfppknagbkeaaGreatDoor.Am
namespace Go.Proofs.YthmfppknagbkeaaGreatDoor.Am
open Go
def pix (g:List Vtx)(v:Vtx):List (Option Nat):=v.parents.map fun a=>g.findIdx? (dO (v.round-1) a)
theorem ij {g:List Vtx}{r a:Int}{k:Nat}(h:g.findIdx? (dO r a)=some k):∃x,g[k]?=some x∧x.round=r∧x.author=a:=by
 obtain⟨hk,h1,-⟩:=List.findIdx?_eq_some_iff_getElem.1 h
 exact⟨_,List.getElem?_eq_getElem hk,ed.1 h1⟩
theorem mt {c:List Int}{g:List Vtx}(hg:GraOK c g){k:Nat}{x:Vtx}(h:g[k]?=some x):g.findIdx? (dO x.round x.author)=some k:=by
 cases hf:g.findIdx? (dO x.round x.author) with
 |none=>
  have:=List.findIdx?_eq_none_iff.1 hf x (List.mem_of_getElem? h)
  rw[ed.2 ⟨rfl,rfl⟩] at this
  cases this
 |some j=>
  obtain⟨y,h1,h2,h3⟩:=ij hf
  have e:=kf hg.pw (List.mem_of_getElem? h1) (List.mem_of_getElem? h) h2 h3
  subst e
  rw[pw_idx hg h1 h]
where
 pw_idx {c:List Int} {g:List Vtx} (hg:GraOK c g) {i k:Nat} {x:Vtx} (h1:g[i]?=some x) (h2:g[k]?=some x):i=k:=by
  rcases Nat.lt_trichotomy i k with hlt|rfl|hlt
  ·have:=fq hg.pw hlt h1 h2
   simp only[bef,Bool.or_eq_true,Bool.and_eq_true,decide_eq_true_eq] at this
   omega
  ·rfl
  ·have:=fq hg.pw hlt h2 h1
   simp only[bef,Bool.or_eq_true,Bool.and_eq_true,decide_eq_true_eq] at this
   omega
theorem AE {c:List Int}{g:List Vtx}(hg:GraOK c g){i k:Nat}{x:Vtx}(h1:g[i]?=some x)(h2:g[k]?=some x):i=k:=by
 have e1:=mt hg h1
 have e2:=mt hg h2
 rw[e1] at e2
 exact Option.some.inj e2
theorem r9 {c:List Int}{g:List Vtx}(hg:GraOK c g){v:Vtx}(hv:v∈g){o:Option Nat}(h:o∈pix g v):∃k x,o=some k∧g[k]?=some x∧x.round=v.round-1∧x.author∈v.parents:=by
 obtain⟨a,ha,rfl⟩:=List.mem_map.1 h
 obtain⟨x,x1,x2,x3⟩:=aY.1 (bN.1 (hg.par v hv) a ha)
 obtain⟨k,hk⟩:=List.getElem?_of_mem x1
 have:=mt hg hk
 rw[x2,x3] at this
 exact⟨k,x,this,hk,x2,x3▸ha⟩
theorem GQ {c:List Int}{g:List Vtx}(hg:GraOK c g){v x:Vtx}(hv:v∈g){k:Nat}(h:some k∈pix g v)(hx:g[k]?=some x):Rv g v x:=by
 obtain⟨k',x',e,h1,h2,h3⟩:=r9 hg hv h
 obtain rfl:=Option.some.inj e
 rw[hx] at h1
 obtain rfl:=Option.some.inj h1
 exact .step (List.mem_of_getElem? hx) h2 h3 (.refl x)
theorem y5 {c:List Int}{g:List Vtx}(hg:GraOK c g){S:Nat→Prop}(hS:∀i v,g[i]?=some v→S i→∀k,some k∈pix g v→S k){u v:Vtx}(h:Rv g u v):∀i k,g[i]?=some u→S i→g[k]?=some v→S k:=by
 induction h with
 |refl u=>
  intro i k h1 h2 h3
  rw[←AE hg h1 h3]
  exact h2
 | @step u x v hx h1 h2 _ ih=>
  intro i k hi hs hk
  obtain⟨j,hj⟩:=List.getElem?_of_mem hx
  have:=mt hg hj
  exact ih j k hj (hS i u hi hs j (List.mem_map.2 ⟨x.author,h2,by rw[←h1];exact this⟩)) hk
structure Dfs (g:List Vtx)(u:Vtx)(n j:Nat)(re:List Bool)(wt:List (Option Nat)):Prop where
 len:re.length=g.length
 snd:∀(i:Nat) (v:Vtx),g[i]?=some v→re[i]?=some true→Rv g u v
 wtg:∀o∈wt,∃k,o=some k∧re[k]?=some true
 cur:∀v:Vtx,g[n]?=some v→re[n]?=some true
 cls:∀(i:Nat) (v:Vtx),g[i]?=some v→re[i]?=some true→some i∈wt∨(i=n∧∀(k q:Nat),k<j→(pix g v)[k]?=some (some q)→re[q]?=some true)∨∀q:Nat,some q∈pix g v→re[q]?=some true
theorem HS {c:List Int}{g:List Vtx}(hg:GraOK c g){st:Nat}{u:Vtx}(h:g[st]?=some u):Dfs g u g.length 0 ((List.replicate g.length false).set st true) [some st]:=by
 have hl:=(List.getElem?_eq_some_iff.1 h).1
 have key:∀i:Nat,((List.replicate g.length false).set st true)[i]?=some true→i=st:=fun i hi=>by
  rw[List.getElem?_set] at hi
  split at hi
  ·omega
  ·rw[List.getElem?_replicate] at hi
   split at hi<;>cases hi
 have hst:((List.replicate g.length false).set st true)[st]?=some true:=by
  rw[List.getElem?_set,if_pos rfl,if_pos (by simpa using hl)]
 refine⟨by simp,fun i v hi hr=>?_,fun o ho=>⟨st,by simpa using ho,hst⟩,fun v hv=>?_,fun i v hi hr=>.inl ?_⟩
 ·obtain rfl:=key i hr
  rw[h] at hi
  obtain rfl:=Option.some.inj hi
  exact .refl u
 ·have:=(List.getElem?_eq_some_iff.1 hv).1
  omega
 ·rw[key i hr]
  simp
theorem C7 {g:List Vtx}{u:Vtx}{n j:Nat}{re:List Bool}{wt:List (Option Nat)}{q:Nat}(h:Dfs g u n j re (wt++[some q]))(hn:g[n]?=none):Dfs g u q 0 re wt:=by
 refine⟨h.len,h.snd,fun o ho=>h.wtg o (List.mem_append.2 (.inl ho)),fun v _=>?_,fun i v hi hr=>?_⟩
 ·obtain⟨k,h1,h2⟩:=h.wtg (some q) (by simp)
  obtain rfl:=Option.some.inj h1
  exact h2
 ·rcases h.cls i v hi hr with h1|⟨rfl,-⟩|h1
  ·rcases List.mem_append.1 h1 with h1|h1
   ·exact .inl h1
   ·refine .inr (.inl ⟨?_,fun k _ hk=>absurd hk (Nat.not_lt_zero k)⟩)
    simpa using h1
  ·rw[hn] at hi;cases hi
  ·exact .inr (.inr h1)
theorem z6 {g:List Vtx}{u v:Vtx}{n j q:Nat}{re:List Bool}{wt:List (Option Nat)}(h:Dfs g u n j re wt)(hv:g[n]?=some v)(hj:(pix g v)[j]?=some (some q))(hq:re[q]?=some true):Dfs g u n (j+1) re wt:=by
 refine⟨h.len,h.snd,h.wtg,h.cur,fun i x hi hr=>?_⟩
 rcases h.cls i x hi hr with h1|⟨rfl,h1⟩|h1
 ·exact .inl h1
 ·refine .inr (.inl ⟨rfl,fun k q' hk hp=>?_⟩)
  rcases Nat.lt_or_ge k j with hlt|hge
  ·exact h1 k q' hlt hp
  ·obtain rfl:k=j:=by omega
   rw[hv] at hi
   obtain rfl:=Option.some.inj hi
   rw[hj] at hp
   obtain rfl:=Option.some.inj (Option.some.inj hp)
   exact hq
 ·exact .inr (.inr h1)
theorem jy {re:List Bool}{q i:Nat}(h:re[i]?=some true):(re.set q true)[i]?=some true:=by
 have hl:=(List.getElem?_eq_some_iff.1 h).1
 rw[List.getElem?_set]
 split
 ·rename_i e
  rw[if_pos (by omega)]
 ·exact h
theorem z5 {c:List Int}{g:List Vtx}(hg:GraOK c g){u v:Vtx}{n j q:Nat}{re:List Bool}{wt:List (Option Nat)}(h:Dfs g u n j re wt)(hv:g[n]?=some v)(hj:(pix g v)[j]?=some (some q))(hq:re[q]?=some false):Dfs g u n (j+1) (re.set q true) (wt++[some q]):=by
 have hql:=(List.getElem?_eq_some_iff.1 hq).1
 have hqt:(re.set q true)[q]?=some true:=by rw[List.getElem?_set,if_pos rfl,if_pos hql]
 have hne:∀i:Nat,i≠q→(re.set q true)[i]?=re[i]?:=fun i hi=>by rw[List.getElem?_set,if_neg (by omega)]
 refine⟨by rw[List.length_set];exact h.len,fun i x hi hr=>?_,fun o ho=>?_,fun x hx=>jy (h.cur x hx),fun i x hi hr=>?_⟩
 ·by_cases e:i=q
  ·subst e
   exact(h.snd n v hv (h.cur v hv)).trans (GQ hg (List.mem_of_getElem? hv) (List.mem_of_getElem? hj) hi)
  ·rw[hne i e] at hr
   exact h.snd i x hi hr
 ·rcases List.mem_append.1 ho with ho|ho
  ·obtain⟨k,h1,h2⟩:=h.wtg o ho
   exact⟨k,h1,jy h2⟩
  ·exact⟨q,by simpa using ho,hqt⟩
 ·by_cases e:i=q
  ·subst e
   exact .inl (by simp)
  rw[hne i e] at hr
  rcases h.cls i x hi hr with h1|⟨rfl,h1⟩|h1
  ·exact .inl (List.mem_append.2 (.inl h1))
  ·refine .inr (.inl ⟨rfl,fun k q' hk hp=>?_⟩)
   rcases Nat.lt_or_ge k j with hlt|hge
   ·exact jy (h1 k q' hlt hp)
   ·obtain rfl:k=j:=by omega
    rw[hv] at hi
    obtain rfl:=Option.some.inj hi
    rw[hj] at hp
    obtain rfl:=Option.some.inj (Option.some.inj hp)
    exact hqt
  ·exact .inr (.inr fun q' hq'=>jy (h1 q' hq'))
theorem tq {g:List Vtx}{u v:Vtx}{n j:Nat}{re:List Bool}{wt:List (Option Nat)}(h:Dfs g u n j re wt)(hv:g[n]?=some v)(hj:v.parents.length≤j):Dfs g u g.length 0 re wt:=by
 refine⟨h.len,h.snd,h.wtg,fun x hx=>?_,fun i x hi hr=>?_⟩
 ·have:=(List.getElem?_eq_some_iff.1 hx).1
  omega
 ·rcases h.cls i x hi hr with h1|⟨rfl,h1⟩|h1
  ·exact .inl h1
  ·rw[hv] at hi
   obtain rfl:=Option.some.inj hi
   refine .inr (.inr fun q hq=>?_)
   obtain⟨k,hk⟩:=List.getElem?_of_mem hq
   have hkl:=(List.getElem?_eq_some_iff.1 hk).1
   unfold pix at hkl
   rw[List.length_map] at hkl
   exact h1 k q (by omega) hk
  ·exact .inr (.inr h1)
theorem C6 {c:List Int}{g:List Vtx}(hg:GraOK c g){u:Vtx}{st:Nat}(hst:g[st]?=some u){re:List Bool}(h:Dfs g u g.length 0 re [])(h0:re[st]?=some true){i:Nat}{v:Vtx}(hi:g[i]?=some v):re[i]?=some true↔Rv g u v:=by
 refine⟨h.snd i v hi,fun hr=>?_⟩
 refine y5 hg (S:=fun k=>re[k]?=some true) (fun k x hk hs q hq=>?_) hr st i hst h0 hi
 rcases h.cls k x hk hs with h1|⟨rfl,-⟩|h1
 ·cases h1
 ·have:=(List.getElem?_eq_some_iff.1 hk).1
  omega
 ·exact h1 q hq
theorem qZ:∀{re:List Bool} {q:Nat},re[q]?=some false→(re.set q true).count false+1=re.count false
 |[],_,h=>by simp at h
 |b::re,0,h=>by
  simp only[List.getElem?_cons_zero,Option.some.injEq] at h
  subst h
  simp
 |b::re,q+1,h=>by
  have:=qZ (re:=re) (q:=q) (by simpa using h)
  simp only[List.set_cons_succ,List.count_cons]
  omega
open Classical in
noncomputable def pst (g:List Vtx) (u:Vtx):List Int:=((List.range g.length).filter fun i=>decide (Rv g u (g.getD i v0))).map fun i:Nat=>(i:Int)
def lR (re:List Bool)(n:Nat):List Int:=((List.range n).filter fun i=>re.getD i false).map fun i:Nat=>(i:Int)
theorem wF {re:List Bool}{n:Nat}{b:Bool}(h:re[n]?=some b):lR re (n+1)=if b=true then lR re n++[(n:Int)] else lR re n:=by
 have e:re.getD n false=b:=by rw[List.getD_eq_getElem?_getD,h];rfl
 simp only[lR,List.range_succ,List.filter_append,List.map_append,List.filter_cons,List.filter_nil,e]
 cases b<;>simp
theorem zc (re:List Bool)(n:Nat):(lR re n).length≤n:=by
 unfold lR
 rw[List.length_map]
 exact Nat.le_trans (List.length_filter_le _ _) (by simp)
open Classical in
theorem zd {g:List Vtx}{u:Vtx}{re:List Bool}(hl:re.length=g.length)(h:∀(i:Nat) (v:Vtx),g[i]?=some v→(re[i]?=some true↔Rv g u v)):lR re g.length=pst g u:=by
 unfold lR pst
 congr 1
 refine List.filter_congr fun i hi=>?_
 have hi:=List.mem_range.1 hi
 have h1:=h i (g.getD i v0) (by rw[List.getD_eq_getElem?_getD,List.getElem?_eq_getElem hi];rfl)
 rw[List.getElem?_eq_getElem (by omega)] at h1
 rw[List.getD_eq_getElem?_getD,List.getElem?_eq_getElem (by omega)]
 rw[Bool.eq_iff_iff,decide_eq_true_iff,←h1]
 simp
open Classical in
theorem xV {g:List Vtx}{u:Vtx}{x:Int}:x∈pst g u↔∃i:Nat,x=i∧∃v,g[i]?=some v∧Rv g u v:=by
 unfold pst
 rw[List.mem_map]
 constructor
 ·rintro⟨i,hi,rfl⟩
  obtain⟨h1,h2⟩:=List.mem_filter.1 hi
  have h1:=List.mem_range.1 h1
  exact⟨i,rfl,_,by rw[List.getD_eq_getElem?_getD,List.getElem?_eq_getElem h1];rfl,of_decide_eq_true h2⟩
 ·rintro⟨i,rfl,v,hv,hr⟩
  have hl:=(List.getElem?_eq_some_iff.1 hv).1
  refine⟨i,List.mem_filter.2 ⟨List.mem_range.2 hl,decide_eq_true ?_⟩,rfl⟩
  rw[List.getD_eq_getElem?_getD,hv]
  exact hr
theorem Ek (g:List Vtx)(u:Vtx):(pst g u).Pairwise (· < ·):=by
 unfold pst
 rw[List.pairwise_map]
 exact(List.Pairwise.filter _ List.pairwise_lt_range).imp fun h=>by omega
theorem sf (g:List Vtx)(u:Vtx):(pst g u).length≤g.length:=by
 unfold pst
 rw[List.length_map]
 exact Nat.le_trans (List.length_filter_le _ _) (by simp)
theorem tO {c:List Int}:∀{g:List Vtx},GraOK c g→∀{i:Nat} {v:Vtx},g[i]?=some v→∃p,(bM g).nodes[i]?=some ⟨v,i,p⟩∧((v.parents=[]∧p=none)∨∃r,p=some r∧(bM g).rows[r]?=some (pix g v)):=by
 have raw:∀(g:List Vtx) {i:Nat} {v:Vtx},g[i]?=some v→∃p,(bM g).nodes[i]?=some ⟨v,i,p⟩∧((v.parents=[]∧p=none)∨∃r,p=some r∧(bM g).rows[r]?=some (v.parents.map fun a=>(bM (g.take i)).at (v.round-1) a)):=by
  intro g
  induction g using ci with
  |h0=>intro i v h;simp at h
  |h l x ih=>
   intro i v h
   rw[jp]
   have hnl:=(dD l).1
   rcases Nat.lt_or_ge i l.length with hlt|hge
   ·rw[List.getElem?_append_left hlt] at h
    obtain⟨p,h1,h2⟩:=ih h
    refine⟨p,?_,?_⟩
    ·show ((bM l).nodes++_)[i]?=_
     rw[List.getElem?_append_left (by omega)]
     exact h1
    ·rcases h2 with h2|⟨r,h2,h3⟩
     ·exact .inl h2
     ·refine .inr ⟨r,h2,?_⟩
      have hr:=(List.getElem?_eq_some_iff.1 h3).1
      rw[List.take_append_of_le_length (by omega)]
      simp only[bu]
      split
      ·exact h3
      ·rw[List.getElem?_append_left hr];exact h3
   ·obtain rfl:i=l.length:=by
     have:=(List.getElem?_eq_some_iff.1 h).1
     simp at this
     omega
    rw[List.getElem?_append_right (Nat.le_refl _),Nat.sub_self] at h
    simp only[List.getElem?_cons_zero,Option.some.injEq] at h
    subst h
    refine⟨if x.parents=[] then none else some (bM l).rows.length,?_,?_⟩
    ·show ((bM l).nodes++_)[l.length]?=_
     rw[←hnl,List.getElem?_append_right (Nat.le_refl _),Nat.sub_self]
     rfl
    ·by_cases hp:x.parents=[]
     ·exact .inl ⟨hp,by rw[if_pos hp]⟩
     ·refine .inr ⟨_,by rw[if_neg hp],?_⟩
      simp only[bu]
      rw[if_neg hp,List.getElem?_append_right (Nat.le_refl _),Nat.sub_self,List.take_left]
      rfl
 rename_i g
 intro hg i v h
 obtain⟨p,h1,h2⟩:=raw g h
 refine⟨p,h1,?_⟩
 rcases h2 with h2|⟨r,h2,h3⟩
 ·exact .inl h2
 ·refine .inr ⟨r,h2,?_⟩
  rw[h3]
  congr 1
  unfold pix
  refine List.map_congr_left fun a ha=>?_
  have hv:=List.mem_of_getElem? h
  obtain⟨x,x1,x2,x3⟩:=aY.1 (bN.1 (hg.par v hv) a ha)
  obtain⟨k,hk⟩:=List.getElem?_of_mem x1
  have hx:=mt hg hk
  rw[x2,x3] at hx
  rw[hx]
  have hil:=(List.getElem?_eq_some_iff.1 h).1
  have hki:k<i:=by
   rcases Nat.lt_or_ge k i with hlt|hge
   ·exact hlt
   ·exfalso
    rcases Nat.lt_or_ge i k with hlt|hge2
    ·have:=fq hg.pw hlt h hk
     simp only[bef,Bool.or_eq_true,Bool.and_eq_true,decide_eq_true_eq] at this
     omega
    ·obtain rfl:i=k:=by omega
     rw[h] at hk
     obtain rfl:=Option.some.inj hk
     omega
  have hvt:=(bc (hg.vtx v hv)).1
  have hxt:=bW hg.com (hg.vtx x x1)
  have ht:∀u∈g.take i,fK u:=fun u hu=>bW hg.com (hg.vtx u (List.mem_of_mem_take hu))
  have hk2:(g.take i)[k]?=some x:=by rw[List.getElem?_take,if_pos hki];exact hk
  have hin:=(rI ht (r:=v.round-1) (a:=a) (by have:=hxt.1;omega) (by have:=hxt.2;omega))
  have hsome:cA (g.take i) (v.round-1) a=true:=aY.2 ⟨x,List.mem_of_getElem? hk2,x2,x3⟩
  obtain⟨j,hj⟩:=Option.isSome_iff_exists.1 (hin.1.trans hsome)
  rw[hj]
  have hjx:=hin.2 j hj
  exact congrArg some (gst_j hg hki hjx hk x2 x3)
where
 gst_j {c:List Int} {g:List Vtx} (hg:GraOK c g) {i j k:Nat} {a r:Int} {x:Vtx} (hki:k<i) (hj:∃y,(g.take i)[j]?=some y∧y.round=r∧y.author=a) (hk:g[k]?=some x) (x2:x.round=r) (x3:x.author=a):j=k:=by
  obtain⟨y,y1,y2,y3⟩:=hj
  have y1':g[j]?=some y:=by
   rw[List.getElem?_take] at y1
   split at y1
   ·exact y1
   ·cases y1
  have e:=kf hg.pw (List.mem_of_getElem? y1') (List.mem_of_getElem? hk) (by omega) (by rw[y3,x3])
  subst e
  exact AE hg y1' hk
end Go.Proofs.YthmfppknagbkeaaGreatDoor.Am
namespace Go.Proofs.YthmfppknagbkeaaGreatDoor.Am
open Go
structure Sph (g:List Vtx)(u:Vtx)(st m:Nat)(re:List Bool):Prop where
 len:re.length=g.length
 snd:∀(i:Nat) (v:Vtx),g[i]?=some v→re[i]?=some true→Rv g u v
 top:re[st]?=some true
 cls:∀(i:Nat) (v:Vtx),g[i]?=some v→re[i]?=some true→i<m∨∀q:Nat,some q∈pix g v→re[q]?=some true
structure Spi (g:List Vtx)(u:Vtx)(st n j:Nat)(re:List Bool):Prop where
 len:re.length=g.length
 snd:∀(i:Nat) (v:Vtx),g[i]?=some v→re[i]?=some true→Rv g u v
 top:re[st]?=some true
 cur:re[n]?=some true∨j=0
 cls:∀(i:Nat) (v:Vtx),g[i]?=some v→re[i]?=some true→i<n∨(i=n∧∀(k q:Nat),k<j→(pix g v)[k]?=some (some q)→re[q]?=some true)∨∀q:Nat,some q∈pix g v→re[q]?=some true
open Classical in
noncomputable def pfl (g:List Vtx) (u:Vtx):List Bool:=g.map fun v=>decide (Rv g u v)
open Classical in
theorem ld (g:List Vtx)(l:List Int)(last:Nat):∀(x:Nat) (cur:Vtx),(dwn g l last x cur).Pairwise (· < ·)∧∀w∈dwn g l last x cur,last<w∧w≤x
 |0,cur=>by simp[dwn]
 |x+1,cur=>by
  unfold dwn
  by_cases hx:x+1≤last
  ·rw[if_pos hx];simp
  rw[if_neg hx]
  have st:∀cur:Vtx,(dwn g l last x cur).Pairwise (· < ·)∧∀w∈dwn g l last x cur,last<w∧w≤x+1:=fun cur=>
   ⟨(ld g l last x cur).1,fun w hw=>⟨((ld g l last x cur).2 w hw).1,by have:=((ld g l last x cur).2 w hw).2;omega⟩⟩
  split
  ·rename_i k hk
   split
   ·obtain⟨h1,h2⟩:=ld g l last x k
    refine⟨List.pairwise_append.2 ⟨h1,List.pairwise_singleton _ _,fun a ha b hb=>?_⟩,fun w hw=>?_⟩
    ·obtain rfl:=List.mem_singleton.1 hb
     have:=h2 a ha
     omega
    ·rcases List.mem_append.1 hw with hw|hw
     ·have:=h2 w hw
      omega
     ·obtain rfl:=List.mem_singleton.1 hw
      omega
   ·exact st cur
  ·exact st cur
theorem wX (g:List Vtx)(l:List Int){w last:Nat}(hw:last<w):(chn g l w last).Pairwise (· < ·)∧∀x∈chn g l w last,last<x∧x≤w:=by
 unfold chn
 split
 ·rename_i k hk
  obtain⟨h1,h2⟩:=ld g l last (w-1) k
  refine⟨List.pairwise_append.2 ⟨h1,List.pairwise_singleton _ _,fun a ha b hb=>?_⟩,fun x hx=>?_⟩
  ·obtain rfl:=List.mem_singleton.1 hb
   have:=h2 a ha
   omega
  ·rcases List.mem_append.1 hx with hx|hx
   ·have:=h2 x hx
    omega
   ·obtain rfl:=List.mem_singleton.1 hx
    omega
 ·exact⟨List.pairwise_singleton _ _,fun x hx=>by obtain rfl:=List.mem_singleton.1 hx;omega⟩
theorem qX (c:List Int)(g:List Vtx)(l:List Int):∀n:Nat,(cmt c g l n).2≤n∧(cmt c g l n).1.Pairwise (· < ·)∧∀w∈(cmt c g l n).1,w≤(cmt c g l n).2
 |0=>by simp[cmt]
 |n+1=>by
  obtain⟨h1,h2,h3⟩:=qX c g l n
  unfold cmt
  split
  ·obtain⟨h4,h5⟩:=wX g l (w:=n+1) (last:=(cmt c g l n).2) (by omega)
   refine⟨Nat.le_refl _,List.pairwise_append.2 ⟨h2,h4,fun a ha b hb=>?_⟩,fun w hw=>?_⟩
   ·have:=h3 a ha
    have:=(h5 b hb).1
    omega
   ·rcases List.mem_append.1 hw with hw|hw
    ·have:=h3 w hw
     show w≤n+1
     omega
    ·exact(h5 w hw).2
  ·exact⟨by omega,h2,h3⟩
def Jd (g:List Vtx)(l:List Int)(w:Nat)(v:Vtx):Prop:=∃k,j7 g l w=some k∧Rv g k v∧2*(w:Int)-7≤v.round
open Classical in
noncomputable def wvk (g:List Vtx) (l:List Int) (ws:List Nat) (v:Vtx):Int:=match ws.find? fun w=>decide (Jd g l w v) with
 |some w=>(w:Int)
 |none=>0
open Classical in
def lL (v:Vtx):Slt:=⟨v.round,v.author⟩
end Go.Proofs.YthmfppknagbkeaaGreatDoor.Am
namespace Go.Proofs.YthmfppknagbkeaaGreatDoor.Am
open Go
attribute [local irreducible] Mk bk Ari eD ky iB br b8 fY er At af
set_option maxRecDepth 10000
theorem nK {l:List Int}{w:Nat}(h1:1≤w)(h2:w≤l.length):l[((w:Int)-1).toNat]?=some (fO l w):=by
 rw[show ((w:Int)-1).toNat=w-1 by omega,fO,List.getD_eq_getElem?_getD,List.getElem?_eq_getElem (by omega)]
 rfl
theorem G3 {n i:Nat}(h:i<n):((List.range n).map some)[i]?=some (some i):=by
 rw[List.getElem?_map,List.getElem?_range h];rfl
theorem ww {α:Type}(l:List α):l=[]∨∃l' x,l=l'++[x]:=by
 rcases List.eq_nil_or_concat l with h|⟨l',x,h⟩
 ·exact .inl h
 ·exact .inr ⟨l',x,by rw[h,List.concat_eq_append]⟩
theorem rQ (c:List Int)(g:List Vtx)(hg:GraOK c g)(hl:g.length≤1000000)(sa:Nat)(u:Vtx)(hst:g[sa]?=some u):af Tryz.prog 144 [.ptr 4 0,.hpo 0 (some sa)] (gR c (bM g)) (.lst (.int .i64) (pst g u)) (gR c (bM g)):=by
 have hn:=(dD g).1
 have uT:=(List.getElem?_eq_some_iff.1 hst).1
 have h7:=(ao.1 hg.com).2
 obtain⟨p0,hp0⟩:=jo hst
 have hrl:((List.range (bM g).nodes.length).map some).length=g.length:=by simp[hn]
 have h0:=HS hg hst
 have hre0:(List.replicate g.length false)[sa]?=some false:=by rw[List.getElem?_replicate,if_pos uT]
 have hr0l:(List.replicate g.length false).length=g.length:=by simp
 have ht0:((List.replicate g.length false).set sa true)[sa]?=some true:=by rw[List.getElem?_set,if_pos rfl,if_pos (by omega)]
 have hix:0≤(sa:Int)∧(sa:Int)<((List.replicate ((((List.range (bM g).nodes.length).map some).length:Int).toNat) false).length:Nat):=by rw[hrl,List.length_replicate];omega
 have hfit:jn 1 (((((List.range (bM g).nodes.length).map some).length:Nat):Int).toNat):=by rw[hrl];unfold jn;omega
 have hre2:(List.replicate ((((List.range (bM g).nodes.length).map some).length:Int).toNat) false)[sa]?=some false:=by rw[hrl];exact hre0
 refine aa di Tryz.func144 rfl rfl true 2 6 rfl rfl rfl rfl fun K hK hb1 hb2=>?_;simp only[ae,enc,Nat.reduceAdd]
 clear hb1 hb2
 (repeat' first|refine gt ?_|refine sa fun xe hxe=>?_|refine sb (fun hq=>?_) fun hq=>?_|exact True.intro)
 refine ab hK [] [5,6] (fun x:List Bool×List (Option Nat)=>⟨[(5,.ref 6),(6,.ref 7)],Dp c (bM g) (.row 4 .bool x.1)++[(7,.row 166 (.hp 0) x.2)],8⟩) (fun x=>Dfs g u g.length 0 x.1 x.2∧x.1[sa]?=some true∧x.2.length+x.1.count false≤g.length+1) (fun x=>2*x.1.count false+x.2.length) ((List.replicate g.length false).set sa true,[some sa]) ⟨h0,ht0,?_⟩ (by simp only[hrl];rfl) ?_
 ·have:=qZ hre0
  simp only[List.count_replicate_self] at this
  simp only[List.length_singleton]
  omega
 rintro⟨re,wt⟩ ⟨hD,hS,hc⟩
 dsimp only at hD hS hc⊢
 have hrel:=hD.len
 rcases ww wt with rfl|⟨wt,o,rfl⟩
 ·have hfin:=zd hrel fun i v hi=>C6 hg hst hD hS hi
  have hnil:¬(0:Int)<((([]:List (Ty.hp 0).den).length:Nat):Int):=by simp
  (repeat' first|refine gt ?_|refine sa fun xe hxe=>?_|refine sb (fun hq=>?_) fun hq=>?_|exact True.intro)
  refine ab hK [] [10,70,71,72] (fun i:Nat=>⟨[(10,.ref 6),(70,.ref 7),(71,.int .i64 g.length),(72,.int .i64 (i:Int))],Dp c (bM g) (.row 3 (.int .i64) (lR re i))++[(7,.row 4 .bool re)],8⟩) (fun i=>i≤g.length) (fun i=>g.length-i) 0 (Nat.zero_le _) (by simp only[hrel];rfl) ?_
  intro i hi
  have htl:=zc re i
  by_cases hlt:i<g.length
  ·have hxe:re[i]?=some re[i]:=List.getElem?_eq_getElem (by omega)
   have hsn:=wF hxe
   cases hb:re[i] with
   |false=>
    rw[hb] at hxe hsn
    rw[if_neg (by simp)] at hsn
    (repeat' first|refine gt ?_|refine sa fun xe hxe=>?_|refine sb (fun hq=>?_) fun hq=>?_|exact True.intro)
    exact⟨i+1,by omega,by omega,by rw[hsn];rfl⟩
   |true=>
    rw[hb] at hxe hsn
    rw[if_pos rfl] at hsn
    (repeat' first|refine gt ?_|refine sa fun xe hxe=>?_|refine sb (fun hq=>?_) fun hq=>?_|exact True.intro)
    exact⟨i+1,by omega,by omega,by rw[hsn];rfl⟩
  ·obtain rfl:i=g.length:=by omega
   (repeat' first|refine gt ?_|refine sa fun xe hxe=>?_|refine sb (fun hq=>?_) fun hq=>?_|exact True.intro)
   exact⟨by rw[hfin],rfl⟩
 ·obtain⟨q,rfl,hq⟩:=hD.wtg o (by simp)
  have hql:q<g.length:=by have:=(List.getElem?_eq_some_iff.1 hq).1;omega
  obtain⟨v,hv⟩:∃v,g[q]?=some v:=⟨_,List.getElem?_eq_getElem hql⟩
  obtain⟨p,hp,hrow⟩:=tO hg hv
  have hD2:=C7 hD (List.getElem?_eq_none (Nat.le_refl _))
  have hwl:(wt++[some q]).length=wt.length+1:=by simp
  have hwx:(wt++[some q])[((((wt++[some q]).length:Nat):Int)-1).toNat]?=some (some q):=by
   rw[hwl,show (((wt.length+1:Nat):Int)-1).toNat=wt.length by omega];simp
  have hwt:(wt++[some q]).take ((((wt++[some q]).length:Nat):Int)-1).toNat=wt:=by
   rw[hwl,show (((wt.length+1:Nat):Int)-1).toNat=wt.length by omega];simp
  have hwc:wt.length+1+re.count false≤g.length+1:=by rw[hwl] at hc;exact hc
  clear hD hc
  generalize wt++[some q]=W at *
  have hcut:fF W none (some (.int .i64 ((W.length:Int)-1))) 0 ((W.length:Int)-1).toNat=wt:=hwt
  rcases hrow with⟨hpn,rfl⟩|⟨r,rfl,hrow⟩
  ·have hnx:=tq hD2 hv (by rw[hpn];simp)
   (repeat' first|refine gt ?_|refine sa fun xe hxe=>?_|refine sb (fun hq=>?_) fun hq=>?_|exact True.intro)
   refine ab hK [] [5,6,44,45,46] (fun j:Nat=>⟨[(5,.ref 6),(6,.ref 7),(44,.hro 1 none),(45,.int .i64 0),(46,.int .i64 (j:Int))],Dp c (bM g) (.row 4 .bool re)++[(7,.row 166 (.hp 0) wt)],8⟩) (fun j=>j=0) (fun j=>j) 0 rfl (by simp only[hcut];rfl) ?_
   rintro j rfl
   (repeat' first|refine gt ?_|refine sa fun xe hxe=>?_|refine sb (fun hq=>?_) fun hq=>?_|exact True.intro)
   exact⟨(re,wt),⟨hnx,hS,by dsimp only;omega⟩,by dsimp only;omega,rfl⟩
  ·have hpxl:(pix g v).length=v.parents.length:=by simp[pix]
   have hpl:=dA (bc (hg.vtx v (List.mem_of_getElem? hv))).2.2.1
   (repeat' first|refine gt ?_|refine sa fun xe hxe=>?_|refine sb (fun hq=>?_) fun hq=>?_|exact True.intro)
   refine ab hK [] [5,6,44,45,46] (fun y:Nat×List Bool×List (Option Nat)=>⟨[(5,.ref 6),(6,.ref 7),(44,.hro 1 (some r)),(45,.int .i64 (pix g v).length),(46,.int .i64 (y.1:Int))],Dp c (bM g) (.row 4 .bool y.2.1)++[(7,.row 166 (.hp 0) y.2.2)],8⟩) (fun y=>Dfs g u q y.1 y.2.1 y.2.2∧y.2.1[sa]?=some true∧y.1≤(pix g v).length∧y.2.2.length+y.2.1.count false=wt.length+re.count false∧y.2.1.count false≤re.count false) (fun y=>(pix g v).length-y.1) (0,re,wt) ⟨hD2,hS,Nat.zero_le _,rfl,Nat.le_refl _⟩ (by simp only[hcut];rfl) ?_
   rintro⟨j,rf,wf⟩ ⟨hJ,hJs,hj,hjc,hjm⟩
   dsimp only at hJ hJs hj hjc hjm⊢
   have hrl2:=hJ.len
   by_cases hlt:j<(pix g v).length
   ·have hxe:(pix g v)[j]?=some (pix g v)[j]:=List.getElem?_eq_getElem hlt
    obtain⟨q',x',e',hv',-,-⟩:=r9 hg (List.mem_of_getElem? hv) (List.mem_of_getElem? hxe)
    rw[e'] at hxe
    obtain⟨p',hp'⟩:=jo hv'
    have hq'l:=(List.getElem?_eq_some_iff.1 hv').1
    have hbq:rf[q']?=some rf[q']:=List.getElem?_eq_getElem (by omega)
    have hix2:0≤(q':Int)∧(q':Int)<(rf.length:Nat):=by omega
    cases hb:rf[q'] with
    |true=>
     rw[hb] at hbq
     have hsk:=z6 hJ hv hxe hbq
     (repeat' first|refine gt ?_|refine sa fun xe hxe=>?_|refine sb (fun hq=>?_) fun hq=>?_|exact True.intro)
     exact⟨(j+1,rf,wf),⟨hsk,hJs,by dsimp only;omega,hjc,hjm⟩,by dsimp only;omega,rfl⟩
    |false=>
     rw[hb] at hbq
     have hpu:=z5 hg hJ hv hxe hbq
     have hcs:=qZ hbq
     (repeat' first|refine gt ?_|refine sa fun xe hxe=>?_|refine sb (fun hq=>?_) fun hq=>?_|exact True.intro)
     exact⟨(j+1,rf.set q' true,wf++[some q']),⟨hpu,jy hJs,by dsimp only;omega,by dsimp only;rw[List.length_append];simp only[List.length_cons,List.length_nil];omega,by dsimp only;omega⟩,by dsimp only;omega,rfl⟩
   ·have hnx:=tq hJ hv (by omega)
    (repeat' first|refine gt ?_|refine sa fun xe hxe=>?_|refine sb (fun hq=>?_) fun hq=>?_|exact True.intro)
    exact⟨(rf,wf),⟨hnx,hJs,by dsimp only;omega⟩,by dsimp only;omega,rfl⟩
end Go.Proofs.YthmfppknagbkeaaGreatDoor.Am
namespace Go.Proofs.YthmfppknagbkeaaGreatDoor.Am
open Go Go.RowKit Go.Extern.Stop Go.Stop Go.Extern
set_option maxRecDepth 10000
theorem IP (v:Value)(w:World):(Extern.ReflectliteType.typeOf #[.iface 248 v]).run Tryz.prog w= .ok (.iface 238 (.agg #[.pointer (some ⟨3,248,none⟩)])) w:=by kernel_rfl
theorem IL (w : World) : ((Extern.ReflectliteType.method fun t => do Rtype.noPackHeld "Comparable" t; (fun a => Value.bool a.comparable) <$> typeInfo t) #[.agg #[.pointer (some ⟨3, 248, none⟩)]]).run Tryz.prog w = .ok (.bool true) w := by kernel_rfl
theorem IN (v : Value) (w : World) : (Go.method 383 238 v "Comparable").run Tryz.prog w = .ok (250, v) w := by kernel_rfl
theorem IM:(Tryz.prog.info? 248).map (·.comparable)=some true:=by kernel_rfl
theorem IO:(Tryz.prog.info? 272).map (·.size)=some 1:=by kernel_rfl
theorem IK (a:Addr)(w:World):
  Calls Tryz.prog 206 #[.iface 248 (.pointer (some a)),.iface 248 (.pointer (some a))] w fun e w'=>e= .returned (.bool true)∧w'=w:=by
 obtain⟨i,hi,hcmp⟩:=Option.map_eq_some_iff.1 IM
 obtain⟨j,hj,hjs⟩:=Option.map_eq_some_iff.1 IO
 have h8:=@run_callFunc_extern Tryz.prog 221 _ Extern.ReflectliteType.typeOf Tryz.func221 (by kernel_rfl) (by kernel_rfl) (by kernel_rfl) (by kernel_rfl)
 have h32 := @run_callFunc_extern Tryz.prog 250 _ (Extern.ReflectliteType.method fun t => do Rtype.noPackHeld "Comparable" t; pure (.bool (← typeInfo t).comparable)) Tryz.func250 (by kernel_rfl) (by kernel_rfl) (by kernel_rfl) (by kernel_rfl)
 have tT:=IP
 have cT:=IL
 have mR:=IN
 have heq:=run_eql_iface_ptr_same (P:=Tryz.prog) w a Tryz.underlying128 Tryz.underlying248 hi hcmp hj
 go_enter Tryz.func206,Tryz.ntmps206
 go_wp2
 refine wp_loop_rounds 1 ?_
 rw[rounds_succ]
 go_wp2
 go_ret
 exact⟨rfl,rfl⟩
theorem IJ (b:Addr)(w:World):
  Calls Tryz.prog 206 #[.nilIface,.iface 248 (.pointer (some b))] w fun e w'=>e= .returned (.bool false)∧w'=w:=by
 have hn:=run_eql_iface_nil_left (P:=Tryz.prog) w 248 (.pointer (some b)) Tryz.underlying128
 go_enter Tryz.func206,Tryz.ntmps206
 go_wp2
 go_ret
 exact⟨rfl,rfl⟩
theorem AM {ρ:Id→Pl}{L:Id→Prop}{ok:Nat→Prop}{w:World}{v:Value}(h:C ρ L ok w (.gv 2) v):∃ad,v= .iface 248 (.pointer (some ad))∧w.cell? ⟨2,0,none⟩=some (.iface 248 (.pointer (some ad))):=by
 obtain⟨x,ad,rfl,hx,-,hc⟩:=h.gv_inv
 obtain rfl:(248,128)=x:=Option.some.inj hx
 exact⟨ad,rfl,hc⟩
theorem uO {vs:Array Value}(h:2=vs.size):∃v1 v2,vs= #[v1,v2]:=by
 refine⟨vs[0],vs[1],Array.ext (by simp[←h]) fun i h1 h2=>?_⟩
 have:i=0∨i=1:=by simp at h2;omega
 rcases this with rfl|rfl<;>rfl
theorem FQ:af Tryz.prog 206 [.gv 2,.gv 2] [] (.bool true) []:=by
 unfold af
 refine jU ⟨_,Tryz.func206,rfl,rfl⟩ fun w ok ρ vs hl hc=>?_
 obtain⟨v1,v2,rfl⟩:=uO hl
 obtain⟨ad,rfl,c1⟩:=AM (hc 0 (by decide))
 obtain⟨ad',e2,c2⟩:=AM (hc 1 (by decide))
 rw[c1] at c2
 have e:v2= .iface 248 (.pointer (some ad)):=e2.trans (Option.some.inj c2).symm
 subst e
 refine(IK ad w).mono ?_
 rintro e w' ⟨rfl,rfl⟩
 exact⟨_,rfl,⟨rfl,rfl,rfl,Nat.le_refl _,fun _ _=>rfl⟩,fun ok'=>.bool _⟩
theorem FP:af Tryz.prog 206 [.nili,.gv 2] [] (.bool false) []:=by
 unfold af
 refine jU ⟨_,Tryz.func206,rfl,rfl⟩ fun w ok ρ vs hl hc=>?_
 obtain⟨v1,v2,rfl⟩:=uO hl
 have e1:C ρ (fun _=>False) ok w .nili v1:=hc 0 (by decide)
 obtain rfl:=e1.nili_inv
 obtain⟨ad',e2,-⟩:=AM (hc 1 (by decide))
 have e2:v2= .iface 248 (.pointer (some ad')):=e2
 subst e2
 refine(IJ ad' w).mono ?_
 rintro e w' ⟨rfl,rfl⟩
 exact⟨_,rfl,⟨rfl,rfl,rfl,Nat.le_refl _,fun _ _=>rfl⟩,fun ok'=>.bool _⟩

end Go.Proofs.YthmfppknagbkeaaGreatDoor.Am
