/- Graphs: what the program's functions give. Graphs: a vertex is linked. Graphs: all vertices are linked. Graphs: heights, authors, places. Runs: leaders, faulty members, pairs of proposals: what the functions give. Runs: tables of graphs, parents that are known. Runs: graphs of members, copies: what the program's functions give. Runs: clones of proposals, views that cover. Runs: parents that are known. Runs: clones of lists of numbers (the empty ones by the shelf). -/
import Derived.Shelf.Slices.Clone
import Derived.Test.YthmfppknagbkeaaGreatDoorA45
set_option linter.unusedSimpArgs false
set_option linter.unusedVariables false
set_option maxHeartbeats 1000000
namespace Go.Proofs.YthmfppknagbkeaaGreatDoor.Am
open Go
attribute [local irreducible] Mk bk Ari eD ky iB br b8 fY er At af
set_option maxRecDepth 10000
def Θg:TT:=(166,⟨.ptr 178,1,8,some (.nilp),some (.hp 0),false⟩)::Θ
theorem di:TT.ok Tryz.prog Θg:=TT.okB_ok (by kernel_rfl)
theorem gt {P Q:Prop}(h:Q)(s:Hid Q→P:=by
  intro h
  (first|(with_reducible first|apply d7|apply dx)|((first|with_reducible apply cM di|refine go ?_|(with_reducible first|apply dB|apply dt|apply cK|apply cN|refine cL di mixed (by kernel_rfl) ?_))<;>conv=>whnf))
  repeat(first|(with_reducible first|apply d7|apply dx)|((first|with_reducible apply cM di|refine go ?_|(with_reducible first|apply dB|apply dt|apply cK|apply cN|refine cL di mixed (by kernel_rfl) ?_))<;>conv=>whnf))
  exact h.h):P:=s ⟨h⟩
abbrev gZ (c:List Int)(s:GS):VH:=[(0,.fvar 178 (.nod 1) s.nodes),(1,.frow 166 (.hp 0) s.rows),(4,.vari 170 [.lst (.int .i64) c,.nils] 217 (.hp 0) s.plc [])]
abbrev I8 (c:List Int)(s:GS)(x:VB):VH:=[(0,.fvar 178 (.nod 1) s.nodes),(1,.frow 166 (.hp 0) s.rows),(4,.vari 170 [.lst (.int .i64) c,.nils] 217 (.hp 0) s.plc []),(5,x)]
abbrev gR (c:List Int)(s:GS):VH:=[(0,.fvar 178 (.nod 1) s.nodes),(1,.frow 166 (.hp 0) s.rows),(4,.vari 170 [.lst (.int .i64) c,.ref 5] 217 (.hp 0) s.plc []),(5,.row 166 (.hp 0) ((List.range s.nodes.length).map some))]
abbrev Dp (c:List Int)(s:GS)(x:VB):VH:=[(0,.fvar 178 (.nod 1) s.nodes),(1,.frow 166 (.hp 0) s.rows),(4,.vari 170 [.lst (.int .i64) c,.ref 5] 217 (.hp 0) s.plc []),(5,.row 166 (.hp 0) ((List.range s.nodes.length).map some)),(6,x)]
theorem nR {s:GS}(hs:s.plc.length=217){r a:Int}(hr:gM r 0 30=true)(ha:0≤a∧a≤6):s.plc[r.toNat * 7+a.toNat]?=some (s.at r a):=by
 have hr:=ar.1 hr
 have e:(r*7+a).toNat=r.toNat * 7+a.toNat:=by omega
 rw[GS.at,e,List.getD_eq_getElem?_getD,List.getElem?_eq_getElem (by omega)]
 rfl
def mY (s:GS)(r:Int)(n:Nat):List Int:=((List.range n).filter fun a:Nat=>gM r 0 30 && (s.at r (a:Int)).isSome).map fun a:Nat=>(a:Int)
theorem FD (s:GS)(r:Int)(n:Nat):mY s r (n+1)=if gM r 0 30 && (s.at r (n:Int)).isSome then mY s r n++[(n:Int)] else mY s r n:=by
 simp only[mY,List.range_succ,List.filter_append,List.map_append,List.filter_cons,List.filter_nil]
 split<;>simp
theorem Hv (s:GS)(r:Int)(n:Nat):(mY s r n).length≤n:=by
 unfold mY
 rw[List.length_map]
 exact Nat.le_trans (List.length_filter_le _ _) (by simp)
theorem IG (c:List Int)(s:GS)(r a:Int)(h:(gM r 0 30 && bY c a)=false):af Tryz.prog 184 [.ptr 4 0,.int .i64 r,.int .i64 a] (gR c s) .nilp (gR c s):=by
 refine aa di Tryz.func184 rfl rfl false 2 6 rfl rfl rfl rfl fun K hK hb1 hb2=>?_;simp only[ae,enc,Nat.reduceAdd]
 clear hb1 hb2
 cases h1:gM r 0 30
 ·(repeat' first|refine st ?_|refine sa fun xe hxe=>?_|refine sb (fun hq=>?_) fun hq=>?_|refine cr (kH _) ?_|refine cr (dN _ _) ?_|exact True.intro)
  exact⟨rfl,rfl⟩
 ·have h2:bY c a=false:=by simp_all
  (repeat' first|refine st ?_|refine sa fun xe hxe=>?_|refine sb (fun hq=>?_) fun hq=>?_|refine cr (kH _) ?_|refine cr (dN _ _) ?_|exact True.intro)
  exact⟨rfl,rfl⟩
theorem kA (c:List Int)(s:GS)(r a:Int)(hs:s.plc.length=217)(hc:c.length≤7)(h1:gM r 0 30=true)(h2:bY c a=true):af Tryz.prog 184 [.ptr 4 0,.int .i64 r,.int .i64 a] (gR c s) (.hpo 0 (s.at r a)) (gR c s):=by
 refine aa di Tryz.func184 rfl rfl false 2 6 rfl rfl rfl rfl fun K hK hb1 hb2=>?_;simp only[ae,enc,Nat.reduceAdd]
 clear hb1 hb2
 have hr:=ar.1 h1
 have ha:=ar.1 h2
 have hp:=nR hs h1 (a:=a) (by omega)
 (repeat' first|refine st ?_|refine sa fun xe hxe=>?_|refine sb (fun hq=>?_) fun hq=>?_|refine cr (kH _) ?_|refine cr (dN _ _) ?_|exact True.intro)
 exact⟨rfl,rfl⟩
theorem IH (c:List Int)(s:GS)(r a:Int)(h:(gM r 0 30 && bY c a)=false):af Tryz.prog 184 [.ptr 4 0,.int .i64 r,.int .i64 a] (gZ c s) .nilp (gZ c s):=by
 refine aa di Tryz.func184 rfl rfl false 1 5 rfl rfl rfl rfl fun K hK hb1 hb2=>?_;simp only[ae,enc,Nat.reduceAdd]
 clear hb1 hb2
 cases h1:gM r 0 30
 ·(repeat' first|refine st ?_|refine sa fun xe hxe=>?_|refine sb (fun hq=>?_) fun hq=>?_|refine cr (kH _) ?_|refine cr (dN _ _) ?_|exact True.intro)
  exact⟨rfl,rfl⟩
 ·have h2:bY c a=false:=by simp_all
  (repeat' first|refine st ?_|refine sa fun xe hxe=>?_|refine sb (fun hq=>?_) fun hq=>?_|refine cr (kH _) ?_|refine cr (dN _ _) ?_|exact True.intro)
  exact⟨rfl,rfl⟩
theorem zC (c:List Int)(s:GS)(r a:Int)(hs:s.plc.length=217)(hc:c.length≤7)(h1:gM r 0 30=true)(h2:bY c a=true):af Tryz.prog 184 [.ptr 4 0,.int .i64 r,.int .i64 a] (gZ c s) (.hpo 0 (s.at r a)) (gZ c s):=by
 refine aa di Tryz.func184 rfl rfl false 1 5 rfl rfl rfl rfl fun K hK hb1 hb2=>?_;simp only[ae,enc,Nat.reduceAdd]
 clear hb1 hb2
 have hr:=ar.1 h1
 have ha:=ar.1 h2
 have hp:=nR hs h1 (a:=a) (by omega)
 (repeat' first|refine st ?_|refine sa fun xe hxe=>?_|refine sb (fun hq=>?_) fun hq=>?_|refine cr (kH _) ?_|refine cr (dN _ _) ?_|exact True.intro)
 exact⟨rfl,rfl⟩
abbrev gO (c:List Int)(s:GS):VH:=[(0,.fvar 178 (.nod 1) s.nodes),(1,.frow 166 (.hp 0) s.rows),(4,.vari 170 [.lst (.int .i64) c,.ref 6] 217 (.hp 0) s.plc []),(5,.gone),(6,.row 166 (.hp 0) ((List.range s.nodes.length).map some))]
theorem ql (s:GS)(v:Vtx):(List.range s.nodes.length).map some++[some s.nodes.length]=(List.range (bu s v).nodes.length).map some:=by
 simp[bu,List.range_succ]
theorem mq (s:GS)(v:Vtx)(h:0≤v.round∧0≤v.author):s.plc.set (v.round.toNat * 7+v.author.toNat) (some s.nodes.length)=(bu s v).plc:=by
 have e:(v.round*7+v.author).toNat=v.round.toNat * 7+v.author.toNat:=by omega
 simp only[bu,e]
def mH (s:GS)(v:Vtx):Bool:=v.parents.all fun p=>(s.at (v.round-1) p).isSome
abbrev D1 (v:Vtx)(n:Int)(p:V):VB:=.var 178 [.int .i64 v.round,.int .i64 v.author,.lst (.int .i64) v.parents,.int .i64 v.digest,.int .i64 n,p]
abbrev D9 (s:GS)(v:Vtx)(i:Nat):VB:=.row 166 (.hp 0) ((v.parents.take i).map fun p=>s.at (v.round-1) p)
def rT (c:List Int)(s:GS)(v:Vtx):Nat→VSt
 |0=>⟨[(0,.ptr 4 0),(3,.ptr 6 0),(5,.ptr 7 0),(18,.lst (.int .i64) v.parents),(19,.int .i64 v.parents.length),(20,.int .i64 0)],gR c s++[(6,.var 48 (bA v).cells),(7,D1 v s.nodes.length .nils)],8⟩
 |i+1=>⟨[(0,.ptr 4 0),(3,.ptr 6 0),(5,.ptr 7 0),(18,.lst (.int .i64) v.parents),(19,.int .i64 v.parents.length),(20,.int .i64 ((i+1:Nat):Int))],gR c s++[(6,.var 48 (bA v).cells),(7,D1 v s.nodes.length (.ref 8)),(8,D9 s v (i+1))],9⟩
theorem DZ (c:List Int)(s:GS)(v:Vtx)(hs:s.plc.length=217)(hc:comV c=true)(hv:vtxS c v=true)(hn:s.nodes.length≤2000000):af Tryz.prog 181 [.ptr 4 0,bA v] (gR c s) (.bool (mH s v)) (if mH s v then gO c (bu s v) else gR c s):=by
 have h7:=(ao.1 hc).2
 obtain⟨v1,v2,v3,v4,v5,v6⟩:=bc hv
 have hml:=dA v3
 have hmi:=bf v3
 have hrl:((List.range s.nodes.length).map some).length=s.nodes.length:=by simp
 refine aa di Tryz.func181 rfl rfl false 2 6 rfl rfl rfl rfl fun K hK hb1 hb2=>?_;simp only[ae,enc,Nat.reduceAdd]
 clear hb1 hb2
 (repeat' first|refine gt ?_|refine sa fun xe hxe=>?_|refine sb (fun hq=>?_) fun hq=>?_|exact True.intro)
 refine ab hK [] [0,3,5,18,19,20] (rT c s v) (fun i=>i≤v.parents.length∧∀p∈v.parents.take i,(s.at (v.round-1) p).isSome=true) (fun i=>v.parents.length-i) 0 ⟨by simp,by simp⟩ (by simp only[hrl];rfl) ?_
 rintro i ⟨hi,hall⟩
 have hno:∀p∈v.parents,s.at (v.round-1) p=none→mH s v=false:=fun p hp h=>by
  rw[Bool.eq_false_iff]
  intro h2
  have:=List.all_eq_true.1 h2 p hp
  rw[h] at this
  cases this
 by_cases hlt:i<v.parents.length
 ·have hxe:v.parents[i]?=some v.parents[i]:=List.getElem?_eq_getElem hlt
  have h3:v.parents.take (i+1)=v.parents.take i++[v.parents[i]]:=List.take_succ_eq_append_getElem hlt
  have h4:v.parents[i]∈v.parents:=List.getElem_mem hlt
  have hr0:v.round≠0:=fun h=>by rw[v5 h] at hlt;simp at hlt
  have h1:gM (v.round-1) 0 30=true:=ar.2 (by omega)
  have hlk:rT c s v (i+1)=⟨[(0,.ptr 4 0),(3,.ptr 6 0),(5,.ptr 7 0),(18,.lst (.int .i64) v.parents),(19,.int .i64 v.parents.length),(20,.int .i64 ((i+1:Nat):Int))],gR c s++[(6,.var 48 (bA v).cells),(7,D1 v s.nodes.length (.ref 8)),(8,.row 166 (.hp 0) (((v.parents.take i).map fun p=>s.at (v.round-1) p)++[s.at (v.round-1) v.parents[i]]))],9⟩:=by
   rw[rT,D9,h3,List.map_append];rfl
  generalize v.parents[i]=p at *
  have h2:bY c p=true:=ar.2 (by have:=hmi p h4;omega)
  have hl2:((v.parents.take i).map fun p=>s.at (v.round-1) p).length=i:=by rw[List.length_map,List.length_take];omega
  cases h5:s.at (v.round-1) p with
  |none=>
   have hin:(s.at (v.round-1) p).isNone=true:=by rw[h5];rfl
   have hnn:=hno p h4 h5
   cases i with
   |zero=>
    have hx0:v.parents[(0:Int).toNat]?=some p:=hxe
    unfold rT
    (repeat' first|refine gt ?_|refine sa fun xe hxe=>?_|refine sb (fun hq=>?_) fun hq=>?_|refine co (kA c s (v.round-1) p hs h7.2 h1 h2) ?_|exact True.intro)
    exact⟨by rw[hnn],by rw[hnn];rfl⟩
   |succ i=>
    unfold rT
    (repeat' first|refine gt ?_|refine sa fun xe hxe=>?_|refine sb (fun hq=>?_) fun hq=>?_|refine co (kA c s (v.round-1) p hs h7.2 h1 h2) ?_|exact True.intro)
    exact⟨by rw[hnn],by rw[hnn];rfl⟩
  |some k=>
   have hin:(s.at (v.round-1) p).isNone=false:=by rw[h5];rfl
   cases i with
   |zero=>
    have hx0:v.parents[(0:Int).toNat]?=some p:=hxe
    unfold rT
    (repeat' first|refine gt ?_|refine sa fun xe hxe=>?_|refine sb (fun hq=>?_) fun hq=>?_|refine co (kA c s (v.round-1) p hs h7.2 h1 h2) ?_|exact True.intro)
    refine⟨0+1,⟨by omega,by rw[h3];exact aP hall (by rw[h5];rfl)⟩,by omega,?_⟩
    refine Eq.trans ?_ hlk.symm
    rfl
   |succ i=>
    unfold rT
    simp only[D9]
    generalize (List.map (fun p=>s.at (v.round-1) p) (List.take (i+1) v.parents))=ps at *
    (repeat' first|refine gt ?_|refine sa fun xe hxe=>?_|refine sb (fun hq=>?_) fun hq=>?_|refine co (kA c s (v.round-1) p hs h7.2 h1 h2) ?_|exact True.intro)
    refine⟨i+1+1,⟨by omega,by rw[h3];exact aP hall (by rw[h5];rfl)⟩,by omega,?_⟩
    refine Eq.trans ?_ hlk.symm
    rfl
 ·rw[List.take_of_length_le (by omega)] at hall
  have hy:mH s v=true:=List.all_eq_true.2 hall
  have hpl:=nR hs (ar.2 v1) (a:=v.author) (by omega)
  cases i with
  |zero=>
   unfold rT
   simp only[gR]
   generalize hnr:(List.map some (List.range s.nodes.length))=nr at *
   (repeat' first|refine gt ?_|refine sa fun xe hxe=>?_|refine sb (fun hq=>?_) fun hq=>?_|exact True.intro)
   rw[hy]
   refine⟨rfl,?_⟩
   have e1:=ql s v
   have e2:=mq s v ⟨v1.1,v2.1⟩
   simp only[if_true,gO]
   rw[←e1,←e2,hnr]
   have e3:v.parents=[]:=List.length_eq_zero_iff.1 (by omega)
   have e4:(bu s v).nodes=s.nodes++[⟨v,s.nodes.length,none⟩]:=by simp[bu,e3]
   have e5:(bu s v).rows=s.rows:=by simp[bu,e3]
   rw[e4,e5]
  |succ i=>
   unfold rT
   simp only[D9]
   generalize hps:(List.map (fun p=>s.at (v.round-1) p) (List.take (i+1) v.parents))=ps at *
   simp only[gR]
   generalize hnr:(List.map some (List.range s.nodes.length))=nr at *
   (repeat' first|refine gt ?_|refine sa fun xe hxe=>?_|refine sb (fun hq=>?_) fun hq=>?_|exact True.intro)
   rw[hy]
   refine⟨rfl,?_⟩
   have e1:=ql s v
   have e2:=mq s v ⟨v1.1,v2.1⟩
   simp only[if_true,gO]
   rw[←e1,←e2,hnr]
   have e3:v.parents≠[]:=fun h=>by rw[h] at hi;simp at hi
   rw[List.take_of_length_le (by omega)] at hps
   simp only[bu,e3,if_false,hps]
theorem vF (r a:Int):gz.at r a=none:=by
 simp only[gz,GS.at,List.getD_eq_getElem?_getD,List.getElem?_replicate]
 split<;>rfl
theorem If (v:Vtx):mH gz v=v.parents.isEmpty:=by
 unfold mH
 cases v.parents with
 |nil=>rfl
 |cons p l=>simp[vF]
theorem D0 (c:List Int)(v:Vtx)(hc:comV c=true)(hv:vtxS c v=true):af Tryz.prog 181 [.ptr 4 0,bA v] (gZ c gz) (.bool (mH gz v)) (if mH gz v then gR c (bu gz v) else gZ c gz):=by
 have h7:=(ao.1 hc).2
 have hs:gz.plc.length=217:=List.length_replicate
 obtain⟨v1,v2,v3,v4,v5,v6⟩:=bc hv
 have hmi:=bf v3
 refine aa di Tryz.func181 rfl rfl false 1 5 rfl rfl rfl rfl fun K hK hb1 hb2=>?_;simp only[ae,enc,Nat.reduceAdd]
 clear hb1 hb2
 (repeat' first|refine gt ?_|refine sa fun xe hxe=>?_|refine sb (fun hq=>?_) fun hq=>?_|exact True.intro)
 refine ab hK [] [0,3,5,18,19,20] (fun i:Nat=>⟨[(0,.ptr 4 0),(3,.ptr 5 0),(5,.ptr 6 0),(18,.lst (.int .i64) v.parents),(19,.int .i64 v.parents.length),(20,.int .i64 0)],gZ c gz++[(5,.var 48 (bA v).cells),(6,D1 v 0 .nils)],7⟩) (fun i=>i=0) (fun i=>i) 0 rfl (by simp only[List.length_nil];rfl) ?_
 rintro i rfl
 have hy:=If v
 by_cases hlt:0<v.parents.length
 ·have hxe:v.parents[0]?=some v.parents[0]:=List.getElem?_eq_getElem hlt
  have h4:v.parents[0]∈v.parents:=List.getElem_mem hlt
  have hr0:v.round≠0:=fun h=>by rw[v5 h] at hlt;simp at hlt
  have h1:gM (v.round-1) 0 30=true:=ar.2 (by omega)
  have hne:v.parents.isEmpty=false:=by cases h:v.parents with|nil=>rw[h] at hlt;simp at hlt|cons _ _=>rfl
  rw[hne] at hy
  rw[hy]
  generalize v.parents[0]=p at *
  have h2:bY c p=true:=ar.2 (by have:=hmi p h4;omega)
  have hx0:v.parents[(0:Int).toNat]?=some p:=hxe
  have hin:(gz.at (v.round-1) p).isNone=true:=by rw[vF];rfl
  (repeat' first|refine gt ?_|refine sa fun xe hxe=>?_|refine sb (fun hq=>?_) fun hq=>?_|refine co (zC c gz (v.round-1) p hs h7.2 h1 h2) ?_|exact True.intro)
  exact⟨rfl,rfl⟩
 ·have e3:v.parents=[]:=List.length_eq_zero_iff.1 (by omega)
  have hem:v.parents.isEmpty=true:=by rw[e3];rfl
  rw[hem] at hy
  rw[hy]
  have hpl:=nR hs (ar.2 v1) (a:=v.author) (by omega)
  have e2:=mq gz v ⟨v1.1,v2.1⟩
  have e4:(bu gz v).nodes=[⟨v,0,none⟩]:=by simp[bu,e3,gz]
  have e5:(bu gz v).rows=[]:=by simp[bu,e3,gz]
  simp only[if_true,gR]
  rw[←e2,e4,e5]
  (repeat' first|refine gt ?_|refine sa fun xe hxe=>?_|refine sb (fun hq=>?_) fun hq=>?_|exact True.intro)
  exact⟨rfl,rfl⟩
theorem Ea {c:List Int}{g:List Vtx}{v:Vtx}(hc:comV c=true)(hg:∀u∈g,vtxS c u=true)(hv:vtxS c v=true):mH (bM g) v=parOK g v:=by
 obtain⟨v1,v2,v3,v4,v5,v6⟩:=bc hv
 have h7:=(ao.1 hc).2
 unfold mH parOK
 rw[Bool.eq_iff_iff,List.all_eq_true,List.all_eq_true]
 have key:∀p∈v.parents,((bM g).at (v.round-1) p).isSome=cA g (v.round-1) p:=by
  intro p hp
  have hr0:v.round≠0:=fun h=>by rw[v5 h] at hp;cases hp
  have:=bf v3 p hp
  exact(rI (fun u hu=>bW hc (hg u hu)) (by omega) (by omega)).1
 constructor
 ·intro h p hp;rw[←key p hp];exact h p hp
 ·intro h p hp;rw[key p hp];exact h p hp
def DY (c:List Int)(g:List Vtx):Nat→VSt
 |0=>⟨[(0,.lst (.int .i64) c),(1,.lst .vtx g),(6,.ptr 4 0),(15,.lst .vtx g),(16,.int .i64 g.length),(17,.int .i64 0)],gZ c gz,5⟩
 |i+1=>⟨[(0,.lst (.int .i64) c),(1,.lst .vtx g),(6,.ptr 4 0),(15,.lst .vtx g),(16,.int .i64 g.length),(17,.int .i64 ((i+1:Nat):Int))],gR c (bM (g.take (i+1))),6⟩
def gF (c:List Int)(g:List Vtx):VH:=match g with|[]=>gZ c gz|v::l=>gR c (bM (v::l))
def zn (c:List Int)(g:List Vtx):V:=if graS c g then .tup [.ptr 4 0,.bool true] else .tup [.nilp,.bool false]
def zm (c:List Int)(g:List Vtx):VH:=if graS c g then gF c g else[]
theorem Dr {c:List Int}{g:List Vtx}{i:Nat}(hi:i<g.length)(h:eH c g i=false):graS c g=false:=by
 unfold graS
 rw[←xr,cy hi h,Bool.and_false]
theorem AK {c:List Int}{g:List Vtx}{i:Nat}(h:∀j,j<i→eH c g j=true):∀u∈g.take i,vtxS c u=true:=by
 intro u hu
 obtain⟨j,hj,rfl⟩:=cC (d:=v0) hu
 rw[List.length_take] at hj
 have:=h j (by omega)
 simp only[eH,Bool.and_eq_true] at this
 rw[show (g.take i).getD j v0=g.getD j v0 by simp only[List.getD_eq_getElem?_getD,List.getElem?_take,if_pos (show j<i by omega)]]
 exact this.1
theorem rS (c:List Int)(g:List Vtx)(hl:g.length≤2000000):af Tryz.prog 141 [.lst (.int .i64) c,.lst .vtx g] [] (zn c g) (zm c g):=by
 have hbad:graS c g=false→V.tup [.nilp,.bool false]=zn c g∧([]:VH)=zm c g:=fun h=>by simp[zn,zm,h]
 refine aa di Tryz.func141 rfl rfl false 0 4 rfl rfl rfl rfl fun K hK hb1 hb2=>?_;simp only[ae,enc,Nat.reduceAdd]
 clear hb1 hb2
 cases hc:comV c
 ·(repeat' first|refine gt ?_|refine sa fun xe hxe=>?_|refine sb (fun hq=>?_) fun hq=>?_|refine cr (lr _) ?_|exact True.intro)
  exact hbad (by simp[graS,hc])
 (repeat' first|refine gt ?_|refine sa fun xe hxe=>?_|refine sb (fun hq=>?_) fun hq=>?_|refine cr (lr _) ?_|exact True.intro)
 refine zA 4 2 217 (.hp 0) ?_
 ((conv=>whnf);refine GH (by kernel_rfl) ?_;(conv=>whnf))
 refine qP 0 (.fvar 178 (.nod 1) []) rfl ?_
 refine qP 1 (.frow 166 (.hp 0) []) rfl ?_
 refine ab hK [] [0,1,6,15,16,17] (DY c g) (fun i=>i≤g.length∧∀j,j<i→eH c g j=true) (fun i=>g.length-i) 0 ⟨by simp,by simp⟩ rfl ?_
 rintro i ⟨hi,hall⟩
 by_cases hlt:i<g.length
 ·have hxe:g[i]?=some g[i]:=List.getElem?_eq_getElem hlt
  have hA:eH c g i=(vtxS c g[i] && ((i==0||bef (g.getD (i-1) v0) g[i]) && parOK (g.take i) g[i])):=by simp only[eH,aU hxe]
  have hno:eH c g i=false→V.tup [.nilp,.bool false]=zn c g∧([]:VH)=zm c g:=fun h=>hbad (Dr hlt h)
  have hgs:bM (g.take (i+1))=bu (bM (g.take i)) g[i]:=by rw[List.take_succ_eq_append_getElem hlt,jp]
  have hgv:=AK hall
  have hys:eH c g i=true→∀j,j<i+1→eH c g j=true:=fun h=>bt hall h
  generalize g[i]=v at *
  cases h1:vtxS c v
  ·have h2:(comV c && vtxS c v)=false:=by simp[h1]
   cases i with
   |zero=>
    have hx0:g[(0:Int).toNat]?=some v:=hxe
    unfold DY
    (repeat' first|refine gt ?_|refine sa fun xe hxe=>?_|refine sb (fun hq=>?_) fun hq=>?_|refine cr (gA _ _) ?_|exact True.intro)
    exact hno (by simp[hA,h1])
   |succ i=>
    unfold DY
    (repeat' first|refine gt ?_|refine sa fun xe hxe=>?_|refine sb (fun hq=>?_) fun hq=>?_|refine cr (gA _ _) ?_|exact True.intro)
    exact hno (by simp[hA,h1])
  have h2:(comV c && vtxS c v)=true:=by simp[h1,hc]
  have hpe:=Ea hc hgv h1
  cases i with
  |zero=>
   have hx0:g[(0:Int).toNat]?=some v:=hxe
   have hL:=D0 c v hc h1
   have hpe:mH gz v=parOK (g.take 0) v:=hpe
   have hf1:aF (VB.fvar 178 (.nod 1) gz.nodes)≤aF (VB.fvar 178 (.nod 1) (bu gz v).nodes):=Nat.zero_le _
   have hf2:aF (VB.frow 166 (.hp 0) gz.rows)≤aF (VB.frow 166 (.hp 0) (bu gz v).rows):=Nat.zero_le _
   cases h3:mH gz v
   ·rw[h3] at hL
    simp only[Bool.false_eq_true,if_false] at hL
    unfold DY
    (repeat' first|refine gt ?_|refine sa fun xe hxe=>?_|refine sb (fun hq=>?_) fun hq=>?_|refine cr (gA _ _) ?_|refine co (hL) ?_|exact True.intro)
    exact hno (by rw[hA,←hpe,h3];simp)
   ·rw[h3] at hL
    simp only[if_true] at hL
    unfold DY
    (repeat' first|refine gt ?_|refine sa fun xe hxe=>?_|refine sb (fun hq=>?_) fun hq=>?_|refine cr (gA _ _) ?_|refine co (hL) ?_|exact True.intro)
    refine⟨0+1,⟨by omega,hys (by rw[hA,←hpe,h3,h1];simp)⟩,by omega,?_⟩
    show _=VSt.mk _ (gR c (bM (g.take (0+1)))) _
    rw[hgs]
    rfl
  |succ i=>
   have hgl:(bM (g.take (i+1))).nodes.length≤2000000:=by rw[(dD _).1,List.length_take];omega
   have hL:=DZ c (bM (g.take (i+1))) v (dD _).2 hc h1 hgl
   have hye:g[(((i+1:Nat):Int)-1).toNat]?=some (g.getD (i+1-1) v0):=by rw[show (((i+1:Nat):Int)-1).toNat=i by omega,List.getD_eq_getElem?_getD,List.getElem?_eq_getElem (show i<g.length by omega)];simp only[Nat.add_sub_cancel,List.getElem?_eq_getElem (show i<g.length by omega)];rfl
   generalize g.getD (i+1-1) v0=u at *
   have hst:DY c g (i+1)=⟨[(0,.lst (.int .i64) c),(1,.lst .vtx g),(6,.ptr 4 0),(15,.lst .vtx g),(16,.int .i64 g.length),(17,.int .i64 ((i+1:Nat):Int))],gR c (bM (g.take (i+1))),6⟩:=rfl
   rw[hst]
   clear hst
   generalize bM (g.take (i+1))=s at *
   have hf1:aF (VB.fvar 178 (.nod 1) s.nodes)≤aF (VB.fvar 178 (.nod 1) (bu s v).nodes):=by simp[aF,bu]
   have hf2:aF (VB.frow 166 (.hp 0) s.rows)≤aF (VB.frow 166 (.hp 0) (bu s v).rows):=by simp only[aF,bu];split<;>simp
   cases h4:bef u v
   ·(repeat' first|refine gt ?_|refine sa fun xe hxe=>?_|refine sb (fun hq=>?_) fun hq=>?_|refine cr (gA _ _) ?_|refine cr (rL _ _) ?_|exact True.intro)
    exact hno (by simp[hA,h1,h4])
   cases h3:mH s v
   ·rw[h3] at hL
    simp only[Bool.false_eq_true,if_false] at hL
    (repeat' first|refine gt ?_|refine sa fun xe hxe=>?_|refine sb (fun hq=>?_) fun hq=>?_|refine cr (gA _ _) ?_|refine cr (rL _ _) ?_|refine co (hL) ?_|exact True.intro)
    exact hno (by rw[hA,←hpe,h3];simp)
   ·rw[h3] at hL
    simp only[if_true] at hL
    (repeat' first|refine gt ?_|refine sa fun xe hxe=>?_|refine sb (fun hq=>?_) fun hq=>?_|refine cr (gA _ _) ?_|refine cr (rL _ _) ?_|refine co (hL) ?_|exact True.intro)
    refine⟨i+1+1,⟨by omega,hys (by rw[hA,←hpe,h3,h1,h4];simp)⟩,by omega,?_⟩
    show _=VSt.mk _ (gR c (bM (g.take (i+1+1)))) _
    rw[hgs]
    rfl
 ·have hg:graS c g=true:=by
   unfold graS
   rw[hc,←xr,bO (fun j hj=>hall j (by omega))]
   rfl
  have e1:zn c g= .tup [.ptr 4 0,.bool true]:=by simp[zn,hg]
  have e2:zm c g=gF c g:=by simp[zm,hg]
  rw[e1,e2]
  cases i with
  |zero=>
   have e3:g=[]:=List.length_eq_zero_iff.1 (by omega)
   subst e3
   unfold DY
   (repeat' first|refine gt ?_|refine sa fun xe hxe=>?_|refine sb (fun hq=>?_) fun hq=>?_|exact True.intro)
   exact⟨rfl,rfl⟩
  |succ i=>
   have hst:DY c g (i+1)=⟨[(0,.lst (.int .i64) c),(1,.lst .vtx g),(6,.ptr 4 0),(15,.lst .vtx g),(16,.int .i64 g.length),(17,.int .i64 ((i+1:Nat):Int))],gR c (bM g),6⟩:=by rw[DY,List.take_of_length_le (by omega)]
   rw[hst]
   cases g with
   |nil=>simp at hi
   |cons w g=>
    (repeat' first|refine gt ?_|refine sa fun xe hxe=>?_|refine sb (fun hq=>?_) fun hq=>?_|exact True.intro)
    exact⟨rfl,rfl⟩
theorem HG {c:List Int}{g:List Vtx}(h:GraOK c g)(r:Int):mY (bM g) r c.length=dJ g r:=by
 rw[←s6 h r]
 unfold mY s5
 congr 1
 refine List.filter_congr fun a ha=>?_
 have h7:=(ao.1 h.com).2
 have ha:=List.mem_range.1 ha
 cases h1:gM r 0 30
 ·rw[Bool.false_and]
  symm
  rw[Bool.eq_false_iff]
  intro h2
  obtain⟨v,hv,hr,-⟩:=aY.1 h2
  have:=(bc (h.vtx v hv)).1
  rw[hr] at this
  rw[ar.2 this] at h1
  cases h1
 ·rw[Bool.true_and]
  exact(rI (fun u hu=>bW h.com (h.vtx u hu)) (ar.1 h1) (by omega)).1
theorem jo {g:List Vtx}:∀{i:Nat} {v:Vtx},g[i]?=some v→∃p,(bM g).nodes[i]?=some ⟨v,i,p⟩:=by
 induction g using ci with
 |h0=>intro i v h;simp at h
 |h l x ih=>
  intro i v h
  rw[jp]
  have hl:=(dD l).1
  rcases Nat.lt_or_ge i l.length with hlt|hge
  ·rw[List.getElem?_append_left hlt] at h
   obtain⟨p,hp⟩:=ih h
   refine⟨p,?_⟩
   simp only[bu]
   rw[List.getElem?_append_left (by omega)]
   exact hp
  ·have he:i=l.length:=by have:=(List.getElem?_eq_some_iff.1 h).1;simp at this;omega
   subst he
   rw[List.getElem?_append_right (Nat.le_refl _)] at h
   simp at h
   subst h
   simp only[bu]
   rw[←hl,List.getElem?_append_right (Nat.le_refl _)]
   simp
theorem Ib (c l:List Int):af Tryz.prog 138 [.lst (.int .i64) c,.lst (.int .i64) l] [] (.bool (leaS c l)) []:=by
 refine aa al Tryz.func138 rfl rfl false 0 4 rfl rfl rfl rfl fun K hK hb1 hb2=>?_;simp only[ae,enc,Nat.reduceAdd]
 simp[ah,V.toD,bnd,ag,D.cells] at hb1
 (repeat' first|refine st ?_|refine sa fun xe hxe=>?_|refine sb (fun hq=>?_) fun hq=>?_|exact True.intro)
 refine ab hK [] [0,1,5] (fun i:Nat=>⟨[(0,.lst (.int .i64) c),(1,.lst (.int .i64) l),(5,.int .i64 i)],[],4⟩) (fun i=>i≤l.length∧∀j,j<i→bY c (l.getD j 0)=true) (fun i=>l.length-i) 0 ⟨by simp,by simp⟩ rfl ?_
 rintro i ⟨hi,hall⟩
 by_cases hlt:i<l.length
 ·have hxe:l[i]?=some l[i]:=List.getElem?_eq_getElem hlt
  have hno:bY c l[i]=false→leaS c l=false:=fun h=>by
   unfold leaS
   rw[cy hlt (by rw[aU hxe];exact h),Bool.false_and]
  have hys:=bt hall (p:=fun j=>bY c (l.getD j 0)) (i:=i)
  simp only[aU hxe] at hys
  generalize l[i]=m at *
  (repeat' first|refine st ?_|refine sa fun xe hxe=>?_|refine sb (fun hq=>?_) fun hq=>?_|refine cr (kG _ _ _) ?_|exact True.intro)
  ·rw[hno hq]
   exact⟨rfl,rfl⟩
  ·exact⟨i+1,⟨by omega,hys hq⟩,by omega,rfl⟩
 ·(repeat' first|refine st ?_|refine sa fun xe hxe=>?_|refine sb (fun hq=>?_) fun hq=>?_|exact True.intro)
  unfold leaS
  rw[bO (fun j hj=>hall j (by omega)),Bool.true_and]
  exact⟨rfl,rfl⟩
theorem GF (c l:List Int):af Tryz.prog 123 [.lst (.int .i64) c,.lst (.int .i64) l] [] (.bool (comV c && leaS c l)) []:=by
 refine aa al Tryz.func123 rfl rfl false 0 4 rfl rfl rfl rfl fun K hK hb1 hb2=>?_;simp only[ae,enc,Nat.reduceAdd]
 (repeat' first|refine st ?_|refine sa fun xe hxe=>?_|refine sb (fun hq=>?_) fun hq=>?_|refine cr (ou _) ?_|refine cr (Ib _ _) ?_|exact True.intro)
 all_goals (refine⟨?_,rfl⟩;simp_all)
theorem nG (c l:List Int):af Tryz.prog 101 [.lst (.int .i64) c,.lst (.int .i64) l] [] (.bool (comV c && leaS c l)) []:=by
 refine aa al Tryz.func101 rfl rfl false 0 4 rfl rfl rfl rfl fun K hK hb1 hb2=>?_;simp only[ae,enc,Nat.reduceAdd]
 simp[ah,V.toD,bnd,ag,D.cells] at hb1
 cases hc:comV c
 ·(repeat' first|refine st ?_|refine sa fun xe hxe=>?_|refine sb (fun hq=>?_) fun hq=>?_|refine cr (lr _) ?_|exact True.intro)
  exact⟨rfl,rfl⟩
 rw[Bool.true_and]
 by_cases h15:15<(l.length:Int)
 ·(repeat' first|refine st ?_|refine sa fun xe hxe=>?_|refine sb (fun hq=>?_) fun hq=>?_|refine cr (lr _) ?_|exact True.intro)
  unfold leaS
  rw[decide_eq_false (by omega),Bool.and_false]
  exact⟨rfl,rfl⟩
 (repeat' first|refine st ?_|refine sa fun xe hxe=>?_|refine sb (fun hq=>?_) fun hq=>?_|refine cr (lr _) ?_|exact True.intro)
 refine ab hK [] [0,15,16,17] (fun i:Nat=>⟨[(0,.lst (.int .i64) c),(15,.lst (.int .i64) l),(16,.int .i64 l.length),(17,.int .i64 i)],[],4⟩) (fun i=>i≤l.length∧∀j,j<i→bY c (l.getD j 0)=true) (fun i=>l.length-i) 0 ⟨by simp,by simp⟩ rfl ?_
 rintro i ⟨hi,hall⟩
 by_cases hlt:i<l.length
 ·have hxe:l[i]?=some l[i]:=List.getElem?_eq_getElem hlt
  have hno:bY c l[i]=false→leaS c l=false:=fun h=>by
   unfold leaS
   rw[cy hlt (by rw[aU hxe];exact h),Bool.false_and]
  have hys:=bt hall (p:=fun j=>bY c (l.getD j 0)) (i:=i)
  simp only[aU hxe] at hys
  generalize l[i]=m at *
  (repeat' first|refine st ?_|refine sa fun xe hxe=>?_|refine sb (fun hq=>?_) fun hq=>?_|refine cr (dN _ _) ?_|exact True.intro)
  ·rw[hno hq]
   exact⟨rfl,rfl⟩
  ·exact⟨i+1,⟨by omega,hys hq⟩,by omega,rfl⟩
 ·(repeat' first|refine st ?_|refine sa fun xe hxe=>?_|refine sb (fun hq=>?_) fun hq=>?_|exact True.intro)
  unfold leaS
  rw[bO (fun j hj=>hall j (by omega)),Bool.true_and,decide_eq_true (by omega)]
  exact⟨rfl,rfl⟩
theorem AY (c:List Int)(hc:comV c=true):af Tryz.prog 154 [.lst (.int .i64) c] [] (.int .i64 (pD c)) []:=by
 have h1:=en hc
 have h2:=kF hc
 have h3:(jf c-1).tdiv 3=pD c:=rfl
 refine aa al Tryz.func154 rfl rfl false 0 4 rfl rfl rfl rfl fun K hK hb1 hb2=>?_;simp only[ae,enc,Nat.reduceAdd]
 (repeat' first|refine st ?_|refine sa fun xe hxe=>?_|refine sb (fun hq=>?_) fun hq=>?_|refine cr (vR _ hc) ?_|exact True.intro)
 exact⟨rfl,rfl⟩
theorem DQ (c:List Int)(b:Int)(hc:comV c=true):af Tryz.prog 102 [.lst (.int .i64) c,.int .i64 b] [] (.bool (badS c b)) []:=by
 refine aa al Tryz.func102 rfl rfl false 0 4 rfl rfl rfl rfl fun K hK hb1 hb2=>?_;simp only[ae,enc,Nat.reduceAdd]
 clear hb1 hb2
 cases h0:b== -1
 ·have hne:b≠-1:=by simpa using h0
  cases h1:bY c b
  ·have:badS c b=false:=by
    rw[Bool.eq_false_iff]
    intro h
    rcases dy.1 h with h|h
    ·exact hne h
    ·rw[bY,ar.2 (by omega)] at h1;cases h1
   rw[this]
   (repeat' first|refine st ?_|refine sa fun xe hxe=>?_|refine sb (fun hq=>?_) fun hq=>?_|refine cr (dN _ _) ?_|exact True.intro)
   exact⟨rfl,rfl⟩
  ·have hm:=ar.1 h1
   have hx2:c[b.toNat]?=some (c.getD b.toNat 0):=by rw[List.getD_eq_getElem?_getD,List.getElem?_eq_getElem (show b.toNat<c.length by omega)];rfl
   have hb:badS c b=decide (c.getD b.toNat 0≤pD c):=by
    rw[Bool.eq_iff_iff,dy,decide_eq_true_eq]
    constructor
    ·rintro(h|⟨-,h⟩)
     ·exact absurd h hne
     ·exact h
    ·intro h;exact .inr ⟨by omega,h⟩
   rw[hb]
   generalize c.getD b.toNat 0=x at *
   (repeat' first|refine st ?_|refine sa fun xe hxe=>?_|refine sb (fun hq=>?_) fun hq=>?_|refine cr (dN _ _) ?_|refine cr (AY _ hc) ?_|exact True.intro)
   exact⟨rfl,rfl⟩
 ·have hb:b= -1:=by simpa using h0
  have:badS c b=true:=dy.2 (.inl hb)
  rw[this]
  (repeat' first|refine st ?_|refine sa fun xe hxe=>?_|refine sb (fun hq=>?_) fun hq=>?_|refine cr (dN _ _) ?_|refine cr (AY _ hc) ?_|exact True.intro)
  all_goals exact⟨rfl,rfl⟩
abbrev pN (p:Ppl):V:=.agg [.int .i64 p.v.round,.int .i64 p.v.author,.lst (.int .i64) p.v.parents,.int .i64 p.v.digest,.lst (.int .i64) p.members]
theorem rM (c:List Int)(p:Ppl)(hc:comV c=true)(hm:cd c p.members=true):af Tryz.prog 161 [pN p,.lst (.int .i64) c] [] (.bool (don c p)) []:=by
 have hw:pR c p.members=cR c p.members:=by simp[pR,hc,hm]
 have hwc:=nI c p.members
 have hqc:=rN c
 rw[hw] at hwc
 rw[hc] at hqc
 refine aa al Tryz.func161 rfl rfl false 0 4 rfl rfl rfl rfl fun K hK hb1 hb2=>?_;simp only[ae,enc,Nat.reduceAdd]
 (repeat' first|refine st ?_|refine sa fun xe hxe=>?_|refine sb (fun hq=>?_) fun hq=>?_|refine cr (hwc) ?_|refine cr (hqc) ?_|exact True.intro)
 exact⟨rfl,rfl⟩
theorem oN (v u:Vtx):af Tryz.prog 171 [bA v,bA u] [] (.bool (slt v u)) []:=by
 refine aa al Tryz.func171 rfl rfl false 0 4 rfl rfl rfl rfl fun K hK hb1 hb2=>?_;simp only[ae,enc,Nat.reduceAdd]
 (repeat' first|refine st ?_|refine sa fun xe hxe=>?_|refine sb (fun hq=>?_) fun hq=>?_|exact True.intro)
 all_goals (refine⟨?_,rfl⟩;simp_all[slt])
theorem Hc (a b:List Int):af Tryz.prog 191 [.lst (.int .i64) a,.lst (.int .i64) b] [] (.bool (a==b)) []:=by
 refine aa al Tryz.func191 rfl rfl false 0 4 rfl rfl rfl rfl fun K hK hb1 hb2=>?_;simp only[ae,enc,Nat.reduceAdd]
 simp[ah,V.toD,bnd,ag,D.cells] at hb1
 by_cases hl:a.length=b.length
 ·(repeat' first|refine st ?_|refine sa fun xe hxe=>?_|refine sb (fun hq=>?_) fun hq=>?_|exact True.intro)
  refine ab hK [] [0,1,11,12,13] (fun i:Nat=>⟨[(0,.lst (.int .i64) a),(1,.lst (.int .i64) b),(11,.lst (.int .i64) a),(12,.int .i64 a.length),(13,.int .i64 i)],[],4⟩) (fun i=>i≤a.length∧a.take i=b.take i) (fun i=>a.length-i) 0 ⟨by simp,by simp⟩ rfl ?_
  rintro i ⟨hi,hall⟩
  by_cases hlt:i<a.length
  ·obtain⟨x,hx⟩:∃x,a[i]?=some x:=⟨_,List.getElem?_eq_getElem hlt⟩
   obtain⟨y,hy⟩:∃y,b[i]?=some y:=⟨_,List.getElem?_eq_getElem (by omega)⟩
   (repeat' first|refine st ?_|refine sa fun xe hxe=>?_|refine sb (fun hq=>?_) fun hq=>?_|exact True.intro)
   ·have hne:¬x=y:=hq
    have:(a==b)=false:=by rw[beq_eq_false_iff_ne];rintro rfl;rw[hx] at hy;exact hne (Option.some.inj hy)
    rw[this]
    exact⟨rfl,rfl⟩
   ·subst hq
    exact⟨i+1,⟨by omega,by rw[List.take_add_one,List.take_add_one,hall,hx,hy]⟩,by omega,rfl⟩
  ·(repeat' first|refine st ?_|refine sa fun xe hxe=>?_|refine sb (fun hq=>?_) fun hq=>?_|exact True.intro)
   have hab:a=b:=by rwa [List.take_of_length_le (by omega),List.take_of_length_le (by omega)] at hall
   rw[hab,beq_self_eq_true]
   exact⟨rfl,rfl⟩
 ·(repeat' first|refine st ?_|refine sa fun xe hxe=>?_|refine sb (fun hq=>?_) fun hq=>?_|exact True.intro)
  have:(a==b)=false:=by rw[beq_eq_false_iff_ne];rintro rfl;exact hl rfl
  rw[this]
  exact⟨rfl,rfl⟩
theorem kI (v u:Vtx):af Tryz.prog 160 [bA v,bA u] [] (.bool (gL v u)) []:=by
 refine aa al Tryz.func160 rfl rfl false 0 4 rfl rfl rfl rfl fun K hK hb1 hb2=>?_;simp only[ae,enc,Nat.reduceAdd]
 (repeat' first|refine st ?_|refine sa fun xe hxe=>?_|refine sb (fun hq=>?_) fun hq=>?_|refine cr (Hc _ _) ?_|exact True.intro)
 all_goals (refine⟨?_,rfl⟩;simp_all[gL])
theorem EJ (l:List Int)(n:Int):af Tryz.prog 200 [.lst (.int .i64) l,.int .i64 n] [] (.int .i64 (match l.findIdx? (· ==n) with|some i=>(i:Int)|none=>-1)) []:=by
 refine aa al Tryz.func200 rfl rfl false 0 4 rfl rfl rfl rfl fun K hK hb1 hb2=>?_;simp only[ae,enc,Nat.reduceAdd]
 simp[ah,V.toD,bnd,ag,D.cells] at hb1
 (repeat' first|refine st ?_|refine sa fun xe hxe=>?_|refine sb (fun hq=>?_) fun hq=>?_|exact True.intro)
 refine ab hK [] [0,1,7,8] (fun i:Nat=>⟨[(0,.lst (.int .i64) l),(1,.int .i64 n),(7,.int .i64 l.length),(8,.int .i64 i)],[],4⟩) (fun i=>i≤l.length∧∀y∈l.take i,(y==n)=false) (fun i=>l.length-i) 0 ⟨by simp,by simp⟩ rfl ?_
 rintro i ⟨hi,hall⟩
 by_cases hlt:i<l.length
 ·have hxe:l[i]?=some l[i]:=List.getElem?_eq_getElem hlt
  have h3:l.take (i+1)=l.take i++[l[i]]:=List.take_succ_eq_append_getElem hlt
  have h4:=ny (l:=l) (p:=(· ==n)) hxe hall
  generalize l[i]=y at *
  by_cases he:n=y
  ·have hb:(n==y)=true:=by simpa using he
   (repeat' first|refine st ?_|refine sa fun xe hxe=>?_|refine sb (fun hq=>?_) fun hq=>?_|exact True.intro)
   rw[h4 (by simpa using he.symm)]
   exact⟨rfl,rfl⟩
  ·have hb:(n==y)=false:=by simpa using he
   (repeat' first|refine st ?_|refine sa fun xe hxe=>?_|refine sb (fun hq=>?_) fun hq=>?_|exact True.intro)
   exact⟨i+1,⟨by omega,by rw[h3];exact aP hall (by simpa using fun h=>he h.symm)⟩,by omega,rfl⟩
 ·(repeat' first|refine st ?_|refine sa fun xe hxe=>?_|refine sb (fun hq=>?_) fun hq=>?_|exact True.intro)
  rw[List.take_of_length_le (by omega)] at hall
  rw[List.findIdx?_eq_none_iff.2 hall]
  exact⟨rfl,rfl⟩
theorem gq (l:List Int)(n:Int):af Tryz.prog 172 [.lst (.int .i64) l,.int .i64 n] [] (.bool (l.contains n)) []:=by
 refine aa al Tryz.func172 rfl rfl false 0 4 rfl rfl rfl rfl fun K hK hb1 hb2=>?_;simp only[ae,enc,Nat.reduceAdd]
 (repeat' first|refine st ?_|refine sa fun xe hxe=>?_|refine sb (fun hq=>?_) fun hq=>?_|refine cr (EJ _ _) ?_|exact True.intro)
 refine⟨?_,rfl⟩
 have:l.contains n=(l.findIdx? (· ==n)).isSome:=by
  rw[List.findIdx?_isSome,Bool.eq_iff_iff,List.contains_iff_mem,List.any_eq_true]
  constructor
  ·intro h;exact⟨n,h,by simp⟩
  ·rintro⟨x,h1,h2⟩;rw[beq_iff_eq] at h2;exact h2▸h1
 rw[this]
 cases l.findIdx? (· ==n) with
 |none=>rfl
 |some i=>simp
theorem DH (p q:Ppl)(bad:Int):af Tryz.prog 156 [pN p,pN q,.int .i64 bad] [] (.bool (fitP bad p q)) []:=by
 refine aa al Tryz.func156 rfl rfl false 0 4 rfl rfl rfl rfl fun K hK hb1 hb2=>?_;simp only[ae,enc,Nat.reduceAdd]
 simp[ah,V.toD,bnd,ag,D.cells] at hb1
 cases h1:slt p.v q.v
 ·have:fitP bad p q=true:=by simp[fitP,h1]
  rw[this]
  (repeat' first|refine st ?_|refine sa fun xe hxe=>?_|refine sb (fun hq=>?_) fun hq=>?_|refine cr (oN _ _) ?_|refine cr (kI _ _) ?_|refine cr (gq _ _) ?_|exact True.intro)
  exact⟨rfl,rfl⟩
 cases h2:gL p.v q.v
 ·cases h3:p.v.author==bad
  ·have:fitP bad p q=false:=by simp[fitP,h1,h2,h3]
   rw[this]
   have hn:(p.v.author !=bad)=true:=by rw[bne,h3];rfl
   (repeat' first|refine st ?_|refine sa fun xe hxe=>?_|refine sb (fun hq=>?_) fun hq=>?_|refine cr (oN _ _) ?_|refine cr (kI _ _) ?_|refine cr (gq _ _) ?_|exact True.intro)
   exact⟨rfl,rfl⟩
  ·have hf:fitP bad p q= !jb bad p.members q.members:=by simp[fitP,h1,h2,h3]
   rw[hf]
   have hn:(p.v.author !=bad)=false:=by rw[bne,h3];rfl
   (repeat' first|refine st ?_|refine sa fun xe hxe=>?_|refine sb (fun hq=>?_) fun hq=>?_|refine cr (oN _ _) ?_|refine cr (kI _ _) ?_|refine cr (gq _ _) ?_|exact True.intro)
   refine ab hK [] [2,4,28,29,30] (fun i:Nat=>⟨[(2,.int .i64 bad),(4,.ptr 4 0),(28,.lst (.int .i64) p.members),(29,.int .i64 p.members.length),(30,.int .i64 i)],[(4,.var 50 (pN q).cells)],5⟩) (fun i=>i≤p.members.length∧∀m∈p.members.take i,(m !=bad && q.members.contains m)=false) (fun i=>p.members.length-i) 0 ⟨by simp,by simp⟩ rfl ?_
   rintro i ⟨hi,hall⟩
   by_cases hlt:i<p.members.length
   ·have hxe:p.members[i]?=some p.members[i]:=List.getElem?_eq_getElem hlt
    have hsn:p.members.take (i+1)=p.members.take i++[p.members[i]]:=List.take_succ_eq_append_getElem hlt
    have hmm:p.members[i]∈p.members:=List.getElem_mem hlt
    generalize p.members[i]=m at *
    have hyes:(m !=bad && q.members.contains m)=true→jb bad p.members q.members=true:=fun h=>List.any_eq_true.2 ⟨m,hmm,h⟩
    cases h4:m !=bad
    ·(repeat' first|refine st ?_|refine sa fun xe hxe=>?_|refine sb (fun hq=>?_) fun hq=>?_|refine cr (gq _ _) ?_|exact True.intro)
     exact⟨i+1,⟨by omega,by rw[hsn];exact aP hall (by rw[h4];rfl)⟩,by omega,rfl⟩
    ·cases h5:q.members.contains m
     ·have hc5:=gq q.members m
      rw[h5] at hc5
      (repeat' first|refine st ?_|refine sa fun xe hxe=>?_|refine sb (fun hq=>?_) fun hq=>?_|refine cr (hc5) ?_|exact True.intro)
      exact⟨i+1,⟨by omega,by rw[hsn];exact aP hall (by rw[h5,Bool.and_false])⟩,by omega,rfl⟩
     ·have hc5:=gq q.members m
      rw[h5] at hc5
      (repeat' first|refine st ?_|refine sa fun xe hxe=>?_|refine sb (fun hq=>?_) fun hq=>?_|refine cr (hc5) ?_|exact True.intro)
      rw[hyes (by rw[h4,h5];rfl)]
      exact⟨rfl,rfl⟩
   ·(repeat' first|refine st ?_|refine sa fun xe hxe=>?_|refine sb (fun hq=>?_) fun hq=>?_|exact True.intro)
    rw[List.take_of_length_le (by omega)] at hall
    have:jb bad p.members q.members=false:=by
     rw[Bool.eq_false_iff]
     intro h
     obtain⟨m,hm,h⟩:=List.any_eq_true.1 h
     rw[hall m hm] at h
     cases h
    rw[this]
    exact⟨rfl,rfl⟩
 ·have:fitP bad p q=false:=by simp[fitP,h1,h2]
  rw[this]
  (repeat' first|refine st ?_|refine sa fun xe hxe=>?_|refine sb (fun hq=>?_) fun hq=>?_|refine cr (oN _ _) ?_|refine cr (kI _ _) ?_|refine cr (gq _ _) ?_|exact True.intro)
  exact⟨rfl,rfl⟩
abbrev ap (w:Wrl):V:=.agg [.lst (.int .i64) w.com,.lst (.int .i64) w.lead,.int .i64 w.bad,.lst (.lst .vtx) w.views,.lst .ppl w.props]
theorem BC (c:List Int)(p:Ppl)(hc:comV c=true):(comV c && vtxS c p.v)=vtxS c p.v∧(comV c && cd c p.members)=cd c p.members:=by simp[hc]
theorem DP (w:Wrl)(hc:comV w.com=true):af Tryz.prog 103 [ap w] [] (.bool (eO w.com w.bad w.props)) []:=by
 refine aa al Tryz.func103 rfl rfl false 0 4 rfl rfl rfl rfl fun K hK hb1 hb2=>?_;simp only[ae,enc,Nat.reduceAdd]
 simp[ah,V.toD,bnd,ag,D.cells] at hb1
 by_cases h220:220<(w.props.length:Int)
 ·(repeat' first|refine st ?_|refine sa fun xe hxe=>?_|refine sb (fun hq=>?_) fun hq=>?_|exact True.intro)
  unfold eO
  rw[decide_eq_false (by omega),Bool.and_false]
  exact⟨rfl,rfl⟩
 have hps:eO w.com w.bad w.props=cX w.props.length (eB w.com w.bad w.props):=by
  unfold eO
  rw[decide_eq_true (by omega),Bool.and_true]
 rw[hps]
 (repeat' first|refine st ?_|refine sa fun xe hxe=>?_|refine sb (fun hq=>?_) fun hq=>?_|exact True.intro)
 refine ab hK [] [1,12,13,14] (fun i:Nat=>⟨[(1,.ptr 4 0),(12,.lst .ppl w.props),(13,.int .i64 w.props.length),(14,.int .i64 i)],[(4,.var 33 (ap w).cells)],5⟩) (fun i=>i≤w.props.length∧∀j,j<i→eB w.com w.bad w.props j=true) (fun i=>w.props.length-i) 0 ⟨by simp,by simp⟩ rfl ?_
 rintro i ⟨hi,hall⟩
 by_cases hlt:i<w.props.length
 ·have hxe:w.props[i]?=some w.props[i]:=List.getElem?_eq_getElem hlt
  have hno:eB w.com w.bad w.props i=false→V.bool false=V.bool (cX w.props.length (eB w.com w.bad w.props))∧([]:VH)=[]:=fun h=>⟨by rw[cy hlt h],rfl⟩
  have hA:eB w.com w.bad w.props i=(oneP w.com w.props[i] && cX i (fun k=>fitP w.bad w.props[i] (w.props.getD k p0))):=by simp only[eB,aU hxe]
  generalize w.props[i]=p at *
  have hvc:=gA w.com p.v
  have hmc:=nH w.com p.members
  rw[(BC _ p hc).1] at hvc
  rw[(BC _ p hc).2] at hmc
  cases h1:vtxS w.com p.v
  ·(repeat' first|refine st ?_|refine sa fun xe hxe=>?_|refine sb (fun hq=>?_) fun hq=>?_|refine cr (hvc) ?_|refine cr (hmc) ?_|exact True.intro)
   exact hno (by simp[hA,oneP,h1])
  cases h2:cd w.com p.members
  ·(repeat' first|refine st ?_|refine sa fun xe hxe=>?_|refine sb (fun hq=>?_) fun hq=>?_|refine cr (hvc) ?_|refine cr (hmc) ?_|exact True.intro)
   exact hno (by simp[hA,oneP,h2])
  have e1:fF w.props none (some (.int .i64 i)) 0 (i:Int).toNat=w.props.take i:=by simp[fF]
  have hl1:(w.props.take i).length=i:=by rw[List.length_take];omega
  (repeat' first|refine st ?_|refine sa fun xe hxe=>?_|refine sb (fun hq=>?_) fun hq=>?_|refine cr (hvc) ?_|refine cr (hmc) ?_|exact True.intro)
  refine ab hK [] [1,4,12,13,14,36,37,38] (fun k:Nat=>⟨[(1,.ptr 4 0),(4,.ptr 5 0),(12,.lst .ppl w.props),(13,.int .i64 w.props.length),(14,.int .i64 i),(36,.lst .ppl (w.props.take i)),(37,.int .i64 i),(38,.int .i64 k)],[(4,.var 33 (ap w).cells),(5,.var 50 (pN p).cells)],6⟩) (fun k=>k≤i∧∀j,j<k→fitP w.bad p (w.props.getD j p0)=true) (fun k=>i-k) 0 ⟨by simp,by simp⟩ (by simp only[e1,hl1];rfl) ?_
  rintro k ⟨hk,hkall⟩
  by_cases hkl:k<i
  ·have hxk:(w.props.take i)[k]?=some (w.props.getD k p0):=by rw[List.getElem?_take,if_pos hkl,List.getD_eq_getElem?_getD,List.getElem?_eq_getElem (show k<w.props.length by omega)];rfl
   have hyes:=bt hkall (p:=fun j=>fitP w.bad p (w.props.getD j p0)) (i:=k)
   have hnk:fitP w.bad p (w.props.getD k p0)=false→V.bool false=V.bool (cX w.props.length (eB w.com w.bad w.props))∧([]:VH)=[]:=fun h=>hno (by rw[hA,cy hkl h,Bool.and_false])
   generalize w.props.getD k p0=q at *
   have hcq:=DH q p w.bad
   rw[ml] at hcq
   generalize w.props.take i=pt at *
   cases h3:fitP w.bad p q
   ·rw[h3] at hcq
    (repeat' first|refine st ?_|refine sa fun xe hxe=>?_|refine sb (fun hq=>?_) fun hq=>?_|refine cr (hcq) ?_|exact True.intro)
    exact hnk h3
   ·rw[h3] at hcq
    (repeat' first|refine st ?_|refine sa fun xe hxe=>?_|refine sb (fun hq=>?_) fun hq=>?_|refine cr (hcq) ?_|exact True.intro)
    exact⟨k+1,⟨by omega,hyes h3⟩,by omega,rfl⟩
  ·have hAt:eB w.com w.bad w.props i=true:=by
    rw[hA,bO (fun j hj=>hkall j (by omega)),oneP,h1,h2]
    rfl
   (repeat' first|refine st ?_|refine sa fun xe hxe=>?_|refine sb (fun hq=>?_) fun hq=>?_|exact True.intro)
   exact⟨i+1,⟨by omega,bt hall hAt⟩,by omega,rfl⟩
 ·(repeat' first|refine st ?_|refine sa fun xe hxe=>?_|refine sb (fun hq=>?_) fun hq=>?_|exact True.intro)
  rw[bO (fun j hj=>hall j (by omega))]
  exact⟨rfl,rfl⟩
end Go.Proofs.YthmfppknagbkeaaGreatDoor.Am
namespace Go.Proofs.YthmfppknagbkeaaGreatDoor.Am
open Go
def az (g:List Vtx):List (Option Vtx):=g.foldl (fun t v=>t.set (v.round*7+v.author).toNat (some v)) (List.replicate 217 none)
theorem fC (g:List Vtx)(v:Vtx):az (g++[v])=(az g).set (v.round*7+v.author).toNat (some v):=by simp[az]
theorem dh (g:List Vtx):(az g).length=217:=by
 induction g using ci with
 |h0=>exact List.length_replicate
 |h l x ih=>rw[fC,List.length_set,ih]
theorem nZ {g:List Vtx}(hg:∀v∈g,fK v){r a:Int}(hr:0≤r∧r≤30)(ha:0≤a∧a≤6):((az g).getD (r*7+a).toNat none).isSome=cA g r a:=by
 induction g using ci with
 |h0=>
  have:(az []).getD (r*7+a).toNat none=none:=by
   simp only[az,List.foldl_nil,List.getD_eq_getElem?_getD,List.getElem?_replicate]
   split<;>rfl
  rw[this]
  rfl
 |h l x ih=>
  have ih:=ih fun v hv=>hg v (List.mem_append.2 (.inl hv))
  obtain⟨⟨x1,x2⟩,x3,x4⟩:=hg x (by simp)
  have hl:=dh l
  have hh:cA (l++[x]) r a=(cA l r a||dO r a x):=by simp[cA]
  rw[fC,hh,List.getD_eq_getElem?_getD,List.getElem?_set]
  by_cases he:x.round=r∧x.author=a
  ·have:dO r a x=true:=by simp[dO,he.1,he.2]
   rw[this,Bool.or_true,if_pos (by rw[he.1,he.2]),if_pos (by omega)]
   rfl
  ·have:dO r a x=false:=by
    rw[Bool.eq_false_iff]
    intro h
    simp only[dO,Bool.and_eq_true,beq_iff_eq,decide_eq_true_eq] at h
    exact he (by omega)
   rw[this,Bool.or_false,if_neg (by omega),←List.getD_eq_getElem?_getD,ih]
def nh (tab:List (Option Vtx))(v:Vtx):Bool:=v.parents.all fun p=>(tab.getD ((v.round-1)*7+p).toNat none).isSome
theorem oe {α:Type}{l:List α}{p q:α→Bool}(h:∀x∈l,p x=q x):l.all p=l.all q:=by
 rw[Bool.eq_iff_iff,List.all_eq_true,List.all_eq_true]
 exact⟨fun h2 x hx=>by rw[←h x hx];exact h2 x hx,fun h2 x hx=>by rw[h x hx];exact h2 x hx⟩
theorem yh {g:List Vtx}(hg:∀v∈g,fK v){v:Vtx}(hr:v.parents≠[]→1≤v.round∧v.round≤31)(hp:∀p∈v.parents,0≤p∧p≤6):nh (az g) v=parOK g v:=
 oe fun p h=>by
  have:=hr (List.ne_nil_of_mem h)
  exact nZ hg (by omega) (hp p h)
def Hy (b:Int)(tabs:List (List (Option Vtx)))(v:Vtx)(ms:List Int):Bool:=ms.all fun m=>m==b||nh (tabs.getD m.toNat []) v
def vT (b:Int)(tabs:List (List (Option Vtx)))(ps:List Ppl):Bool:=ps.all fun p=>Hy b tabs p.v (p.v.author::p.members)
def Iz (n:Nat)(p:Ppl):Prop:=(∀m∈p.v.author::p.members,0≤m∧m<n)∧(p.v.parents≠[]→1≤p.v.round∧p.v.round≤31)∧(∀q∈p.v.parents,0≤q∧q≤6)∧p.members.length≤1000000∧p.v.parents.length≤1000000
theorem GB {b:Int}{gs:List (List Vtx)}{ps:List Ppl}(hg:∀g∈gs,∀v∈g,fK v)(hp:∀p∈ps,Iz gs.length p):vT b (gs.map az) ps=my b ps gs:=
 oe fun p h=>by
  obtain⟨p1,p2,p3,-⟩:=hp p h
  have key:∀m:Nat,m<gs.length→nh ((gs.map az).getD m []) p.v=parOK (gs.getD m []) p.v:=fun m hm=>by
   have e:(gs.map az).getD m []=az (gs.getD m []):=by simp only[List.getD_eq_getElem?_getD,List.getElem?_map,List.getElem?_eq_getElem hm,Option.map_some,Option.getD_some]
   rw[e]
   refine yh (hg _ ?_) p2 p3
   rw[List.getD_eq_getElem?_getD,List.getElem?_eq_getElem hm]
   exact List.getElem_mem hm
  rw[Bool.eq_iff_iff,aM]
  simp only[Hy,List.all_eq_true,Bool.or_eq_true,beq_iff_eq]
  constructor
  ·intro h1 m hm
   simp only[gB,Bool.or_eq_true,Bool.not_eq_true',Bool.and_eq_false_iff]
   by_cases hb:(m:Int)=b
   ·exact .inl (.inl (by simp[hb]))
   by_cases hv:(m:Int)=p.v.author∨(m:Int)∈p.members
   ·rcases h1 (m:Int) (List.mem_cons.2 hv) with h2|h2
    ·exact absurd h2 hb
    ·rw[Int.toNat_natCast,key m hm] at h2
     exact .inr h2
   ·refine .inl (.inr ?_)
    rw[Bool.eq_false_iff]
    intro h2
    simp only[Bool.or_eq_true,beq_iff_eq,List.contains_iff_mem] at h2
    exact hv h2
  ·intro h1 m hm
   have hr:=p1 m hm
   have h2:=h1 m.toNat (by omega)
   simp only[gB,Bool.or_eq_true,Bool.not_eq_true',Bool.and_eq_false_iff,Int.toNat_of_nonneg hr.1] at h2
   rcases h2 with(h2|h2)|h2
   ·exact .inl (by simpa using h2)
   ·exfalso
    rw[Bool.eq_false_iff] at h2
    apply h2
    simp only[Bool.or_eq_true,beq_iff_eq,List.contains_iff_mem]
    exact List.mem_cons.1 hm
   ·rw[key m.toNat (by omega)]
    exact .inr h2
def gJ (tab:List (Option Vtx)):List Vtx:=tab.filterMap id
theorem nz:∀{l:List (Option Vtx)},(∀x∈l,x=none)→l.filterMap id=[]
 |[],_=>rfl
 |x::l,h=>by
  rw[h x (List.mem_cons_self ..),List.filterMap_cons_none rfl]
  exact nz fun y hy=>h y (List.mem_cons_of_mem _ hy)
theorem ry (l:List (Option Vtx))(y:Vtx):(some y::l).filterMap id=y::l.filterMap id:=List.filterMap_cons_some (f:=id) rfl
theorem Aw:∀{l:List (Option Vtx)} {k:Nat} {v:Vtx},k<l.length→(∀j,k≤j→l.getD j none=none)→(l.set k (some v)).filterMap id=l.filterMap id++[v]
 |[],_,_,h,_=>absurd h (Nat.not_lt_zero _)
 |x::l,0,v,_,h=>by
  have hn:∀y∈x::l,y=none:=fun y hy=>by
   obtain⟨j,hj,rfl⟩:=cC (d:=none) hy
   exact h j (Nat.zero_le _)
  rw[nz hn,List.set_cons_zero,ry,nz fun y hy=>hn y (List.mem_cons_of_mem _ hy)]
  rfl
 |x::l,k+1,v,hk,h=>by
  have ih:=Aw (l:=l) (k:=k) (v:=v) (by simpa using hk) fun j hj=>by
   have:=h (j+1) (by omega)
   simpa using this
  rw[List.set_cons_succ]
  cases x with
  |none=>rw[List.filterMap_cons_none rfl,List.filterMap_cons_none rfl,ih]
  |some y=>rw[ry,ry,ih];rfl
theorem za {g:List Vtx}{j:Nat}(h:∀v∈g,(v.round*7+v.author).toNat≠j):(az g).getD j none=none:=by
 induction g using ci with
 |h0=>
  simp only[az,List.foldl_nil,List.getD_eq_getElem?_getD,List.getElem?_replicate]
  split<;>rfl
 |h l x ih=>
  rw[fC,List.getD_eq_getElem?_getD,List.getElem?_set_ne (h x (by simp)),←List.getD_eq_getElem?_getD]
  exact ih fun v hv=>h v (List.mem_append.2 (.inl hv))
theorem EX {g:List Vtx}(hg:∀v∈g,fK v)(hs:g.Pairwise fun a b=>bef a b=true):gJ (az g)=g:=by
 induction g using ci with
 |h0=>exact nz fun x hx=>List.eq_of_mem_replicate hx
 |h l x ih=>
  obtain⟨s1,-,s3⟩:=List.pairwise_append.1 hs
  have ih:=ih (fun v hv=>hg v (List.mem_append.2 (.inl hv))) s1
  obtain⟨⟨x1,x2⟩,x3,x4⟩:=hg x (by simp)
  rw[fC,gJ,Aw (by rw[dh];omega) fun j hj=>za fun v hv=>?_]
  ·exact congrArg (· ++[x]) ih
  ·have hb:=s3 v hv x (by simp)
   obtain⟨⟨v1,v2⟩,v3,v4⟩:=hg v (List.mem_append.2 (.inl hv))
   simp only[bef,Bool.or_eq_true,Bool.and_eq_true,decide_eq_true_eq] at hb
   omega
def eg (w:Wrl):Bool:=fo w.com w.lead w.bad && (eO w.com w.bad w.props && ((w.views.length==w.com.length) && eo w.com w.bad w.props w.views))
theorem gw (w:Wrl):dw w=(eg w && my w.bad w.props w.views):=by
 simp only[dw,eg]
 cases fo w.com w.lead w.bad<;>cases (w.views.length==w.com.length)<;>cases eO w.com w.bad w.props<;>cases eo w.com w.bad w.props w.views<;>simp
theorem mJ {w:Wrl}(h:eg w=true):comV w.com=true∧leaS w.com w.lead=true∧badS w.com w.bad=true∧eO w.com w.bad w.props=true∧w.views.length=w.com.length∧eo w.com w.bad w.props w.views=true:=by
 simp only[eg,fo,Bool.and_eq_true,beq_iff_eq] at h
 obtain⟨⟨h1,h2,h3⟩,h4,h5,h6⟩:=h
 exact⟨h1,h2,h3,h4,h5,h6⟩
theorem xt {c:List Int}{g:List Vtx}(h:graS c g=true):∀v∈g,vtxS c v=true:=by
 intro v hv
 obtain⟨j,hj,rfl⟩:=cC (d:=v0) hv
 simp only[graS,Bool.and_eq_true,aM] at h
 have:=h.2 j hj
 simp only[gg,Bool.and_eq_true] at this
 exact this.1
theorem xS {w:Wrl}(h:eg w=true):∀g∈w.views,graS w.com g=true:=by
 obtain⟨-,-,-,-,-,h6⟩:=mJ h
 intro g hg
 obtain⟨j,hj,rfl⟩:=cC (d:=[]) hg
 simp only[eo,aM,Bool.and_eq_true] at h6
 have:=(h6 j hj).1
 simp only[lV,Bool.and_eq_true] at this
 exact this.2
theorem kJ {α:Type}[BEq α][LawfulBEq α]:∀{a b:List α},a.Nodup→a⊆b→a.length≤b.length
 |[],_,_,_=>Nat.zero_le _
 |x::a,b,h,hs=>by
  rw[List.nodup_cons] at h
  have hx:x∈b:=hs (List.mem_cons_self ..)
  have:=kJ (b:=b.erase x) h.2 fun y hy=>by
   have hne:y≠x:=fun e=>h.1 (e▸hy)
   exact(List.mem_erase_of_ne hne).2 (hs (List.mem_cons_of_mem _ hy))
  rw[List.length_erase_of_mem hx] at this
  have:=List.length_pos_of_mem hx
  simp only[List.length_cons]
  omega
theorem il {c ms:List Int}(h:cd c ms=true):ms.length≤c.length:=by
 have h1:=bf h
 have h2:ms⊆(List.range c.length).map fun n:Nat=>(n:Int):=fun m hm=>by
  have:=h1 m hm
  rw[List.mem_map]
  exact⟨m.toNat,by rw[List.mem_range];omega,by omega⟩
 have h3:ms.Nodup:=(bG h).imp fun hab=>by omega
 have:=kJ h3 h2
 simpa using this
theorem lZ {c:List Int}{v:Vtx}(hc:comV c=true)(h:vtxS c v=true):v.parents.length≤7:=by
 obtain⟨-,-,h3,-⟩:=bc h
 have:=il h3
 have:=(ao.1 hc).2
 omega
theorem nS {w:Wrl}(h:eg w=true):∀g∈w.views,∀v∈g,fK v∧v.parents.length≤1000:=fun g hg v hv=>by
 have hc:=(mJ h).1
 have h1:=xt (xS h g hg) v hv
 exact⟨bW hc h1,by have:=lZ hc h1;omega⟩
theorem nT {c:List Int}{b:Int}{ps:List Ppl}(h:eO c b ps=true):∀p∈ps,oneP c p=true:=by
 intro p hp
 obtain⟨j,hj,rfl⟩:=cC (d:=p0) hp
 simp only[eO,Bool.and_eq_true,aM] at h
 have:=h.1 j hj
 simp only[eB,Bool.and_eq_true] at this
 exact this.1
theorem lE {c:List Int}{b:Int}{ps:List Ppl}(h:eO c b ps=true):ps.length≤220:=by
 simp only[eO,Bool.and_eq_true,decide_eq_true_eq] at h
 omega
theorem D3 {c:List Int}{p:Ppl}(hc:comV c=true)(h:oneP c p=true):Iz c.length p:=by
 simp only[oneP,Bool.and_eq_true] at h
 obtain⟨h1,h2⟩:=h
 have h7:=(ao.1 hc).2
 have hl:=lZ hc h1
 obtain⟨v1,v2,v3,v4,v5,v6⟩:=bc h1
 have hml:=il h2
 refine⟨fun m hm=>?_,fun hne=>?_,fun q hq=>?_,by omega,by omega⟩
 ·rcases List.mem_cons.1 hm with rfl|hm
  ·omega
  ·exact bf h2 m hm
 ·by_cases h0:p.v.round=0
  ·exact absurd (v5 h0) hne
  ·omega
 ·have:=bf v3 q hq
  omega
theorem se {w:Wrl}(h:eg w=true):∀p∈w.props,Iz w.views.length p:=by
 obtain⟨hc,-,-,h4,h5,-⟩:=mJ h
 rw[h5]
 exact fun p hp=>D3 hc (nT h4 p hp)
theorem BP {w:Wrl}(h:eg w=true):vT w.bad (w.views.map az) w.props=my w.bad w.props w.views:=
 GB (fun g hg v hv=>(nS h g hg v hv).1) (se h)
end Go.Proofs.YthmfppknagbkeaaGreatDoor.Am
namespace Go.Proofs.YthmfppknagbkeaaGreatDoor.Am
open Go
attribute [local irreducible] Mk bk Ari eD ky iB br b8 fY er At af
set_option maxRecDepth 10000
theorem A1 (c:List Int)(g:List Vtx)(hl:g.length≤2000000):af Tryz.prog 157 [.lst (.int .i64) c,.lst .vtx g] [] (.bool (graS c g)) []:=by
 have hL:=rS c g hl
 refine aa di Tryz.func157 rfl rfl false 0 4 rfl rfl rfl rfl fun K hK hb1 hb2=>?_;simp only[ae,enc,Nat.reduceAdd]
 clear hb1 hb2
 cases hg:graS c g
 ·simp only[zn,zm,hg,Bool.false_eq_true,if_false] at hL
  (repeat' first|refine gt ?_|refine sa fun xe hxe=>?_|refine sb (fun hq=>?_) fun hq=>?_|refine cr (hL) ?_|exact True.intro)
  exact⟨rfl,rfl⟩
 ·simp only[zn,zm,hg,if_true] at hL
  cases g with
  |nil=>
   (repeat' first|refine gt ?_|refine sa fun xe hxe=>?_|refine sb (fun hq=>?_) fun hq=>?_|refine cr (hL) ?_|exact True.intro)
   exact⟨rfl,rfl⟩
  |cons v g=>
   (repeat' first|refine gt ?_|refine sa fun xe hxe=>?_|refine sb (fun hq=>?_) fun hq=>?_|refine cr (hL) ?_|exact True.intro)
   exact⟨rfl,rfl⟩
abbrev qW (w:Wrl)(v:Vtx):VH:=[(4,.var 48 [.int .i64 v.round,.int .i64 v.author,.lst (.int .i64) v.parents,.int .i64 v.digest]),(5,.var 33 [.lst (.int .i64) w.com,.lst (.int .i64) w.lead,.int .i64 w.bad,.lst (.lst .vtx) w.views,.lst .ppl w.props])]
theorem Ir (w:Wrl)(v:Vtx)(p:Ppl)(hc:comV w.com=true)(hm:cd w.com p.members=true):af Tryz.prog 159 [pN p,.ptr 4 0,.ptr 5 0] (qW w v) (.bool (gL p.v v && don w.com p)) (qW w v):=by
 refine aa al Tryz.func159 rfl rfl false 2 6 rfl rfl rfl rfl fun K hK hb1 hb2=>?_;simp only[ae,enc,Nat.reduceAdd]
 clear hb1 hb2
 cases h1:gL p.v v
 ·(repeat' first|refine st ?_|refine sa fun xe hxe=>?_|refine sb (fun hq=>?_) fun hq=>?_|refine cr (kI _ _) ?_|refine cr (rM _ _ hc hm) ?_|exact True.intro)
  exact⟨rfl,rfl⟩
 ·(repeat' first|refine st ?_|refine sa fun xe hxe=>?_|refine sb (fun hq=>?_) fun hq=>?_|refine cr (kI _ _) ?_|refine cr (rM _ _ hc hm) ?_|exact True.intro)
  exact⟨rfl,rfl⟩
theorem Gm (w:Wrl)(v:Vtx)(ps:List Ppl)(hc:comV w.com=true)(hm:∀p∈ps,cd w.com p.members=true):af Tryz.prog 190 [.lst .ppl ps,.clo 159 [.ptr 4 0,.ptr 5 0]] (qW w v)
  (.int .i64 (match ps.findIdx? (fun p=>gL p.v v && don w.com p) with|some i=>(i:Int)|none=>-1)) (qW w v):=by
 refine aa al Tryz.func190 rfl rfl false 2 6 rfl rfl rfl rfl fun K hK hb1 hb2=>?_;simp only[ae,enc,Nat.reduceAdd]
 clear hb2
 simp[ah,V.toD,bnd,ag,D.cells] at hb1
 (repeat' first|refine st ?_|refine sa fun xe hxe=>?_|refine sb (fun hq=>?_) fun hq=>?_|exact True.intro)
 refine ab hK [] [0,1,7,8] (fun i:Nat=>⟨[(0,.lst .ppl ps),(1,.clo 159 [.ptr 4 0,.ptr 5 0]),(7,.int .i64 ps.length),(8,.int .i64 i)],qW w v,6⟩) (fun i=>i≤ps.length∧∀y∈ps.take i,(gL y.v v && don w.com y)=false) (fun i=>ps.length-i) 0 ⟨by simp,by simp⟩ rfl ?_
 rintro i ⟨hi,hall⟩
 by_cases hlt:i<ps.length
 ·have hxe:ps[i]?=some ps[i]:=List.getElem?_eq_getElem hlt
  have h3:ps.take (i+1)=ps.take i++[ps[i]]:=List.take_succ_eq_append_getElem hlt
  have h4:=ny (l:=ps) (p:=fun p=>gL p.v v && don w.com p) hxe hall
  have h5:=hm _ (List.getElem_mem hlt)
  generalize ps[i]=p at *
  have hv:=Ir w v p hc h5
  cases h6:gL p.v v && don w.com p
  ·rw[h6] at hv
   (repeat' first|refine st ?_|refine sa fun xe hxe=>?_|refine sb (fun hq=>?_) fun hq=>?_|refine cr (hv) ?_|exact True.intro)
   exact⟨i+1,⟨by omega,by rw[h3];exact aP hall h6⟩,by omega,rfl⟩
  ·rw[h6] at hv
   (repeat' first|refine st ?_|refine sa fun xe hxe=>?_|refine sb (fun hq=>?_) fun hq=>?_|refine cr (hv) ?_|exact True.intro)
   rw[h4 h6]
   exact⟨rfl,rfl⟩
 ·(repeat' first|refine st ?_|refine sa fun xe hxe=>?_|refine sb (fun hq=>?_) fun hq=>?_|exact True.intro)
  rw[List.take_of_length_le (by omega)] at hall
  rw[List.findIdx?_eq_none_iff.2 hall]
  exact⟨rfl,rfl⟩
theorem Ia (w:Wrl)(v:Vtx)(ps:List Ppl)(hc:comV w.com=true)(hm:∀p∈ps,cd w.com p.members=true):af Tryz.prog 158 [.lst .ppl ps,.clo 159 [.ptr 4 0,.ptr 5 0]] (qW w v)
  (.bool (knw w.com ps v)) (qW w v):=by
 have hk:knw w.com ps v=(ps.findIdx? (fun p=>gL p.v v && don w.com p)).isSome:=by
  rw[List.findIdx?_isSome,knw]
  congr 1
  funext p
  rw[Bool.and_comm]
 refine aa al Tryz.func158 rfl rfl false 2 6 rfl rfl rfl rfl fun K hK hb1 hb2=>?_;simp only[ae,enc,Nat.reduceAdd]
 (repeat' first|refine st ?_|refine sa fun xe hxe=>?_|refine sb (fun hq=>?_) fun hq=>?_|refine cr (Gm _ _ _ hc hm) ?_|exact True.intro)
 refine⟨?_,rfl⟩
 rw[hk]
 cases ps.findIdx? (fun p=>gL p.v v && don w.com p) with
 |none=>rfl
 |some i=>simp
theorem DT (w:Wrl)(hc:comV w.com=true)(hp:eO w.com w.bad w.props=true)(hl:∀g∈w.views,g.length≤2000000):af Tryz.prog 104 [ap w] [] (.bool ((w.views.length==w.com.length) && eo w.com w.bad w.props w.views)) []:=by
 have hm:∀p∈w.props,cd w.com p.members=true:=fun p hpp=>by
  obtain⟨i,hi,rfl⟩:=cC (d:=p0) hpp
  simp only[eO,Bool.and_eq_true,aM] at hp
  have:=hp.1 i hi
  simp only[eB,oneP,Bool.and_eq_true] at this
  exact this.1.2
 have h7:=(ao.1 hc).2
 refine aa al Tryz.func104 rfl rfl false 0 4 rfl rfl rfl rfl fun K hK hb1 hb2=>?_;simp only[ae,enc,Nat.reduceAdd]
 simp[ah,V.toD,bnd,ag,D.cells] at hb1
 by_cases hlen:w.views.length=w.com.length
 ·have hb:(w.views.length==w.com.length)=true:=by simpa using hlen
  rw[hb,Bool.true_and]
  (repeat' first|refine st ?_|refine sa fun xe hxe=>?_|refine sb (fun hq=>?_) fun hq=>?_|exact True.intro)
  refine ab hK [] [1,16,17,18] (fun i:Nat=>⟨[(1,.ptr 4 0),(16,.lst (.lst .vtx) w.views),(17,.int .i64 w.views.length),(18,.int .i64 i)],[(4,.var 33 (ap w).cells)],5⟩)
   (fun i=>i≤w.views.length∧∀j,j<i→(lV w.com w.props (w.views.getD j []) && (!((j:Int)==w.bad)||(w.views.getD j []).isEmpty))=true) (fun i=>w.views.length-i) 0 ⟨by simp,by simp⟩ rfl ?_
  rintro i ⟨hi,hall⟩
  by_cases hlt:i<w.views.length
  ·have hxe:w.views[i]?=some (w.views.getD i []):=by rw[List.getD_eq_getElem?_getD,List.getElem?_eq_getElem hlt];rfl
   have hgl:=hl _ (List.mem_of_getElem? hxe)
   have hno:(lV w.com w.props (w.views.getD i []) && (!((i:Int)==w.bad)||(w.views.getD i []).isEmpty))=false→V.bool false=V.bool (eo w.com w.bad w.props w.views)∧([]:VH)=[]:=fun h=>⟨by unfold eo;rw[cy hlt h],rfl⟩
   have hyes:=bt hall (p:=fun j=>lV w.com w.props (w.views.getD j []) && (!((j:Int)==w.bad)||(w.views.getD j []).isEmpty)) (i:=i)
   generalize w.views.getD i []=g at *
   have hvv:lV w.com w.props g=(g.all (knw w.com w.props) && graS w.com g):=rfl
   cases h1:graS w.com g
   ·(repeat' first|refine st ?_|refine sa fun xe hxe=>?_|refine sb (fun hq=>?_) fun hq=>?_|refine cr (A1 _ _ hgl) ?_|exact True.intro)
    exact hno (by rw[hvv,h1,Bool.and_false,Bool.false_and])
   have hem:g.isEmpty=decide ((g.length:Int)=0):=by cases g<;>simp;omega
   by_cases h2:(i:Int)=w.bad∧¬(g.length:Int)=0
   ·have hb1:((i:Int)==w.bad)=true:=by simpa using h2.1
    (repeat' first|refine st ?_|refine sa fun xe hxe=>?_|refine sb (fun hq=>?_) fun hq=>?_|refine cr (A1 _ _ hgl) ?_|exact True.intro)
    exact hno (by rw[hb1,hem,decide_eq_false h2.2];simp)
   have hok2:(!((i:Int)==w.bad)||g.isEmpty)=true:=by
    rw[hem]
    by_cases hb:(i:Int)=w.bad
    ·have:(g.length:Int)=0:=Classical.byContradiction fun h=>h2 ⟨hb,h⟩
     simp[this]
    ·simp[hb]
   have hkn:∀v,af Tryz.prog 158 [.lst .ppl w.props,.clo 159 [.ptr 4 0,.ptr 5 0]] (qW w v) (.bool (knw w.com w.props v)) (qW w v):=fun v=>Ia w v _ hc hm
   (repeat' first|refine st ?_|refine sa fun xe hxe=>?_|refine sb (fun hq=>?_) fun hq=>?_|refine cr (A1 _ _ hgl) ?_|exact True.intro)
   all_goals
    refine ab hK [] [1,16,17,18,39,40,41] (fun k:Nat=>⟨[(1,.ptr 4 0),(16,.lst (.lst .vtx) w.views),(17,.int .i64 w.views.length),(18,.int .i64 i),(39,.lst .vtx g),(40,.int .i64 g.length),(41,.int .i64 k)],[(4,.var 33 (ap w).cells)],5⟩)
     (fun k=>k≤g.length∧∀v∈g.take k,knw w.com w.props v=true) (fun k=>g.length-k) 0 ⟨by simp,by simp⟩ rfl ?_
    rintro k ⟨hk,hkall⟩
    by_cases hkl:k<g.length
    ·have hxk:g[k]?=some g[k]:=List.getElem?_eq_getElem hkl
     have hsn:g.take (k+1)=g.take k++[g[k]]:=List.take_succ_eq_append_getElem hkl
     have hvm:g[k]∈g:=List.getElem_mem hkl
     generalize g[k]=v at *
     have hkv:=hkn v
     cases h3:knw w.com w.props v
     ·rw[h3] at hkv
      (repeat' first|refine st ?_|refine sa fun xe hxe=>?_|refine sb (fun hq=>?_) fun hq=>?_|refine cr (hkv) ?_|exact True.intro)
      have:g.all (knw w.com w.props)=false:=by
       rw[Bool.eq_false_iff]
       intro h
       rw[List.all_eq_true.1 h v hvm] at h3
       cases h3
      exact hno (by rw[hvv,this,Bool.false_and,Bool.false_and])
     ·rw[h3] at hkv
      (repeat' first|refine st ?_|refine sa fun xe hxe=>?_|refine sb (fun hq=>?_) fun hq=>?_|refine cr (hkv) ?_|exact True.intro)
      exact⟨k+1,⟨by omega,by rw[hsn];exact aP hkall h3⟩,by omega,rfl⟩
    ·rw[List.take_of_length_le (by omega)] at hkall
     (repeat' first|refine st ?_|refine sa fun xe hxe=>?_|refine sb (fun hq=>?_) fun hq=>?_|exact True.intro)
     exact⟨i+1,⟨by omega,hyes (by rw[hvv,List.all_eq_true.2 hkall,h1,hok2];rfl)⟩,by omega,rfl⟩
  ·(repeat' first|refine st ?_|refine sa fun xe hxe=>?_|refine sb (fun hq=>?_) fun hq=>?_|exact True.intro)
   unfold eo
   rw[bO (fun j hj=>hall j (by omega))]
   exact⟨rfl,rfl⟩
 ·have hb:(w.views.length==w.com.length)=false:=by simpa using hlen
  rw[hb,Bool.false_and]
  (repeat' first|refine st ?_|refine sa fun xe hxe=>?_|refine sb (fun hq=>?_) fun hq=>?_|exact True.intro)
  exact⟨rfl,rfl⟩
theorem m7 (v:Vtx)(hl:v.parents.length≤1000000):af Tryz.prog 162 [bA v] [] (.agg [.int .i64 v.round,.int .i64 v.author,.ref 4,.int .i64 v.digest]) [(4,.row 3 (.int .i64) v.parents)]:=by
 refine aa al Tryz.func162 rfl rfl false 0 4 rfl rfl rfl rfl fun K hK hb1 hb2=>?_;simp only[ae,enc,Nat.reduceAdd]
 (repeat' first|refine st ?_|refine sa fun xe hxe=>?_|refine sb (fun hq=>?_) fun hq=>?_|exact True.intro)
 exact⟨rfl,rfl⟩
theorem Fv (g:List Vtx)(hg:∀v∈g,fK v∧v.parents.length≤1000):af Tryz.prog 106 [.lst .vtx g] [] (.ptr 4 0) [(4,.vari 190 [] 217 (.ob .vtx) (az g) [])]:=by
 refine aa al Tryz.func106 rfl rfl false 0 4 rfl rfl rfl rfl fun K hK hb1 hb2=>?_;simp only[ae,enc,Nat.reduceAdd]
 simp[ah,V.toD,bnd,ag,D.cells] at hb1
 (repeat' first|refine st ?_|refine sa fun xe hxe=>?_|refine sb (fun hq=>?_) fun hq=>?_|exact True.intro)
 refine zA 4 0 217 (.ob .vtx) ?_
 ((conv=>whnf);refine GH (by kernel_rfl) ?_;(conv=>whnf))
 refine ab hK [] [3,9,10,11] (fun i:Nat=>⟨[(3,.ptr 4 0),(9,.lst .vtx g),(10,.int .i64 g.length),(11,.int .i64 (i:Int))],[(4,.vari 190 [] 217 (.ob .vtx) (az (g.take i)) [])],5⟩) (fun i=>i≤g.length) (fun i=>g.length-i) 0 (by simp) rfl ?_
 intro i hi
 by_cases hlt:i<g.length
 ·have hxe:g[i]?=some g[i]:=List.getElem?_eq_getElem hlt
  have hsn:g.take (i+1)=g.take i++[g[i]]:=List.take_succ_eq_append_getElem hlt
  obtain⟨⟨⟨v1,v2⟩,v3,v4⟩,v5⟩:=hg _ (List.getElem_mem hlt)
  have hl2:=dh (g.take i)
  have hst:az (g.take (i+1))=(az (g.take i)).set (g[i].round*7+g[i].author).toNat (some g[i]):=by rw[hsn,fC]
  generalize g[i]=v at *
  generalize az (g.take i)=s at *
  (repeat' first|refine st ?_|refine sa fun xe hxe=>?_|refine sb (fun hq=>?_) fun hq=>?_|((with_reducible refine bl ?_);(conv=>whnf);(first|with_reducible refine bF (m7 _ (by omega)) ?_);conv=>whnf)|exact True.intro)
  refine⟨i+1,by omega,by omega,?_⟩
  have hix:(v.round*7+v.author).toNat=v.round.toNat * 7+v.author.toNat:=by omega
  rw[hst,hix]
  rfl
 ·rw[List.take_of_length_le (by omega)]
  (repeat' first|refine st ?_|refine sa fun xe hxe=>?_|refine sb (fun hq=>?_) fun hq=>?_|exact True.intro)
  exact⟨rfl,rfl⟩
def Θw:TT:=(144,⟨.ptr 190,1,8,some (.nilp),some (.hp 0),false⟩)::(50,⟨.struct [(48,0,4),(22,4,1)],5,72,some (.agg [.int .i64 0,.int .i64 0,.nils,.int .i64 0,.nils]),some (.pplm 1),false⟩)::Θ
theorem aS:TT.ok Tryz.prog Θw:=TT.okB_ok (by kernel_rfl)
theorem a9 {P Q:Prop}(h:Q)(s:Hid Q→P:=by
  intro h
  (first|(with_reducible first|apply d7|apply dx)|((first|with_reducible apply cM aS|refine go ?_|(with_reducible first|apply dB|apply dt|apply cK|apply cN|refine cL aS mixed (by kernel_rfl) ?_))<;>conv=>whnf))
  repeat(first|(with_reducible first|apply d7|apply dx)|((first|with_reducible apply cM aS|refine go ?_|(with_reducible first|apply dB|apply dt|apply cK|apply cN|refine cL aS mixed (by kernel_rfl) ?_))<;>conv=>whnf))
  exact h.h):P:=s ⟨h⟩
def sd (ps:List Ppl):List PplM:=ps.zipIdx.map fun x=>⟨x.1.v,some x.2⟩
theorem lC (ps:List Ppl):(sd ps).length=ps.length:=by simp[sd]
def Jb:PplM:=⟨⟨0,0,[],0⟩,none⟩
def BO (ps:List Ppl)(i:Nat):List PplM:=sd (ps.take i)++List.replicate (ps.length-i) Jb
theorem Ed (ps:List Ppl)(i:Nat)(hi:i≤ps.length):(BO ps i).length=ps.length:=by
 simp only[BO,List.length_append,lC,List.length_take,List.length_replicate];omega
theorem Ee {ps:List Ppl}{i:Nat}(h:i<ps.length):(BO ps i).set i ⟨ps[i].v,some i⟩=BO ps (i+1):=by
 have h1:(sd (ps.take i)).length=i:=by rw[lC,List.length_take];omega
 have h2:ps.length-i=(ps.length-(i+1))+1:=by omega
 unfold BO
 rw[List.set_append_right _ _ (by omega),h1,Nat.sub_self,h2,List.replicate_succ,List.set_cons_zero]
 have h4:sd (ps.take (i+1))=sd (ps.take i)++[⟨ps[i].v,some i⟩]:=by
  rw[List.take_succ_eq_append_getElem h]
  simp only[sd,List.zipIdx_append,List.map_append,List.length_take,Nat.min_eq_left (Nat.le_of_lt h),List.zipIdx_cons,List.zipIdx_nil,List.map_cons,List.map_nil,Nat.zero_add]
 rw[h4,List.append_assoc]
 rfl
theorem Gf (ps:List Ppl)(hv:∀p∈ps,p.v.parents.length≤1000000∧p.members.length≤1000000)(hl:ps.length≤1000000):af Tryz.prog 107 [.lst .ppl ps] [] (.ref 4) [(1,.frow 3 (.int .i64) (ps.map (·.members))),(4,.row 50 (.pplm 1) (sd ps))]:=by
 refine aa aS Tryz.func107 rfl rfl false 0 4 rfl rfl rfl rfl fun K hK hb1 hb2=>?_;simp only[ae,enc,Nat.reduceAdd]
 clear hb1 hb2
 (repeat' first|refine a9 ?_|refine sa fun xe hxe=>?_|refine sb (fun hq=>?_) fun hq=>?_|exact True.intro)
 refine qP 1 (.frow 3 (.int .i64) []) rfl ?_
 refine ab hK [] [3,9,10,11] (fun i:Nat=>⟨[(3,.ref 4),(9,.lst .ppl ps),(10,.int .i64 ps.length),(11,.int .i64 (i:Int))],[(1,.frow 3 (.int .i64) ((ps.take i).map (·.members))),(4,.row 50 (.pplm 1) (BO ps i))],5⟩) (fun i=>i≤ps.length) (fun i=>ps.length-i) 0 (by simp) (by rw[show BO ps 0=List.replicate (ps.length:Int).toNat Jb by simp[BO,sd]];rfl) ?_
 intro i hi
 by_cases hlt:i<ps.length
 ·have hxe:ps[i]?=some ps[i]:=List.getElem?_eq_getElem hlt
  have hsn:ps.take (i+1)=ps.take i++[ps[i]]:=List.take_succ_eq_append_getElem hlt
  obtain⟨v1,v2⟩:=hv _ (List.getElem_mem hlt)
  have hpl:=Ed ps i hi
  have hst:=Ee hlt
  have hfl:((ps.take i).map (·.members)).length=i:=by rw[List.length_map,List.length_take];omega
  generalize ps[i]=p at *
  generalize BO ps i=s at *
  (repeat' first|refine a9 ?_|refine sa fun xe hxe=>?_|refine sb (fun hq=>?_) fun hq=>?_|refine cr (m7 _ v1) ?_|exact True.intro)
  refine⟨i+1,by omega,by omega,?_⟩
  rw[←hst,hsn,List.map_append,hfl]
  rfl
 ·(repeat' first|refine a9 ?_|refine sa fun xe hxe=>?_|refine sb (fun hq=>?_) fun hq=>?_|exact True.intro)
  rw[List.take_of_length_le (by omega),show BO ps i=sd ps by rw[BO,List.take_of_length_le (by omega),show ps.length-i=0 by omega];simp]
  exact⟨rfl,rfl⟩
theorem HP (tabs:List (List (Option Vtx)))(k:Nat)(tab:List (Option Vtx))(v:Vtx)(hk:tabs[k]?=some tab)(ht:tab.length=217)(hr:v.parents≠[]→1≤v.round∧v.round≤31)(hp:∀p∈v.parents,0≤p∧p≤6):af Tryz.prog 163 [.fptr 0 k 0,bA v] [(0,.fvari 190 217 (.ob .vtx) tabs)] (.bool (nh tab v)) [(0,.fvari 190 217 (.ob .vtx) tabs)]:=by
 refine aa al Tryz.func163 rfl rfl false 0 4 rfl rfl rfl rfl fun K hK hb1 hb2=>?_;simp only[ae,enc,Nat.reduceAdd]
 simp[ah,V.toD,bnd,ag,D.cells] at hb1
 (repeat' first|refine st ?_|refine sa fun xe hxe=>?_|refine sb (fun hq=>?_) fun hq=>?_|exact True.intro)
 refine ab hK [] [0,3,8,9,10] (fun i:Nat=>⟨[(0,.fptr 0 k 0),(3,.ptr 4 0),(8,.lst (.int .i64) v.parents),(9,.int .i64 v.parents.length),(10,.int .i64 (i:Int))],[(0,.fvari 190 217 (.ob .vtx) tabs),(4,.var 48 (bA v).cells)],5⟩) (fun i=>i≤v.parents.length∧∀p∈v.parents.take i,(tab.getD ((v.round-1)*7+p).toNat none).isSome=true) (fun i=>v.parents.length-i) 0 (by simp) rfl ?_
 rintro i ⟨hi,hall⟩
 by_cases hlt:i<v.parents.length
 ·have hxe:v.parents[i]?=some v.parents[i]:=List.getElem?_eq_getElem hlt
  have h3:v.parents.take (i+1)=v.parents.take i++[v.parents[i]]:=List.take_succ_eq_append_getElem hlt
  have h4:v.parents[i]∈v.parents:=List.getElem_mem hlt
  have h5:=hr (List.ne_nil_of_mem h4)
  have h6:=hp _ h4
  generalize v.parents[i]=p at *
  have hix:((v.round-1)*7+p).toNat=(v.round-1).toNat * 7+p.toNat:=by omega
  (repeat' first|refine st ?_|refine sa fun xe hxe=>?_|refine sb (fun hq=>?_) fun hq=>?_|exact True.intro)
  ·have hxe:tab[(v.round-1).toNat * 7+p.toNat]?=some xe:=hxe
   have:nh tab v=false:=by
    rw[Bool.eq_false_iff]
    intro h
    have h:=List.all_eq_true.1 h p h4
    rw[hix,List.getD_eq_getElem?_getD,hxe,Option.getD_some] at h
    have hq:xe=none:=by simpa using hq
    rw[hq] at h
    cases h
   rw[this]
   exact⟨rfl,rfl⟩
  ·have hxe:tab[(v.round-1).toNat * 7+p.toNat]?=some xe:=hxe
   refine⟨i+1,⟨by omega,?_⟩,by omega,rfl⟩
   rw[h3]
   refine aP hall ?_
   rw[hix,List.getD_eq_getElem?_getD,hxe,Option.getD_some]
   have hq:Option.isNone xe=false:=hq
   simpa[Option.isNone_iff_eq_none,Option.isSome_iff_ne_none] using hq
 ·(repeat' first|refine st ?_|refine sa fun xe hxe=>?_|refine sb (fun hq=>?_) fun hq=>?_|exact True.intro)
  rw[List.take_of_length_le (by omega)] at hall
  have:nh tab v=true:=List.all_eq_true.2 hall
  rw[this]
  exact⟨rfl,rfl⟩
abbrev rB (c l:List Int)(b:Int)(tabs:List (List (Option Vtx)))(ps:List Ppl):VH:=[(0,.fvari 190 217 (.ob .vtx) tabs),(1,.frow 3 (.int .i64) (ps.map (·.members))),(4,.var 112 [.int .i32 0,.int .u32 0,.lst (.int .i64) c,.lst (.int .i64) l,.int .i64 b,.ref 5,.ref 6]),(5,.row 144 (.hp 0) ((List.range tabs.length).map some)),(6,.row 50 (.pplm 1) (sd ps))]
theorem we {ps:List Ppl}{i:Nat}{p:Ppl}(h:ps[i]?=some p):(sd ps)[i]?=some ⟨p.v,some i⟩:=by
 simp[sd,List.getElem?_map,List.getElem?_zipIdx,h]
theorem zW (tabs:List (List (Option Vtx)))(k:Nat)(tab:List (Option Vtx))(v:Vtx)(hk:tabs[k]?=some tab)(ht:tab.length=217)(hr:v.parents≠[]→1≤v.round∧v.round≤31)(hp:∀p∈v.parents,0≤p∧p≤6):af Tryz.prog 163 [.hpo 0 (some k),bA v] [(0,.fvari 190 217 (.ob .vtx) tabs)] (.bool (nh tab v)) [(0,.fvari 190 217 (.ob .vtx) tabs)]:=by
 have h:=HP tabs k tab v hk ht hr hp
 unfold af at h⊢
 exact h
set_option maxHeartbeats 1000000 in
theorem H5 (c l:List Int)(b:Int)(tabs:List (List (Option Vtx)))(ps:List Ppl)(ht:∀t∈tabs,t.length=217)(htl:tabs.length≤7)(hpn:ps.length≤1000000)(hp:∀p∈ps,Iz tabs.length p):af Tryz.prog 108 [.ptr 4 0] (rB c l b tabs ps) (.bool (vT b tabs ps)) (rB c l b tabs ps):=by
 refine aa aS Tryz.func108 rfl rfl false 3 7 rfl rfl rfl rfl fun K hK hb1 hb2=>?_;simp only[ae,enc,Nat.reduceAdd]
 clear hb1 hb2
 have hpl:=lC ps
 (repeat' first|refine a9 ?_|refine sa fun xe hxe=>?_|refine sb (fun hq=>?_) fun hq=>?_|exact True.intro)
 refine ab hK [] [0,10,11,12] (fun i:Nat=>⟨[(0,.ptr 4 0),(10,.ref 6),(11,.int .i64 ps.length),(12,.int .i64 (i:Int))],rB c l b tabs ps,7⟩) (fun i=>i≤ps.length∧∀p∈ps.take i,Hy b tabs p.v (p.v.author::p.members)=true) (fun i=>ps.length-i) 0 (by simp) (by simp only[hpl];rfl) ?_
 rintro i ⟨hi,hall⟩
 by_cases hlt:i<ps.length
 ·have hxe:ps[i]?=some ps[i]:=List.getElem?_eq_getElem hlt
  have hsn:ps.take (i+1)=ps.take i++[ps[i]]:=List.take_succ_eq_append_getElem hlt
  have hpm:ps[i]∈ps:=List.getElem_mem hlt
  have hno:Hy b tabs ps[i].v (ps[i].v.author::ps[i].members)=false→vT b tabs ps=false:=fun h=>by
   rw[Bool.eq_false_iff]
   intro h2
   rw[List.all_eq_true.1 h2 _ hpm] at h
   cases h
  obtain⟨p1,p2,p3,p4,p5⟩:=hp _ hpm
  have hx1:=we hxe
  have hx2:(ps.map (·.members))[i]?=some ps[i].members:=by rw[List.getElem?_map,hxe];rfl
  have hfl:(ps.map (·.members)).length=ps.length:=List.length_map ..
  generalize ps[i]=p at *
  (repeat' first|refine a9 ?_|refine sa fun xe hxe=>?_|refine sb (fun hq=>?_) fun hq=>?_|exact True.intro)
  refine ab hK [] [0,4,10,11,12,22,23,24] (fun j:Nat=>⟨[(0,.ptr 4 0),(4,.ptr 7 0),(10,.ref 6),(11,.int .i64 ps.length),(12,.int .i64 (i:Int)),(22,.ref 8),(23,.int .i64 ((p.v.author::p.members).length:Nat)),(24,.int .i64 (j:Int))],rB c l b tabs ps++[(7,VB.var 50 [.int .i64 p.v.round,.int .i64 p.v.author,.lst (.int .i64) p.v.parents,.int .i64 p.v.digest,.hro 1 (some i)]),(8,VB.row 3 (.int .i64) (p.v.author::p.members))],9⟩) (fun j=>j≤(p.v.author::p.members).length∧∀m∈(p.v.author::p.members).take j,(m==b||nh (tabs.getD m.toNat []) p.v)=true) (fun j=>(p.v.author::p.members).length-j) 0 (by simp) (by(conv=>whnf);rfl) ?_
  rintro j ⟨hj,hjall⟩
  have hnl:(p.v.author::p.members).length≤1000001:=by simp only[List.length_cons];omega
  have hkk:(∀m∈p.v.author::p.members,(m==b||nh (tabs.getD m.toNat []) p.v)=true)→Hy b tabs p.v (p.v.author::p.members)=true:=fun h=>List.all_eq_true.2 h
  have hkn:∀m∈p.v.author::p.members,(m==b||nh (tabs.getD m.toNat []) p.v)=false→Hy b tabs p.v (p.v.author::p.members)=false:=fun m hm h=>by
   rw[Bool.eq_false_iff]
   intro h2
   rw[List.all_eq_true.1 h2 _ hm] at h
   cases h
  generalize hms:p.v.author::p.members=ms at *
  by_cases hjl:j<ms.length
  ·have hye:ms[j]?=some ms[j]:=List.getElem?_eq_getElem hjl
   have hjs:ms.take (j+1)=ms.take j++[ms[j]]:=List.take_succ_eq_append_getElem hjl
   have hjm:ms[j]∈ms:=List.getElem_mem hjl
   have hxr:=p1 _ hjm
   have hkn:=hkn _ hjm
   generalize ms[j]=m at *
   have hxt:tabs[m.toNat]?=some (tabs.getD m.toNat []):=by
    rw[List.getD_eq_getElem?_getD,List.getElem?_eq_getElem (show m.toNat<tabs.length by omega)];rfl
   have hxv:((List.range tabs.length).map some)[m.toNat]?=some (some m.toNat):=by
    rw[List.getElem?_map,List.getElem?_range (show m.toNat<tabs.length by omega)];rfl
   have hvl:((List.range tabs.length).map some).length=tabs.length:=by simp
   have hC:=zW tabs m.toNat _ p.v hxt (ht _ (List.mem_of_getElem? hxt)) p2 p3
   by_cases hmb:m=b
   ·subst hmb
    (repeat' first|refine a9 ?_|refine sa fun xe hxe=>?_|refine sb (fun hq=>?_) fun hq=>?_|exact True.intro)
    ·exact absurd trivial hq
    ·refine⟨j+1,⟨by omega,by rw[hjs];exact aP hjall (by simp)⟩,by omega,rfl⟩
   ·cases h1:nh (tabs.getD m.toNat []) p.v
    ·rw[h1] at hC
     (repeat' first|refine a9 ?_|refine sa fun xe hxe=>?_|refine sb (fun hq=>?_) fun hq=>?_|refine co (hC) ?_|exact True.intro)
     exact⟨by rw[hno (hkn (by rw[h1,Bool.or_false];simpa using hmb))],rfl⟩
    ·rw[h1] at hC
     (repeat' first|refine a9 ?_|refine sa fun xe hxe=>?_|refine sb (fun hq=>?_) fun hq=>?_|refine co (hC) ?_|exact True.intro)
     exact⟨j+1,⟨by omega,by rw[hjs];exact aP hjall (by rw[h1,Bool.or_true])⟩,by omega,rfl⟩
  ·(repeat' first|refine a9 ?_|refine sa fun xe hxe=>?_|refine sb (fun hq=>?_) fun hq=>?_|exact True.intro)
   rw[List.take_of_length_le (by omega)] at hjall
   exact⟨i+1,⟨by omega,by rw[hsn];exact aP hall (by rw[hms];exact hkk hjall)⟩,by omega,rfl⟩
 ·(repeat' first|refine a9 ?_|refine sa fun xe hxe=>?_|refine sb (fun hq=>?_) fun hq=>?_|exact True.intro)
  rw[List.take_of_length_le (by omega)] at hall
  have:vT b tabs ps=true:=List.all_eq_true.2 hall
  rw[this]
  exact⟨rfl,rfl⟩
end Go.Proofs.YthmfppknagbkeaaGreatDoor.Am
namespace Go.Proofs.YthmfppknagbkeaaGreatDoor.Am
open Go Go.Shelf Go.RowKit
attribute [local irreducible] Mk bk Ari eD ky iB br b8 fY er At af
set_option maxRecDepth 10000
theorem jU {P : Program} {f : FuncId} {ds : List D} {r : D} (hf : ∃ fn, P.funcs[f]? = some fn ∧ fn.body.isNone = false ∧ (fn.name == "runtime.NumGoroutine") = false)
  (h:∀(w:World) (ok:Nat→Prop) (ρ:Id→Pl) (vs:Array Value),ds.length=vs.size→(∀i,i<ds.length→C ρ (fun _=>False) ok w (ds.getD i .undef) (vs.getD i undef))→
   Calls P f vs w fun e w'=>∃u,e= .returned u∧Below w.heap.size w w'∧∀ok',Rep ok' w' r u):Con P f ds [] r []:=by
 refine⟨hf,fun w A ρ vs hs hl hc=>?_⟩
 have hno:∀b,¬Live [] b:=fun b h=>by cases h
 have hc':∀i,i<ds.length→C ρ (fun _=>False) (okOf A ρ [] w) w (ds.getD i .undef) (vs.getD i undef):=fun i hi=>(hc i hi).mono (fun b hb=>absurd hb (hno b)) (fun b hb=>⟨hb,rfl⟩)
 refine Calls.mono (h w (okOf A ρ [] w) ρ vs hl hc') ?_
 rintro e w' ⟨u,rfl,hb,hr⟩
 refine⟨u,ρ,rfl,fun b hb=>absurd hb (hno b),⟨hs.base,hs.inS,⟨hb.os,hb.tape,hb.output,hb.size,fun i hi _=>hb.block i hi⟩,rfl,rfl,?_,?_,?_,?_,hs.gl⟩,.pure (hr _)⟩
 ·intro k d h;cases h
 ·intro k d h;cases h
 ·intro k d h;cases h
 ·intro b b' x x' h;cases h
theorem jZ {nb:Nat}{α β:Type}{xs:List α}{ys:List β}(h1:xs.length≤1000000)(h2:ys.length≤1000000)(hb:nb≤100):jn nb (xs.length+ys.length):=by
 have:(xs.length+ys.length)*nb≤2000000*100:=Nat.mul_le_mul (by omega) hb
 unfold jn
 omega
def vU:Go.Shelf.Ren:=⟨fun|15=>105|n=>n,fun|22=>22|3=>3|4=>4|n=>n,fun|n=>n⟩
theorem Bj:Go.Proofs.Lays2.n15 Tryz.prog vU where
  mixed:=by kernel_rfl
  f15:=Tryz.func105.trans (congrArg some (by kernel_rfl))
  t3:=Tryz.underlying3
  a3:=Tryz.isAgg3
  z3:=Tryz.sizeOf3
  v3:=Tryz.zeroValue3
  t4:=Tryz.underlying4
  a4:=Tryz.isAgg4
  z4:=Tryz.sizeOf4
  v4:=Tryz.zeroValue4
  t22:=Tryz.underlying22
  a22:=Tryz.isAgg22
  z22:=Tryz.sizeOf22
  v22:=Tryz.zeroValue22
  i3:=by kernel_rfl
theorem DF (t:Ty):af Tryz.prog 105 [.lst t []] [] (.lst t []) []:=by
 unfold af
 refine jU ⟨_,Tryz.func105,rfl,rfl⟩ fun w ok ρ vs hl hc=>?_
 obtain⟨v,rfl⟩:∃v,vs= #[v]:=by
  have:vs.size=1:=hl.symm
  exact⟨vs[0],Array.ext (by simp[this]) fun i h1 h2=>by
   have:i=0:=by simpa using h2
   subst this;rfl⟩
 have h0:C ρ (fun _=>False) ok w (.lst []) v:=hc 0 (Nat.one_pos)
 have h1:=h0.lst_inv
 have fin:∀(w':World) (a:Option Addr) (cap:Nat),(a=none→cap=0)→cap≤maxLen→∀ok',Rep ok' w' ((V.lst t []).toD) (.slice a 0 cap):=fun w' a cap h1 h2 ok'=>.none a cap h1 h2
 obtain⟨a,cap,rfl,ha⟩:∃a cap,v= .slice a 0 cap∧(a=none→cap=0):=by
  cases h1 with
  |none a cap ha hcap=>exact⟨a,cap,rfl,ha⟩
  |lst l n b off cap f hn=>exact⟨_,cap,by rw[←hn];rfl,fun h=>by cases h⟩
 cases a with
 |none=>
  refine Calls.mono (Any.slices_Clone_int_nil Bj 0 cap w) ?_
  rintro e w' ⟨rfl,rfl⟩
  exact⟨_,rfl,Below.refl _ _,fin _ _ _ (fun _=>rfl) (Nat.zero_le _)⟩
 |some a=>
  refine Calls.mono (Any.slices_Clone_int_zero Bj a cap w) ?_
  rintro e w' ⟨v',rfl,ho,_,hb⟩
  refine⟨v',rfl,hb,?_⟩
  rcases ho.2 with⟨rfl,_⟩|⟨g,cap',cur,rfl,_,_,_,h3,_⟩
  ·exact fin _ _ _ (fun _=>rfl) (Nat.zero_le _)
  ·exact fin _ _ _ (fun h=>by cases h) h3
theorem AV (l:List Int)(hb:l.length≤1000000):af Tryz.prog 105 [.lst (.int .i64) l] [] (.lst (.int .i64) l) []:=by
 cases l with
 |nil=>exact DF _
 |cons x l=>
  refine aa al Tryz.func105 rfl rfl true 0 4 rfl rfl rfl rfl fun K hK hb1 hb2=>?_;simp only[ae,enc,Nat.reduceAdd]
  (repeat' first|refine st ?_|refine sa fun xe hxe=>?_|refine sb (fun hq=>?_) fun hq=>?_|exact True.intro)
  refine eK (jZ (Nat.zero_le _) hb (by decide)) ?_
  (repeat' first|refine st ?_|refine sa fun xe hxe=>?_|refine sb (fun hq=>?_) fun hq=>?_|exact True.intro)
  refine dt ?_
  (conv=>whnf)
  exact⟨rfl,rfl⟩
theorem Gd (l:List Int)(hl:l≠[])(hb:l.length≤1000000):af Tryz.prog 116 [.lst (.int .i64) l] [] (.lst (.int .i64) l) []:=by
 cases l with
 |nil=>exact absurd rfl hl
 |cons x l=>
  refine aa al Tryz.func116 rfl rfl true 0 4 rfl rfl rfl rfl fun K hK hb1 hb2=>?_;simp only[ae,enc,Nat.reduceAdd]
  (repeat' first|refine st ?_|refine sa fun xe hxe=>?_|refine sb (fun hq=>?_) fun hq=>?_|exact True.intro)
  refine eK (jZ (Nat.zero_le _) hb (by decide)) ?_
  (repeat' first|refine st ?_|refine sa fun xe hxe=>?_|refine sb (fun hq=>?_) fun hq=>?_|exact True.intro)
  refine dt ?_
  (conv=>whnf)
  exact⟨rfl,rfl⟩

end Go.Proofs.YthmfppknagbkeaaGreatDoor.Am
