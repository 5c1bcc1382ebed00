/- Graphs: a vertex is linked. Graphs: all vertices are linked. Graphs: heights, authors, places. Runs: leaders, faulty members, pairs of proposals: what the functions give. Runs: graphs of members, copies: what the program's functions give. Runs: clones of proposals, views that cover. Runs: parents that are known. Runs: a run is opened. The exact laws' own functions on lists of numbers and vertices. Runs: the vertices of a graph's table; copies of proposals; a run as it is handed back. -/
import Derived.Test.YtpefhoohfkeflaaGreatDoorEA6
set_option linter.unusedSimpArgs false
set_option linter.unusedVariables false
set_option maxHeartbeats 1000000
namespace Go.Proofs.YtpefhoohfkeflaaGreatDoor.Am
open Go
attribute [local irreducible] Mk ck Ari fK mQ jM cd cX i7 fC At ag
set_option maxRecDepth 10000
abbrev gO (c:List Int)(s:GS):VH:=[(0,.fvar 193 (.nod 1) s.nodes),(1,.frow 181 (.hp 0) s.rows),(4,.vari 185 [.lst (.int .i64) c,.ref 6] 217 (.hp 0) s.plc []),(5,.gone),(6,.row 181 (.hp 0) ((List.range s.nodes.length).map some))]
theorem uE (s:GS)(v:Vtx):(List.range s.nodes.length).map some++[some s.nodes.length]=(List.range (cJ s v).nodes.length).map some:=by
 simp[cJ,mH]
theorem pP (s:GS)(v:Vtx)(h:0≤v.round∧0≤v.author):s.plc.set (v.round.toNat * 7+v.author.toNat) (some s.nodes.length)=(cJ s v).plc:=by
 have e:(v.round*7+v.author).toNat=v.round.toNat * 7+v.author.toNat:=by omega
 simp only[cJ,e]
def qa (s:GS)(v:Vtx):Bool:=v.parents.all fun p=>(s.at (v.round-1) p).isSome
abbrev IO (v:Vtx)(n:Int)(p:V):VB:=.var 193 [.int .i64 v.round,.int .i64 v.author,.lst (.int .i64) v.parents,.int .i64 v.digest,.int .i64 n,p]
abbrev IU (s:GS)(v:Vtx)(i:Nat):VB:=.row 181 (.hp 0) ((v.parents.take i).map fun p=>s.at (v.round-1) p)
def wb (c:List Int)(s:GS)(v:Vtx):Nat→VSt
 |0=>⟨[(0,.ptr 4 0),(3,.ptr 6 0),(5,.ptr 7 0),(18,.lst (.int .i64) v.parents),(19,.int .i64 v.parents.length),(20,.int .i64 0)],gR c s++[(6,.var 58 (de v).cells),(7,IO v s.nodes.length .nils)],8⟩
 |i+1=>⟨[(0,.ptr 4 0),(3,.ptr 6 0),(5,.ptr 7 0),(18,.lst (.int .i64) v.parents),(19,.int .i64 v.parents.length),(20,.int .i64 ((i+1:Nat):Int))],gR c s++[(6,.var 58 (de v).cells),(7,IO v s.nodes.length (.ref 8)),(8,IU s v (i+1))],9⟩
theorem IM (c:List Int)(s:GS)(v:Vtx)(hs:s.plc.length=217)(hc:comV c=true)(hv:vtxS c v=true)(hn:s.nodes.length≤2000000):ag Tryz.prog 168 [.ptr 4 0,de v] (gR c s) (.bool (qa s v)) (if qa s v then gO c (cJ s v) else gR c s):=by
 have h7:=(ay.1 hc).2
 obtain⟨v1,v2,v3,v4,v5,v6⟩:=bG hv
 have hml:=eO v3
 have hmi:=cD v3
 have hrl:((List.range s.nodes.length).map some).length=s.nodes.length:=by simp
 refine ab eW Tryz.func168 rfl rfl false 2 6 rfl rfl rfl rfl fun K hK hb1 hb2=>?_;simp only[ae,enc,Nat.reduceAdd]
 clear hb1 hb2
 (repeat' first|refine j4 ?_|refine sa fun xe hxe=>?_|refine sb (fun hq=>?_) fun hq=>?_|exact aa)
 refine ah hK [] [0,3,5,18,19,20] (wb c s v) (fun i=>i≤v.parents.length∧∀p∈v.parents.take i,(s.at (v.round-1) p).isSome=true) (fun i=>v.parents.length-i) 0 ⟨by simp,by simp⟩ (by simp only[hrl];rfl) ?_
 rintro i ⟨hi,hall⟩
 have hno:∀p∈v.parents,s.at (v.round-1) p=none→qa s v=false:=fun p hp h=>by
  rw[cj]
  intro h2
  have:=aM.1 h2 p hp
  rw[h] at this
  cases this
 by_cases hlt:i<v.parents.length
 ·have hxe:v.parents[i]?=some v.parents[i]:=am hlt
  have h3:v.parents.take (i+1)=v.parents.take i++[v.parents[i]]:=ca hlt
  have h4:v.parents[i]∈v.parents:=be hlt
  have hr0:v.round≠0:=fun h=>by rw[v5 h] at hlt;simp at hlt
  have h1:j5 (v.round-1) 0 30=true:=aC.2 (by omega)
  have hlk:wb c s v (i+1)=⟨[(0,.ptr 4 0),(3,.ptr 6 0),(5,.ptr 7 0),(18,.lst (.int .i64) v.parents),(19,.int .i64 v.parents.length),(20,.int .i64 ((i+1:Nat):Int))],gR c s++[(6,.var 58 (de v).cells),(7,IO v s.nodes.length (.ref 8)),(8,.row 181 (.hp 0) (((v.parents.take i).map fun p=>s.at (v.round-1) p)++[s.at (v.round-1) v.parents[i]]))],9⟩:=by
   rw[wb,IU,h3,cg];rfl
  generalize v.parents[i]=p at *
  have h2:dB c p=true:=aC.2 (by have:=hmi p h4;omega)
  have hl2:((v.parents.take i).map fun p=>s.at (v.round-1) p).length=i:=by rw[az,bQ];omega
  cases h5:s.at (v.round-1) p with
  |none=>
   have hin:(s.at (v.round-1) p).isNone=true:=by rw[h5];rfl
   have hnn:=hno p h4 h5
   cases i with
   |zero=>
    have hx0:v.parents[(0:Int).toNat]?=some p:=hxe
    unfold wb
    (repeat' first|refine j4 ?_|refine sa fun xe hxe=>?_|refine sb (fun hq=>?_) fun hq=>?_|refine co (nS c s (v.round-1) p hs h7.2 h1 h2) ?_|exact aa)
    exact⟨by rw[hnn],by rw[hnn];rfl⟩
   |succ i=>
    unfold wb
    (repeat' first|refine j4 ?_|refine sa fun xe hxe=>?_|refine sb (fun hq=>?_) fun hq=>?_|refine co (nS c s (v.round-1) p hs h7.2 h1 h2) ?_|exact aa)
    exact⟨by rw[hnn],by rw[hnn];rfl⟩
  |some k=>
   have hin:(s.at (v.round-1) p).isNone=false:=by rw[h5];rfl
   cases i with
   |zero=>
    have hx0:v.parents[(0:Int).toNat]?=some p:=hxe
    unfold wb
    (repeat' first|refine j4 ?_|refine sa fun xe hxe=>?_|refine sb (fun hq=>?_) fun hq=>?_|refine co (nS c s (v.round-1) p hs h7.2 h1 h2) ?_|exact aa)
    refine⟨0+1,⟨by omega,by rw[h3];exact bM hall (by rw[h5];rfl)⟩,by omega,?_⟩
    refine Eq.trans ?_ hlk.symm
    rfl
   |succ i=>
    unfold wb
    simp only[IU]
    generalize (List.map (fun p=>s.at (v.round-1) p) (List.take (i+1) v.parents))=ps at *
    (repeat' first|refine j4 ?_|refine sa fun xe hxe=>?_|refine sb (fun hq=>?_) fun hq=>?_|refine co (nS c s (v.round-1) p hs h7.2 h1 h2) ?_|exact aa)
    refine⟨i+1+1,⟨by omega,by rw[h3];exact bM hall (by rw[h5];rfl)⟩,by omega,?_⟩
    refine Eq.trans ?_ hlk.symm
    rfl
 ·rw[br (by omega)] at hall
  have hy:qa s v=true:=aM.2 hall
  have hpl:=rG hs (aC.2 v1) (a:=v.author) (by omega)
  cases i with
  |zero=>
   unfold wb
   simp only[gR]
   generalize hnr:(List.map some (List.range s.nodes.length))=nr at *
   (repeat' first|refine j4 ?_|refine sa fun xe hxe=>?_|refine sb (fun hq=>?_) fun hq=>?_|exact aa)
   rw[hy]
   refine⟨rfl,?_⟩
   have e1:=uE s v
   have e2:=pP s v ⟨v1.1,v2.1⟩
   simp only[if_true,gO]
   rw[←e1,←e2,hnr]
   have e3:v.parents=[]:=n9.1 (by omega)
   have e4:(cJ s v).nodes=s.nodes++[⟨v,s.nodes.length,none⟩]:=by simp[cJ,e3]
   have e5:(cJ s v).rows=s.rows:=by simp[cJ,e3]
   rw[e4,e5]
  |succ i=>
   unfold wb
   simp only[IU]
   generalize hps:(List.map (fun p=>s.at (v.round-1) p) (List.take (i+1) v.parents))=ps at *
   simp only[gR]
   generalize hnr:(List.map some (List.range s.nodes.length))=nr at *
   (repeat' first|refine j4 ?_|refine sa fun xe hxe=>?_|refine sb (fun hq=>?_) fun hq=>?_|exact aa)
   rw[hy]
   refine⟨rfl,?_⟩
   have e1:=uE s v
   have e2:=pP s v ⟨v1.1,v2.1⟩
   simp only[if_true,gO]
   rw[←e1,←e2,hnr]
   have e3:v.parents≠[]:=fun h=>by rw[h] at hi;simp at hi
   rw[br (by omega)] at hps
   simp only[cJ,e3,if_false,hps]
theorem zN (r a:Int):ka.at r a=none:=by
 simp only[ka,GS.at,aq,mL]
 split<;>rfl
theorem NN (v:Vtx):qa ka v=v.parents.isEmpty:=by
 unfold qa
 cases v.parents with
 |nil=>rfl
 |cons p l=>simp[zN]
theorem IN (c:List Int)(v:Vtx)(hc:comV c=true)(hv:vtxS c v=true):ag Tryz.prog 168 [.ptr 4 0,de v] (gZ c ka) (.bool (qa ka v)) (if qa ka v then gR c (cJ ka v) else gZ c ka):=by
 have h7:=(ay.1 hc).2
 have hs:ka.plc.length=217:=iG
 obtain⟨v1,v2,v3,v4,v5,v6⟩:=bG hv
 have hmi:=cD v3
 refine ab eW Tryz.func168 rfl rfl false 1 5 rfl rfl rfl rfl fun K hK hb1 hb2=>?_;simp only[ae,enc,Nat.reduceAdd]
 clear hb1 hb2
 (repeat' first|refine j4 ?_|refine sa fun xe hxe=>?_|refine sb (fun hq=>?_) fun hq=>?_|exact aa)
 refine ah hK [] [0,3,5,18,19,20] (fun i:Nat=>⟨[(0,.ptr 4 0),(3,.ptr 5 0),(5,.ptr 6 0),(18,.lst (.int .i64) v.parents),(19,.int .i64 v.parents.length),(20,.int .i64 0)],gZ c ka++[(5,.var 58 (de v).cells),(6,IO v 0 .nils)],7⟩) (fun i=>i=0) (fun i=>i) 0 rfl (by simp only[dG];rfl) ?_
 rintro i rfl
 have hy:=NN v
 by_cases hlt:0<v.parents.length
 ·have hxe:v.parents[0]?=some v.parents[0]:=am hlt
  have h4:v.parents[0]∈v.parents:=be hlt
  have hr0:v.round≠0:=fun h=>by rw[v5 h] at hlt;simp at hlt
  have h1:j5 (v.round-1) 0 30=true:=aC.2 (by omega)
  have hne:v.parents.isEmpty=false:=by cases h:v.parents with|nil=>rw[h] at hlt;simp at hlt|cons _ _=>rfl
  rw[hne] at hy
  rw[hy]
  generalize v.parents[0]=p at *
  have h2:dB c p=true:=aC.2 (by have:=hmi p h4;omega)
  have hx0:v.parents[(0:Int).toNat]?=some p:=hxe
  have hin:(ka.at (v.round-1) p).isNone=true:=by rw[zN];rfl
  (repeat' first|refine j4 ?_|refine sa fun xe hxe=>?_|refine sb (fun hq=>?_) fun hq=>?_|refine co (DV c ka (v.round-1) p hs h7.2 h1 h2) ?_|exact aa)
  exact⟨rfl,rfl⟩
 ·have e3:v.parents=[]:=n9.1 (by omega)
  have hem:v.parents.isEmpty=true:=by rw[e3];rfl
  rw[hem] at hy
  rw[hy]
  have hpl:=rG hs (aC.2 v1) (a:=v.author) (by omega)
  have e2:=pP ka v ⟨v1.1,v2.1⟩
  have e4:(cJ ka v).nodes=[⟨v,0,none⟩]:=by simp[cJ,e3,ka]
  have e5:(cJ ka v).rows=[]:=by simp[cJ,e3,ka]
  simp only[if_true,gR]
  rw[←e2,e4,e5]
  (repeat' first|refine j4 ?_|refine sa fun xe hxe=>?_|refine sb (fun hq=>?_) fun hq=>?_|exact aa)
  exact⟨rfl,rfl⟩
theorem IV {c:List Int}{g:List Vtx}{v:Vtx}(hc:comV c=true)(hg:∀u∈g,vtxS c u=true)(hv:vtxS c v=true):qa (dg g) v=parOK g v:=by
 obtain⟨v1,v2,v3,v4,v5,v6⟩:=bG hv
 have h7:=(ay.1 hc).2
 unfold qa parOK
 rw[eo,aM,aM]
 have key:∀p∈v.parents,((dg g).at (v.round-1) p).isSome=d7 g (v.round-1) p:=by
  intro p hp
  have hr0:v.round≠0:=fun h=>by rw[v5 h] at hp;cases hp
  have:=cD v3 p hp
  exact(vT (fun u hu=>dw hc (hg u hu)) (by omega) (by omega)).1
 constructor
 ·intro h p hp;rw[←key p hp];exact h p hp
 ·intro h p hp;rw[key p hp];exact h p hp
def IL (c:List Int)(g:List Vtx):Nat→VSt
 |0=>⟨[(0,.lst (.int .i64) c),(1,.lst .vtx g),(6,.ptr 4 0),(15,.lst .vtx g),(16,.int .i64 g.length),(17,.int .i64 0)],gZ c ka,5⟩
 |i+1=>⟨[(0,.lst (.int .i64) c),(1,.lst .vtx g),(6,.ptr 4 0),(15,.lst .vtx g),(16,.int .i64 g.length),(17,.int .i64 ((i+1:Nat):Int))],gR c (dg (g.take (i+1))),6⟩
def gF (c:List Int)(g:List Vtx):VH:=match g with|[]=>gZ c ka|v::l=>gR c (dg (v::l))
def DI (c:List Int)(g:List Vtx):V:=if graS c g then .tup [.ptr 4 0,.bool true] else .tup [.nilp,.bool false]
def DH (c:List Int)(g:List Vtx):VH:=if graS c g then gF c g else[]
theorem Ia {c:List Int}{g:List Vtx}{i:Nat}(hi:i<g.length)(h:gQ c g i=false):graS c g=false:=by
 unfold graS
 rw[←Bv,dY hi h,lO]
theorem EZ {c:List Int}{g:List Vtx}{i:Nat}(h:∀j,j<i→gQ c g j=true):∀u∈g.take i,vtxS c u=true:=by
 intro u hu
 obtain⟨j,hj,rfl⟩:=ed (d:=v0) hu
 rw[bQ] at hj
 have:=h j (by omega)
 simp only[gQ,aB] at this
 rw[show (g.take i).getD j v0=g.getD j v0 by simp only[aq,eA,if_pos (show j<i by omega)]]
 exact this.1
theorem wa (c:List Int)(g:List Vtx)(hl:g.length≤2000000):ag Tryz.prog 141 [.lst (.int .i64) c,.lst .vtx g] [] (DI c g) (DH c g):=by
 have hbad:graS c g=false→V.tup [.nilp,.bool false]=DI c g∧([]:VH)=DH c g:=fun h=>by simp[DI,DH,h]
 refine ab eW Tryz.func141 rfl rfl false 0 4 rfl rfl rfl rfl fun K hK hb1 hb2=>?_;simp only[ae,enc,Nat.reduceAdd]
 clear hb1 hb2
 cases hc:comV c
 ·(repeat' first|refine j4 ?_|refine sa fun xe hxe=>?_|refine sb (fun hq=>?_) fun hq=>?_|refine cr (oN _) ?_|exact aa)
  exact hbad (by simp[graS,hc])
 (repeat' first|refine j4 ?_|refine sa fun xe hxe=>?_|refine sb (fun hq=>?_) fun hq=>?_|refine cr (oN _) ?_|exact aa)
 refine DU 4 2 217 (.hp 0) ?_
 ((conv=>whnf);refine L1 (by kernel_rfl) ?_;(conv=>whnf))
 refine vg 0 (.fvar 193 (.nod 1) []) rfl ?_
 refine vg 1 (.frow 181 (.hp 0) []) rfl ?_
 refine ah hK [] [0,1,6,15,16,17] (IL c g) (fun i=>i≤g.length∧∀j,j<i→gQ c g j=true) (fun i=>g.length-i) 0 ⟨by simp,by simp⟩ rfl ?_
 rintro i ⟨hi,hall⟩
 by_cases hlt:i<g.length
 ·have hxe:g[i]?=some g[i]:=am hlt
  have hA:gQ c g i=(vtxS c g[i] && ((i==0||bef (g.getD (i-1) v0) g[i]) && parOK (g.take i) g[i])):=by simp only[gQ,bW hxe]
  have hno:gQ c g i=false→V.tup [.nilp,.bool false]=DI c g∧([]:VH)=DH c g:=fun h=>hbad (Ia hlt h)
  have hgs:dg (g.take (i+1))=cJ (dg (g.take i)) g[i]:=by rw[ca hlt,me]
  have hgv:=EZ hall
  have hys:gQ c g i=true→∀j,j<i+1→gQ c g j=true:=fun h=>cH hall h
  generalize g[i]=v at *
  cases h1:vtxS c v
  ·have h2:(comV c && vtxS c v)=false:=by simp[h1]
   cases i with
   |zero=>
    have hx0:g[(0:Int).toNat]?=some v:=hxe
    unfold IL
    (repeat' first|refine j4 ?_|refine sa fun xe hxe=>?_|refine sb (fun hq=>?_) fun hq=>?_|refine cr (ke _ _) ?_|exact aa)
    exact hno (by simp[hA,h1])
   |succ i=>
    unfold IL
    (repeat' first|refine j4 ?_|refine sa fun xe hxe=>?_|refine sb (fun hq=>?_) fun hq=>?_|refine cr (ke _ _) ?_|exact aa)
    exact hno (by simp[hA,h1])
  have h2:(comV c && vtxS c v)=true:=by simp[h1,hc]
  have hpe:=IV hc hgv h1
  cases i with
  |zero=>
   have hx0:g[(0:Int).toNat]?=some v:=hxe
   have hL:=IN c v hc h1
   have hpe:qa ka v=parOK (g.take 0) v:=hpe
   have hf1:bA (VB.fvar 193 (.nod 1) ka.nodes)≤bA (VB.fvar 193 (.nod 1) (cJ ka v).nodes):=aX _
   have hf2:bA (VB.frow 181 (.hp 0) ka.rows)≤bA (VB.frow 181 (.hp 0) (cJ ka v).rows):=aX _
   cases h3:qa ka v
   ·rw[h3] at hL
    simp only[fg,if_false] at hL
    unfold IL
    (repeat' first|refine j4 ?_|refine sa fun xe hxe=>?_|refine sb (fun hq=>?_) fun hq=>?_|refine cr (ke _ _) ?_|refine co (hL) ?_|exact aa)
    exact hno (by rw[hA,←hpe,h3];simp)
   ·rw[h3] at hL
    simp only[if_true] at hL
    unfold IL
    (repeat' first|refine j4 ?_|refine sa fun xe hxe=>?_|refine sb (fun hq=>?_) fun hq=>?_|refine cr (ke _ _) ?_|refine co (hL) ?_|exact aa)
    refine⟨0+1,⟨by omega,hys (by rw[hA,←hpe,h3,h1];simp)⟩,by omega,?_⟩
    show _=VSt.mk _ (gR c (dg (g.take (0+1)))) _
    rw[hgs]
    rfl
  |succ i=>
   have hgl:(dg (g.take (i+1))).nodes.length≤2000000:=by rw[(fx _).1,bQ];omega
   have hL:=IM c (dg (g.take (i+1))) v (fx _).2 hc h1 hgl
   have hye:g[(((i+1:Nat):Int)-1).toNat]?=some (g.getD (i+1-1) v0):=by rw[show (((i+1:Nat):Int)-1).toNat=i by omega,aq,am (show i<g.length by omega)];simp only[Nat.add_sub_cancel,am (show i<g.length by omega)];rfl
   generalize g.getD (i+1-1) v0=u at *
   have hst:IL c g (i+1)=⟨[(0,.lst (.int .i64) c),(1,.lst .vtx g),(6,.ptr 4 0),(15,.lst .vtx g),(16,.int .i64 g.length),(17,.int .i64 ((i+1:Nat):Int))],gR c (dg (g.take (i+1))),6⟩:=rfl
   rw[hst]
   clear hst
   generalize dg (g.take (i+1))=s at *
   have hf1:bA (VB.fvar 193 (.nod 1) s.nodes)≤bA (VB.fvar 193 (.nod 1) (cJ s v).nodes):=by simp[bA,cJ]
   have hf2:bA (VB.frow 181 (.hp 0) s.rows)≤bA (VB.frow 181 (.hp 0) (cJ s v).rows):=by simp only[bA,cJ];split<;>simp
   cases h4:bef u v
   ·(repeat' first|refine j4 ?_|refine sa fun xe hxe=>?_|refine sb (fun hq=>?_) fun hq=>?_|refine cr (ke _ _) ?_|refine cr (vV _ _) ?_|exact aa)
    exact hno (by simp[hA,h1,h4])
   cases h3:qa s v
   ·rw[h3] at hL
    simp only[fg,if_false] at hL
    (repeat' first|refine j4 ?_|refine sa fun xe hxe=>?_|refine sb (fun hq=>?_) fun hq=>?_|refine cr (ke _ _) ?_|refine cr (vV _ _) ?_|refine co (hL) ?_|exact aa)
    exact hno (by rw[hA,←hpe,h3];simp)
   ·rw[h3] at hL
    simp only[if_true] at hL
    (repeat' first|refine j4 ?_|refine sa fun xe hxe=>?_|refine sb (fun hq=>?_) fun hq=>?_|refine cr (ke _ _) ?_|refine cr (vV _ _) ?_|refine co (hL) ?_|exact aa)
    refine⟨i+1+1,⟨by omega,hys (by rw[hA,←hpe,h3,h1,h4];simp)⟩,by omega,?_⟩
    show _=VSt.mk _ (gR c (dg (g.take (i+1+1)))) _
    rw[hgs]
    rfl
 ·have hg:graS c g=true:=by
   unfold graS
   rw[hc,←Bv,dj (fun j hj=>hall j (by omega))]
   rfl
  have e1:DI c g= .tup [.ptr 4 0,.bool true]:=by simp[DI,hg]
  have e2:DH c g=gF c g:=by simp[DH,hg]
  rw[e1,e2]
  cases i with
  |zero=>
   have e3:g=[]:=n9.1 (by omega)
   subst e3
   unfold IL
   (repeat' first|refine j4 ?_|refine sa fun xe hxe=>?_|refine sb (fun hq=>?_) fun hq=>?_|exact aa)
   exact⟨rfl,rfl⟩
  |succ i=>
   have hst:IL c g (i+1)=⟨[(0,.lst (.int .i64) c),(1,.lst .vtx g),(6,.ptr 4 0),(15,.lst .vtx g),(16,.int .i64 g.length),(17,.int .i64 ((i+1:Nat):Int))],gR c (dg g),6⟩:=by rw[IL,br (by omega)]
   rw[hst]
   cases g with
   |nil=>simp at hi
   |cons w g=>
    (repeat' first|refine j4 ?_|refine sa fun xe hxe=>?_|refine sb (fun hq=>?_) fun hq=>?_|exact aa)
    exact⟨rfl,rfl⟩
theorem Ng {c:List Int}{g:List Vtx}(h:GraOK c g)(r:Int):qy (dg g) r c.length=fE g r:=by
 rw[←w8 h r]
 unfold qy w7
 congr 1
 refine oc fun a ha=>?_
 have h7:=(ay.1 h.com).2
 have ha:=eC.1 ha
 cases h1:j5 r 0 30
 ·rw[iJ]
  symm
  rw[cj]
  intro h2
  obtain⟨v,hv,hr,-⟩:=ce.1 h2
  have:=(bG (h.vtx v hv)).1
  rw[hr] at this
  rw[aC.2 this] at h1
  cases h1
 ·rw[dX]
  exact(vT (fun u hu=>dw h.com (h.vtx u hu)) (aC.1 h1) (by omega)).1
theorem md {g:List Vtx}:∀{i:Nat} {v:Vtx},g[i]?=some v→∃p,(dg g).nodes[i]?=some ⟨v,i,p⟩:=by
 induction g using cq with
 |h0=>intro i v h;simp at h
 |h l x ih=>
  intro i v h
  rw[me]
  have hl:=(fx l).1
  rcases ct i l.length with hlt|hge
  ·rw[db hlt] at h
   obtain⟨p,hp⟩:=ih h
   refine⟨p,?_⟩
   simp only[cJ]
   rw[db (by omega)]
   exact hp
  ·have he:i=l.length:=by have:=(aQ.1 h).1;simp at this;omega
   subst he
   rw[fb (ax _)] at h
   simp at h
   subst h
   simp only[cJ]
   rw[←hl,fb (ax _)]
   simp
theorem Kg (c l:List Int):ag Tryz.prog 94 [.lst (.int .i64) c,.lst (.int .i64) l] [] (.bool (leaS c l)) []:=by
 refine ab aj Tryz.func94 rfl rfl false 0 4 rfl rfl rfl rfl fun K hK hb1 hb2=>?_;simp only[ae,enc,Nat.reduceAdd]
 simp[ak,V.toD,bnd,ai,D.cells] at hb1
 (repeat' first|refine st ?_|refine sa fun xe hxe=>?_|refine sb (fun hq=>?_) fun hq=>?_|exact aa)
 refine ah hK [] [0,1,5] (fun i:Nat=>⟨[(0,.lst (.int .i64) c),(1,.lst (.int .i64) l),(5,.int .i64 i)],[],4⟩) (fun i=>i≤l.length∧∀j,j<i→dB c (l.getD j 0)=true) (fun i=>l.length-i) 0 ⟨by simp,by simp⟩ rfl ?_
 rintro i ⟨hi,hall⟩
 by_cases hlt:i<l.length
 ·have hxe:l[i]?=some l[i]:=am hlt
  have hno:dB c l[i]=false→leaS c l=false:=fun h=>by
   unfold leaS
   rw[dY hlt (by rw[bW hxe];exact h),iJ]
  have hys:=cH hall (p:=fun j=>dB c (l.getD j 0)) (i:=i)
  simp only[bW hxe] at hys
  generalize l[i]=m at *
  (repeat' first|refine st ?_|refine sa fun xe hxe=>?_|refine sb (fun hq=>?_) fun hq=>?_|refine cr (nF _ _ _) ?_|exact aa)
  ·rw[hno hq]
   exact⟨rfl,rfl⟩
  ·exact⟨i+1,⟨by omega,hys hq⟩,by omega,rfl⟩
 ·(repeat' first|refine st ?_|refine sa fun xe hxe=>?_|refine sb (fun hq=>?_) fun hq=>?_|exact aa)
  unfold leaS
  rw[dj (fun j hj=>hall j (by omega)),dX]
  exact⟨rfl,rfl⟩
theorem LX (c l:List Int):ag Tryz.prog 47 [.lst (.int .i64) c,.lst (.int .i64) l] [] (.bool (comV c && leaS c l)) []:=by
 refine ab aj Tryz.func47 rfl rfl false 0 4 rfl rfl rfl rfl fun K hK hb1 hb2=>?_;simp only[ae,enc,Nat.reduceAdd]
 (repeat' first|refine st ?_|refine sa fun xe hxe=>?_|refine sb (fun hq=>?_) fun hq=>?_|refine cr (zt _) ?_|refine cr (Kg _ _) ?_|exact aa)
 all_goals (refine⟨?_,rfl⟩;simp_all)
theorem rv (c l:List Int):ag Tryz.prog 70 [.lst (.int .i64) c,.lst (.int .i64) l] [] (.bool (comV c && leaS c l)) []:=by
 refine ab aj Tryz.func70 rfl rfl false 0 4 rfl rfl rfl rfl fun K hK hb1 hb2=>?_;simp only[ae,enc,Nat.reduceAdd]
 simp[ak,V.toD,bnd,ai,D.cells] at hb1
 cases hc:comV c
 ·(repeat' first|refine st ?_|refine sa fun xe hxe=>?_|refine sb (fun hq=>?_) fun hq=>?_|refine cr (oN _) ?_|exact aa)
  exact⟨rfl,rfl⟩
 rw[dX]
 by_cases h15:15<(l.length:Int)
 ·(repeat' first|refine st ?_|refine sa fun xe hxe=>?_|refine sb (fun hq=>?_) fun hq=>?_|refine cr (oN _) ?_|exact aa)
  unfold leaS
  rw[decide_eq_false (by omega),lO]
  exact⟨rfl,rfl⟩
 (repeat' first|refine st ?_|refine sa fun xe hxe=>?_|refine sb (fun hq=>?_) fun hq=>?_|refine cr (oN _) ?_|exact aa)
 refine ah hK [] [0,15,16,17] (fun i:Nat=>⟨[(0,.lst (.int .i64) c),(15,.lst (.int .i64) l),(16,.int .i64 l.length),(17,.int .i64 i)],[],4⟩) (fun i=>i≤l.length∧∀j,j<i→dB c (l.getD j 0)=true) (fun i=>l.length-i) 0 ⟨by simp,by simp⟩ rfl ?_
 rintro i ⟨hi,hall⟩
 by_cases hlt:i<l.length
 ·have hxe:l[i]?=some l[i]:=am hlt
  have hno:dB c l[i]=false→leaS c l=false:=fun h=>by
   unfold leaS
   rw[dY hlt (by rw[bW hxe];exact h),iJ]
  have hys:=cH hall (p:=fun j=>dB c (l.getD j 0)) (i:=i)
  simp only[bW hxe] at hys
  generalize l[i]=m at *
  (repeat' first|refine st ?_|refine sa fun xe hxe=>?_|refine sb (fun hq=>?_) fun hq=>?_|refine cr (fG _ _) ?_|exact aa)
  ·rw[hno hq]
   exact⟨rfl,rfl⟩
  ·exact⟨i+1,⟨by omega,hys hq⟩,by omega,rfl⟩
 ·(repeat' first|refine st ?_|refine sa fun xe hxe=>?_|refine sb (fun hq=>?_) fun hq=>?_|exact aa)
  unfold leaS
  rw[dj (fun j hj=>hall j (by omega)),dX,decide_eq_true (by omega)]
  exact⟨rfl,rfl⟩
theorem Fh (c:List Int)(hc:comV c=true):ag Tryz.prog 107 [.lst (.int .i64) c] [] (.int .i64 (y6 c)) []:=by
 have h1:=jz hc
 have h2:=sC hc
 have h3:(n6 c-1).tdiv 3=y6 c:=rfl
 refine ab aj Tryz.func107 rfl rfl false 0 4 rfl rfl rfl rfl fun K hK hb1 hb2=>?_;simp only[ae,enc,Nat.reduceAdd]
 (repeat' first|refine st ?_|refine sa fun xe hxe=>?_|refine sb (fun hq=>?_) fun hq=>?_|refine cr (zY _ hc) ?_|exact aa)
 exact⟨rfl,rfl⟩
theorem Ix (c:List Int)(b:Int)(hc:comV c=true):ag Tryz.prog 71 [.lst (.int .i64) c,.int .i64 b] [] (.bool (badS c b)) []:=by
 refine ab aj Tryz.func71 rfl rfl false 0 4 rfl rfl rfl rfl fun K hK hb1 hb2=>?_;simp only[ae,enc,Nat.reduceAdd]
 clear hb1 hb2
 cases h0:b== -1
 ·have hne:b≠-1:=by simpa using h0
  cases h1:dB c b
  ·have:badS c b=false:=by
    rw[cj]
    intro h
    rcases kw.1 h with h|h
    ·exact hne h
    ·rw[dB,aC.2 (by omega)] at h1;cases h1
   rw[this]
   (repeat' first|refine st ?_|refine sa fun xe hxe=>?_|refine sb (fun hq=>?_) fun hq=>?_|refine cr (fG _ _) ?_|exact aa)
   exact⟨rfl,rfl⟩
  ·have hm:=aC.1 h1
   have hx2:c[b.toNat]?=some (c.getD b.toNat 0):=by rw[aq,am (show b.toNat<c.length by omega)];rfl
   have hb:badS c b=decide (c.getD b.toNat 0≤y6 c):=by
    rw[eo,kw,decide_eq_true_eq]
    constructor
    ·rintro(h|⟨-,h⟩)
     ·exact absurd h hne
     ·exact h
    ·intro h;exact .inr ⟨by omega,h⟩
   rw[hb]
   generalize c.getD b.toNat 0=x at *
   (repeat' first|refine st ?_|refine sa fun xe hxe=>?_|refine sb (fun hq=>?_) fun hq=>?_|refine cr (fG _ _) ?_|refine cr (Fh _ hc) ?_|exact aa)
   exact⟨rfl,rfl⟩
 ·have hb:b= -1:=by simpa using h0
  have:badS c b=true:=kw.2 (.inl hb)
  rw[this]
  (repeat' first|refine st ?_|refine sa fun xe hxe=>?_|refine sb (fun hq=>?_) fun hq=>?_|refine cr (fG _ _) ?_|refine cr (Fh _ hc) ?_|exact aa)
  all_goals exact⟨rfl,rfl⟩
abbrev ue (p:Ppl):V:=.agg [.int .i64 p.v.round,.int .i64 p.v.author,.lst (.int .i64) p.v.parents,.int .i64 p.v.digest,.lst (.int .i64) p.members]
theorem vW (c:List Int)(p:Ppl)(hc:comV c=true)(hm:d8 c p.members=true):ag Tryz.prog 115 [ue p,.lst (.int .i64) c] [] (.bool (don c p)) []:=by
 have hw:DF c p.members=fo c p.members:=by simp[DF,hc,hm]
 have hwc:=BI c p.members
 have hqc:=BB c
 rw[hw] at hwc
 rw[hc] at hqc
 refine ab aj Tryz.func115 rfl rfl false 0 4 rfl rfl rfl rfl fun K hK hb1 hb2=>?_;simp only[ae,enc,Nat.reduceAdd]
 (repeat' first|refine st ?_|refine sa fun xe hxe=>?_|refine sb (fun hq=>?_) fun hq=>?_|refine cr (hwc) ?_|refine cr (hqc) ?_|exact aa)
 exact⟨rfl,rfl⟩
theorem sN (v u:Vtx):ag Tryz.prog 139 [de v,de u] [] (.bool (slt v u)) []:=by
 refine ab aj Tryz.func139 rfl rfl false 0 4 rfl rfl rfl rfl fun K hK hb1 hb2=>?_;simp only[ae,enc,Nat.reduceAdd]
 (repeat' first|refine st ?_|refine sa fun xe hxe=>?_|refine sb (fun hq=>?_) fun hq=>?_|exact aa)
 all_goals (refine⟨?_,rfl⟩;simp_all[slt])
theorem MC (a b:List Int):ag Tryz.prog 143 [.lst (.int .i64) a,.lst (.int .i64) b] [] (.bool (a==b)) []:=by
 refine ab aj Tryz.func143 rfl rfl false 0 4 rfl rfl rfl rfl fun K hK hb1 hb2=>?_;simp only[ae,enc,Nat.reduceAdd]
 simp[ak,V.toD,bnd,ai,D.cells] at hb1
 by_cases hl:a.length=b.length
 ·(repeat' first|refine st ?_|refine sa fun xe hxe=>?_|refine sb (fun hq=>?_) fun hq=>?_|exact aa)
  refine ah hK [] [0,1,11,12,13] (fun i:Nat=>⟨[(0,.lst (.int .i64) a),(1,.lst (.int .i64) b),(11,.lst (.int .i64) a),(12,.int .i64 a.length),(13,.int .i64 i)],[],4⟩) (fun i=>i≤a.length∧a.take i=b.take i) (fun i=>a.length-i) 0 ⟨by simp,by simp⟩ rfl ?_
  rintro i ⟨hi,hall⟩
  by_cases hlt:i<a.length
  ·obtain⟨x,hx⟩:∃x,a[i]?=some x:=⟨_,am hlt⟩
   obtain⟨y,hy⟩:∃y,b[i]?=some y:=⟨_,am (by omega)⟩
   (repeat' first|refine st ?_|refine sa fun xe hxe=>?_|refine sb (fun hq=>?_) fun hq=>?_|exact aa)
   ·have hne:¬x=y:=hq
    have:(a==b)=false:=by rw[beq_eq_false_iff_ne];rintro rfl;rw[hx] at hy;exact hne (ar hy)
    rw[this]
    exact⟨rfl,rfl⟩
   ·subst hq
    exact⟨i+1,⟨by omega,by rw[List.take_add_one,List.take_add_one,hall,hx,hy]⟩,by omega,rfl⟩
  ·(repeat' first|refine st ?_|refine sa fun xe hxe=>?_|refine sb (fun hq=>?_) fun hq=>?_|exact aa)
   have hab:a=b:=by rwa [br (by omega),br (by omega)] at hall
   rw[hab,beq_self_eq_true]
   exact⟨rfl,rfl⟩
 ·(repeat' first|refine st ?_|refine sa fun xe hxe=>?_|refine sb (fun hq=>?_) fun hq=>?_|exact aa)
  have:(a==b)=false:=by rw[beq_eq_false_iff_ne];rintro rfl;exact hl rfl
  rw[this]
  exact⟨rfl,rfl⟩
theorem nX (v u:Vtx):ag Tryz.prog 114 [de v,de u] [] (.bool (lb v u)) []:=by
 refine ab aj Tryz.func114 rfl rfl false 0 4 rfl rfl rfl rfl fun K hK hb1 hb2=>?_;simp only[ae,enc,Nat.reduceAdd]
 (repeat' first|refine st ?_|refine sa fun xe hxe=>?_|refine sb (fun hq=>?_) fun hq=>?_|refine cr (MC _ _) ?_|exact aa)
 all_goals (refine⟨?_,rfl⟩;simp_all[lb])
theorem Jr (l:List Int)(n:Int):ag Tryz.prog 166 [.lst (.int .i64) l,.int .i64 n] [] (.int .i64 (match l.findIdx? (· ==n) with|some i=>(i:Int)|none=>-1)) []:=by
 refine ab aj Tryz.func166 rfl rfl false 0 4 rfl rfl rfl rfl fun K hK hb1 hb2=>?_;simp only[ae,enc,Nat.reduceAdd]
 simp[ak,V.toD,bnd,ai,D.cells] at hb1
 (repeat' first|refine st ?_|refine sa fun xe hxe=>?_|refine sb (fun hq=>?_) fun hq=>?_|exact aa)
 refine ah hK [] [0,1,7,8] (fun i:Nat=>⟨[(0,.lst (.int .i64) l),(1,.int .i64 n),(7,.int .i64 l.length),(8,.int .i64 i)],[],4⟩) (fun i=>i≤l.length∧∀y∈l.take i,(y==n)=false) (fun i=>l.length-i) 0 ⟨by simp,by simp⟩ rfl ?_
 rintro i ⟨hi,hall⟩
 by_cases hlt:i<l.length
 ·have hxe:l[i]?=some l[i]:=am hlt
  have h3:l.take (i+1)=l.take i++[l[i]]:=ca hlt
  have h4:=rk (l:=l) (p:=(· ==n)) hxe hall
  generalize l[i]=y at *
  by_cases he:n=y
  ·have hb:(n==y)=true:=by simpa using he
   (repeat' first|refine st ?_|refine sa fun xe hxe=>?_|refine sb (fun hq=>?_) fun hq=>?_|exact aa)
   rw[h4 (by simpa using he.symm)]
   exact⟨rfl,rfl⟩
  ·have hb:(n==y)=false:=by simpa using he
   (repeat' first|refine st ?_|refine sa fun xe hxe=>?_|refine sb (fun hq=>?_) fun hq=>?_|exact aa)
   exact⟨i+1,⟨by omega,by rw[h3];exact bM hall (by simpa using fun h=>he h.symm)⟩,by omega,rfl⟩
 ·(repeat' first|refine st ?_|refine sa fun xe hxe=>?_|refine sb (fun hq=>?_) fun hq=>?_|exact aa)
  rw[br (by omega)] at hall
  rw[px.2 hall]
  exact⟨rfl,rfl⟩
theorem j2 (l:List Int)(n:Int):ag Tryz.prog 140 [.lst (.int .i64) l,.int .i64 n] [] (.bool (l.contains n)) []:=by
 refine ab aj Tryz.func140 rfl rfl false 0 4 rfl rfl rfl rfl fun K hK hb1 hb2=>?_;simp only[ae,enc,Nat.reduceAdd]
 (repeat' first|refine st ?_|refine sa fun xe hxe=>?_|refine sb (fun hq=>?_) fun hq=>?_|refine cr (Jr _ _) ?_|exact aa)
 refine⟨?_,rfl⟩
 have:l.contains n=(l.findIdx? (· ==n)).isSome:=by
  rw[List.findIdx?_isSome,eo,iF,fU]
  constructor
  ·intro h;exact⟨n,h,by simp⟩
  ·rintro⟨x,h1,h2⟩;rw[beq_iff_eq] at h2;exact h2▸h1
 rw[this]
 cases l.findIdx? (· ==n) with
 |none=>rfl
 |some i=>simp
theorem Im (p q:Ppl)(bad:Int):ag Tryz.prog 110 [ue p,ue q,.int .i64 bad] [] (.bool (fitP bad p q)) []:=by
 refine ab aj Tryz.func110 rfl rfl false 0 4 rfl rfl rfl rfl fun K hK hb1 hb2=>?_;simp only[ae,enc,Nat.reduceAdd]
 simp[ak,V.toD,bnd,ai,D.cells] at hb1
 cases h1:slt p.v q.v
 ·have:fitP bad p q=true:=by simp[fitP,h1]
  rw[this]
  (repeat' first|refine st ?_|refine sa fun xe hxe=>?_|refine sb (fun hq=>?_) fun hq=>?_|refine cr (sN _ _) ?_|refine cr (nX _ _) ?_|refine cr (j2 _ _) ?_|exact aa)
  exact⟨rfl,rfl⟩
 cases h2:lb p.v q.v
 ·cases h3:p.v.author==bad
  ·have:fitP bad p q=false:=by simp[fitP,h1,h2,h3]
   rw[this]
   have hn:(p.v.author !=bad)=true:=by rw[bne,h3];rfl
   (repeat' first|refine st ?_|refine sa fun xe hxe=>?_|refine sb (fun hq=>?_) fun hq=>?_|refine cr (sN _ _) ?_|refine cr (nX _ _) ?_|refine cr (j2 _ _) ?_|exact aa)
   exact⟨rfl,rfl⟩
  ·have hf:fitP bad p q= !lQ bad p.members q.members:=by simp[fitP,h1,h2,h3]
   rw[hf]
   have hn:(p.v.author !=bad)=false:=by rw[bne,h3];rfl
   (repeat' first|refine st ?_|refine sa fun xe hxe=>?_|refine sb (fun hq=>?_) fun hq=>?_|refine cr (sN _ _) ?_|refine cr (nX _ _) ?_|refine cr (j2 _ _) ?_|exact aa)
   refine ah hK [] [2,4,28,29,30] (fun i:Nat=>⟨[(2,.int .i64 bad),(4,.ptr 4 0),(28,.lst (.int .i64) p.members),(29,.int .i64 p.members.length),(30,.int .i64 i)],[(4,.var 93 (ue q).cells)],5⟩) (fun i=>i≤p.members.length∧∀m∈p.members.take i,(m !=bad && q.members.contains m)=false) (fun i=>p.members.length-i) 0 ⟨by simp,by simp⟩ rfl ?_
   rintro i ⟨hi,hall⟩
   by_cases hlt:i<p.members.length
   ·have hxe:p.members[i]?=some p.members[i]:=am hlt
    have hsn:p.members.take (i+1)=p.members.take i++[p.members[i]]:=ca hlt
    have hmm:p.members[i]∈p.members:=be hlt
    generalize p.members[i]=m at *
    have hyes:(m !=bad && q.members.contains m)=true→lQ bad p.members q.members=true:=fun h=>fU.2 ⟨m,hmm,h⟩
    cases h4:m !=bad
    ·(repeat' first|refine st ?_|refine sa fun xe hxe=>?_|refine sb (fun hq=>?_) fun hq=>?_|refine cr (j2 _ _) ?_|exact aa)
     exact⟨i+1,⟨by omega,by rw[hsn];exact bM hall (by rw[h4];rfl)⟩,by omega,rfl⟩
    ·cases h5:q.members.contains m
     ·have hc5:=j2 q.members m
      rw[h5] at hc5
      (repeat' first|refine st ?_|refine sa fun xe hxe=>?_|refine sb (fun hq=>?_) fun hq=>?_|refine cr (hc5) ?_|exact aa)
      exact⟨i+1,⟨by omega,by rw[hsn];exact bM hall (by rw[h5,lO])⟩,by omega,rfl⟩
     ·have hc5:=j2 q.members m
      rw[h5] at hc5
      (repeat' first|refine st ?_|refine sa fun xe hxe=>?_|refine sb (fun hq=>?_) fun hq=>?_|refine cr (hc5) ?_|exact aa)
      rw[hyes (by rw[h4,h5];rfl)]
      exact⟨rfl,rfl⟩
   ·(repeat' first|refine st ?_|refine sa fun xe hxe=>?_|refine sb (fun hq=>?_) fun hq=>?_|exact aa)
    rw[br (by omega)] at hall
    have:lQ bad p.members q.members=false:=by
     rw[cj]
     intro h
     obtain⟨m,hm,h⟩:=fU.1 h
     rw[hall m hm] at h
     cases h
    rw[this]
    exact⟨rfl,rfl⟩
 ·have:fitP bad p q=false:=by simp[fitP,h1,h2]
  rw[this]
  (repeat' first|refine st ?_|refine sa fun xe hxe=>?_|refine sb (fun hq=>?_) fun hq=>?_|refine cr (sN _ _) ?_|refine cr (nX _ _) ?_|refine cr (j2 _ _) ?_|exact aa)
  exact⟨rfl,rfl⟩
abbrev bd (w:Wrl):V:=.agg [.lst (.int .i64) w.com,.lst (.int .i64) w.lead,.int .i64 w.bad,.lst (.lst .vtx) w.views,.lst .ppl w.props]
theorem FW (c:List Int)(p:Ppl)(hc:comV c=true):(comV c && vtxS c p.v)=vtxS c p.v∧(comV c && d8 c p.members)=d8 c p.members:=by simp[hc]
theorem Iw (w:Wrl)(hc:comV w.com=true):ag Tryz.prog 72 [bd w] [] (.bool (ia w.com w.bad w.props)) []:=by
 refine ab aj Tryz.func72 rfl rfl false 0 4 rfl rfl rfl rfl fun K hK hb1 hb2=>?_;simp only[ae,enc,Nat.reduceAdd]
 simp[ak,V.toD,bnd,ai,D.cells] at hb1
 by_cases h220:220<(w.props.length:Int)
 ·(repeat' first|refine st ?_|refine sa fun xe hxe=>?_|refine sb (fun hq=>?_) fun hq=>?_|exact aa)
  unfold ia
  rw[decide_eq_false (by omega),lO]
  exact⟨rfl,rfl⟩
 have hps:ia w.com w.bad w.props=eH w.props.length (gC w.com w.bad w.props):=by
  unfold ia
  rw[decide_eq_true (by omega),Bool.and_true]
 rw[hps]
 (repeat' first|refine st ?_|refine sa fun xe hxe=>?_|refine sb (fun hq=>?_) fun hq=>?_|exact aa)
 refine ah hK [] [1,12,13,14] (fun i:Nat=>⟨[(1,.ptr 4 0),(12,.lst .ppl w.props),(13,.int .i64 w.props.length),(14,.int .i64 i)],[(4,.var 31 (bd w).cells)],5⟩) (fun i=>i≤w.props.length∧∀j,j<i→gC w.com w.bad w.props j=true) (fun i=>w.props.length-i) 0 ⟨by simp,by simp⟩ rfl ?_
 rintro i ⟨hi,hall⟩
 by_cases hlt:i<w.props.length
 ·have hxe:w.props[i]?=some w.props[i]:=am hlt
  have hno:gC w.com w.bad w.props i=false→V.bool false=V.bool (eH w.props.length (gC w.com w.bad w.props))∧([]:VH)=[]:=fun h=>⟨by rw[dY hlt h],rfl⟩
  have hA:gC w.com w.bad w.props i=(oneP w.com w.props[i] && eH i (fun k=>fitP w.bad w.props[i] (w.props.getD k p0))):=by simp only[gC,bW hxe]
  generalize w.props[i]=p at *
  have hvc:=ke w.com p.v
  have hmc:=rx w.com p.members
  rw[(FW _ p hc).1] at hvc
  rw[(FW _ p hc).2] at hmc
  cases h1:vtxS w.com p.v
  ·(repeat' first|refine st ?_|refine sa fun xe hxe=>?_|refine sb (fun hq=>?_) fun hq=>?_|refine cr (hvc) ?_|refine cr (hmc) ?_|exact aa)
   exact hno (by simp[hA,oneP,h1])
  cases h2:d8 w.com p.members
  ·(repeat' first|refine st ?_|refine sa fun xe hxe=>?_|refine sb (fun hq=>?_) fun hq=>?_|refine cr (hvc) ?_|refine cr (hmc) ?_|exact aa)
   exact hno (by simp[hA,oneP,h2])
  have e1:ma w.props none (some (.int .i64 i)) 0 (i:Int).toNat=w.props.take i:=by simp[ma]
  have hl1:(w.props.take i).length=i:=by rw[bQ];omega
  (repeat' first|refine st ?_|refine sa fun xe hxe=>?_|refine sb (fun hq=>?_) fun hq=>?_|refine cr (hvc) ?_|refine cr (hmc) ?_|exact aa)
  refine ah hK [] [1,4,12,13,14,36,37,38] (fun k:Nat=>⟨[(1,.ptr 4 0),(4,.ptr 5 0),(12,.lst .ppl w.props),(13,.int .i64 w.props.length),(14,.int .i64 i),(36,.lst .ppl (w.props.take i)),(37,.int .i64 i),(38,.int .i64 k)],[(4,.var 31 (bd w).cells),(5,.var 93 (ue p).cells)],6⟩) (fun k=>k≤i∧∀j,j<k→fitP w.bad p (w.props.getD j p0)=true) (fun k=>i-k) 0 ⟨by simp,by simp⟩ (by simp only[e1,hl1];rfl) ?_
  rintro k ⟨hk,hkall⟩
  by_cases hkl:k<i
  ·have hxk:(w.props.take i)[k]?=some (w.props.getD k p0):=by rw[eA,if_pos hkl,aq,am (show k<w.props.length by omega)];rfl
   have hyes:=cH hkall (p:=fun j=>fitP w.bad p (w.props.getD j p0)) (i:=k)
   have hnk:fitP w.bad p (w.props.getD k p0)=false→V.bool false=V.bool (eH w.props.length (gC w.com w.bad w.props))∧([]:VH)=[]:=fun h=>hno (by rw[hA,dY hkl h,lO])
   generalize w.props.getD k p0=q at *
   have hcq:=Im q p w.bad
   rw[pM] at hcq
   generalize w.props.take i=pt at *
   cases h3:fitP w.bad p q
   ·rw[h3] at hcq
    (repeat' first|refine st ?_|refine sa fun xe hxe=>?_|refine sb (fun hq=>?_) fun hq=>?_|refine cr (hcq) ?_|exact aa)
    exact hnk h3
   ·rw[h3] at hcq
    (repeat' first|refine st ?_|refine sa fun xe hxe=>?_|refine sb (fun hq=>?_) fun hq=>?_|refine cr (hcq) ?_|exact aa)
    exact⟨k+1,⟨by omega,hyes h3⟩,by omega,rfl⟩
  ·have hAt:gC w.com w.bad w.props i=true:=by
    rw[hA,dj (fun j hj=>hkall j (by omega)),oneP,h1,h2]
    rfl
   (repeat' first|refine st ?_|refine sa fun xe hxe=>?_|refine sb (fun hq=>?_) fun hq=>?_|exact aa)
   exact⟨i+1,⟨by omega,cH hall hAt⟩,by omega,rfl⟩
 ·(repeat' first|refine st ?_|refine sa fun xe hxe=>?_|refine sb (fun hq=>?_) fun hq=>?_|exact aa)
  rw[dj (fun j hj=>hall j (by omega))]
  exact⟨rfl,rfl⟩
theorem Fk (c:List Int)(g:List Vtx)(hl:g.length≤2000000):ag Tryz.prog 111 [.lst (.int .i64) c,.lst .vtx g] [] (.bool (graS c g)) []:=by
 have hL:=wa c g hl
 refine ab eW Tryz.func111 rfl rfl false 0 4 rfl rfl rfl rfl fun K hK hb1 hb2=>?_;simp only[ae,enc,Nat.reduceAdd]
 clear hb1 hb2
 cases hg:graS c g
 ·simp only[DI,DH,hg,fg,if_false] at hL
  (repeat' first|refine j4 ?_|refine sa fun xe hxe=>?_|refine sb (fun hq=>?_) fun hq=>?_|refine cr (hL) ?_|exact aa)
  exact⟨rfl,rfl⟩
 ·simp only[DI,DH,hg,if_true] at hL
  cases g with
  |nil=>
   (repeat' first|refine j4 ?_|refine sa fun xe hxe=>?_|refine sb (fun hq=>?_) fun hq=>?_|refine cr (hL) ?_|exact aa)
   exact⟨rfl,rfl⟩
  |cons v g=>
   (repeat' first|refine j4 ?_|refine sa fun xe hxe=>?_|refine sb (fun hq=>?_) fun hq=>?_|refine cr (hL) ?_|exact aa)
   exact⟨rfl,rfl⟩
abbrev vo (w:Wrl)(v:Vtx):VH:=[(4,.var 58 [.int .i64 v.round,.int .i64 v.author,.lst (.int .i64) v.parents,.int .i64 v.digest]),(5,.var 31 [.lst (.int .i64) w.com,.lst (.int .i64) w.lead,.int .i64 w.bad,.lst (.lst .vtx) w.views,.lst .ppl w.props])]
theorem N8 (w:Wrl)(v:Vtx)(p:Ppl)(hc:comV w.com=true)(hm:d8 w.com p.members=true):ag Tryz.prog 113 [ue p,.ptr 4 0,.ptr 5 0] (vo w v) (.bool (lb p.v v && don w.com p)) (vo w v):=by
 refine ab aj Tryz.func113 rfl rfl false 2 6 rfl rfl rfl rfl fun K hK hb1 hb2=>?_;simp only[ae,enc,Nat.reduceAdd]
 clear hb1 hb2
 cases h1:lb p.v v
 ·(repeat' first|refine st ?_|refine sa fun xe hxe=>?_|refine sb (fun hq=>?_) fun hq=>?_|refine cr (nX _ _) ?_|refine cr (vW _ _ hc hm) ?_|exact aa)
  exact⟨rfl,rfl⟩
 ·(repeat' first|refine st ?_|refine sa fun xe hxe=>?_|refine sb (fun hq=>?_) fun hq=>?_|refine cr (nX _ _) ?_|refine cr (vW _ _ hc hm) ?_|exact aa)
  exact⟨rfl,rfl⟩
theorem Ll (w:Wrl)(v:Vtx)(ps:List Ppl)(hc:comV w.com=true)(hm:∀p∈ps,d8 w.com p.members=true):ag Tryz.prog 142 [.lst .ppl ps,.clo 113 [.ptr 4 0,.ptr 5 0]] (vo w v)
  (.int .i64 (match ps.findIdx? (fun p=>lb p.v v && don w.com p) with|some i=>(i:Int)|none=>-1)) (vo w v):=by
 refine ab aj Tryz.func142 rfl rfl false 2 6 rfl rfl rfl rfl fun K hK hb1 hb2=>?_;simp only[ae,enc,Nat.reduceAdd]
 clear hb2
 simp[ak,V.toD,bnd,ai,D.cells] at hb1
 (repeat' first|refine st ?_|refine sa fun xe hxe=>?_|refine sb (fun hq=>?_) fun hq=>?_|exact aa)
 refine ah hK [] [0,1,7,8] (fun i:Nat=>⟨[(0,.lst .ppl ps),(1,.clo 113 [.ptr 4 0,.ptr 5 0]),(7,.int .i64 ps.length),(8,.int .i64 i)],vo w v,6⟩) (fun i=>i≤ps.length∧∀y∈ps.take i,(lb y.v v && don w.com y)=false) (fun i=>ps.length-i) 0 ⟨by simp,by simp⟩ rfl ?_
 rintro i ⟨hi,hall⟩
 by_cases hlt:i<ps.length
 ·have hxe:ps[i]?=some ps[i]:=am hlt
  have h3:ps.take (i+1)=ps.take i++[ps[i]]:=ca hlt
  have h4:=rk (l:=ps) (p:=fun p=>lb p.v v && don w.com p) hxe hall
  have h5:=hm _ (be hlt)
  generalize ps[i]=p at *
  have hv:=N8 w v p hc h5
  cases h6:lb p.v v && don w.com p
  ·rw[h6] at hv
   (repeat' first|refine st ?_|refine sa fun xe hxe=>?_|refine sb (fun hq=>?_) fun hq=>?_|refine cr (hv) ?_|exact aa)
   exact⟨i+1,⟨by omega,by rw[h3];exact bM hall h6⟩,by omega,rfl⟩
  ·rw[h6] at hv
   (repeat' first|refine st ?_|refine sa fun xe hxe=>?_|refine sb (fun hq=>?_) fun hq=>?_|refine cr (hv) ?_|exact aa)
   rw[h4 h6]
   exact⟨rfl,rfl⟩
 ·(repeat' first|refine st ?_|refine sa fun xe hxe=>?_|refine sb (fun hq=>?_) fun hq=>?_|exact aa)
  rw[br (by omega)] at hall
  rw[px.2 hall]
  exact⟨rfl,rfl⟩
theorem NJ (w:Wrl)(v:Vtx)(ps:List Ppl)(hc:comV w.com=true)(hm:∀p∈ps,d8 w.com p.members=true):ag Tryz.prog 112 [.lst .ppl ps,.clo 113 [.ptr 4 0,.ptr 5 0]] (vo w v)
  (.bool (knw w.com ps v)) (vo w v):=by
 have hk:knw w.com ps v=(ps.findIdx? (fun p=>lb p.v v && don w.com p)).isSome:=by
  rw[List.findIdx?_isSome,knw]
  congr 1
  funext p
  rw[Bool.and_comm]
 refine ab aj Tryz.func112 rfl rfl false 2 6 rfl rfl rfl rfl fun K hK hb1 hb2=>?_;simp only[ae,enc,Nat.reduceAdd]
 (repeat' first|refine st ?_|refine sa fun xe hxe=>?_|refine sb (fun hq=>?_) fun hq=>?_|refine cr (Ll _ _ _ hc hm) ?_|exact aa)
 refine⟨?_,rfl⟩
 rw[hk]
 cases ps.findIdx? (fun p=>lb p.v v && don w.com p) with
 |none=>rfl
 |some i=>simp
theorem IA (w:Wrl)(hc:comV w.com=true)(hp:ia w.com w.bad w.props=true)(hl:∀g∈w.views,g.length≤2000000):ag Tryz.prog 73 [bd w] [] (.bool ((w.views.length==w.com.length) && gt w.com w.bad w.props w.views)) []:=by
 have hm:∀p∈w.props,d8 w.com p.members=true:=fun p hpp=>by
  obtain⟨i,hi,rfl⟩:=ed (d:=p0) hpp
  simp only[ia,aB,bD] at hp
  have:=hp.1 i hi
  simp only[gC,oneP,aB] at this
  exact this.1.2
 have h7:=(ay.1 hc).2
 refine ab aj Tryz.func73 rfl rfl false 0 4 rfl rfl rfl rfl fun K hK hb1 hb2=>?_;simp only[ae,enc,Nat.reduceAdd]
 simp[ak,V.toD,bnd,ai,D.cells] at hb1
 by_cases hlen:w.views.length=w.com.length
 ·have hb:(w.views.length==w.com.length)=true:=by simpa using hlen
  rw[hb,dX]
  (repeat' first|refine st ?_|refine sa fun xe hxe=>?_|refine sb (fun hq=>?_) fun hq=>?_|exact aa)
  refine ah hK [] [1,16,17,18] (fun i:Nat=>⟨[(1,.ptr 4 0),(16,.lst (.lst .vtx) w.views),(17,.int .i64 w.views.length),(18,.int .i64 i)],[(4,.var 31 (bd w).cells)],5⟩)
   (fun i=>i≤w.views.length∧∀j,j<i→(pp w.com w.props (w.views.getD j []) && (!((j:Int)==w.bad)||(w.views.getD j []).isEmpty))=true) (fun i=>w.views.length-i) 0 ⟨by simp,by simp⟩ rfl ?_
  rintro i ⟨hi,hall⟩
  by_cases hlt:i<w.views.length
  ·have hxe:w.views[i]?=some (w.views.getD i []):=by rw[aq,am hlt];rfl
   have hgl:=hl _ (bn hxe)
   have hno:(pp w.com w.props (w.views.getD i []) && (!((i:Int)==w.bad)||(w.views.getD i []).isEmpty))=false→V.bool false=V.bool (gt w.com w.bad w.props w.views)∧([]:VH)=[]:=fun h=>⟨by unfold gt;rw[dY hlt h],rfl⟩
   have hyes:=cH hall (p:=fun j=>pp w.com w.props (w.views.getD j []) && (!((j:Int)==w.bad)||(w.views.getD j []).isEmpty)) (i:=i)
   generalize w.views.getD i []=g at *
   have hvv:pp w.com w.props g=(g.all (knw w.com w.props) && graS w.com g):=rfl
   cases h1:graS w.com g
   ·(repeat' first|refine st ?_|refine sa fun xe hxe=>?_|refine sb (fun hq=>?_) fun hq=>?_|refine cr (Fk _ _ hgl) ?_|exact aa)
    exact hno (by rw[hvv,h1,lO,iJ])
   have hem:g.isEmpty=decide ((g.length:Int)=0):=by cases g<;>simp;omega
   by_cases h2:(i:Int)=w.bad∧¬(g.length:Int)=0
   ·have hb1:((i:Int)==w.bad)=true:=by simpa using h2.1
    (repeat' first|refine st ?_|refine sa fun xe hxe=>?_|refine sb (fun hq=>?_) fun hq=>?_|refine cr (Fk _ _ hgl) ?_|exact aa)
    exact hno (by rw[hb1,hem,decide_eq_false h2.2];simp)
   have hok2:(!((i:Int)==w.bad)||g.isEmpty)=true:=by
    rw[hem]
    by_cases hb:(i:Int)=w.bad
    ·have:(g.length:Int)=0:=Classical.byContradiction fun h=>h2 ⟨hb,h⟩
     simp[this]
    ·simp[hb]
   have hkn:∀v,ag Tryz.prog 112 [.lst .ppl w.props,.clo 113 [.ptr 4 0,.ptr 5 0]] (vo w v) (.bool (knw w.com w.props v)) (vo w v):=fun v=>NJ w v _ hc hm
   (repeat' first|refine st ?_|refine sa fun xe hxe=>?_|refine sb (fun hq=>?_) fun hq=>?_|refine cr (Fk _ _ hgl) ?_|exact aa)
   all_goals
    refine ah hK [] [1,16,17,18,39,40,41] (fun k:Nat=>⟨[(1,.ptr 4 0),(16,.lst (.lst .vtx) w.views),(17,.int .i64 w.views.length),(18,.int .i64 i),(39,.lst .vtx g),(40,.int .i64 g.length),(41,.int .i64 k)],[(4,.var 31 (bd w).cells)],5⟩)
     (fun k=>k≤g.length∧∀v∈g.take k,knw w.com w.props v=true) (fun k=>g.length-k) 0 ⟨by simp,by simp⟩ rfl ?_
    rintro k ⟨hk,hkall⟩
    by_cases hkl:k<g.length
    ·have hxk:g[k]?=some g[k]:=am hkl
     have hsn:g.take (k+1)=g.take k++[g[k]]:=ca hkl
     have hvm:g[k]∈g:=be hkl
     generalize g[k]=v at *
     have hkv:=hkn v
     cases h3:knw w.com w.props v
     ·rw[h3] at hkv
      (repeat' first|refine st ?_|refine sa fun xe hxe=>?_|refine sb (fun hq=>?_) fun hq=>?_|refine cr (hkv) ?_|exact aa)
      have:g.all (knw w.com w.props)=false:=by
       rw[cj]
       intro h
       rw[aM.1 h v hvm] at h3
       cases h3
      exact hno (by rw[hvv,this,iJ,iJ])
     ·rw[h3] at hkv
      (repeat' first|refine st ?_|refine sa fun xe hxe=>?_|refine sb (fun hq=>?_) fun hq=>?_|refine cr (hkv) ?_|exact aa)
      exact⟨k+1,⟨by omega,by rw[hsn];exact bM hkall h3⟩,by omega,rfl⟩
    ·rw[br (by omega)] at hkall
     (repeat' first|refine st ?_|refine sa fun xe hxe=>?_|refine sb (fun hq=>?_) fun hq=>?_|exact aa)
     exact⟨i+1,⟨by omega,hyes (by rw[hvv,aM.2 hkall,h1,hok2];rfl)⟩,by omega,rfl⟩
  ·(repeat' first|refine st ?_|refine sa fun xe hxe=>?_|refine sb (fun hq=>?_) fun hq=>?_|exact aa)
   unfold gt
   rw[dj (fun j hj=>hall j (by omega))]
   exact⟨rfl,rfl⟩
 ·have hb:(w.views.length==w.com.length)=false:=by simpa using hlen
  rw[hb,iJ]
  (repeat' first|refine st ?_|refine sa fun xe hxe=>?_|refine sb (fun hq=>?_) fun hq=>?_|exact aa)
  exact⟨rfl,rfl⟩
theorem oM (v:Vtx)(hl:v.parents.length≤1000000):ag Tryz.prog 116 [de v] [] (.agg [.int .i64 v.round,.int .i64 v.author,.ref 4,.int .i64 v.digest]) [(4,.row 3 (.int .i64) v.parents)]:=by
 refine ab aj Tryz.func116 rfl rfl false 0 4 rfl rfl rfl rfl fun K hK hb1 hb2=>?_;simp only[ae,enc,Nat.reduceAdd]
 (repeat' first|refine st ?_|refine sa fun xe hxe=>?_|refine sb (fun hq=>?_) fun hq=>?_|exact aa)
 exact⟨rfl,rfl⟩
theorem Ks (g:List Vtx)(hg:∀v∈g,jq v∧v.parents.length≤1000):ag Tryz.prog 75 [.lst .vtx g] [] (.ptr 4 0) [(4,.vari 148 [] 217 (.ob .vtx) (aT g) [])]:=by
 refine ab aj Tryz.func75 rfl rfl false 0 4 rfl rfl rfl rfl fun K hK hb1 hb2=>?_;simp only[ae,enc,Nat.reduceAdd]
 simp[ak,V.toD,bnd,ai,D.cells] at hb1
 (repeat' first|refine st ?_|refine sa fun xe hxe=>?_|refine sb (fun hq=>?_) fun hq=>?_|exact aa)
 refine DU 4 0 217 (.ob .vtx) ?_
 ((conv=>whnf);refine L1 (by kernel_rfl) ?_;(conv=>whnf))
 refine ah hK [] [3,9,10,11] (fun i:Nat=>⟨[(3,.ptr 4 0),(9,.lst .vtx g),(10,.int .i64 g.length),(11,.int .i64 (i:Int))],[(4,.vari 148 [] 217 (.ob .vtx) (aT (g.take i)) [])],5⟩) (fun i=>i≤g.length) (fun i=>g.length-i) 0 (by simp) rfl ?_
 intro i hi
 by_cases hlt:i<g.length
 ·have hxe:g[i]?=some g[i]:=am hlt
  have hsn:g.take (i+1)=g.take i++[g[i]]:=ca hlt
  obtain⟨⟨⟨v1,v2⟩,v3,v4⟩,v5⟩:=hg _ (be hlt)
  have hl2:=ef (g.take i)
  have hst:aT (g.take (i+1))=(aT (g.take i)).set (g[i].round*7+g[i].author).toNat (some g[i]):=by rw[hsn,jj]
  generalize g[i]=v at *
  generalize aT (g.take i)=s at *
  (repeat' first|refine st ?_|refine sa fun xe hxe=>?_|refine sb (fun hq=>?_) fun hq=>?_|((with_reducible refine fF ?_);(conv=>whnf);(first|with_reducible refine bg (oM _ (by omega)) ?_);conv=>whnf)|exact aa)
  refine⟨i+1,by omega,by omega,?_⟩
  have hix:(v.round*7+v.author).toNat=v.round.toNat * 7+v.author.toNat:=by omega
  rw[hst,hix]
  rfl
 ·rw[br (by omega)]
  (repeat' first|refine st ?_|refine sa fun xe hxe=>?_|refine sb (fun hq=>?_) fun hq=>?_|exact aa)
  exact⟨rfl,rfl⟩
def Θw:TT:=(118,⟨.ptr 148,1,8,some (.nilp),some (.hp 0),false⟩)::(93,⟨.struct [(58,0,4),(27,4,1)],5,72,some (.agg [.int .i64 0,.int .i64 0,.nils,.int .i64 0,.nils]),some (.pplm 1),false⟩)::Θ
theorem bV:TT.ok Tryz.prog Θw:=TT.okB_ok (by kernel_rfl)
theorem ch {P Q:Prop}(h:Q)(s:Hid Q→P:=by
  intro h
  (first|(with_reducible first|apply dZ|apply cZ)|((first|with_reducible apply cN bV|refine go ?_|(with_reducible first|apply dk|apply dy|apply cL|apply cO|refine cM bV mixed (by kernel_rfl) ?_))<;>conv=>whnf))
  repeat(first|(with_reducible first|apply dZ|apply cZ)|((first|with_reducible apply cN bV|refine go ?_|(with_reducible first|apply dk|apply dy|apply cL|apply cO|refine cM bV mixed (by kernel_rfl) ?_))<;>conv=>whnf))
  exact h.h):P:=s ⟨h⟩
def ud (ps:List Ppl):List PplM:=ps.zipIdx.map fun x=>⟨x.1.v,some x.2⟩
theorem nh (ps:List Ppl):(ud ps).length=ps.length:=by simp[ud]
def O8:PplM:=⟨⟨0,0,[],0⟩,none⟩
def F9 (ps:List Ppl)(i:Nat):List PplM:=ud (ps.take i)++List.replicate (ps.length-i) O8
theorem IY (ps:List Ppl)(i:Nat)(hi:i≤ps.length):(F9 ps i).length=ps.length:=by
 simp only[F9,aO,nh,bQ,iG];omega
theorem IZ {ps:List Ppl}{i:Nat}(h:i<ps.length):(F9 ps i).set i ⟨ps[i].v,some i⟩=F9 ps (i+1):=by
 have h1:(ud (ps.take i)).length=i:=by rw[nh,bQ];omega
 have h2:ps.length-i=(ps.length-(i+1))+1:=by omega
 unfold F9
 rw[List.set_append_right _ _ (by omega),h1,kr,h2,List.replicate_succ,List.set_cons_zero]
 have h4:ud (ps.take (i+1))=ud (ps.take i)++[⟨ps[i].v,some i⟩]:=by
  rw[ca h]
  simp only[ud,List.zipIdx_append,cg,bQ,mO (Nat.le_of_lt h),mG,List.zipIdx_nil,bB,eD,fh]
 rw[h4,bJ]
 rfl
theorem Lf (ps:List Ppl)(hv:∀p∈ps,p.v.parents.length≤1000000∧p.members.length≤1000000)(hl:ps.length≤1000000):ag Tryz.prog 76 [.lst .ppl ps] [] (.ref 4) [(1,.frow 3 (.int .i64) (ps.map (·.members))),(4,.row 93 (.pplm 1) (ud ps))]:=by
 refine ab bV Tryz.func76 rfl rfl false 0 4 rfl rfl rfl rfl fun K hK hb1 hb2=>?_;simp only[ae,enc,Nat.reduceAdd]
 clear hb1 hb2
 (repeat' first|refine ch ?_|refine sa fun xe hxe=>?_|refine sb (fun hq=>?_) fun hq=>?_|exact aa)
 refine vg 1 (.frow 3 (.int .i64) []) rfl ?_
 refine ah hK [] [3,9,10,11] (fun i:Nat=>⟨[(3,.ref 4),(9,.lst .ppl ps),(10,.int .i64 ps.length),(11,.int .i64 (i:Int))],[(1,.frow 3 (.int .i64) ((ps.take i).map (·.members))),(4,.row 93 (.pplm 1) (F9 ps i))],5⟩) (fun i=>i≤ps.length) (fun i=>ps.length-i) 0 (by simp) (by rw[show F9 ps 0=List.replicate (ps.length:Int).toNat O8 by simp[F9,ud]];rfl) ?_
 intro i hi
 by_cases hlt:i<ps.length
 ·have hxe:ps[i]?=some ps[i]:=am hlt
  have hsn:ps.take (i+1)=ps.take i++[ps[i]]:=ca hlt
  obtain⟨v1,v2⟩:=hv _ (be hlt)
  have hpl:=IY ps i hi
  have hst:=IZ hlt
  have hfl:((ps.take i).map (·.members)).length=i:=by rw[az,bQ];omega
  generalize ps[i]=p at *
  generalize F9 ps i=s at *
  (repeat' first|refine ch ?_|refine sa fun xe hxe=>?_|refine sb (fun hq=>?_) fun hq=>?_|refine cr (oM _ v1) ?_|exact aa)
  refine⟨i+1,by omega,by omega,?_⟩
  rw[←hst,hsn,cg,hfl]
  rfl
 ·(repeat' first|refine ch ?_|refine sa fun xe hxe=>?_|refine sb (fun hq=>?_) fun hq=>?_|exact aa)
  rw[br (by omega),show F9 ps i=ud ps by rw[F9,br (by omega),show ps.length-i=0 by omega];simp]
  exact⟨rfl,rfl⟩
theorem Nm (tabs:List (List (Option Vtx)))(k:Nat)(tab:List (Option Vtx))(v:Vtx)(hk:tabs[k]?=some tab)(ht:tab.length=217)(hr:v.parents≠[]→1≤v.round∧v.round≤31)(hp:∀p∈v.parents,0≤p∧p≤6):ag Tryz.prog 117 [.fptr 0 k 0,de v] [(0,.fvari 148 217 (.ob .vtx) tabs)] (.bool (qY tab v)) [(0,.fvari 148 217 (.ob .vtx) tabs)]:=by
 refine ab aj Tryz.func117 rfl rfl false 0 4 rfl rfl rfl rfl fun K hK hb1 hb2=>?_;simp only[ae,enc,Nat.reduceAdd]
 simp[ak,V.toD,bnd,ai,D.cells] at hb1
 (repeat' first|refine st ?_|refine sa fun xe hxe=>?_|refine sb (fun hq=>?_) fun hq=>?_|exact aa)
 refine ah hK [] [0,3,8,9,10] (fun i:Nat=>⟨[(0,.fptr 0 k 0),(3,.ptr 4 0),(8,.lst (.int .i64) v.parents),(9,.int .i64 v.parents.length),(10,.int .i64 (i:Int))],[(0,.fvari 148 217 (.ob .vtx) tabs),(4,.var 58 (de v).cells)],5⟩) (fun i=>i≤v.parents.length∧∀p∈v.parents.take i,(tab.getD ((v.round-1)*7+p).toNat none).isSome=true) (fun i=>v.parents.length-i) 0 (by simp) rfl ?_
 rintro i ⟨hi,hall⟩
 by_cases hlt:i<v.parents.length
 ·have hxe:v.parents[i]?=some v.parents[i]:=am hlt
  have h3:v.parents.take (i+1)=v.parents.take i++[v.parents[i]]:=ca hlt
  have h4:v.parents[i]∈v.parents:=be hlt
  have h5:=hr (List.ne_nil_of_mem h4)
  have h6:=hp _ h4
  generalize v.parents[i]=p at *
  have hix:((v.round-1)*7+p).toNat=(v.round-1).toNat * 7+p.toNat:=by omega
  (repeat' first|refine st ?_|refine sa fun xe hxe=>?_|refine sb (fun hq=>?_) fun hq=>?_|exact aa)
  ·have hxe:tab[(v.round-1).toNat * 7+p.toNat]?=some xe:=hxe
   have:qY tab v=false:=by
    rw[cj]
    intro h
    have h:=aM.1 h p h4
    rw[hix,aq,hxe,eg] at h
    have hq:xe=none:=by simpa using hq
    rw[hq] at h
    cases h
   rw[this]
   exact⟨rfl,rfl⟩
  ·have hxe:tab[(v.round-1).toNat * 7+p.toNat]?=some xe:=hxe
   refine⟨i+1,⟨by omega,?_⟩,by omega,rfl⟩
   rw[h3]
   refine bM hall ?_
   rw[hix,aq,hxe,eg]
   have hq:Option.isNone xe=false:=hq
   simpa[Option.isNone_iff_eq_none,Option.isSome_iff_ne_none] using hq
 ·(repeat' first|refine st ?_|refine sa fun xe hxe=>?_|refine sb (fun hq=>?_) fun hq=>?_|exact aa)
  rw[br (by omega)] at hall
  have:qY tab v=true:=aM.2 hall
  rw[this]
  exact⟨rfl,rfl⟩
abbrev rB (c l:List Int)(b:Int)(tabs:List (List (Option Vtx)))(ps:List Ppl):VH:=[(0,.fvari 148 217 (.ob .vtx) tabs),(1,.frow 3 (.int .i64) (ps.map (·.members))),(4,.var 117 [.int .i32 0,.int .u32 0,.lst (.int .i64) c,.lst (.int .i64) l,.int .i64 b,.ref 5,.ref 6]),(5,.row 118 (.hp 0) ((List.range tabs.length).map some)),(6,.row 93 (.pplm 1) (ud ps))]
theorem wh {ps:List Ppl}{i:Nat}{p:Ppl}(h:ps[i]?=some p):(ud ps)[i]?=some ⟨p.v,some i⟩:=by
 simp[ud,bf,List.getElem?_zipIdx,h]
theorem Ek (tabs:List (List (Option Vtx)))(k:Nat)(tab:List (Option Vtx))(v:Vtx)(hk:tabs[k]?=some tab)(ht:tab.length=217)(hr:v.parents≠[]→1≤v.round∧v.round≤31)(hp:∀p∈v.parents,0≤p∧p≤6):ag Tryz.prog 117 [.hpo 0 (some k),de v] [(0,.fvari 148 217 (.ob .vtx) tabs)] (.bool (qY tab v)) [(0,.fvari 148 217 (.ob .vtx) tabs)]:=by
 have h:=Nm tabs k tab v hk ht hr hp
 unfold ag at h⊢
 exact h
set_option maxHeartbeats 1000000 in
theorem NB (c l:List Int)(b:Int)(tabs:List (List (Option Vtx)))(ps:List Ppl)(ht:∀t∈tabs,t.length=217)(htl:tabs.length≤7)(hpn:ps.length≤1000000)(hp:∀p∈ps,Od tabs.length p):ag Tryz.prog 77 [.ptr 4 0] (rB c l b tabs ps) (.bool (ya b tabs ps)) (rB c l b tabs ps):=by
 refine ab bV Tryz.func77 rfl rfl false 3 7 rfl rfl rfl rfl fun K hK hb1 hb2=>?_;simp only[ae,enc,Nat.reduceAdd]
 clear hb1 hb2
 have hpl:=nh ps
 (repeat' first|refine ch ?_|refine sa fun xe hxe=>?_|refine sb (fun hq=>?_) fun hq=>?_|exact aa)
 refine ah hK [] [0,10,11,12] (fun i:Nat=>⟨[(0,.ptr 4 0),(10,.ref 6),(11,.int .i64 ps.length),(12,.int .i64 (i:Int))],rB c l b tabs ps,7⟩) (fun i=>i≤ps.length∧∀p∈ps.take i,M7 b tabs p.v (p.v.author::p.members)=true) (fun i=>ps.length-i) 0 (by simp) (by simp only[hpl];rfl) ?_
 rintro i ⟨hi,hall⟩
 by_cases hlt:i<ps.length
 ·have hxe:ps[i]?=some ps[i]:=am hlt
  have hsn:ps.take (i+1)=ps.take i++[ps[i]]:=ca hlt
  have hpm:ps[i]∈ps:=be hlt
  have hno:M7 b tabs ps[i].v (ps[i].v.author::ps[i].members)=false→ya b tabs ps=false:=fun h=>by
   rw[cj]
   intro h2
   rw[aM.1 h2 _ hpm] at h
   cases h
  obtain⟨p1,p2,p3,p4,p5⟩:=hp _ hpm
  have hx1:=wh hxe
  have hx2:(ps.map (·.members))[i]?=some ps[i].members:=by rw[bf,hxe];rfl
  have hfl:(ps.map (·.members)).length=ps.length:=az ..
  generalize ps[i]=p at *
  (repeat' first|refine ch ?_|refine sa fun xe hxe=>?_|refine sb (fun hq=>?_) fun hq=>?_|exact aa)
  refine ah hK [] [0,4,10,11,12,22,23,24] (fun j:Nat=>⟨[(0,.ptr 4 0),(4,.ptr 7 0),(10,.ref 6),(11,.int .i64 ps.length),(12,.int .i64 (i:Int)),(22,.ref 8),(23,.int .i64 ((p.v.author::p.members).length:Nat)),(24,.int .i64 (j:Int))],rB c l b tabs ps++[(7,VB.var 93 [.int .i64 p.v.round,.int .i64 p.v.author,.lst (.int .i64) p.v.parents,.int .i64 p.v.digest,.hro 1 (some i)]),(8,VB.row 3 (.int .i64) (p.v.author::p.members))],9⟩) (fun j=>j≤(p.v.author::p.members).length∧∀m∈(p.v.author::p.members).take j,(m==b||qY (tabs.getD m.toNat []) p.v)=true) (fun j=>(p.v.author::p.members).length-j) 0 (by simp) (by(conv=>whnf);rfl) ?_
  rintro j ⟨hj,hjall⟩
  have hnl:(p.v.author::p.members).length≤1000001:=by simp only[bH];omega
  have hkk:(∀m∈p.v.author::p.members,(m==b||qY (tabs.getD m.toNat []) p.v)=true)→M7 b tabs p.v (p.v.author::p.members)=true:=fun h=>aM.2 h
  have hkn:∀m∈p.v.author::p.members,(m==b||qY (tabs.getD m.toNat []) p.v)=false→M7 b tabs p.v (p.v.author::p.members)=false:=fun m hm h=>by
   rw[cj]
   intro h2
   rw[aM.1 h2 _ hm] at h
   cases h
  generalize hms:p.v.author::p.members=ms at *
  by_cases hjl:j<ms.length
  ·have hye:ms[j]?=some ms[j]:=am hjl
   have hjs:ms.take (j+1)=ms.take j++[ms[j]]:=ca hjl
   have hjm:ms[j]∈ms:=be hjl
   have hxr:=p1 _ hjm
   have hkn:=hkn _ hjm
   generalize ms[j]=m at *
   have hxt:tabs[m.toNat]?=some (tabs.getD m.toNat []):=by
    rw[aq,am (show m.toNat<tabs.length by omega)];rfl
   have hxv:((List.range tabs.length).map some)[m.toNat]?=some (some m.toNat):=by
    rw[bf,oe (show m.toNat<tabs.length by omega)];rfl
   have hvl:((List.range tabs.length).map some).length=tabs.length:=by simp
   have hC:=Ek tabs m.toNat _ p.v hxt (ht _ (bn hxt)) p2 p3
   by_cases hmb:m=b
   ·subst hmb
    (repeat' first|refine ch ?_|refine sa fun xe hxe=>?_|refine sb (fun hq=>?_) fun hq=>?_|exact aa)
    ·exact absurd trivial hq
    ·refine⟨j+1,⟨by omega,by rw[hjs];exact bM hjall (by simp)⟩,by omega,rfl⟩
   ·cases h1:qY (tabs.getD m.toNat []) p.v
    ·rw[h1] at hC
     (repeat' first|refine ch ?_|refine sa fun xe hxe=>?_|refine sb (fun hq=>?_) fun hq=>?_|refine co (hC) ?_|exact aa)
     exact⟨by rw[hno (hkn (by rw[h1,kq];simpa using hmb))],rfl⟩
    ·rw[h1] at hC
     (repeat' first|refine ch ?_|refine sa fun xe hxe=>?_|refine sb (fun hq=>?_) fun hq=>?_|refine co (hC) ?_|exact aa)
     exact⟨j+1,⟨by omega,by rw[hjs];exact bM hjall (by rw[h1,Bool.or_true])⟩,by omega,rfl⟩
  ·(repeat' first|refine ch ?_|refine sa fun xe hxe=>?_|refine sb (fun hq=>?_) fun hq=>?_|exact aa)
   rw[br (by omega)] at hjall
   exact⟨i+1,⟨by omega,by rw[hsn];exact bM hall (by rw[hms];exact hkk hjall)⟩,by omega,rfl⟩
 ·(repeat' first|refine ch ?_|refine sa fun xe hxe=>?_|refine sb (fun hq=>?_) fun hq=>?_|exact aa)
  rw[br (by omega)] at hall
  have:ya b tabs ps=true:=aM.2 hall
  rw[this]
  exact⟨rfl,rfl⟩
def Hq (w:Wrl):V:=if gy w then .tup [.ptr 4 0,.bool (ya w.bad (w.views.map aT) w.props)] else .tup [.nilp,.bool false]
def Hp (w:Wrl):VH:=if gy w then rB w.com w.lead w.bad (w.views.map aT) w.props else[]
def IR (w:Wrl):Nat→VSt
 |0=>⟨[(1,.ptr 4 0),(4,.ptr 5 0),(42,.lst (.lst .vtx) w.views),(43,.int .i64 w.views.length),(44,.int .i64 0)],[(0,.fvari 148 217 (.ob .vtx) []),(4,.var 31 (bd w).cells),(5,.var 117 [.int .i32 0,.int .u32 0,.lst (.int .i64) w.com,.lst (.int .i64) w.lead,.int .i64 w.bad,.nils,.nils])],6⟩
 |i+1=>⟨[(1,.ptr 4 0),(4,.ptr 5 0),(42,.lst (.lst .vtx) w.views),(43,.int .i64 w.views.length),(44,.int .i64 ((i+1:Nat):Int))],[(0,.fvari 148 217 (.ob .vtx) ((w.views.take (i+1)).map aT)),(4,.var 31 (bd w).cells),(5,.var 117 [.int .i32 0,.int .u32 0,.lst (.int .i64) w.com,.lst (.int .i64) w.lead,.int .i64 w.bad,.ref 6,.nils]),(6,.row 118 (.hp 0) ((List.range (i+1)).map some))],7⟩
set_option maxHeartbeats 1000000 in
theorem BH (w:Wrl)(hl:∀g∈w.views,g.length≤2000000):ag Tryz.prog 38 [bd w] [] (Hq w) (Hp w):=by
 have hno:gy w=false→V.tup [.nilp,.bool false]=Hq w∧([]:VH)=Hp w:=fun h=>by simp[Hq,Hp,h]
 refine ab bV Tryz.func38 rfl rfl false 0 4 rfl rfl rfl rfl fun K hK hb1 hb2=>?_;simp only[ae,enc,Nat.reduceAdd]
 clear hb1 hb2
 have hL:=rv w.com w.lead
 cases h1:comV w.com && leaS w.com w.lead
 ·rw[h1] at hL
  (repeat' first|refine ch ?_|refine sa fun xe hxe=>?_|refine sb (fun hq=>?_) fun hq=>?_|refine cr (hL) ?_|exact aa)
  exact hno (by
   rw[nO] at h1
   rcases h1 with h1|h1<;>simp[gy,iP,h1])
 rw[h1] at hL
 have hc:comV w.com=true:=(Bool.and_eq_true_iff.1 h1).1
 have hle:leaS w.com w.lead=true:=(Bool.and_eq_true_iff.1 h1).2
 have hB:=Ix w.com w.bad hc
 cases h2:badS w.com w.bad
 ·rw[h2] at hB
  (repeat' first|refine ch ?_|refine sa fun xe hxe=>?_|refine sb (fun hq=>?_) fun hq=>?_|refine cr (hL) ?_|refine cr (hB) ?_|exact aa)
  exact hno (by simp[gy,iP,h2])
 rw[h2] at hB
 have hP:=Iw w hc
 cases h3:ia w.com w.bad w.props
 ·rw[h3] at hP
  (repeat' first|refine ch ?_|refine sa fun xe hxe=>?_|refine sb (fun hq=>?_) fun hq=>?_|refine cr (hL) ?_|refine cr (hB) ?_|refine cr (hP) ?_|exact aa)
  exact hno (by simp[gy,iP,h3])
 rw[h3] at hP
 have hV:=IA w hc h3 hl
 cases h4:(w.views.length==w.com.length) && gt w.com w.bad w.props w.views
 ·rw[h4] at hV
  (repeat' first|refine ch ?_|refine sa fun xe hxe=>?_|refine sb (fun hq=>?_) fun hq=>?_|refine cr (hL) ?_|refine cr (hB) ?_|refine cr (hP) ?_|refine cr (hV) ?_|exact aa)
  exact hno (by simp only[gy,h4];simp)
 rw[h4] at hV
 have hpre:gy w=true:=by simp[gy,iP,hc,hle,h2,h3];simpa using h4
 have hR:Hq w= .tup [.ptr 4 0,.bool (ya w.bad (w.views.map aT) w.props)]:=by simp[Hq,hpre]
 have hO:Hp w=rB w.com w.lead w.bad (w.views.map aT) w.props:=by simp[Hp,hpre]
 rw[hR,hO]
 have h7:=(ay.1 hc).2
 have hll:=(bS.1 hle).2
 have hvl:w.views.length=w.com.length:=(n5 hpre).2.2.2.2.1
 have hne:w.com≠[]:=fun h=>by rw[h] at h7;simp at h7
 have hCm:=Fd w.com (by omega)
 have hCl:=Fd w.lead (by omega)
 (repeat' first|refine ch ?_|refine sa fun xe hxe=>?_|refine sb (fun hq=>?_) fun hq=>?_|refine cr (hL) ?_|refine cr (hB) ?_|refine cr (hP) ?_|refine cr (hV) ?_|refine cr (hCm) ?_|refine cr (hCl) ?_|exact aa)
 refine vg 0 (.fvari 148 217 (.ob .vtx) []) rfl ?_
 refine ah hK [] [1,4,42,43,44] (IR w) (fun i=>i≤w.views.length) (fun i=>w.views.length-i) 0 (by simp) (by(conv=>whnf);rfl) ?_
 intro i hi
 have hps:=rH hpre
 have hpl:=ni h3
 have ht7:∀t∈w.views.map aT,t.length=217:=fun t h=>by
  obtain⟨g,_,rfl⟩:=aD.1 h
  exact ef g
 have hml:(w.views.map aT).length=w.views.length:=az ..
 by_cases hlt:i<w.views.length
 ·have hgm:w.views[i]∈w.views:=be hlt
  have hxe:w.views[i]?=some w.views[i]:=am hlt
  have hsn:w.views.take (i+1)=w.views.take i++[w.views[i]]:=ca hlt
  have hg:=o4 hpre _ hgm
  generalize w.views[i]=g at *
  cases i with
  |zero=>
   have hx0:w.views[(0:Int).toNat]?=some g:=hxe
   have hst:IR w (0+1)=⟨[(1,.ptr 4 0),(4,.ptr 5 0),(42,.lst (.lst .vtx) w.views),(43,.int .i64 w.views.length),(44,.int .i64 ((0+1:Nat):Int))],[(0,.fvari 148 217 (.ob .vtx) [aT g]),(4,.var 31 (bd w).cells),(5,.var 117 [.int .i32 0,.int .u32 0,.lst (.int .i64) w.com,.lst (.int .i64) w.lead,.int .i64 w.bad,.ref 6,.nils]),(6,.row 118 (.hp 0) [some 0])],7⟩:=by
    rw[IR,hsn]
    rfl
   have hs0:IR w 0=⟨[(1,.ptr 4 0),(4,.ptr 5 0),(42,.lst (.lst .vtx) w.views),(43,.int .i64 w.views.length),(44,.int .i64 0)],[(0,.fvari 148 217 (.ob .vtx) []),(4,.var 31 (bd w).cells),(5,.var 117 [.int .i32 0,.int .u32 0,.lst (.int .i64) w.com,.lst (.int .i64) w.lead,.int .i64 w.bad,.nils,.nils])],6⟩:=rfl
   rw[hs0]
   (repeat' first|refine ch ?_|refine sa fun xe hxe=>?_|refine sb (fun hq=>?_) fun hq=>?_|refine cr (Ks g hg) ?_|exact aa)
   refine⟨0+1,by omega,by omega,?_⟩
   rw[hst]
   rfl
  |succ i=>
   have hfl:((w.views.take (i+1)).map aT).length=i+1:=by rw[az,bQ];omega
   have hrl:((List.range (i+1)).map some).length=i+1:=by simp
   have hst:IR w (i+1+1)=⟨[(1,.ptr 4 0),(4,.ptr 5 0),(42,.lst (.lst .vtx) w.views),(43,.int .i64 w.views.length),(44,.int .i64 ((i+1+1:Nat):Int))],[(0,.fvari 148 217 (.ob .vtx) ((w.views.take (i+1)).map aT++[aT g])),(4,.var 31 (bd w).cells),(5,.var 117 [.int .i32 0,.int .u32 0,.lst (.int .i64) w.com,.lst (.int .i64) w.lead,.int .i64 w.bad,.ref 6,.nils]),(6,.row 118 (.hp 0) ((List.range (i+1)).map some++[some (i+1)]))],7⟩:=by
    rw[IR,hsn,cg,mH,cg]
    rfl
   have hs0:IR w (i+1)=⟨[(1,.ptr 4 0),(4,.ptr 5 0),(42,.lst (.lst .vtx) w.views),(43,.int .i64 w.views.length),(44,.int .i64 ((i+1:Nat):Int))],[(0,.fvari 148 217 (.ob .vtx) ((w.views.take (i+1)).map aT)),(4,.var 31 (bd w).cells),(5,.var 117 [.int .i32 0,.int .u32 0,.lst (.int .i64) w.com,.lst (.int .i64) w.lead,.int .i64 w.bad,.ref 6,.nils]),(6,.row 118 (.hp 0) ((List.range (i+1)).map some))],7⟩:=rfl
   rw[hs0]
   clear hs0
   generalize (w.views.take (i+1)).map aT=ts at *
   generalize (List.range (i+1)).map some=rs at *
   (repeat' first|refine ch ?_|refine sa fun xe hxe=>?_|refine sb (fun hq=>?_) fun hq=>?_|refine cr (Ks g hg) ?_|exact aa)
   refine⟨i+1+1,by omega,by omega,?_⟩
   rw[hst,hfl]
   rfl
 ·have hi':i=w.views.length:=by omega
  have hK:=NB w.com w.lead w.bad (w.views.map aT) w.props ht7 (by omega) (by omega) (by rw[hml];exact hps)
  have hCp:=Lf w.props (fun p hp=>⟨by have:=(hps p hp).2.2.2.2;omega,by have:=(hps p hp).2.2.2.1;omega⟩) (by omega)
  cases i with
  |zero=>omega
  |succ i=>
   have hs0:IR w (i+1)=⟨[(1,.ptr 4 0),(4,.ptr 5 0),(42,.lst (.lst .vtx) w.views),(43,.int .i64 w.views.length),(44,.int .i64 ((i+1:Nat):Int))],[(0,.fvari 148 217 (.ob .vtx) (w.views.map aT)),(4,.var 31 (bd w).cells),(5,.var 117 [.int .i32 0,.int .u32 0,.lst (.int .i64) w.com,.lst (.int .i64) w.lead,.int .i64 w.bad,.ref 6,.nils]),(6,.row 118 (.hp 0) ((List.range (w.views.map aT).length).map some))],7⟩:=by
    rw[IR,br (by omega),hml,←hi']
   rw[hs0]
   clear hs0
   generalize hts:w.views.map aT=ts at *
   (repeat' first|refine ch ?_|refine sa fun xe hxe=>?_|refine sb (fun hq=>?_) fun hq=>?_|refine cr (hCp) ?_|refine co (hK) ?_|exact aa)
   exact⟨rfl,rfl⟩
theorem tA {α:Type}(c:List α)(a:List α)(x:α){i:Nat}(hc:c.length=i)(hi:i<a.length):(c++a.drop i).set i x=(c++[x])++a.drop (i+1):=by
 rw[List.set_append_right _ _ (by omega),hc,kr,nQ hi]
 simp only[List.set_cons_zero,bJ,List.singleton_append]
theorem tc {α:Type}(c:List α)(a:List α){i:Nat}(hc:c.length=i)(hi:i<a.length):i<(c++a.drop i).length:=by simp;omega
theorem Hf {tab:List (Option Vtx)}{n:Nat}{o:Option Vtx}(h:tab[n]?=some o):fX (tab.take (n+1))=fX (tab.take n)++o.toList:=by
 obtain⟨hl,rfl⟩:=aQ.1 h
 rw[ca hl]
 simp only[fX,List.filterMap_append]
 cases tab[n]<;>rfl
theorem JM (tab:List (Option Vtx)):(fX tab).length≤tab.length:=List.length_filterMap_le ..
set_option maxHeartbeats 1000000 in
theorem LD (tabs:List (List (Option Vtx)))(k:Nat)(tab:List (Option Vtx))(hk:tabs[k]?=some tab)(ht:tab.length=217)(hv:∀v,some v∈tab→v.parents.length≤1000000):ag Tryz.prog 79 [.fptr 0 k 0] [(0,.fvari 148 217 (.ob .vtx) tabs)] (.lst .vtx (fX tab)) [(0,.fvari 148 217 (.ob .vtx) tabs)]:=by
 refine ab aj Tryz.func79 rfl rfl true 0 4 rfl rfl rfl rfl fun K hK hb1 hb2=>?_;simp only[ae,enc,Nat.reduceAdd]
 clear hb1 hb2
 have hat:∀n,n<217→tab[n]?=some (tab.getD n none):=fun n hn=>by rw[aq,am (by omega)];rfl
 (repeat' first|refine st ?_|refine sa fun xe hxe=>?_|refine sb (fun hq=>?_) fun hq=>?_|exact aa)
 refine ah hK [] [3,9,11] (fun r:Nat=>⟨[(3,.ref 4),(9,.fptr 0 k 0),(11,.int .i64 (r:Int))],[(0,.fvari 148 217 (.ob .vtx) tabs),(4,.row 58 .vtx (fX (tab.take (r*7))))],5⟩) (fun r=>r≤31) (fun r=>31-r) 0 (by omega) rfl ?_
 intro r hr
 by_cases hlt:r<31
 ·obtain⟨e,he⟩:∃e:Nat→Option Vtx,∀j,e j=tab.getD (r*7+j) none:=⟨_,fun _=>rfl⟩
  have hg:∀j,j<7→tab[r*7+j]?=some (e j):=fun j hj=>by rw[he];exact hat _ (by omega)
  (repeat' first|refine st ?_|refine sa fun xe hxe=>?_|refine sb (fun hq=>?_) fun hq=>?_|exact aa)
  rename_i e0 h0 e1 h1 e2 h2 e3 h3 e4 h4 e5 h5
  obtain rfl:e0=e 0:=ar (h0.symm.trans (hg 0 (by omega)))
  obtain rfl:e1=e 1:=ar (h1.symm.trans (hg 1 (by omega)))
  obtain rfl:e2=e 2:=ar (h2.symm.trans (hg 2 (by omega)))
  obtain rfl:e3=e 3:=ar (h3.symm.trans (hg 3 (by omega)))
  obtain rfl:e4=e 4:=ar (h4.symm.trans (hg 4 (by omega)))
  obtain rfl:e5=e 5:=ar (h5.symm.trans (hg 5 (by omega)))
  obtain rfl:xe=e 6:=ar (hxe.symm.trans (hg 6 (by omega)))
  clear h0 h1 h2 h3 h4 h5 hxe
  refine ah hK [] [3,9,11,16,17] (fun j:Nat=>⟨[(3,.ref 4),(9,.fptr 0 k 0),(11,.int .i64 (r:Int)),(16,.agg [.obo .vtx (e 0),.obo .vtx (e 1),.obo .vtx (e 2),.obo .vtx (e 3),.obo .vtx (e 4),.obo .vtx (e 5),.obo .vtx (e 6)]),(17,.int .i64 (j:Int))],[(0,.fvari 148 217 (.ob .vtx) tabs),(4,.row 58 .vtx (fX (tab.take (r*7+j))))],5⟩) (fun j=>j≤7) (fun j=>7-j) 0 (by omega) rfl ?_
  intro j hj
  by_cases hjl:j<7
  ·have hs:=Hf (hg j hjl)
   have hvj:∀v,e j=some v→v.parents.length≤1000000:=fun v h=>hv v (bn (by rw[hg j hjl,h]))
   have hll:=JM (tab.take (r*7+j))
   rw[bQ] at hll
   obtain⟨j1,hj1⟩:∃j1,j1=j+1:=⟨_,rfl⟩
   have hji:((j1:Nat):Int)=(j:Int)+1:=by omega
   rw[lM,←hj1] at hs
   obtain⟨o,ho⟩:∃o,o=e j:=⟨_,rfl⟩
   rw[←ho] at hs hvj
   generalize fX (tab.take (r*7+j))=l at *
   obtain rfl|rfl|rfl|rfl|rfl|rfl|rfl:j=0∨j=1∨j=2∨j=3∨j=4∨j=5∨j=6:=by omega
   all_goals
    rw[←ho]
    cases o with
    |none=>
     (repeat' first|refine st ?_|refine sa fun xe hxe=>?_|refine sb (fun hq=>?_) fun hq=>?_|exact aa)
     refine⟨j1,by omega,by omega,?_⟩
     rw[hs,hji,Option.toList_none,gG]
     try rfl
    |some v=>
     have hvv:=hvj v rfl
     (repeat' first|refine st ?_|refine sa fun xe hxe=>?_|refine sb (fun hq=>?_) fun hq=>?_|refine cr (oM _ hvv) ?_|exact aa)
     refine⟨j1,by omega,by omega,?_⟩
     rw[hs,hji]
     rfl
  ·obtain rfl:j=7:=by omega
   (repeat' first|refine st ?_|refine sa fun xe hxe=>?_|refine sb (fun hq=>?_) fun hq=>?_|exact aa)
   exact⟨r+1,by omega,by omega,by rw[show (r+1)*7=r*7+7 by omega];rfl⟩
 ·obtain rfl:r=31:=by omega
  (repeat' first|refine st ?_|refine sa fun xe hxe=>?_|refine sb (fun hq=>?_) fun hq=>?_|exact aa)
  rw[br (by omega)]
  exact⟨rfl,rfl⟩
theorem Fv (tabs:List (List (Option Vtx)))(k:Nat)(tab:List (Option Vtx))(hk:tabs[k]?=some tab)(ht:tab.length=217)(hv:∀v,some v∈tab→v.parents.length≤1000000):ag Tryz.prog 79 [.hpo 0 (some k)] [(0,.fvari 148 217 (.ob .vtx) tabs)] (.lst .vtx (fX tab)) [(0,.fvari 148 217 (.ob .vtx) tabs)]:=by
 have h:=LD tabs k tab hk ht hv
 unfold ag at h⊢
 exact h
theorem Le (ps:List Ppl)(hv:∀p∈ps,p.v.parents.length≤1000000∧p.members.length≤1000000)(hl:ps.length≤1000000):ag Tryz.prog 76 [.ref 4] [(1,.frow 3 (.int .i64) (ps.map (·.members))),(4,.row 93 (.pplm 1) (ud ps))] (.lst .ppl ps) [(1,.frow 3 (.int .i64) (ps.map (·.members))),(4,.row 93 (.pplm 1) (ud ps))]:=by
 refine ab aj Tryz.func76 rfl rfl true 1 5 rfl rfl rfl rfl fun K hK hb1 hb2=>?_;simp only[ae,enc,Nat.reduceAdd]
 clear hb1 hb2
 have hpl:=nh ps
 (repeat' first|refine st ?_|refine sa fun xe hxe=>?_|refine sb (fun hq=>?_) fun hq=>?_|exact aa)
 refine ah hK [] [3,9,10,11] (fun i:Nat=>⟨[(3,.ref 5),(9,.ref 4),(10,.int .i64 ps.length),(11,.int .i64 (i:Int))],[(1,.frow 3 (.int .i64) (ps.map (·.members))),(4,.row 93 (.pplm 1) (ud ps)),(5,.row 93 .ppl (ps.take i++(List.replicate ps.length p0).drop i))],6⟩) (fun i=>i≤ps.length) (fun i=>ps.length-i) 0 (by simp) (by simp only[hpl];simp;rfl) ?_
 intro i hi
 by_cases hlt:i<ps.length
 ·have hxe:ps[i]?=some ps[i]:=am hlt
  have hg:i<(ps.take i++(List.replicate ps.length p0).drop i).length:=tc _ _ (by simp;omega) (by simpa using hlt)
  have hs:(ps.take i++(List.replicate ps.length p0).drop i).set i ps[i]=ps.take (i+1)++(List.replicate ps.length p0).drop (i+1):=by
   rw[tA _ _ _ (by simp;omega) (by simpa using hlt),ca hlt]
  obtain⟨v1,v2⟩:=hv _ (be hlt)
  have hx1:=wh hxe
  have hx2:(ps.map (·.members))[i]?=some ps[i].members:=by rw[bf,hxe];rfl
  generalize hrow:ps.take i++(List.replicate ps.length p0).drop i=row at *
  generalize ps[i]=p at *
  (repeat' first|refine st ?_|refine sa fun xe hxe=>?_|refine sb (fun hq=>?_) fun hq=>?_|refine cr (oM _ v1) ?_|exact aa)
  refine⟨i+1,by omega,by omega,?_⟩
  rw[←hs]
  rfl
 ·obtain rfl:i=ps.length:=by omega
  (repeat' first|refine st ?_|refine sa fun xe hxe=>?_|refine sb (fun hq=>?_) fun hq=>?_|exact aa)
  simp

end Go.Proofs.YtpefhoohfkeflaaGreatDoor.Am
