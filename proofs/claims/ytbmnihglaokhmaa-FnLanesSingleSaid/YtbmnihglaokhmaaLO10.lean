/- Lanes: impl.LanesRun. (PhC: named) The laws' own comparisons, and the total. The laws of lanes: FnLanesSame. (PhC: named) The laws of lanes: FnLanesOrder. (PhC: named) The laws of lanes: FnLanesSingle. (PhC: named) -/
import Derived.Test.YtbmnihglaokhmaaLO9
set_option linter.unusedSimpArgs false
set_option linter.unusedVariables false
set_option maxHeartbeats 1000000
namespace Go.Proofs.Ytbmnihglaokhmaa.Am
open Go Go.RowKit Go.Conc
attribute [local irreducible] Mk ct Ari fl mJ jJ cL dy jb gq At bz
set_option maxRecDepth 10000
noncomputable def pre8 (c:Code):Code:=match body8 with| .seq x0 (.seq x1 (.seq x3 (.seq x4 (.seq x5 (.seq x6 _)))))=>.seq x0 (.seq x1 (.seq x3 (.seq x4 (.seq x5 (.seq x6 c)))))|_=>.skip
theorem zZ:body8=pre8 c7:=by kernel_rfl
section
attribute [local instance] jh
theorem ue {b:List Int}{f:Int}{ts:List Txn}(h:nO ⟨b,f⟩ ts=false):bz Try.prog 8 [.agg [.lst (.int .i64) b,.int .i64 f],.lst .txn ts] []
  (.tup [.agg [.nils,.int .i64 0],.ref 4]) [(4,.row 4 .bool [])]:=by
 refine bH bq Try.func8 rfl rfl false 0 4 rfl rfl rfl rfl fun K hK hb1 hb2=>?_;simp only[bJ,enc,Nat.reduceAdd]
 clear hb1 hb2
 have hval:=pf ts
 have hacc:=gu b f ts
 show At Try.prog 109 K body8 _ _
 rw[zZ]
 cases hr:iC ⟨b,f⟩ ts
 ·rw[hr] at hacc
  conv=>arg 4;whnf
  (repeat' first|refine st ?_|refine sa fun xe hxe=>?_|refine sb (fun hq=>?_) fun hq=>?_|refine cr (hacc) ?_|exact aE)
  exact⟨rfl,rfl⟩
 ·have hl:fO ts=false:=by
   simp only[nO,iC,bT,mC] at h hr
   exact h.resolve_left (by simp[hr.1])
  rw[hr] at hacc
  rw[hl] at hval
  conv=>arg 4;whnf
  (repeat' first|refine st ?_|refine sa fun xe hxe=>?_|refine sb (fun hq=>?_) fun hq=>?_|refine cr (hacc) ?_|refine cr (hval) ?_|exact aE)
  exact⟨rfl,rfl⟩
theorem ni {α:Type}(f:Nat→α){n p:Nat}(h:p<n):((List.range n).map f)[p]?=some (f p):=by simp[h]
theorem Bm {b:List Int}{f:Int}(h:mF ⟨b,f⟩):mF ⟨b,0⟩:=by
 obtain⟨h1,h2,h3⟩:=h
 exact⟨h1,h2,Int.le_refl _,show (0:Int)≤100000 by omega⟩
def H6 (b0 b1 b2 b3 b4 b5 f:Int)(b:List Int)(ts:List Txn)(n:Nat):VH:=
 [(4,.var 25 [.lst (.int .i64) b,.int .i64 f]),(5,.var 26 [.lst .txn ts]),(6,.var 25 [.nils,.int .i64 0]),(7,.var 60 [.int .i64 b0,.int .i64 b1,.int .i64 b2,.int .i64 b3,.int .i64 b4,.int .i64 b5,.int .i64 f]),
  (8,.lit 74 (List.replicate n (.agg [.nilm,.int .i64 0,.nils]))),(9,.var 56 [.ref 8]),(10,.var 58 [.int .i64 b0,.int .i64 b1,.int .i64 b2,.int .i64 b3,.int .i64 b4,.int .i64 b5])]
def g6 (b:Id):Id:=match b with|(5,i)=>(6,i)|(6,i)=>(7,i)|(7,i)=>(9,i)|b=>b
theorem Fw (b0 b1 b2 b3 b4 b5 f:Int)(b:List Int)(ts:List Txn)(LL:List (List Int))(n:Nat)(K:Id→Prop)(hK:KB 0 K)(T:VT)(t3:look T 3=some (.ptr 5 0))(t4:look T 4=some (.ptr 6 0))(t6:look T 6=some (.ptr 7 0))(t7:look T 7=some (.lst (.lst (.int .i64)) LL))(t8:look T 8=some (.ptr 9 0))(t9:look T 9=some (.ptr 10 0)):
  Weak Try.prog 109 K (VSt.toD ⟨T,H6 b0 b1 b2 b3 b4 b5 f b ts n,11⟩)
   (ka (.var 25 [.nils,.int .i64 0]) (.var 60 [.int .i64 b0,.int .i64 b1,.int .i64 b2,.int .i64 b3,.int .i64 b4,.int .i64 b5,.int .i64 f]) b0 b1 b2 b3 b4 b5 ts LL n).toD:=by
 have ef:frz (toH (H6 b0 b1 b2 b3 b4 b5 f b ts n)) [(5,0),(10,0)]=[((5,0),.fvar [.lst (ts.map (aj .txn))]),((10,0),.fvar [.int .i64 b0,.int .i64 b1,.int .i64 b2,.int .i64 b3,.int .i64 b4,.int .i64 b5])]:=by
  have h5:look (toH (H6 b0 b1 b2 b3 b4 b5 f b ts n)) (5,0)=some (.var 26 [.lst (ts.map (aj .txn))]):=by rw[az];rfl
  have h10:look (toH (H6 b0 b1 b2 b3 b4 b5 f b ts n)) (10,0)=some (.var 58 [.int .i64 b0,.int .i64 b1,.int .i64 b2,.int .i64 b3,.int .i64 b4,.int .i64 b5]):=by rw[az];rfl
  have f5:frzB (toH (H6 b0 b1 b2 b3 b4 b5 f b ts n)) (5,0)=some (.fvar [.lst (ts.map (aj .txn))]):=by unfold frzB;rw[h5];rfl
  have f10:frzB (toH (H6 b0 b1 b2 b3 b4 b5 f b ts n)) (10,0)=some (.fvar [.int .i64 b0,.int .i64 b1,.int .i64 b2,.int .i64 b3,.int .i64 b4,.int .i64 b5]):=by unfold frzB;rw[h10];rfl
  simp only[frz,List.filterMap_cons,f5,f10,aM,List.filterMap_nil]
 refine Weak.trans (p9 [(5,0),(10,0)]) ?_
 have eh:(VSt.toD ⟨T,H6 b0 b1 b2 b3 b4 b5 f b ts n,11⟩).h=toH (H6 b0 b1 b2 b3 b4 b5 f b ts n):=rfl
 rw[eh,ef]
 have lk:∀c,look (puts [((5,0),.fvar [.lst (ts.map (aj .txn))]),((10,0),.fvar [.int .i64 b0,.int .i64 b1,.int .i64 b2,.int .i64 b3,.int .i64 b4,.int .i64 b5])] (toH (H6 b0 b1 b2 b3 b4 b5 f b ts n))) c=
   if c=(10,0) then some (.fvar [.int .i64 b0,.int .i64 b1,.int .i64 b2,.int .i64 b3,.int .i64 b4,.int .i64 b5]) else if c=(5,0) then some (.fvar [.lst (ts.map (aj .txn))]) else look (toH (H6 b0 b1 b2 b3 b4 b5 f b ts n)) c:=by
  intro c
  simp only[puts,List.foldl_cons,List.foldl_nil,aC]
 generalize hh1:puts [((5,0),.fvar [.lst (ts.map (aj .txn))]),((10,0),.fvar [.int .i64 b0,.int .i64 b1,.int .i64 b2,.int .i64 b3,.int .i64 b4,.int .i64 b5])] (toH (H6 b0 b1 b2 b3 b4 b5 f b ts n))=h1 at lk
 have l6:look h1 (6,0)=some (.var 25 [.nils,.int .i64 0]):=by rw[lk,if_neg (by decide),if_neg (by decide),az];rfl
 have l7:look h1 (7,0)=some (.var 60 [.int .i64 b0,.int .i64 b1,.int .i64 b2,.int .i64 b3,.int .i64 b4,.int .i64 b5,.int .i64 f]):=by rw[lk,if_neg (by decide),if_neg (by decide),az];rfl
 have l9:look h1 (9,0)=some (.var 56 [.ref (8,0)]):=by rw[lk,if_neg (by decide),if_neg (by decide),az];rfl
 have l8:look h1 (8,0)=some (.row 74 (aB (List.replicate n (.agg [.nilm,.int .i64 0,.nils])))):=by rw[lk,if_neg (by decide),if_neg (by decide),az];rfl
 have l5:look h1 (5,0)=some (.fvar [.lst (ts.map (aj .txn))]):=by rw[lk,if_neg (by decide),if_pos rfl]
 have l10:look h1 (10,0)=some (.fvar [.int .i64 b0,.int .i64 b1,.int .i64 b2,.int .i64 b3,.int .i64 b4,.int .i64 b5]):=by rw[lk,if_pos rfl]
 have live:∀c,c=(5,0)∨c=(6,0)∨c=(7,0)∨c=(8,0)→Live (ka (.var 25 [.nils,.int .i64 0]) (.var 60 [.int .i64 b0,.int .i64 b1,.int .i64 b2,.int .i64 b3,.int .i64 b4,.int .i64 b5,.int .i64 f]) b0 b1 b2 b3 b4 b5 ts LL n).toD.h c:=by
  rintro c (rfl|rfl|rfl|rfl)<;>(unfold Live;show (look (toH _) _).isSome=true;rw[az];rfl)
 refine qb (g:=g6) ⟨?_,?_⟩ ?_ ?_ ?_
 ·rintro⟨g,i⟩ x' hx
  have hx':look (toH (ka (.var 25 [.nils,.int .i64 0]) (.var 60 [.int .i64 b0,.int .i64 b1,.int .i64 b2,.int .i64 b3,.int .i64 b4,.int .i64 b5,.int .i64 f]) b0 b1 b2 b3 b4 b5 ts LL n).h) (g,i)=some x':=hx
  rw[az] at hx'
  have hg:g=5∨g=6∨g=7∨g=8∨(g≠5∧g≠6∧g≠7∧g≠8):=by omega
  have pureV:∀(l:List D),l.all D.pure0=true→∀j,j<l.length→Rn h1 g6 (ka (.var 25 [.nils,.int .i64 0]) (.var 60 [.int .i64 b0,.int .i64 b1,.int .i64 b2,.int .i64 b3,.int .i64 b4,.int .i64 b5,.int .i64 f]) b0 b1 b2 b3 b4 b5 ts LL n).toD.h (l.getD j .undef) (l.getD j .undef):=
   fun l hl j hj=>.pure _ (by rw[bc] at hl;exact hl _ (bp hj))
  rcases hg with rfl|rfl|rfl|rfl|⟨q1,q2,q3,q4⟩
  ·cases i with
   |zero=>cases hx';exact⟨_,l6,.var _ _ _ rfl (pureV _ rfl)⟩
   |succ i=>simp[ka,look,VB.blks] at hx'
  ·cases i with
   |zero=>cases hx';exact⟨_,l7,.var _ _ _ rfl (pureV _ rfl)⟩
   |succ i=>simp[ka,look,VB.blks] at hx'
  ·cases i with
   |zero=>
    cases hx'
    refine⟨_,l9,.var _ _ _ rfl fun j hj=>?_⟩
    have:j=0:=by simpa using hj
    subst this
    exact .ref (g:=g6) (8,0) fun _=>live _ (by simp)
   |succ i=>simp[ka,look,VB.blks] at hx'
  ·cases i with
   |zero=>
    cases hx'
    refine⟨_,l8,.row _ _ _ rfl fun j hj=>?_⟩
    have e:(aB (List.replicate n (.agg [.nilm,.int .i64 0,.nils]))).getD j .undef= .agg [.nilm,.int .i64 0,.nils]:=by
     rw[aR,gT] at hj
     rw[cu,List.map_replicate,aX,List.getElem?_replicate,if_pos hj]
     rfl
    rw[e]
    exact⟨.agg _ _ rfl (pureV _ rfl),fun s hs=>⟨hs,fun j hj=>pureV _ rfl j (by have:=hs.1;simp only[D.cells] at this;simp only[D.cells];omega)⟩⟩
   |succ i=>simp[ka,look,VB.blks] at hx'
  ·simp[ka,look,q1,q2,q3,q4] at hx'
 ·rintro⟨g,i⟩ ⟨g',i'⟩ x y hx hy _ _ he
  have hx':look (toH (ka (.var 25 [.nils,.int .i64 0]) (.var 60 [.int .i64 b0,.int .i64 b1,.int .i64 b2,.int .i64 b3,.int .i64 b4,.int .i64 b5,.int .i64 f]) b0 b1 b2 b3 b4 b5 ts LL n).h) (g,i)=some x:=hx
  have hy':look (toH (ka (.var 25 [.nils,.int .i64 0]) (.var 60 [.int .i64 b0,.int .i64 b1,.int .i64 b2,.int .i64 b3,.int .i64 b4,.int .i64 b5,.int .i64 f]) b0 b1 b2 b3 b4 b5 ts LL n).h) (g',i')=some y:=hy
  rw[az] at hx' hy'
  have hg:g=5∨g=6∨g=7∨g=8∨(g≠5∧g≠6∧g≠7∧g≠8):=by omega
  have hg':g'=5∨g'=6∨g'=7∨g'=8∨(g'≠5∧g'≠6∧g'≠7∧g'≠8):=by omega
  rcases hg with rfl|rfl|rfl|rfl|⟨q1,q2,q3,q4⟩<;>rcases hg' with rfl|rfl|rfl|rfl|⟨r1,r2,r3,r4⟩<;>
   first
    |(simp only[g6,bg] at he;obtain⟨e1,e2⟩:=he;first|(subst e2;rfl)|omega)
    |(simp[ka,look,q1,q2,q3,q4] at hx')
    |(simp[ka,look,r1,r2,r3,r4] at hy')
 ·intro k d' hk
  have hlt:∀k v,look T k=some v→look (VSt.toD ⟨T,H6 b0 b1 b2 b3 b4 b5 f b ts n,11⟩).t k=some v.toD:=fun k v h=>by show look (toT T) k=_;rw[cA,h];rfl
  simp only[ka,VSt.toD,toT,bI,du,look] at hk
  repeat' split at hk
  ·obtain rfl:k=3:=‹k=3›
   cases hk
   exact⟨_,hlt 3 _ t3,.box _ _ l5⟩
  ·obtain rfl:k=4:=‹k=4›
   cases hk
   exact⟨_,hlt 4 _ t4,.ptr (g:=g6) (5,0) 0 fun _=>live _ (by simp)⟩
  ·obtain rfl:k=6:=‹k=6›
   cases hk
   exact⟨_,hlt 6 _ t6,.ptr (g:=g6) (6,0) 0 fun _=>live _ (by simp)⟩
  ·obtain rfl:k=7:=‹k=7›
   cases hk
   exact⟨_,hlt 7 _ t7,.pure _ rfl⟩
  ·obtain rfl:k=8:=‹k=8›
   cases hk
   exact⟨_,hlt 8 _ t8,.ptr (g:=g6) (7,0) 0 fun _=>live _ (by simp)⟩
  ·obtain rfl:k=9:=‹k=9›
   cases hk
   exact⟨_,hlt 9 _ t9,.box _ _ l10⟩
  ·cases hk
 ·intro c hc hl
  exfalso
  have h1':=hK c hc
  have h2:(look h1 c).isSome=true:=hl
  rw[lk,if_neg (fun e=>by rw[e] at h1';simp at h1'),if_neg (fun e=>by rw[e] at h1';simp at h1'),az] at h2
  simp[H6,look,show c.1≠4 by omega,show c.1≠5 by omega,show c.1≠6 by omega,show c.1≠7 by omega,show c.1≠8 by omega,show c.1≠9 by omega,show c.1≠10 by omega] at h2
 ·intro c hc
  have hc':10≤c.1:=hc
  show look (toH (ka (.var 25 [.nils,.int .i64 0]) (.var 60 [.int .i64 b0,.int .i64 b1,.int .i64 b2,.int .i64 b3,.int .i64 b4,.int .i64 b5,.int .i64 f]) b0 b1 b2 b3 b4 b5 ts LL n).h) c=none
  rw[az]
  simp[ka,look,show c.1≠5 by omega,show c.1≠6 by omega,show c.1≠7 by omega,show c.1≠8 by omega]
theorem uf {b:List Int}{f:Int}{ts:List Txn}(h:nO ⟨b,f⟩ ts=true):bz Try.prog 8 [.agg [.lst (.int .i64) b,.int .i64 f],.lst .txn ts] []
  (.tup [.agg [.ref 4,.int .i64 (bu ⟨b,f⟩ ts).f],.ref 5]) [(4,.row 3 (.int .i64) (bu ⟨b,f⟩ ts).b),(5,.row 4 .bool (cK ⟨b,f⟩ ts))]:=by
 have hval:=pf ts
 have hacc:=gu b f ts
 obtain⟨h1,h2,h3,h4,h5,h6⟩:=oc h
 have hrun:iC ⟨b,f⟩ ts=true:=by simp[iC,h1,h3]
 rw[h2] at hval
 rw[hrun] at hacc
 have hlen:b.length=6:=h5.1
 have hlan:=ug ts h3
 have hOK:LanesOK ts (cd (fy ts ts.length) ts.length ts.length):=jg (sI ts)
 have hln:=fA (fy ts ts.length) ts.length ts.length
 rw[iR] at hlan
 obtain⟨b0,b1,b2,b3,b4,b5,rfl⟩:∃b0 b1 b2 b3 b4 b5,b=[b0,b1,b2,b3,b4,b5]:=by
  match b,hlen with|[b0,b1,b2,b3,b4,b5],_=>exact⟨b0,b1,b2,b3,b4,b5,rfl⟩
 refine bH bq Try.func8 rfl rfl false 0 4 rfl rfl rfl rfl fun K hK hb1 hb2=>?_;simp only[bJ,enc,Nat.reduceAdd]
 clear hb1 hb2
 show At Try.prog 109 K body8 _ _
 rw[zZ]
 generalize cd (fy ts ts.length) ts.length ts.length=lanes at *
 have hLn:(lanes.map fun L=>L.map fun i:Nat=>(i:Int)).length≤16:=by rw[bG];omega
 conv=>arg 4;whnf
 have hob:bz Try.prog 30 [.agg [.lst (.int .i64) [b0,b1,b2,b3,b4,b5],.int .i64 f]] [] (.ptr 4 0) [(4,.var 60 [.int .i64 b0,.int .i64 b1,.int .i64 b2,.int .i64 b3,.int .i64 b4,.int .i64 b5,.int .i64 f])]:=by
  have h:=pE [b0,b1,b2,b3,b4,b5] f hlen
  unfold bz at h⊢
  exact h
 (repeat' first|refine st ?_|refine sa fun xe hxe=>?_|refine sb (fun hq=>?_) fun hq=>?_|refine cr (hacc) ?_|refine cr (hval) ?_|refine cr (hlan) ?_|refine cr (hob) ?_|exact aE)
 have hw:=Fw b0 b1 b2 b3 b4 b5 f [b0,b1,b2,b3,b4,b5] ts (lanes.map fun L=>L.map fun i:Nat=>(i:Int)) (lanes.map fun L=>L.map fun i:Nat=>(i:Int)).length K hK
 generalize hT:(lanes.map fun L=>L.map fun i:Nat=>(i:Int))=LL at *
 show At Try.prog 109 K c7 _ ⟨_,H6 b0 b1 b2 b3 b4 b5 f [b0,b1,b2,b3,b4,b5] ts LL.length,11⟩
 refine xr (hw _ ?_ ?_ ?_ ?_ ?_ ?_) ?_
 ·rfl
 ·rfl
 ·rfl
 ·rfl
 ·rfl
 ·rfl
 subst hT
 refine zV hK (Bm h5) h4 (fun L hL=>?_) (by simp) (by rw[bG];omega) ?_
 ·obtain⟨p,hp⟩:=List.mem_iff_getElem?.1 hL
  exact⟨fun i hi=>by
   obtain⟨q,hq⟩:=List.mem_iff_getElem?.1 hi
   exact gr hOK hp hq,gm (lM hOK hp) h3⟩
 conv=>arg 4;whnf
 unfold sV
 have hRS:∀p L,lanes[p]?=some L→(pK [b0,b1,b2,b3,b4,b5] ts lanes)[p]?=some (⟨p,CH [b0,b1,b2,b3,b4,b5] ts L,some p⟩:LRes):=fun p L hp=>by
  obtain⟨hlt,rfl⟩:=cq.1 hp
  unfold pK
  rw[ni _ hlt,aX,aZ hlt]
  rfl
 have hRM:∀p L,lanes[p]?=some L→(u6 [b0,b1,b2,b3,b4,b5] ts lanes)[p]?=some (tf [b0,b1,b2,b3,b4,b5] ts L):=fun p L hp=>by
  obtain⟨hlt,rfl⟩:=cq.1 hp
  unfold u6
  rw[ni _ hlt,aX,aZ hlt]
  rfl
 have hRO:∀p L,lanes[p]?=some L→(u7 [b0,b1,b2,b3,b4,b5] ts lanes)[p]?=some (y7 [b0,b1,b2,b3,b4,b5] ts L):=fun p L hp=>by
  obtain⟨hlt,rfl⟩:=cq.1 hp
  unfold u7
  rw[ni _ hlt,aX,aZ hlt]
  rfl
 have hRl:(pK [b0,b1,b2,b3,b4,b5] ts lanes).length=lanes.length:=by simp[pK]
 clear hw hob hlan hacc hval hrun h1 h2 h hLn
 generalize pK [b0,b1,b2,b3,b4,b5] ts lanes=RS at *
 generalize u6 [b0,b1,b2,b3,b4,b5] ts lanes=RM at *
 generalize u7 [b0,b1,b2,b3,b4,b5] ts lanes=RO at *
 (repeat' first|refine st ?_|refine sa fun xe hxe=>?_|refine sb (fun hq=>?_) fun hq=>?_|exact aE)
 refine vT 6 0 6 ?_
 conv=>whnf
 refine bA hK [] [4,6,7,13,56,57,58] (fun p:Nat=>⟨[(4,.ptr 4 0),(6,.ptr 5 0),(7,.lst (.lst (.int .i64)) (lanes.map fun L=>L.map fun i:Nat=>(i:Int))),(13,.ref 6),(56,.ref 7),(57,.int .i64 RS.length),(58,.int .i64 p)],
  [(0,.maps RM),(1,.frow 4 .bool RO),(4,.var 25 [.nils,.int .i64 0]),(5,.vari 60 [] 6 (.int .i64) (gw [b0,b1,b2,b3,b4,b5] f ts lanes p).1.b [.int .i64 (gw [b0,b1,b2,b3,b4,b5] f ts lanes p).1.f]),(6,.row 4 .bool (gw [b0,b1,b2,b3,b4,b5] f ts lanes p).2),(7,.row 74 (.lres 0 1) RS)],8⟩)
  (fun p=>p≤lanes.length) (fun p=>lanes.length-p) 0 (by omega) (by rfl) ?_
 intro p hp
 have hok:=BQ (p:=p) hOK h5 h6
 have hsl:=vm (B:=[b0,b1,b2,b3,b4,b5]) (f:=f) (ts:=ts) (lanes:=lanes) (p:=p)
 by_cases hlt:p<lanes.length
 ·obtain⟨L,hL⟩:∃L,lanes[p]?=some L:=⟨_,aZ hlt⟩
  obtain⟨n1,n2,n3,n4⟩:=BP (f:=f) (B:=[b0,b1,b2,b3,b4,b5]) rfl h4 hOK hL
  have hRS':=hRS p L hL
  have hRM':=hRM p L hL
  have hRO':=hRO p L hL
  have hLL:(lanes.map fun L=>L.map fun i:Nat=>(i:Int))[p]?=some (L.map fun i:Nat=>(i:Int)):=by simp[hL]
  have hlt':p<RS.length:=by omega
  have hMr:=CI [b0,b1,b2,b3,b4,b5] ts L (m7 h4 hOK hL)
  have hMn:=y6 [b0,b1,b2,b3,b4,b5] ts L
  have hok1:=BQ (p:=p+1) hOK h5 h6
  have hOl:(y7 [b0,b1,b2,b3,b4,b5] ts L).length=L.length:=by unfold y7;rw[fV];simp[bY]
  have hLr:∀i∈L,i<ts.length:=fun i hi=>by
   obtain⟨q,hq⟩:=List.mem_iff_getElem?.1 hi
   exact gr hOK hL hq
  have hLl:L.length≤16:=gm (lM hOK hL) h3
  have hmB:(RM.map fP)[p]?=some (fP (tf [b0,b1,b2,b3,b4,b5] ts L)):=by simp[hRM']
  generalize tf [b0,b1,b2,b3,b4,b5] ts L=M at *
  generalize CH [b0,b1,b2,b3,b4,b5] ts L=F at *
  generalize y7 [b0,b1,b2,b3,b4,b5] ts L=O at *
  have hbl:(gw [b0,b1,b2,b3,b4,b5] f ts lanes p).1.b.length=6:=hok.1
  have hbl1:(gw [b0,b1,b2,b3,b4,b5] f ts lanes (p+1)).1.b.length=6:=hok1.1
  (repeat' first|refine st ?_|refine sa fun xe hxe=>?_|refine sb (fun hq=>?_) fun hq=>?_|exact aE)
  refine oH (α:=List Nat×Option Nat×List Int) hK rfl rfl rfl rfl rfl rfl (by decide) (by decide) [] [4,6,7,13,14,15,56,57,58,65]
   (fun a=>⟨[(4,.ptr 4 0),(6,.ptr 5 0),(7,.lst (.lst (.int .i64)) (lanes.map fun L=>L.map fun i:Nat=>(i:Int))),(13,.ref 6),(14,.int .i64 p),(15,.ptr 7 0),(56,.ref 8),(57,.int .i64 RS.length),(58,.int .i64 p),(65,.ptr 9 0)],
    [(0,.maps RM),(1,.frow 4 .bool RO),(4,.var 25 [.nils,.int .i64 0]),(5,.vari 60 [] 6 (.int .i64) a.2.2 [.int .i64 (gw [b0,b1,b2,b3,b4,b5] f ts lanes p).1.f]),(6,.row 4 .bool (gw [b0,b1,b2,b3,b4,b5] f ts lanes p).2),(7,.var 74 [.fmp 0 p,.int .i64 F,.hro 1 (some p)]),(8,.row 74 (.lres 0 1) RS),(9,.it 0 p M.length a.1 a.2.1)],10⟩)
   (fun a=>MidB (gw [b0,b1,b2,b3,b4,b5] f ts lanes p).1.b M a.1 a.2.2) (fun a=>a.1) (fun a=>a.2.1) (fun _=>M) (List.range M.length,none,(gw [b0,b1,b2,b3,b4,b5] f ts lanes p).1.b) (MidB.start hbl) ?_ (fun a _=>⟨rfl,rfl,by rw[az];exact hmB,rfl⟩) 4 [] [4,6,7,13,14,15,56,57,58]
   ⟨[(4,.ptr 4 0),(6,.ptr 5 0),(7,.lst (.lst (.int .i64)) (lanes.map fun L=>L.map fun i:Nat=>(i:Int))),(13,.ref 6),(14,.int .i64 p),(15,.ptr 7 0),(56,.ref 8),(57,.int .i64 RS.length),(58,.int .i64 p)],
    [(0,.maps RM),(1,.frow 4 .bool RO),(4,.var 25 [.nils,.int .i64 0]),(5,.vari 60 [] 6 (.int .i64) (gw [b0,b1,b2,b3,b4,b5] f ts lanes (p+1)).1.b [.int .i64 (gw [b0,b1,b2,b3,b4,b5] f ts lanes p).1.f]),(6,.row 4 .bool (gw [b0,b1,b2,b3,b4,b5] f ts lanes p).2),(7,.var 74 [.fmp 0 p,.int .i64 F,.hro 1 (some p)]),(8,.row 74 (.lres 0 1) RS)],9⟩ ?_ ?_ ?_
  ·rfl
  ·rintro⟨left,cur,c⟩ hm hnl
   simp only[lw]
   have e:=MidB.done hm hnl hbl1 n3 n4
   simp only at e
   subst e
   (repeat' first|refine st ?_|refine sa fun xe hxe=>?_|refine sb (fun hq=>?_) fun hq=>?_|exact aE)
   exact⟨rfl,rfl⟩
  ·rintro⟨left,cur,c⟩ j q hm hj hq
   simp only[ju,put,Nat.reduceEqDiff,if_false,if_true,reduceIte]
   simp only at hj hq hm
   have hm2:=hm.step hMn hMr hq
   have hrg:=hMr q (dm hq)
   have hcl:=hm.len
   obtain⟨qk,qv⟩:=q
   simp only at hrg hm2
   (repeat' first|refine st ?_|refine sa fun xe hxe=>?_|refine sb (fun hq=>?_) fun hq=>?_|exact aE)
   refine⟨(left.filter fun i=>i !=j,some j,c.set qk.toNat qv),hm2,qR hj,?_⟩
   rfl
  ·conv=>whnf
   have hfr:0≤(gw [b0,b1,b2,b3,b4,b5] f ts lanes p).1.f+F∧(gw [b0,b1,b2,b3,b4,b5] f ts lanes p).1.f+F≤100000:=by rw[←n1];exact hok1.2.2
   (repeat' first|refine st ?_|refine sa fun xe hxe=>?_|refine sb (fun hq=>?_) fun hq=>?_|exact aE)
   rw[bG]
   refine bA hK [] [4,6,7,13,15,56,57,58,89,90,91] (fun k:Nat=>⟨[(4,.ptr 4 0),(6,.ptr 5 0),(7,.lst (.lst (.int .i64)) (lanes.map fun L=>L.map fun i:Nat=>(i:Int))),(13,.ref 6),(15,.ptr 7 0),(56,.ref 8),(57,.int .i64 RS.length),(58,.int .i64 p),(89,.lst (.int .i64) (L.map fun i:Nat=>(i:Int))),(90,.int .i64 L.length),(91,.int .i64 k)],
    [(0,.maps RM),(1,.frow 4 .bool RO),(4,.var 25 [.nils,.int .i64 0]),(5,.vari 60 [] 6 (.int .i64) (gw [b0,b1,b2,b3,b4,b5] f ts lanes (p+1)).1.b [.int .i64 ((gw [b0,b1,b2,b3,b4,b5] f ts lanes p).1.f+F)]),(6,.row 4 .bool (eY (gw [b0,b1,b2,b3,b4,b5] f ts lanes p).2 (L.take k) (O.take k))),(7,.var 74 [.fmp 0 p,.int .i64 F,.hro 1 (some p)]),(8,.row 74 (.lres 0 1) RS)],9⟩)
    (fun k=>k≤L.length) (fun k=>L.length-k) 0 (by omega) (by rfl) ?_
   intro k hk
   have hsa:=pS (gw [b0,b1,b2,b3,b4,b5] f ts lanes p).2 (L.take k) (O.take k)
   rw[hsl] at hsa
   by_cases hlk:k<L.length
   ·obtain⟨i,hi⟩:∃i,L[k]?=some i:=⟨_,aZ hlk⟩
    obtain⟨v,hv⟩:∃v,O[k]?=some v:=⟨_,aZ (by omega)⟩
    have hiL:=hLr i (dm hi)
    have hstep:=nF (o:=(gw [b0,b1,b2,b3,b4,b5] f ts lanes p).2) hi hv
    have hgi:(L.map fun i:Nat=>(i:Int))[k]?=some (i:Int):=by simp[hi]
    generalize eY (gw [b0,b1,b2,b3,b4,b5] f ts lanes p).2 (L.take k) (O.take k)=row at *
    (repeat' first|refine st ?_|refine sa fun xe hxe=>?_|refine sb (fun hq=>?_) fun hq=>?_|exact aE)
    refine⟨k+1,by omega,by omega,?_⟩
    rw[hstep]
    rfl
   ·have:k=L.length:=by omega
    subst this
    rw[nI,gj (by omega)] at hsa⊢
    rw[←n2,←n1]
    (repeat' first|refine st ?_|refine sa fun xe hxe=>?_|refine sb (fun hq=>?_) fun hq=>?_|exact aE)
    refine⟨p+1,by omega,by omega,?_⟩
    rfl
 ·have hpe:p=lanes.length:=by omega
  have hfin:=C7 (B:=[b0,b1,b2,b3,b4,b5]) (f:=f) h4 hOK
  have hbl:(gw [b0,b1,b2,b3,b4,b5] f ts lanes p).1.b.length=6:=hok.1
  rw[←hpe] at hfin
  rw[hfin] at hbl⊢
  simp only at hbl⊢
  (repeat' first|refine st ?_|refine sa fun xe hxe=>?_|refine sb (fun hq=>?_) fun hq=>?_|refine cr (qJ _ _ _ hbl) ?_|exact aE)
  exact⟨rfl,rfl⟩
end
end Go.Proofs.Ytbmnihglaokhmaa.Am
namespace Go.Proofs.Ytbmnihglaokhmaa.Am
open Go
set_option linter.unusedSectionVars false
variable [PhC Try.prog]
attribute [local irreducible] Mk ct Ari fl mJ jJ cL dy jb gq At bz
set_option maxRecDepth 10000
theorem mm {α:Type}{a b:List α}{i:Nat}{x:α}(h:a.take i=b.take i)(ha:a[i]?=some x)(hb:b[i]?=some x):a.take (i+1)=b.take (i+1):=by
 rw[List.take_add_one,List.take_add_one,h,ha,hb]
theorem pO (a b:List Int):bz Try.prog 43 [.lst (.int .i64) a,.lst (.int .i64) b] [] (.bool (decide (a=b))) []:=by
 refine bH bq Try.func43 rfl rfl false 0 4 rfl rfl rfl rfl fun K hK hb1 hb2=>?_;simp only[bJ,enc,Nat.reduceAdd]
 simp[aB,V.toD,bnd,aj,D.cells] at hb1
 by_cases hl:a.length=b.length
 ·(repeat' first|refine st ?_|refine sa fun xe hxe=>?_|refine sb (fun hq=>?_) fun hq=>?_|exact aE)
  refine bA hK [] [0,1,4,5] (fun i:Nat=>⟨[(0,.lst (.int .i64) a),(1,.lst (.int .i64) b),(4,.bool false),(5,.int .i64 i)],[],4⟩) (fun i=>i≤a.length∧a.take i=b.take i) (fun i=>a.length-i) 0 ⟨by simp,by simp⟩ rfl ?_
  rintro i ⟨hi,hall⟩
  by_cases hlt:i<a.length
  ·obtain⟨x,hx⟩:∃x,a[i]?=some x:=⟨_,aZ hlt⟩
   obtain⟨y,hy⟩:∃y,b[i]?=some y:=⟨_,aZ (by omega)⟩
   (repeat' first|refine st ?_|refine sa fun xe hxe=>?_|refine sb (fun hq=>?_) fun hq=>?_|exact aE)
   ·have hne:¬x=y:=hq
    exact⟨by rw[decide_eq_false];rintro rfl;rw[hx] at hy;exact hne (bm hy),rfl⟩
   ·subst hq
    exact⟨i+1,⟨by omega,mm hall hx hy⟩,by omega,rfl⟩
  ·(repeat' first|refine st ?_|refine sa fun xe hxe=>?_|refine sb (fun hq=>?_) fun hq=>?_|exact aE)
   have hab:a=b:=by rwa [gj (by omega),gj (by omega)] at hall
   exact⟨by rw[decide_eq_true hab],rfl⟩
 ·(repeat' first|refine st ?_|refine sa fun xe hxe=>?_|refine sb (fun hq=>?_) fun hq=>?_|exact aE)
  exact⟨by rw[decide_eq_false];rintro rfl;exact hl rfl,rfl⟩
theorem vf (a b:List Bool):bz Try.prog 11 [.lst .bool a,.lst .bool b] [] (.bool (decide (a=b))) []:=by
 refine bH bq Try.func11 rfl rfl false 0 4 rfl rfl rfl rfl fun K hK hb1 hb2=>?_;simp only[bJ,enc,Nat.reduceAdd]
 simp[aB,V.toD,bnd,aj,D.cells] at hb1
 by_cases hl:a.length=b.length
 ·(repeat' first|refine st ?_|refine sa fun xe hxe=>?_|refine sb (fun hq=>?_) fun hq=>?_|exact aE)
  refine bA hK [] [0,1,4,5] (fun i:Nat=>⟨[(0,.lst .bool a),(1,.lst .bool b),(4,.bool false),(5,.int .i64 i)],[],4⟩) (fun i=>i≤a.length∧a.take i=b.take i) (fun i=>a.length-i) 0 ⟨by simp,by simp⟩ rfl ?_
  rintro i ⟨hi,hall⟩
  by_cases hlt:i<a.length
  ·obtain⟨x,hx⟩:∃x,a[i]?=some x:=⟨_,aZ hlt⟩
   obtain⟨y,hy⟩:∃y,b[i]?=some y:=⟨_,aZ (by omega)⟩
   (repeat' first|refine st ?_|refine sa fun xe hxe=>?_|refine sb (fun hq=>?_) fun hq=>?_|exact aE)
   ·have hne:¬x=y:=hq
    exact⟨by rw[decide_eq_false];rintro rfl;rw[hx] at hy;exact hne (bm hy),rfl⟩
   ·subst hq
    exact⟨i+1,⟨by omega,mm hall hx hy⟩,by omega,rfl⟩
  ·(repeat' first|refine st ?_|refine sa fun xe hxe=>?_|refine sb (fun hq=>?_) fun hq=>?_|exact aE)
   have hab:a=b:=by rwa [gj (by omega),gj (by omega)] at hall
   exact⟨by rw[decide_eq_true hab],rfl⟩
 ·(repeat' first|refine st ?_|refine sa fun xe hxe=>?_|refine sb (fun hq=>?_) fun hq=>?_|exact aE)
  exact⟨by rw[decide_eq_false];rintro rfl;exact hl rfl,rfl⟩
theorem sT (a b:List Int)(f g:Int):bz Try.prog 10 [.agg [.lst (.int .i64) a,.int .i64 f],.agg [.lst (.int .i64) b,.int .i64 g]] [] (.bool (decide (f=g) && decide (a=b))) []:=by
 refine bH bq Try.func10 rfl rfl false 0 4 rfl rfl rfl rfl fun K hK hb1 hb2=>?_;simp only[bJ,enc,Nat.reduceAdd]
 clear hb1 hb2
 by_cases h:f=g
 ·(repeat' first|refine st ?_|refine sa fun xe hxe=>?_|refine sb (fun hq=>?_) fun hq=>?_|refine cr (pO _ _) ?_|exact aE)
  exact⟨by rw[decide_eq_true h,Bool.true_and],rfl⟩
 ·(repeat' first|refine st ?_|refine sa fun xe hxe=>?_|refine sb (fun hq=>?_) fun hq=>?_|refine cr (pO _ _) ?_|exact aE)
  exact⟨by rw[decide_eq_false h,Bool.false_and],rfl⟩
end Go.Proofs.Ytbmnihglaokhmaa.Am
namespace Go.Proofs.Ytbmnihglaokhmaa.Am
open Go
attribute [local irreducible] Mk ct Ari fl mJ jJ cL dy jb gq At bz
set_option maxRecDepth 10000
section
attribute [local instance] jh
theorem qP (c:List Int)(hc:∀x∈c,0≤x∧x≤255):∃x:(List Int×Int)×List Txn,(x.1.1.length≤6∧x.2.length≤17)∧bz Try.prog 7 [.lst (.int .u8) c] [] (.tup [.agg [.lst (.int .i64) x.1.1,.int .i64 x.1.2],.lst .txn x.2]) []:=by
 obtain⟨x,hx,h⟩:=yL c hc
 refine⟨x,hx,?_⟩
 refine bH bq Try.func7 rfl rfl true 0 4 rfl rfl rfl rfl fun K hK hb1 hb2=>?_;simp only[bJ,enc,Nat.reduceAdd]
 clear hb1 hb2
 (repeat' first|refine st ?_|refine sa fun xe hxe=>?_|refine sb (fun hq=>?_) fun hq=>?_|refine cr (h) ?_|exact aE)
 exact⟨rfl,rfl⟩
theorem i7 (a:List Int)(f:Int):bz Try.prog 10 [.agg [.lst (.int .i64) a,.int .i64 f],.agg [.lst (.int .i64) a,.int .i64 f]] [] (.bool true) []:=by
 have:=sT a a f f
 simpa using this
theorem kl (a:List Bool):bz Try.prog 11 [.lst .bool a,.lst .bool a] [] (.bool true) []:=by
 have:=vf a a
 simpa using this
theorem Ca {b:List Int}{f:Int}{ts:List Txn}(h:nO ⟨b,f⟩ ts=true):bz Try.prog 9 [.agg [.lst (.int .i64) b,.int .i64 f],.lst .txn ts] []
  (.tup [.agg [.lst (.int .i64) (bu ⟨b,f⟩ ts).b,.int .i64 (bu ⟨b,f⟩ ts).f],.lst .bool (cK ⟨b,f⟩ ts)]) []:=by
 have:=nE b f ts
 rwa [if_pos h] at this
theorem B9 {b:List Int}{f:Int}{ts:List Txn}(h:nO ⟨b,f⟩ ts=false):bz Try.prog 9 [.agg [.lst (.int .i64) b,.int .i64 f],.lst .txn ts] []
  (.tup [.agg [.nils,.int .i64 0],.lst .bool []]) []:=by
 have:=nE b f ts
 rwa [if_neg (by simp[h])] at this
theorem FC {b:List Int}{f:Int}{ts:List Txn}(h:iC ⟨b,f⟩ ts=true):bz Try.prog 12 [.agg [.lst (.int .i64) b,.int .i64 f],.lst .txn ts] []
  (.tup [.agg [.ref 4,.int .i64 (bu ⟨b,f⟩ ts).f],.ref 5]) [(4,.row 3 (.int .i64) (bu ⟨b,f⟩ ts).b),(5,.row 4 .bool (cK ⟨b,f⟩ ts))]:=by
 have:=sF b f ts
 rwa [if_pos h,if_pos h] at this
end
end Go.Proofs.Ytbmnihglaokhmaa.Am
namespace Go.Proofs.Ytbmnihglaokhmaa.Am
open Go
attribute [local irreducible] Mk ct Ari fl mJ jJ cL dy jb gq At bz
set_option maxRecDepth 10000
section
attribute [local instance] jh
def kW (ts:List Txn)(lanes:List (List Nat))(p:Nat):List Txn:=bY ts (lanes.drop p).reverse.flatten
theorem BD (ts:List Txn)(lanes:List (List Nat)):kW ts lanes lanes.length=[]:=by simp[kW,bY]
theorem zx {ts:List Txn}{lanes:List (List Nat)}{q:Nat}{L:List Nat}(h:lanes[q]?=some L):kW ts lanes q=kW ts lanes (q+1)++bY ts L:=by
 obtain⟨hlt,rfl⟩:=cq.1 h
 unfold kW
 rw[rI hlt,List.reverse_cons,List.flatten_append]
 simp[bY]
theorem BE {ts:List Txn}{lanes:List (List Nat)}(h:LanesOK ts lanes):∀p,(kW ts lanes p).length≤ts.length:=by
 intro p
 have e:(kW ts lanes p).length=(lanes.drop p).flatten.length:=by
  unfold kW bY
  rw[bG]
  exact((List.reverse_perm (lanes.drop p)).flatten).length_eq
 rw[e,←h.len]
 have h1:lanes.flatten=(lanes.take p).flatten++(lanes.drop p).flatten:=by rw[←List.flatten_append,List.take_append_drop]
 rw[h1,b7]
 omega
theorem C0 {ts:List Txn}(hv:∀t∈ts,bW t=true){lanes:List (List Nat)}(h:LanesOK ts lanes)(l:Led):bu l (kW ts lanes 0)=bu l ts:=by
 have h1:=h.run_rev hv (l,List.replicate ts.length false)
 have h2:=lr ts l (List.replicate ts.length false) (by simp) ts.length (aN _)
 have hm:∀i∈lanes.reverse.flatten,i<ts.length:=fun i hi=>(h.mem i).1 (by
  rw[List.mem_flatten] at hi⊢
  obtain⟨M,hM,hi⟩:=hi
  exact⟨M,List.mem_reverse.1 hM,hi⟩)
 have h3:=mf ts lanes.reverse.flatten l (List.replicate ts.length false) hm
 rw[h1,h2] at h3
 simp only[nI] at h3
 unfold kW
 rw[List.drop_zero]
 exact h3.symm
set_option maxHeartbeats 4000000 in
theorem AY (c:List Int)(hc:∀x∈c,0≤x∧x≤255):bz Try.prog 4 [.lst (.int .u8) c] [] (.bool true) []:=by
 obtain⟨⟨⟨b,f⟩,ts⟩,⟨hx1,hx2⟩,hd⟩:=qP c hc
 simp only at hx1 hx2 hd
 refine bH bq Try.func4 rfl rfl false 0 4 rfl rfl rfl rfl fun K hK hb1 hb2=>?_;simp only[bJ,enc,Nat.reduceAdd]
 clear hb1 hb2
 by_cases hl:(1048576:Int)<c.length
 ·(repeat' first|refine st ?_|refine sa fun xe hxe=>?_|refine sb (fun hq=>?_) fun hq=>?_|exact aE)
  exact⟨rfl,rfl⟩
 cases hv:nO ⟨b,f⟩ ts
 ·have hA:=ue hv
  have hS:=B9 hv
  (repeat' first|refine st ?_|refine sa fun xe hxe=>?_|refine sb (fun hq=>?_) fun hq=>?_|refine cr (hd) ?_|refine cr (hA) ?_|refine cr (hS) ?_|refine cr (i7 _ _) ?_|refine cr (kl _) ?_|exact aE)
  all_goals first|exact⟨rfl,rfl⟩|exact absurd rfl hq
 ·have hA:=uf hv
  have hS:=Ca hv
  obtain⟨h1,h2,h3,h4,h5,h6⟩:=oc hv
  have hO:=pe ts h2 h3
  have hOK:LanesOK ts (cd (fy ts ts.length) ts.length ts.length):=jg (sI ts)
  have hln:=fA (fy ts ts.length) ts.length ts.length
  rw[iR] at hO
  generalize cd (fy ts ts.length) ts.length ts.length=lanes at *
  have hRv:=BE hOK
  have hR:=FC (b:=b) (f:=f) (ts:=kW ts lanes 0) (by have:=hRv 0;simp[iC,h1];omega)
  rw[C0 h4 hOK] at hR
  have hR0:=BD ts lanes
  have hlen:(bu ⟨b,f⟩ ts).b.length=6:=by rw[j7];exact h5.1
  generalize bu ⟨b,f⟩ ts=g at *
  generalize cK ⟨b,f⟩ ts=o at *
  generalize cK ⟨b,f⟩ (kW ts lanes 0)=o2 at *
  obtain⟨gb,gf⟩:=g
  simp only at hlen hA hS hR
  have hLn:(lanes.map fun L=>L.map fun i:Nat=>(i:Int)).length=lanes.length:=by simp
  (repeat' first|refine st ?_|refine sa fun xe hxe=>?_|refine sb (fun hq=>?_) fun hq=>?_|refine cr (hd) ?_|refine cr (hA) ?_|refine cr (hS) ?_|refine cr (hO) ?_|refine cr (i7 _ _) ?_|refine cr (kl _) ?_|exact aE)
  refine bA hK [] [3,4,5,9,10,11] (fun p:Nat=>⟨[(3,.ptr 4 0),(4,.lst .txn ts),(5,.ptr 5 0),(9,.lst (.lst (.int .i64)) (lanes.map fun L=>L.map fun i:Nat=>(i:Int))),(10,.ref 6),(11,.int .i64 ((p:Int)-1))],
   [(4,.var 25 [.lst (.int .i64) b,.int .i64 f]),(5,.var 25 [.ref 7,.int .i64 gf]),(6,.row 38 .txn (kW ts lanes p)),(7,.row 3 (.int .i64) gb)],8⟩)
   (fun p=>p≤lanes.length) (fun p=>p) (lanes.map fun L=>L.map fun i:Nat=>(i:Int)).length (by omega) (by(conv=>whnf);rw[hLn,hR0]) ?_
  intro p hp
  cases p with
  |zero=>
   (repeat' first|refine st ?_|refine sa fun xe hxe=>?_|refine sb (fun hq=>?_) fun hq=>?_|refine cr (hR) ?_|refine cr (i7 _ _) ?_|exact aE)
   all_goals first|exact⟨rfl,rfl⟩|exact absurd rfl hq
  |succ q=>
   obtain⟨L,hL⟩:∃L,lanes[q]?=some L:=⟨_,aZ (by omega)⟩
   have hst:=zx (ts:=ts) hL
   have hq1:=hRv q
   have hLL:(lanes.map fun L=>L.map fun i:Nat=>(i:Int))[q]?=some (L.map fun i:Nat=>(i:Int)):=by simp[hL]
   have hq0:((q+1:Nat):Int)-1=(q:Int):=by omega
   rw[hq0]
   have hLb:∀k i,L[k]?=some i→i<ts.length:=fun k i hi=>gr hOK hL hi
   rw[hst,b7] at hq1
   have htl:(bY ts L).length=L.length:=by simp[bY]
   (repeat' first|refine st ?_|refine sa fun xe hxe=>?_|refine sb (fun hq=>?_) fun hq=>?_|exact aE)
   refine bA hK [] [3,4,5,9,10,11,12] (fun k:Nat=>⟨[(3,.ptr 4 0),(4,.lst .txn ts),(5,.ptr 5 0),(9,.lst (.lst (.int .i64)) (lanes.map fun L=>L.map fun i:Nat=>(i:Int))),(10,.ref 6),(11,.int .i64 q),(12,.int .i64 k)],
    [(4,.var 25 [.lst (.int .i64) b,.int .i64 f]),(5,.var 25 [.ref 7,.int .i64 gf]),(6,.row 38 .txn (kW ts lanes (q+1)++bY ts (L.take k))),(7,.row 3 (.int .i64) gb)],8⟩)
    (fun k=>k≤L.length) (fun k=>L.length-k) 0 (by omega) (by(conv=>whnf);simp[bY]) ?_
   intro k hk
   have htk:(bY ts (L.take k)).length=k:=by simp[bY];omega
   have hLn2:(L.map fun i:Nat=>(i:Int)).length=L.length:=by simp
   by_cases hlk:k<L.length
   ·obtain⟨i,hi⟩:∃i,L[k]?=some i:=⟨_,aZ hlk⟩
    have hib:=hLb k i hi
    obtain⟨t,ht⟩:∃t,ts[i]?=some t:=⟨_,aZ hib⟩
    have hgi:(L.map fun i:Nat=>(i:Int))[k]?=some (i:Int):=by simp[hi]
    have hnx:bY ts (L.take (k+1))=bY ts (L.take k)++[t]:=by
     obtain⟨h7,h8⟩:=cq.1 hi
     rw[mA h7,h8]
     simp[bY,aX,ht]
    have hrow:(kW ts lanes (q+1)++bY ts (L.take k)).length≤16:=by rw[b7,htk];omega
    generalize hRW:kW ts lanes (q+1)++bY ts (L.take k)=RW at *
    (repeat' first|refine st ?_|refine sa fun xe hxe=>?_|refine sb (fun hq=>?_) fun hq=>?_|exact aE)
    refine⟨k+1,by omega,by omega,?_⟩
    rw[hnx,←cX,hRW]
    rfl
   ·have:k=L.length:=by omega
    subst this
    rw[nI,←hst]
    (repeat' first|refine st ?_|refine sa fun xe hxe=>?_|refine sb (fun hq=>?_) fun hq=>?_|exact aE)
    refine⟨q,by omega,by omega,?_⟩
    rfl
end
end Go.Proofs.Ytbmnihglaokhmaa.Am
namespace Go.Proofs.Ytbmnihglaokhmaa.Am
open Go
attribute [local irreducible] Mk ct Ari fl mJ jJ cL dy jb gq At bz
set_option maxRecDepth 10000
section
attribute [local instance] jh
theorem Di (l:List Int)(n:Int):bz Try.prog 14 [.lst (.int .i64) l,.int .i64 n] [] (.bool (l.contains n)) []:=by
 refine bH bq Try.func14 rfl rfl false 0 4 rfl rfl rfl rfl fun K hK hb1 hb2=>?_;simp only[bJ,enc,Nat.reduceAdd]
 simp[aB,V.toD,bnd,aj,D.cells] at hb1
 (repeat' first|refine st ?_|refine sa fun xe hxe=>?_|refine sb (fun hq=>?_) fun hq=>?_|exact aE)
 refine bA hK [] [0,1,5] (fun i:Nat=>⟨[(0,.lst (.int .i64) l),(1,.int .i64 n),(5,.int .i64 i)],[],4⟩) (fun i=>i≤l.length∧∀y∈l.take i,y≠n) (fun i=>l.length-i) 0 ⟨by simp,by simp⟩ (by rfl) ?_
 rintro i ⟨hi,hall⟩
 by_cases hlt:i<l.length
 ·have hxe:l[i]?=some l[i]:=aZ hlt
  have h3:l.take (i+1)=l.take i++[l[i]]:=mA hlt
  have h4:l[i]∈l:=eG hlt
  generalize l[i]=y at *
  (repeat' first|refine st ?_|refine sa fun xe hxe=>?_|refine sb (fun hq=>?_) fun hq=>?_|exact aE)
  ·have:l.contains n=true:=by rw[List.contains_iff_mem,←hq];exact h4
   rw[this]
   exact⟨rfl,rfl⟩
  ·exact⟨i+1,⟨by omega,by
    rw[h3]
    intro z hz
    rcases cm.1 hz with hz|hz
    ·exact hall z hz
    ·rw[bd] at hz;subst hz;exact hq⟩,by omega,rfl⟩
 ·(repeat' first|refine st ?_|refine sa fun xe hxe=>?_|refine sb (fun hq=>?_) fun hq=>?_|exact aE)
  rw[gj (by omega)] at hall
  have:l.contains n=false:=by rw[Bool.eq_false_iff];intro h;exact hall n (List.contains_iff_mem.1 h) rfl
  rw[this]
  exact⟨rfl,rfl⟩
def oD (us:List Txn):List Int:=us.flatMap fun t=>[t.a,t.b]
theorem vO {us:List Txn}(hv:∀t∈us,bW t=true){a:Nat}(h:(oD us).contains (a:Int)=false):¬i4 us a:=by
 rintro⟨t,ht,hc⟩
 have hr:=ou (hv t ht)
 rw[Bool.eq_false_iff] at h
 refine h (List.contains_iff_mem.2 (dC.2 ⟨t,ht,?_⟩))
 simp only[a9,dU,or_false]
 omega
set_option maxHeartbeats 4000000 in
theorem AZ (c d:List Int)(hc:∀x∈c,0≤x∧x≤255)(_hd:∀x∈d,0≤x∧x≤255):bz Try.prog 5 [.lst (.int .u8) c,.lst (.int .u8) d] [] (.bool true) []:=by
 obtain⟨⟨⟨b,f⟩,ts⟩,⟨hx1,hx2⟩,hd⟩:=qP c hc
 simp only at hx1 hx2 hd
 refine bH bq Try.func5 rfl rfl false 0 4 rfl rfl rfl rfl fun K hK hb1 hb2=>?_;simp only[bJ,enc,Nat.reduceAdd]
 clear hb1 hb2
 by_cases hl:(1048576:Int)<c.length
 ·(repeat' first|refine st ?_|refine sa fun xe hxe=>?_|refine sb (fun hq=>?_) fun hq=>?_|exact aE)
  exact⟨rfl,rfl⟩
 by_cases hl2:(1048576:Int)<d.length
 ·(repeat' first|refine st ?_|refine sa fun xe hxe=>?_|refine sb (fun hq=>?_) fun hq=>?_|exact aE)
  exact⟨rfl,rfl⟩
 cases hv:nO ⟨b,f⟩ ts
 ·have hA:=ue hv
  have hS:=B9 hv
  (repeat' first|refine st ?_|refine sa fun xe hxe=>?_|refine sb (fun hq=>?_) fun hq=>?_|refine cr (hd) ?_|refine cr (hA) ?_|refine cr (hS) ?_|refine cr (i7 _ _) ?_|refine cr (kl _) ?_|exact aE)
  all_goals first|exact⟨rfl,rfl⟩|exact absurd rfl hq|exact absurd rfl hq_1
 ·have hA:=uf hv
  have hS:=Ca hv
  obtain⟨h1,h2,h3,h4,h5,h6⟩:=oc hv
  have hO:=pe ts h2 h3
  have hOK:LanesOK ts (cd (fy ts ts.length) ts.length ts.length):=jg (sI ts)
  have hln:=fA (fy ts ts.length) ts.length ts.length
  rw[iR] at hO
  generalize cd (fy ts ts.length) ts.length ts.length=lanes at *
  have hlen:(bu ⟨b,f⟩ ts).b.length=6:=by rw[j7];exact h5.1
  generalize bu ⟨b,f⟩ ts=g at *
  generalize cK ⟨b,f⟩ ts=o at *
  obtain⟨gb,gf⟩:=g
  simp only at hlen hA hS
  have hbl:b.length=6:=h5.1
  have hLn:(lanes.map fun L=>L.map fun i:Nat=>(i:Int)).length=lanes.length:=by simp
  by_cases hts:ts=[]
  ·subst hts
   (repeat' first|refine st ?_|refine sa fun xe hxe=>?_|refine sb (fun hq=>?_) fun hq=>?_|refine cr (hd) ?_|refine cr (hA) ?_|refine cr (hS) ?_|refine cr (i7 _ _) ?_|refine cr (kl _) ?_|exact aE)
   all_goals first|exact⟨rfl,rfl⟩|exact absurd rfl ‹¬(((([]:List Txn).length:Nat):Int)=0)›
  have htl:0<ts.length:=List.length_pos_iff.2 hts
  have hpos:0<lanes.length:=by
   rcases Nat.eq_zero_or_pos lanes.length with h0|h0
   ·have:=hOK.len
    rw[List.length_eq_zero_iff.1 h0] at this
    simp at this
    omega
   ·exact h0
  have hrm:0≤(d.length:Int).tmod ((lanes.map fun L=>L.map fun i:Nat=>(i:Int)).length:Int)∧(d.length:Int).tmod ((lanes.map fun L=>L.map fun i:Nat=>(i:Int)).length:Int)<((lanes.map fun L=>L.map fun i:Nat=>(i:Int)).length:Int):=⟨Int.tmod_nonneg _ (by omega),Int.tmod_lt_of_pos _ (by omega)⟩
  obtain⟨L,hL⟩:∃L,lanes[((d.length:Int).tmod ((lanes.map fun L=>L.map fun i:Nat=>(i:Int)).length:Int)).toNat]?=some L:=⟨_,aZ (by omega)⟩
  have hLL:(lanes.map fun L=>L.map fun i:Nat=>(i:Int))[((d.length:Int).tmod ((lanes.map fun L=>L.map fun i:Nat=>(i:Int)).length:Int)).toNat]?=some (L.map fun i:Nat=>(i:Int)):=by rw[b9,hL];rfl
  have hL16:L.length≤16:=gm (lM hOK hL) h3
  have hLb:∀k i,L[k]?=some i→i<ts.length:=fun k i hi=>gr hOK hL hi
  have hLv:=m7 h4 hOK hL
  have htl2:(bY ts L).length=L.length:=by simp[bY]
  have hR:=FC (b:=b) (f:=f) (ts:=bY ts L) (by simp[iC,h1,htl2];omega)
  have hoth:∀a:Nat,(oD (bY ts L)).contains (a:Int)=false→(bu ⟨b,f⟩ (bY ts L)).b.getD a 0=b.getD a 0:=fun a ha=>jr _ _ (vO hLv ha)
  have hrl:(bu ⟨b,f⟩ (bY ts L)).b.length=6:=by rw[j7];exact hbl
  generalize bu ⟨b,f⟩ (bY ts L)=g2 at *
  generalize cK ⟨b,f⟩ (bY ts L)=o2 at *
  obtain⟨rb,rf⟩:=g2
  simp only at hR hoth hrl
  (repeat' first|refine st ?_|refine sa fun xe hxe=>?_|refine sb (fun hq=>?_) fun hq=>?_|refine cr (hd) ?_|refine cr (hA) ?_|refine cr (hS) ?_|refine cr (hO) ?_|refine cr (i7 _ _) ?_|refine cr (kl _) ?_|exact aE)
  refine bA hK [] [5,6,12,13,14,15] (fun k:Nat=>⟨[(5,.ptr 4 0),(6,.lst .txn ts),(12,.lst (.int .i64) (L.map fun i:Nat=>(i:Int))),(13,.ref 5),(14,.ref 6),(15,.int .i64 k)],
   [(4,.var 25 [.lst (.int .i64) b,.int .i64 f]),(5,.row 38 .txn (bY ts (L.take k))),(6,.row 3 (.int .i64) (oD (bY ts (L.take k))))],7⟩)
   (fun k=>k≤L.length) (fun k=>L.length-k) 0 (by omega) (by rfl) ?_
  intro k hk
  have hLn2:(L.map fun i:Nat=>(i:Int)).length=L.length:=by simp
  by_cases hlk:k<L.length
  ·obtain⟨i,hi⟩:∃i,L[k]?=some i:=⟨_,aZ hlk⟩
   have hib:=hLb k i hi
   obtain⟨t,ht⟩:∃t,ts[i]?=some t:=⟨_,aZ hib⟩
   have hgi:(L.map fun i:Nat=>(i:Int))[k]?=some (i:Int):=by simp[hi]
   have hnx:bY ts (L.take (k+1))=bY ts (L.take k)++[t]:=by
    obtain⟨h7,h8⟩:=cq.1 hi
    rw[mA h7,h8]
    simp[bY,aX,ht]
   have hnx2:oD (bY ts (L.take (k+1)))=oD (bY ts (L.take k))++[t.a,t.b]:=by rw[hnx];simp[oD]
   have hrow:(bY ts (L.take k)).length≤16:=by simp[bY];omega
   have hrow2:(oD (bY ts (L.take k))).length≤32:=by
    have e:∀us:List Txn,(oD us).length=2*us.length:=by
     intro us
     induction us with
     |nil=>rfl
     |cons u us ih=>simp[oD] at ih⊢;omega
    rw[e];omega
   generalize hRW:bY ts (L.take k)=RW at *
   generalize hAW:oD RW=AW at *
   (repeat' first|refine st ?_|refine sa fun xe hxe=>?_|refine sb (fun hq=>?_) fun hq=>?_|exact aE)
   refine⟨k+1,by omega,by omega,?_⟩
   rw[hnx2,hnx]
   rfl
  ·have:k=L.length:=by omega
   subst this
   rw[nI]
   generalize oD (bY ts L)=AC at *
   (repeat' first|refine st ?_|refine sa fun xe hxe=>?_|refine sb (fun hq=>?_) fun hq=>?_|refine cr (hR) ?_|exact aE)
   refine bA hK [] [5,14,16,18] (fun a:Nat=>⟨[(5,.ptr 4 0),(14,.ref 5),(16,.ptr 6 0),(18,.int .i64 a)],
    [(4,.var 25 [.lst (.int .i64) b,.int .i64 f]),(5,.row 3 (.int .i64) AC),(6,.var 25 [.ref 7,.int .i64 rf]),(7,.row 3 (.int .i64) rb)],8⟩)
    (fun a=>a≤6) (fun a=>6-a) 0 (by omega) (by rfl) ?_
   intro a ha
   by_cases hla:a<6
   ·obtain⟨x,hx⟩:∃x,rb[a]?=some x:=⟨_,aZ (by omega)⟩
    obtain⟨y,hy⟩:∃y,b[a]?=some y:=⟨_,aZ (by omega)⟩
    have hH:=Di AC (a:Int)
    have ho:=hoth a
    cases hcn:AC.contains (a:Int)
    ·have hxy:x=y:=by
      have:=ho hcn
      simpa[aX,hx,hy] using this
     subst hxy
     rw[hcn] at hH
     (repeat' first|refine st ?_|refine sa fun xe hxe=>?_|refine sb (fun hq=>?_) fun hq=>?_|refine cr (hH) ?_|exact aE)
     all_goals first|(refine⟨a+1,by omega,by omega,?_⟩;rfl)|exact absurd rfl hq|(exfalso;simp at hq)
    ·rw[hcn] at hH
     (repeat' first|refine st ?_|refine sa fun xe hxe=>?_|refine sb (fun hq=>?_) fun hq=>?_|refine cr (hH) ?_|exact aE)
     refine⟨a+1,by omega,by omega,?_⟩
     rfl
   ·(repeat' first|refine st ?_|refine sa fun xe hxe=>?_|refine sb (fun hq=>?_) fun hq=>?_|exact aE)
    exact⟨rfl,rfl⟩
end

end Go.Proofs.Ytbmnihglaokhmaa.Am
