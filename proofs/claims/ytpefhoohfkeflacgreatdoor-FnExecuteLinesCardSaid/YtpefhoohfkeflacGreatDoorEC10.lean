/- Runs: an event is applied, under the lock. Runs: what has been applied is handed back. Runs: what an event does to a run. Runs: impl's WorldDo and WorldPlay. Runs: quiet rounds, copies, whole events: what the specification gives. What is drawn for new runs; the law FnWorldNew. What is drawn for runs. What is drawn for runs: whole runs, runs that are often invalid. Certified proposals: the law FnWorldCertified. Runs: the reference's WorldDo and WorldPlay; what is drawn for them. Runs: quorums meet; what is held of valid runs. Runs: what quiet periods lead to (plain laws): nothing is left to del -/
import Derived.LaidEql
import Derived.Stop.Asserts
import Derived.RowKitTokens
import Derived.Test.YtpefhoohfkeflacGreatDoorEC9
set_option linter.unusedSimpArgs false
set_option linter.unusedVariables false
set_option maxHeartbeats 1000000
namespace Go.Proofs.YtpefhoohfkeflacGreatDoor.Am
open Go
attribute [local irreducible] Mk ci Ari fB mA ju b9 cR iT fo At ag
set_option maxRecDepth 10000
theorem Bq (c l:List Int)(b:Int)(tabs:List (List (Option Vtx)))(xss:List (Option (List Int)))(ms:List PplM):ag Tryz.prog 169 [.ptr 4 0] (rX 0 c l b tabs xss ms) (.tup []) (rX 1 c l b tabs xss ms):=by
 have h:=CB Fx (h:=rX 0 c l b tabs xss ms) (T:=97) (cs:=[.int .u32 0,.lst (.int .i64) c,.lst (.int .i64) l,.int .i64 b,.ref 5,.ref 6]) rfl
 exact h
set_option maxHeartbeats 1000000 in
theorem fk (c l:List Int)(b:Int)(tabs tabs':List (List (Option Vtx)))(xss xss':List (Option (List Int)))(ms ms':List PplM)(e:Evt)(r:Bool)(ht:tabs.length≤tabs'.length)(hx:xss.length≤xss'.length)
  (h1:e.kind=1→ag Tryz.prog 171 [.ptr 4 0,.int .i64 e.a,.int .i64 e.b] (rX 1 c l b tabs xss ms) (.bool r) (rX 1 c l b tabs' xss' ms'))
  (h2:e.kind=2→ag Tryz.prog 172 [.ptr 4 0,.int .i64 e.a,.int .i64 e.b] (rX 1 c l b tabs xss ms) (.bool r) (rX 1 c l b tabs' xss' ms'))
  (h3:e.kind=3→ag Tryz.prog 173 [.ptr 4 0,.int .i64 e.a,.int .i64 e.b] (rX 1 c l b tabs xss ms) (.bool r) (rX 1 c l b tabs' xss' ms'))
  (h4:e.kind=4→ag Tryz.prog 174 [.ptr 4 0,cY e.v] (rX 1 c l b tabs xss ms) (.bool r) (rX 1 c l b tabs' xss' ms'))
  (h5:e.kind=5→ag Tryz.prog 175 [.ptr 4 0,.int .i64 e.b] (rX 1 c l b tabs xss ms) (.bool r) (rX 1 c l b tabs' xss' ms'))
  (h6:¬(1≤e.kind∧e.kind≤5)→r=false∧tabs'=tabs∧xss'=xss∧ms'=ms):ag Tryz.prog 147 [.ptr 4 0,tM e] (rX 0 c l b tabs xss ms) (.bool r) (rX 0 c l b tabs' xss' ms'):=by
 refine AT Fx bS Tryz.func147 rfl rfl false 3 7 rfl rfl rfl rfl (by exact Live.of_look (av (i:=0) (x:=.var 97 [.int .i32 0,.int .u32 0,.lst (.int .i64) c,.lst (.int .i64) l,.int .i64 b,.ref 5,.ref 6]) rfl rfl)) fun K hK hK4 hb1 hb2=>?_;simp only[ae,enc,Nat.reduceAdd]
 clear hb1 hb2
 have hL:=Bq c l b tabs xss ms
 have hF0:bz (VB.fvari 143 217 (.ob .vtx) tabs)≤bz (VB.fvari 143 217 (.ob .vtx) tabs'):=ht
 have hF1:bz (VB.frowx 3 (.int .i64) xss)≤bz (VB.frowx 3 (.int .i64) xss'):=hx
 refine qT ?_
 (repeat' first|refine cg ?_|refine sa fun xe hxe=>?_|refine sb (fun hq=>?_) fun hq=>?_|exact aa)
 refine⟨rfl,qT ?_⟩
 (repeat' first|refine cg ?_|refine sa fun xe hxe=>?_|refine sb (fun hq=>?_) fun hq=>?_|refine cr (hL) ?_|exact aa)
 refine⟨rfl,wL ?_⟩
 refine AI bS (l:=[_,_,_]) (od:=_) rfl ⟨rfl,rfl,rfl⟩ (by decide) ?_
 (conv=>whnf)
 (repeat' first|refine cg ?_|refine sa fun xe hxe=>?_|refine sb (fun hq=>?_) fun hq=>?_|exact aa)
 refine⟨rfl,hK4,rfl,?_⟩
 by_cases c1:e.kind=1
 ·have h:=h1 c1
  (repeat' first|refine cg ?_|refine sa fun xe hxe=>?_|refine sb (fun hq=>?_) fun hq=>?_|refine cr (h) ?_|exact aa)
  exact⟨rfl,rfl⟩
 ·by_cases c2:e.kind=2
  ·have h:=h2 c2
   (repeat' first|refine cg ?_|refine sa fun xe hxe=>?_|refine sb (fun hq=>?_) fun hq=>?_|refine cr (h) ?_|exact aa)
   exact⟨rfl,rfl⟩
  ·by_cases c3:e.kind=3
   ·have h:=h3 c3
    (repeat' first|refine cg ?_|refine sa fun xe hxe=>?_|refine sb (fun hq=>?_) fun hq=>?_|refine cr (h) ?_|exact aa)
    exact⟨rfl,rfl⟩
   ·by_cases c4:e.kind=4
    ·have h:=h4 c4
     (repeat' first|refine cg ?_|refine sa fun xe hxe=>?_|refine sb (fun hq=>?_) fun hq=>?_|refine cr (h) ?_|exact aa)
     exact⟨rfl,rfl⟩
    ·by_cases c5:e.kind=5
     ·have h:=h5 c5
      (repeat' first|refine cg ?_|refine sa fun xe hxe=>?_|refine sb (fun hq=>?_) fun hq=>?_|refine cr (h) ?_|exact aa)
      exact⟨rfl,rfl⟩
     ·obtain⟨rfl,rfl,rfl,rfl⟩:=h6 (by omega)
      (repeat' first|refine cg ?_|refine sa fun xe hxe=>?_|refine sb (fun hq=>?_) fun hq=>?_|exact aa)
      exact⟨rfl,rfl⟩
theorem KT (ps:List Ppl)(xss:List (Option (List Int)))(ms:List PplM)(hR:Rel ps xss ms)(hv:∀p∈ps,p.v.parents.length≤1000000∧p.members.length≤1000000)(hl:ps.length≤1000000):ag Tryz.prog 53 [.ref 4] [(1,.frowx 3 (.int .i64) xss),(4,.row 123 (.pplm 1) ms)] (.lst .ppl ps) [(1,.frowx 3 (.int .i64) xss),(4,.row 123 (.pplm 1) ms)]:=by
 refine ab aj Tryz.func53 rfl rfl true 1 5 rfl rfl rfl rfl fun K hK hb1 hb2=>?_;simp only[ae,enc,Nat.reduceAdd]
 clear hb1 hb2
 have hpl:=hR.len
 (repeat' first|refine st ?_|refine sa fun xe hxe=>?_|refine sb (fun hq=>?_) fun hq=>?_|exact aa)
 refine ah hK [] [3,9,10,11] (fun i:Nat=>⟨[(3,.ref 5),(9,.ref 4),(10,.int .i64 ps.length),(11,.int .i64 (i:Int))],[(1,.frowx 3 (.int .i64) xss),(4,.row 123 (.pplm 1) ms),(5,.row 123 .ppl (ps.take i++(List.replicate ps.length p0).drop i))],6⟩) (fun i=>i≤ps.length) (fun i=>ps.length-i) 0 (by simp) (by simp only[hpl];simp;rfl) ?_
 intro i hi
 by_cases hlt:i<ps.length
 ·have hxe:ps[i]?=some ps[i]:=am hlt
  have hg:i<(ps.take i++(List.replicate ps.length p0).drop i).length:=s0 _ _ (by simp;omega) (by simpa using hlt)
  have hs:(ps.take i++(List.replicate ps.length p0).drop i).set i ps[i]=ps.take (i+1)++(List.replicate ps.length p0).drop (i+1):=by
   rw[th _ _ _ (by simp;omega) (by simpa using hlt),b8 hlt]
  obtain⟨v1,v2⟩:=hv _ (bd hlt)
  obtain⟨j,hx1,hx2⟩:=hR.get i _ hxe
  generalize hrow:ps.take i++(List.replicate ps.length p0).drop i=row at *
  generalize ps[i]=p at *
  (repeat' first|refine st ?_|refine sa fun xe hxe=>?_|refine sb (fun hq=>?_) fun hq=>?_|refine cr (ov _ v1) ?_|exact aa)
  refine⟨i+1,by omega,by omega,?_⟩
  rw[←hs]
  rfl
 ·obtain rfl:i=ps.length:=by omega
  (repeat' first|refine st ?_|refine sa fun xe hxe=>?_|refine sb (fun hq=>?_) fun hq=>?_|exact aa)
  simp
def wu (s:Int)(c l:List Int)(b:Int)(tabs:List (List (Option Vtx)))(xss:List (Option (List Int)))(ms:List PplM)(ps:List Ppl):Nat→VSt
 |0=>⟨[(2,.ptr 7 0),(3,.ptr 8 0),(30,.ref 5),(31,.int .i64 tabs.length),(32,.int .i64 0)],rX s c l b tabs xss ms++[(7,VB.var 36 [.nils,.nils,.int .i64 0,.nils,.nils]),(8,VB.var 36 [.lst (.int .i64) c,.ref 9,.int .i64 b,.nils,.lst .ppl ps]),(9,VB.row 3 (.int .i64) l)],10⟩
 |i+1=>⟨[(2,.ptr 7 0),(3,.ptr 8 0),(30,.ref 5),(31,.int .i64 tabs.length),(32,.int .i64 ((i+1:Nat):Int))],rX s c l b tabs xss ms++[(7,VB.var 36 [.nils,.nils,.int .i64 0,.nils,.nils]),(8,VB.var 36 [.lst (.int .i64) c,.ref 9,.int .i64 b,.ref 10,.lst .ppl ps]),(9,VB.row 3 (.int .i64) l),(10,VB.row 82 (.lst .vtx) ((tabs.take (i+1)).map fM))],11⟩
set_option maxHeartbeats 1000000 in
theorem Il (s:Int)(c l:List Int)(b:Int)(tabs:List (List (Option Vtx)))(xss:List (Option (List Int)))(ms:List PplM)(ps:List Ppl)(hR:Rel ps xss ms)(hc:c≠[])(hcl:c.length≤1000000)(hll:l.length≤1000000)(ht:∀t∈tabs,t.length=217∧∀v,some v∈t→v.parents.length≤1000000)(htl:tabs.length≤7)(htl1:1≤tabs.length)
  (hv:∀p∈ps,p.v.parents.length≤1000000∧p.members.length≤1000000) (hpn:ps.length≤1000000):ag Tryz.prog 26 [.ptr 4 0] (rX s c l b tabs xss ms) (bc ⟨c,l,b,tabs.map fM,ps⟩) (rX s c l b tabs xss ms):=by
 have hC:=EW c hc hcl
 have hP:=KT ps xss ms hR hv hpn
 have hrl:((List.range tabs.length).map some).length=tabs.length:=by simp
 refine ab aj Tryz.func26 rfl rfl true 3 7 rfl rfl rfl rfl fun K hK hb1 hb2=>?_;simp only[ae,enc,Nat.reduceAdd]
 clear hb1 hb2
 (repeat' first|refine st ?_|refine sa fun xe hxe=>?_|refine sb (fun hq=>?_) fun hq=>?_|refine cr (hC) ?_|refine co (hP) ?_|exact aa)
 refine ah hK [] [2,3,30,31,32] (wu s c l b tabs xss ms ps) (fun i=>i≤tabs.length) (fun i=>tabs.length-i) 0 (by simp) (by simp only[hrl];(conv=>whnf);rfl) ?_
 intro i hi
 by_cases hlt:i<tabs.length
 ·have hxe:tabs[i]?=some tabs[i]:=am hlt
  have hsn:tabs.take (i+1)=tabs.take i++[tabs[i]]:=b8 hlt
  obtain⟨t1,t2⟩:=ht _ (bd hlt)
  have hxv:((List.range tabs.length).map some)[i]?=some (some i):=by rw[be,qh hlt];rfl
  have hV:=Ff tabs i _ hxe t1 t2
  generalize tabs[i]=tab at *
  cases i with
  |zero=>
   have hst:wu s c l b tabs xss ms ps (0+1)=⟨[(2,.ptr 7 0),(3,.ptr 8 0),(30,.ref 5),(31,.int .i64 tabs.length),(32,.int .i64 ((0+1:Nat):Int))],rX s c l b tabs xss ms++[(7,VB.var 36 [.nils,.nils,.int .i64 0,.nils,.nils]),(8,VB.var 36 [.lst (.int .i64) c,.ref 9,.int .i64 b,.ref 10,.lst .ppl ps]),(9,VB.row 3 (.int .i64) l),(10,VB.row 82 (.lst .vtx) [fM tab])],11⟩:=by
    rw[wu,hsn]
    rfl
   have hs0:wu s c l b tabs xss ms ps 0=⟨[(2,.ptr 7 0),(3,.ptr 8 0),(30,.ref 5),(31,.int .i64 tabs.length),(32,.int .i64 0)],rX s c l b tabs xss ms++[(7,VB.var 36 [.nils,.nils,.int .i64 0,.nils,.nils]),(8,VB.var 36 [.lst (.int .i64) c,.ref 9,.int .i64 b,.nils,.lst .ppl ps]),(9,VB.row 3 (.int .i64) l)],10⟩:=rfl
   have hx0:((List.range tabs.length).map some)[(0:Int).toNat]?=some (some 0):=hxv
   rw[hs0]
   (repeat' first|refine st ?_|refine sa fun xe hxe=>?_|refine sb (fun hq=>?_) fun hq=>?_|refine co (hV) ?_|exact aa)
   refine⟨0+1,by omega,by omega,?_⟩
   rw[hst]
   rfl
  |succ i=>
   have hfl:((tabs.take (i+1)).map fM).length=i+1:=by rw[az,bP];omega
   have hst:wu s c l b tabs xss ms ps (i+1+1)=⟨[(2,.ptr 7 0),(3,.ptr 8 0),(30,.ref 5),(31,.int .i64 tabs.length),(32,.int .i64 ((i+1+1:Nat):Int))],rX s c l b tabs xss ms++[(7,VB.var 36 [.nils,.nils,.int .i64 0,.nils,.nils]),(8,VB.var 36 [.lst (.int .i64) c,.ref 9,.int .i64 b,.ref 10,.lst .ppl ps]),(9,VB.row 3 (.int .i64) l),(10,VB.row 82 (.lst .vtx) ((tabs.take (i+1)).map fM++[fM tab]))],11⟩:=by
    rw[wu,hsn,ce]
    rfl
   have hs0:wu s c l b tabs xss ms ps (i+1)=⟨[(2,.ptr 7 0),(3,.ptr 8 0),(30,.ref 5),(31,.int .i64 tabs.length),(32,.int .i64 ((i+1:Nat):Int))],rX s c l b tabs xss ms++[(7,VB.var 36 [.nils,.nils,.int .i64 0,.nils,.nils]),(8,VB.var 36 [.lst (.int .i64) c,.ref 9,.int .i64 b,.ref 10,.lst .ppl ps]),(9,VB.row 3 (.int .i64) l),(10,VB.row 82 (.lst .vtx) ((tabs.take (i+1)).map fM))],11⟩:=rfl
   rw[hs0]
   clear hs0
   generalize (tabs.take (i+1)).map fM=ts at *
   (repeat' first|refine st ?_|refine sa fun xe hxe=>?_|refine sb (fun hq=>?_) fun hq=>?_|refine co (hV) ?_|exact aa)
   refine⟨i+1+1,by omega,by omega,?_⟩
   rw[hst]
   rfl
 ·cases i with
  |zero=>omega
  |succ i=>
   have hs0:wu s c l b tabs xss ms ps (i+1)=⟨[(2,.ptr 7 0),(3,.ptr 8 0),(30,.ref 5),(31,.int .i64 tabs.length),(32,.int .i64 ((i+1:Nat):Int))],rX s c l b tabs xss ms++[(7,VB.var 36 [.nils,.nils,.int .i64 0,.nils,.nils]),(8,VB.var 36 [.lst (.int .i64) c,.ref 9,.int .i64 b,.ref 10,.lst .ppl ps]),(9,VB.row 3 (.int .i64) l),(10,VB.row 82 (.lst .vtx) (tabs.map fM))],11⟩:=by
    rw[wu,bp (by omega)]
   rw[hs0]
   clear hs0
   (repeat' first|refine st ?_|refine sa fun xe hxe=>?_|refine sb (fun hq=>?_) fun hq=>?_|exact aa)
   exact⟨rfl,rfl⟩
theorem vM (s:Int)(w:Wrl)(xss:List (Option (List Int)))(ms:List PplM)(hw:WOK w)(hR:Rel w.props xss ms):ag Tryz.prog 26 [.ptr 4 0] (rW s w xss ms) (bc w) (rW s w xss ms):=by
 have h:=(iS.2 hw)
 rw[ng,aA] at h
 have h:=h.1
 obtain⟨h1,h2,h3,h4,h5,h6⟩:=nM h
 have h7:=(ay.1 h1).2
 have hll:=(bR.1 h2).2
 have hps:=rx h
 have hpl:=mY h4
 have hne:w.com≠[]:=fun h=>by rw[h] at h7;simp at h7
 have hc:=Il s w.com w.lead w.bad (w.views.map aT) xss ms w.props hR hne (by omega) (by omega) (fun t ht=>by
  obtain⟨g,hg,rfl⟩:=aB.1 ht
  refine⟨dX g,fun v hv=>?_⟩
  have:=(oM h g hg v (yA hv)).2
  omega) (by rw[az];omega) (by rw[az];omega) (fun p hp=>by have:=(hps p hp).2.2.2;omega) (by omega)
 rw[uK h] at hc
 exact hc
theorem Nu (c l:List Int)(b:Int)(tabs:List (List (Option Vtx)))(ps:List Ppl):∀k:Id,look (toH (rX 0 c l b tabs (ps.map fun p=>some p.members) (tS ps))) k=look (toH (rB c l b tabs ps)) k:=by
 rintro⟨k1,k2⟩
 rw[ap,ap]
 by_cases e:k1=1
 ·subst e
  simp only[look,if_true,ba,VB.blks]
  simp[be,rowX]
  rfl
 ·simp[look,e]
theorem Fb (w:Wrl)(hl:∀g∈w.views,g.length≤2000000)(hp:gk w=true):ag Tryz.prog 25 [bc w] [] (.tup [.ptr 4 0,.bool (kP w)]) (rW 0 w (w.props.map fun p=>some p.members) (tS w.props)):=by
 have h:=Bt w hl
 simp only[G9,G8,hp,if_true] at h
 rw[FX hp] at h
 have e:kP w=pG w.bad w.props w.views:=by rw[ng,hp,d7]
 rw[e]
 unfold ag at h⊢
 exact h.out (Nu _ _ _ _ _)
def wF (w:Wrl)(e:Evt):Bool:=(decide (e.kind=1) && jx w e.a e.b)||(decide (e.kind=4) && jw w e.v)
def tJ (w:Wrl)(e:Evt):Bool:=if e.kind=2 then jy w e.a e.b && !(aV w e.b).members.contains e.a else if e.kind=3 then fa w e.a e.b else if e.kind=5 then lK w e.b && !(aV w e.b).members.contains w.bad else false
set_option maxHeartbeats 1000000 in
theorem HY (c l:List Int)(b:Int)(tabs:List (List (Option Vtx)))(xss xss':List (Option (List Int)))(ms ms':List PplM)(e:Evt)(hx:xss.length≤xss'.length)(hk:e.kind=1∨e.kind=4)
  (h1:e.kind=1→ag Tryz.prog 171 [.ptr 4 0,.int .i64 e.a,.int .i64 e.b] (rX 1 c l b tabs xss ms) (.bool true) (Nv 1 c l b tabs xss' ms'))
  (h4:e.kind=4→ag Tryz.prog 174 [.ptr 4 0,cY e.v] (rX 1 c l b tabs xss ms) (.bool true) (Nv 1 c l b tabs xss' ms')):ag Tryz.prog 147 [.ptr 4 0,tM e] (rX 0 c l b tabs xss ms) (.bool true) (Nv 0 c l b tabs xss' ms'):=by
 refine AT Fx bS Tryz.func147 rfl rfl false 3 7 rfl rfl rfl rfl (by exact Live.of_look (av (i:=0) (x:=.var 97 [.int .i32 0,.int .u32 0,.lst (.int .i64) c,.lst (.int .i64) l,.int .i64 b,.ref 5,.ref 6]) rfl rfl)) fun K hK hK4 hb1 hb2=>?_;simp only[ae,enc,Nat.reduceAdd]
 clear hb1 hb2
 have hL:=Bq c l b tabs xss ms
 have hF1:bz (VB.frowx 3 (.int .i64) xss)≤bz (VB.frowx 3 (.int .i64) xss'):=hx
 refine qT ?_
 (repeat' first|refine cg ?_|refine sa fun xe hxe=>?_|refine sb (fun hq=>?_) fun hq=>?_|exact aa)
 refine⟨rfl,qT ?_⟩
 (repeat' first|refine cg ?_|refine sa fun xe hxe=>?_|refine sb (fun hq=>?_) fun hq=>?_|refine cr (hL) ?_|exact aa)
 refine⟨rfl,wL ?_⟩
 refine AI bS (l:=[_,_,_]) (od:=_) rfl ⟨rfl,rfl,rfl⟩ (by decide) ?_
 (conv=>whnf)
 (repeat' first|refine cg ?_|refine sa fun xe hxe=>?_|refine sb (fun hq=>?_) fun hq=>?_|exact aa)
 refine⟨rfl,hK4,rfl,?_⟩
 by_cases c1:e.kind=1
 ·have h:=h1 c1
  (repeat' first|refine cg ?_|refine sa fun xe hxe=>?_|refine sb (fun hq=>?_) fun hq=>?_|refine cr (h) ?_|exact aa)
  exact⟨rfl,rfl⟩
 ·have c4:e.kind=4:=hk.resolve_left c1
  have h:=h4 c4
  (repeat' first|refine cg ?_|refine sa fun xe hxe=>?_|refine sb (fun hq=>?_) fun hq=>?_|refine cr (h) ?_|exact aa)
  exact⟨rfl,rfl⟩
theorem Bn (w:Wrl)(xss:List (Option (List Int)))(ms:List PplM)(hw:WOK w)(hR:Rel w.props xss ms)(e:Evt)(h:wF w e=true):∃x:List (Option (List Int))×List PplM,(Rel (jt w e).props x.1 x.2∧xss.length≤x.1.length)∧ag Tryz.prog 147 [.ptr 4 0,tM e] (rW 0 w xss ms) (.bool true) (NW 0 (jt w e) x.1 x.2):=by
 have key:∃v,jt w e=tH w v∧(e.kind=1→jx w e.a e.b=true∧v=il w e.a e.b)∧(e.kind=4→jw w e.v=true∧v=e.v)∧(e.kind=1∨e.kind=4):=by
  unfold wF at h
  by_cases c1:e.kind=1
  ·have hp:jx w e.a e.b=true:=by simpa[c1] using h
   exact⟨il w e.a e.b,by unfold jt eH;rw[if_pos c1,if_pos hp],fun _=>⟨hp,rfl⟩,fun c=>by omega,.inl c1⟩
  ·have hp:e.kind=4∧jw w e.v=true:=by simpa[c1] using h
   exact⟨e.v,by unfold jt iH;rw[if_neg c1,if_neg (by omega),if_neg (by omega),if_pos hp.1,if_pos hp.2],fun c=>absurd c c1,fun _=>⟨hp.2,rfl⟩,.inr hp.1⟩
 obtain⟨v,k1,k2,k3,k4⟩:=key
 rw[k1]
 refine⟨(xss++[some []],ms++[(⟨v,some xss.length⟩:PplM)]),⟨hR.add v,by simp⟩,?_⟩
 refine HY w.com w.lead w.bad (w.views.map aT) xss _ ms _ e (by simp) k4 (fun c=>?_) fun c=>?_
 ·obtain⟨a1,rfl⟩:=k2 c
  have hC:=Fc 1 w xss ms hw hR e.a e.b
  rw[a1] at hC
  exact hC
 ·obtain⟨a1,rfl⟩:=k3 c
  have hC:=E4 1 w xss ms hw hR e.v
  rw[a1] at hC
  exact hC
theorem Dm {w:Wrl}(hw:WOK w){m:Int}(hm:0≤m∧m<w.com.length){v:Vtx}(hv:jf v)(hn:ed (view w m) v.round v.author=false):(w.views.set m.toNat (gC (view w m) v)).map aT=As w m v:=by
 have hG:=(kO hw hm).2
 rw[List.map_set,GI (fun u hu=>dk hw.com (hG.vtx u hu)) hv hn]
theorem vF (w:Wrl)(xss:List (Option (List Int)))(ms:List PplM)(hw:WOK w)(hR:Rel w.props xss ms)(e:Evt)(h:wF w e=false):∃x:List (Option (List Int))×List PplM,(Rel (jt w e).props x.1 x.2∧xss.length≤x.1.length)∧ag Tryz.prog 147 [.ptr 4 0,tM e] (rW 0 w xss ms) (.bool (tJ w e)) (rW 0 (jt w e) x.1 x.2):=by
 have no:∀{k:Int},e.kind=k→∀{j:Int},k≠j→¬e.kind=j:=fun h1 _ h2 h3=>h2 (h1.symm.trans h3)
 by_cases c1:e.kind=1
 ·have hp:jx w e.a e.b=false:=by simpa[wF,c1] using h
  have hd:jt w e=w:=by unfold jt eH;rw[if_pos c1,hp];rfl
  have hg:tJ w e=false:=by unfold tJ;rw[if_neg (by omega),if_neg (by omega),if_neg (by omega)]
  have hC:=Fc 1 w xss ms hw hR e.a e.b
  rw[hp] at hC
  rw[hd,hg]
  exact⟨(xss,ms),⟨hR,ax _⟩,fk w.com w.lead w.bad _ _ xss xss ms ms e false (ax _) (ax _) (fun _=>hC) (fun c=>by omega) (fun c=>by omega) (fun c=>by omega) (fun c=>by omega) (fun c=>by omega)⟩
 by_cases c2:e.kind=2
 ·have hd:jt w e=eR w e.a e.b:=by unfold jt;rw[if_neg c1,if_pos c2]
  have hg:tJ w e=(jy w e.a e.b && !(aV w e.b).members.contains e.a):=by unfold tJ;rw[if_pos c2]
  rw[hd,hg]
  cases hi:rk w e.b
  ·have hv:jy w e.a e.b=false:=by unfold jy;rw[hi];simp
   have hs:eR w e.a e.b=w:=by unfold eR;rw[hv];rfl
   rw[hs,hv]
   exact⟨(xss,ms),⟨hR,ax _⟩,fk w.com w.lead w.bad _ _ xss xss ms ms e false (ax _) (ax _) (fun c=>absurd c c1) (fun _=>Ij 1 w xss ms hw hR e.a e.b hi) (fun c=>by omega) (fun c=>by omega) (fun c=>by omega) (fun c=>by omega)⟩
  ·obtain⟨n,hn,hn1,hn2⟩:=pL hi
   obtain⟨j,hj1,hj2⟩:=hR.get n _ hn2
   have hC:=Ld 1 w xss ms hw hR e.a n j (by rw[←hn];exact hi) (by rw[←hn];exact hj1) (by rw[←hn];exact hj2)
   rw[←hn] at hC
   have ha:=jl (pP hw (br hn2)).2
   cases hf:(jy w e.a e.b && !(aV w e.b).members.contains e.a)
   ·have hs:eR w e.a e.b=w:=by
     unfold eR
     split
     ·rename_i hv
      rw[hv,d7] at hf
      exact wW hi ha (by simpa using hf)
     ·rfl
    rw[hf] at hC
    rw[hs]
    exact⟨(xss,ms),⟨hR,ax _⟩,fk w.com w.lead w.bad _ _ xss xss ms ms e false (ax _) (ax _) (fun c=>absurd c c1) (fun _=>hC) (fun c=>by omega) (fun c=>by omega) (fun c=>by omega) (fun c=>by omega)⟩
   ·have hv:jy w e.a e.b=true:=(aA .. ▸hf:_∧_).1
    have hs:eR w e.a e.b=md w e.b e.a:=by unfold eR;rw[hv];rfl
    rw[hf] at hC
    rw[hs]
    have hR2:=hR.cast hj1 (fV (aV w e.b).members e.a)
    refine⟨(_,_),?_,fk w.com w.lead w.bad _ _ xss _ ms _ e true (ax _) (by simp) (fun c=>absurd c c1) (fun _=>hC) (fun c=>by omega) (fun c=>by omega) (fun c=>by omega) (fun c=>by omega)⟩
    refine⟨?_,by simp⟩
    have:e.b.toNat=n:=by omega
    show Rel (w.props.set e.b.toNat _) _ _
    rw[this]
    exact hR2
 by_cases c3:e.kind=3
 ·have hd:jt w e=dB w e.a e.b:=by unfold jt;rw[if_neg c1,if_neg c2,if_pos c3]
  have hg:tJ w e=fa w e.a e.b:=by unfold tJ;rw[if_neg c2,if_pos c3]
  rw[hd,hg]
  cases hi:rk w e.b
  ·have hv:fa w e.a e.b=false:=by unfold fa;rw[hi];simp
   have hs:dB w e.a e.b=w:=by unfold dB;rw[hv];rfl
   rw[hs,hv]
   exact⟨(xss,ms),⟨hR,ax _⟩,fk w.com w.lead w.bad _ _ xss xss ms ms e false (ax _) (ax _) (fun c=>absurd c c1) (fun c=>absurd c c2) (fun _=>H4 1 w xss ms hw hR e.a e.b hi) (fun c=>by omega) (fun c=>by omega) (fun c=>by omega)⟩
  ·obtain⟨n,hn,hn1,hn2⟩:=pL hi
   obtain⟨j,hj1,hj2⟩:=hR.get n _ hn2
   have hC:=KU 1 w xss ms hw hR e.a n j (by rw[←hn];exact hi) (by rw[←hn];exact hj1) (by rw[←hn];exact hj2)
   rw[←hn] at hC
   cases hf:fa w e.a e.b
   ·have hs:dB w e.a e.b=w:=by unfold dB;rw[hf];rfl
    rw[hf] at hC
    rw[hs]
    exact⟨(xss,ms),⟨hR,ax _⟩,fk w.com w.lead w.bad _ _ xss xss ms ms e false (ax _) (ax _) (fun c=>absurd c c1) (fun c=>absurd c c2) (fun _=>hC) (fun c=>by omega) (fun c=>by omega) (fun c=>by omega)⟩
   ·have hs:dB w e.a e.b={w with views:=w.views.set e.a.toNat (gC (view w e.a) (aV w e.b).v)}:=by unfold dB;rw[hf];rfl
    rw[hf] at hC
    rw[hs]
    unfold fa at hf
    simp only[aA,fK] at hf
    have hvw:=Dm hw (fb.1 hf.1).1 (dk hw.com (pP hw (br hn2)).1) hf.2.2.2.1
    refine⟨(xss,ms),⟨hR,ax _⟩,?_⟩
    show ag _ _ _ _ _ (rX 0 w.com w.lead w.bad ((w.views.set e.a.toNat (gC (view w e.a) (aV w e.b).v)).map aT) xss ms)
    rw[hvw]
    exact fk w.com w.lead w.bad _ (As w e.a (aV w e.b).v) xss xss ms ms e true (by simp[As]) (ax _) (fun c=>absurd c c1) (fun c=>absurd c c2) (fun _=>hC) (fun c=>by omega) (fun c=>by omega) (fun c=>by omega)
 by_cases c4:e.kind=4
 ·have hp:jw w e.v=false:=by simpa[wF,c4] using h
  have hd:jt w e=w:=by unfold jt iH;rw[if_neg c1,if_neg c2,if_neg c3,if_pos c4,hp];rfl
  have hg:tJ w e=false:=by unfold tJ;rw[if_neg (by omega),if_neg (by omega),if_neg (by omega)]
  have hC:=E4 1 w xss ms hw hR e.v
  rw[hp] at hC
  rw[hd,hg]
  exact⟨(xss,ms),⟨hR,ax _⟩,fk w.com w.lead w.bad _ _ xss xss ms ms e false (ax _) (ax _) (fun c=>absurd c c1) (fun c=>absurd c c2) (fun c=>absurd c c3) (fun _=>hC) (fun c=>by omega) (fun c=>by omega)⟩
 by_cases c5:e.kind=5
 ·have hd:jt w e=iG w e.b:=by unfold jt;rw[if_neg c1,if_neg c2,if_neg c3,if_neg c4,if_pos c5]
  have hg:tJ w e=(lK w e.b && !(aV w e.b).members.contains w.bad):=by unfold tJ;rw[if_neg c2,if_neg c3,if_pos c5]
  rw[hd,hg]
  cases hi:rk w e.b
  ·have hv:lK w e.b=false:=by unfold lK;rw[hi];simp
   have hs:iG w e.b=w:=by unfold iG;rw[hv];rfl
   rw[hs,hv]
   exact⟨(xss,ms),⟨hR,ax _⟩,fk w.com w.lead w.bad _ _ xss xss ms ms e false (ax _) (ax _) (fun c=>absurd c c1) (fun c=>absurd c c2) (fun c=>absurd c c3) (fun c=>absurd c c4) (fun _=>HZ 1 w xss ms hw hR e.b hi) (fun c=>by omega)⟩
  ·obtain⟨n,hn,hn1,hn2⟩:=pL hi
   obtain⟨j,hj1,hj2⟩:=hR.get n _ hn2
   have hC:=KN 1 w xss ms hw hR n j (by rw[←hn];exact hi) (by rw[←hn];exact hj1) (by rw[←hn];exact hj2)
   rw[←hn] at hC
   have ha:=jl (pP hw (br hn2)).2
   cases hf:(lK w e.b && !(aV w e.b).members.contains w.bad)
   ·have hs:iG w e.b=w:=by
     unfold iG
     split
     ·rename_i hv
      rw[hv,d7] at hf
      exact wW hi ha (by simpa using hf)
     ·rfl
    rw[hf] at hC
    rw[hs]
    exact⟨(xss,ms),⟨hR,ax _⟩,fk w.com w.lead w.bad _ _ xss xss ms ms e false (ax _) (ax _) (fun c=>absurd c c1) (fun c=>absurd c c2) (fun c=>absurd c c3) (fun c=>absurd c c4) (fun _=>hC) (fun c=>by omega)⟩
   ·have hv:lK w e.b=true:=(aA .. ▸hf:_∧_).1
    have hs:iG w e.b=md w e.b w.bad:=by unfold iG;rw[hv];rfl
    rw[hf] at hC
    rw[hs]
    have hR2:=hR.cast hj1 (fV (aV w e.b).members w.bad)
    refine⟨(_,_),?_,fk w.com w.lead w.bad _ _ xss _ ms _ e true (ax _) (by simp) (fun c=>absurd c c1) (fun c=>absurd c c2) (fun c=>absurd c c3) (fun c=>absurd c c4) (fun _=>hC) (fun c=>by omega)⟩
    refine⟨?_,by simp⟩
    have:e.b.toNat=n:=by omega
    show Rel (w.props.set e.b.toNat _) _ _
    rw[this]
    exact hR2
 have hd:jt w e=w:=by unfold jt;rw[if_neg c1,if_neg c2,if_neg c3,if_neg c4,if_neg c5]
 have hg:tJ w e=false:=by unfold tJ;rw[if_neg c2,if_neg c3,if_neg c5]
 rw[hd,hg]
 exact⟨(xss,ms),⟨hR,ax _⟩,fk w.com w.lead w.bad _ _ xss xss ms ms e false (ax _) (ax _) (fun c=>absurd c c1) (fun c=>absurd c c2) (fun c=>absurd c c3) (fun c=>absurd c c4) (fun c=>absurd c c5) (fun _=>⟨rfl,rfl,rfl,rfl⟩)⟩
theorem Gf (w:Wrl)(e:Evt):(jt w e).com=w.com∧(jt w e).lead=w.lead∧(jt w e).bad=w.bad∧(jt w e).views.length=w.views.length:=by
 simp only[jt,eH,eR,dB,iH,iG,md,tH]
 (repeat' split)<;>simp
theorem HJ {w:Wrl}{e:Evt}:bz (VB.fvari 143 217 (.ob .vtx) (w.views.map aT))≤bz (VB.fvari 143 217 (.ob .vtx) ((jt w e).views.map aT)):=by
 show (w.views.map aT).length≤((jt w e).views.map aT).length
 rw[az,az,(Gf w e).2.2.2]
 exact ax _
theorem Fa (w:Wrl)(hl:∀g∈w.views,g.length≤2000000)(hp:gk w=false):ag Tryz.prog 25 [bc w] [] (.tup [.nilp,.bool false]) []:=by
 have h:=Bt w hl
 simp only[G9,G8,hp,eW,if_false] at h
 exact h
theorem Nc (w:Wrl)(e:Evt)(hl:∀g∈w.views,g.length≤2000000):ag Tryz.prog 111 [bc w,tM e] [] (if kP w then bc (jt w e) else Jx) []:=by
 have he:=ng w
 refine ab bS Tryz.func111 rfl rfl true 0 4 rfl rfl rfl rfl fun K hK hb1 hb2=>?_;simp only[ae,enc,Nat.reduceAdd]
 clear hb1 hb2
 cases hp:gk w
 ·have hO:=Fa w hl hp
  rw[hp,iy] at he
  (repeat' first|refine cg ?_|refine sa fun xe hxe=>?_|refine sb (fun hq=>?_) fun hq=>?_|refine cr (hO) ?_|exact aa)
  rw[he]
  exact⟨rfl,rfl⟩
 ·have hO:=Fb w hl hp
  cases hs:kP w
  ·rw[hs] at hO
   (repeat' first|refine cg ?_|refine sa fun xe hxe=>?_|refine sb (fun hq=>?_) fun hq=>?_|refine cr (hO) ?_|exact aa)
   exact⟨rfl,rfl⟩
  ·rw[hs] at hO
   have hw:=iS.1 hs
   cases ha:wF w e
   ·obtain⟨⟨xs,ms⟩,⟨hR,hx⟩,hC⟩:=vF w _ _ hw (LZ _) e ha
    have hW:=vM 0 (jt w e) xs ms (Aa hw e) hR
    have hF0:=HJ (w:=w) (e:=e)
    have hF1:bz (VB.frowx 3 (.int .i64) (w.props.map fun p=>some p.members))≤bz (VB.frowx 3 (.int .i64) xs):=hx
    (repeat' first|refine cg ?_|refine sa fun xe hxe=>?_|refine sb (fun hq=>?_) fun hq=>?_|refine cr (hO) ?_|refine cr (hC) ?_|refine cr (hW) ?_|exact aa)
    exact⟨rfl,rfl⟩
   ·obtain⟨⟨xs,ms⟩,⟨hR,hx⟩,hC⟩:=Bn w _ _ hw (LZ _) e ha
    have hW:=vM 0 (jt w e) xs ms (Aa hw e) hR
    have hF0:=HJ (w:=w) (e:=e)
    have hF1:bz (VB.frowx 3 (.int .i64) (w.props.map fun p=>some p.members))≤bz (VB.frowx 3 (.int .i64) xs):=hx
    (repeat' first|refine cg ?_|refine sa fun xe hxe=>?_|refine sb (fun hq=>?_) fun hq=>?_|refine cr (hO) ?_|refine cr (hC) ?_|refine cr (hW) ?_|exact aa)
    exact⟨rfl,rfl⟩
abbrev rP (c l:List Int)(b:Int)(tabs:List (List (Option Vtx)))(xss:List (Option (List Int)))(ms:List PplM):VH:=[(0,.fvari 143 217 (.ob .vtx) tabs),(1,.frowx 3 (.int .i64) xss),(4,.var 36 [.nils,.nils,.int .i64 0,.nils,.nils]),(5,.var 97 [.int .i32 0,.int .u32 0,.lst (.int .i64) c,.lst (.int .i64) l,.int .i64 b,.ref 6,.ref 7]),(6,.row 98 (.hp 0) ((List.range tabs.length).map some)),(7,.row 123 (.pplm 1) ms)]
theorem sf {w:Wrl}(h:WOK w)(i:Int):∀n,gf w≤gf (dM w i n)
 |0=>ax _
 |n+1=>by
  have h1:=sf h i n
  rcases lp (lN h i n) n i with⟨-,h2⟩|⟨-,h2⟩
  ·simp only[dM,h2];exact h1
  ·simp only[dM,h2];omega
theorem uA {w:Wrl}(h:WOK w):∀k,gf w≤gf (cd w k)
 |0=>ax _
 |k+1=>cu (uA h k) (sf (kC h k) _ _)
theorem Db {w:Wrl}(h:WOK w){m i:Int}(hb:fa w m i=true):(dB w m i).views[m.toNat]?=some (gC (view w m) (aV w i).v):=by
 have hg:good w m=true:=by
  simp only[fa,aA] at hb
  exact hb.1
 have hl:=(h.view hg).2.2
 simp[dB,hb,dm,hl]
abbrev Jv:List V:=[.nils,.nils,.int .i64 0,.nils,.nils]
set_option maxHeartbeats 1000000 in
theorem Aj (w:Wrl)(h:WOK w):ag Tryz.prog 88 [bc w] [] (bc (db w)) []:=by
 refine ab aj Tryz.func88 rfl rfl true 0 4 rfl rfl rfl rfl fun K hK hb1 hb2=>?_;simp only[ae,enc,Nat.reduceAdd]
 clear hb1 hb2
 (repeat' first|refine st ?_|refine sa fun xe hxe=>?_|refine sb (fun hq=>?_) fun hq=>?_|exact aa)
 refine ah hK [] [1,2,3] (fun x:Bool×Wrl=>⟨[(1,.ptr 4 0),(2,.ptr 5 0),(3,.bool x.1)],[(4,.var 36 (bc x.2).cells),(5,.var 36 Jv)],6⟩) (fun x=>WOK x.2∧(x.1=true→db x.2=db w)∧(x.1=false→x.2=db w)) (fun x=>if x.1=true then 1520-gf x.2 else 0) (true,w) ⟨h,fun _=>rfl,fun h=>by cases h⟩ rfl ?_
 rintro⟨b,x⟩ ⟨hx,hbt,hbf⟩
 dsimp only at hx hbt hbf⊢
 cases b
 ·have:=hbf rfl
  rw[←this]
  (repeat' first|refine st ?_|refine sa fun xe hxe=>?_|refine sb (fun hq=>?_) fun hq=>?_|exact aa)
  exact⟨rfl,rfl⟩
 have hbt:=hbt rfl
 have hx7:=hx.len
 have hxp:=hx.plen
 (repeat' first|refine st ?_|refine sa fun xe hxe=>?_|refine sb (fun hq=>?_) fun hq=>?_|exact aa)
 refine ah hK [] [1,2,3,4] (fun k:Nat=>⟨[(1,.ptr 4 0),(2,.ptr 5 0),(3,.bool (decide (gf x<gf (cd x k)))),(4,.int .i64 (k:Int))],[(4,.var 36 (bc (cd x k)).cells),(5,.var 36 Jv)],6⟩) (fun k=>k≤x.props.length) (fun k=>x.props.length-k) 0 (by omega) (by simp only[cd,Nat.lt_irrefl,decide_false];rfl) ?_
 intro k hk
 have hpc:=eG x k
 have hpo:=kC hx k
 have hple:=uA hx k
 have hps:cd x (k+1)=dM (cd x k) k (cd x k).com.length:=rfl
 by_cases hlt:k<x.props.length
 ·generalize cd x k=y at *
  have hyl:y.props.length=x.props.length:=by rw[hpc.2]
  have hyc:y.com.length=x.com.length:=by rw[hpc.1]
  (repeat' first|refine st ?_|refine sa fun xe hxe=>?_|refine sb (fun hq=>?_) fun hq=>?_|exact aa)
  refine ah hK [] [1,2,3,4,5] (fun m:Nat=>⟨[(1,.ptr 4 0),(2,.ptr 5 0),(3,.bool (decide (gf x<gf (dM y k m)))),(4,.int .i64 (k:Int)),(5,.int .i64 (m:Int))],[(4,.var 36 (bc (dM y k m)).cells),(5,.var 36 Jv)],6⟩) (fun m=>m≤y.com.length) (fun m=>y.com.length-m) 0 (by omega) rfl ?_
  intro m hm
  have hdc:=kh y k m
  have hdo:=lN hpo k m
  have hdle:=sf hpo k m
  have hds:dM y k (m+1)=dB (dM y k m) m k:=rfl
  by_cases hml:m<y.com.length
  ·generalize dM y k m=z at *
   have hzc:z.com.length=y.com.length:=by rw[hdc.1]
   have hzv:=hdo.vlen
   have hS:=Ad z m k hdo
   have hxv:z.views[m]?=some (view z m):=by
    unfold view
    rw[pf,aq,am (show m<z.views.length by omega)]
    rfl
   have hgl:=hdo.vl _ (br hxv)
   have hso:=rG hdo m k
   have hsc:=oT z m k
   have hsv:=hso.vlen
   rcases lp hdo m k with⟨e1,e2⟩|⟨e1,e2⟩
   ·rw[e2] at hS hds
    generalize view z m=g at *
    by_cases hmo:gf x<gf z
    ·rw[decide_eq_true hmo]
     (repeat' first|refine st ?_|refine sa fun xe hxe=>?_|refine sb (fun hq=>?_) fun hq=>?_|refine cr (hS) ?_|exact aa)
     exact⟨m+1,by omega,by omega,by rw[hds,decide_eq_true hmo];rfl⟩
    ·rw[decide_eq_false hmo]
     (repeat' first|refine st ?_|refine sa fun xe hxe=>?_|refine sb (fun hq=>?_) fun hq=>?_|refine cr (hS) ?_|exact aa)
     exact⟨m+1,by omega,by omega,by rw[hds,decide_eq_false hmo,decide_eq_false (Int.lt_irrefl _)];rfl⟩
   ·have hxv2:=Db hdo e1
    rw[pf] at hxv2
    have hil:=xA (view z m) (aV z k).v
    have hmo2:gf x<gf (dB z m k):=by omega
    generalize dB z m k=z2 at *
    generalize gC (view z m) (aV z k).v=g2 at *
    generalize view z m=g at *
    by_cases hmo:gf x<gf z
    ·rw[decide_eq_true hmo]
     (repeat' first|refine st ?_|refine sa fun xe hxe=>?_|refine sb (fun hq=>?_) fun hq=>?_|refine cr (hS) ?_|exact aa)
     exact⟨m+1,by omega,by omega,by rw[hds,decide_eq_true hmo2];rfl⟩
    ·rw[decide_eq_false hmo]
     have hlt2:(g.length:Int)<g2.length:=by omega
     (repeat' first|refine st ?_|refine sa fun xe hxe=>?_|refine sb (fun hq=>?_) fun hq=>?_|refine cr (hS) ?_|exact aa)
     exact⟨m+1,by omega,by omega,by rw[hds,decide_eq_true hmo2,decide_eq_true hlt2];rfl⟩
  ·obtain rfl:m=y.com.length:=by omega
   rw[←hps]
   have hc2:(cd x (k+1)).com.length=y.com.length:=by rw[hps,hdc.1]
   generalize hz:cd x (k+1)=z at *
   (repeat' first|refine st ?_|refine sa fun xe hxe=>?_|refine sb (fun hq=>?_) fun hq=>?_|exact aa)
   exact⟨k+1,by omega,by omega,by rw[hz];rfl⟩
 ·obtain rfl:k=x.props.length:=by omega
  have hpa:cd x x.props.length=pass x:=rfl
  rw[hpa] at hpc hpo hple
  rw[hpa]
  clear hpa hps
  have hyl:(pass x).props.length=x.props.length:=by rw[hpc.2]
  have htl:=wk hpo
  have htx:=wk hx
  have e1:gf x<gf (pass x)→db x=db (pass x):=fun hh=>by
   rw[db]
   exact dif_pos ⟨hh,htl⟩
  have e2:¬gf x<gf (pass x)→db x=pass x:=fun hh=>by
   rw[db]
   exact dif_neg fun h9=>hh h9.1
  generalize pass x=z at *
  (repeat' first|refine st ?_|refine sa fun xe hxe=>?_|refine sb (fun hq=>?_) fun hq=>?_|exact aa)
  refine⟨(decide (gf x<gf z),z),⟨hpo,fun hh=>?_,fun hh=>?_⟩,?_,rfl⟩
  ·rw[←hbt,e1 (of_decide_eq_true hh)]
  ·rw[←hbt,e2 (of_decide_eq_false hh)]
  ·dsimp only
   split
   ·rename_i hh
    have:=of_decide_eq_true hh
    simp only[if_true]
    omega
   ·simp only[if_true]
    omega
theorem GG (w:Wrl)(h:WOK w):ag Tryz.prog 89 [bc w] [] (bc (iI w)) []:=by
 have h7:=h.len
 have hpl:=h.plen
 refine ab aj Tryz.func89 rfl rfl true 0 4 rfl rfl rfl rfl fun K hK hb1 hb2=>?_;simp only[ae,enc,Nat.reduceAdd]
 clear hb1 hb2
 (repeat' first|refine st ?_|refine sa fun xe hxe=>?_|refine sb (fun hq=>?_) fun hq=>?_|exact aa)
 refine ah hK [] [1,2,3] (fun k:Nat=>⟨[(1,.ptr 4 0),(2,.ptr 5 0),(3,.int .i64 (k:Int))],[(4,.var 36 (bc (dd w k)).cells),(5,.var 36 Jv)],6⟩) (fun k=>k≤w.props.length) (fun k=>w.props.length-k) 0 (by omega) rfl ?_
 intro k hk
 have hpc:=fA w k
 have hpo:=gL h k
 have hps:dd w (k+1)=iK (dd w k) k (dd w k).com.length:=rfl
 by_cases hlt:k<w.props.length
 ·generalize dd w k=y at *
  have hyc:y.com.length=w.com.length:=by rw[hpc.1]
  (repeat' first|refine st ?_|refine sa fun xe hxe=>?_|refine sb (fun hq=>?_) fun hq=>?_|exact aa)
  refine ah hK [] [1,2,3,4] (fun m:Nat=>⟨[(1,.ptr 4 0),(2,.ptr 5 0),(3,.int .i64 (k:Int)),(4,.int .i64 (m:Int))],[(4,.var 36 (bc (iK y k m)).cells),(5,.var 36 Jv)],6⟩) (fun m=>m≤y.com.length) (fun m=>y.com.length-m) 0 (by omega) rfl ?_
  intro m hm
  have hdc:=nd y k m
  have hdo:=tx hpo k m
  have hds:iK y k (m+1)=eR (iK y k m) m k:=rfl
  by_cases hml:m<y.com.length
  ·generalize iK y k m=z at *
   have hzc:z.com.length=y.com.length:=by rw[hdc.1]
   have hS:=Aq z m k hdo
   generalize eR z m k=z2 at *
   (repeat' first|refine st ?_|refine sa fun xe hxe=>?_|refine sb (fun hq=>?_) fun hq=>?_|refine cr (hS) ?_|exact aa)
   exact⟨m+1,by omega,by omega,by rw[hds];rfl⟩
  ·obtain rfl:m=y.com.length:=by omega
   rw[←hps]
   have hc2:(dd w (k+1)).com.length=y.com.length:=by rw[hps,hdc.1]
   generalize hz:dd w (k+1)=z at *
   (repeat' first|refine st ?_|refine sa fun xe hxe=>?_|refine sb (fun hq=>?_) fun hq=>?_|exact aa)
   exact⟨k+1,by omega,by omega,by rw[hz];rfl⟩
 ·obtain rfl:k=w.props.length:=by omega
  have hpa:dd w w.props.length=iI w:=rfl
  rw[hpa] at hpc hpo
  rw[hpa]
  clear hpa hps
  have hyl:=hpc.2
  generalize iI w=z at *
  (repeat' first|refine st ?_|refine sa fun xe hxe=>?_|refine sb (fun hq=>?_) fun hq=>?_|exact aa)
  exact⟨rfl,rfl⟩
theorem L8 (w:Wrl)(h:WOK w):ag Tryz.prog 90 [bc w] [] (bc w) []:=by
 have h7:=h.len
 have hvl:=h.vlen
 have hpl:=h.plen
 have hll:=(bR.1 h.lead).2
 refine ab aj Tryz.func90 rfl rfl true 0 4 rfl rfl rfl rfl fun K hK hb1 hb2=>?_;simp only[ae,enc,Nat.reduceAdd]
 clear hb1 hb2
 (repeat' first|refine st ?_|refine sa fun xe hxe=>?_|refine sb (fun hq=>?_) fun hq=>?_|exact aa)
 refine ah hK [] [1,2,3,4] (fun i:Nat=>⟨[(1,.ptr 4 0),(2,.ptr 5 0),(3,.ptr 6 0),(4,.int .i64 (i:Int))],[(4,.var 36 (bc w).cells),(5,.var 36 Jv),(6,.var 36 [.ref 7,.ref 8,.int .i64 w.bad,.ref 9,.ref 10]),(7,.row 3 (.int .i64) w.com),(8,.row 3 (.int .i64) w.lead),(9,.row 82 (.lst .vtx) (w.views.take i)),(10,.row 123 .ppl [])],11⟩) (fun i=>i≤w.views.length) (fun i=>w.views.length-i) 0 (by omega) rfl ?_
 intro i hi
 by_cases hlt:i<w.views.length
 ·have hxe:w.views[i]?=some w.views[i]:=am hlt
  have hsn:w.views.take (i+1)=w.views.take i++[w.views[i]]:=b8 hlt
  have hgm:=bd hlt
  have hC:=B4 w.views[i] (by have:=h.vl _ hgm;omega) fun v hv=>by have:=h.par (h.vv _ hgm v hv);omega
  have hl1:(w.views.take i).length=i:=by rw[bP];omega
  generalize w.views[i]=g at *
  generalize w.views.take i=l at *
  (repeat' first|refine st ?_|refine sa fun xe hxe=>?_|refine sb (fun hq=>?_) fun hq=>?_|refine cr (hC) ?_|exact aa)
  exact⟨i+1,by omega,by omega,by rw[hsn];rfl⟩
 rw[bp (by omega)]
 (repeat' first|refine st ?_|refine sa fun xe hxe=>?_|refine sb (fun hq=>?_) fun hq=>?_|exact aa)
 refine ah hK [] [1,2,3,5] (fun i:Nat=>⟨[(1,.ptr 4 0),(2,.ptr 5 0),(3,.ptr 6 0),(5,.int .i64 (i:Int))],[(4,.var 36 (bc w).cells),(5,.var 36 Jv),(6,.var 36 [.ref 7,.ref 8,.int .i64 w.bad,.ref 9,.ref 10]),(7,.row 3 (.int .i64) w.com),(8,.row 3 (.int .i64) w.lead),(9,.row 82 (.lst .vtx) w.views),(10,.row 123 .ppl (w.props.take i))],11⟩) (fun i=>i≤w.props.length) (fun i=>w.props.length-i) 0 (by omega) rfl ?_
 intro k hk
 by_cases hkl:k<w.props.length
 ·have hxe:w.props[k]?=some w.props[k]:=am hkl
  have hsn:w.props.take (k+1)=w.props.take k++[w.props[k]]:=b8 hkl
  have hpm:=bd hkl
  have hC:=pX w.props[k].v (by have:=h.par (h.pv _ hpm).1;omega)
  have hm:=h.mem _ hpm
  have hl1:(w.props.take k).length=k:=by rw[bP];omega
  generalize w.props[k]=p at *
  generalize w.props.take k=l at *
  (repeat' first|refine st ?_|refine sa fun xe hxe=>?_|refine sb (fun hq=>?_) fun hq=>?_|refine cr (hC) ?_|exact aa)
  exact⟨k+1,by omega,by omega,by rw[hsn];rfl⟩
 ·(repeat' first|refine st ?_|refine sa fun xe hxe=>?_|refine sb (fun hq=>?_) fun hq=>?_|exact aa)
  rw[bp (by omega)]
  exact⟨rfl,rfl⟩
theorem Jy {w:Wrl}(h:WOK w):w.com.length≤2000000:=by have:=h.len;omega
theorem I4 (w:Wrl)(r:Nat)(h:WOK w)(hr:r≤12):ag Tryz.prog 42 [bc w,.int .i64 (r:Int)] [] (bc (bg w r)) []:=by
 have hV:=NI w (Jy h)
 rw[iS.2 h] at hV
 have hI:=nh (r:Int) 0 12
 rw[aC.2 (by omega)] at hI
 have hS:=Aj w h
 refine ab aj Tryz.func42 rfl rfl true 0 4 rfl rfl rfl rfl fun K hK hb1 hb2=>?_;simp only[ae,enc,Nat.reduceAdd]
 clear hb1 hb2
 (repeat' first|refine st ?_|refine sa fun xe hxe=>?_|refine sb (fun hq=>?_) fun hq=>?_|refine cr (hV) ?_|refine cr (hI) ?_|refine cr (hS) ?_|exact aa)
 refine ah hK [] [1,2,4,5] (fun k:Nat=>⟨[(1,.int .i64 (r:Int)),(2,.ptr 4 0),(4,.ptr 5 0),(5,.int .i64 (k:Int))],[(4,.var 36 (bc (bg w k)).cells),(5,.var 36 Jv)],6⟩) (fun k=>k≤r) (fun k=>r-k) 0 (by omega) rfl ?_
 intro k hk
 have hco:=kg h k
 have hcs:bg w (k+1)=gm (dF (gm (bg w k)) k (gm (bg w k)).com.length):=rfl
 by_cases hlt:k<r
 ·generalize bg w k=x at *
  have h1:=GG x hco
  have h2:=Aj (iI x) (gL hco _)
  have hr1:db (iI x)=gm x:=rfl
  have hro:=oS hco
  rw[hr1] at h2
  generalize iI x=x1 at *
  generalize gm x=y at *
  (repeat' first|refine st ?_|refine sa fun xe hxe=>?_|refine sb (fun hq=>?_) fun hq=>?_|refine cr (h1) ?_|refine cr (h2) ?_|exact aa)
  refine ah hK [] [1,2,4,5,6] (fun m:Nat=>⟨[(1,.int .i64 (r:Int)),(2,.ptr 4 0),(4,.ptr 5 0),(5,.int .i64 (k:Int)),(6,.int .i64 (m:Int))],[(4,.var 36 (bc (dF y k m)).cells),(5,.var 36 Jv)],6⟩) (fun m=>m≤y.com.length) (fun m=>y.com.length-m) 0 (by omega) rfl ?_
  intro m hm
  have hdc:=mZ y k m
  have hdo:=oN hro k m
  have hyl:=hro.len
  have hds:dF y k (m+1)=eH (dF y k m) m (7*k+m):=rfl
  by_cases hml:m<y.com.length
  ·generalize dF y k m=z at *
   have hzc:z.com.length=y.com.length:=by rw[hdc]
   have hP:=Ai z m (7*k+m) hdo
   generalize eH z m (7*k+m)=z2 at *
   (repeat' first|refine st ?_|refine sa fun xe hxe=>?_|refine sb (fun hq=>?_) fun hq=>?_|refine cr (hP) ?_|exact aa)
   exact⟨m+1,by omega,by omega,by rw[hds];rfl⟩
  ·obtain rfl:m=y.com.length:=by omega
   have hzc:(dF y k y.com.length).com.length=y.com.length:=by rw[hdc]
   generalize dF y k y.com.length=z at *
   have h3:=GG z hdo
   have h4:=Aj (iI z) (gL hdo _)
   have hr2:db (iI z)=gm z:=rfl
   rw[hr2] at h4
   generalize iI z=z1 at *
   generalize gm z=z2 at *
   (repeat' first|refine st ?_|refine sa fun xe hxe=>?_|refine sb (fun hq=>?_) fun hq=>?_|refine cr (h3) ?_|refine cr (h4) ?_|exact aa)
   exact⟨k+1,by omega,by omega,by rw[hcs];rfl⟩
 ·obtain rfl:k=r:=by omega
  have hC:=L8 (bg w k) hco
  generalize bg w k=x at *
  (repeat' first|refine st ?_|refine sa fun xe hxe=>?_|refine sb (fun hq=>?_) fun hq=>?_|refine cr (hC) ?_|exact aa)
  exact⟨rfl,rfl⟩
theorem OC {c:List Int}(h:∀x∈c,0≤x∧x≤255):F4 (c.take 2000) 0:=⟨by rw[bP];omega,fun x hx=>h x (jU hx),by omega,by omega⟩
def e0:Evt:=⟨0,0,0,v0⟩
end Go.Proofs.YtpefhoohfkeflacGreatDoor.Am
namespace Go.Proofs.YtpefhoohfkeflacGreatDoor.Am
open Go
def still (w:Wrl):Prop:=∀m i:Nat,m<w.com.length→i<w.props.length→fa w m i=false
theorem Jn {w:Wrl}(hw:WOK w){m:Nat}(hm:m<w.com.length):w.views.getD m []∈w.views:=fv (by rw[hw.vlen];exact hm)
structure Grw (w u:Wrl):Prop where
 com:u.com=w.com
 lead:u.lead=w.lead
 bad:u.bad=w.bad
 vlen:u.views.length=w.views.length
 views:∀m:Nat,∀v∈w.views.getD m [],v∈u.views.getD m []
 props:∀(k:Nat) (p:Ppl),w.props[k]?=some p→∃l,u.props[k]?=some ⟨p.v,l⟩∧∀m∈p.members,m∈l
theorem Grw.refl (w:Wrl):Grw w w:=⟨rfl,rfl,rfl,rfl,fun _ _ h=>h,fun _ p h=>⟨p.members,h,fun _ h=>h⟩⟩
theorem Grw.trans {w u x:Wrl}(h1:Grw w u)(h2:Grw u x):Grw w x:=by
 refine⟨h2.com.trans h1.com,h2.lead.trans h1.lead,h2.bad.trans h1.bad,h2.vlen.trans h1.vlen,fun m v h=>h2.views m v (h1.views m v h),fun k p h=>?_⟩
 obtain⟨l,a1,a2⟩:=h1.props k p h
 obtain⟨l2,b1,b2⟩:=h2.props k _ a1
 exact⟨l2,b1,fun m hm=>b2 m (a2 m hm)⟩
theorem Grw.plen {w u:Wrl}(h:Grw w u):w.props.length≤u.props.length:=by
 rcases cG u.props.length w.props.length with hlt|hge
 ·obtain⟨l,a1,-⟩:=h.props u.props.length _ (am hlt)
  have:=(aR.1 a1).1
  omega
 ·exact hge
inductive Rv (g:List Vtx):Vtx→Vtx→Prop where
 |refl (u:Vtx):Rv g u u
 |step {u x v:Vtx} (hx:x∈g) (h1:x.round=u.round-1) (h2:x.author∈u.parents) (h:Rv g x v):Rv g u v
theorem Rv.trans {g:List Vtx}{u x v:Vtx}(h:Rv g u x)(h':Rv g x v):Rv g u v:=by
 induction h with
 |refl u=>exact h'
 |step hx h1 h2 _ ih=>exact .step hx h1 h2 (ih h')
theorem Rv.mem {g:List Vtx}{u v:Vtx}(h:Rv g u v)(hu:u∈g):v∈g:=by
 induction h with
 |refl u=>exact hu
 |step hx _ _ _ ih=>exact ih hx
theorem Rv.round {g:List Vtx}{u v:Vtx}(h:Rv g u v):v.round≤u.round:=by
 induction h with
 |refl u=>exact Int.le_refl _
 |step _ h1 _ _ ih=>omega
theorem Rv.mono {g U:List Vtx}(hs:∀v∈g,v∈U){u v:Vtx}(h:Rv g u v):Rv U u v:=by
 induction h with
 |refl u=>exact .refl u
 |step hx h1 h2 _ ih=>exact .step (hs _ hx) h1 h2 ih
theorem rC {g:List Vtx}(h:g.Pairwise fun a b=>bef a b=true){u v:Vtx}(hu:u∈g)(hv:v∈g)(h1:u.round=v.round)(h2:u.author=v.author):u=v:=by
 obtain⟨i,hi⟩:=iM hu
 obtain⟨k,hk⟩:=iM hv
 rcases Nat.lt_trichotomy i k with hlt|rfl|hlt
 ·have:=iF h hlt hi hk
  simp only[bef,cN,aA,decide_eq_true_eq] at this
  omega
 ·rw[hi] at hk;exact ar hk
 ·have:=iF h hlt hk hi
  simp only[bef,cN,aA,decide_eq_true_eq] at this
  omega
theorem Rv.down {c:List Int}{g U:List Vtx}(hg:GraOK c g)(hU:GraOK c U)(hs:∀v∈g,v∈U){u v:Vtx}(h:Rv U u v)(hu:u∈g):Rv g u v:=by
 induction h with
 |refl u=>exact .refl u
 | @step u x v hx h1 h2 _ ih=>
  obtain⟨y,y1,y2,y3⟩:=cF.1 (d9.1 (hg.par u hu) _ h2)
  have e:y=x:=rC hU.pw (hs y y1) hx (by omega) y3
  subst e
  exact .step y1 h1 h2 (ih y1)
def gj (l:List Int)(w:Nat):Int:=l.getD (w-1) 0
def qw (g:List Vtx)(l:List Int)(w:Nat):Option Vtx:=g.find? (eZ (2*(w:Int)-1) (gj l w))
theorem sK {g:List Vtx}{l:List Int}{w:Nat}{v:Vtx}(h:qw g l w=some v):v∈g∧v.round=2*(w:Int)-1∧v.author=gj l w:=
 ⟨tC h,ic.1 (List.find?_some h)⟩
def tD (g:List Vtx)(l:List Int)(w:Nat):List Int:=(g.filter fun v=>v.round==2*(w:Int) && v.parents.contains (gj l w)).map (·.author)
def qQ (c:List Int)(g:List Vtx)(l:List Int)(w:Nat):Int:=if(qw g l w).isSome then lF c (tD g l w) else 0
def Ds (c:List Int):Int:=(qD c).tdiv 3+1
def ze (c:List Int)(g:List Vtx)(l:List Int)(w:Nat):Bool:=decide (Ds c≤qQ c g l w)
theorem oX {c:List Int}(h:comV c=true):1≤Ds c∧Ds c=qD c/3+1:=by
 have:=lr h
 unfold Ds
 rw[ml (by omega)]
 omega
theorem qV {c:List Int}{g:List Vtx}{l:List Int}{w:Nat}(hc:comV c=true)(h:ze c g l w=true):∃v,qw g l w=some v∧Ds c≤lF c (tD g l w):=by
 have hs:=oX hc
 unfold ze qQ at h
 have h:=of_decide_eq_true h
 cases hl:qw g l w with
 |none=>rw[hl] at h;simp at h;omega
 |some v=>rw[hl] at h;exact⟨v,rfl,by simpa using h⟩
theorem Js {g:List Vtx}{l:List Int}{w:Nat}{a:Int}:a∈tD g l w↔∃v∈g,v.round=2*(w:Int)∧gj l w∈v.parents∧v.author=a:=by
 simp only[tD,aB,eL,aA,beq_iff_eq,ir]
 constructor
 ·rintro⟨v,⟨h1,h2,h3⟩,h4⟩;exact⟨v,h1,h2,h3,h4⟩
 ·rintro⟨v,h1,h2,h3,h4⟩;exact⟨v,⟨h1,h2,h3⟩,h4⟩
theorem Jq {g:List Vtx}(h:g.Pairwise fun a b=>bef a b=true)(l:List Int)(w:Nat):(tD g l w).Pairwise (· < ·):=by
 unfold tD
 rw[mj]
 refine(h.sublist (qi ..)).imp_of_mem fun {a b} ha hb hab=>?_
 have ha:=(eL.1 ha).2
 have hb:=(eL.1 hb).2
 simp only[bef,cN,aA,decide_eq_true_eq,beq_iff_eq] at *
 omega
open Classical in
noncomputable def dwn (g:List Vtx) (l:List Int) (last:Nat):Nat→Vtx→List Nat
 |0,_=>[]
 |x+1,cur=>if x+1≤last then[] else match qw g l (x+1) with
  |some k=>if Rv g cur k then dwn g l last x k++[x+1] else dwn g l last x cur
  |none=>dwn g l last x cur
noncomputable def chn (g:List Vtx) (l:List Int) (w last:Nat):List Nat:=match qw g l w with
 |some k=>dwn g l last (w-1) k++[w]
 |none=>[w]
noncomputable def cmt (c:List Int) (g:List Vtx) (l:List Int):Nat→List Nat×Nat
 |0=>([],0)
 |n+1=>if ze c g l (n+1) then((cmt c g l n).1++chn g l (n+1) (cmt c g l n).2,n+1) else cmt c g l n
open Classical in
theorem qW (g:List Vtx)(l:List Int)(last:Nat):∀(x:Nat) (cur:Vtx),∀w∈dwn g l last x cur,1≤w∧w≤x∧∃k,qw g l w=some k
 |0,_,w,hw=>by simp[dwn] at hw
 |x+1,cur,w,hw=>by
  unfold dwn at hw
  split at hw
  ·cases hw
  ·split at hw
   ·rename_i k hk
    split at hw
    ·rcases bl.1 hw with h|h
     ·obtain⟨h1,h2,h3⟩:=qW g l last x k w h
      exact⟨h1,by omega,h3⟩
     ·obtain rfl:=aY.1 h
      exact⟨by omega,ax _,k,hk⟩
    ·obtain⟨h1,h2,h3⟩:=qW g l last x cur w hw
     exact⟨h1,by omega,h3⟩
   ·obtain⟨h1,h2,h3⟩:=qW g l last x cur w hw
    exact⟨h1,by omega,h3⟩
theorem mG {c:List Int}{g:List Vtx}(hc:comV c=true)(l:List Int):∀n:Nat,∀w∈(cmt c g l n).1,1≤w∧w≤n∧∃k,qw g l w=some k
 |0,w,hw=>by simp[cmt] at hw
 |n+1,w,hw=>by
  unfold cmt at hw
  split at hw
  ·rename_i hd
   obtain⟨k,hk,-⟩:=qV hc hd
   rcases bl.1 hw with h|h
   ·obtain⟨h1,h2,h3⟩:=mG hc l n w h
    exact⟨h1,by omega,h3⟩
   ·unfold chn at h
    rw[hk] at h
    rcases bl.1 h with h|h
    ·obtain⟨h1,h2,h3⟩:=qW g l _ _ k w h
     exact⟨h1,by omega,h3⟩
    ·obtain rfl:=aY.1 h
     exact⟨by omega,ax _,k,hk⟩
  ·obtain⟨h1,h2,h3⟩:=mG hc l n w hw
   exact⟨h1,by omega,h3⟩
open Classical in
noncomputable def ordW (g:List Vtx) (l:List Int) (acc:List Vtx) (w:Nat):List Vtx:=match qw g l w with
 |some k=>g.filter fun v=>decide (Rv g k v) && (decide (2*(w:Int)-7≤v.round) && decide (v∉acc))
 |none=>[]
noncomputable def ordTo (g:List Vtx) (l:List Int) (acc:List Vtx) (ws:List Nat):List Vtx:=ws.foldl (fun acc w=>acc++ordW g l acc w) acc
theorem nJ (g:List Vtx)(l:List Int)(acc:List Vtx)(w:Nat)(ws:List Nat):ordTo g l acc (w::ws)=ordTo g l (acc++ordW g l acc w) ws:=rfl
theorem C2 (g:List Vtx)(l:List Int)(acc:List Vtx)(ws ws':List Nat):ordTo g l acc (ws++ws')=ordTo g l (ordTo g l acc ws) ws':=by simp[ordTo,List.foldl_append]
noncomputable def ordG (c:List Int) (g:List Vtx) (l:List Int):List Vtx:=ordTo g l [] (cmt c g l l.length).1
end Go.Proofs.YtpefhoohfkeflacGreatDoor.Am
namespace Go.Proofs.YtpefhoohfkeflacGreatDoor.Am
open Go
def pix (g:List Vtx)(v:Vtx):List (Option Nat):=v.parents.map fun a=>g.findIdx? (eZ (v.round-1) a)
theorem kt {g:List Vtx}{r a:Int}{k:Nat}(h:g.findIdx? (eZ r a)=some k):∃x,g[k]?=some x∧x.round=r∧x.author=a:=by
 obtain⟨hk,h1,-⟩:=ww.1 h
 exact⟨_,am hk,ic.1 h1⟩
theorem nE {c:List Int}{g:List Vtx}(hg:GraOK c g){k:Nat}{x:Vtx}(h:g[k]?=some x):g.findIdx? (eZ x.round x.author)=some k:=by
 cases hf:g.findIdx? (eZ x.round x.author) with
 |none=>
  have:=pd.1 hf x (br h)
  rw[ic.2 ⟨rfl,rfl⟩] at this
  cases this
 |some j=>
  obtain⟨y,h1,h2,h3⟩:=kt hf
  have e:=rC hg.pw (br h1) (br h) h2 h3
  subst e
  rw[pw_idx hg h1 h]
where
 pw_idx {c:List Int} {g:List Vtx} (hg:GraOK c g) {i k:Nat} {x:Vtx} (h1:g[i]?=some x) (h2:g[k]?=some x):i=k:=by
  rcases Nat.lt_trichotomy i k with hlt|rfl|hlt
  ·have:=iF hg.pw hlt h1 h2
   simp only[bef,cN,aA,decide_eq_true_eq] at this
   omega
  ·rfl
  ·have:=iF hg.pw hlt h2 h1
   simp only[bef,cN,aA,decide_eq_true_eq] at this
   omega
theorem EC {c:List Int}{g:List Vtx}(hg:GraOK c g){i k:Nat}{x:Vtx}(h1:g[i]?=some x)(h2:g[k]?=some x):i=k:=by
 have e1:=nE hg h1
 have e2:=nE hg h2
 rw[e1] at e2
 exact ar e2
theorem oK {c:List Int}{g:List Vtx}(hg:GraOK c g){v:Vtx}(hv:v∈g){o:Option Nat}(h:o∈pix g v):∃k x,o=some k∧g[k]?=some x∧x.round=v.round-1∧x.author∈v.parents:=by
 obtain⟨a,ha,rfl⟩:=aB.1 h
 obtain⟨x,x1,x2,x3⟩:=cF.1 (d9.1 (hg.par v hv) a ha)
 obtain⟨k,hk⟩:=iM x1
 have:=nE hg hk
 rw[x2,x3] at this
 exact⟨k,x,this,hk,x2,x3▸ha⟩
theorem FU {c:List Int}{g:List Vtx}(hg:GraOK c g){v x:Vtx}(hv:v∈g){k:Nat}(h:some k∈pix g v)(hx:g[k]?=some x):Rv g v x:=by
 obtain⟨k',x',e,h1,h2,h3⟩:=oK hg hv h
 obtain rfl:=ar e
 rw[hx] at h1
 obtain rfl:=ar h1
 exact .step (br hx) h2 h3 (.refl x)
theorem uD {c:List Int}{g:List Vtx}(hg:GraOK c g){S:Nat→Prop}(hS:∀i v,g[i]?=some v→S i→∀k,some k∈pix g v→S k){u v:Vtx}(h:Rv g u v):∀i k,g[i]?=some u→S i→g[k]?=some v→S k:=by
 induction h with
 |refl u=>
  intro i k h1 h2 h3
  rw[←EC hg h1 h3]
  exact h2
 | @step u x v hx h1 h2 _ ih=>
  intro i k hi hs hk
  obtain⟨j,hj⟩:=iM hx
  have:=nE hg hj
  exact ih j k hj (hS i u hi hs j (aB.2 ⟨x.author,h2,by rw[←h1];exact this⟩)) hk
structure Dfs (g:List Vtx)(u:Vtx)(n j:Nat)(re:List Bool)(wt:List (Option Nat)):Prop where
 len:re.length=g.length
 snd:∀(i:Nat) (v:Vtx),g[i]?=some v→re[i]?=some true→Rv g u v
 wtg:∀o∈wt,∃k,o=some k∧re[k]?=some true
 cur:∀v:Vtx,g[n]?=some v→re[n]?=some true
 cls:∀(i:Nat) (v:Vtx),g[i]?=some v→re[i]?=some true→some i∈wt∨(i=n∧∀(k q:Nat),k<j→(pix g v)[k]?=some (some q)→re[q]?=some true)∨∀q:Nat,some q∈pix g v→re[q]?=some true
theorem M1 {c:List Int}{g:List Vtx}(hg:GraOK c g){st:Nat}{u:Vtx}(h:g[st]?=some u):Dfs g u g.length 0 ((List.replicate g.length false).set st true) [some st]:=by
 have hl:=(aR.1 h).1
 have key:∀i:Nat,((List.replicate g.length false).set st true)[i]?=some true→i=st:=fun i hi=>by
  rw[dm] at hi
  split at hi
  ·omega
  ·rw[mt] at hi
   split at hi<;>cases hi
 have hst:((List.replicate g.length false).set st true)[st]?=some true:=by
  rw[dm,if_pos rfl,if_pos (by simpa using hl)]
 refine⟨by simp,fun i v hi hr=>?_,fun o ho=>⟨st,by simpa using ho,hst⟩,fun v hv=>?_,fun i v hi hr=>.inl ?_⟩
 ·obtain rfl:=key i hr
  rw[h] at hi
  obtain rfl:=ar hi
  exact .refl u
 ·have:=(aR.1 hv).1
  omega
 ·rw[key i hr]
  simp
theorem Hx {g:List Vtx}{u:Vtx}{n j:Nat}{re:List Bool}{wt:List (Option Nat)}{q:Nat}(h:Dfs g u n j re (wt++[some q]))(hn:g[n]?=none):Dfs g u q 0 re wt:=by
 refine⟨h.len,h.snd,fun o ho=>h.wtg o (bl.2 (.inl ho)),fun v _=>?_,fun i v hi hr=>?_⟩
 ·obtain⟨k,h1,h2⟩:=h.wtg (some q) (by simp)
  obtain rfl:=ar h1
  exact h2
 ·rcases h.cls i v hi hr with h1|⟨rfl,-⟩|h1
  ·rcases bl.1 h1 with h1|h1
   ·exact .inl h1
   ·refine .inr (.inl ⟨?_,fun k _ hk=>absurd hk (Nat.not_lt_zero k)⟩)
    simpa using h1
  ·rw[hn] at hi;cases hi
  ·exact .inr (.inr h1)
theorem D9 {g:List Vtx}{u v:Vtx}{n j q:Nat}{re:List Bool}{wt:List (Option Nat)}(h:Dfs g u n j re wt)(hv:g[n]?=some v)(hj:(pix g v)[j]?=some (some q))(hq:re[q]?=some true):Dfs g u n (j+1) re wt:=by
 refine⟨h.len,h.snd,h.wtg,h.cur,fun i x hi hr=>?_⟩
 rcases h.cls i x hi hr with h1|⟨rfl,h1⟩|h1
 ·exact .inl h1
 ·refine .inr (.inl ⟨rfl,fun k q' hk hp=>?_⟩)
  rcases cG k j with hlt|hge
  ·exact h1 k q' hlt hp
  ·obtain rfl:k=j:=by omega
   rw[hv] at hi
   obtain rfl:=ar hi
   rw[hj] at hp
   obtain rfl:=ar (ar hp)
   exact hq
 ·exact .inr (.inr h1)
theorem ge {re:List Bool}{q i:Nat}(h:re[i]?=some true):(re.set q true)[i]?=some true:=by
 have hl:=(aR.1 h).1
 rw[dm]
 split
 ·rename_i e
  rw[if_pos (by omega)]
 ·exact h
theorem D8 {c:List Int}{g:List Vtx}(hg:GraOK c g){u v:Vtx}{n j q:Nat}{re:List Bool}{wt:List (Option Nat)}(h:Dfs g u n j re wt)(hv:g[n]?=some v)(hj:(pix g v)[j]?=some (some q))(hq:re[q]?=some false):Dfs g u n (j+1) (re.set q true) (wt++[some q]):=by
 have hql:=(aR.1 hq).1
 have hqt:(re.set q true)[q]?=some true:=by rw[dm,if_pos rfl,if_pos hql]
 have hne:∀i:Nat,i≠q→(re.set q true)[i]?=re[i]?:=fun i hi=>by rw[dm,if_neg (by omega)]
 refine⟨by rw[jq];exact h.len,fun i x hi hr=>?_,fun o ho=>?_,fun x hx=>ge (h.cur x hx),fun i x hi hr=>?_⟩
 ·by_cases e:i=q
  ·subst e
   exact(h.snd n v hv (h.cur v hv)).trans (FU hg (br hv) (br hj) hi)
  ·rw[hne i e] at hr
   exact h.snd i x hi hr
 ·rcases bl.1 ho with ho|ho
  ·obtain⟨k,h1,h2⟩:=h.wtg o ho
   exact⟨k,h1,ge h2⟩
  ·exact⟨q,by simpa using ho,hqt⟩
 ·by_cases e:i=q
  ·subst e
   exact .inl (by simp)
  rw[hne i e] at hr
  rcases h.cls i x hi hr with h1|⟨rfl,h1⟩|h1
  ·exact .inl (bl.2 (.inl h1))
  ·refine .inr (.inl ⟨rfl,fun k q' hk hp=>?_⟩)
   rcases cG k j with hlt|hge
   ·exact ge (h1 k q' hlt hp)
   ·obtain rfl:k=j:=by omega
    rw[hv] at hi
    obtain rfl:=ar hi
    rw[hj] at hp
    obtain rfl:=ar (ar hp)
    exact hqt
  ·exact .inr (.inr fun q' hq'=>ge (h1 q' hq'))
theorem w7 {g:List Vtx}{u v:Vtx}{n j:Nat}{re:List Bool}{wt:List (Option Nat)}(h:Dfs g u n j re wt)(hv:g[n]?=some v)(hj:v.parents.length≤j):Dfs g u g.length 0 re wt:=by
 refine⟨h.len,h.snd,h.wtg,fun x hx=>?_,fun i x hi hr=>?_⟩
 ·have:=(aR.1 hx).1
  omega
 ·rcases h.cls i x hi hr with h1|⟨rfl,h1⟩|h1
  ·exact .inl h1
  ·rw[hv] at hi
   obtain rfl:=ar hi
   refine .inr (.inr fun q hq=>?_)
   obtain⟨k,hk⟩:=iM hq
   have hkl:=(aR.1 hk).1
   unfold pix at hkl
   rw[az] at hkl
   exact h1 k q (by omega) hk
  ·exact .inr (.inr h1)
theorem Hw {c:List Int}{g:List Vtx}(hg:GraOK c g){u:Vtx}{st:Nat}(hst:g[st]?=some u){re:List Bool}(h:Dfs g u g.length 0 re [])(h0:re[st]?=some true){i:Nat}{v:Vtx}(hi:g[i]?=some v):re[i]?=some true↔Rv g u v:=by
 refine⟨h.snd i v hi,fun hr=>?_⟩
 refine uD hg (S:=fun k=>re[k]?=some true) (fun k x hk hs q hq=>?_) hr st i hst h0 hi
 rcases h.cls k x hk hs with h1|⟨rfl,-⟩|h1
 ·cases h1
 ·have:=(aR.1 hk).1
  omega
 ·exact h1 q hq
theorem u4:∀{re:List Bool} {q:Nat},re[q]?=some false→(re.set q true).count false+1=re.count false
 |[],_,h=>by simp at h
 |b::re,0,h=>by
  simp only[iL,aw] at h
  subst h
  simp
 |b::re,q+1,h=>by
  have:=u4 (re:=re) (q:=q) (by simpa using h)
  simp only[List.set_cons_succ,List.count_cons]
  omega
open Classical in
noncomputable def pst (g:List Vtx) (u:Vtx):List Int:=((List.range g.length).filter fun i=>decide (Rv g u (g.getD i v0))).map fun i:Nat=>(i:Int)
def o4 (re:List Bool)(n:Nat):List Int:=((List.range n).filter fun i=>re.getD i false).map fun i:Nat=>(i:Int)
theorem Av {re:List Bool}{n:Nat}{b:Bool}(h:re[n]?=some b):o4 re (n+1)=if b=true then o4 re n++[(n:Int)] else o4 re n:=by
 have e:re.getD n false=b:=by rw[aq,h];rfl
 simp only[o4,mn,pe,ce,nz,mo,e]
 cases b<;>simp
theorem Dh (re:List Bool)(n:Nat):(o4 re n).length≤n:=by
 unfold o4
 rw[az]
 exact cu (my _ _) (by simp)
open Classical in
theorem Di {g:List Vtx}{u:Vtx}{re:List Bool}(hl:re.length=g.length)(h:∀(i:Nat) (v:Vtx),g[i]?=some v→(re[i]?=some true↔Rv g u v)):o4 re g.length=pst g u:=by
 unfold o4 pst
 congr 1
 refine nR fun i hi=>?_
 have hi:=eM.1 hi
 have h1:=h i (g.getD i v0) (by rw[aq,am hi];rfl)
 rw[am (by omega)] at h1
 rw[aq,am (by omega)]
 rw[d6,decide_eq_true_iff,←h1]
 simp
open Classical in
theorem BV {g:List Vtx}{u:Vtx}{x:Int}:x∈pst g u↔∃i:Nat,x=i∧∃v,g[i]?=some v∧Rv g u v:=by
 unfold pst
 rw[aB]
 constructor
 ·rintro⟨i,hi,rfl⟩
  obtain⟨h1,h2⟩:=eL.1 hi
  have h1:=eM.1 h1
  exact⟨i,rfl,_,by rw[aq,am h1];rfl,of_decide_eq_true h2⟩
 ·rintro⟨i,rfl,v,hv,hr⟩
  have hl:=(aR.1 hv).1
  refine⟨i,eL.2 ⟨eM.2 hl,decide_eq_true ?_⟩,rfl⟩
  rw[aq,hv]
  exact hr
theorem IP (g:List Vtx)(u:Vtx):(pst g u).Pairwise (· < ·):=by
 unfold pst
 rw[mj]
 exact(List.Pairwise.filter _ List.pairwise_lt_range).imp fun h=>by omega
theorem vU (g:List Vtx)(u:Vtx):(pst g u).length≤g.length:=by
 unfold pst
 rw[az]
 exact cu (my _ _) (by simp)
theorem xx {c:List Int}:∀{g:List Vtx},GraOK c g→∀{i:Nat} {v:Vtx},g[i]?=some v→∃p,(da g).nodes[i]?=some ⟨v,i,p⟩∧((v.parents=[]∧p=none)∨∃r,p=some r∧(da g).rows[r]?=some (pix g v)):=by
 have raw:∀(g:List Vtx) {i:Nat} {v:Vtx},g[i]?=some v→∃p,(da g).nodes[i]?=some ⟨v,i,p⟩∧((v.parents=[]∧p=none)∨∃r,p=some r∧(da g).rows[r]?=some (v.parents.map fun a=>(da (g.take i)).at (v.round-1) a)):=by
  intro g
  induction g using cj with
  |h0=>intro i v h;simp at h
  |h l x ih=>
   intro i v h
   rw[lR]
   have hnl:=(fj l).1
   rcases cG i l.length with hlt|hge
   ·rw[cW hlt] at h
    obtain⟨p,h1,h2⟩:=ih h
    refine⟨p,?_,?_⟩
    ·show ((da l).nodes++_)[i]?=_
     rw[cW (by omega)]
     exact h1
    ·rcases h2 with h2|⟨r,h2,h3⟩
     ·exact .inl h2
     ·refine .inr ⟨r,h2,?_⟩
      have hr:=(aR.1 h3).1
      rw[List.take_append_of_le_length (by omega)]
      simp only[cE]
      split
      ·exact h3
      ·rw[cW hr];exact h3
   ·obtain rfl:i=l.length:=by
     have:=(aR.1 h).1
     simp at this
     omega
    rw[eJ (ax _),ka] at h
    simp only[iL,aw] at h
    subst h
    refine⟨if x.parents=[] then none else some (da l).rows.length,?_,?_⟩
    ·show ((da l).nodes++_)[l.length]?=_
     rw[←hnl,eJ (ax _),ka]
     rfl
    ·by_cases hp:x.parents=[]
     ·exact .inl ⟨hp,by rw[if_pos hp]⟩
     ·refine .inr ⟨_,by rw[if_neg hp],?_⟩
      simp only[cE]
      rw[if_neg hp,eJ (ax _),ka,List.take_left]
      rfl
 rename_i g
 intro hg i v h
 obtain⟨p,h1,h2⟩:=raw g h
 refine⟨p,h1,?_⟩
 rcases h2 with h2|⟨r,h2,h3⟩
 ·exact .inl h2
 ·refine .inr ⟨r,h2,?_⟩
  rw[h3]
  congr 1
  unfold pix
  refine qJ fun a ha=>?_
  have hv:=br h
  obtain⟨x,x1,x2,x3⟩:=cF.1 (d9.1 (hg.par v hv) a ha)
  obtain⟨k,hk⟩:=iM x1
  have hx:=nE hg hk
  rw[x2,x3] at hx
  rw[hx]
  have hil:=(aR.1 h).1
  have hki:k<i:=by
   rcases cG k i with hlt|hge
   ·exact hlt
   ·exfalso
    rcases cG i k with hlt|hge2
    ·have:=iF hg.pw hlt h hk
     simp only[bef,cN,aA,decide_eq_true_eq] at this
     omega
    ·obtain rfl:i=k:=by omega
     rw[h] at hk
     obtain rfl:=ar hk
     omega
  have hvt:=(bG (hg.vtx v hv)).1
  have hxt:=dk hg.com (hg.vtx x x1)
  have ht:∀u∈g.take i,jf u:=fun u hu=>dk hg.com (hg.vtx u (jU hu))
  have hk2:(g.take i)[k]?=some x:=by rw[en,if_pos hki];exact hk
  have hin:=(vE ht (r:=v.round-1) (a:=a) (by have:=hxt.1;omega) (by have:=hxt.2;omega))
  have hsome:ed (g.take i) (v.round-1) a=true:=cF.2 ⟨x,br hk2,x2,x3⟩
  obtain⟨j,hj⟩:=mq.1 (hin.1.trans hsome)
  rw[hj]
  have hjx:=hin.2 j hj
  exact congrArg some (gst_j hg hki hjx hk x2 x3)
where
 gst_j {c:List Int} {g:List Vtx} (hg:GraOK c g) {i j k:Nat} {a r:Int} {x:Vtx} (hki:k<i) (hj:∃y,(g.take i)[j]?=some y∧y.round=r∧y.author=a) (hk:g[k]?=some x) (x2:x.round=r) (x3:x.author=a):j=k:=by
  obtain⟨y,y1,y2,y3⟩:=hj
  have y1':g[j]?=some y:=by
   rw[en] at y1
   split at y1
   ·exact y1
   ·cases y1
  have e:=rC hg.pw (br y1') (br hk) (by omega) (by rw[y3,x3])
  subst e
  exact EC hg y1' hk
end Go.Proofs.YtpefhoohfkeflacGreatDoor.Am
namespace Go.Proofs.YtpefhoohfkeflacGreatDoor.Am
open Go
structure Sph (g:List Vtx)(u:Vtx)(st m:Nat)(re:List Bool):Prop where
 len:re.length=g.length
 snd:∀(i:Nat) (v:Vtx),g[i]?=some v→re[i]?=some true→Rv g u v
 top:re[st]?=some true
 cls:∀(i:Nat) (v:Vtx),g[i]?=some v→re[i]?=some true→i<m∨∀q:Nat,some q∈pix g v→re[q]?=some true
structure Spi (g:List Vtx)(u:Vtx)(st n j:Nat)(re:List Bool):Prop where
 len:re.length=g.length
 snd:∀(i:Nat) (v:Vtx),g[i]?=some v→re[i]?=some true→Rv g u v
 top:re[st]?=some true
 cur:re[n]?=some true∨j=0
 cls:∀(i:Nat) (v:Vtx),g[i]?=some v→re[i]?=some true→i<n∨(i=n∧∀(k q:Nat),k<j→(pix g v)[k]?=some (some q)→re[q]?=some true)∨∀q:Nat,some q∈pix g v→re[q]?=some true
theorem NF {g:List Vtx}{st:Nat}{u:Vtx}(h:g[st]?=some u):Sph g u st (st+1) ((List.replicate g.length false).set st true):=by
 have hl:=(aR.1 h).1
 have key:∀i:Nat,((List.replicate g.length false).set st true)[i]?=some true→i=st:=fun i hi=>by
  rw[dm] at hi
  split at hi
  ·omega
  ·rw[mt] at hi
   split at hi<;>cases hi
 have hst:((List.replicate g.length false).set st true)[st]?=some true:=by
  rw[dm,if_pos rfl,if_pos (by simpa using hl)]
 refine⟨by simp,fun i v hi hr=>?_,hst,fun i v hi hr=>.inl ?_⟩
 ·obtain rfl:=key i hr
  rw[h] at hi
  obtain rfl:=ar hi
  exact .refl u
 ·rw[key i hr]
  omega
theorem Mj {g:List Vtx}{u:Vtx}{st m:Nat}{re:List Bool}(h:Sph g u st (m+1) re):Spi g u st m 0 re:=by
 refine⟨h.len,h.snd,h.top,.inr rfl,fun i v hi hr=>?_⟩
 rcases h.cls i v hi hr with h1|h1
 ·rcases cG i m with h2|h2
  ·exact .inl h2
  ·exact .inr (.inl ⟨by omega,fun k _ hk=>absurd hk (Nat.not_lt_zero k)⟩)
 ·exact .inr (.inr h1)
theorem LQ {c:List Int}{g:List Vtx}(hg:GraOK c g){n q:Nat}{v:Vtx}(hv:g[n]?=some v)(hq:some q∈pix g v):q<n:=by
 obtain⟨k,x,e,h1,h2,h3⟩:=oK hg (br hv) hq
 obtain rfl:=ar e
 rcases Nat.lt_trichotomy q n with h|h|h
 ·exact h
 ·subst h
  rw[hv] at h1
  obtain rfl:=ar h1
  omega
 ·have:=iF hg.pw h hv h1
  rw[bef_iff'] at this
  omega
where
 bef_iff' {a b:Vtx}:bef a b=true↔a.round<b.round∨(a.round=b.round∧a.author<b.author):=by
  simp only[bef,cN,aA,decide_eq_true_eq]
theorem Je {c:List Int}{g:List Vtx}(hg:GraOK c g){u v:Vtx}{st n j q:Nat}{re:List Bool}(h:Spi g u st n j re)(hv:g[n]?=some v)(hn:re[n]?=some true)(hj:(pix g v)[j]?=some (some q)):Spi g u st n (j+1) (re.set q true):=by
 have hqm:=br hj
 have hqn:=LQ hg hv hqm
 have hnl:=(aR.1 hn).1
 have hqt:(re.set q true)[q]?=some true:=by rw[dm,if_pos rfl,if_pos (by omega)]
 have hne:∀i:Nat,i≠q→(re.set q true)[i]?=re[i]?:=fun i hi=>by rw[dm,if_neg (by omega)]
 refine⟨by rw[jq];exact h.len,fun i x hi hr=>?_,ge h.top,.inl (ge hn),fun i x hi hr=>?_⟩
 ·by_cases e:i=q
  ·subst e
   exact(h.snd n v hv hn).trans (FU hg (br hv) hqm hi)
  ·rw[hne i e] at hr
   exact h.snd i x hi hr
 ·by_cases e:i=q
  ·subst e
   exact .inl hqn
  rw[hne i e] at hr
  rcases h.cls i x hi hr with h1|⟨rfl,h1⟩|h1
  ·exact .inl h1
  ·refine .inr (.inl ⟨rfl,fun k q' hk hp=>?_⟩)
   rcases cG k j with hlt|hge
   ·exact ge (h1 k q' hlt hp)
   ·obtain rfl:k=j:=by omega
    rw[hv] at hi
    obtain rfl:=ar hi
    rw[hj] at hp
    obtain rfl:=ar (ar hp)
    exact hqt
  ·exact .inr (.inr fun q' hq'=>ge (h1 q' hq'))
theorem B8 {g:List Vtx}{u v:Vtx}{st n j:Nat}{re:List Bool}(h:Spi g u st n j re)(hv:g[n]?=some v)(hj:re[n]?=some false∨v.parents.length≤j):Sph g u st n re:=by
 refine⟨h.len,h.snd,h.top,fun i x hi hr=>?_⟩
 rcases h.cls i x hi hr with h1|⟨rfl,h1⟩|h1
 ·exact .inl h1
 ·rw[hv] at hi
  obtain rfl:=ar hi
  rcases hj with hj|hj
  ·rw[hr] at hj;cases hj
  refine .inr fun q hq=>?_
  obtain⟨k,hk⟩:=iM hq
  have hkl:=(aR.1 hk).1
  unfold pix at hkl
  rw[az] at hkl
  exact h1 k q (by omega) hk
 ·exact .inr h1
open Classical in
noncomputable def pfl (g:List Vtx) (u:Vtx):List Bool:=g.map fun v=>decide (Rv g u v)
open Classical in
theorem zY {g:List Vtx}{u v:Vtx}{i:Nat}(h:g[i]?=some v):(pfl g u)[i]?=some (decide (Rv g u v)):=by
 rw[pfl,be,h];rfl
open Classical in
theorem KA {g:List Vtx}{u:Vtx}{re:List Bool}(hl:re.length=g.length)(h:∀(i:Nat) (v:Vtx),g[i]?=some v→(re[i]?=some true↔Rv g u v)):re=pfl g u:=by
 refine nS fun i=>?_
 rcases cG i g.length with hi|hi
 ·have hv:=am hi
  have h1:=h i _ hv
  rw[zY hv]
  rw[am (by omega)] at h1⊢
  congr 1
  rw[d6,decide_eq_true_iff,←h1]
  simp
 ·rw[eg (by omega),eg (by simpa[pfl] using hi)]
theorem Jd {c:List Int}{g:List Vtx}(hg:GraOK c g){u:Vtx}{st:Nat}(hst:g[st]?=some u){re:List Bool}(h:Sph g u st 0 re):re=pfl g u:=by
 refine KA h.len fun i v hi=>⟨h.snd i v hi,fun hr=>?_⟩
 refine uD hg (S:=fun k=>re[k]?=some true) (fun k x hk hs q hq=>?_) hr st i hst h.top hi
 rcases h.cls k x hk hs with h1|h1
 ·omega
 ·exact h1 q hq
open Classical in
theorem oa (g:List Vtx)(l:List Int)(last:Nat):∀(x:Nat) (cur:Vtx),(dwn g l last x cur).Pairwise (· < ·)∧∀w∈dwn g l last x cur,last<w∧w≤x
 |0,cur=>by simp[dwn]
 |x+1,cur=>by
  unfold dwn
  by_cases hx:x+1≤last
  ·rw[if_pos hx];simp
  rw[if_neg hx]
  have st:∀cur:Vtx,(dwn g l last x cur).Pairwise (· < ·)∧∀w∈dwn g l last x cur,last<w∧w≤x+1:=fun cur=>
   ⟨(oa g l last x cur).1,fun w hw=>⟨((oa g l last x cur).2 w hw).1,by have:=((oa g l last x cur).2 w hw).2;omega⟩⟩
  split
  ·rename_i k hk
   split
   ·obtain⟨h1,h2⟩:=oa g l last x k
    refine⟨qc.2 ⟨h1,List.pairwise_singleton _ _,fun a ha b hb=>?_⟩,fun w hw=>?_⟩
    ·obtain rfl:=aY.1 hb
     have:=h2 a ha
     omega
    ·rcases bl.1 hw with hw|hw
     ·have:=h2 w hw
      omega
     ·obtain rfl:=aY.1 hw
      omega
   ·exact st cur
  ·exact st cur
theorem AQ (g:List Vtx)(l:List Int){w last:Nat}(hw:last<w):(chn g l w last).Pairwise (· < ·)∧∀x∈chn g l w last,last<x∧x≤w:=by
 unfold chn
 split
 ·rename_i k hk
  obtain⟨h1,h2⟩:=oa g l last (w-1) k
  refine⟨qc.2 ⟨h1,List.pairwise_singleton _ _,fun a ha b hb=>?_⟩,fun x hx=>?_⟩
  ·obtain rfl:=aY.1 hb
   have:=h2 a ha
   omega
  ·rcases bl.1 hx with hx|hx
   ·have:=h2 x hx
    omega
   ·obtain rfl:=aY.1 hx
    omega
 ·exact⟨List.pairwise_singleton _ _,fun x hx=>by obtain rfl:=aY.1 hx;omega⟩
theorem n5 (c:List Int)(g:List Vtx)(l:List Int):∀n:Nat,(cmt c g l n).2≤n∧(cmt c g l n).1.Pairwise (· < ·)∧∀w∈(cmt c g l n).1,w≤(cmt c g l n).2
 |0=>by simp[cmt]
 |n+1=>by
  obtain⟨h1,h2,h3⟩:=n5 c g l n
  unfold cmt
  split
  ·obtain⟨h4,h5⟩:=AQ g l (w:=n+1) (last:=(cmt c g l n).2) (by omega)
   refine⟨ax _,qc.2 ⟨h2,h4,fun a ha b hb=>?_⟩,fun w hw=>?_⟩
   ·have:=h3 a ha
    have:=(h5 b hb).1
    omega
   ·rcases bl.1 hw with hw|hw
    ·have:=h3 w hw
     show w≤n+1
     omega
    ·exact(h5 w hw).2
  ·exact⟨by omega,h2,h3⟩
def yK (g:List Vtx)(l:List Int)(w:Nat)(v:Vtx):Prop:=∃k,qw g l w=some k∧Rv g k v∧2*(w:Int)-7≤v.round
open Classical in
noncomputable def wvk (g:List Vtx) (l:List Int) (ws:List Nat) (v:Vtx):Int:=match ws.find? fun w=>decide (yK g l w v) with
 |some w=>(w:Int)
 |none=>0
open Classical in
theorem tA (g:List Vtx)(l:List Int)(ws:List Nat)(w:Nat)(v:Vtx)(hp:∀w∈ws,1≤w):wvk g l (ws++[w]) v=if wvk g l ws v=0∧yK g l w v then(w:Int) else wvk g l ws v:=by
 unfold wvk
 rw[List.find?_append]
 cases h:ws.find? fun w=>decide (yK g l w v) with
 |none=>
  simp only[Option.none_or,List.find?_cons,List.find?_nil,true_and]
  by_cases hi:yK g l w v
  ·simp[hi]
  ·simp[hi]
 |some x=>
  have:=hp x (tC h)
  simp only[Option.some_or]
  rw[if_neg (by omega)]
open Classical in
theorem yJ {g:List Vtx}{l:List Int}{ws:List Nat}{v:Vtx}(hp:∀w∈ws,1≤w):wvk g l ws v=0↔∀w∈ws,¬yK g l w v:=by
 unfold wvk
 cases h:ws.find? fun w=>decide (yK g l w v) with
 |none=>
  have:=List.find?_eq_none.1 h
  simp only[true_iff]
  intro w hw hi
  exact this w hw (decide_eq_true hi)
 |some x=>
  have h1:=hp x (tC h)
  have h2:yK g l x v:=by
   have:=List.find?_some h
   simpa using this
  refine⟨fun h0=>?_,fun h0=>absurd h2 (h0 x (tC h))⟩
  simp only at h0
  omega
open Classical in
theorem Cm {g:List Vtx}{l:List Int}{ws:List Nat}{v:Vtx}(h:wvk g l ws v≠0):∃w∈ws,wvk g l ws v=(w:Int):=by
 unfold wvk at h⊢
 cases hf:ws.find? fun w=>decide (yK g l w v) with
 |none=>rw[hf] at h;exact absurd rfl h
 |some x=>exact⟨x,tC hf,rfl⟩
open Classical in
theorem FQ {g:List Vtx}{l:List Int}{acc:List Vtx}{w:Nat}{v:Vtx}:v∈ordW g l acc w↔v∈g∧yK g l w v∧v∉acc:=by
 unfold ordW yK
 cases h:qw g l w with
 |none=>simp
 |some k=>
  simp only[eL,aA,decide_eq_true_eq,aw,exists_eq_left',and_assoc]
open Classical in
theorem ux {g:List Vtx}{l:List Int}:∀{ws:List Nat} {acc:List Vtx} {v:Vtx},v∈ordTo g l acc ws↔v∈acc∨(v∈g∧∃w∈ws,yK g l w v)
 |[],acc,v=>by simp[ordTo]
 |w::ws,acc,v=>by
  rw[nJ,ux]
  simp only[bl,FQ,aJ,exists_eq_or_imp]
  constructor
  ·rintro((h|⟨h1,h2,h3⟩)|⟨h1,h2⟩)
   ·exact .inl h
   ·exact .inr ⟨h1,.inl h2⟩
   ·exact .inr ⟨h1,.inr h2⟩
  ·rintro(h|⟨h1,h2|h2⟩)
   ·exact .inl (.inl h)
   ·by_cases hm:v∈acc
    ·exact .inl (.inl hm)
    ·exact .inl (.inr ⟨h1,h2,hm⟩)
   ·exact .inr ⟨h1,h2⟩
open Classical in
theorem zU (g:List Vtx)(l:List Int)(ws:List Nat)(hp:∀w∈ws,1≤w)(hn:ws.Pairwise (· < ·)):ordTo g l [] ws=ws.flatMap fun w:Nat=>g.filter fun v=>decide (wvk g l ws v=(w:Int)):=by
 induction ws using cj with
 |h0=>rfl
 |h ws w ih=>
  have hp':∀x∈ws,1≤x:=fun x hx=>hp x (bl.2 (.inl hx))
  obtain⟨hn1,-,hn2⟩:=qc.1 hn
  have hlt:∀x∈ws,x<w:=fun x hx=>hn2 x hx w (by simp)
  have hw1:1≤w:=hp w (by simp)
  rw[C2,List.flatMap_append,ih hp' hn1]
  have e1:∀x∈ws,(g.filter fun v=>decide (wvk g l (ws++[w]) v=(x:Int)))=g.filter fun v=>decide (wvk g l ws v=(x:Int)):=fun x hx=>by
   refine nR fun v _=>?_
   rw[tA g l ws w v hp']
   have hx1:=hp' x hx
   have hx2:=hlt x hx
   split
   ·rename_i h
    rw[h.1,decide_eq_false (by omega),decide_eq_false (by omega)]
   ·rfl
  rw[show (ws.flatMap fun x:Nat=>g.filter fun v=>decide (wvk g l (ws++[w]) v=(x:Int)))=ws.flatMap fun x:Nat=>g.filter fun v=>decide (wvk g l ws v=(x:Int)) from flat_congr e1]
  rw[←ih hp' hn1]
  show ordTo g l [] ws++ordW g l (ordTo g l [] ws) w=_
  congr 1
  rw[gt,List.flatMap_nil,gw]
  have e2:∀v,wvk g l (ws++[w]) v=(w:Int)↔yK g l w v∧∀x∈ws,¬yK g l x v:=fun v=>by
   rw[tA g l ws w v hp']
   constructor
   ·intro h
    split at h
    ·rename_i h2
     exact⟨h2.2,(yJ hp').1 h2.1⟩
    ·exfalso
     obtain⟨x,hx,hxe⟩:=Cm (g:=g) (l:=l) (ws:=ws) (v:=v) (by omega)
     have:=hlt x hx
     omega
   ·rintro⟨h1,h2⟩
    rw[if_pos ⟨(yJ hp').2 h2,h1⟩]
  unfold ordW
  cases hl:qw g l w with
  |none=>
   symm
   rw[List.filter_eq_nil_iff]
   intro v _ h
   obtain⟨⟨k,hk,-⟩,-⟩:=(e2 v).1 (of_decide_eq_true h)
   rw[hl] at hk
   cases hk
  |some k=>
   refine nR fun v hv=>?_
   rw[d6]
   simp only[aA,decide_eq_true_eq,e2,ux,yK,hl,aw,exists_eq_left',gu,false_or,not_and,not_exists,and_assoc]
   constructor
   ·rintro⟨h1,h2,h3⟩
    exact⟨h1,h2,fun x hx k hk hr hd=>h3 hv x hx k hk hr hd⟩
   ·rintro⟨h1,h2,h3⟩
    exact⟨h1,h2,fun _ x hx k hk hr hd=>h3 x hx k hk hr hd⟩
where
 flat_congr {α β:Type} {l:List α} {f f':α→List β} (h:∀x∈l,f x=f' x):l.flatMap f=l.flatMap f':=by
  induction l with
  |nil=>rfl
  |cons x l ih=>rw[gt,gt,h x (by simp),ih fun y hy=>h y (by simp[hy])]
theorem qt {α β:Type}{f:α→List β}(p:α→Bool):∀(l:List α),(∀x∈l,p x=false→f x=[])→l.flatMap f=(l.filter p).flatMap f
 |[],_=>rfl
 |x::l,h=>by
  rw[gt,qt p l fun y hy=>h y (by simp[hy]),nz]
  cases hp:p x
  ·rw[h x (by simp) hp];rfl
  ·rfl
theorem Dy {a b:List Nat}(ha:a.Pairwise (· < ·))(hb:b.Pairwise (· < ·))(h:∀x,x∈a↔x∈b):a=b:=by
 induction a generalizing b with
 |nil=>
  cases b with
  |nil=>rfl
  |cons y b=>exact absurd ((h y).2 (by simp)) (by simp)
 |cons x a ih=>
  obtain⟨a1,a2⟩:=iv.1 ha
  cases b with
  |nil=>exact absurd ((h x).1 (by simp)) (by simp)
  |cons y b=>
   obtain⟨b1,b2⟩:=iv.1 hb
   have e:x=y:=by
    rcases Nat.lt_trichotomy x y with hlt|e|hlt
    ·rcases aJ.1 ((h x).1 (by simp)) with e|hm
     ·exact e
     ·have:=b1 x hm;omega
    ·exact e
    ·rcases aJ.1 ((h y).2 (by simp)) with e|hm
     ·exact e.symm
     ·have:=a1 y hm;omega
   subst e
   congr 1
   refine ih a2 b2 fun z=>?_
   have hz:=h z
   simp only[aJ] at hz
   constructor
   ·intro hm
    have:=a1 z hm
    rcases hz.1 (.inr hm) with e|e
    ·omega
    ·exact e
   ·intro hm
    have:=b1 z hm
    rcases hz.2 (.inr hm) with e|e
    ·omega
    ·exact e
open Classical in
theorem C1 {c:List Int}{g:List Vtx}(hc:comV c=true)(l:List Int):ordG c g l=(List.range' 1 l.length).flatMap fun w:Nat=>g.filter fun v=>decide (wvk g l (cmt c g l l.length).1 v=(w:Int)):=by
 have h1:=mG (g:=g) hc l l.length
 obtain⟨h2,h3,h4⟩:=n5 c g l l.length
 unfold ordG
 rw[zU g l _ (fun w hw=>(h1 w hw).1) h3]
 rw[qt (fun w=>decide (w∈(cmt c g l l.length).1)) (List.range' 1 l.length)]
 ·congr 1
  refine Dy h3 ((List.pairwise_lt_range').filter _) fun w=>?_
  rw[eL,List.mem_range'_1,decide_eq_true_iff]
  refine⟨fun h=>⟨?_,h⟩,fun h=>h.2⟩
  have:=h1 w h
  omega
 ·intro w hw hn
  have hw:=List.mem_range'_1.1 hw
  rw[List.filter_eq_nil_iff]
  intro v _ h
  have h:=of_decide_eq_true h
  obtain⟨x,hx,hxe⟩:=Cm (g:=g) (l:=l) (ws:=(cmt c g l l.length).1) (v:=v) (by omega)
  have:x=w:=by omega
  subst this
  exact of_decide_eq_false hn hx
def yL (xs:List Int)(w:Int)(n:Nat):List Int:=((List.range n).filter fun i=>xs.getD i 0==w).map fun i:Nat=>(i:Int)
theorem Gq {xs:List Int}{w x:Int}{n:Nat}(h:xs[n]?=some x):yL xs w (n+1)=if x=w then yL xs w n++[(n:Int)] else yL xs w n:=by
 have e:xs.getD n 0=x:=by rw[aq,h];rfl
 simp only[yL,mn,ce,pe,nz,mo,e]
 by_cases hx:x=w
 ·simp[hx]
 ·simp[hx]
def jO (xs:List Int)(m:Nat):List Int:=(List.range' 1 m).flatMap fun w:Nat=>yL xs (w:Int) xs.length
theorem te (xs:List Int)(m:Nat):jO xs (m+1)=jO xs m++yL xs ((m+1:Nat):Int) xs.length:=by
 unfold jO
 rw[List.range'_concat,List.flatMap_append,gt,List.flatMap_nil,gw,iz,Nat.add_comm 1 m]
def ip (v:Vtx):Slt:=⟨v.round,v.author⟩
open Classical in
theorem I6 {c:List Int}{g:List Vtx}(hc:comV c=true)(l:List Int):(jO (g.map (wvk g l (cmt c g l l.length).1)) l.length).map (fun i=>ip (g.getD i.toNat v0))=(ordG c g l).map ip:=by
 rw[C1 hc,jO,List.map_flatMap,List.map_flatMap]
 congr 1
 funext w
 rw[az,yL,ep]
 conv=>rhs;rw[show g=(List.range g.length).map fun i=>g.getD i v0 from range_get g]
 rw[List.filter_map,ep]
 simp only[←range_get g]
 have e:((List.range g.length).filter fun i=>(g.map (wvk g l (cmt c g l l.length).1)).getD i 0==(w:Int))=(List.range g.length).filter ((fun v=>decide (wvk g l (cmt c g l l.length).1 v=(w:Int)))∘fun i=>g.getD i v0):=by
  refine nR fun i hi=>?_
  have hi:=eM.1 hi
  rw[d6]
  simp[aq,am hi]
 rw[e]
 refine qJ fun i _=>?_
 simp
where
 range_get (g:List Vtx):g=(List.range g.length).map fun i=>g.getD i v0:=by
  refine List.ext_getElem (by simp) fun i h1 h2=>?_
  simp[aq,am h1]
end Go.Proofs.YtpefhoohfkeflacGreatDoor.Am
namespace Go.Proofs.YtpefhoohfkeflacGreatDoor.Am
open Go
attribute [local irreducible] Mk ci Ari fB mA ju b9 cR iT fo At ag
set_option maxRecDepth 10000
theorem NH (c:List Int)(hc:comV c=true):ag Tryz.prog 188 [.lst (.int .i64) c] [] (.int .i64 (Ds c)) []:=by
 have h1:=lr hc
 have h3:(qD c).tdiv 3+1=Ds c:=rfl
 have h2:=oX hc
 refine ab aj Tryz.func188 rfl rfl false 0 4 rfl rfl rfl rfl fun K hK hb1 hb2=>?_;simp only[ae,enc,Nat.reduceAdd]
 (repeat' first|refine st ?_|refine sa fun xe hxe=>?_|refine sb (fun hq=>?_) fun hq=>?_|refine cr (GK _ hc) ?_|exact aa)
 exact⟨rfl,rfl⟩
theorem LP {c:List Int}{g:List Vtx}(hg:GraOK c g){n j:Nat}{v:Vtx}{a:Int}(hv:g[n]?=some v)(hj:v.parents[j]?=some a):∃q:Nat,(pix g v)[j]?=some (some q)∧lB g (v.round-1) a=(q:Int)∧q<g.length:=by
 have h0:(pix g v)[j]?=some (g.findIdx? (eZ (v.round-1) a)):=by rw[pix,be,hj];rfl
 obtain⟨k,x,e,h1,-,-⟩:=oK hg (br hv) (br h0)
 refine⟨k,by rw[h0,e],?_,(aR.1 h1).1⟩
 rw[lB,e]
theorem zX (c:List Int)(g:List Vtx)(hg:GraOK c g)(hl:g.length≤1000000)(sa:Nat)(u:Vtx)(hst:g[sa]?=some u):ag Tryz.prog 160 [.lst .vtx g,.int .i64 (sa:Int)] [] (.lst .bool (pfl g u)) []:=by
 have hsl:=(aR.1 hst).1
 have h7:=(ay.1 hg.com).2
 have h0:=NF hst
 have hrl:(List.replicate g.length false).length=g.length:=by simp
 have hre:(List.replicate g.length false)[sa]?=some false:=by rw[mt,if_pos hsl]
 have hre2:(List.replicate ((g.length:Int).toNat) false)[sa]?=some false:=hre
 refine ab aj Tryz.func160 rfl rfl true 0 4 rfl rfl rfl rfl fun K hK hb1 hb2=>?_;simp only[ae,enc,Nat.reduceAdd]
 clear hb1 hb2
 (repeat' first|refine st ?_|refine sa fun xe hxe=>?_|refine sb (fun hq=>?_) fun hq=>?_|exact aa)
 refine ah hK [] [0,5,6] (fun x:Nat×List Bool=>⟨[(0,.lst .vtx g),(5,.ref 4),(6,.int .i64 ((x.1:Int)-1))],[(4,.row 4 .bool x.2)],5⟩) (fun x=>Sph g u sa x.1 x.2∧x.1≤sa+1) (fun x=>x.1) (sa+1,(List.replicate g.length false).set sa true) ⟨h0,ax _⟩ ?_ ?_
 ·dsimp only
  rw[show (((sa+1:Nat):Int)-1)=(sa:Int) by omega]
  rfl
 rintro⟨m,re⟩ ⟨hS,hm⟩
 dsimp only at hS hm⊢
 have hrel:=hS.len
 cases m with
 |zero=>
  have he:=Jd hg hst hS
  (repeat' first|refine st ?_|refine sa fun xe hxe=>?_|refine sb (fun hq=>?_) fun hq=>?_|exact aa)
  exact⟨by rw[he],rfl⟩
 |succ m=>
  rw[show (((m+1:Nat):Int)-1)=(m:Int) by omega]
  have hI:=Mj hS
  have hml:m<g.length:=by omega
  have hv:g[m]?=some g[m]:=am hml
  have hvr:=(bG (hg.vtx _ (br hv))).1
  have hpl:=eD (bG (hg.vtx _ (br hv))).2.2.1
  generalize g[m]=v at *
  clear hS
  (repeat' first|refine st ?_|refine sa fun xe hxe=>?_|refine sb (fun hq=>?_) fun hq=>?_|exact aa)
  refine ah hK [] [0,5,6,7] (fun y:Nat×List Bool=>⟨[(0,.lst .vtx g),(5,.ref 4),(6,.int .i64 (m:Int)),(7,.int .i64 (y.1:Int))],[(4,.row 4 .bool y.2)],5⟩) (fun y=>Spi g u sa m y.1 y.2∧y.1≤v.parents.length) (fun y=>v.parents.length-y.1) (0,re) ⟨hI,aW _⟩ rfl ?_
  rintro⟨j,rf⟩ ⟨hJ,hj⟩
  dsimp only at hJ hj⊢
  have hrl2:=hJ.len
  have hbm:rf[m]?=some rf[m]:=am (by omega)
  by_cases hlt:j<v.parents.length
  ·cases hb:rf[m] with
   |false=>
    rw[hb] at hbm
    have hS2:=B8 hJ hv (.inl hbm)
    (repeat' first|refine st ?_|refine sa fun xe hxe=>?_|refine sb (fun hq=>?_) fun hq=>?_|exact aa)
    exact⟨(m,rf),⟨hS2,by dsimp only;omega⟩,by dsimp only;omega,rfl⟩
   |true=>
    rw[hb] at hbm
    have hxe:v.parents[j]?=some v.parents[j]:=am hlt
    generalize v.parents[j]=a at *
    obtain⟨q,q1,q2,q3⟩:=LP hg hv hxe
    have hF:=px g (v.round-1) a
    rw[q2] at hF
    have hS2:=Je hg hJ hv hbm q1
    have hq:rf[q]?=some rf[q]:=am (by omega)
    (repeat' first|refine st ?_|refine sa fun xe hxe=>?_|refine sb (fun hq=>?_) fun hq=>?_|refine cr (hF) ?_|exact aa)
    exact⟨(j+1,rf.set q true),⟨hS2,by dsimp only;omega⟩,by dsimp only;omega,rfl⟩
  ·have hS2:=B8 hJ hv (.inr (by omega))
   cases hb:rf[m] with
   |false=>
    rw[hb] at hbm
    (repeat' first|refine st ?_|refine sa fun xe hxe=>?_|refine sb (fun hq=>?_) fun hq=>?_|exact aa)
    exact⟨(m,rf),⟨hS2,by dsimp only;omega⟩,by dsimp only;omega,rfl⟩
   |true=>
    rw[hb] at hbm
    (repeat' first|refine st ?_|refine sa fun xe hxe=>?_|refine sb (fun hq=>?_) fun hq=>?_|exact aa)
    exact⟨(m,rf),⟨hS2,by dsimp only;omega⟩,by dsimp only;omega,rfl⟩
theorem mT {l:List Int}{w:Nat}(h1:1≤w)(h2:w≤l.length):l[((w:Int)-1).toNat]?=some (gj l w):=by
 rw[show ((w:Int)-1).toNat=w-1 by omega,gj,aq,am (by omega)]
 rfl
def Fp (g:List Vtx)(l:List Int)(w:Nat):Int:=lB g (2*(w:Int)-1) (gj l w)
theorem mU {c:List Int}{g:List Vtx}(hg:GraOK c g){l:List Int}{w:Nat}{k:Vtx}(h:qw g l w=some k):∃i:Nat,Fp g l w=(i:Int)∧g[i]?=some k:=by
 obtain⟨h1,h2,h3⟩:=sK h
 obtain⟨i,hi⟩:=iM h1
 have:=nE hg hi
 rw[h2,h3] at this
 exact⟨i,by rw[Fp,lB,this],hi⟩
theorem um {g:List Vtx}{l:List Int}{w:Nat}(h:qw g l w=none):Fp g l w= -1:=by
 have:g.findIdx? (eZ (2*(w:Int)-1) (gj l w))=none:=by
  rw[pd]
  intro x hx
  have:=List.find?_eq_none.1 h x hx
  simpa using this
 rw[Fp,lB,this]
theorem Bz (g:List Vtx)(l:List Int)(w:Nat)(h1:1≤w)(h2:w≤l.length)(h3:w≤1000000):ag Tryz.prog 161 [.lst .vtx g,.lst (.int .i64) l,.int .i64 (w:Int)] [] (.int .i64 (Fp g l w)) []:=by
 have hx:=mT h1 h2
 have hF:=px g (2*(w:Int)-1) (gj l w)
 refine ab aj Tryz.func161 rfl rfl false 0 4 rfl rfl rfl rfl fun K hK hb1 hb2=>?_;simp only[ae,enc,Nat.reduceAdd]
 clear hb1 hb2
 (repeat' first|refine st ?_|refine sa fun xe hxe=>?_|refine sb (fun hq=>?_) fun hq=>?_|refine cr (hF) ?_|exact aa)
 exact⟨rfl,rfl⟩
theorem GY {g:List Vtx}{l:List Int}{w i:Nat}{v:Vtx}(h:g[i]?=some v):tD (g.take (i+1)) l w=if(v.round==2*(w:Int) && v.parents.contains (gj l w))=true then tD (g.take i) l w++[v.author] else tD (g.take i) l w:=by
 have e:g.take (i+1)=g.take i++[v]:=by
  obtain⟨hi,rfl⟩:=aR.1 h
  exact b8 hi
 rw[tD,e,pe,ce,nz,mo]
 split
 ·rfl
 ·rw[eq,gw];rfl
theorem Jr (g:List Vtx)(l:List Int)(w:Nat):(tD g l w).length≤g.length:=by
 unfold tD
 rw[az]
 exact my _ _
theorem NO (c:List Int)(g:List Vtx)(l:List Int)(w:Nat)(hg:GraOK c g)(hl:g.length≤1000000)(h1:1≤w)(h2:w≤l.length)(h3:w≤1000000):ag Tryz.prog 187 [.lst (.int .i64) c,.lst .vtx g,.lst (.int .i64) l,.int .i64 (w:Int)] [] (.int .i64 (qQ c g l w)) []:=by
 have hx:=mT h1 h2
 have hL:=Bz g l w h1 h2 h3
 have hcm:=(ay.1 hg.com).1
 refine ab aj Tryz.func187 rfl rfl false 0 4 rfl rfl rfl rfl fun K hK hb1 hb2=>?_;simp only[ae,enc,Nat.reduceAdd]
 clear hb1 hb2
 (repeat' first|refine st ?_|refine sa fun xe hxe=>?_|refine sb (fun hq=>?_) fun hq=>?_|exact aa)
 refine ah hK [] [0,1,2,3,9,10] (fun i:Nat=>⟨[(0,.lst (.int .i64) c),(1,.lst .vtx g),(2,.lst (.int .i64) l),(3,.int .i64 (w:Int)),(9,.int .i64 (lF c (tD (g.take i) l w))),(10,.int .i64 (i:Int))],[],4⟩) (fun i=>i≤g.length∧(0<i→(qw g l w).isSome=true)) (fun i=>g.length-i) 0 ⟨aW _,fun h=>absurd h (Nat.lt_irrefl 0)⟩ rfl ?_
 rintro i ⟨hi,hs⟩
 have hwb:=wq (ms:=tD (g.take i) l w) hg.com
 have hwl:=Jr (g.take i) l w
 rw[bP] at hwl
 cases hk:qw g l w with
 |none=>
  rw[um hk] at hL
  have hi0:i=0:=by
   rcases Nat.eq_zero_or_pos i with h|h
   ·exact h
   ·have:=hs h
    rw[hk] at this
    cases this
  subst hi0
  have he:qQ c g l w=0:=by rw[qQ,hk];rfl
  rw[he]
  have hz:lF c (tD (g.take 0) l w)=0:=rfl
  rw[hz]
  by_cases hlt:0<g.length
  ·(repeat' first|refine st ?_|refine sa fun xe hxe=>?_|refine sb (fun hq=>?_) fun hq=>?_|refine cr (hL) ?_|exact aa)
   exact⟨rfl,rfl⟩
  ·(repeat' first|refine st ?_|refine sa fun xe hxe=>?_|refine sb (fun hq=>?_) fun hq=>?_|refine cr (hL) ?_|exact aa)
   exact⟨rfl,rfl⟩
 |some k=>
  obtain⟨n,hn,-⟩:=mU hg hk
  rw[hn] at hL
  have he:qQ c g l w=lF c (tD g l w):=by rw[qQ,hk];rfl
  by_cases hlt:i<g.length
  ·have hxe:g[i]?=some g[i]:=am hlt
   have hsn:=GY (l:=l) (w:=w) hxe
   obtain⟨hvr,hva,-⟩:=bG (hg.vtx _ (br hxe))
   generalize g[i]=v at *
   have hH:=Bl v.parents (gj l w)
   cases h4:v.round==2*(w:Int)
   ·rw[h4,iy,if_neg (by simp)] at hsn
    (repeat' first|refine st ?_|refine sa fun xe hxe=>?_|refine sb (fun hq=>?_) fun hq=>?_|refine cr (hL) ?_|refine cr (hH) ?_|exact aa)
    exact⟨i+1,⟨by omega,fun _=>rfl⟩,by omega,by rw[hsn];rfl⟩
   ·cases h5:v.parents.contains (gj l w)
    ·rw[h4,h5,if_neg (by simp)] at hsn
     rw[h5] at hH
     (repeat' first|refine st ?_|refine sa fun xe hxe=>?_|refine sb (fun hq=>?_) fun hq=>?_|refine cr (hL) ?_|refine cr (hH) ?_|exact aa)
     exact⟨i+1,⟨by omega,fun _=>rfl⟩,by omega,by rw[hsn];rfl⟩
    ·rw[h4,h5,show (true && true)=true from rfl,if_pos rfl] at hsn
     rw[h5] at hH
     have hwn:=tz c (tD (g.take i) l w) v.author
     have hca:c[v.author.toNat]?=some (c.getD v.author.toNat 0):=by rw[aq,am (by omega)];rfl
     have hcb:=hcm _ (br hca)
     generalize c.getD v.author.toNat 0=cx at *
     generalize lF c (tD (g.take i) l w)=wx at *
     (repeat' first|refine st ?_|refine sa fun xe hxe=>?_|refine sb (fun hq=>?_) fun hq=>?_|refine cr (hL) ?_|refine cr (hH) ?_|exact aa)
     exact⟨i+1,⟨by omega,fun _=>rfl⟩,by omega,by rw[hsn,hwn];rfl⟩
  ·rw[bp (by omega)]
   (repeat' first|refine st ?_|refine sa fun xe hxe=>?_|refine sb (fun hq=>?_) fun hq=>?_|refine cr (hL) ?_|exact aa)
   exact⟨by rw[he],rfl⟩
theorem L4 {n i:Nat}(h:i<n):((List.range n).map some)[i]?=some (some i):=by
 rw[be,qh h];rfl
theorem Ag {α:Type}(l:List α):l=[]∨∃l' x,l=l'++[x]:=by
 rcases List.eq_nil_or_concat l with h|⟨l',x,h⟩
 ·exact .inl h
 ·exact .inr ⟨l',x,by rw[h,List.concat_eq_append]⟩
theorem vJ (c:List Int)(g:List Vtx)(hg:GraOK c g)(hl:g.length≤1000000)(sa:Nat)(u:Vtx)(hst:g[sa]?=some u):ag Tryz.prog 156 [.ptr 4 0,.hpo 0 (some sa)] (gR c (da g)) (.lst (.int .i64) (pst g u)) (gR c (da g)):=by
 have hn:=(fj g).1
 have hsl:=(aR.1 hst).1
 have h7:=(ay.1 hg.com).2
 obtain⟨p0,hp0⟩:=lQ hst
 have hrl:((List.range (da g).nodes.length).map some).length=g.length:=by simp[hn]
 have h0:=M1 hg hst
 have hre0:(List.replicate g.length false)[sa]?=some false:=by rw[mt,if_pos hsl]
 have hr0l:(List.replicate g.length false).length=g.length:=by simp
 have ht0:((List.replicate g.length false).set sa true)[sa]?=some true:=by rw[dm,if_pos rfl,if_pos (by omega)]
 have hix:0≤(sa:Int)∧(sa:Int)<((List.replicate ((((List.range (da g).nodes.length).map some).length:Int).toNat) false).length:Nat):=by rw[hrl,iu];omega
 have hfit:kZ 1 (((((List.range (da g).nodes.length).map some).length:Nat):Int).toNat):=by rw[hrl];unfold kZ;omega
 have hre2:(List.replicate ((((List.range (da g).nodes.length).map some).length:Int).toNat) false)[sa]?=some false:=by rw[hrl];exact hre0
 refine ab eN Tryz.func156 rfl rfl true 2 6 rfl rfl rfl rfl fun K hK hb1 hb2=>?_;simp only[ae,enc,Nat.reduceAdd]
 clear hb1 hb2
 (repeat' first|refine jR ?_|refine sa fun xe hxe=>?_|refine sb (fun hq=>?_) fun hq=>?_|exact aa)
 refine ah hK [] [5,6] (fun x:List Bool×List (Option Nat)=>⟨[(5,.ref 6),(6,.ref 7)],HO c (da g) (.row 4 .bool x.1)++[(7,.row 178 (.hp 0) x.2)],8⟩) (fun x=>Dfs g u g.length 0 x.1 x.2∧x.1[sa]?=some true∧x.2.length+x.1.count false≤g.length+1) (fun x=>2*x.1.count false+x.2.length) ((List.replicate g.length false).set sa true,[some sa]) ⟨h0,ht0,?_⟩ (by simp only[hrl];rfl) ?_
 ·have:=u4 hre0
  simp only[List.count_replicate_self] at this
  simp only[mw]
  omega
 rintro⟨re,wt⟩ ⟨hD,hS,hc⟩
 dsimp only at hD hS hc⊢
 have hrel:=hD.len
 rcases Ag wt with rfl|⟨wt,o,rfl⟩
 ·have hfin:=Di hrel fun i v hi=>Hw hg hst hD hS hi
  have hnil:¬(0:Int)<((([]:List (Ty.hp 0).den).length:Nat):Int):=by simp
  (repeat' first|refine jR ?_|refine sa fun xe hxe=>?_|refine sb (fun hq=>?_) fun hq=>?_|exact aa)
  refine ah hK [] [10,70,71,72] (fun i:Nat=>⟨[(10,.ref 6),(70,.ref 7),(71,.int .i64 g.length),(72,.int .i64 (i:Int))],HO c (da g) (.row 3 (.int .i64) (o4 re i))++[(7,.row 4 .bool re)],8⟩) (fun i=>i≤g.length) (fun i=>g.length-i) 0 (aW _) (by simp only[hrel];rfl) ?_
  intro i hi
  have htl:=Dh re i
  by_cases hlt:i<g.length
  ·have hxe:re[i]?=some re[i]:=am (by omega)
   have hsn:=Av hxe
   cases hb:re[i] with
   |false=>
    rw[hb] at hxe hsn
    rw[if_neg (by simp)] at hsn
    (repeat' first|refine jR ?_|refine sa fun xe hxe=>?_|refine sb (fun hq=>?_) fun hq=>?_|exact aa)
    exact⟨i+1,by omega,by omega,by rw[hsn];rfl⟩
   |true=>
    rw[hb] at hxe hsn
    rw[if_pos rfl] at hsn
    (repeat' first|refine jR ?_|refine sa fun xe hxe=>?_|refine sb (fun hq=>?_) fun hq=>?_|exact aa)
    exact⟨i+1,by omega,by omega,by rw[hsn];rfl⟩
  ·obtain rfl:i=g.length:=by omega
   (repeat' first|refine jR ?_|refine sa fun xe hxe=>?_|refine sb (fun hq=>?_) fun hq=>?_|exact aa)
   exact⟨by rw[hfin],rfl⟩
 ·obtain⟨q,rfl,hq⟩:=hD.wtg o (by simp)
  have hql:q<g.length:=by have:=(aR.1 hq).1;omega
  obtain⟨v,hv⟩:∃v,g[q]?=some v:=⟨_,am hql⟩
  obtain⟨p,hp,hrow⟩:=xx hg hv
  have hD2:=Hx hD (eg (ax _))
  have hwl:(wt++[some q]).length=wt.length+1:=by simp
  have hwx:(wt++[some q])[((((wt++[some q]).length:Nat):Int)-1).toNat]?=some (some q):=by
   rw[hwl,show (((wt.length+1:Nat):Int)-1).toNat=wt.length by omega];simp
  have hwt:(wt++[some q]).take ((((wt++[some q]).length:Nat):Int)-1).toNat=wt:=by
   rw[hwl,show (((wt.length+1:Nat):Int)-1).toNat=wt.length by omega];simp
  have hwc:wt.length+1+re.count false≤g.length+1:=by rw[hwl] at hc;exact hc
  clear hD hc
  generalize wt++[some q]=W at *
  have hcut:lM W none (some (.int .i64 ((W.length:Int)-1))) 0 ((W.length:Int)-1).toNat=wt:=hwt
  rcases hrow with⟨hpn,rfl⟩|⟨r,rfl,hrow⟩
  ·have hnx:=w7 hD2 hv (by rw[hpn];simp)
   (repeat' first|refine jR ?_|refine sa fun xe hxe=>?_|refine sb (fun hq=>?_) fun hq=>?_|exact aa)
   refine ah hK [] [5,6,44,45,46] (fun j:Nat=>⟨[(5,.ref 6),(6,.ref 7),(44,.hro 1 none),(45,.int .i64 0),(46,.int .i64 (j:Int))],HO c (da g) (.row 4 .bool re)++[(7,.row 178 (.hp 0) wt)],8⟩) (fun j=>j=0) (fun j=>j) 0 rfl (by simp only[hcut];rfl) ?_
   rintro j rfl
   (repeat' first|refine jR ?_|refine sa fun xe hxe=>?_|refine sb (fun hq=>?_) fun hq=>?_|exact aa)
   exact⟨(re,wt),⟨hnx,hS,by dsimp only;omega⟩,by dsimp only;omega,rfl⟩
  ·have hpxl:(pix g v).length=v.parents.length:=by simp[pix]
   have hpl:=eD (bG (hg.vtx v (br hv))).2.2.1
   (repeat' first|refine jR ?_|refine sa fun xe hxe=>?_|refine sb (fun hq=>?_) fun hq=>?_|exact aa)
   refine ah hK [] [5,6,44,45,46] (fun y:Nat×List Bool×List (Option Nat)=>⟨[(5,.ref 6),(6,.ref 7),(44,.hro 1 (some r)),(45,.int .i64 (pix g v).length),(46,.int .i64 (y.1:Int))],HO c (da g) (.row 4 .bool y.2.1)++[(7,.row 178 (.hp 0) y.2.2)],8⟩) (fun y=>Dfs g u q y.1 y.2.1 y.2.2∧y.2.1[sa]?=some true∧y.1≤(pix g v).length∧y.2.2.length+y.2.1.count false=wt.length+re.count false∧y.2.1.count false≤re.count false) (fun y=>(pix g v).length-y.1) (0,re,wt) ⟨hD2,hS,aW _,rfl,ax _⟩ (by simp only[hcut];rfl) ?_
   rintro⟨j,rf,wf⟩ ⟨hJ,hJs,hj,hjc,hjm⟩
   dsimp only at hJ hJs hj hjc hjm⊢
   have hrl2:=hJ.len
   by_cases hlt:j<(pix g v).length
   ·have hxe:(pix g v)[j]?=some (pix g v)[j]:=am hlt
    obtain⟨q',x',e',hv',-,-⟩:=oK hg (br hv) (br hxe)
    rw[e'] at hxe
    obtain⟨p',hp'⟩:=lQ hv'
    have hq'l:=(aR.1 hv').1
    have hbq:rf[q']?=some rf[q']:=am (by omega)
    have hix2:0≤(q':Int)∧(q':Int)<(rf.length:Nat):=by omega
    cases hb:rf[q'] with
    |true=>
     rw[hb] at hbq
     have hsk:=D9 hJ hv hxe hbq
     (repeat' first|refine jR ?_|refine sa fun xe hxe=>?_|refine sb (fun hq=>?_) fun hq=>?_|exact aa)
     exact⟨(j+1,rf,wf),⟨hsk,hJs,by dsimp only;omega,hjc,hjm⟩,by dsimp only;omega,rfl⟩
    |false=>
     rw[hb] at hbq
     have hpu:=D8 hg hJ hv hxe hbq
     have hcs:=u4 hbq
     (repeat' first|refine jR ?_|refine sa fun xe hxe=>?_|refine sb (fun hq=>?_) fun hq=>?_|exact aa)
     exact⟨(j+1,rf.set q' true,wf++[some q']),⟨hpu,ge hJs,by dsimp only;omega,by dsimp only;rw[aP];simp only[bF,dz];omega,by dsimp only;omega⟩,by dsimp only;omega,rfl⟩
   ·have hnx:=w7 hJ hv (by omega)
    (repeat' first|refine jR ?_|refine sa fun xe hxe=>?_|refine sb (fun hq=>?_) fun hq=>?_|exact aa)
    exact⟨(rf,wf),⟨hnx,hJs,by dsimp only;omega⟩,by dsimp only;omega,rfl⟩
end Go.Proofs.YtpefhoohfkeflacGreatDoor.Am
namespace Go.Proofs.YtpefhoohfkeflacGreatDoor.Am
open Go Go.RowKit Go.Extern.Stop Go.Stop Go.Extern
set_option maxRecDepth 10000
theorem Oi (v:Value)(w:World):(Extern.ReflectliteType.typeOf #[.iface 259 v]).run Tryz.prog w= .ok (.iface 249 (.agg #[.pointer (some ⟨9,259,none⟩)])) w:=by kernel_rfl
theorem Oe (w : World) : ((Extern.ReflectliteType.method fun t => do Rtype.noPackHeld "Comparable" t; (fun a => Value.bool a.comparable) <$> typeInfo t) #[.agg #[.pointer (some ⟨9, 259, none⟩)]]).run Tryz.prog w = .ok (.bool true) w := by kernel_rfl
theorem Og (v : Value) (w : World) : (Go.method 392 249 v "Comparable").run Tryz.prog w = .ok (257, v) w := by kernel_rfl
theorem Of:(Tryz.prog.info? 259).map (·.comparable)=some true:=by kernel_rfl
theorem Oh:(Tryz.prog.info? 281).map (·.size)=some 1:=by kernel_rfl
theorem Od (a:Addr)(w:World):
  Calls Tryz.prog 201 #[.iface 259 (.pointer (some a)),.iface 259 (.pointer (some a))] w fun e w'=>e= .returned (.bool true)∧w'=w:=by
 obtain⟨i,hi,hcmp⟩:=bm.1 Of
 obtain⟨j,hj,hjs⟩:=bm.1 Oh
 have h8:=@run_callFunc_extern Tryz.prog 215 _ Extern.ReflectliteType.typeOf Tryz.func215 (by kernel_rfl) (by kernel_rfl) (by kernel_rfl) (by kernel_rfl)
 have h32 := @run_callFunc_extern Tryz.prog 257 _ (Extern.ReflectliteType.method fun t => do Rtype.noPackHeld "Comparable" t; pure (.bool (← typeInfo t).comparable)) Tryz.func257 (by kernel_rfl) (by kernel_rfl) (by kernel_rfl) (by kernel_rfl)
 have tT:=Oi
 have cT:=Oe
 have mR:=Og
 have heq:=run_eql_iface_ptr_same (P:=Tryz.prog) w a Tryz.underlying107 Tryz.underlying259 hi hcmp hj
 go_enter Tryz.func201,Tryz.ntmps201
 go_wp2
 refine wp_loop_rounds 1 ?_
 rw[rounds_succ]
 go_wp2
 go_ret
 exact⟨rfl,rfl⟩
theorem Oc (b:Addr)(w:World):
  Calls Tryz.prog 201 #[.nilIface,.iface 259 (.pointer (some b))] w fun e w'=>e= .returned (.bool false)∧w'=w:=by
 have hn:=run_eql_iface_nil_left (P:=Tryz.prog) w 259 (.pointer (some b)) Tryz.underlying107
 go_enter Tryz.func201,Tryz.ntmps201
 go_wp2
 go_ret
 exact⟨rfl,rfl⟩
theorem EN {ρ:Id→Pl}{L:Id→Prop}{ok:Nat→Prop}{w:World}{v:Value}(h:C ρ L ok w (.gv 6) v):∃ad,v= .iface 259 (.pointer (some ad))∧w.cell? ⟨6,0,none⟩=some (.iface 259 (.pointer (some ad))):=by
 obtain⟨x,ad,rfl,hx,-,hc⟩:=h.gv_inv
 obtain rfl:(259,107)=x:=ar hx
 exact⟨ad,rfl,hc⟩
theorem yE {vs:Array Value}(h:2=vs.size):∃v1 v2,vs= #[v1,v2]:=by
 refine⟨vs[0],vs[1],Array.ext (by simp[←h]) fun i h1 h2=>?_⟩
 have:i=0∨i=1:=by simp at h2;omega
 rcases this with rfl|rfl<;>rfl
theorem Ku:ag Tryz.prog 201 [.gv 6,.gv 6] [] (.bool true) []:=by
 unfold ag
 refine iU ⟨_,Tryz.func201,rfl,rfl⟩ fun w ok ρ vs hl hc=>?_
 obtain⟨v1,v2,rfl⟩:=yE hl
 obtain⟨ad,rfl,c1⟩:=EN (hc 0 (by decide))
 obtain⟨ad',e2,c2⟩:=EN (hc 1 (by decide))
 rw[c1] at c2
 have e:v2= .iface 259 (.pointer (some ad)):=e2.trans (ar c2).symm
 subst e
 refine(Od ad w).mono ?_
 rintro e w' ⟨rfl,rfl⟩
 exact⟨_,rfl,⟨rfl,rfl,rfl,ax _,fun _ _=>rfl⟩,fun ok'=>.bool _⟩
theorem Kt:ag Tryz.prog 201 [.nili,.gv 6] [] (.bool false) []:=by
 unfold ag
 refine iU ⟨_,Tryz.func201,rfl,rfl⟩ fun w ok ρ vs hl hc=>?_
 obtain⟨v1,v2,rfl⟩:=yE hl
 have e1:C ρ (fun _=>False) ok w .nili v1:=hc 0 (by decide)
 obtain rfl:=e1.nili_inv
 obtain⟨ad',e2,-⟩:=EN (hc 1 (by decide))
 have e2:v2= .iface 259 (.pointer (some ad')):=e2
 subst e2
 refine(Oc ad' w).mono ?_
 rintro e w' ⟨rfl,rfl⟩
 exact⟨_,rfl,⟨rfl,rfl,rfl,ax _,fun _ _=>rfl⟩,fun ok'=>.bool _⟩

end Go.Proofs.YtpefhoohfkeflacGreatDoor.Am
