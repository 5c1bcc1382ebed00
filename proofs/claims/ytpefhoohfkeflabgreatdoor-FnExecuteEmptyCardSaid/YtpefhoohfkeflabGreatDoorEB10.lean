/- Runs: an event is applied, under the lock. Runs: what has been applied is handed back. Runs: what an event does to a run. Runs: impl's WorldDo and WorldPlay. Runs: quiet rounds, copies, whole events: what the specification gives. What is drawn for new runs; the law FnWorldNew. What is drawn for runs. What is drawn for runs: whole runs, runs that are often invalid. Certified proposals: the law FnWorldCertified. Runs: the reference's WorldDo and WorldPlay; what is drawn for them. Runs: quorums meet; what is held of valid runs. Runs: what quiet periods lead to (plain laws): nothing is left to del -/
import Derived.LaidEql
import Derived.Stop.Asserts
import Derived.RowKitTokens
import Derived.Test.YtpefhoohfkeflabGreatDoorEB9
set_option linter.unusedSimpArgs false
set_option linter.unusedVariables false
set_option maxHeartbeats 1000000
namespace Go.Proofs.YtpefhoohfkeflabGreatDoor.Am
open Go
attribute [local irreducible] Mk ci Ari fF mI jx ca cR iW fv At ag
set_option maxRecDepth 10000
theorem BC (c l:List Int)(b:Int)(tabs:List (List (Option Vtx)))(xss:List (Option (List Int)))(ms:List PplM):ag Tryz.prog 169 [.ptr 4 0] (rX 0 c l b tabs xss ms) (.tup []) (rX 1 c l b tabs xss ms):=by
 have h:=CN FH (h:=rX 0 c l b tabs xss ms) (T:=97) (cs:=[.int .u32 0,.lst (.int .i64) c,.lst (.int .i64) l,.int .i64 b,.ref 5,.ref 6]) rfl
 exact h
set_option maxHeartbeats 1000000 in
theorem fp (c l:List Int)(b:Int)(tabs tabs':List (List (Option Vtx)))(xss xss':List (Option (List Int)))(ms ms':List PplM)(e:Evt)(r:Bool)(ht:tabs.length≤tabs'.length)(hx:xss.length≤xss'.length)
  (h1:e.kind=1→ag Tryz.prog 171 [.ptr 4 0,.int .i64 e.a,.int .i64 e.b] (rX 1 c l b tabs xss ms) (.bool r) (rX 1 c l b tabs' xss' ms'))
  (h2:e.kind=2→ag Tryz.prog 172 [.ptr 4 0,.int .i64 e.a,.int .i64 e.b] (rX 1 c l b tabs xss ms) (.bool r) (rX 1 c l b tabs' xss' ms'))
  (h3:e.kind=3→ag Tryz.prog 173 [.ptr 4 0,.int .i64 e.a,.int .i64 e.b] (rX 1 c l b tabs xss ms) (.bool r) (rX 1 c l b tabs' xss' ms'))
  (h4:e.kind=4→ag Tryz.prog 174 [.ptr 4 0,cZ e.v] (rX 1 c l b tabs xss ms) (.bool r) (rX 1 c l b tabs' xss' ms'))
  (h5:e.kind=5→ag Tryz.prog 175 [.ptr 4 0,.int .i64 e.b] (rX 1 c l b tabs xss ms) (.bool r) (rX 1 c l b tabs' xss' ms'))
  (h6:¬(1≤e.kind∧e.kind≤5)→r=false∧tabs'=tabs∧xss'=xss∧ms'=ms):ag Tryz.prog 147 [.ptr 4 0,tY e] (rX 0 c l b tabs xss ms) (.bool r) (rX 0 c l b tabs' xss' ms'):=by
 refine A5 FH bS Tryz.func147 rfl rfl false 3 7 rfl rfl rfl rfl (by exact Live.of_look (av (i:=0) (x:=.var 97 [.int .i32 0,.int .u32 0,.lst (.int .i64) c,.lst (.int .i64) l,.int .i64 b,.ref 5,.ref 6]) rfl rfl)) fun K hK hK4 hb1 hb2=>?_;simp only[ae,enc,Nat.reduceAdd]
 clear hb1 hb2
 have hL:=BC c l b tabs xss ms
 have hF0:bA (VB.fvari 143 217 (.ob .vtx) tabs)≤bA (VB.fvari 143 217 (.ob .vtx) tabs'):=ht
 have hF1:bA (VB.frowx 3 (.int .i64) xss)≤bA (VB.frowx 3 (.int .i64) xss'):=hx
 refine qZ ?_
 (repeat' first|refine cg ?_|refine sa fun xe hxe=>?_|refine sb (fun hq=>?_) fun hq=>?_|exact aa)
 refine⟨rfl,qZ ?_⟩
 (repeat' first|refine cg ?_|refine sa fun xe hxe=>?_|refine sb (fun hq=>?_) fun hq=>?_|refine cr (hL) ?_|exact aa)
 refine⟨rfl,wT ?_⟩
 refine AV bS (l:=[_,_,_]) (od:=_) rfl ⟨rfl,rfl,rfl⟩ (by decide) ?_
 (conv=>whnf)
 (repeat' first|refine cg ?_|refine sa fun xe hxe=>?_|refine sb (fun hq=>?_) fun hq=>?_|exact aa)
 refine⟨rfl,hK4,rfl,?_⟩
 by_cases c1:e.kind=1
 ·have h:=h1 c1
  (repeat' first|refine cg ?_|refine sa fun xe hxe=>?_|refine sb (fun hq=>?_) fun hq=>?_|refine cr (h) ?_|exact aa)
  exact⟨rfl,rfl⟩
 ·by_cases c2:e.kind=2
  ·have h:=h2 c2
   (repeat' first|refine cg ?_|refine sa fun xe hxe=>?_|refine sb (fun hq=>?_) fun hq=>?_|refine cr (h) ?_|exact aa)
   exact⟨rfl,rfl⟩
  ·by_cases c3:e.kind=3
   ·have h:=h3 c3
    (repeat' first|refine cg ?_|refine sa fun xe hxe=>?_|refine sb (fun hq=>?_) fun hq=>?_|refine cr (h) ?_|exact aa)
    exact⟨rfl,rfl⟩
   ·by_cases c4:e.kind=4
    ·have h:=h4 c4
     (repeat' first|refine cg ?_|refine sa fun xe hxe=>?_|refine sb (fun hq=>?_) fun hq=>?_|refine cr (h) ?_|exact aa)
     exact⟨rfl,rfl⟩
    ·by_cases c5:e.kind=5
     ·have h:=h5 c5
      (repeat' first|refine cg ?_|refine sa fun xe hxe=>?_|refine sb (fun hq=>?_) fun hq=>?_|refine cr (h) ?_|exact aa)
      exact⟨rfl,rfl⟩
     ·obtain⟨rfl,rfl,rfl,rfl⟩:=h6 (by omega)
      (repeat' first|refine cg ?_|refine sa fun xe hxe=>?_|refine sb (fun hq=>?_) fun hq=>?_|exact aa)
      exact⟨rfl,rfl⟩
theorem K9 (ps:List Ppl)(xss:List (Option (List Int)))(ms:List PplM)(hR:Rel ps xss ms)(hv:∀p∈ps,p.v.parents.length≤1000000∧p.members.length≤1000000)(hl:ps.length≤1000000):ag Tryz.prog 53 [.ref 4] [(1,.frowx 3 (.int .i64) xss),(4,.row 123 (.pplm 1) ms)] (.lst .ppl ps) [(1,.frowx 3 (.int .i64) xss),(4,.row 123 (.pplm 1) ms)]:=by
 refine ab aj Tryz.func53 rfl rfl true 1 5 rfl rfl rfl rfl fun K hK hb1 hb2=>?_;simp only[ae,enc,Nat.reduceAdd]
 clear hb1 hb2
 have hpl:=hR.len
 (repeat' first|refine st ?_|refine sa fun xe hxe=>?_|refine sb (fun hq=>?_) fun hq=>?_|exact aa)
 refine ah hK [] [3,9,10,11] (fun i:Nat=>⟨[(3,.ref 5),(9,.ref 4),(10,.int .i64 ps.length),(11,.int .i64 (i:Int))],[(1,.frowx 3 (.int .i64) xss),(4,.row 123 (.pplm 1) ms),(5,.row 123 .ppl (ps.take i++(List.replicate ps.length p0).drop i))],6⟩) (fun i=>i≤ps.length) (fun i=>ps.length-i) 0 (by simp) (by simp only[hpl];simp;rfl) ?_
 intro i hi
 by_cases hlt:i<ps.length
 ·have hxe:ps[i]?=some ps[i]:=am hlt
  have hg:i<(ps.take i++(List.replicate ps.length p0).drop i).length:=tb _ _ (by simp;omega) (by simpa using hlt)
  have hs:(ps.take i++(List.replicate ps.length p0).drop i).set i ps[i]=ps.take (i+1)++(List.replicate ps.length p0).drop (i+1):=by
   rw[tx _ _ _ (by simp;omega) (by simpa using hlt),b9 hlt]
  obtain⟨v1,v2⟩:=hv _ (be hlt)
  obtain⟨j,hx1,hx2⟩:=hR.get i _ hxe
  generalize hrow:ps.take i++(List.replicate ps.length p0).drop i=row at *
  generalize ps[i]=p at *
  (repeat' first|refine st ?_|refine sa fun xe hxe=>?_|refine sb (fun hq=>?_) fun hq=>?_|refine cr (oC _ v1) ?_|exact aa)
  refine⟨i+1,by omega,by omega,?_⟩
  rw[←hs]
  rfl
 ·obtain rfl:i=ps.length:=by omega
  (repeat' first|refine st ?_|refine sa fun xe hxe=>?_|refine sb (fun hq=>?_) fun hq=>?_|exact aa)
  simp
def wD (s:Int)(c l:List Int)(b:Int)(tabs:List (List (Option Vtx)))(xss:List (Option (List Int)))(ms:List PplM)(ps:List Ppl):Nat→VSt
 |0=>⟨[(2,.ptr 7 0),(3,.ptr 8 0),(30,.ref 5),(31,.int .i64 tabs.length),(32,.int .i64 0)],rX s c l b tabs xss ms++[(7,VB.var 36 [.nils,.nils,.int .i64 0,.nils,.nils]),(8,VB.var 36 [.lst (.int .i64) c,.ref 9,.int .i64 b,.nils,.lst .ppl ps]),(9,VB.row 3 (.int .i64) l)],10⟩
 |i+1=>⟨[(2,.ptr 7 0),(3,.ptr 8 0),(30,.ref 5),(31,.int .i64 tabs.length),(32,.int .i64 ((i+1:Nat):Int))],rX s c l b tabs xss ms++[(7,VB.var 36 [.nils,.nils,.int .i64 0,.nils,.nils]),(8,VB.var 36 [.lst (.int .i64) c,.ref 9,.int .i64 b,.ref 10,.lst .ppl ps]),(9,VB.row 3 (.int .i64) l),(10,VB.row 82 (.lst .vtx) ((tabs.take (i+1)).map fQ))],11⟩
set_option maxHeartbeats 1000000 in
theorem IA (s:Int)(c l:List Int)(b:Int)(tabs:List (List (Option Vtx)))(xss:List (Option (List Int)))(ms:List PplM)(ps:List Ppl)(hR:Rel ps xss ms)(hc:c≠[])(hcl:c.length≤1000000)(hll:l.length≤1000000)(ht:∀t∈tabs,t.length=217∧∀v,some v∈t→v.parents.length≤1000000)(htl:tabs.length≤7)(htl1:1≤tabs.length)
  (hv:∀p∈ps,p.v.parents.length≤1000000∧p.members.length≤1000000) (hpn:ps.length≤1000000):ag Tryz.prog 26 [.ptr 4 0] (rX s c l b tabs xss ms) (bd ⟨c,l,b,tabs.map fQ,ps⟩) (rX s c l b tabs xss ms):=by
 have hC:=E8 c hc hcl
 have hP:=K9 ps xss ms hR hv hpn
 have hrl:((List.range tabs.length).map some).length=tabs.length:=by simp
 refine ab aj Tryz.func26 rfl rfl true 3 7 rfl rfl rfl rfl fun K hK hb1 hb2=>?_;simp only[ae,enc,Nat.reduceAdd]
 clear hb1 hb2
 (repeat' first|refine st ?_|refine sa fun xe hxe=>?_|refine sb (fun hq=>?_) fun hq=>?_|refine cr (hC) ?_|refine co (hP) ?_|exact aa)
 refine ah hK [] [2,3,30,31,32] (wD s c l b tabs xss ms ps) (fun i=>i≤tabs.length) (fun i=>tabs.length-i) 0 (by simp) (by simp only[hrl];(conv=>whnf);rfl) ?_
 intro i hi
 by_cases hlt:i<tabs.length
 ·have hxe:tabs[i]?=some tabs[i]:=am hlt
  have hsn:tabs.take (i+1)=tabs.take i++[tabs[i]]:=b9 hlt
  obtain⟨t1,t2⟩:=ht _ (be hlt)
  have hxv:((List.range tabs.length).map some)[i]?=some (some i):=by rw[bf,qo hlt];rfl
  have hV:=Fs tabs i _ hxe t1 t2
  generalize tabs[i]=tab at *
  cases i with
  |zero=>
   have hst:wD s c l b tabs xss ms ps (0+1)=⟨[(2,.ptr 7 0),(3,.ptr 8 0),(30,.ref 5),(31,.int .i64 tabs.length),(32,.int .i64 ((0+1:Nat):Int))],rX s c l b tabs xss ms++[(7,VB.var 36 [.nils,.nils,.int .i64 0,.nils,.nils]),(8,VB.var 36 [.lst (.int .i64) c,.ref 9,.int .i64 b,.ref 10,.lst .ppl ps]),(9,VB.row 3 (.int .i64) l),(10,VB.row 82 (.lst .vtx) [fQ tab])],11⟩:=by
    rw[wD,hsn]
    rfl
   have hs0:wD s c l b tabs xss ms ps 0=⟨[(2,.ptr 7 0),(3,.ptr 8 0),(30,.ref 5),(31,.int .i64 tabs.length),(32,.int .i64 0)],rX s c l b tabs xss ms++[(7,VB.var 36 [.nils,.nils,.int .i64 0,.nils,.nils]),(8,VB.var 36 [.lst (.int .i64) c,.ref 9,.int .i64 b,.nils,.lst .ppl ps]),(9,VB.row 3 (.int .i64) l)],10⟩:=rfl
   have hx0:((List.range tabs.length).map some)[(0:Int).toNat]?=some (some 0):=hxv
   rw[hs0]
   (repeat' first|refine st ?_|refine sa fun xe hxe=>?_|refine sb (fun hq=>?_) fun hq=>?_|refine co (hV) ?_|exact aa)
   refine⟨0+1,by omega,by omega,?_⟩
   rw[hst]
   rfl
  |succ i=>
   have hfl:((tabs.take (i+1)).map fQ).length=i+1:=by rw[aA,bP];omega
   have hst:wD s c l b tabs xss ms ps (i+1+1)=⟨[(2,.ptr 7 0),(3,.ptr 8 0),(30,.ref 5),(31,.int .i64 tabs.length),(32,.int .i64 ((i+1+1:Nat):Int))],rX s c l b tabs xss ms++[(7,VB.var 36 [.nils,.nils,.int .i64 0,.nils,.nils]),(8,VB.var 36 [.lst (.int .i64) c,.ref 9,.int .i64 b,.ref 10,.lst .ppl ps]),(9,VB.row 3 (.int .i64) l),(10,VB.row 82 (.lst .vtx) ((tabs.take (i+1)).map fQ++[fQ tab]))],11⟩:=by
    rw[wD,hsn,cf]
    rfl
   have hs0:wD s c l b tabs xss ms ps (i+1)=⟨[(2,.ptr 7 0),(3,.ptr 8 0),(30,.ref 5),(31,.int .i64 tabs.length),(32,.int .i64 ((i+1:Nat):Int))],rX s c l b tabs xss ms++[(7,VB.var 36 [.nils,.nils,.int .i64 0,.nils,.nils]),(8,VB.var 36 [.lst (.int .i64) c,.ref 9,.int .i64 b,.ref 10,.lst .ppl ps]),(9,VB.row 3 (.int .i64) l),(10,VB.row 82 (.lst .vtx) ((tabs.take (i+1)).map fQ))],11⟩:=rfl
   rw[hs0]
   clear hs0
   generalize (tabs.take (i+1)).map fQ=ts at *
   (repeat' first|refine st ?_|refine sa fun xe hxe=>?_|refine sb (fun hq=>?_) fun hq=>?_|refine co (hV) ?_|exact aa)
   refine⟨i+1+1,by omega,by omega,?_⟩
   rw[hst]
   rfl
 ·cases i with
  |zero=>omega
  |succ i=>
   have hs0:wD s c l b tabs xss ms ps (i+1)=⟨[(2,.ptr 7 0),(3,.ptr 8 0),(30,.ref 5),(31,.int .i64 tabs.length),(32,.int .i64 ((i+1:Nat):Int))],rX s c l b tabs xss ms++[(7,VB.var 36 [.nils,.nils,.int .i64 0,.nils,.nils]),(8,VB.var 36 [.lst (.int .i64) c,.ref 9,.int .i64 b,.ref 10,.lst .ppl ps]),(9,VB.row 3 (.int .i64) l),(10,VB.row 82 (.lst .vtx) (tabs.map fQ))],11⟩:=by
    rw[wD,bp (by omega)]
   rw[hs0]
   clear hs0
   (repeat' first|refine st ?_|refine sa fun xe hxe=>?_|refine sb (fun hq=>?_) fun hq=>?_|exact aa)
   exact⟨rfl,rfl⟩
theorem vT (s:Int)(w:Wrl)(xss:List (Option (List Int)))(ms:List PplM)(hw:WOK w)(hR:Rel w.props xss ms):ag Tryz.prog 26 [.ptr 4 0] (rW s w xss ms) (bd w) (rW s w xss ms):=by
 have h:=(ig.2 hw)
 rw[nu,az] at h
 have h:=h.1
 obtain⟨h1,h2,h3,h4,h5,h6⟩:=nR h
 have h7:=(ay.1 h1).2
 have hll:=(bR.1 h2).2
 have hps:=rF h
 have hpl:=m8 h4
 have hne:w.com≠[]:=fun h=>by rw[h] at h7;simp at h7
 have hc:=IA s w.com w.lead w.bad (w.views.map aT) xss ms w.props hR hne (by omega) (by omega) (fun t ht=>by
  obtain⟨g,hg,rfl⟩:=aB.1 ht
  refine⟨d6 g,fun v hv=>?_⟩
  have:=(oS h g hg v (yL hv)).2
  omega) (by rw[aA];omega) (by rw[aA];omega) (fun p hp=>by have:=(hps p hp).2.2.2;omega) (by omega)
 rw[uR h] at hc
 exact hc
theorem NL (c l:List Int)(b:Int)(tabs:List (List (Option Vtx)))(ps:List Ppl):∀k:Id,look (toH (rX 0 c l b tabs (ps.map fun p=>some p.members) (ua ps))) k=look (toH (rB c l b tabs ps)) k:=by
 rintro⟨k1,k2⟩
 rw[ap,ap]
 by_cases e:k1=1
 ·subst e
  simp only[look,if_true,bc,VB.blks]
  simp[bf,rowX]
  rfl
 ·simp[look,e]
theorem Fm (w:Wrl)(hl:∀g∈w.views,g.length≤2000000)(hp:gq w=true):ag Tryz.prog 25 [bd w] [] (.tup [.ptr 4 0,.bool (kT w)]) (rW 0 w (w.props.map fun p=>some p.members) (ua w.props)):=by
 have h:=BF w hl
 simp only[Hn,Hm,hp,if_true] at h
 rw[F8 hp] at h
 have e:kT w=pL w.bad w.props w.views:=by rw[nu,hp,d9]
 rw[e]
 unfold ag at h⊢
 exact h.out (NL _ _ _ _ _)
def wN (w:Wrl)(e:Evt):Bool:=(decide (e.kind=1) && jH w e.a e.b)||(decide (e.kind=4) && jz w e.v)
def tS (w:Wrl)(e:Evt):Bool:=if e.kind=2 then jI w e.a e.b && !(aW w e.b).members.contains e.a else if e.kind=3 then fe w e.a e.b else if e.kind=5 then lQ w e.b && !(aW w e.b).members.contains w.bad else false
set_option maxHeartbeats 1000000 in
theorem Ie (c l:List Int)(b:Int)(tabs:List (List (Option Vtx)))(xss xss':List (Option (List Int)))(ms ms':List PplM)(e:Evt)(hx:xss.length≤xss'.length)(hk:e.kind=1∨e.kind=4)
  (h1:e.kind=1→ag Tryz.prog 171 [.ptr 4 0,.int .i64 e.a,.int .i64 e.b] (rX 1 c l b tabs xss ms) (.bool true) (NM 1 c l b tabs xss' ms'))
  (h4:e.kind=4→ag Tryz.prog 174 [.ptr 4 0,cZ e.v] (rX 1 c l b tabs xss ms) (.bool true) (NM 1 c l b tabs xss' ms')):ag Tryz.prog 147 [.ptr 4 0,tY e] (rX 0 c l b tabs xss ms) (.bool true) (NM 0 c l b tabs xss' ms'):=by
 refine A5 FH bS Tryz.func147 rfl rfl false 3 7 rfl rfl rfl rfl (by exact Live.of_look (av (i:=0) (x:=.var 97 [.int .i32 0,.int .u32 0,.lst (.int .i64) c,.lst (.int .i64) l,.int .i64 b,.ref 5,.ref 6]) rfl rfl)) fun K hK hK4 hb1 hb2=>?_;simp only[ae,enc,Nat.reduceAdd]
 clear hb1 hb2
 have hL:=BC c l b tabs xss ms
 have hF1:bA (VB.frowx 3 (.int .i64) xss)≤bA (VB.frowx 3 (.int .i64) xss'):=hx
 refine qZ ?_
 (repeat' first|refine cg ?_|refine sa fun xe hxe=>?_|refine sb (fun hq=>?_) fun hq=>?_|exact aa)
 refine⟨rfl,qZ ?_⟩
 (repeat' first|refine cg ?_|refine sa fun xe hxe=>?_|refine sb (fun hq=>?_) fun hq=>?_|refine cr (hL) ?_|exact aa)
 refine⟨rfl,wT ?_⟩
 refine AV bS (l:=[_,_,_]) (od:=_) rfl ⟨rfl,rfl,rfl⟩ (by decide) ?_
 (conv=>whnf)
 (repeat' first|refine cg ?_|refine sa fun xe hxe=>?_|refine sb (fun hq=>?_) fun hq=>?_|exact aa)
 refine⟨rfl,hK4,rfl,?_⟩
 by_cases c1:e.kind=1
 ·have h:=h1 c1
  (repeat' first|refine cg ?_|refine sa fun xe hxe=>?_|refine sb (fun hq=>?_) fun hq=>?_|refine cr (h) ?_|exact aa)
  exact⟨rfl,rfl⟩
 ·have c4:e.kind=4:=hk.resolve_left c1
  have h:=h4 c4
  (repeat' first|refine cg ?_|refine sa fun xe hxe=>?_|refine sb (fun hq=>?_) fun hq=>?_|refine cr (h) ?_|exact aa)
  exact⟨rfl,rfl⟩
theorem Bz (w:Wrl)(xss:List (Option (List Int)))(ms:List PplM)(hw:WOK w)(hR:Rel w.props xss ms)(e:Evt)(h:wN w e=true):∃x:List (Option (List Int))×List PplM,(Rel (jw w e).props x.1 x.2∧xss.length≤x.1.length)∧ag Tryz.prog 147 [.ptr 4 0,tY e] (rW 0 w xss ms) (.bool true) (Oc 0 (jw w e) x.1 x.2):=by
 have key:∃v,jw w e=tR w v∧(e.kind=1→jH w e.a e.b=true∧v=ir w e.a e.b)∧(e.kind=4→jz w e.v=true∧v=e.v)∧(e.kind=1∨e.kind=4):=by
  unfold wN at h
  by_cases c1:e.kind=1
  ·have hp:jH w e.a e.b=true:=by simpa[c1] using h
   exact⟨ir w e.a e.b,by unfold jw eJ;rw[if_pos c1,if_pos hp],fun _=>⟨hp,rfl⟩,fun c=>by omega,.inl c1⟩
  ·have hp:e.kind=4∧jz w e.v=true:=by simpa[c1] using h
   exact⟨e.v,by unfold jw iN;rw[if_neg c1,if_neg (by omega),if_neg (by omega),if_pos hp.1,if_pos hp.2],fun c=>absurd c c1,fun _=>⟨hp.2,rfl⟩,.inr hp.1⟩
 obtain⟨v,k1,k2,k3,k4⟩:=key
 rw[k1]
 refine⟨(xss++[some []],ms++[(⟨v,some xss.length⟩:PplM)]),⟨hR.add v,by simp⟩,?_⟩
 refine Ie w.com w.lead w.bad (w.views.map aT) xss _ ms _ e (by simp) k4 (fun c=>?_) fun c=>?_
 ·obtain⟨a1,rfl⟩:=k2 c
  have hC:=Fo 1 w xss ms hw hR e.a e.b
  rw[a1] at hC
  exact hC
 ·obtain⟨a1,rfl⟩:=k3 c
  have hC:=Ff 1 w xss ms hw hR e.v
  rw[a1] at hC
  exact hC
theorem Dy {w:Wrl}(hw:WOK w){m:Int}(hm:0≤m∧m<w.com.length){v:Vtx}(hv:ji v)(hn:eg (view w m) v.round v.author=false):(w.views.set m.toNat (gG (view w m) v)).map aT=AG w m v:=by
 have hG:=(kS hw hm).2
 rw[List.map_set,GV (fun u hu=>dm hw.com (hG.vtx u hu)) hv hn]
theorem vM (w:Wrl)(xss:List (Option (List Int)))(ms:List PplM)(hw:WOK w)(hR:Rel w.props xss ms)(e:Evt)(h:wN w e=false):∃x:List (Option (List Int))×List PplM,(Rel (jw w e).props x.1 x.2∧xss.length≤x.1.length)∧ag Tryz.prog 147 [.ptr 4 0,tY e] (rW 0 w xss ms) (.bool (tS w e)) (rW 0 (jw w e) x.1 x.2):=by
 have no:∀{k:Int},e.kind=k→∀{j:Int},k≠j→¬e.kind=j:=fun h1 _ h2 h3=>h2 (h1.symm.trans h3)
 by_cases c1:e.kind=1
 ·have hp:jH w e.a e.b=false:=by simpa[wN,c1] using h
  have hd:jw w e=w:=by unfold jw eJ;rw[if_pos c1,hp];rfl
  have hg:tS w e=false:=by unfold tS;rw[if_neg (by omega),if_neg (by omega),if_neg (by omega)]
  have hC:=Fo 1 w xss ms hw hR e.a e.b
  rw[hp] at hC
  rw[hd,hg]
  exact⟨(xss,ms),⟨hR,ax _⟩,fp w.com w.lead w.bad _ _ xss xss ms ms e false (ax _) (ax _) (fun _=>hC) (fun c=>by omega) (fun c=>by omega) (fun c=>by omega) (fun c=>by omega) (fun c=>by omega)⟩
 by_cases c2:e.kind=2
 ·have hd:jw w e=eS w e.a e.b:=by unfold jw;rw[if_neg c1,if_pos c2]
  have hg:tS w e=(jI w e.a e.b && !(aW w e.b).members.contains e.a):=by unfold tS;rw[if_pos c2]
  rw[hd,hg]
  cases hi:ru w e.b
  ·have hv:jI w e.a e.b=false:=by unfold jI;rw[hi];simp
   have hs:eS w e.a e.b=w:=by unfold eS;rw[hv];rfl
   rw[hs,hv]
   exact⟨(xss,ms),⟨hR,ax _⟩,fp w.com w.lead w.bad _ _ xss xss ms ms e false (ax _) (ax _) (fun c=>absurd c c1) (fun _=>Iy 1 w xss ms hw hR e.a e.b hi) (fun c=>by omega) (fun c=>by omega) (fun c=>by omega) (fun c=>by omega)⟩
  ·obtain⟨n,hn,hn1,hn2⟩:=pR hi
   obtain⟨j,hj1,hj2⟩:=hR.get n _ hn2
   have hC:=Ls 1 w xss ms hw hR e.a n j (by rw[←hn];exact hi) (by rw[←hn];exact hj1) (by rw[←hn];exact hj2)
   rw[←hn] at hC
   have ha:=jo (pV hw (br hn2)).2
   cases hf:(jI w e.a e.b && !(aW w e.b).members.contains e.a)
   ·have hs:eS w e.a e.b=w:=by
     unfold eS
     split
     ·rename_i hv
      rw[hv,d9] at hf
      exact xa hi ha (by simpa using hf)
     ·rfl
    rw[hf] at hC
    rw[hs]
    exact⟨(xss,ms),⟨hR,ax _⟩,fp w.com w.lead w.bad _ _ xss xss ms ms e false (ax _) (ax _) (fun c=>absurd c c1) (fun _=>hC) (fun c=>by omega) (fun c=>by omega) (fun c=>by omega) (fun c=>by omega)⟩
   ·have hv:jI w e.a e.b=true:=(az .. ▸hf:_∧_).1
    have hs:eS w e.a e.b=ml w e.b e.a:=by unfold eS;rw[hv];rfl
    rw[hf] at hC
    rw[hs]
    have hR2:=hR.cast hj1 (fZ (aW w e.b).members e.a)
    refine⟨(_,_),?_,fp w.com w.lead w.bad _ _ xss _ ms _ e true (ax _) (by simp) (fun c=>absurd c c1) (fun _=>hC) (fun c=>by omega) (fun c=>by omega) (fun c=>by omega) (fun c=>by omega)⟩
    refine⟨?_,by simp⟩
    have:e.b.toNat=n:=by omega
    show Rel (w.props.set e.b.toNat _) _ _
    rw[this]
    exact hR2
 by_cases c3:e.kind=3
 ·have hd:jw w e=dD w e.a e.b:=by unfold jw;rw[if_neg c1,if_neg c2,if_pos c3]
  have hg:tS w e=fe w e.a e.b:=by unfold tS;rw[if_neg c2,if_pos c3]
  rw[hd,hg]
  cases hi:ru w e.b
  ·have hv:fe w e.a e.b=false:=by unfold fe;rw[hi];simp
   have hs:dD w e.a e.b=w:=by unfold dD;rw[hv];rfl
   rw[hs,hv]
   exact⟨(xss,ms),⟨hR,ax _⟩,fp w.com w.lead w.bad _ _ xss xss ms ms e false (ax _) (ax _) (fun c=>absurd c c1) (fun c=>absurd c c2) (fun _=>Ik 1 w xss ms hw hR e.a e.b hi) (fun c=>by omega) (fun c=>by omega) (fun c=>by omega)⟩
  ·obtain⟨n,hn,hn1,hn2⟩:=pR hi
   obtain⟨j,hj1,hj2⟩:=hR.get n _ hn2
   have hC:=La 1 w xss ms hw hR e.a n j (by rw[←hn];exact hi) (by rw[←hn];exact hj1) (by rw[←hn];exact hj2)
   rw[←hn] at hC
   cases hf:fe w e.a e.b
   ·have hs:dD w e.a e.b=w:=by unfold dD;rw[hf];rfl
    rw[hf] at hC
    rw[hs]
    exact⟨(xss,ms),⟨hR,ax _⟩,fp w.com w.lead w.bad _ _ xss xss ms ms e false (ax _) (ax _) (fun c=>absurd c c1) (fun c=>absurd c c2) (fun _=>hC) (fun c=>by omega) (fun c=>by omega) (fun c=>by omega)⟩
   ·have hs:dD w e.a e.b={w with views:=w.views.set e.a.toNat (gG (view w e.a) (aW w e.b).v)}:=by unfold dD;rw[hf];rfl
    rw[hf] at hC
    rw[hs]
    unfold fe at hf
    simp only[az,fO] at hf
    have hvw:=Dy hw (fg.1 hf.1).1 (dm hw.com (pV hw (br hn2)).1) hf.2.2.2.1
    refine⟨(xss,ms),⟨hR,ax _⟩,?_⟩
    show ag _ _ _ _ _ (rX 0 w.com w.lead w.bad ((w.views.set e.a.toNat (gG (view w e.a) (aW w e.b).v)).map aT) xss ms)
    rw[hvw]
    exact fp w.com w.lead w.bad _ (AG w e.a (aW w e.b).v) xss xss ms ms e true (by simp[AG]) (ax _) (fun c=>absurd c c1) (fun c=>absurd c c2) (fun _=>hC) (fun c=>by omega) (fun c=>by omega) (fun c=>by omega)
 by_cases c4:e.kind=4
 ·have hp:jz w e.v=false:=by simpa[wN,c4] using h
  have hd:jw w e=w:=by unfold jw iN;rw[if_neg c1,if_neg c2,if_neg c3,if_pos c4,hp];rfl
  have hg:tS w e=false:=by unfold tS;rw[if_neg (by omega),if_neg (by omega),if_neg (by omega)]
  have hC:=Ff 1 w xss ms hw hR e.v
  rw[hp] at hC
  rw[hd,hg]
  exact⟨(xss,ms),⟨hR,ax _⟩,fp w.com w.lead w.bad _ _ xss xss ms ms e false (ax _) (ax _) (fun c=>absurd c c1) (fun c=>absurd c c2) (fun c=>absurd c c3) (fun _=>hC) (fun c=>by omega) (fun c=>by omega)⟩
 by_cases c5:e.kind=5
 ·have hd:jw w e=iM w e.b:=by unfold jw;rw[if_neg c1,if_neg c2,if_neg c3,if_neg c4,if_pos c5]
  have hg:tS w e=(lQ w e.b && !(aW w e.b).members.contains w.bad):=by unfold tS;rw[if_neg c2,if_neg c3,if_pos c5]
  rw[hd,hg]
  cases hi:ru w e.b
  ·have hv:lQ w e.b=false:=by unfold lQ;rw[hi];simp
   have hs:iM w e.b=w:=by unfold iM;rw[hv];rfl
   rw[hs,hv]
   exact⟨(xss,ms),⟨hR,ax _⟩,fp w.com w.lead w.bad _ _ xss xss ms ms e false (ax _) (ax _) (fun c=>absurd c c1) (fun c=>absurd c c2) (fun c=>absurd c c3) (fun c=>absurd c c4) (fun _=>If 1 w xss ms hw hR e.b hi) (fun c=>by omega)⟩
  ·obtain⟨n,hn,hn1,hn2⟩:=pR hi
   obtain⟨j,hj1,hj2⟩:=hR.get n _ hn2
   have hC:=K3 1 w xss ms hw hR n j (by rw[←hn];exact hi) (by rw[←hn];exact hj1) (by rw[←hn];exact hj2)
   rw[←hn] at hC
   have ha:=jo (pV hw (br hn2)).2
   cases hf:(lQ w e.b && !(aW w e.b).members.contains w.bad)
   ·have hs:iM w e.b=w:=by
     unfold iM
     split
     ·rename_i hv
      rw[hv,d9] at hf
      exact xa hi ha (by simpa using hf)
     ·rfl
    rw[hf] at hC
    rw[hs]
    exact⟨(xss,ms),⟨hR,ax _⟩,fp w.com w.lead w.bad _ _ xss xss ms ms e false (ax _) (ax _) (fun c=>absurd c c1) (fun c=>absurd c c2) (fun c=>absurd c c3) (fun c=>absurd c c4) (fun _=>hC) (fun c=>by omega)⟩
   ·have hv:lQ w e.b=true:=(az .. ▸hf:_∧_).1
    have hs:iM w e.b=ml w e.b w.bad:=by unfold iM;rw[hv];rfl
    rw[hf] at hC
    rw[hs]
    have hR2:=hR.cast hj1 (fZ (aW w e.b).members w.bad)
    refine⟨(_,_),?_,fp w.com w.lead w.bad _ _ xss _ ms _ e true (ax _) (by simp) (fun c=>absurd c c1) (fun c=>absurd c c2) (fun c=>absurd c c3) (fun c=>absurd c c4) (fun _=>hC) (fun c=>by omega)⟩
    refine⟨?_,by simp⟩
    have:e.b.toNat=n:=by omega
    show Rel (w.props.set e.b.toNat _) _ _
    rw[this]
    exact hR2
 have hd:jw w e=w:=by unfold jw;rw[if_neg c1,if_neg c2,if_neg c3,if_neg c4,if_neg c5]
 have hg:tS w e=false:=by unfold tS;rw[if_neg c2,if_neg c3,if_neg c5]
 rw[hd,hg]
 exact⟨(xss,ms),⟨hR,ax _⟩,fp w.com w.lead w.bad _ _ xss xss ms ms e false (ax _) (ax _) (fun c=>absurd c c1) (fun c=>absurd c c2) (fun c=>absurd c c3) (fun c=>absurd c c4) (fun c=>absurd c c5) (fun _=>⟨rfl,rfl,rfl,rfl⟩)⟩
theorem Gu (w:Wrl)(e:Evt):(jw w e).com=w.com∧(jw w e).lead=w.lead∧(jw w e).bad=w.bad∧(jw w e).views.length=w.views.length:=by
 simp only[jw,eJ,eS,dD,iN,iM,ml,tR]
 (repeat' split)<;>simp
theorem HZ {w:Wrl}{e:Evt}:bA (VB.fvari 143 217 (.ob .vtx) (w.views.map aT))≤bA (VB.fvari 143 217 (.ob .vtx) ((jw w e).views.map aT)):=by
 show (w.views.map aT).length≤((jw w e).views.map aT).length
 rw[aA,aA,(Gu w e).2.2.2]
 exact ax _
theorem Fl (w:Wrl)(hl:∀g∈w.views,g.length≤2000000)(hp:gq w=false):ag Tryz.prog 25 [bd w] [] (.tup [.nilp,.bool false]) []:=by
 have h:=BF w hl
 simp only[Hn,Hm,hp,eY,if_false] at h
 exact h
theorem Ns (w:Wrl)(e:Evt)(hl:∀g∈w.views,g.length≤2000000):ag Tryz.prog 111 [bd w,tY e] [] (if kT w then bd (jw w e) else JL) []:=by
 have he:=nu w
 refine ab bS Tryz.func111 rfl rfl true 0 4 rfl rfl rfl rfl fun K hK hb1 hb2=>?_;simp only[ae,enc,Nat.reduceAdd]
 clear hb1 hb2
 cases hp:gq w
 ·have hO:=Fl w hl hp
  rw[hp,iD] at he
  (repeat' first|refine cg ?_|refine sa fun xe hxe=>?_|refine sb (fun hq=>?_) fun hq=>?_|refine cr (hO) ?_|exact aa)
  rw[he]
  exact⟨rfl,rfl⟩
 ·have hO:=Fm w hl hp
  cases hs:kT w
  ·rw[hs] at hO
   (repeat' first|refine cg ?_|refine sa fun xe hxe=>?_|refine sb (fun hq=>?_) fun hq=>?_|refine cr (hO) ?_|exact aa)
   exact⟨rfl,rfl⟩
  ·rw[hs] at hO
   have hw:=ig.1 hs
   cases ha:wN w e
   ·obtain⟨⟨xs,ms⟩,⟨hR,hx⟩,hC⟩:=vM w _ _ hw (Mg _) e ha
    have hW:=vT 0 (jw w e) xs ms (Ap hw e) hR
    have hF0:=HZ (w:=w) (e:=e)
    have hF1:bA (VB.frowx 3 (.int .i64) (w.props.map fun p=>some p.members))≤bA (VB.frowx 3 (.int .i64) xs):=hx
    (repeat' first|refine cg ?_|refine sa fun xe hxe=>?_|refine sb (fun hq=>?_) fun hq=>?_|refine cr (hO) ?_|refine cr (hC) ?_|refine cr (hW) ?_|exact aa)
    exact⟨rfl,rfl⟩
   ·obtain⟨⟨xs,ms⟩,⟨hR,hx⟩,hC⟩:=Bz w _ _ hw (Mg _) e ha
    have hW:=vT 0 (jw w e) xs ms (Ap hw e) hR
    have hF0:=HZ (w:=w) (e:=e)
    have hF1:bA (VB.frowx 3 (.int .i64) (w.props.map fun p=>some p.members))≤bA (VB.frowx 3 (.int .i64) xs):=hx
    (repeat' first|refine cg ?_|refine sa fun xe hxe=>?_|refine sb (fun hq=>?_) fun hq=>?_|refine cr (hO) ?_|refine cr (hC) ?_|refine cr (hW) ?_|exact aa)
    exact⟨rfl,rfl⟩
abbrev rP (c l:List Int)(b:Int)(tabs:List (List (Option Vtx)))(xss:List (Option (List Int)))(ms:List PplM):VH:=[(0,.fvari 143 217 (.ob .vtx) tabs),(1,.frowx 3 (.int .i64) xss),(4,.var 36 [.nils,.nils,.int .i64 0,.nils,.nils]),(5,.var 97 [.int .i32 0,.int .u32 0,.lst (.int .i64) c,.lst (.int .i64) l,.int .i64 b,.ref 6,.ref 7]),(6,.row 98 (.hp 0) ((List.range tabs.length).map some)),(7,.row 123 (.pplm 1) ms)]
theorem ss {w:Wrl}(h:WOK w)(i:Int):∀n,fN w≤fN (dN w i n)
 |0=>ax _
 |n+1=>by
  have h1:=ss h i n
  rcases lw (lU h i n) n i with⟨-,h2⟩|⟨-,h2⟩
  ·simp only[dN,h2];exact h1
  ·simp only[dN,h2];omega
theorem uH {w:Wrl}(h:WOK w):∀k,fN w≤fN (ce w k)
 |0=>ax _
 |k+1=>cu (uH h k) (ss (kG h k) _ _)
theorem Dn {w:Wrl}(h:WOK w){m i:Int}(hb:fe w m i=true):(dD w m i).views[m.toNat]?=some (gG (view w m) (aW w i).v):=by
 have hg:good w m=true:=by
  simp only[fe,az] at hb
  exact hb.1
 have hl:=(h.view hg).2.2
 simp[dD,hb,dp,hl]
abbrev JJ:List V:=[.nils,.nils,.int .i64 0,.nils,.nils]
set_option maxHeartbeats 1000000 in
theorem Az (w:Wrl)(h:WOK w):ag Tryz.prog 88 [bd w] [] (bd (cV w)) []:=by
 refine ab aj Tryz.func88 rfl rfl true 0 4 rfl rfl rfl rfl fun K hK hb1 hb2=>?_;simp only[ae,enc,Nat.reduceAdd]
 clear hb1 hb2
 (repeat' first|refine st ?_|refine sa fun xe hxe=>?_|refine sb (fun hq=>?_) fun hq=>?_|exact aa)
 refine ah hK [] [1,2,3] (fun x:Bool×Wrl=>⟨[(1,.ptr 4 0),(2,.ptr 5 0),(3,.bool x.1)],[(4,.var 36 (bd x.2).cells),(5,.var 36 JJ)],6⟩) (fun x=>WOK x.2∧(x.1=true→cV x.2=cV w)∧(x.1=false→x.2=cV w)) (fun x=>if x.1=true then 1520-fN x.2 else 0) (true,w) ⟨h,fun _=>rfl,fun h=>by cases h⟩ rfl ?_
 rintro⟨b,x⟩ ⟨hx,hbt,hbf⟩
 dsimp only at hx hbt hbf⊢
 cases b
 ·have:=hbf rfl
  rw[←this]
  (repeat' first|refine st ?_|refine sa fun xe hxe=>?_|refine sb (fun hq=>?_) fun hq=>?_|exact aa)
  exact⟨rfl,rfl⟩
 have hbt:=hbt rfl
 have hx7:=hx.len
 have hxp:=hx.plen
 (repeat' first|refine st ?_|refine sa fun xe hxe=>?_|refine sb (fun hq=>?_) fun hq=>?_|exact aa)
 refine ah hK [] [1,2,3,4] (fun k:Nat=>⟨[(1,.ptr 4 0),(2,.ptr 5 0),(3,.bool (decide (fN x<fN (ce x k)))),(4,.int .i64 (k:Int))],[(4,.var 36 (bd (ce x k)).cells),(5,.var 36 JJ)],6⟩) (fun k=>k≤x.props.length) (fun k=>x.props.length-k) 0 (by omega) (by simp only[ce,Nat.lt_irrefl,decide_false];rfl) ?_
 intro k hk
 have hpc:=eI x k
 have hpo:=kG hx k
 have hple:=uH hx k
 have hps:ce x (k+1)=dN (ce x k) k (ce x k).com.length:=rfl
 by_cases hlt:k<x.props.length
 ·generalize ce x k=y at *
  have hyl:y.props.length=x.props.length:=by rw[hpc.2]
  have hyc:y.com.length=x.com.length:=by rw[hpc.1]
  (repeat' first|refine st ?_|refine sa fun xe hxe=>?_|refine sb (fun hq=>?_) fun hq=>?_|exact aa)
  refine ah hK [] [1,2,3,4,5] (fun m:Nat=>⟨[(1,.ptr 4 0),(2,.ptr 5 0),(3,.bool (decide (fN x<fN (dN y k m)))),(4,.int .i64 (k:Int)),(5,.int .i64 (m:Int))],[(4,.var 36 (bd (dN y k m)).cells),(5,.var 36 JJ)],6⟩) (fun m=>m≤y.com.length) (fun m=>y.com.length-m) 0 (by omega) rfl ?_
  intro m hm
  have hdc:=kk y k m
  have hdo:=lU hpo k m
  have hdle:=ss hpo k m
  have hds:dN y k (m+1)=dD (dN y k m) m k:=rfl
  by_cases hml:m<y.com.length
  ·generalize dN y k m=z at *
   have hzc:z.com.length=y.com.length:=by rw[hdc.1]
   have hzv:=hdo.vlen
   have hS:=As z m k hdo
   have hxv:z.views[m]?=some (view z m):=by
    unfold view
    rw[pm,ar,am (show m<z.views.length by omega)]
    rfl
   have hgl:=hdo.vl _ (br hxv)
   have hso:=rN hdo m k
   have hsc:=oZ z m k
   have hsv:=hso.vlen
   rcases lw hdo m k with⟨e1,e2⟩|⟨e1,e2⟩
   ·rw[e2] at hS hds
    generalize view z m=g at *
    by_cases hmo:fN x<fN z
    ·rw[decide_eq_true hmo]
     (repeat' first|refine st ?_|refine sa fun xe hxe=>?_|refine sb (fun hq=>?_) fun hq=>?_|refine cr (hS) ?_|exact aa)
     exact⟨m+1,by omega,by omega,by rw[hds,decide_eq_true hmo];rfl⟩
    ·rw[decide_eq_false hmo]
     (repeat' first|refine st ?_|refine sa fun xe hxe=>?_|refine sb (fun hq=>?_) fun hq=>?_|refine cr (hS) ?_|exact aa)
     exact⟨m+1,by omega,by omega,by rw[hds,decide_eq_false hmo,decide_eq_false (Int.lt_irrefl _)];rfl⟩
   ·have hxv2:=Dn hdo e1
    rw[pm] at hxv2
    have hil:=xK (view z m) (aW z k).v
    have hmo2:fN x<fN (dD z m k):=by omega
    generalize dD z m k=z2 at *
    generalize gG (view z m) (aW z k).v=g2 at *
    generalize view z m=g at *
    by_cases hmo:fN x<fN z
    ·rw[decide_eq_true hmo]
     (repeat' first|refine st ?_|refine sa fun xe hxe=>?_|refine sb (fun hq=>?_) fun hq=>?_|refine cr (hS) ?_|exact aa)
     exact⟨m+1,by omega,by omega,by rw[hds,decide_eq_true hmo2];rfl⟩
    ·rw[decide_eq_false hmo]
     have hlt2:(g.length:Int)<g2.length:=by omega
     (repeat' first|refine st ?_|refine sa fun xe hxe=>?_|refine sb (fun hq=>?_) fun hq=>?_|refine cr (hS) ?_|exact aa)
     exact⟨m+1,by omega,by omega,by rw[hds,decide_eq_true hmo2,decide_eq_true hlt2];rfl⟩
  ·obtain rfl:m=y.com.length:=by omega
   rw[←hps]
   have hc2:(ce x (k+1)).com.length=y.com.length:=by rw[hps,hdc.1]
   generalize hz:ce x (k+1)=z at *
   (repeat' first|refine st ?_|refine sa fun xe hxe=>?_|refine sb (fun hq=>?_) fun hq=>?_|exact aa)
   exact⟨k+1,by omega,by omega,by rw[hz];rfl⟩
 ·obtain rfl:k=x.props.length:=by omega
  have hpa:ce x x.props.length=pass x:=rfl
  rw[hpa] at hpc hpo hple
  rw[hpa]
  clear hpa hps
  have hyl:(pass x).props.length=x.props.length:=by rw[hpc.2]
  have htl:=ww hpo
  have htx:=ww hx
  have e1:fN x<fN (pass x)→cV x=cV (pass x):=fun hh=>by
   rw[cV]
   exact dif_pos ⟨hh,htl⟩
  have e2:¬fN x<fN (pass x)→cV x=pass x:=fun hh=>by
   rw[cV]
   exact dif_neg fun h9=>hh h9.1
  generalize pass x=z at *
  (repeat' first|refine st ?_|refine sa fun xe hxe=>?_|refine sb (fun hq=>?_) fun hq=>?_|exact aa)
  refine⟨(decide (fN x<fN z),z),⟨hpo,fun hh=>?_,fun hh=>?_⟩,?_,rfl⟩
  ·rw[←hbt,e1 (of_decide_eq_true hh)]
  ·rw[←hbt,e2 (of_decide_eq_false hh)]
  ·dsimp only
   split
   ·rename_i hh
    have:=of_decide_eq_true hh
    simp only[if_true]
    omega
   ·simp only[if_true]
    omega
theorem GT (w:Wrl)(h:WOK w):ag Tryz.prog 89 [bd w] [] (bd (iw w)) []:=by
 have h7:=h.len
 have hpl:=h.plen
 refine ab aj Tryz.func89 rfl rfl true 0 4 rfl rfl rfl rfl fun K hK hb1 hb2=>?_;simp only[ae,enc,Nat.reduceAdd]
 clear hb1 hb2
 (repeat' first|refine st ?_|refine sa fun xe hxe=>?_|refine sb (fun hq=>?_) fun hq=>?_|exact aa)
 refine ah hK [] [1,2,3] (fun k:Nat=>⟨[(1,.ptr 4 0),(2,.ptr 5 0),(3,.int .i64 (k:Int))],[(4,.var 36 (bd (dd w k)).cells),(5,.var 36 JJ)],6⟩) (fun k=>k≤w.props.length) (fun k=>w.props.length-k) 0 (by omega) rfl ?_
 intro k hk
 have hpc:=fE w k
 have hpo:=gT h k
 have hps:dd w (k+1)=iP (dd w k) k (dd w k).com.length:=rfl
 by_cases hlt:k<w.props.length
 ·generalize dd w k=y at *
  have hyc:y.com.length=w.com.length:=by rw[hpc.1]
  (repeat' first|refine st ?_|refine sa fun xe hxe=>?_|refine sb (fun hq=>?_) fun hq=>?_|exact aa)
  refine ah hK [] [1,2,3,4] (fun m:Nat=>⟨[(1,.ptr 4 0),(2,.ptr 5 0),(3,.int .i64 (k:Int)),(4,.int .i64 (m:Int))],[(4,.var 36 (bd (iP y k m)).cells),(5,.var 36 JJ)],6⟩) (fun m=>m≤y.com.length) (fun m=>y.com.length-m) 0 (by omega) rfl ?_
  intro m hm
  have hdc:=np y k m
  have hdo:=tG hpo k m
  have hds:iP y k (m+1)=eS (iP y k m) m k:=rfl
  by_cases hml:m<y.com.length
  ·generalize iP y k m=z at *
   have hzc:z.com.length=y.com.length:=by rw[hdc.1]
   have hS:=AE z m k hdo
   generalize eS z m k=z2 at *
   (repeat' first|refine st ?_|refine sa fun xe hxe=>?_|refine sb (fun hq=>?_) fun hq=>?_|refine cr (hS) ?_|exact aa)
   exact⟨m+1,by omega,by omega,by rw[hds];rfl⟩
  ·obtain rfl:m=y.com.length:=by omega
   rw[←hps]
   have hc2:(dd w (k+1)).com.length=y.com.length:=by rw[hps,hdc.1]
   generalize hz:dd w (k+1)=z at *
   (repeat' first|refine st ?_|refine sa fun xe hxe=>?_|refine sb (fun hq=>?_) fun hq=>?_|exact aa)
   exact⟨k+1,by omega,by omega,by rw[hz];rfl⟩
 ·obtain rfl:k=w.props.length:=by omega
  have hpa:dd w w.props.length=iw w:=rfl
  rw[hpa] at hpc hpo
  rw[hpa]
  clear hpa hps
  have hyl:=hpc.2
  generalize iw w=z at *
  (repeat' first|refine st ?_|refine sa fun xe hxe=>?_|refine sb (fun hq=>?_) fun hq=>?_|exact aa)
  exact⟨rfl,rfl⟩
theorem Mq (w:Wrl)(h:WOK w):ag Tryz.prog 90 [bd w] [] (bd w) []:=by
 have h7:=h.len
 have hvl:=h.vlen
 have hpl:=h.plen
 have hll:=(bR.1 h.lead).2
 refine ab aj Tryz.func90 rfl rfl true 0 4 rfl rfl rfl rfl fun K hK hb1 hb2=>?_;simp only[ae,enc,Nat.reduceAdd]
 clear hb1 hb2
 (repeat' first|refine st ?_|refine sa fun xe hxe=>?_|refine sb (fun hq=>?_) fun hq=>?_|exact aa)
 refine ah hK [] [1,2,3,4] (fun i:Nat=>⟨[(1,.ptr 4 0),(2,.ptr 5 0),(3,.ptr 6 0),(4,.int .i64 (i:Int))],[(4,.var 36 (bd w).cells),(5,.var 36 JJ),(6,.var 36 [.ref 7,.ref 8,.int .i64 w.bad,.ref 9,.ref 10]),(7,.row 3 (.int .i64) w.com),(8,.row 3 (.int .i64) w.lead),(9,.row 82 (.lst .vtx) (w.views.take i)),(10,.row 123 .ppl [])],11⟩) (fun i=>i≤w.views.length) (fun i=>w.views.length-i) 0 (by omega) rfl ?_
 intro i hi
 by_cases hlt:i<w.views.length
 ·have hxe:w.views[i]?=some w.views[i]:=am hlt
  have hsn:w.views.take (i+1)=w.views.take i++[w.views[i]]:=b9 hlt
  have hgm:=be hlt
  have hC:=Cg w.views[i] (by have:=h.vl _ hgm;omega) fun v hv=>by have:=h.par (h.vv _ hgm v hv);omega
  have hl1:(w.views.take i).length=i:=by rw[bP];omega
  generalize w.views[i]=g at *
  generalize w.views.take i=l at *
  (repeat' first|refine st ?_|refine sa fun xe hxe=>?_|refine sb (fun hq=>?_) fun hq=>?_|refine cr (hC) ?_|exact aa)
  exact⟨i+1,by omega,by omega,by rw[hsn];rfl⟩
 rw[bp (by omega)]
 (repeat' first|refine st ?_|refine sa fun xe hxe=>?_|refine sb (fun hq=>?_) fun hq=>?_|exact aa)
 refine ah hK [] [1,2,3,5] (fun i:Nat=>⟨[(1,.ptr 4 0),(2,.ptr 5 0),(3,.ptr 6 0),(5,.int .i64 (i:Int))],[(4,.var 36 (bd w).cells),(5,.var 36 JJ),(6,.var 36 [.ref 7,.ref 8,.int .i64 w.bad,.ref 9,.ref 10]),(7,.row 3 (.int .i64) w.com),(8,.row 3 (.int .i64) w.lead),(9,.row 82 (.lst .vtx) w.views),(10,.row 123 .ppl (w.props.take i))],11⟩) (fun i=>i≤w.props.length) (fun i=>w.props.length-i) 0 (by omega) rfl ?_
 intro k hk
 by_cases hkl:k<w.props.length
 ·have hxe:w.props[k]?=some w.props[k]:=am hkl
  have hsn:w.props.take (k+1)=w.props.take k++[w.props[k]]:=b9 hkl
  have hpm:=be hkl
  have hC:=qb w.props[k].v (by have:=h.par (h.pv _ hpm).1;omega)
  have hm:=h.mem _ hpm
  have hl1:(w.props.take k).length=k:=by rw[bP];omega
  generalize w.props[k]=p at *
  generalize w.props.take k=l at *
  (repeat' first|refine st ?_|refine sa fun xe hxe=>?_|refine sb (fun hq=>?_) fun hq=>?_|refine cr (hC) ?_|exact aa)
  exact⟨k+1,by omega,by omega,by rw[hsn];rfl⟩
 ·(repeat' first|refine st ?_|refine sa fun xe hxe=>?_|refine sb (fun hq=>?_) fun hq=>?_|exact aa)
  rw[bp (by omega)]
  exact⟨rfl,rfl⟩
theorem JM {w:Wrl}(h:WOK w):w.com.length≤2000000:=by have:=h.len;omega
theorem Ji (w:Wrl)(r:Nat)(h:WOK w)(hr:r≤12):ag Tryz.prog 42 [bd w,.int .i64 (r:Int)] [] (bd (aU w r)) []:=by
 have hV:=N0 w (JM h)
 rw[ig.2 h] at hV
 have hI:=nv (r:Int) 0 12
 rw[aC.2 (by omega)] at hI
 have hS:=Az w h
 refine ab aj Tryz.func42 rfl rfl true 0 4 rfl rfl rfl rfl fun K hK hb1 hb2=>?_;simp only[ae,enc,Nat.reduceAdd]
 clear hb1 hb2
 (repeat' first|refine st ?_|refine sa fun xe hxe=>?_|refine sb (fun hq=>?_) fun hq=>?_|refine cr (hV) ?_|refine cr (hI) ?_|refine cr (hS) ?_|exact aa)
 refine ah hK [] [1,2,4,5] (fun k:Nat=>⟨[(1,.int .i64 (r:Int)),(2,.ptr 4 0),(4,.ptr 5 0),(5,.int .i64 (k:Int))],[(4,.var 36 (bd (aU w k)).cells),(5,.var 36 JJ)],6⟩) (fun k=>k≤r) (fun k=>r-k) 0 (by omega) rfl ?_
 intro k hk
 have hco:=iX h k
 have hcs:aU w (k+1)=fk (dk (fk (aU w k)) k (fk (aU w k)).com.length):=rfl
 by_cases hlt:k<r
 ·generalize aU w k=x at *
  have h1:=GT x hco
  have h2:=Az (iw x) (gT hco _)
  have hr1:cV (iw x)=fk x:=rfl
  have hro:=oY hco
  rw[hr1] at h2
  generalize iw x=x1 at *
  generalize fk x=y at *
  (repeat' first|refine st ?_|refine sa fun xe hxe=>?_|refine sb (fun hq=>?_) fun hq=>?_|refine cr (h1) ?_|refine cr (h2) ?_|exact aa)
  refine ah hK [] [1,2,4,5,6] (fun m:Nat=>⟨[(1,.int .i64 (r:Int)),(2,.ptr 4 0),(4,.ptr 5 0),(5,.int .i64 (k:Int)),(6,.int .i64 (m:Int))],[(4,.var 36 (bd (dk y k m)).cells),(5,.var 36 JJ)],6⟩) (fun m=>m≤y.com.length) (fun m=>y.com.length-m) 0 (by omega) rfl ?_
  intro m hm
  have hdc:=m9 y k m
  have hdo:=oT hro k m
  have hyl:=hro.len
  have hds:dk y k (m+1)=eJ (dk y k m) m (7*k+m):=rfl
  by_cases hml:m<y.com.length
  ·generalize dk y k m=z at *
   have hzc:z.com.length=y.com.length:=by rw[hdc]
   have hP:=Ay z m (7*k+m) hdo
   generalize eJ z m (7*k+m)=z2 at *
   (repeat' first|refine st ?_|refine sa fun xe hxe=>?_|refine sb (fun hq=>?_) fun hq=>?_|refine cr (hP) ?_|exact aa)
   exact⟨m+1,by omega,by omega,by rw[hds];rfl⟩
  ·obtain rfl:m=y.com.length:=by omega
   have hzc:(dk y k y.com.length).com.length=y.com.length:=by rw[hdc]
   generalize dk y k y.com.length=z at *
   have h3:=GT z hdo
   have h4:=Az (iw z) (gT hdo _)
   have hr2:cV (iw z)=fk z:=rfl
   rw[hr2] at h4
   generalize iw z=z1 at *
   generalize fk z=z2 at *
   (repeat' first|refine st ?_|refine sa fun xe hxe=>?_|refine sb (fun hq=>?_) fun hq=>?_|refine cr (h3) ?_|refine cr (h4) ?_|exact aa)
   exact⟨k+1,by omega,by omega,by rw[hcs];rfl⟩
 ·obtain rfl:k=r:=by omega
  have hC:=Mq (aU w k) hco
  generalize aU w k=x at *
  (repeat' first|refine st ?_|refine sa fun xe hxe=>?_|refine sb (fun hq=>?_) fun hq=>?_|refine cr (hC) ?_|exact aa)
  exact⟨rfl,rfl⟩
theorem OU {c:List Int}(h:∀x∈c,0≤x∧x≤255):Gf (c.take 2000) 0:=⟨by rw[bP];omega,fun x hx=>h x (jX hx),by omega,by omega⟩
def e0:Evt:=⟨0,0,0,v0⟩
end Go.Proofs.YtpefhoohfkeflabGreatDoor.Am
namespace Go.Proofs.YtpefhoohfkeflabGreatDoor.Am
open Go
def still (w:Wrl):Prop:=∀m i:Nat,m<w.com.length→i<w.props.length→fe w m i=false
theorem JB {w:Wrl}(hw:WOK w){m:Nat}(hm:m<w.com.length):w.views.getD m []∈w.views:=fA (by rw[hw.vlen];exact hm)
structure Grw (w u:Wrl):Prop where
 com:u.com=w.com
 lead:u.lead=w.lead
 bad:u.bad=w.bad
 vlen:u.views.length=w.views.length
 views:∀m:Nat,∀v∈w.views.getD m [],v∈u.views.getD m []
 props:∀(k:Nat) (p:Ppl),w.props[k]?=some p→∃l,u.props[k]?=some ⟨p.v,l⟩∧∀m∈p.members,m∈l
theorem Grw.refl (w:Wrl):Grw w w:=⟨rfl,rfl,rfl,rfl,fun _ _ h=>h,fun _ p h=>⟨p.members,h,fun _ h=>h⟩⟩
theorem Grw.trans {w u x:Wrl}(h1:Grw w u)(h2:Grw u x):Grw w x:=by
 refine⟨h2.com.trans h1.com,h2.lead.trans h1.lead,h2.bad.trans h1.bad,h2.vlen.trans h1.vlen,fun m v h=>h2.views m v (h1.views m v h),fun k p h=>?_⟩
 obtain⟨l,a1,a2⟩:=h1.props k p h
 obtain⟨l2,b1,b2⟩:=h2.props k _ a1
 exact⟨l2,b1,fun m hm=>b2 m (a2 m hm)⟩
theorem Grw.plen {w u:Wrl}(h:Grw w u):w.props.length≤u.props.length:=by
 rcases cG u.props.length w.props.length with hlt|hge
 ·obtain⟨l,a1,-⟩:=h.props u.props.length _ (am hlt)
  have:=(aR.1 a1).1
  omega
 ·exact hge
inductive Rv (g:List Vtx):Vtx→Vtx→Prop where
 |refl (u:Vtx):Rv g u u
 |step {u x v:Vtx} (hx:x∈g) (h1:x.round=u.round-1) (h2:x.author∈u.parents) (h:Rv g x v):Rv g u v
theorem Rv.trans {g:List Vtx}{u x v:Vtx}(h:Rv g u x)(h':Rv g x v):Rv g u v:=by
 induction h with
 |refl u=>exact h'
 |step hx h1 h2 _ ih=>exact .step hx h1 h2 (ih h')
theorem Rv.mem {g:List Vtx}{u v:Vtx}(h:Rv g u v)(hu:u∈g):v∈g:=by
 induction h with
 |refl u=>exact hu
 |step hx _ _ _ ih=>exact ih hx
theorem Rv.round {g:List Vtx}{u v:Vtx}(h:Rv g u v):v.round≤u.round:=by
 induction h with
 |refl u=>exact Int.le_refl _
 |step _ h1 _ _ ih=>omega
theorem Rv.mono {g U:List Vtx}(hs:∀v∈g,v∈U){u v:Vtx}(h:Rv g u v):Rv U u v:=by
 induction h with
 |refl u=>exact .refl u
 |step hx h1 h2 _ ih=>exact .step (hs _ hx) h1 h2 ih
theorem rJ {g:List Vtx}(h:g.Pairwise fun a b=>bef a b=true){u v:Vtx}(hu:u∈g)(hv:v∈g)(h1:u.round=v.round)(h2:u.author=v.author):u=v:=by
 obtain⟨i,hi⟩:=iR hu
 obtain⟨k,hk⟩:=iR hv
 rcases Nat.lt_trichotomy i k with hlt|rfl|hlt
 ·have:=iL h hlt hi hk
  simp only[bef,cN,az,decide_eq_true_eq] at this
  omega
 ·rw[hi] at hk;exact aq hk
 ·have:=iL h hlt hk hi
  simp only[bef,cN,az,decide_eq_true_eq] at this
  omega
theorem Rv.down {c:List Int}{g U:List Vtx}(hg:GraOK c g)(hU:GraOK c U)(hs:∀v∈g,v∈U){u v:Vtx}(h:Rv U u v)(hu:u∈g):Rv g u v:=by
 induction h with
 |refl u=>exact .refl u
 | @step u x v hx h1 h2 _ ih=>
  obtain⟨y,y1,y2,y3⟩:=cF.1 (ee.1 (hg.par u hu) _ h2)
  have e:y=x:=rJ hU.pw (hs y y1) hx (by omega) y3
  subst e
  exact .step y1 h1 h2 (ih y1)
def gn (l:List Int)(w:Nat):Int:=l.getD (w-1) 0
def pN (g:List Vtx)(l:List Int)(w:Nat):Option Vtx:=g.find? (e9 (2*(w:Int)-1) (gn l w))
theorem sS {g:List Vtx}{l:List Int}{w:Nat}{v:Vtx}(h:pN g l w=some v):v∈g∧v.round=2*(w:Int)-1∧v.author=gn l w:=
 ⟨tL h,io.1 (List.find?_some h)⟩
def tM (g:List Vtx)(l:List Int)(w:Nat):List Int:=(g.filter fun v=>v.round==2*(w:Int) && v.parents.contains (gn l w)).map (·.author)
def qW (c:List Int)(g:List Vtx)(l:List Int)(w:Nat):Int:=if(pN g l w).isSome then lL c (tM g l w) else 0
def DE (c:List Int):Int:=(qL c).tdiv 3+1
def yX (c:List Int)(g:List Vtx)(l:List Int)(w:Nat):Bool:=decide (DE c≤qW c g l w)
theorem o7 {c:List Int}(h:comV c=true):1≤DE c∧DE c=qL c/3+1:=by
 have:=ly h
 unfold DE
 rw[my (by omega)]
 omega
theorem q9 {c:List Int}{g:List Vtx}{l:List Int}{w:Nat}(hc:comV c=true)(h:yX c g l w=true):∃v,pN g l w=some v∧DE c≤lL c (tM g l w):=by
 have hs:=o7 hc
 unfold yX qW at h
 have h:=of_decide_eq_true h
 cases hl:pN g l w with
 |none=>rw[hl] at h;simp at h;omega
 |some v=>rw[hl] at h;exact⟨v,rfl,by simpa using h⟩
theorem JG {g:List Vtx}{l:List Int}{w:Nat}{a:Int}:a∈tM g l w↔∃v∈g,v.round=2*(w:Int)∧gn l w∈v.parents∧v.author=a:=by
 simp only[tM,aB,eM,az,beq_iff_eq,iz]
 constructor
 ·rintro⟨v,⟨h1,h2,h3⟩,h4⟩;exact⟨v,h1,h2,h3,h4⟩
 ·rintro⟨v,h1,h2,h3,h4⟩;exact⟨v,⟨h1,h2,h3⟩,h4⟩
theorem JE {g:List Vtx}(h:g.Pairwise fun a b=>bef a b=true)(l:List Int)(w:Nat):(tM g l w).Pairwise (· < ·):=by
 unfold tM
 rw[mw]
 refine(h.sublist (qp ..)).imp_of_mem fun {a b} ha hb hab=>?_
 have ha:=(eM.1 ha).2
 have hb:=(eM.1 hb).2
 simp only[bef,cN,az,decide_eq_true_eq,beq_iff_eq] at *
 omega
open Classical in
noncomputable def dwn (g:List Vtx) (l:List Int) (last:Nat):Nat→Vtx→List Nat
 |0,_=>[]
 |x+1,cur=>if x+1≤last then[] else match pN g l (x+1) with
  |some k=>if Rv g cur k then dwn g l last x k++[x+1] else dwn g l last x cur
  |none=>dwn g l last x cur
noncomputable def chn (g:List Vtx) (l:List Int) (w last:Nat):List Nat:=match pN g l w with
 |some k=>dwn g l last (w-1) k++[w]
 |none=>[w]
noncomputable def cmt (c:List Int) (g:List Vtx) (l:List Int):Nat→List Nat×Nat
 |0=>([],0)
 |n+1=>if yX c g l (n+1) then((cmt c g l n).1++chn g l (n+1) (cmt c g l n).2,n+1) else cmt c g l n
open Classical in
theorem ra (g:List Vtx)(l:List Int)(last:Nat):∀(x:Nat) (cur:Vtx),∀w∈dwn g l last x cur,1≤w∧w≤x∧∃k,pN g l w=some k
 |0,_,w,hw=>by simp[dwn] at hw
 |x+1,cur,w,hw=>by
  unfold dwn at hw
  split at hw
  ·cases hw
  ·split at hw
   ·rename_i k hk
    split at hw
    ·rcases bh.1 hw with h|h
     ·obtain⟨h1,h2,h3⟩:=ra g l last x k w h
      exact⟨h1,by omega,h3⟩
     ·obtain rfl:=aZ.1 h
      exact⟨by omega,ax _,k,hk⟩
    ·obtain⟨h1,h2,h3⟩:=ra g l last x cur w hw
     exact⟨h1,by omega,h3⟩
   ·obtain⟨h1,h2,h3⟩:=ra g l last x cur w hw
    exact⟨h1,by omega,h3⟩
theorem mO {c:List Int}{g:List Vtx}(hc:comV c=true)(l:List Int):∀n:Nat,∀w∈(cmt c g l n).1,1≤w∧w≤n∧∃k,pN g l w=some k
 |0,w,hw=>by simp[cmt] at hw
 |n+1,w,hw=>by
  unfold cmt at hw
  split at hw
  ·rename_i hd
   obtain⟨k,hk,-⟩:=q9 hc hd
   rcases bh.1 hw with h|h
   ·obtain⟨h1,h2,h3⟩:=mO hc l n w h
    exact⟨h1,by omega,h3⟩
   ·unfold chn at h
    rw[hk] at h
    rcases bh.1 h with h|h
    ·obtain⟨h1,h2,h3⟩:=ra g l _ _ k w h
     exact⟨h1,by omega,h3⟩
    ·obtain rfl:=aZ.1 h
     exact⟨by omega,ax _,k,hk⟩
  ·obtain⟨h1,h2,h3⟩:=mO hc l n w hw
   exact⟨h1,by omega,h3⟩
open Classical in
noncomputable def ordW (g:List Vtx) (l:List Int) (acc:List Vtx) (w:Nat):List Vtx:=match pN g l w with
 |some k=>g.filter fun v=>decide (Rv g k v) && (decide (2*(w:Int)-7≤v.round) && decide (v∉acc))
 |none=>[]
noncomputable def ordTo (g:List Vtx) (l:List Int) (acc:List Vtx) (ws:List Nat):List Vtx:=ws.foldl (fun acc w=>acc++ordW g l acc w) acc
theorem lm (g:List Vtx)(l:List Int)(acc:List Vtx)(w:Nat)(ws:List Nat):ordTo g l acc (w::ws)=ordTo g l (acc++ordW g l acc w) ws:=rfl
theorem De (g:List Vtx)(l:List Int)(acc:List Vtx)(ws ws':List Nat):ordTo g l acc (ws++ws')=ordTo g l (ordTo g l acc ws) ws':=by simp[ordTo,List.foldl_append]
noncomputable def ordG (c:List Int) (g:List Vtx) (l:List Int):List Vtx:=ordTo g l [] (cmt c g l l.length).1
end Go.Proofs.YtpefhoohfkeflabGreatDoor.Am
namespace Go.Proofs.YtpefhoohfkeflabGreatDoor.Am
open Go
def pix (g:List Vtx)(v:Vtx):List (Option Nat):=v.parents.map fun a=>g.findIdx? (e9 (v.round-1) a)
theorem kx {g:List Vtx}{r a:Int}{k:Nat}(h:g.findIdx? (e9 r a)=some k):∃x,g[k]?=some x∧x.round=r∧x.author=a:=by
 obtain⟨hk,h1,-⟩:=wF.1 h
 exact⟨_,am hk,io.1 h1⟩
theorem nK {c:List Int}{g:List Vtx}(hg:GraOK c g){k:Nat}{x:Vtx}(h:g[k]?=some x):g.findIdx? (e9 x.round x.author)=some k:=by
 cases hf:g.findIdx? (e9 x.round x.author) with
 |none=>
  have:=pj.1 hf x (br h)
  rw[io.2 ⟨rfl,rfl⟩] at this
  cases this
 |some j=>
  obtain⟨y,h1,h2,h3⟩:=kx hf
  have e:=rJ hg.pw (br h1) (br h) h2 h3
  subst e
  rw[pw_idx hg h1 h]
where
 pw_idx {c:List Int} {g:List Vtx} (hg:GraOK c g) {i k:Nat} {x:Vtx} (h1:g[i]?=some x) (h2:g[k]?=some x):i=k:=by
  rcases Nat.lt_trichotomy i k with hlt|rfl|hlt
  ·have:=iL hg.pw hlt h1 h2
   simp only[bef,cN,az,decide_eq_true_eq] at this
   omega
  ·rfl
  ·have:=iL hg.pw hlt h2 h1
   simp only[bef,cN,az,decide_eq_true_eq] at this
   omega
theorem EN {c:List Int}{g:List Vtx}(hg:GraOK c g){i k:Nat}{x:Vtx}(h1:g[i]?=some x)(h2:g[k]?=some x):i=k:=by
 have e1:=nK hg h1
 have e2:=nK hg h2
 rw[e1] at e2
 exact aq e2
theorem oQ {c:List Int}{g:List Vtx}(hg:GraOK c g){v:Vtx}(hv:v∈g){o:Option Nat}(h:o∈pix g v):∃k x,o=some k∧g[k]?=some x∧x.round=v.round-1∧x.author∈v.parents:=by
 obtain⟨a,ha,rfl⟩:=aB.1 h
 obtain⟨x,x1,x2,x3⟩:=cF.1 (ee.1 (hg.par v hv) a ha)
 obtain⟨k,hk⟩:=iR x1
 have:=nK hg hk
 rw[x2,x3] at this
 exact⟨k,x,this,hk,x2,x3▸ha⟩
theorem F5 {c:List Int}{g:List Vtx}(hg:GraOK c g){v x:Vtx}(hv:v∈g){k:Nat}(h:some k∈pix g v)(hx:g[k]?=some x):Rv g v x:=by
 obtain⟨k',x',e,h1,h2,h3⟩:=oQ hg hv h
 obtain rfl:=aq e
 rw[hx] at h1
 obtain rfl:=aq h1
 exact .step (br hx) h2 h3 (.refl x)
theorem uK {c:List Int}{g:List Vtx}(hg:GraOK c g){S:Nat→Prop}(hS:∀i v,g[i]?=some v→S i→∀k,some k∈pix g v→S k){u v:Vtx}(h:Rv g u v):∀i k,g[i]?=some u→S i→g[k]?=some v→S k:=by
 induction h with
 |refl u=>
  intro i k h1 h2 h3
  rw[←EN hg h1 h3]
  exact h2
 | @step u x v hx h1 h2 _ ih=>
  intro i k hi hs hk
  obtain⟨j,hj⟩:=iR hx
  have:=nK hg hj
  exact ih j k hj (hS i u hi hs j (aB.2 ⟨x.author,h2,by rw[←h1];exact this⟩)) hk
structure Dfs (g:List Vtx)(u:Vtx)(n j:Nat)(re:List Bool)(wt:List (Option Nat)):Prop where
 len:re.length=g.length
 snd:∀(i:Nat) (v:Vtx),g[i]?=some v→re[i]?=some true→Rv g u v
 wtg:∀o∈wt,∃k,o=some k∧re[k]?=some true
 cur:∀v:Vtx,g[n]?=some v→re[n]?=some true
 cls:∀(i:Nat) (v:Vtx),g[i]?=some v→re[i]?=some true→some i∈wt∨(i=n∧∀(k q:Nat),k<j→(pix g v)[k]?=some (some q)→re[q]?=some true)∨∀q:Nat,some q∈pix g v→re[q]?=some true
theorem Nh {c:List Int}{g:List Vtx}(hg:GraOK c g){st:Nat}{u:Vtx}(h:g[st]?=some u):Dfs g u g.length 0 ((List.replicate g.length false).set st true) [some st]:=by
 have hl:=(aR.1 h).1
 have key:∀i:Nat,((List.replicate g.length false).set st true)[i]?=some true→i=st:=fun i hi=>by
  rw[dp] at hi
  split at hi
  ·omega
  ·rw[mE] at hi
   split at hi<;>cases hi
 have hst:((List.replicate g.length false).set st true)[st]?=some true:=by
  rw[dp,if_pos rfl,if_pos (by simpa using hl)]
 refine⟨by simp,fun i v hi hr=>?_,fun o ho=>⟨st,by simpa using ho,hst⟩,fun v hv=>?_,fun i v hi hr=>.inl ?_⟩
 ·obtain rfl:=key i hr
  rw[h] at hi
  obtain rfl:=aq hi
  exact .refl u
 ·have:=(aR.1 hv).1
  omega
 ·rw[key i hr]
  simp
theorem HN {g:List Vtx}{u:Vtx}{n j:Nat}{re:List Bool}{wt:List (Option Nat)}{q:Nat}(h:Dfs g u n j re (wt++[some q]))(hn:g[n]?=none):Dfs g u q 0 re wt:=by
 refine⟨h.len,h.snd,fun o ho=>h.wtg o (bh.2 (.inl ho)),fun v _=>?_,fun i v hi hr=>?_⟩
 ·obtain⟨k,h1,h2⟩:=h.wtg (some q) (by simp)
  obtain rfl:=aq h1
  exact h2
 ·rcases h.cls i v hi hr with h1|⟨rfl,-⟩|h1
  ·rcases bh.1 h1 with h1|h1
   ·exact .inl h1
   ·refine .inr (.inl ⟨?_,fun k _ hk=>absurd hk (Nat.not_lt_zero k)⟩)
    simpa using h1
  ·rw[hn] at hi;cases hi
  ·exact .inr (.inr h1)
theorem El {g:List Vtx}{u v:Vtx}{n j q:Nat}{re:List Bool}{wt:List (Option Nat)}(h:Dfs g u n j re wt)(hv:g[n]?=some v)(hj:(pix g v)[j]?=some (some q))(hq:re[q]?=some true):Dfs g u n (j+1) re wt:=by
 refine⟨h.len,h.snd,h.wtg,h.cur,fun i x hi hr=>?_⟩
 rcases h.cls i x hi hr with h1|⟨rfl,h1⟩|h1
 ·exact .inl h1
 ·refine .inr (.inl ⟨rfl,fun k q' hk hp=>?_⟩)
  rcases cG k j with hlt|hge
  ·exact h1 k q' hlt hp
  ·obtain rfl:k=j:=by omega
   rw[hv] at hi
   obtain rfl:=aq hi
   rw[hj] at hp
   obtain rfl:=aq (aq hp)
   exact hq
 ·exact .inr (.inr h1)
theorem gj {re:List Bool}{q i:Nat}(h:re[i]?=some true):(re.set q true)[i]?=some true:=by
 have hl:=(aR.1 h).1
 rw[dp]
 split
 ·rename_i e
  rw[if_pos (by omega)]
 ·exact h
theorem Ek {c:List Int}{g:List Vtx}(hg:GraOK c g){u v:Vtx}{n j q:Nat}{re:List Bool}{wt:List (Option Nat)}(h:Dfs g u n j re wt)(hv:g[n]?=some v)(hj:(pix g v)[j]?=some (some q))(hq:re[q]?=some false):Dfs g u n (j+1) (re.set q true) (wt++[some q]):=by
 have hql:=(aR.1 hq).1
 have hqt:(re.set q true)[q]?=some true:=by rw[dp,if_pos rfl,if_pos hql]
 have hne:∀i:Nat,i≠q→(re.set q true)[i]?=re[i]?:=fun i hi=>by rw[dp,if_neg (by omega)]
 refine⟨by rw[jt];exact h.len,fun i x hi hr=>?_,fun o ho=>?_,fun x hx=>gj (h.cur x hx),fun i x hi hr=>?_⟩
 ·by_cases e:i=q
  ·subst e
   exact(h.snd n v hv (h.cur v hv)).trans (F5 hg (br hv) (br hj) hi)
  ·rw[hne i e] at hr
   exact h.snd i x hi hr
 ·rcases bh.1 ho with ho|ho
  ·obtain⟨k,h1,h2⟩:=h.wtg o ho
   exact⟨k,h1,gj h2⟩
  ·exact⟨q,by simpa using ho,hqt⟩
 ·by_cases e:i=q
  ·subst e
   exact .inl (by simp)
  rw[hne i e] at hr
  rcases h.cls i x hi hr with h1|⟨rfl,h1⟩|h1
  ·exact .inl (bh.2 (.inl h1))
  ·refine .inr (.inl ⟨rfl,fun k q' hk hp=>?_⟩)
   rcases cG k j with hlt|hge
   ·exact gj (h1 k q' hlt hp)
   ·obtain rfl:k=j:=by omega
    rw[hv] at hi
    obtain rfl:=aq hi
    rw[hj] at hp
    obtain rfl:=aq (aq hp)
    exact hqt
  ·exact .inr (.inr fun q' hq'=>gj (h1 q' hq'))
theorem xi {g:List Vtx}{u v:Vtx}{n j:Nat}{re:List Bool}{wt:List (Option Nat)}(h:Dfs g u n j re wt)(hv:g[n]?=some v)(hj:v.parents.length≤j):Dfs g u g.length 0 re wt:=by
 refine⟨h.len,h.snd,h.wtg,fun x hx=>?_,fun i x hi hr=>?_⟩
 ·have:=(aR.1 hx).1
  omega
 ·rcases h.cls i x hi hr with h1|⟨rfl,h1⟩|h1
  ·exact .inl h1
  ·rw[hv] at hi
   obtain rfl:=aq hi
   refine .inr (.inr fun q hq=>?_)
   obtain⟨k,hk⟩:=iR hq
   have hkl:=(aR.1 hk).1
   unfold pix at hkl
   rw[aA] at hkl
   exact h1 k q (by omega) hk
  ·exact .inr (.inr h1)
theorem HM {c:List Int}{g:List Vtx}(hg:GraOK c g){u:Vtx}{st:Nat}(hst:g[st]?=some u){re:List Bool}(h:Dfs g u g.length 0 re [])(h0:re[st]?=some true){i:Nat}{v:Vtx}(hi:g[i]?=some v):re[i]?=some true↔Rv g u v:=by
 refine⟨h.snd i v hi,fun hr=>?_⟩
 refine uK hg (S:=fun k=>re[k]?=some true) (fun k x hk hs q hq=>?_) hr st i hst h0 hi
 rcases h.cls k x hk hs with h1|⟨rfl,-⟩|h1
 ·cases h1
 ·have:=(aR.1 hk).1
  omega
 ·exact h1 q hq
theorem vf:∀{re:List Bool} {q:Nat},re[q]?=some false→(re.set q true).count false+1=re.count false
 |[],_,h=>by simp at h
 |b::re,0,h=>by
  simp only[iQ,aw] at h
  subst h
  simp
 |b::re,q+1,h=>by
  have:=vf (re:=re) (q:=q) (by simpa using h)
  simp only[List.set_cons_succ,List.count_cons]
  omega
open Classical in
noncomputable def pst (g:List Vtx) (u:Vtx):List Int:=((List.range g.length).filter fun i=>decide (Rv g u (g.getD i v0))).map fun i:Nat=>(i:Int)
def pb (re:List Bool)(n:Nat):List Int:=((List.range n).filter fun i=>re.getD i false).map fun i:Nat=>(i:Int)
theorem AI {re:List Bool}{n:Nat}{b:Bool}(h:re[n]?=some b):pb re (n+1)=if b=true then pb re n++[(n:Int)] else pb re n:=by
 have e:re.getD n false=b:=by rw[ar,h];rfl
 simp only[pb,mA,pk,cf,nG,mB,e]
 cases b<;>simp
theorem Dt (re:List Bool)(n:Nat):(pb re n).length≤n:=by
 unfold pb
 rw[aA]
 exact cu (mG _ _) (by simp)
open Classical in
theorem Du {g:List Vtx}{u:Vtx}{re:List Bool}(hl:re.length=g.length)(h:∀(i:Nat) (v:Vtx),g[i]?=some v→(re[i]?=some true↔Rv g u v)):pb re g.length=pst g u:=by
 unfold pb pst
 congr 1
 refine mC fun i hi=>?_
 have hi:=eN.1 hi
 have h1:=h i (g.getD i v0) (by rw[ar,am hi];rfl)
 rw[am (by omega)] at h1
 rw[ar,am (by omega)]
 rw[dR,decide_eq_true_iff,←h1]
 simp
open Classical in
theorem B6 {g:List Vtx}{u:Vtx}{x:Int}:x∈pst g u↔∃i:Nat,x=i∧∃v,g[i]?=some v∧Rv g u v:=by
 unfold pst
 rw[aB]
 constructor
 ·rintro⟨i,hi,rfl⟩
  obtain⟨h1,h2⟩:=eM.1 hi
  have h1:=eN.1 h1
  exact⟨i,rfl,_,by rw[ar,am h1];rfl,of_decide_eq_true h2⟩
 ·rintro⟨i,rfl,v,hv,hr⟩
  have hl:=(aR.1 hv).1
  refine⟨i,eM.2 ⟨eN.2 hl,decide_eq_true ?_⟩,rfl⟩
  rw[ar,hv]
  exact hr
theorem I3 (g:List Vtx)(u:Vtx):(pst g u).Pairwise (· < ·):=by
 unfold pst
 rw[mw]
 exact(List.Pairwise.filter _ List.pairwise_lt_range).imp fun h=>by omega
theorem wa (g:List Vtx)(u:Vtx):(pst g u).length≤g.length:=by
 unfold pst
 rw[aA]
 exact cu (mG _ _) (by simp)
theorem xI {c:List Int}:∀{g:List Vtx},GraOK c g→∀{i:Nat} {v:Vtx},g[i]?=some v→∃p,(db g).nodes[i]?=some ⟨v,i,p⟩∧((v.parents=[]∧p=none)∨∃r,p=some r∧(db g).rows[r]?=some (pix g v)):=by
 have raw:∀(g:List Vtx) {i:Nat} {v:Vtx},g[i]?=some v→∃p,(db g).nodes[i]?=some ⟨v,i,p⟩∧((v.parents=[]∧p=none)∨∃r,p=some r∧(db g).rows[r]?=some (v.parents.map fun a=>(db (g.take i)).at (v.round-1) a)):=by
  intro g
  induction g using cj with
  |h0=>intro i v h;simp at h
  |h l x ih=>
   intro i v h
   rw[lY]
   have hnl:=(fo l).1
   rcases cG i l.length with hlt|hge
   ·rw[cX hlt] at h
    obtain⟨p,h1,h2⟩:=ih h
    refine⟨p,?_,?_⟩
    ·show ((db l).nodes++_)[i]?=_
     rw[cX (by omega)]
     exact h1
    ·rcases h2 with h2|⟨r,h2,h3⟩
     ·exact .inl h2
     ·refine .inr ⟨r,h2,?_⟩
      have hr:=(aR.1 h3).1
      rw[List.take_append_of_le_length (by omega)]
      simp only[cE]
      split
      ·exact h3
      ·rw[cX hr];exact h3
   ·obtain rfl:i=l.length:=by
     have:=(aR.1 h).1
     simp at this
     omega
    rw[eW (ax _),kg] at h
    simp only[iQ,aw] at h
    subst h
    refine⟨if x.parents=[] then none else some (db l).rows.length,?_,?_⟩
    ·show ((db l).nodes++_)[l.length]?=_
     rw[←hnl,eW (ax _),kg]
     rfl
    ·by_cases hp:x.parents=[]
     ·exact .inl ⟨hp,by rw[if_pos hp]⟩
     ·refine .inr ⟨_,by rw[if_neg hp],?_⟩
      simp only[cE]
      rw[if_neg hp,eW (ax _),kg,List.take_left]
      rfl
 rename_i g
 intro hg i v h
 obtain⟨p,h1,h2⟩:=raw g h
 refine⟨p,h1,?_⟩
 rcases h2 with h2|⟨r,h2,h3⟩
 ·exact .inl h2
 ·refine .inr ⟨r,h2,?_⟩
  rw[h3]
  congr 1
  unfold pix
  refine qP fun a ha=>?_
  have hv:=br h
  obtain⟨x,x1,x2,x3⟩:=cF.1 (ee.1 (hg.par v hv) a ha)
  obtain⟨k,hk⟩:=iR x1
  have hx:=nK hg hk
  rw[x2,x3] at hx
  rw[hx]
  have hil:=(aR.1 h).1
  have hki:k<i:=by
   rcases cG k i with hlt|hge
   ·exact hlt
   ·exfalso
    rcases cG i k with hlt|hge2
    ·have:=iL hg.pw hlt h hk
     simp only[bef,cN,az,decide_eq_true_eq] at this
     omega
    ·obtain rfl:i=k:=by omega
     rw[h] at hk
     obtain rfl:=aq hk
     omega
  have hvt:=(bG (hg.vtx v hv)).1
  have hxt:=dm hg.com (hg.vtx x x1)
  have ht:∀u∈g.take i,ji u:=fun u hu=>dm hg.com (hg.vtx u (jX hu))
  have hk2:(g.take i)[k]?=some x:=by rw[er,if_pos hki];exact hk
  have hin:=(vL ht (r:=v.round-1) (a:=a) (by have:=hxt.1;omega) (by have:=hxt.2;omega))
  have hsome:eg (g.take i) (v.round-1) a=true:=cF.2 ⟨x,br hk2,x2,x3⟩
  obtain⟨j,hj⟩:=mD.1 (hin.1.trans hsome)
  rw[hj]
  have hjx:=hin.2 j hj
  exact congrArg some (gst_j hg hki hjx hk x2 x3)
where
 gst_j {c:List Int} {g:List Vtx} (hg:GraOK c g) {i j k:Nat} {a r:Int} {x:Vtx} (hki:k<i) (hj:∃y,(g.take i)[j]?=some y∧y.round=r∧y.author=a) (hk:g[k]?=some x) (x2:x.round=r) (x3:x.author=a):j=k:=by
  obtain⟨y,y1,y2,y3⟩:=hj
  have y1':g[j]?=some y:=by
   rw[er] at y1
   split at y1
   ·exact y1
   ·cases y1
  have e:=rJ hg.pw (br y1') (br hk) (by omega) (by rw[y3,x3])
  subst e
  exact EN hg y1' hk
end Go.Proofs.YtpefhoohfkeflabGreatDoor.Am
namespace Go.Proofs.YtpefhoohfkeflabGreatDoor.Am
open Go
structure Sph (g:List Vtx)(u:Vtx)(st m:Nat)(re:List Bool):Prop where
 len:re.length=g.length
 snd:∀(i:Nat) (v:Vtx),g[i]?=some v→re[i]?=some true→Rv g u v
 top:re[st]?=some true
 cls:∀(i:Nat) (v:Vtx),g[i]?=some v→re[i]?=some true→i<m∨∀q:Nat,some q∈pix g v→re[q]?=some true
structure Spi (g:List Vtx)(u:Vtx)(st n j:Nat)(re:List Bool):Prop where
 len:re.length=g.length
 snd:∀(i:Nat) (v:Vtx),g[i]?=some v→re[i]?=some true→Rv g u v
 top:re[st]?=some true
 cur:re[n]?=some true∨j=0
 cls:∀(i:Nat) (v:Vtx),g[i]?=some v→re[i]?=some true→i<n∨(i=n∧∀(k q:Nat),k<j→(pix g v)[k]?=some (some q)→re[q]?=some true)∨∀q:Nat,some q∈pix g v→re[q]?=some true
theorem NX {g:List Vtx}{st:Nat}{u:Vtx}(h:g[st]?=some u):Sph g u st (st+1) ((List.replicate g.length false).set st true):=by
 have hl:=(aR.1 h).1
 have key:∀i:Nat,((List.replicate g.length false).set st true)[i]?=some true→i=st:=fun i hi=>by
  rw[dp] at hi
  split at hi
  ·omega
  ·rw[mE] at hi
   split at hi<;>cases hi
 have hst:((List.replicate g.length false).set st true)[st]?=some true:=by
  rw[dp,if_pos rfl,if_pos (by simpa using hl)]
 refine⟨by simp,fun i v hi hr=>?_,hst,fun i v hi hr=>.inl ?_⟩
 ·obtain rfl:=key i hr
  rw[h] at hi
  obtain rfl:=aq hi
  exact .refl u
 ·rw[key i hr]
  omega
theorem MB {g:List Vtx}{u:Vtx}{st m:Nat}{re:List Bool}(h:Sph g u st (m+1) re):Spi g u st m 0 re:=by
 refine⟨h.len,h.snd,h.top,.inr rfl,fun i v hi hr=>?_⟩
 rcases h.cls i v hi hr with h1|h1
 ·rcases cG i m with h2|h2
  ·exact .inl h2
  ·exact .inr (.inl ⟨by omega,fun k _ hk=>absurd hk (Nat.not_lt_zero k)⟩)
 ·exact .inr (.inr h1)
theorem L7 {c:List Int}{g:List Vtx}(hg:GraOK c g){n q:Nat}{v:Vtx}(hv:g[n]?=some v)(hq:some q∈pix g v):q<n:=by
 obtain⟨k,x,e,h1,h2,h3⟩:=oQ hg (br hv) hq
 obtain rfl:=aq e
 rcases Nat.lt_trichotomy q n with h|h|h
 ·exact h
 ·subst h
  rw[hv] at h1
  obtain rfl:=aq h1
  omega
 ·have:=iL hg.pw h hv h1
  rw[bef_iff'] at this
  omega
where
 bef_iff' {a b:Vtx}:bef a b=true↔a.round<b.round∨(a.round=b.round∧a.author<b.author):=by
  simp only[bef,cN,az,decide_eq_true_eq]
theorem Js {c:List Int}{g:List Vtx}(hg:GraOK c g){u v:Vtx}{st n j q:Nat}{re:List Bool}(h:Spi g u st n j re)(hv:g[n]?=some v)(hn:re[n]?=some true)(hj:(pix g v)[j]?=some (some q)):Spi g u st n (j+1) (re.set q true):=by
 have hqm:=br hj
 have hqn:=L7 hg hv hqm
 have hnl:=(aR.1 hn).1
 have hqt:(re.set q true)[q]?=some true:=by rw[dp,if_pos rfl,if_pos (by omega)]
 have hne:∀i:Nat,i≠q→(re.set q true)[i]?=re[i]?:=fun i hi=>by rw[dp,if_neg (by omega)]
 refine⟨by rw[jt];exact h.len,fun i x hi hr=>?_,gj h.top,.inl (gj hn),fun i x hi hr=>?_⟩
 ·by_cases e:i=q
  ·subst e
   exact(h.snd n v hv hn).trans (F5 hg (br hv) hqm hi)
  ·rw[hne i e] at hr
   exact h.snd i x hi hr
 ·by_cases e:i=q
  ·subst e
   exact .inl hqn
  rw[hne i e] at hr
  rcases h.cls i x hi hr with h1|⟨rfl,h1⟩|h1
  ·exact .inl h1
  ·refine .inr (.inl ⟨rfl,fun k q' hk hp=>?_⟩)
   rcases cG k j with hlt|hge
   ·exact gj (h1 k q' hlt hp)
   ·obtain rfl:k=j:=by omega
    rw[hv] at hi
    obtain rfl:=aq hi
    rw[hj] at hp
    obtain rfl:=aq (aq hp)
    exact hqt
  ·exact .inr (.inr fun q' hq'=>gj (h1 q' hq'))
theorem Ck {g:List Vtx}{u v:Vtx}{st n j:Nat}{re:List Bool}(h:Spi g u st n j re)(hv:g[n]?=some v)(hj:re[n]?=some false∨v.parents.length≤j):Sph g u st n re:=by
 refine⟨h.len,h.snd,h.top,fun i x hi hr=>?_⟩
 rcases h.cls i x hi hr with h1|⟨rfl,h1⟩|h1
 ·exact .inl h1
 ·rw[hv] at hi
  obtain rfl:=aq hi
  rcases hj with hj|hj
  ·rw[hr] at hj;cases hj
  refine .inr fun q hq=>?_
  obtain⟨k,hk⟩:=iR hq
  have hkl:=(aR.1 hk).1
  unfold pix at hkl
  rw[aA] at hkl
  exact h1 k q (by omega) hk
 ·exact .inr h1
open Classical in
noncomputable def pfl (g:List Vtx) (u:Vtx):List Bool:=g.map fun v=>decide (Rv g u v)
open Classical in
theorem Ai {g:List Vtx}{u v:Vtx}{i:Nat}(h:g[i]?=some v):(pfl g u)[i]?=some (decide (Rv g u v)):=by
 rw[pfl,bf,h];rfl
open Classical in
theorem KQ {g:List Vtx}{u:Vtx}{re:List Bool}(hl:re.length=g.length)(h:∀(i:Nat) (v:Vtx),g[i]?=some v→(re[i]?=some true↔Rv g u v)):re=pfl g u:=by
 refine nW fun i=>?_
 rcases cG i g.length with hi|hi
 ·have hv:=am hi
  have h1:=h i _ hv
  rw[Ai hv]
  rw[am (by omega)] at h1⊢
  congr 1
  rw[dR,decide_eq_true_iff,←h1]
  simp
 ·rw[ep (by omega),ep (by simpa[pfl] using hi)]
theorem Jr {c:List Int}{g:List Vtx}(hg:GraOK c g){u:Vtx}{st:Nat}(hst:g[st]?=some u){re:List Bool}(h:Sph g u st 0 re):re=pfl g u:=by
 refine KQ h.len fun i v hi=>⟨h.snd i v hi,fun hr=>?_⟩
 refine uK hg (S:=fun k=>re[k]?=some true) (fun k x hk hs q hq=>?_) hr st i hst h.top hi
 rcases h.cls k x hk hs with h1|h1
 ·omega
 ·exact h1 q hq
open Classical in
theorem ol (g:List Vtx)(l:List Int)(last:Nat):∀(x:Nat) (cur:Vtx),(dwn g l last x cur).Pairwise (· < ·)∧∀w∈dwn g l last x cur,last<w∧w≤x
 |0,cur=>by simp[dwn]
 |x+1,cur=>by
  unfold dwn
  by_cases hx:x+1≤last
  ·rw[if_pos hx];simp
  rw[if_neg hx]
  have st:∀cur:Vtx,(dwn g l last x cur).Pairwise (· < ·)∧∀w∈dwn g l last x cur,last<w∧w≤x+1:=fun cur=>
   ⟨(ol g l last x cur).1,fun w hw=>⟨((ol g l last x cur).2 w hw).1,by have:=((ol g l last x cur).2 w hw).2;omega⟩⟩
  split
  ·rename_i k hk
   split
   ·obtain⟨h1,h2⟩:=ol g l last x k
    refine⟨qk.2 ⟨h1,List.pairwise_singleton _ _,fun a ha b hb=>?_⟩,fun w hw=>?_⟩
    ·obtain rfl:=aZ.1 hb
     have:=h2 a ha
     omega
    ·rcases bh.1 hw with hw|hw
     ·have:=h2 w hw
      omega
     ·obtain rfl:=aZ.1 hw
      omega
   ·exact st cur
  ·exact st cur
theorem A3 (g:List Vtx)(l:List Int){w last:Nat}(hw:last<w):(chn g l w last).Pairwise (· < ·)∧∀x∈chn g l w last,last<x∧x≤w:=by
 unfold chn
 split
 ·rename_i k hk
  obtain⟨h1,h2⟩:=ol g l last (w-1) k
  refine⟨qk.2 ⟨h1,List.pairwise_singleton _ _,fun a ha b hb=>?_⟩,fun x hx=>?_⟩
  ·obtain rfl:=aZ.1 hb
   have:=h2 a ha
   omega
  ·rcases bh.1 hx with hx|hx
   ·have:=h2 x hx
    omega
   ·obtain rfl:=aZ.1 hx
    omega
 ·exact⟨List.pairwise_singleton _ _,fun x hx=>by obtain rfl:=aZ.1 hx;omega⟩
theorem oa (c:List Int)(g:List Vtx)(l:List Int):∀n:Nat,(cmt c g l n).2≤n∧(cmt c g l n).1.Pairwise (· < ·)∧∀w∈(cmt c g l n).1,w≤(cmt c g l n).2
 |0=>by simp[cmt]
 |n+1=>by
  obtain⟨h1,h2,h3⟩:=oa c g l n
  unfold cmt
  split
  ·obtain⟨h4,h5⟩:=A3 g l (w:=n+1) (last:=(cmt c g l n).2) (by omega)
   refine⟨ax _,qk.2 ⟨h2,h4,fun a ha b hb=>?_⟩,fun w hw=>?_⟩
   ·have:=h3 a ha
    have:=(h5 b hb).1
    omega
   ·rcases bh.1 hw with hw|hw
    ·have:=h3 w hw
     show w≤n+1
     omega
    ·exact(h5 w hw).2
  ·exact⟨by omega,h2,h3⟩
def yY (g:List Vtx)(l:List Int)(w:Nat)(v:Vtx):Prop:=∃k,pN g l w=some k∧Rv g k v∧2*(w:Int)-7≤v.round
open Classical in
noncomputable def wvk (g:List Vtx) (l:List Int) (ws:List Nat) (v:Vtx):Int:=match ws.find? fun w=>decide (yY g l w v) with
 |some w=>(w:Int)
 |none=>0
open Classical in
theorem tJ (g:List Vtx)(l:List Int)(ws:List Nat)(w:Nat)(v:Vtx)(hp:∀w∈ws,1≤w):wvk g l (ws++[w]) v=if wvk g l ws v=0∧yY g l w v then(w:Int) else wvk g l ws v:=by
 unfold wvk
 rw[List.find?_append]
 cases h:ws.find? fun w=>decide (yY g l w v) with
 |none=>
  simp only[Option.none_or,List.find?_cons,List.find?_nil,true_and]
  by_cases hi:yY g l w v
  ·simp[hi]
  ·simp[hi]
 |some x=>
  have:=hp x (tL h)
  simp only[Option.some_or]
  rw[if_neg (by omega)]
open Classical in
theorem yW {g:List Vtx}{l:List Int}{ws:List Nat}{v:Vtx}(hp:∀w∈ws,1≤w):wvk g l ws v=0↔∀w∈ws,¬yY g l w v:=by
 unfold wvk
 cases h:ws.find? fun w=>decide (yY g l w v) with
 |none=>
  have:=List.find?_eq_none.1 h
  simp only[true_iff]
  intro w hw hi
  exact this w hw (decide_eq_true hi)
 |some x=>
  have h1:=hp x (tL h)
  have h2:yY g l x v:=by
   have:=List.find?_some h
   simpa using this
  refine⟨fun h0=>?_,fun h0=>absurd h2 (h0 x (tL h))⟩
  simp only at h0
  omega
open Classical in
theorem Cy {g:List Vtx}{l:List Int}{ws:List Nat}{v:Vtx}(h:wvk g l ws v≠0):∃w∈ws,wvk g l ws v=(w:Int):=by
 unfold wvk at h⊢
 cases hf:ws.find? fun w=>decide (yY g l w v) with
 |none=>rw[hf] at h;exact absurd rfl h
 |some x=>exact⟨x,tL hf,rfl⟩
open Classical in
theorem F0 {g:List Vtx}{l:List Int}{acc:List Vtx}{w:Nat}{v:Vtx}:v∈ordW g l acc w↔v∈g∧yY g l w v∧v∉acc:=by
 unfold ordW yY
 cases h:pN g l w with
 |none=>simp
 |some k=>
  simp only[eM,az,decide_eq_true_eq,aw,exists_eq_left',and_assoc]
open Classical in
theorem uF {g:List Vtx}{l:List Int}:∀{ws:List Nat} {acc:List Vtx} {v:Vtx},v∈ordTo g l acc ws↔v∈acc∨(v∈g∧∃w∈ws,yY g l w v)
 |[],acc,v=>by simp[ordTo]
 |w::ws,acc,v=>by
  rw[lm,uF]
  simp only[bh,F0,aK,exists_eq_or_imp]
  constructor
  ·rintro((h|⟨h1,h2,h3⟩)|⟨h1,h2⟩)
   ·exact .inl h
   ·exact .inr ⟨h1,.inl h2⟩
   ·exact .inr ⟨h1,.inr h2⟩
  ·rintro(h|⟨h1,h2|h2⟩)
   ·exact .inl (.inl h)
   ·by_cases hm:v∈acc
    ·exact .inl (.inl hm)
    ·exact .inl (.inr ⟨h1,h2,hm⟩)
   ·exact .inr ⟨h1,h2⟩
open Classical in
theorem Ae (g:List Vtx)(l:List Int)(ws:List Nat)(hp:∀w∈ws,1≤w)(hn:ws.Pairwise (· < ·)):ordTo g l [] ws=ws.flatMap fun w:Nat=>g.filter fun v=>decide (wvk g l ws v=(w:Int)):=by
 induction ws using cj with
 |h0=>rfl
 |h ws w ih=>
  have hp':∀x∈ws,1≤x:=fun x hx=>hp x (bh.2 (.inl hx))
  obtain⟨hn1,-,hn2⟩:=qk.1 hn
  have hlt:∀x∈ws,x<w:=fun x hx=>hn2 x hx w (by simp)
  have hw1:1≤w:=hp w (by simp)
  rw[De,List.flatMap_append,ih hp' hn1]
  have e1:∀x∈ws,(g.filter fun v=>decide (wvk g l (ws++[w]) v=(x:Int)))=g.filter fun v=>decide (wvk g l ws v=(x:Int)):=fun x hx=>by
   refine mC fun v _=>?_
   rw[tJ g l ws w v hp']
   have hx1:=hp' x hx
   have hx2:=hlt x hx
   split
   ·rename_i h
    rw[h.1,decide_eq_false (by omega),decide_eq_false (by omega)]
   ·rfl
  rw[show (ws.flatMap fun x:Nat=>g.filter fun v=>decide (wvk g l (ws++[w]) v=(x:Int)))=ws.flatMap fun x:Nat=>g.filter fun v=>decide (wvk g l ws v=(x:Int)) from flat_congr e1]
  rw[←ih hp' hn1]
  show ordTo g l [] ws++ordW g l (ordTo g l [] ws) w=_
  congr 1
  rw[gw,List.flatMap_nil,gy]
  have e2:∀v,wvk g l (ws++[w]) v=(w:Int)↔yY g l w v∧∀x∈ws,¬yY g l x v:=fun v=>by
   rw[tJ g l ws w v hp']
   constructor
   ·intro h
    split at h
    ·rename_i h2
     exact⟨h2.2,(yW hp').1 h2.1⟩
    ·exfalso
     obtain⟨x,hx,hxe⟩:=Cy (g:=g) (l:=l) (ws:=ws) (v:=v) (by omega)
     have:=hlt x hx
     omega
   ·rintro⟨h1,h2⟩
    rw[if_pos ⟨(yW hp').2 h2,h1⟩]
  unfold ordW
  cases hl:pN g l w with
  |none=>
   symm
   rw[List.filter_eq_nil_iff]
   intro v _ h
   obtain⟨⟨k,hk,-⟩,-⟩:=(e2 v).1 (of_decide_eq_true h)
   rw[hl] at hk
   cases hk
  |some k=>
   refine mC fun v hv=>?_
   rw[dR]
   simp only[az,decide_eq_true_eq,e2,uF,yY,hl,aw,exists_eq_left',gx,false_or,not_and,not_exists,and_assoc]
   constructor
   ·rintro⟨h1,h2,h3⟩
    exact⟨h1,h2,fun x hx k hk hr hd=>h3 hv x hx k hk hr hd⟩
   ·rintro⟨h1,h2,h3⟩
    exact⟨h1,h2,fun _ x hx k hk hr hd=>h3 x hx k hk hr hd⟩
where
 flat_congr {α β:Type} {l:List α} {f f':α→List β} (h:∀x∈l,f x=f' x):l.flatMap f=l.flatMap f':=by
  induction l with
  |nil=>rfl
  |cons x l ih=>rw[gw,gw,h x (by simp),ih fun y hy=>h y (by simp[hy])]
theorem qA {α β:Type}{f:α→List β}(p:α→Bool):∀(l:List α),(∀x∈l,p x=false→f x=[])→l.flatMap f=(l.filter p).flatMap f
 |[],_=>rfl
 |x::l,h=>by
  rw[gw,qA p l fun y hy=>h y (by simp[hy]),nG]
  cases hp:p x
  ·rw[h x (by simp) hp];rfl
  ·rfl
theorem DK {a b:List Nat}(ha:a.Pairwise (· < ·))(hb:b.Pairwise (· < ·))(h:∀x,x∈a↔x∈b):a=b:=by
 induction a generalizing b with
 |nil=>
  cases b with
  |nil=>rfl
  |cons y b=>exact absurd ((h y).2 (by simp)) (by simp)
 |cons x a ih=>
  obtain⟨a1,a2⟩:=iB.1 ha
  cases b with
  |nil=>exact absurd ((h x).1 (by simp)) (by simp)
  |cons y b=>
   obtain⟨b1,b2⟩:=iB.1 hb
   have e:x=y:=by
    rcases Nat.lt_trichotomy x y with hlt|e|hlt
    ·rcases aK.1 ((h x).1 (by simp)) with e|hm
     ·exact e
     ·have:=b1 x hm;omega
    ·exact e
    ·rcases aK.1 ((h y).2 (by simp)) with e|hm
     ·exact e.symm
     ·have:=a1 y hm;omega
   subst e
   congr 1
   refine ih a2 b2 fun z=>?_
   have hz:=h z
   simp only[aK] at hz
   constructor
   ·intro hm
    have:=a1 z hm
    rcases hz.1 (.inr hm) with e|e
    ·omega
    ·exact e
   ·intro hm
    have:=b1 z hm
    rcases hz.2 (.inr hm) with e|e
    ·omega
    ·exact e
open Classical in
theorem Dd {c:List Int}{g:List Vtx}(hc:comV c=true)(l:List Int):ordG c g l=(List.range' 1 l.length).flatMap fun w:Nat=>g.filter fun v=>decide (wvk g l (cmt c g l l.length).1 v=(w:Int)):=by
 have h1:=mO (g:=g) hc l l.length
 obtain⟨h2,h3,h4⟩:=oa c g l l.length
 unfold ordG
 rw[Ae g l _ (fun w hw=>(h1 w hw).1) h3]
 rw[qA (fun w=>decide (w∈(cmt c g l l.length).1)) (List.range' 1 l.length)]
 ·congr 1
  refine DK h3 ((List.pairwise_lt_range').filter _) fun w=>?_
  rw[eM,List.mem_range'_1,decide_eq_true_iff]
  refine⟨fun h=>⟨?_,h⟩,fun h=>h.2⟩
  have:=h1 w h
  omega
 ·intro w hw hn
  have hw:=List.mem_range'_1.1 hw
  rw[List.filter_eq_nil_iff]
  intro v _ h
  have h:=of_decide_eq_true h
  obtain⟨x,hx,hxe⟩:=Cy (g:=g) (l:=l) (ws:=(cmt c g l l.length).1) (v:=v) (by omega)
  have:x=w:=by omega
  subst this
  exact of_decide_eq_false hn hx
def yZ (xs:List Int)(w:Int)(n:Nat):List Int:=((List.range n).filter fun i=>xs.getD i 0==w).map fun i:Nat=>(i:Int)
theorem GD {xs:List Int}{w x:Int}{n:Nat}(h:xs[n]?=some x):yZ xs w (n+1)=if x=w then yZ xs w n++[(n:Int)] else yZ xs w n:=by
 have e:xs.getD n 0=x:=by rw[ar,h];rfl
 simp only[yZ,mA,cf,pk,nG,mB,e]
 by_cases hx:x=w
 ·simp[hx]
 ·simp[hx]
def jR (xs:List Int)(m:Nat):List Int:=(List.range' 1 m).flatMap fun w:Nat=>yZ xs (w:Int) xs.length
theorem tv (xs:List Int)(m:Nat):jR xs (m+1)=jR xs m++yZ xs ((m+1:Nat):Int) xs.length:=by
 unfold jR
 rw[List.range'_concat,List.flatMap_append,gw,List.flatMap_nil,gy,iF,Nat.add_comm 1 m]
def fl (v:Vtx):Slt:=⟨v.round,v.author⟩
open Classical in
theorem Jk {c:List Int}{g:List Vtx}(hc:comV c=true)(l:List Int):(jR (g.map (wvk g l (cmt c g l l.length).1)) l.length).map (fun i=>fl (g.getD i.toNat v0))=(ordG c g l).map fl:=by
 rw[Dd hc,jR,List.map_flatMap,List.map_flatMap]
 congr 1
 funext w
 rw[aA,yZ,eu]
 conv=>rhs;rw[show g=(List.range g.length).map fun i=>g.getD i v0 from range_get g]
 rw[List.filter_map,eu]
 simp only[←range_get g]
 have e:((List.range g.length).filter fun i=>(g.map (wvk g l (cmt c g l l.length).1)).getD i 0==(w:Int))=(List.range g.length).filter ((fun v=>decide (wvk g l (cmt c g l l.length).1 v=(w:Int)))∘fun i=>g.getD i v0):=by
  refine mC fun i hi=>?_
  have hi:=eN.1 hi
  rw[dR]
  simp[ar,am hi]
 rw[e]
 refine qP fun i _=>?_
 simp
where
 range_get (g:List Vtx):g=(List.range g.length).map fun i=>g.getD i v0:=by
  refine List.ext_getElem (by simp) fun i h1 h2=>?_
  simp[ar,am h1]
end Go.Proofs.YtpefhoohfkeflabGreatDoor.Am
namespace Go.Proofs.YtpefhoohfkeflabGreatDoor.Am
open Go
attribute [local irreducible] Mk ci Ari fF mI jx ca cR iW fv At ag
set_option maxRecDepth 10000
theorem NZ (c:List Int)(hc:comV c=true):ag Tryz.prog 188 [.lst (.int .i64) c] [] (.int .i64 (DE c)) []:=by
 have h1:=ly hc
 have h3:(qL c).tdiv 3+1=DE c:=rfl
 have h2:=o7 hc
 refine ab aj Tryz.func188 rfl rfl false 0 4 rfl rfl rfl rfl fun K hK hb1 hb2=>?_;simp only[ae,enc,Nat.reduceAdd]
 (repeat' first|refine st ?_|refine sa fun xe hxe=>?_|refine sb (fun hq=>?_) fun hq=>?_|refine cr (GX _ hc) ?_|exact aa)
 exact⟨rfl,rfl⟩
theorem L6 {c:List Int}{g:List Vtx}(hg:GraOK c g){n j:Nat}{v:Vtx}{a:Int}(hv:g[n]?=some v)(hj:v.parents[j]?=some a):∃q:Nat,(pix g v)[j]?=some (some q)∧lG g (v.round-1) a=(q:Int)∧q<g.length:=by
 have h0:(pix g v)[j]?=some (g.findIdx? (e9 (v.round-1) a)):=by rw[pix,bf,hj];rfl
 obtain⟨k,x,e,h1,-,-⟩:=oQ hg (br hv) (br h0)
 refine⟨k,by rw[h0,e],?_,(aR.1 h1).1⟩
 rw[lG,e]
theorem Ah (c:List Int)(g:List Vtx)(hg:GraOK c g)(hl:g.length≤1000000)(sa:Nat)(u:Vtx)(hst:g[sa]?=some u):ag Tryz.prog 160 [.lst .vtx g,.int .i64 (sa:Int)] [] (.lst .bool (pfl g u)) []:=by
 have hsl:=(aR.1 hst).1
 have h7:=(ay.1 hg.com).2
 have h0:=NX hst
 have hrl:(List.replicate g.length false).length=g.length:=by simp
 have hre:(List.replicate g.length false)[sa]?=some false:=by rw[mE,if_pos hsl]
 have hre2:(List.replicate ((g.length:Int).toNat) false)[sa]?=some false:=hre
 refine ab aj Tryz.func160 rfl rfl true 0 4 rfl rfl rfl rfl fun K hK hb1 hb2=>?_;simp only[ae,enc,Nat.reduceAdd]
 clear hb1 hb2
 (repeat' first|refine st ?_|refine sa fun xe hxe=>?_|refine sb (fun hq=>?_) fun hq=>?_|exact aa)
 refine ah hK [] [0,5,6] (fun x:Nat×List Bool=>⟨[(0,.lst .vtx g),(5,.ref 4),(6,.int .i64 ((x.1:Int)-1))],[(4,.row 4 .bool x.2)],5⟩) (fun x=>Sph g u sa x.1 x.2∧x.1≤sa+1) (fun x=>x.1) (sa+1,(List.replicate g.length false).set sa true) ⟨h0,ax _⟩ ?_ ?_
 ·dsimp only
  rw[show (((sa+1:Nat):Int)-1)=(sa:Int) by omega]
  rfl
 rintro⟨m,re⟩ ⟨hS,hm⟩
 dsimp only at hS hm⊢
 have hrel:=hS.len
 cases m with
 |zero=>
  have he:=Jr hg hst hS
  (repeat' first|refine st ?_|refine sa fun xe hxe=>?_|refine sb (fun hq=>?_) fun hq=>?_|exact aa)
  exact⟨by rw[he],rfl⟩
 |succ m=>
  rw[show (((m+1:Nat):Int)-1)=(m:Int) by omega]
  have hI:=MB hS
  have hml:m<g.length:=by omega
  have hv:g[m]?=some g[m]:=am hml
  have hvr:=(bG (hg.vtx _ (br hv))).1
  have hpl:=eF (bG (hg.vtx _ (br hv))).2.2.1
  generalize g[m]=v at *
  clear hS
  (repeat' first|refine st ?_|refine sa fun xe hxe=>?_|refine sb (fun hq=>?_) fun hq=>?_|exact aa)
  refine ah hK [] [0,5,6,7] (fun y:Nat×List Bool=>⟨[(0,.lst .vtx g),(5,.ref 4),(6,.int .i64 (m:Int)),(7,.int .i64 (y.1:Int))],[(4,.row 4 .bool y.2)],5⟩) (fun y=>Spi g u sa m y.1 y.2∧y.1≤v.parents.length) (fun y=>v.parents.length-y.1) (0,re) ⟨hI,aX _⟩ rfl ?_
  rintro⟨j,rf⟩ ⟨hJ,hj⟩
  dsimp only at hJ hj⊢
  have hrl2:=hJ.len
  have hbm:rf[m]?=some rf[m]:=am (by omega)
  by_cases hlt:j<v.parents.length
  ·cases hb:rf[m] with
   |false=>
    rw[hb] at hbm
    have hS2:=Ck hJ hv (.inl hbm)
    (repeat' first|refine st ?_|refine sa fun xe hxe=>?_|refine sb (fun hq=>?_) fun hq=>?_|exact aa)
    exact⟨(m,rf),⟨hS2,by dsimp only;omega⟩,by dsimp only;omega,rfl⟩
   |true=>
    rw[hb] at hbm
    have hxe:v.parents[j]?=some v.parents[j]:=am hlt
    generalize v.parents[j]=a at *
    obtain⟨q,q1,q2,q3⟩:=L6 hg hv hxe
    have hF:=pD g (v.round-1) a
    rw[q2] at hF
    have hS2:=Js hg hJ hv hbm q1
    have hq:rf[q]?=some rf[q]:=am (by omega)
    (repeat' first|refine st ?_|refine sa fun xe hxe=>?_|refine sb (fun hq=>?_) fun hq=>?_|refine cr (hF) ?_|exact aa)
    exact⟨(j+1,rf.set q true),⟨hS2,by dsimp only;omega⟩,by dsimp only;omega,rfl⟩
  ·have hS2:=Ck hJ hv (.inr (by omega))
   cases hb:rf[m] with
   |false=>
    rw[hb] at hbm
    (repeat' first|refine st ?_|refine sa fun xe hxe=>?_|refine sb (fun hq=>?_) fun hq=>?_|exact aa)
    exact⟨(m,rf),⟨hS2,by dsimp only;omega⟩,by dsimp only;omega,rfl⟩
   |true=>
    rw[hb] at hbm
    (repeat' first|refine st ?_|refine sa fun xe hxe=>?_|refine sb (fun hq=>?_) fun hq=>?_|exact aa)
    exact⟨(m,rf),⟨hS2,by dsimp only;omega⟩,by dsimp only;omega,rfl⟩
theorem m3 {l:List Int}{w:Nat}(h1:1≤w)(h2:w≤l.length):l[((w:Int)-1).toNat]?=some (gn l w):=by
 rw[show ((w:Int)-1).toNat=w-1 by omega,gn,ar,am (by omega)]
 rfl
def FA (g:List Vtx)(l:List Int)(w:Nat):Int:=lG g (2*(w:Int)-1) (gn l w)
theorem m4 {c:List Int}{g:List Vtx}(hg:GraOK c g){l:List Int}{w:Nat}{k:Vtx}(h:pN g l w=some k):∃i:Nat,FA g l w=(i:Int)∧g[i]?=some k:=by
 obtain⟨h1,h2,h3⟩:=sS h
 obtain⟨i,hi⟩:=iR h1
 have:=nK hg hi
 rw[h2,h3] at this
 exact⟨i,by rw[FA,lG,this],hi⟩
theorem uw {g:List Vtx}{l:List Int}{w:Nat}(h:pN g l w=none):FA g l w= -1:=by
 have:g.findIdx? (e9 (2*(w:Int)-1) (gn l w))=none:=by
  rw[pj]
  intro x hx
  have:=List.find?_eq_none.1 h x hx
  simpa using this
 rw[FA,lG,this]
theorem BK (g:List Vtx)(l:List Int)(w:Nat)(h1:1≤w)(h2:w≤l.length)(h3:w≤1000000):ag Tryz.prog 161 [.lst .vtx g,.lst (.int .i64) l,.int .i64 (w:Int)] [] (.int .i64 (FA g l w)) []:=by
 have hx:=m3 h1 h2
 have hF:=pD g (2*(w:Int)-1) (gn l w)
 refine ab aj Tryz.func161 rfl rfl false 0 4 rfl rfl rfl rfl fun K hK hb1 hb2=>?_;simp only[ae,enc,Nat.reduceAdd]
 clear hb1 hb2
 (repeat' first|refine st ?_|refine sa fun xe hxe=>?_|refine sb (fun hq=>?_) fun hq=>?_|refine cr (hF) ?_|exact aa)
 exact⟨rfl,rfl⟩
theorem Ha {g:List Vtx}{l:List Int}{w i:Nat}{v:Vtx}(h:g[i]?=some v):tM (g.take (i+1)) l w=if(v.round==2*(w:Int) && v.parents.contains (gn l w))=true then tM (g.take i) l w++[v.author] else tM (g.take i) l w:=by
 have e:g.take (i+1)=g.take i++[v]:=by
  obtain⟨hi,rfl⟩:=aR.1 h
  exact b9 hi
 rw[tM,e,pk,cf,nG,mB]
 split
 ·rfl
 ·rw[ec,gy];rfl
theorem JF (g:List Vtx)(l:List Int)(w:Nat):(tM g l w).length≤g.length:=by
 unfold tM
 rw[aA]
 exact mG _ _
theorem N4 (c:List Int)(g:List Vtx)(l:List Int)(w:Nat)(hg:GraOK c g)(hl:g.length≤1000000)(h1:1≤w)(h2:w≤l.length)(h3:w≤1000000):ag Tryz.prog 187 [.lst (.int .i64) c,.lst .vtx g,.lst (.int .i64) l,.int .i64 (w:Int)] [] (.int .i64 (qW c g l w)) []:=by
 have hx:=m3 h1 h2
 have hL:=BK g l w h1 h2 h3
 have hcm:=(ay.1 hg.com).1
 refine ab aj Tryz.func187 rfl rfl false 0 4 rfl rfl rfl rfl fun K hK hb1 hb2=>?_;simp only[ae,enc,Nat.reduceAdd]
 clear hb1 hb2
 (repeat' first|refine st ?_|refine sa fun xe hxe=>?_|refine sb (fun hq=>?_) fun hq=>?_|exact aa)
 refine ah hK [] [0,1,2,3,9,10] (fun i:Nat=>⟨[(0,.lst (.int .i64) c),(1,.lst .vtx g),(2,.lst (.int .i64) l),(3,.int .i64 (w:Int)),(9,.int .i64 (lL c (tM (g.take i) l w))),(10,.int .i64 (i:Int))],[],4⟩) (fun i=>i≤g.length∧(0<i→(pN g l w).isSome=true)) (fun i=>g.length-i) 0 ⟨aX _,fun h=>absurd h (Nat.lt_irrefl 0)⟩ rfl ?_
 rintro i ⟨hi,hs⟩
 have hwb:=wB (ms:=tM (g.take i) l w) hg.com
 have hwl:=JF (g.take i) l w
 rw[bP] at hwl
 cases hk:pN g l w with
 |none=>
  rw[uw hk] at hL
  have hi0:i=0:=by
   rcases Nat.eq_zero_or_pos i with h|h
   ·exact h
   ·have:=hs h
    rw[hk] at this
    cases this
  subst hi0
  have he:qW c g l w=0:=by rw[qW,hk];rfl
  rw[he]
  have hz:lL c (tM (g.take 0) l w)=0:=rfl
  rw[hz]
  by_cases hlt:0<g.length
  ·(repeat' first|refine st ?_|refine sa fun xe hxe=>?_|refine sb (fun hq=>?_) fun hq=>?_|refine cr (hL) ?_|exact aa)
   exact⟨rfl,rfl⟩
  ·(repeat' first|refine st ?_|refine sa fun xe hxe=>?_|refine sb (fun hq=>?_) fun hq=>?_|refine cr (hL) ?_|exact aa)
   exact⟨rfl,rfl⟩
 |some k=>
  obtain⟨n,hn,-⟩:=m4 hg hk
  rw[hn] at hL
  have he:qW c g l w=lL c (tM g l w):=by rw[qW,hk];rfl
  by_cases hlt:i<g.length
  ·have hxe:g[i]?=some g[i]:=am hlt
   have hsn:=Ha (l:=l) (w:=w) hxe
   obtain⟨hvr,hva,-⟩:=bG (hg.vtx _ (br hxe))
   generalize g[i]=v at *
   have hH:=Bx v.parents (gn l w)
   cases h4:v.round==2*(w:Int)
   ·rw[h4,iD,if_neg (by simp)] at hsn
    (repeat' first|refine st ?_|refine sa fun xe hxe=>?_|refine sb (fun hq=>?_) fun hq=>?_|refine cr (hL) ?_|refine cr (hH) ?_|exact aa)
    exact⟨i+1,⟨by omega,fun _=>rfl⟩,by omega,by rw[hsn];rfl⟩
   ·cases h5:v.parents.contains (gn l w)
    ·rw[h4,h5,if_neg (by simp)] at hsn
     rw[h5] at hH
     (repeat' first|refine st ?_|refine sa fun xe hxe=>?_|refine sb (fun hq=>?_) fun hq=>?_|refine cr (hL) ?_|refine cr (hH) ?_|exact aa)
     exact⟨i+1,⟨by omega,fun _=>rfl⟩,by omega,by rw[hsn];rfl⟩
    ·rw[h4,h5,show (true && true)=true from rfl,if_pos rfl] at hsn
     rw[h5] at hH
     have hwn:=tH c (tM (g.take i) l w) v.author
     have hca:c[v.author.toNat]?=some (c.getD v.author.toNat 0):=by rw[ar,am (by omega)];rfl
     have hcb:=hcm _ (br hca)
     generalize c.getD v.author.toNat 0=cx at *
     generalize lL c (tM (g.take i) l w)=wx at *
     (repeat' first|refine st ?_|refine sa fun xe hxe=>?_|refine sb (fun hq=>?_) fun hq=>?_|refine cr (hL) ?_|refine cr (hH) ?_|exact aa)
     exact⟨i+1,⟨by omega,fun _=>rfl⟩,by omega,by rw[hsn,hwn];rfl⟩
  ·rw[bp (by omega)]
   (repeat' first|refine st ?_|refine sa fun xe hxe=>?_|refine sb (fun hq=>?_) fun hq=>?_|refine cr (hL) ?_|exact aa)
   exact⟨by rw[he],rfl⟩
theorem Ml {n i:Nat}(h:i<n):((List.range n).map some)[i]?=some (some i):=by
 rw[bf,qo h];rfl
theorem Aw {α:Type}(l:List α):l=[]∨∃l' x,l=l'++[x]:=by
 rcases List.eq_nil_or_concat l with h|⟨l',x,h⟩
 ·exact .inl h
 ·exact .inr ⟨l',x,by rw[h,List.concat_eq_append]⟩
theorem vQ (c:List Int)(g:List Vtx)(hg:GraOK c g)(hl:g.length≤1000000)(sa:Nat)(u:Vtx)(hst:g[sa]?=some u):ag Tryz.prog 156 [.ptr 4 0,.hpo 0 (some sa)] (gR c (db g)) (.lst (.int .i64) (pst g u)) (gR c (db g)):=by
 have hn:=(fo g).1
 have hsl:=(aR.1 hst).1
 have h7:=(ay.1 hg.com).2
 obtain⟨p0,hp0⟩:=lX hst
 have hrl:((List.range (db g).nodes.length).map some).length=g.length:=by simp[hn]
 have h0:=Nh hg hst
 have hre0:(List.replicate g.length false)[sa]?=some false:=by rw[mE,if_pos hsl]
 have hr0l:(List.replicate g.length false).length=g.length:=by simp
 have ht0:((List.replicate g.length false).set sa true)[sa]?=some true:=by rw[dp,if_pos rfl,if_pos (by omega)]
 have hix:0≤(sa:Int)∧(sa:Int)<((List.replicate ((((List.range (db g).nodes.length).map some).length:Int).toNat) false).length:Nat):=by rw[hrl,iA];omega
 have hfit:le 1 (((((List.range (db g).nodes.length).map some).length:Nat):Int).toNat):=by rw[hrl];unfold le;omega
 have hre2:(List.replicate ((((List.range (db g).nodes.length).map some).length:Int).toNat) false)[sa]?=some false:=by rw[hrl];exact hre0
 refine ab eO Tryz.func156 rfl rfl true 2 6 rfl rfl rfl rfl fun K hK hb1 hb2=>?_;simp only[ae,enc,Nat.reduceAdd]
 clear hb1 hb2
 (repeat' first|refine jU ?_|refine sa fun xe hxe=>?_|refine sb (fun hq=>?_) fun hq=>?_|exact aa)
 refine ah hK [] [5,6] (fun x:List Bool×List (Option Nat)=>⟨[(5,.ref 6),(6,.ref 7)],H3 c (db g) (.row 4 .bool x.1)++[(7,.row 178 (.hp 0) x.2)],8⟩) (fun x=>Dfs g u g.length 0 x.1 x.2∧x.1[sa]?=some true∧x.2.length+x.1.count false≤g.length+1) (fun x=>2*x.1.count false+x.2.length) ((List.replicate g.length false).set sa true,[some sa]) ⟨h0,ht0,?_⟩ (by simp only[hrl];rfl) ?_
 ·have:=vf hre0
  simp only[List.count_replicate_self] at this
  simp only[mF]
  omega
 rintro⟨re,wt⟩ ⟨hD,hS,hc⟩
 dsimp only at hD hS hc⊢
 have hrel:=hD.len
 rcases Aw wt with rfl|⟨wt,o,rfl⟩
 ·have hfin:=Du hrel fun i v hi=>HM hg hst hD hS hi
  have hnil:¬(0:Int)<((([]:List (Ty.hp 0).den).length:Nat):Int):=by simp
  (repeat' first|refine jU ?_|refine sa fun xe hxe=>?_|refine sb (fun hq=>?_) fun hq=>?_|exact aa)
  refine ah hK [] [10,70,71,72] (fun i:Nat=>⟨[(10,.ref 6),(70,.ref 7),(71,.int .i64 g.length),(72,.int .i64 (i:Int))],H3 c (db g) (.row 3 (.int .i64) (pb re i))++[(7,.row 4 .bool re)],8⟩) (fun i=>i≤g.length) (fun i=>g.length-i) 0 (aX _) (by simp only[hrel];rfl) ?_
  intro i hi
  have htl:=Dt re i
  by_cases hlt:i<g.length
  ·have hxe:re[i]?=some re[i]:=am (by omega)
   have hsn:=AI hxe
   cases hb:re[i] with
   |false=>
    rw[hb] at hxe hsn
    rw[if_neg (by simp)] at hsn
    (repeat' first|refine jU ?_|refine sa fun xe hxe=>?_|refine sb (fun hq=>?_) fun hq=>?_|exact aa)
    exact⟨i+1,by omega,by omega,by rw[hsn];rfl⟩
   |true=>
    rw[hb] at hxe hsn
    rw[if_pos rfl] at hsn
    (repeat' first|refine jU ?_|refine sa fun xe hxe=>?_|refine sb (fun hq=>?_) fun hq=>?_|exact aa)
    exact⟨i+1,by omega,by omega,by rw[hsn];rfl⟩
  ·obtain rfl:i=g.length:=by omega
   (repeat' first|refine jU ?_|refine sa fun xe hxe=>?_|refine sb (fun hq=>?_) fun hq=>?_|exact aa)
   exact⟨by rw[hfin],rfl⟩
 ·obtain⟨q,rfl,hq⟩:=hD.wtg o (by simp)
  have hql:q<g.length:=by have:=(aR.1 hq).1;omega
  obtain⟨v,hv⟩:∃v,g[q]?=some v:=⟨_,am hql⟩
  obtain⟨p,hp,hrow⟩:=xI hg hv
  have hD2:=HN hD (ep (ax _))
  have hwl:(wt++[some q]).length=wt.length+1:=by simp
  have hwx:(wt++[some q])[((((wt++[some q]).length:Nat):Int)-1).toNat]?=some (some q):=by
   rw[hwl,show (((wt.length+1:Nat):Int)-1).toNat=wt.length by omega];simp
  have hwt:(wt++[some q]).take ((((wt++[some q]).length:Nat):Int)-1).toNat=wt:=by
   rw[hwl,show (((wt.length+1:Nat):Int)-1).toNat=wt.length by omega];simp
  have hwc:wt.length+1+re.count false≤g.length+1:=by rw[hwl] at hc;exact hc
  clear hD hc
  generalize wt++[some q]=W at *
  have hcut:lT W none (some (.int .i64 ((W.length:Int)-1))) 0 ((W.length:Int)-1).toNat=wt:=hwt
  rcases hrow with⟨hpn,rfl⟩|⟨r,rfl,hrow⟩
  ·have hnx:=xi hD2 hv (by rw[hpn];simp)
   (repeat' first|refine jU ?_|refine sa fun xe hxe=>?_|refine sb (fun hq=>?_) fun hq=>?_|exact aa)
   refine ah hK [] [5,6,44,45,46] (fun j:Nat=>⟨[(5,.ref 6),(6,.ref 7),(44,.hro 1 none),(45,.int .i64 0),(46,.int .i64 (j:Int))],H3 c (db g) (.row 4 .bool re)++[(7,.row 178 (.hp 0) wt)],8⟩) (fun j=>j=0) (fun j=>j) 0 rfl (by simp only[hcut];rfl) ?_
   rintro j rfl
   (repeat' first|refine jU ?_|refine sa fun xe hxe=>?_|refine sb (fun hq=>?_) fun hq=>?_|exact aa)
   exact⟨(re,wt),⟨hnx,hS,by dsimp only;omega⟩,by dsimp only;omega,rfl⟩
  ·have hpxl:(pix g v).length=v.parents.length:=by simp[pix]
   have hpl:=eF (bG (hg.vtx v (br hv))).2.2.1
   (repeat' first|refine jU ?_|refine sa fun xe hxe=>?_|refine sb (fun hq=>?_) fun hq=>?_|exact aa)
   refine ah hK [] [5,6,44,45,46] (fun y:Nat×List Bool×List (Option Nat)=>⟨[(5,.ref 6),(6,.ref 7),(44,.hro 1 (some r)),(45,.int .i64 (pix g v).length),(46,.int .i64 (y.1:Int))],H3 c (db g) (.row 4 .bool y.2.1)++[(7,.row 178 (.hp 0) y.2.2)],8⟩) (fun y=>Dfs g u q y.1 y.2.1 y.2.2∧y.2.1[sa]?=some true∧y.1≤(pix g v).length∧y.2.2.length+y.2.1.count false=wt.length+re.count false∧y.2.1.count false≤re.count false) (fun y=>(pix g v).length-y.1) (0,re,wt) ⟨hD2,hS,aX _,rfl,ax _⟩ (by simp only[hcut];rfl) ?_
   rintro⟨j,rf,wf⟩ ⟨hJ,hJs,hj,hjc,hjm⟩
   dsimp only at hJ hJs hj hjc hjm⊢
   have hrl2:=hJ.len
   by_cases hlt:j<(pix g v).length
   ·have hxe:(pix g v)[j]?=some (pix g v)[j]:=am hlt
    obtain⟨q',x',e',hv',-,-⟩:=oQ hg (br hv) (br hxe)
    rw[e'] at hxe
    obtain⟨p',hp'⟩:=lX hv'
    have hq'l:=(aR.1 hv').1
    have hbq:rf[q']?=some rf[q']:=am (by omega)
    have hix2:0≤(q':Int)∧(q':Int)<(rf.length:Nat):=by omega
    cases hb:rf[q'] with
    |true=>
     rw[hb] at hbq
     have hsk:=El hJ hv hxe hbq
     (repeat' first|refine jU ?_|refine sa fun xe hxe=>?_|refine sb (fun hq=>?_) fun hq=>?_|exact aa)
     exact⟨(j+1,rf,wf),⟨hsk,hJs,by dsimp only;omega,hjc,hjm⟩,by dsimp only;omega,rfl⟩
    |false=>
     rw[hb] at hbq
     have hpu:=Ek hg hJ hv hxe hbq
     have hcs:=vf hbq
     (repeat' first|refine jU ?_|refine sa fun xe hxe=>?_|refine sb (fun hq=>?_) fun hq=>?_|exact aa)
     exact⟨(j+1,rf.set q' true,wf++[some q']),⟨hpu,gj hJs,by dsimp only;omega,by dsimp only;rw[aP];simp only[bF,dA];omega,by dsimp only;omega⟩,by dsimp only;omega,rfl⟩
   ·have hnx:=xi hJ hv (by omega)
    (repeat' first|refine jU ?_|refine sa fun xe hxe=>?_|refine sb (fun hq=>?_) fun hq=>?_|exact aa)
    exact⟨(rf,wf),⟨hnx,hJs,by dsimp only;omega⟩,by dsimp only;omega,rfl⟩
end Go.Proofs.YtpefhoohfkeflabGreatDoor.Am
namespace Go.Proofs.YtpefhoohfkeflabGreatDoor.Am
open Go Go.RowKit Go.Extern.Stop Go.Stop Go.Extern
set_option maxRecDepth 10000
theorem OC (v:Value)(w:World):(Extern.ReflectliteType.typeOf #[.iface 259 v]).run Tryz.prog w= .ok (.iface 249 (.agg #[.pointer (some ⟨9,259,none⟩)])) w:=by kernel_rfl
theorem Oy (w : World) : ((Extern.ReflectliteType.method fun t => do Rtype.noPackHeld "Comparable" t; (fun a => Value.bool a.comparable) <$> typeInfo t) #[.agg #[.pointer (some ⟨9, 259, none⟩)]]).run Tryz.prog w = .ok (.bool true) w := by kernel_rfl
theorem OA (v : Value) (w : World) : (Go.method 392 249 v "Comparable").run Tryz.prog w = .ok (257, v) w := by kernel_rfl
theorem Oz:(Tryz.prog.info? 259).map (·.comparable)=some true:=by kernel_rfl
theorem OB:(Tryz.prog.info? 281).map (·.size)=some 1:=by kernel_rfl
theorem Ox (a:Addr)(w:World):
  Calls Tryz.prog 201 #[.iface 259 (.pointer (some a)),.iface 259 (.pointer (some a))] w fun e w'=>e= .returned (.bool true)∧w'=w:=by
 obtain⟨i,hi,hcmp⟩:=bj.1 Oz
 obtain⟨j,hj,hjs⟩:=bj.1 OB
 have h8:=@run_callFunc_extern Tryz.prog 215 _ Extern.ReflectliteType.typeOf Tryz.func215 (by kernel_rfl) (by kernel_rfl) (by kernel_rfl) (by kernel_rfl)
 have h32 := @run_callFunc_extern Tryz.prog 257 _ (Extern.ReflectliteType.method fun t => do Rtype.noPackHeld "Comparable" t; pure (.bool (← typeInfo t).comparable)) Tryz.func257 (by kernel_rfl) (by kernel_rfl) (by kernel_rfl) (by kernel_rfl)
 have tT:=OC
 have cT:=Oy
 have mR:=OA
 have heq:=run_eql_iface_ptr_same (P:=Tryz.prog) w a Tryz.underlying107 Tryz.underlying259 hi hcmp hj
 go_enter Tryz.func201,Tryz.ntmps201
 go_wp2
 refine wp_loop_rounds 1 ?_
 rw[rounds_succ]
 go_wp2
 go_ret
 exact⟨rfl,rfl⟩
theorem Ow (b:Addr)(w:World):
  Calls Tryz.prog 201 #[.nilIface,.iface 259 (.pointer (some b))] w fun e w'=>e= .returned (.bool false)∧w'=w:=by
 have hn:=run_eql_iface_nil_left (P:=Tryz.prog) w 259 (.pointer (some b)) Tryz.underlying107
 go_enter Tryz.func201,Tryz.ntmps201
 go_wp2
 go_ret
 exact⟨rfl,rfl⟩
theorem EY {ρ:Id→Pl}{L:Id→Prop}{ok:Nat→Prop}{w:World}{v:Value}(h:C ρ L ok w (.gv 6) v):∃ad,v= .iface 259 (.pointer (some ad))∧w.cell? ⟨6,0,none⟩=some (.iface 259 (.pointer (some ad))):=by
 obtain⟨x,ad,rfl,hx,-,hc⟩:=h.gv_inv
 obtain rfl:(259,107)=x:=aq hx
 exact⟨ad,rfl,hc⟩
theorem yP {vs:Array Value}(h:2=vs.size):∃v1 v2,vs= #[v1,v2]:=by
 refine⟨vs[0],vs[1],Array.ext (by simp[←h]) fun i h1 h2=>?_⟩
 have:i=0∨i=1:=by simp at h2;omega
 rcases this with rfl|rfl<;>rfl
theorem KJ:ag Tryz.prog 201 [.gv 6,.gv 6] [] (.bool true) []:=by
 unfold ag
 refine iY ⟨_,Tryz.func201,rfl,rfl⟩ fun w ok ρ vs hl hc=>?_
 obtain⟨v1,v2,rfl⟩:=yP hl
 obtain⟨ad,rfl,c1⟩:=EY (hc 0 (by decide))
 obtain⟨ad',e2,c2⟩:=EY (hc 1 (by decide))
 rw[c1] at c2
 have e:v2= .iface 259 (.pointer (some ad)):=e2.trans (aq c2).symm
 subst e
 refine(Ox ad w).mono ?_
 rintro e w' ⟨rfl,rfl⟩
 exact⟨_,rfl,⟨rfl,rfl,rfl,ax _,fun _ _=>rfl⟩,fun ok'=>.bool _⟩
theorem KI:ag Tryz.prog 201 [.nili,.gv 6] [] (.bool false) []:=by
 unfold ag
 refine iY ⟨_,Tryz.func201,rfl,rfl⟩ fun w ok ρ vs hl hc=>?_
 obtain⟨v1,v2,rfl⟩:=yP hl
 have e1:C ρ (fun _=>False) ok w .nili v1:=hc 0 (by decide)
 obtain rfl:=e1.nili_inv
 obtain⟨ad',e2,-⟩:=EY (hc 1 (by decide))
 have e2:v2= .iface 259 (.pointer (some ad')):=e2
 subst e2
 refine(Ow ad' w).mono ?_
 rintro e w' ⟨rfl,rfl⟩
 exact⟨_,rfl,⟨rfl,rfl,rfl,ax _,fun _ _=>rfl⟩,fun ok'=>.bool _⟩

end Go.Proofs.YtpefhoohfkeflabGreatDoor.Am
