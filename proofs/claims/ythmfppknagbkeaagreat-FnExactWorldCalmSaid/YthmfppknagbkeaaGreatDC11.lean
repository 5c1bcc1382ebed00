/- Runs: a run as the program hands it back, in rows of one's own. Runs: WorldNew in rows of one's own; the law FnExactWorldNew. Runs: what an event does to a run. Runs: impl's WorldDo and WorldPlay. Runs: impl's quiet rounds. Runs: the program's WorldDo, WorldPlay, WorldCalm, their results in rows of one's own. The exact laws' own functions: marks on own rows within own rows, in families 2 and 3 (as XEB has them for 0 and 1). The law FnExactWorldNew. Runs: quiet rounds, copies, whole events: what the specification gives. What is drawn for new runs; the law FnWorldNew. What is drawn for runs. Wha -/
import Derived.Test.YthmfppknagbkeaaGreatDC10
set_option linter.unusedSimpArgs false
set_option linter.unusedVariables false
set_option maxHeartbeats 1000000
namespace Go.Proofs.YthmfppknagbkeaaGreat.Am
open Go
attribute [local irreducible] Mk bN Ari fe pI km cj eC ja iB At ah
set_option maxRecDepth 10000
theorem C2 (tabs:List (List (Option Vtx)))(k:Nat)(tab:List (Option Vtx))(pss:List (List Int))(hk:tabs[k]?=some tab)(ht:tab.length=217)(hv:∀v,some v∈tab→v.parents.length≤1000000):ah Tryz.prog 91 [.hpo 0 (some k)] [(0,.fvari 142 217 (.ob .vtx) tabs),(3,.frow 3 (.int .i64) pss)] (.ref 4) [(0,.fvari 142 217 (.ob .vtx) tabs),(3,.frow 3 (.int .i64) (pss++(aV tab).map (·.parents))),(4,.row 43 (.vtxo 3) (iw pss.length (aV tab)))]:=by
 have h:=E9 tabs k tab pss hk ht hv
 unfold ah at h⊢
 exact h
abbrev yU (s:Int)(c l:List Int)(b:Int)(tabs:List (List (Option Vtx)))(xss:List (Option (List Int)))(ms:List PplM)(vss:List (List VtxO))(pss:List (List Int)):VH:=[(0,.fvari 142 217 (.ob .vtx) tabs),(1,.frowx 3 (.int .i64) xss),(2,.frow 43 (.vtxo 3) vss),(3,.frow 3 (.int .i64) pss),(4,.var 83 [.int .i32 s,.int .u32 0,.lst (.int .i64) c,.lst (.int .i64) l,.int .i64 b,.ref 5,.ref 6]),(5,.row 115 (.hp 0) ((List.range tabs.length).map some)),(6,.row 104 (.pplm 1) ms)]
abbrev Ht (c l:List Int)(b:Int)(ps:List Ppl):VH:=[(7,VB.var 31 [.nils,.nils,.int .i64 0,.nils,.nils]),(8,VB.var 31 [.ref 9,.ref 10,.int .i64 b,.nils,.ref 11]),(9,VB.row 3 (.int .i64) c),(10,VB.row 3 (.int .i64) l),(11,VB.row 104 (.pplo 3 3) (fN 0 ps))]
abbrev GM (c l:List Int)(b:Int)(ps:List Ppl)(hs:List (Option Nat)):VH:=[(7,VB.var 31 [.nils,.nils,.int .i64 0,.nils,.nils]),(8,VB.var 31 [.ref 9,.ref 10,.int .i64 b,.ref 11,.ref 12]),(9,VB.row 3 (.int .i64) c),(10,VB.row 3 (.int .i64) l),(11,VB.row 102 (.hr 2) hs),(12,VB.row 104 (.pplo 3 3) (fN 0 ps))]
def sr (s:Int)(c l:List Int)(b:Int)(tabs:List (List (Option Vtx)))(xss:List (Option (List Int)))(ms:List PplM)(ps:List Ppl):Nat→VSt
 |0=>⟨[(2,.ptr 7 0),(3,.ptr 8 0),(30,.ref 5),(31,.int .i64 tabs.length),(32,.int .i64 0)],yU s c l b tabs xss ms [] (aI ps)++Ht c l b ps,12⟩
 |i+1=>⟨[(2,.ptr 7 0),(3,.ptr 8 0),(30,.ref 5),(31,.int .i64 tabs.length),(32,.int .i64 ((i+1:Nat):Int))],yU s c l b tabs xss ms (fE (aI ps).length ((tabs.take (i+1)).map aV)) (aI ps++bd ((tabs.take (i+1)).map aV))++GM c l b ps ((List.range (i+1)).map some),13⟩
set_option maxHeartbeats 1000000 in
theorem C5 (s:Int)(c l:List Int)(b:Int)(tabs:List (List (Option Vtx)))(xss:List (Option (List Int)))(ms:List PplM)(ps:List Ppl)(hR:Rel ps xss ms)(hc:c≠[])(hcl:c.length≤1000000)(hll:l.length≤1000000)(ht:∀t∈tabs,t.length=217∧∀v,some v∈t→v.parents.length≤1000000)(htl:tabs.length≤7)(htl1:1≤tabs.length)
  (hv:∀p∈ps,p.v.parents.length≤1000000∧p.members.length≤1000000) (hpn:ps.length≤1000000):ah Tryz.prog 41 [.ptr 4 0] (yU s c l b tabs xss ms [] []) (.agg [.ref 7,.ref 8,.int .i64 b,.ref 9,.ref 10])
   (yU s c l b tabs xss ms (fE (aI ps).length (tabs.map aV)) (aI ps++bd (tabs.map aV))++[(7,.row 3 (.int .i64) c),(8,.row 3 (.int .i64) l),(9,.row 102 (.hr 2) ((List.range tabs.length).map some)),(10,.row 104 (.pplo 3 3) (fN 0 ps))]):=by
 have hC:=EW c hc hcl
 have hP:=EZ ps xss ms hR hv hpn
 have hrl:((List.range tabs.length).map some).length=tabs.length:=by simp
 have hF:=lG 3 (aI ps)
 refine aa kl Tryz.func41 rfl rfl false 3 7 rfl rfl rfl rfl fun K hK hb1 hb2=>?_;simp only[ae,enc,Nat.reduceAdd]
 clear hb1 hb2
 (repeat' first|refine y6 ?_|refine sa fun xe hxe=>?_|refine sb (fun hq=>?_) fun hq=>?_|refine cr (hC) ?_|((with_reducible refine iH [1,3] ?_);(conv=>whnf);(with_reducible refine ax (hP) ?_);conv=>whnf)|exact True.intro)
 refine af hK [] [2,3,30,31,32] (sr s c l b tabs xss ms ps) (fun i=>i≤tabs.length) (fun i=>tabs.length-i) 0 (by simp) (by simp only[hrl];(conv=>whnf);rfl) ?_
 intro i hi
 by_cases hlt:i<tabs.length
 ·have hxe:tabs[i]?=some tabs[i]:=List.getElem?_eq_getElem hlt
  have hsn:(tabs.take (i+1)).map aV=(tabs.take i).map aV++[aV tabs[i]]:=by rw[List.take_succ_eq_append_getElem hlt,List.map_append];rfl
  obtain⟨t1,t2⟩:=ht _ (List.getElem_mem hlt)
  have hxv:((List.range tabs.length).map some)[i]?=some (some i):=by rw[List.getElem?_map,List.getElem?_range hlt];rfl
  have hg1:fE (aI ps).length ((tabs.take (i+1)).map aV)=fE (aI ps).length ((tabs.take i).map aV)++[iw (aI ps++bd ((tabs.take i).map aV)).length (aV tabs[i])]:=by rw[hsn,oq,List.length_append]
  have hg2:aI ps++bd ((tabs.take (i+1)).map aV)=(aI ps++bd ((tabs.take i).map aV))++(aV tabs[i]).map (·.parents):=by rw[hsn,qg,List.append_assoc]
  have hgl:(fE (aI ps).length ((tabs.take i).map aV)).length=i:=by rw[xj,List.length_map,List.length_take];omega
  have hV:=C2 tabs i _ (aI ps++bd ((tabs.take i).map aV)) hxe t1 t2
  have hF:=oa 3 (aI ps++bd ((tabs.take i).map aV)) ((aV tabs[i]).map (·.parents))
  cases i with
  |zero=>
   have hst:sr s c l b tabs xss ms ps (0+1)=⟨[(2,.ptr 7 0),(3,.ptr 8 0),(30,.ref 5),(31,.int .i64 tabs.length),(32,.int .i64 ((0+1:Nat):Int))],yU s c l b tabs xss ms ([]++[iw (aI ps).length (aV tabs[0])]) (aI ps++(aV tabs[0]).map (·.parents))++GM c l b ps [some 0],13⟩:=by
    rw[sr,hg1,hg2]
    simp[bd,fE]
   have hs0:sr s c l b tabs xss ms ps 0=⟨[(2,.ptr 7 0),(3,.ptr 8 0),(30,.ref 5),(31,.int .i64 tabs.length),(32,.int .i64 0)],yU s c l b tabs xss ms [] (aI ps)++Ht c l b ps,12⟩:=rfl
   have hx0:((List.range tabs.length).map some)[(0:Int).toNat]?=some (some 0):=hxv
   have e0:aI ps++bd ((tabs.take 0).map aV)=aI ps:=by simp[bd]
   rw[e0] at hV hF
   rw[hs0]
   (repeat' first|refine y6 ?_|refine sa fun xe hxe=>?_|refine sb (fun hq=>?_) fun hq=>?_|((with_reducible refine iH [0,3] ?_);(conv=>whnf);(with_reducible refine ax (hV) ?_);conv=>whnf)|exact True.intro)
   refine⟨0+1,by omega,by omega,?_⟩
   rw[hst]
   rfl
  |succ i=>
   have hrg:(List.range (i+1+1)).map some=(List.range (i+1)).map some++[some (i+1)]:=by rw[List.range_succ,List.map_append];rfl
   have hst:sr s c l b tabs xss ms ps (i+1+1)=⟨[(2,.ptr 7 0),(3,.ptr 8 0),(30,.ref 5),(31,.int .i64 tabs.length),(32,.int .i64 ((i+1+1:Nat):Int))],yU s c l b tabs xss ms (fE (aI ps).length ((tabs.take (i+1)).map aV)++[iw (aI ps++bd ((tabs.take (i+1)).map aV)).length (aV tabs[i+1])]) ((aI ps++bd ((tabs.take (i+1)).map aV))++(aV tabs[i+1]).map (·.parents))++GM c l b ps ((List.range (i+1)).map some++[some (fE (aI ps).length ((tabs.take (i+1)).map aV)).length]),13⟩:=by
    rw[sr,hg1,hg2,hrg,hgl]
   have hs0:sr s c l b tabs xss ms ps (i+1)=⟨[(2,.ptr 7 0),(3,.ptr 8 0),(30,.ref 5),(31,.int .i64 tabs.length),(32,.int .i64 ((i+1:Nat):Int))],yU s c l b tabs xss ms (fE (aI ps).length ((tabs.take (i+1)).map aV)) (aI ps++bd ((tabs.take (i+1)).map aV))++GM c l b ps ((List.range (i+1)).map some),13⟩:=rfl
   have hrl2:((List.range (i+1)).map some).length=i+1:=by simp
   rw[hs0]
   clear hs0 hg1 hg2
   generalize tabs[i+1]=tab at *
   generalize hvss:fE (aI ps).length ((tabs.take (i+1)).map aV)=vss at *
   generalize aI ps++bd ((tabs.take (i+1)).map aV)=pss at *
   generalize (List.range (i+1)).map some=hs at *
   (repeat' first|refine y6 ?_|refine sa fun xe hxe=>?_|refine sb (fun hq=>?_) fun hq=>?_|((with_reducible refine iH [0,3] ?_);(conv=>whnf);(with_reducible refine ax (hV) ?_);conv=>whnf)|exact True.intro)
   refine⟨i+1+1,by omega,by omega,?_⟩
   rw[hst]
   rfl
 ·cases i with
  |zero=>omega
  |succ i=>
   obtain hn:i+1=tabs.length:=by omega
   have hs0:sr s c l b tabs xss ms ps (i+1)=⟨[(2,.ptr 7 0),(3,.ptr 8 0),(30,.ref 5),(31,.int .i64 tabs.length),(32,.int .i64 ((i+1:Nat):Int))],yU s c l b tabs xss ms (fE (aI ps).length (tabs.map aV)) (aI ps++bd (tabs.map aV))++GM c l b ps ((List.range tabs.length).map some),13⟩:=by
    rw[sr,List.take_of_length_le (by omega),hn]
   rw[hs0]
   clear hs0
   generalize fE (aI ps).length (tabs.map aV)=vss at *
   generalize aI ps++bd (tabs.map aV)=pss at *
   (repeat' first|refine y6 ?_|refine sa fun xe hxe=>?_|refine sb (fun hq=>?_) fun hq=>?_|exact True.intro)
   exact⟨rfl,rfl⟩
theorem C3 (s:Int)(w:Wrl)(xss:List (Option (List Int)))(ms:List PplM)(h:eX w=true)(hR:Rel w.props xss ms):ah Tryz.prog 41 [.ptr 4 0] (yU s w.com w.lead w.bad (w.views.map ay) xss ms [] []) (.agg [.ref 7,.ref 8,.int .i64 w.bad,.ref 9,.ref 10])
  (yU s w.com w.lead w.bad (w.views.map ay) xss ms (fE (aI w.props).length w.views) (aI w.props++bd w.views)++[(7,.row 3 (.int .i64) w.com),(8,.row 3 (.int .i64) w.lead),(9,.row 102 (.hr 2) ((List.range w.views.length).map some)),(10,.row 104 (.pplo 3 3) (fN 0 w.props))]):=by
 obtain⟨h1,h2,h3,h4,h5,h6⟩:=kf h
 have h7:=(aw.1 h1).2
 have hll:=(gw.1 h2).2
 have hps:=nv h
 have hpl:=ju h4
 have hne:w.com≠[]:=fun h=>by rw[h] at h7;simp at h7
 have hc:=C5 s w.com w.lead w.bad (w.views.map ay) xss ms w.props hR hne (by omega) (by omega) (fun t ht=>by
  obtain⟨g,hg,rfl⟩:=List.mem_map.1 ht
  refine⟨cf g,fun v hv=>?_⟩
  have:=(lb h g hg v (uF hv)).2
  omega) (by rw[List.length_map];omega) (by rw[List.length_map];omega) (fun p hp=>by have:=(hps p hp).2.2.2;omega) (by omega)
 rw[qu h,List.length_map] at hc
 exact hc
abbrev Bn (w:Wrl):VH:=[(2,.frow 43 (.vtxo 3) (fE (aI w.props).length w.views)),(3,.frow 3 (.int .i64) (aI w.props++bd w.views)),(4,.row 3 (.int .i64) w.com),(5,.row 3 (.int .i64) w.lead),(6,.row 102 (.hr 2) ((List.range w.views.length).map some)),(7,.row 104 (.pplo 3 3) (fN 0 w.props))]
set_option maxHeartbeats 1000000 in
theorem CL (c l:List Int)(b:Int)(tabs:List (List (Option Vtx)))(xss xss':List (Option (List Int)))(ms ms':List PplM)(e:Evt)(hx:xss.length≤xss'.length)(hk:e.kind=1∨e.kind=4)
  (h1:e.kind=1→ah Tryz.prog 85 [.ptr 4 0,.int .i64 e.a,.int .i64 e.b] (rX 1 c l b tabs xss ms) (.bool true) (GE 1 c l b tabs xss' ms'))
  (h4:e.kind=4→ah Tryz.prog 88 [.ptr 4 0,bz e.v] (rX 1 c l b tabs xss ms) (.bool true) (GE 1 c l b tabs xss' ms')):ah Tryz.prog 40 [.ptr 4 0,jM e] (rX 0 c l b tabs xss ms) (.bool true) (GE 0 c l b tabs xss' ms'):=by
 refine wQ A6 aR Tryz.func40 rfl rfl false 3 7 rfl rfl rfl rfl (by exact Live.of_look (am (i:=0) (x:=.var 83 [.int .i32 0,.int .u32 0,.lst (.int .i64) c,.lst (.int .i64) l,.int .i64 b,.ref 5,.ref 6]) rfl rfl)) fun K hK hK4 hb1 hb2=>?_;simp only[ae,enc,Nat.reduceAdd]
 clear hb1 hb2
 have hL:=xq c l b tabs xss ms
 have hF1:ao (VB.frowx 3 (.int .i64) xss)≤ao (VB.frowx 3 (.int .i64) xss'):=hx
 refine mY ?_
 (repeat' first|refine aY ?_|refine sa fun xe hxe=>?_|refine sb (fun hq=>?_) fun hq=>?_|exact True.intro)
 refine⟨rfl,mY ?_⟩
 (repeat' first|refine aY ?_|refine sa fun xe hxe=>?_|refine sb (fun hq=>?_) fun hq=>?_|refine cr (hL) ?_|exact True.intro)
 refine⟨rfl,sG ?_⟩
 refine wM aR (l:=[_,_,_]) (od:=_) rfl ⟨rfl,rfl,rfl⟩ (by decide) ?_
 (conv=>whnf)
 (repeat' first|refine aY ?_|refine sa fun xe hxe=>?_|refine sb (fun hq=>?_) fun hq=>?_|exact True.intro)
 refine⟨rfl,hK4,rfl,?_⟩
 by_cases c1:e.kind=1
 ·have h:=h1 c1
  (repeat' first|refine aY ?_|refine sa fun xe hxe=>?_|refine sb (fun hq=>?_) fun hq=>?_|refine cr (h) ?_|exact True.intro)
  exact⟨rfl,rfl⟩
 ·have c4:e.kind=4:=hk.resolve_left c1
  have h:=h4 c4
  (repeat' first|refine aY ?_|refine sa fun xe hxe=>?_|refine sb (fun hq=>?_) fun hq=>?_|refine cr (h) ?_|exact True.intro)
  exact⟨rfl,rfl⟩
theorem nf (w:Wrl)(xss:List (Option (List Int)))(ms:List PplM)(hw:WOK w)(hR:Rel w.props xss ms)(e:Evt)(h:pj w e=true):∃x:List (Option (List Int))×List PplM,(Rel (dX w e).props x.1 x.2∧xss.length≤x.1.length)∧ah Tryz.prog 40 [.ptr 4 0,jM e] (rW 0 w xss ms) (.bool true) (GC 0 (dX w e) x.1 x.2):=by
 have key:∃v,dX w e=pi w v∧(e.kind=1→fF w e.a e.b=true∧v=eM w e.a e.b)∧(e.kind=4→fD w e.v=true∧v=e.v)∧(e.kind=1∨e.kind=4):=by
  unfold pj at h
  by_cases c1:e.kind=1
  ·have hp:fF w e.a e.b=true:=by simpa[c1] using h
   exact⟨eM w e.a e.b,by unfold dX dp;rw[if_pos c1,if_pos hp],fun _=>⟨hp,rfl⟩,fun c=>by omega,.inl c1⟩
  ·have hp:e.kind=4∧fD w e.v=true:=by simpa[c1] using h
   exact⟨e.v,by unfold dX mS;rw[if_neg c1,if_neg (by omega),if_neg (by omega),if_pos hp.1,if_pos hp.2],fun c=>absurd c c1,fun _=>⟨hp.2,rfl⟩,.inr hp.1⟩
 obtain⟨v,k1,k2,k3,k4⟩:=key
 rw[k1]
 refine⟨(xss++[some []],ms++[(⟨v,some xss.length⟩:PplM)]),⟨hR.add v,by simp⟩,?_⟩
 refine CL w.com w.lead w.bad (w.views.map ay) xss _ ms _ e (by simp) k4 (fun c=>?_) fun c=>?_
 ·obtain⟨a1,rfl⟩:=k2 c
  have hC:=AS 1 w xss ms hw hR e.a e.b
  rw[a1] at hC
  exact hC
 ·obtain⟨a1,rfl⟩:=k3 c
  have hC:=AM 1 w xss ms hw hR e.v
  rw[a1] at hC
  exact hC
theorem zf {w:Wrl}(hw:WOK w){m:Int}(hm:0≤m∧m<w.com.length){v:Vtx}(hv:fL v)(hn:cx (view w m) v.round v.author=false):(w.views.set m.toNat (ee (view w m) v)).map ay=ww w m v:=by
 have hG:=(gL hw hm).2
 rw[List.map_set,BX (fun u hu=>cN hw.com (hG.vtx u hu)) hv hn]
theorem kK (w:Wrl)(xss:List (Option (List Int)))(ms:List PplM)(hw:WOK w)(hR:Rel w.props xss ms)(e:Evt)(h:pj w e=false):∃x:List (Option (List Int))×List PplM,(Rel (dX w e).props x.1 x.2∧xss.length≤x.1.length)∧ah Tryz.prog 40 [.ptr 4 0,jM e] (rW 0 w xss ms) (.bool (pc w e)) (rW 0 (dX w e) x.1 x.2):=by
 have no:∀{k:Int},e.kind=k→∀{j:Int},k≠j→¬e.kind=j:=fun h1 _ h2 h3=>h2 (h1.symm.trans h3)
 by_cases c1:e.kind=1
 ·have hp:fF w e.a e.b=false:=by simpa[pj,c1] using h
  have hd:dX w e=w:=by unfold dX dp;rw[if_pos c1,hp];rfl
  have hg:pc w e=false:=by unfold pc;rw[if_neg (by omega),if_neg (by omega),if_neg (by omega)]
  have hC:=AS 1 w xss ms hw hR e.a e.b
  rw[hp] at hC
  rw[hd,hg]
  exact⟨(xss,ms),⟨hR,Nat.le_refl _⟩,df w.com w.lead w.bad _ _ xss xss ms ms e false (Nat.le_refl _) (Nat.le_refl _) (fun _=>hC) (fun c=>by omega) (fun c=>by omega) (fun c=>by omega) (fun c=>by omega) (fun c=>by omega)⟩
 by_cases c2:e.kind=2
 ·have hd:dX w e=fb w e.a e.b:=by unfold dX;rw[if_neg c1,if_pos c2]
  have hg:pc w e=(fG w e.a e.b && !(prop w e.b).members.contains e.a):=by unfold pc;rw[if_pos c2]
  rw[hd,hg]
  cases hi:nh w e.b
  ·have hv:fG w e.a e.b=false:=by unfold fG;rw[hi];simp
   have hs:fb w e.a e.b=w:=by unfold fb;rw[hv];rfl
   rw[hs,hv]
   exact⟨(xss,ms),⟨hR,Nat.le_refl _⟩,df w.com w.lead w.bad _ _ xss xss ms ms e false (Nat.le_refl _) (Nat.le_refl _) (fun c=>absurd c c1) (fun _=>C1 1 w xss ms hw hR e.a e.b hi) (fun c=>by omega) (fun c=>by omega) (fun c=>by omega) (fun c=>by omega)⟩
  ·obtain⟨n,hn,hn1,hn2⟩:=lV hi
   obtain⟨j,hj1,hj2⟩:=hR.get n _ hn2
   have hC:=E6 1 w xss ms hw hR e.a n j (by rw[←hn];exact hi) (by rw[←hn];exact hj1) (by rw[←hn];exact hj2)
   rw[←hn] at hC
   have ha:=fy (lY hw (List.mem_of_getElem? hn2)).2
   cases hf:(fG w e.a e.b && !(prop w e.b).members.contains e.a)
   ·have hs:fb w e.a e.b=w:=by
     unfold fb
     split
     ·rename_i hv
      rw[hv,Bool.true_and] at hf
      exact sO hi ha (by simpa using hf)
     ·rfl
    rw[hf] at hC
    rw[hs]
    exact⟨(xss,ms),⟨hR,Nat.le_refl _⟩,df w.com w.lead w.bad _ _ xss xss ms ms e false (Nat.le_refl _) (Nat.le_refl _) (fun c=>absurd c c1) (fun _=>hC) (fun c=>by omega) (fun c=>by omega) (fun c=>by omega) (fun c=>by omega)⟩
   ·have hv:fG w e.a e.b=true:=(Bool.and_eq_true .. ▸hf:_∧_).1
    have hs:fb w e.a e.b=iZ w e.b e.a:=by unfold fb;rw[hv];rfl
    rw[hf] at hC
    rw[hs]
    have hR2:=hR.cast hj1 (dH (prop w e.b).members e.a)
    refine⟨(_,_),?_,df w.com w.lead w.bad _ _ xss _ ms _ e true (Nat.le_refl _) (by simp) (fun c=>absurd c c1) (fun _=>hC) (fun c=>by omega) (fun c=>by omega) (fun c=>by omega) (fun c=>by omega)⟩
    refine⟨?_,by simp⟩
    have:e.b.toNat=n:=by omega
    show Rel (w.props.set e.b.toNat _) _ _
    rw[this]
    exact hR2
 by_cases c3:e.kind=3
 ·have hd:dX w e=cz w e.a e.b:=by unfold dX;rw[if_neg c1,if_neg c2,if_pos c3]
  have hg:pc w e=dk w e.a e.b:=by unfold pc;rw[if_neg c2,if_pos c3]
  rw[hd,hg]
  cases hi:nh w e.b
  ·have hv:dk w e.a e.b=false:=by unfold dk;rw[hi];simp
   have hs:cz w e.a e.b=w:=by unfold cz;rw[hv];rfl
   rw[hs,hv]
   exact⟨(xss,ms),⟨hR,Nat.le_refl _⟩,df w.com w.lead w.bad _ _ xss xss ms ms e false (Nat.le_refl _) (Nat.le_refl _) (fun c=>absurd c c1) (fun c=>absurd c c2) (fun _=>CR 1 w xss ms hw hR e.a e.b hi) (fun c=>by omega) (fun c=>by omega) (fun c=>by omega)⟩
  ·obtain⟨n,hn,hn1,hn2⟩:=lV hi
   obtain⟨j,hj1,hj2⟩:=hR.get n _ hn2
   have hC:=E0 1 w xss ms hw hR e.a n j (by rw[←hn];exact hi) (by rw[←hn];exact hj1) (by rw[←hn];exact hj2)
   rw[←hn] at hC
   cases hf:dk w e.a e.b
   ·have hs:cz w e.a e.b=w:=by unfold cz;rw[hf];rfl
    rw[hf] at hC
    rw[hs]
    exact⟨(xss,ms),⟨hR,Nat.le_refl _⟩,df w.com w.lead w.bad _ _ xss xss ms ms e false (Nat.le_refl _) (Nat.le_refl _) (fun c=>absurd c c1) (fun c=>absurd c c2) (fun _=>hC) (fun c=>by omega) (fun c=>by omega) (fun c=>by omega)⟩
   ·have hs:cz w e.a e.b={w with views:=w.views.set e.a.toNat (ee (view w e.a) (prop w e.b).v)}:=by unfold cz;rw[hf];rfl
    rw[hf] at hC
    rw[hs]
    unfold dk at hf
    simp only[Bool.and_eq_true,Bool.not_eq_true'] at hf
    have hvw:=zf hw (cZ.1 hf.1).1 (cN hw.com (lY hw (List.mem_of_getElem? hn2)).1) hf.2.2.2.1
    refine⟨(xss,ms),⟨hR,Nat.le_refl _⟩,?_⟩
    show ah _ _ _ _ _ (rX 0 w.com w.lead w.bad ((w.views.set e.a.toNat (ee (view w e.a) (prop w e.b).v)).map ay) xss ms)
    rw[hvw]
    exact df w.com w.lead w.bad _ (ww w e.a (prop w e.b).v) xss xss ms ms e true (by simp[ww]) (Nat.le_refl _) (fun c=>absurd c c1) (fun c=>absurd c c2) (fun _=>hC) (fun c=>by omega) (fun c=>by omega) (fun c=>by omega)
 by_cases c4:e.kind=4
 ·have hp:fD w e.v=false:=by simpa[pj,c4] using h
  have hd:dX w e=w:=by unfold dX mS;rw[if_neg c1,if_neg c2,if_neg c3,if_pos c4,hp];rfl
  have hg:pc w e=false:=by unfold pc;rw[if_neg (by omega),if_neg (by omega),if_neg (by omega)]
  have hC:=AM 1 w xss ms hw hR e.v
  rw[hp] at hC
  rw[hd,hg]
  exact⟨(xss,ms),⟨hR,Nat.le_refl _⟩,df w.com w.lead w.bad _ _ xss xss ms ms e false (Nat.le_refl _) (Nat.le_refl _) (fun c=>absurd c c1) (fun c=>absurd c c2) (fun c=>absurd c c3) (fun _=>hC) (fun c=>by omega) (fun c=>by omega)⟩
 by_cases c5:e.kind=5
 ·have hd:dX w e=iY w e.b:=by unfold dX;rw[if_neg c1,if_neg c2,if_neg c3,if_neg c4,if_pos c5]
  have hg:pc w e=(iF w e.b && !(prop w e.b).members.contains w.bad):=by unfold pc;rw[if_neg c2,if_neg c3,if_pos c5]
  rw[hd,hg]
  cases hi:nh w e.b
  ·have hv:iF w e.b=false:=by unfold iF;rw[hi];simp
   have hs:iY w e.b=w:=by unfold iY;rw[hv];rfl
   rw[hs,hv]
   exact⟨(xss,ms),⟨hR,Nat.le_refl _⟩,df w.com w.lead w.bad _ _ xss xss ms ms e false (Nat.le_refl _) (Nat.le_refl _) (fun c=>absurd c c1) (fun c=>absurd c c2) (fun c=>absurd c c3) (fun c=>absurd c c4) (fun _=>CM 1 w xss ms hw hR e.b hi) (fun c=>by omega)⟩
  ·obtain⟨n,hn,hn1,hn2⟩:=lV hi
   obtain⟨j,hj1,hj2⟩:=hR.get n _ hn2
   have hC:=EU 1 w xss ms hw hR n j (by rw[←hn];exact hi) (by rw[←hn];exact hj1) (by rw[←hn];exact hj2)
   rw[←hn] at hC
   have ha:=fy (lY hw (List.mem_of_getElem? hn2)).2
   cases hf:(iF w e.b && !(prop w e.b).members.contains w.bad)
   ·have hs:iY w e.b=w:=by
     unfold iY
     split
     ·rename_i hv
      rw[hv,Bool.true_and] at hf
      exact sO hi ha (by simpa using hf)
     ·rfl
    rw[hf] at hC
    rw[hs]
    exact⟨(xss,ms),⟨hR,Nat.le_refl _⟩,df w.com w.lead w.bad _ _ xss xss ms ms e false (Nat.le_refl _) (Nat.le_refl _) (fun c=>absurd c c1) (fun c=>absurd c c2) (fun c=>absurd c c3) (fun c=>absurd c c4) (fun _=>hC) (fun c=>by omega)⟩
   ·have hv:iF w e.b=true:=(Bool.and_eq_true .. ▸hf:_∧_).1
    have hs:iY w e.b=iZ w e.b w.bad:=by unfold iY;rw[hv];rfl
    rw[hf] at hC
    rw[hs]
    have hR2:=hR.cast hj1 (dH (prop w e.b).members w.bad)
    refine⟨(_,_),?_,df w.com w.lead w.bad _ _ xss _ ms _ e true (Nat.le_refl _) (by simp) (fun c=>absurd c c1) (fun c=>absurd c c2) (fun c=>absurd c c3) (fun c=>absurd c c4) (fun _=>hC) (fun c=>by omega)⟩
    refine⟨?_,by simp⟩
    have:e.b.toNat=n:=by omega
    show Rel (w.props.set e.b.toNat _) _ _
    rw[this]
    exact hR2
 have hd:dX w e=w:=by unfold dX;rw[if_neg c1,if_neg c2,if_neg c3,if_neg c4,if_neg c5]
 have hg:pc w e=false:=by unfold pc;rw[if_neg c2,if_neg c3,if_neg c5]
 rw[hd,hg]
 exact⟨(xss,ms),⟨hR,Nat.le_refl _⟩,df w.com w.lead w.bad _ _ xss xss ms ms e false (Nat.le_refl _) (Nat.le_refl _) (fun c=>absurd c c1) (fun c=>absurd c c2) (fun c=>absurd c c3) (fun c=>absurd c c4) (fun c=>absurd c c5) (fun _=>⟨rfl,rfl,rfl,rfl⟩)⟩
theorem BD (w:Wrl)(e:Evt):(dX w e).com=w.com∧(dX w e).lead=w.lead∧(dX w e).bad=w.bad∧(dX w e).views.length=w.views.length:=by
 simp only[dX,dp,fb,cz,mS,iY,iZ,pi]
 (repeat' split)<;>simp
theorem vz {w:Wrl}{e:Evt}:ao (VB.fvari 142 217 (.ob .vtx) (w.views.map ay))≤ao (VB.fvari 142 217 (.ob .vtx) ((dX w e).views.map ay)):=by
 show (w.views.map ay).length≤((dX w e).views.map ay).length
 rw[List.length_map,List.length_map,(BD w e).2.2.2]
 exact Nat.le_refl _
theorem AR (w:Wrl)(hl:∀g∈w.views,g.length≤2000000)(hp:eX w=false):ah Tryz.prog 37 [aG w] [] (.tup [.nilp,.bool false]) []:=by
 have h:=D6 w hl
 simp only[Fn,Fm,hp,Bool.false_eq_true,if_false] at h
 exact h
theorem Gp (w:Wrl)(e:Evt)(hl:∀g∈w.views,g.length≤2000000):ah Tryz.prog 16 [aG w,jM e] [] (if eS w then aG (dX w e) else wD) []:=by
 have he:=jL w
 refine aa aR Tryz.func16 rfl rfl true 0 4 rfl rfl rfl rfl fun K hK hb1 hb2=>?_;simp only[ae,enc,Nat.reduceAdd]
 clear hb1 hb2
 cases hp:eX w
 ·have hO:=AR w hl hp
  rw[hp,Bool.false_and] at he
  (repeat' first|refine aY ?_|refine sa fun xe hxe=>?_|refine sb (fun hq=>?_) fun hq=>?_|refine cr (hO) ?_|exact True.intro)
  rw[he]
  exact⟨rfl,rfl⟩
 ·have hO:=rq w hl hp
  cases hs:eS w
  ·rw[hs] at hO
   (repeat' first|refine aY ?_|refine sa fun xe hxe=>?_|refine sb (fun hq=>?_) fun hq=>?_|refine cr (hO) ?_|exact True.intro)
   exact⟨rfl,rfl⟩
  ·rw[hs] at hO
   have hw:=dS.1 hs
   cases ha:pj w e
   ·obtain⟨⟨xs,ms⟩,⟨hR,hx⟩,hC⟩:=kK w _ _ hw (yV _) e ha
    have hW:=rv 0 (dX w e) xs ms (kg hw e) hR
    have hF0:=vz (w:=w) (e:=e)
    have hF1:ao (VB.frowx 3 (.int .i64) (w.props.map fun p=>some p.members))≤ao (VB.frowx 3 (.int .i64) xs):=hx
    (repeat' first|refine aY ?_|refine sa fun xe hxe=>?_|refine sb (fun hq=>?_) fun hq=>?_|refine cr (hO) ?_|refine cr (hC) ?_|refine cr (hW) ?_|exact True.intro)
    exact⟨rfl,rfl⟩
   ·obtain⟨⟨xs,ms⟩,⟨hR,hx⟩,hC⟩:=nf w _ _ hw (yV _) e ha
    have hW:=rv 0 (dX w e) xs ms (kg hw e) hR
    have hF0:=vz (w:=w) (e:=e)
    have hF1:ao (VB.frowx 3 (.int .i64) (w.props.map fun p=>some p.members))≤ao (VB.frowx 3 (.int .i64) xs):=hx
    (repeat' first|refine aY ?_|refine sa fun xe hxe=>?_|refine sb (fun hq=>?_) fun hq=>?_|refine cr (hO) ?_|refine cr (hC) ?_|refine cr (hW) ?_|exact True.intro)
    exact⟨rfl,rfl⟩
abbrev rP (c l:List Int)(b:Int)(tabs:List (List (Option Vtx)))(xss:List (Option (List Int)))(ms:List PplM):VH:=[(0,.fvari 142 217 (.ob .vtx) tabs),(1,.frowx 3 (.int .i64) xss),(4,.var 31 [.nils,.nils,.int .i64 0,.nils,.nils]),(5,.var 83 [.int .i32 0,.int .u32 0,.lst (.int .i64) c,.lst (.int .i64) l,.int .i64 b,.ref 6,.ref 7]),(6,.row 115 (.hp 0) ((List.range tabs.length).map some)),(7,.row 104 (.pplm 1) ms)]
def sw (k:Int)(m i:Nat):Evt:=⟨k,m,i,v0⟩
def sv (k:Int)(w:Wrl)(i:Nat):Nat→Wrl
 |0=>w
 |m+1=>dX (sv k w i m) (sw k m i)
def kz (k:Int)(w:Wrl):Nat→Wrl
 |0=>w
 |i+1=>sv k (kz k w i) i (kz k w i).com.length
def Cn (k:Int)(w:Wrl)(i:Nat)(b:Bool):Nat→Bool
 |0=>b
 |m+1=>Cn k w i b m||pc (sv k w i m) (sw k m i)
def wO (k:Int)(w:Wrl):Nat→Bool
 |0=>false
 |i+1=>Cn k (kz k w i) i (wO k w i) (kz k w i).com.length
theorem qR {k:Int}{w:Wrl}(h:WOK w)(i:Nat):∀m,WOK (sv k w i m)
 |0=>h
 |m+1=>kg (qR h i m) _
theorem vp {k:Int}{w:Wrl}(h:WOK w):∀i,WOK (kz k w i)
 |0=>h
 |i+1=>qR (vp h i) i _
theorem GG (w:Wrl)(m i:Nat):dX w (sw 2 m i)=fb w m i:=rfl
theorem GH (w:Wrl)(m i:Nat):dX w (sw 3 m i)=cz w m i:=rfl
theorem zU (w:Wrl)(i:Nat):∀m,sv 2 w i m=iv w i m
 |0=>rfl
 |m+1=>by rw[sv,GG,zU w i m];rfl
theorem zW (w:Wrl):∀i,kz 2 w i=cM w i
 |0=>rfl
 |i+1=>by rw[kz,zU,zW w i];rfl
theorem wX (w:Wrl)(i:Nat):∀m,sv 3 w i m=cT w i m
 |0=>rfl
 |m+1=>by rw[sv,GH,wX w i m];rfl
theorem wY (w:Wrl):∀i,kz 3 w i=bn w i
 |0=>rfl
 |i+1=>by rw[kz,wX,wY w i];rfl
theorem Cv {k:Int}(hk:k=2∨k=3)(w:Wrl)(i m:Nat):(sv k w i m).com=w.com∧(sv k w i m).props.length=w.props.length:=by
 rcases hk with rfl|rfl
 ·rw[zU]
  exact jJ w i m
 ·rw[wX]
  exact⟨(gf w i m).1,by rw[(gf w i m).2]⟩
theorem Cw {k:Int}(hk:k=2∨k=3)(w:Wrl)(i:Nat):(kz k w i).com=w.com∧(kz k w i).props.length=w.props.length:=by
 rcases hk with rfl|rfl
 ·rw[zW]
  exact bK w i
 ·rw[wY]
  exact⟨(cL w i).1,by rw[(cL w i).2]⟩
theorem Gc {w:Wrl}(h:WOK w)(m i:Nat):pc w (sw 3 m i)=decide (dW w<dW (cz w m i)):=by
 have e:pc w (sw 3 m i)=dk w m i:=rfl
 rw[e]
 rcases im h m i with⟨h1,h2⟩|⟨h1,h2⟩
 ·rw[h1,h2];simp
 ·rw[h1,h2];simp
theorem DW {w:Wrl}(h:WOK w)(i:Nat){b:Bool}{n:Nat}(hn:n≤dW w)(hb:b=decide (n<dW w)):∀m,Cn 3 w i b m=decide (n<dW (cT w i m))∧n≤dW (cT w i m)
 |0=>⟨hb,hn⟩
 |m+1=>by
  obtain⟨h1,h2⟩:=DW h i hn hb m
  have h3:=iI h i m
  rw[Cn,h1,wX,Gc h3]
  have h4:dW (cT w i m)≤dW (cT w i (m+1)):=by
   rcases im h3 m i with⟨-,e⟩|⟨-,e⟩
   ·show _≤dW (cz _ _ _);rw[e];exact Nat.le_refl _
   ·show _≤dW (cz _ _ _);rw[e];omega
  refine⟨?_,by omega⟩
  rw[Bool.eq_iff_iff,Bool.or_eq_true,decide_eq_true_iff,decide_eq_true_iff,decide_eq_true_iff]
  show _∨dW (cT w i m)<dW (cT w i (m+1))↔_
  omega
theorem DX {w:Wrl}(h:WOK w):∀i,wO 3 w i=decide (dW w<dW (bn w i))∧dW w≤dW (bn w i)
 |0=>⟨by rw[wO,bn];simp,Nat.le_refl _⟩
 |i+1=>by
  obtain⟨h1,h2⟩:=DX h i
  have:=DW (gA h i) i h2 h1 (bn w i).com.length
  rw[wO,wY]
  exact this
abbrev Xm:Type:=List (Option (List Int))×List PplM
theorem w7 (w:Wrl)(xss:List (Option (List Int)))(ms:List PplM)(hw:WOK w)(hR:Rel w.props xss ms){k:Int}(hk:k=2∨k=3)(m i:Nat):∃x:Xm,(Rel (dX w (sw k m i)).props x.1 x.2∧xss.length≤x.1.length)∧ah Tryz.prog 40 [.ptr 4 0,jM (sw k m i)] (rW 0 w xss ms) (.bool (pc w (sw k m i))) (rW 0 (dX w (sw k m i)) x.1 x.2):=by
 refine kK w xss ms hw hR (sw k m i) ?_
 unfold pj sw
 rcases hk with rfl|rfl<;>rfl
theorem zV {k:Int}(hk:k=2∨k=3){w:Wrl}(hw:WOK w)(i:Nat){x:Xm}(hR:Rel w.props x.1 x.2):∀m,∃y:Xm,Rel (sv k w i m).props y.1 y.2∧x.1.length≤y.1.length
 |0=>⟨x,hR,Nat.le_refl _⟩
 |m+1=>by
  obtain⟨y,h1,h2⟩:=zV hk hw i hR m
  obtain⟨z,⟨h3,h4⟩,-⟩:=w7 _ y.1 y.2 (qR hw i m) h1 hk m i
  exact⟨z,h3,Nat.le_trans h2 h4⟩
theorem zX {k:Int}(hk:k=2∨k=3){w:Wrl}(hw:WOK w){x:Xm}(hR:Rel w.props x.1 x.2):∀i,∃y:Xm,Rel (kz k w i).props y.1 y.2∧x.1.length≤y.1.length
 |0=>⟨x,hR,Nat.le_refl _⟩
 |i+1=>by
  obtain⟨y,h1,h2⟩:=zX hk hw hR i
  obtain⟨z,h3,h4⟩:=zV hk (vp hw i) i h1 (kz k w i).com.length
  exact⟨z,h3,Nat.le_trans h2 h4⟩
theorem og {w u:Wrl}(h:u.views.length=w.views.length):ao (VB.fvari 142 217 (.ob .vtx) (w.views.map ay))≤ao (VB.fvari 142 217 (.ob .vtx) (u.views.map ay)):=by
 show (w.views.map ay).length≤(u.views.map ay).length
 rw[List.length_map,List.length_map,h]
 exact Nat.le_refl _
theorem jN {xs ys:List (Option (List Int))}(h:xs.length≤ys.length):ao (VB.frowx 3 (.int .i64) xs)≤ao (VB.frowx 3 (.int .i64) ys):=h
set_option maxHeartbeats 1000000 in
theorem xp {k:Int}(hk:k=2∨k=3)(w:Wrl)(x0:Xm)(hw:WOK w)(hR:Rel w.props x0.1 x0.2):∃x:Xm,(Rel (kz k w w.props.length).props x.1 x.2∧x0.1.length≤x.1.length)∧ah Tryz.prog 39 [.ptr 4 0,.int .i64 k] (rW 0 w x0.1 x0.2) (.bool (wO k w w.props.length)) (rW 0 (kz k w w.props.length) x.1 x.2):=by
 obtain⟨y0,hy0⟩:=zX hk hw hR w.props.length
 suffices hs:∃r hout,(∃x:Xm,(Rel (kz k w w.props.length).props x.1 x.2∧x0.1.length≤x.1.length)∧r= .bool (wO k w w.props.length)∧hout=rW 0 (kz k w w.props.length) x.1 x.2)∧ah Tryz.prog 39 [.ptr 4 0,.int .i64 k] (rW 0 w x0.1 x0.2) r hout by
  obtain⟨r,hout,⟨v,hv,rfl,rfl⟩,h⟩:=hs
  exact⟨v,hv,h⟩
 refine vh aR Tryz.func39 rfl rfl false 3 7 rfl rfl rfl rfl (R:=fun r hout=>∃x:Xm,(Rel (kz k w w.props.length).props x.1 x.2∧x0.1.length≤x.1.length)∧r= .bool (wO k w w.props.length)∧hout=rW 0 (kz k w w.props.length) x.1 x.2) (r0:=.bool (wO k w w.props.length)) (hout0:=rW 0 (kz k w w.props.length) y0.1 y0.2) (⟨y0,hy0,rfl,rfl⟩) fun K hK hb1 hb2=>?_;simp only[ae,enc,Nat.reduceAdd]
 clear hb1 hb2
 have h7:=hw.len
 have hpl:=hw.plen
 have hml:=hR.len
 (repeat' first|refine aY ?_|refine sa fun xe hxe=>?_|refine sb (fun hq=>?_) fun hq=>?_|exact True.intro)
 refine af hK [] [0,1,5,12,13] (fun x:Nat×Xm=>⟨[(0,.ptr 4 0),(1,.int .i64 k),(5,.bool (wO k w x.1)),(12,.int .i64 w.props.length),(13,.int .i64 (x.1:Int))],rW 0 (kz k w x.1) x.2.1 x.2.2,7⟩) (fun x=>x.1≤w.props.length∧Rel (kz k w x.1).props x.2.1 x.2.2∧x0.1.length≤x.2.1.length) (fun x=>w.props.length-x.1) (0,x0) ⟨Nat.zero_le _,hR,Nat.le_refl _⟩ (by rw[←hml];rfl) ?_
 rintro⟨i,xs,ms⟩ ⟨hi,hRi,hxi⟩
 dsimp only at hi hRi hxi⊢
 have hoi:=vp (k:=k) hw i
 have hci:=Cw hk w i
 have hsu:kz k w (i+1)=sv k (kz k w i) i (kz k w i).com.length:=rfl
 have hsc:wO k w (i+1)=Cn k (kz k w i) i (wO k w i) (kz k w i).com.length:=rfl
 by_cases hlt:i<w.props.length
 ·generalize kz k w i=y at *
  generalize wO k w i=b at *
  have hyc:y.com.length=w.com.length:=by rw[hci.1]
  (repeat' first|refine aY ?_|refine sa fun xe hxe=>?_|refine sb (fun hq=>?_) fun hq=>?_|exact True.intro)
  refine af hK [] [0,1,5,6,12,13,20,21] (fun x:Nat×Xm=>⟨[(0,.ptr 4 0),(1,.int .i64 k),(5,.bool (Cn k y i b x.1)),(6,.int .i64 (i:Int)),(12,.int .i64 w.props.length),(13,.int .i64 (i:Int)),(20,.int .i64 y.com.length),(21,.int .i64 (x.1:Int))],rW 0 (sv k y i x.1) x.2.1 x.2.2,7⟩) (fun x=>x.1≤y.com.length∧Rel (sv k y i x.1).props x.2.1 x.2.2∧x0.1.length≤x.2.1.length) (fun x=>y.com.length-x.1) (0,xs,ms) ⟨Nat.zero_le _,hRi,hxi⟩ rfl ?_
  rintro⟨m,xs,ms⟩ ⟨hm,hRm,hxm⟩
  dsimp only at hm hRm hxm⊢
  have hom:=qR (k:=k) hoi i m
  have hcm:=Cv hk y i m
  have hmu:sv k y i (m+1)=dX (sv k y i m) (sw k m i):=rfl
  have hmc:Cn k y i b (m+1)=(Cn k y i b m||pc (sv k y i m) (sw k m i)):=rfl
  by_cases hml:m<y.com.length
  ·generalize sv k y i m=z at *
   generalize Cn k y i b m=b2 at *
   obtain⟨⟨xs',ms'⟩,⟨hR',hx⟩,hC⟩:=w7 z xs ms hom hRm hk m i
   have hF0:=vz (w:=z) (e:=sw k m i)
   have hF1:=jN hx
   have hC:ah Tryz.prog 40 [.ptr 4 0,.agg [.int .i64 k,.int .i64 (m:Int),.int .i64 (i:Int),.int .i64 0,.int .i64 0,.lst (.int .i64) [],.int .i64 0]] (rW 0 z xs ms) (.bool (pc z (sw k m i))) (rW 0 (dX z (sw k m i)) xs' ms'):=hC
   cases hcg:pc z (sw k m i)
   ·rw[hcg] at hC hmc
    rw[Bool.or_false] at hmc
    (repeat' first|refine aY ?_|refine sa fun xe hxe=>?_|refine sb (fun hq=>?_) fun hq=>?_|refine cr (hC) ?_|exact True.intro)
    refine⟨(m+1,xs',ms'),⟨by dsimp only;omega,by dsimp only;rw[hmu];exact hR',by dsimp only at hx⊢;omega⟩,by dsimp only;omega,?_⟩
    dsimp only
    rw[hmu,hmc]
    rfl
   ·rw[hcg] at hC hmc
    rw[Bool.or_true] at hmc
    (repeat' first|refine aY ?_|refine sa fun xe hxe=>?_|refine sb (fun hq=>?_) fun hq=>?_|refine cr (hC) ?_|exact True.intro)
    refine⟨(m+1,xs',ms'),⟨by dsimp only;omega,by dsimp only;rw[hmu];exact hR',by dsimp only at hx⊢;omega⟩,by dsimp only;omega,?_⟩
    dsimp only
    rw[hmu,hmc]
    rfl
  ·obtain rfl:m=y.com.length:=by omega
   rw[←hsu] at hRm
   rw[←hsu,←hsc]
   generalize hz:kz k w (i+1)=z at *
   generalize hb:wO k w (i+1)=b2 at *
   (repeat' first|refine aY ?_|refine sa fun xe hxe=>?_|refine sb (fun hq=>?_) fun hq=>?_|exact True.intro)
   refine⟨(i+1,xs,ms),⟨by dsimp only;omega,by dsimp only;rw[hz];exact hRm,hxm⟩,by dsimp only;omega,?_⟩
   dsimp only
   rw[hz,hb]
   rfl
 ·obtain rfl:i=w.props.length:=by omega
  (repeat' first|refine aY ?_|refine sa fun xe hxe=>?_|refine sb (fun hq=>?_) fun hq=>?_|exact True.intro)
  exact⟨(xs,ms),⟨hRi,hxi⟩,rfl,rfl⟩
theorem ru (w:Wrl)(x0:Xm)(hw:WOK w)(hR:Rel w.props x0.1 x0.2):∃x:Xm,(Rel (cA w).props x.1 x.2∧x0.1.length≤x.1.length)∧ah Tryz.prog 39 [.ptr 4 0,.int .i64 2] (rW 0 w x0.1 x0.2) (.bool (wO 2 w w.props.length)) (rW 0 (cA w) x.1 x.2):=by
 have h:=xp (k:=2) (.inl rfl) w x0 hw hR
 rw[zW] at h
 exact h
theorem vO (w:Wrl)(x0:Xm)(hw:WOK w)(hR:Rel w.props x0.1 x0.2):∃x:Xm,(Rel (pass w).props x.1 x.2∧x0.1.length≤x.1.length)∧ah Tryz.prog 39 [.ptr 4 0,.int .i64 3] (rW 0 w x0.1 x0.2) (.bool (decide (dW w<dW (pass w)))) (rW 0 (pass w) x.1 x.2):=by
 have h:=xp (k:=3) (.inr rfl) w x0 hw hR
 rw[wY,(DX hw _).1] at h
 exact h
theorem FH:∀(n:Nat) {w:Wrl},1519-dW w≤n→∀{x:Xm},WOK w→Rel w.props x.1 x.2→∃y:Xm,Rel (bI w).props y.1 y.2∧x.1.length≤y.1.length:=by
 intro n
 induction n with
 |zero=>
  intro w hn x hw hR
  obtain⟨y,h,-⟩:=vO w x hw hR
  rw[bI]
  split
  ·omega
  ·exact⟨y,h⟩
 |succ n ih=>
  intro w hn x hw hR
  obtain⟨y,⟨h1,h2⟩,-⟩:=vO w x hw hR
  rw[bI]
  split
  ·obtain⟨z,h3,h4⟩:=ih (by omega) (kX hw) h1
   exact⟨z,h3,Nat.le_trans h2 h4⟩
  ·exact⟨y,h1,h2⟩
theorem nB:∀(n:Nat) {w:Wrl},1519-dW w≤n→(bI w).com=w.com:=by
 intro n
 induction n with
 |zero=>
  intro w hn
  rw[bI]
  split
  ·omega
  ·exact(cL w _).1
 |succ n ih=>
  intro w hn
  rw[bI]
  split
  ·rw[ih (by omega)];exact(cL w _).1
  ·exact(cL w _).1
theorem bU {w u:Wrl}(hw:WOK w)(hu:WOK u)(h:u.com=w.com):u.views.length=w.views.length:=by rw[hu.vlen,hw.vlen,h]
set_option maxHeartbeats 1000000 in
theorem lQ (w:Wrl)(x0:Xm)(hw:WOK w)(hR:Rel w.props x0.1 x0.2):∃x:Xm,(Rel (bI w).props x.1 x.2∧x0.1.length≤x.1.length)∧ah Tryz.prog 38 [.ptr 4 0] (rW 0 w x0.1 x0.2) (.tup []) (rW 0 (bI w) x.1 x.2):=by
 obtain⟨y0,hy0⟩:=FH _ (Nat.le_refl _) hw hR
 suffices hs:∃r hout,(∃x:Xm,(Rel (bI w).props x.1 x.2∧x0.1.length≤x.1.length)∧r= .tup []∧hout=rW 0 (bI w) x.1 x.2)∧ah Tryz.prog 38 [.ptr 4 0] (rW 0 w x0.1 x0.2) r hout by
  obtain⟨r,hout,⟨v,hv,rfl,rfl⟩,h⟩:=hs
  exact⟨v,hv,h⟩
 refine vh aR Tryz.func38 rfl rfl false 3 7 rfl rfl rfl rfl (R:=fun r hout=>∃x:Xm,(Rel (bI w).props x.1 x.2∧x0.1.length≤x.1.length)∧r= .tup []∧hout=rW 0 (bI w) x.1 x.2) (r0:=.tup []) (hout0:=rW 0 (bI w) y0.1 y0.2) (⟨y0,hy0,rfl,rfl⟩) fun K hK hb1 hb2=>?_;simp only[ae,enc,Nat.reduceAdd]
 clear hb1 hb2
 (repeat' first|refine aY ?_|refine sa fun xe hxe=>?_|refine sb (fun hq=>?_) fun hq=>?_|exact True.intro)
 refine af hK [] [0] (fun x:Wrl×Xm=>⟨[(0,.ptr 4 0)],rW 0 x.1 x.2.1 x.2.2,7⟩) (fun x=>WOK x.1∧(Rel x.1.props x.2.1 x.2.2∧x0.1.length≤x.2.1.length)∧x.1.com=w.com∧bI x.1=bI w) (fun x=>1520-dW x.1) (w,x0) ⟨hw,⟨hR,Nat.le_refl _⟩,rfl,rfl⟩ rfl ?_
 rintro⟨u,xs,ms⟩ ⟨hu,⟨hRu,hxu⟩,huc,hus⟩
 dsimp only at hu hRu hxu huc hus⊢
 obtain⟨⟨xs',ms'⟩,⟨hR',hx⟩,hC⟩:=vO u (xs,ms) hu hRu
 dsimp only at hR' hx hC
 have hpo:=kX hu
 have hpc:(pass u).com=u.com:=(cL u _).1
 have hF0:=og (bU hu hpo hpc)
 have hF1:=jN hx
 have htl:=sl hpo
 have htx:=sl hu
 have e1:dW u<dW (pass u)→bI u=bI (pass u):=fun hh=>by
  rw[bI]
  exact dif_pos ⟨hh,htl⟩
 have e2:¬dW u<dW (pass u)→bI u=pass u:=fun hh=>by
  rw[bI]
  exact dif_neg fun h9=>hh h9.1
 generalize pass u=z at *
 by_cases hh:dW u<dW z
 ·rw[decide_eq_true hh] at hC
  (repeat' first|refine aY ?_|refine sa fun xe hxe=>?_|refine sb (fun hq=>?_) fun hq=>?_|refine cr (hC) ?_|exact True.intro)
  exact⟨(z,xs',ms'),⟨hpo,⟨hR',by dsimp only at hx⊢;omega⟩,by rw[hpc];exact huc,by rw[←e1 hh];exact hus⟩,by dsimp only;omega,rfl⟩
 ·rw[decide_eq_false hh] at hC
  have e3:=e2 hh
  (repeat' first|refine aY ?_|refine sa fun xe hxe=>?_|refine sb (fun hq=>?_) fun hq=>?_|refine cr (hC) ?_|exact True.intro)
  refine⟨(xs',ms'),⟨?_,?_⟩,rfl,?_⟩
  ·rw[←hus,e3];exact hR'
  ·dsimp only;omega
  ·rw[←hus,e3]
theorem nU {w:Wrl}:∀r,(aC w r).com=w.com
 |0=>nB _ (Nat.le_refl _)
 |r+1=>by
  have h1:∀u:Wrl,(dR u).com=u.com:=fun u=>(nB _ (Nat.le_refl _)).trans (bK u _).1
  show (dR _).com=_
  rw[h1,gB,h1]
  exact nU r
set_option maxHeartbeats 4000000 in
theorem xn (w:Wrl)(r:Int)(hl:∀g∈w.views,g.length≤2000000)(hr:-1000000≤r∧r≤1000000):ah Tryz.prog 9 [aG w,.int .i64 r] [] (if decide (0≤r∧r≤12) && eS w then aG (aC w r.toNat) else wD) []:=by
 have he:=jL w
 refine aa aR Tryz.func9 rfl rfl true 0 4 rfl rfl rfl rfl fun K hK hb1 hb2=>?_;simp only[ae,enc,Nat.reduceAdd]
 clear hb1 hb2
 by_cases hr0:r<0
 ·(repeat' first|refine aY ?_|refine sa fun xe hxe=>?_|refine sb (fun hq=>?_) fun hq=>?_|exact True.intro)
  rw[decide_eq_false (p:=0≤r∧r≤12) (by omega)]
  exact⟨rfl,rfl⟩
 by_cases hr1:12<r
 ·(repeat' first|refine aY ?_|refine sa fun xe hxe=>?_|refine sb (fun hq=>?_) fun hq=>?_|exact True.intro)
  rw[decide_eq_false (p:=0≤r∧r≤12) (by omega)]
  exact⟨rfl,rfl⟩
 rw[decide_eq_true (p:=0≤r∧r≤12) (by omega),Bool.true_and]
 cases hp:eX w
 ·have hO:=AR w hl hp
  rw[hp,Bool.false_and] at he
  (repeat' first|refine aY ?_|refine sa fun xe hxe=>?_|refine sb (fun hq=>?_) fun hq=>?_|refine cr (hO) ?_|exact True.intro)
  rw[he]
  exact⟨rfl,rfl⟩
 have hO:=rq w hl hp
 cases hs:eS w
 ·rw[hs] at hO
  (repeat' first|refine aY ?_|refine sa fun xe hxe=>?_|refine sb (fun hq=>?_) fun hq=>?_|refine cr (hO) ?_|exact True.intro)
  exact⟨rfl,rfl⟩
 rw[hs] at hO
 have hw:=dS.1 hs
 obtain⟨⟨xs0,ms0⟩,⟨hR0,hx0⟩,hC0⟩:=lQ w (w.props.map fun p=>some p.members,rK w.props) hw (yV _)
 dsimp only at hR0 hx0 hC0
 have hF0:=og (bU hw (ec hw 0) (nU 0))
 have hF1:=jN hx0
 rw[show bI w=aC w 0 from rfl] at hR0 hC0
 (repeat' first|refine aY ?_|refine sa fun xe hxe=>?_|refine sb (fun hq=>?_) fun hq=>?_|refine cr (hO) ?_|refine cr (hC0) ?_|exact True.intro)
 clear hO hC0 hF0 hF1
 refine af hK [] [4,5,26,27] (fun x:Nat×Xm=>⟨[(4,.ptr 4 0),(5,.ptr 5 0),(26,.int .i64 r),(27,.int .i64 (x.1:Int))],rP (aC w x.1).com (aC w x.1).lead (aC w x.1).bad ((aC w x.1).views.map ay) x.2.1 x.2.2,8⟩) (fun x=>x.1≤r.toNat∧Rel (aC w x.1).props x.2.1 x.2.2) (fun x=>r.toNat-x.1) (0,xs0,ms0) ⟨Nat.zero_le _,hR0⟩ (by(conv=>whnf);rfl) ?_
 rintro⟨k,xs,ms⟩ ⟨hk,hRk⟩
 dsimp only at hk hRk⊢
 have hco:=ec hw k
 have hcs:aC w (k+1)=dR (bl (dR (aC w k)) k (dR (aC w k)).com.length):=rfl
 have h1c:∀u:Wrl,(dR u).com=u.com:=fun u=>(nB _ (Nat.le_refl _)).trans (bK u _).1
 by_cases hlt:(k:Int)<r
 ·generalize aC w k=x at *
  obtain⟨⟨xs1,ms1⟩,⟨hR1,hx1⟩,hC1⟩:=ru x (xs,ms) hco hRk
  dsimp only at hR1 hx1 hC1
  have hvo:WOK (cA x):=cS hco x.props.length
  have hvc:(cA x).com=x.com:=(bK x _).1
  obtain⟨⟨xs2,ms2⟩,⟨hR2,hx2⟩,hC2⟩:=lQ (cA x) (xs1,ms1) hvo hR1
  dsimp only at hR2 hx2 hC2
  have hro:=il hco
  have hF0:=og (bU hco hvo hvc)
  have hF1:=jN hx1
  have hF2:=og (w:=cA x) (bU hvo hro ((h1c x).trans hvc.symm))
  have hF3:=jN hx2
  rw[show bI (cA x)=dR x from rfl] at hR2 hC2
  have hxc:=h1c x
  generalize cA x=x1 at *
  generalize dR x=y at *
  (repeat' first|refine aY ?_|refine sa fun xe hxe=>?_|refine sb (fun hq=>?_) fun hq=>?_|refine cr (hC1) ?_|refine cr (hC2) ?_|exact True.intro)
  clear hC1 hC2 hF0 hF1 hF2 hF3
  refine af hK [] [4,5,7,26,27,38,39] (fun q:Nat×Xm=>⟨[(4,.ptr 4 0),(5,.ptr 5 0),(7,.int .i64 (k:Int)),(26,.int .i64 r),(27,.int .i64 (k:Int)),(38,.int .i64 y.com.length),(39,.int .i64 (q.1:Int))],rP (bl y k q.1).com (bl y k q.1).lead (bl y k q.1).bad ((bl y k q.1).views.map ay) q.2.1 q.2.2,8⟩) (fun q=>q.1≤y.com.length∧Rel (bl y k q.1).props q.2.1 q.2.2) (fun q=>y.com.length-q.1) (0,xs2,ms2) ⟨Nat.zero_le _,hR2⟩ (by(conv=>whnf);rfl) ?_
  rintro⟨m,xs3,ms3⟩ ⟨hm,hR3⟩
  dsimp only at hm hR3⊢
  have hdc:=gB y k m
  have hdo:=iU hro k m
  have hyl:=hro.len
  have hds:bl y k (m+1)=dp (bl y k m) m (7*k+m):=rfl
  by_cases hml:m<y.com.length
  ·generalize bl y k m=z at *
   have hsd:dX z ⟨1,m,7*k+m,v0⟩=dp z m (7*k+m):=rfl
   have hF0:=vz (w:=z) (e:=⟨1,m,7*k+m,v0⟩)
   rw[hsd] at hF0
   cases ha:pj z ⟨1,m,7*k+m,v0⟩
   ·obtain⟨⟨xs4,ms4⟩,⟨hR4,hx4⟩,hC4⟩:=kK z _ _ hdo hR3 ⟨1,m,7*k+m,v0⟩ ha
    have hcg:pc z ⟨1,m,7*k+m,v0⟩=false:=rfl
    rw[hsd] at hR4 hC4
    rw[hcg] at hC4
    have hF1:=jN hx4
    have hC4:ah Tryz.prog 40 [.ptr 4 0,.agg [.int .i64 1,.int .i64 (m:Int),.int .i64 (7*k+m),.int .i64 0,.int .i64 0,.lst (.int .i64) [],.int .i64 0]] (rW 0 z xs3 ms3) (.bool false) (rW 0 (dp z m (7*k+m)) xs4 ms4):=hC4
    generalize dp z m (7*k+m)=z2 at *
    (repeat' first|refine aY ?_|refine sa fun xe hxe=>?_|refine sb (fun hq=>?_) fun hq=>?_|refine cr (hC4) ?_|exact True.intro)
    refine⟨(m+1,xs4,ms4),⟨by dsimp only;omega,by dsimp only;rw[hds];exact hR4⟩,by dsimp only;omega,?_⟩
    dsimp only
    rw[hds]
    rfl
   ·obtain⟨⟨xs4,ms4⟩,⟨hR4,hx4⟩,hC4⟩:=nf z _ _ hdo hR3 ⟨1,m,7*k+m,v0⟩ ha
    rw[hsd] at hR4 hC4
    have hF1:=jN hx4
    have hC4:ah Tryz.prog 40 [.ptr 4 0,.agg [.int .i64 1,.int .i64 (m:Int),.int .i64 (7*k+m),.int .i64 0,.int .i64 0,.lst (.int .i64) [],.int .i64 0]] (rW 0 z xs3 ms3) (.bool true) (GC 0 (dp z m (7*k+m)) xs4 ms4):=hC4
    generalize dp z m (7*k+m)=z2 at *
    (repeat' first|refine aY ?_|refine sa fun xe hxe=>?_|refine sb (fun hq=>?_) fun hq=>?_|refine cr (hC4) ?_|exact True.intro)
    refine⟨(m+1,xs4,ms4),⟨by dsimp only;omega,by dsimp only;rw[hds];exact hR4⟩,by dsimp only;omega,?_⟩
    dsimp only
    rw[hds]
    rfl
  ·obtain rfl:m=y.com.length:=by omega
   have hzc:(bl y k y.com.length).com.length=y.com.length:=by rw[hdc]
   generalize bl y k y.com.length=z at *
   obtain⟨⟨xs4,ms4⟩,⟨hR4,hx4⟩,hC4⟩:=ru z (xs3,ms3) hdo hR3
   dsimp only at hR4 hx4 hC4
   have hvo4:WOK (cA z):=cS hdo z.props.length
   have hvc4:(cA z).com=z.com:=(bK z _).1
   obtain⟨⟨xs5,ms5⟩,⟨hR5,hx5⟩,hC5⟩:=lQ (cA z) (xs4,ms4) hvo4 hR4
   dsimp only at hR5 hx5 hC5
   have hro4:=il hdo
   have hF0:=og (bU hdo hvo4 hvc4)
   have hF1:=jN hx4
   have hF2:=og (w:=cA z) (bU hvo4 hro4 ((h1c z).trans hvc4.symm))
   have hF3:=jN hx5
   rw[show bI (cA z)=dR z from rfl] at hR5 hC5
   generalize cA z=z1 at *
   generalize dR z=z2 at *
   (repeat' first|refine aY ?_|refine sa fun xe hxe=>?_|refine sb (fun hq=>?_) fun hq=>?_|refine cr (hC4) ?_|refine cr (hC5) ?_|exact True.intro)
   refine⟨(k+1,xs5,ms5),⟨by dsimp only;omega,by dsimp only;rw[hcs];exact hR5⟩,by dsimp only;omega,?_⟩
   dsimp only
   rw[hcs]
   rfl
 ·obtain rfl:k=r.toNat:=by omega
  have hW:=rv 0 (aC w r.toNat) xs ms hco hRk
  generalize aC w r.toNat=x at *
  (repeat' first|refine aY ?_|refine sa fun xe hxe=>?_|refine sb (fun hq=>?_) fun hq=>?_|refine cr (hW) ?_|exact True.intro)
  exact⟨rfl,rfl⟩
theorem wg {w:Wrl}(h:eS w=true):eX w=true:=by
 rw[jL,Bool.and_eq_true] at h
 exact h.1
theorem rx (s:Int)(w:Wrl)(xss:List (Option (List Int)))(ms:List PplM)(hw:WOK w)(hR:Rel w.props xss ms):ah Tryz.prog 41 [.ptr 4 0] (yU s w.com w.lead w.bad (w.views.map ay) xss ms [] []) (.agg [.ref 7,.ref 8,.int .i64 w.bad,.ref 9,.ref 10])
  (yU s w.com w.lead w.bad (w.views.map ay) xss ms (fE (aI w.props).length w.views) (aI w.props++bd w.views)++[(7,.row 3 (.int .i64) w.com),(8,.row 3 (.int .i64) w.lead),(9,.row 102 (.hr 2) ((List.range w.views.length).map some)),(10,.row 104 (.pplo 3 3) (fN 0 w.props))]):=
 C3 s w xss ms (wg (dS.2 hw)) hR
theorem s0 (E:TypeId)(b:List (List VtxO)):ao (VB.frow E (.vtxo 3) [])≤ao (VB.frow E (.vtxo 3) b):=by simp[ao]
theorem Gq (w:Wrl)(e:Evt)(hl:∀g∈w.views,g.length≤2000000)(hs:eS w=true):ah Tryz.prog 16 [aG w,jM e] [] (wC (dX w e).bad) (Bn (dX w e)):=by
 have hO:=rq w hl (wg hs)
 rw[hs] at hO
 have hw:=dS.1 hs
 have hF2:=s0 43 (fE (aI (dX w e).props).length (dX w e).views)
 have hF3:=lG 3 (aI (dX w e).props++bd (dX w e).views)
 refine aa aR Tryz.func16 rfl rfl false 0 4 rfl rfl rfl rfl fun K hK hb1 hb2=>?_;simp only[ae,enc,Nat.reduceAdd]
 clear hb1 hb2
 refine fS 2 (.frow 43 (.vtxo 3) []) rfl ?_
 refine fS 3 (.frow 3 (.int .i64) []) rfl ?_
 cases ha:pj w e
 ·obtain⟨⟨xs,ms⟩,⟨hR,hx⟩,hC⟩:=kK w _ _ hw (yV _) e ha
  have hW:=rx 0 (dX w e) xs ms (kg hw e) hR
  have hF0:=vz (w:=w) (e:=e)
  have hF1:ao (VB.frowx 3 (.int .i64) (w.props.map fun p=>some p.members))≤ao (VB.frowx 3 (.int .i64) xs):=hx
  (repeat' first|refine aY ?_|refine sa fun xe hxe=>?_|refine sb (fun hq=>?_) fun hq=>?_|refine cr (hO) ?_|refine cr (hC) ?_|((with_reducible refine iH [0,1,2,3] ?_);(conv=>whnf);(with_reducible refine ax (hW) ?_);conv=>whnf)|exact True.intro)
  exact⟨rfl,rfl⟩
 ·obtain⟨⟨xs,ms⟩,⟨hR,hx⟩,hC⟩:=nf w _ _ hw (yV _) e ha
  have hW:=rx 0 (dX w e) xs ms (kg hw e) hR
  have hF0:=vz (w:=w) (e:=e)
  have hF1:ao (VB.frowx 3 (.int .i64) (w.props.map fun p=>some p.members))≤ao (VB.frowx 3 (.int .i64) xs):=hx
  (repeat' first|refine aY ?_|refine sa fun xe hxe=>?_|refine sb (fun hq=>?_) fun hq=>?_|refine cr (hO) ?_|refine cr (hC) ?_|((with_reducible refine iH [0,1,2,3] ?_);(conv=>whnf);(with_reducible refine ax (hW) ?_);conv=>whnf)|exact True.intro)
  exact⟨rfl,rfl⟩
set_option maxHeartbeats 4000000 in
theorem CN (w:Wrl)(r:Int)(hl:∀g∈w.views,g.length≤2000000)(hr:0≤r∧r≤12)(hs:eS w=true):ah Tryz.prog 9 [aG w,.int .i64 r] [] (wC (aC w r.toNat).bad) (Bn (aC w r.toNat)):=by
 have hO:=rq w hl (wg hs)
 rw[hs] at hO
 refine aa aR Tryz.func9 rfl rfl false 0 4 rfl rfl rfl rfl fun K hK hb1 hb2=>?_;simp only[ae,enc,Nat.reduceAdd]
 clear hb1 hb2
 have hw:=dS.1 hs
 obtain⟨⟨xs0,ms0⟩,⟨hR0,hx0⟩,hC0⟩:=lQ w (w.props.map fun p=>some p.members,rK w.props) hw (yV _)
 dsimp only at hR0 hx0 hC0
 have hF0:=og (bU hw (ec hw 0) (nU 0))
 have hF1:=jN hx0
 rw[show bI w=aC w 0 from rfl] at hR0 hC0
 (repeat' first|refine aY ?_|refine sa fun xe hxe=>?_|refine sb (fun hq=>?_) fun hq=>?_|refine cr (hO) ?_|refine cr (hC0) ?_|exact True.intro)
 clear hO hC0 hF0 hF1
 refine af hK [] [4,5,26,27] (fun x:Nat×Xm=>⟨[(4,.ptr 4 0),(5,.ptr 5 0),(26,.int .i64 r),(27,.int .i64 (x.1:Int))],rP (aC w x.1).com (aC w x.1).lead (aC w x.1).bad ((aC w x.1).views.map ay) x.2.1 x.2.2,8⟩) (fun x=>x.1≤r.toNat∧Rel (aC w x.1).props x.2.1 x.2.2) (fun x=>r.toNat-x.1) (0,xs0,ms0) ⟨Nat.zero_le _,hR0⟩ (by(conv=>whnf);rfl) ?_
 rintro⟨k,xs,ms⟩ ⟨hk,hRk⟩
 dsimp only at hk hRk⊢
 have hco:=ec hw k
 have hcs:aC w (k+1)=dR (bl (dR (aC w k)) k (dR (aC w k)).com.length):=rfl
 have h1c:∀u:Wrl,(dR u).com=u.com:=fun u=>(nB _ (Nat.le_refl _)).trans (bK u _).1
 by_cases hlt:(k:Int)<r
 ·generalize aC w k=x at *
  obtain⟨⟨xs1,ms1⟩,⟨hR1,hx1⟩,hC1⟩:=ru x (xs,ms) hco hRk
  dsimp only at hR1 hx1 hC1
  have hvo:WOK (cA x):=cS hco x.props.length
  have hvc:(cA x).com=x.com:=(bK x _).1
  obtain⟨⟨xs2,ms2⟩,⟨hR2,hx2⟩,hC2⟩:=lQ (cA x) (xs1,ms1) hvo hR1
  dsimp only at hR2 hx2 hC2
  have hro:=il hco
  have hF0:=og (bU hco hvo hvc)
  have hF1:=jN hx1
  have hF2:=og (w:=cA x) (bU hvo hro ((h1c x).trans hvc.symm))
  have hF3:=jN hx2
  rw[show bI (cA x)=dR x from rfl] at hR2 hC2
  have hxc:=h1c x
  generalize cA x=x1 at *
  generalize dR x=y at *
  (repeat' first|refine aY ?_|refine sa fun xe hxe=>?_|refine sb (fun hq=>?_) fun hq=>?_|refine cr (hC1) ?_|refine cr (hC2) ?_|exact True.intro)
  clear hC1 hC2 hF0 hF1 hF2 hF3
  refine af hK [] [4,5,7,26,27,38,39] (fun q:Nat×Xm=>⟨[(4,.ptr 4 0),(5,.ptr 5 0),(7,.int .i64 (k:Int)),(26,.int .i64 r),(27,.int .i64 (k:Int)),(38,.int .i64 y.com.length),(39,.int .i64 (q.1:Int))],rP (bl y k q.1).com (bl y k q.1).lead (bl y k q.1).bad ((bl y k q.1).views.map ay) q.2.1 q.2.2,8⟩) (fun q=>q.1≤y.com.length∧Rel (bl y k q.1).props q.2.1 q.2.2) (fun q=>y.com.length-q.1) (0,xs2,ms2) ⟨Nat.zero_le _,hR2⟩ (by(conv=>whnf);rfl) ?_
  rintro⟨m,xs3,ms3⟩ ⟨hm,hR3⟩
  dsimp only at hm hR3⊢
  have hdc:=gB y k m
  have hdo:=iU hro k m
  have hyl:=hro.len
  have hds:bl y k (m+1)=dp (bl y k m) m (7*k+m):=rfl
  by_cases hml:m<y.com.length
  ·generalize bl y k m=z at *
   have hsd:dX z ⟨1,m,7*k+m,v0⟩=dp z m (7*k+m):=rfl
   have hF0:=vz (w:=z) (e:=⟨1,m,7*k+m,v0⟩)
   rw[hsd] at hF0
   cases ha:pj z ⟨1,m,7*k+m,v0⟩
   ·obtain⟨⟨xs4,ms4⟩,⟨hR4,hx4⟩,hC4⟩:=kK z _ _ hdo hR3 ⟨1,m,7*k+m,v0⟩ ha
    have hcg:pc z ⟨1,m,7*k+m,v0⟩=false:=rfl
    rw[hsd] at hR4 hC4
    rw[hcg] at hC4
    have hF1:=jN hx4
    have hC4:ah Tryz.prog 40 [.ptr 4 0,.agg [.int .i64 1,.int .i64 (m:Int),.int .i64 (7*k+m),.int .i64 0,.int .i64 0,.lst (.int .i64) [],.int .i64 0]] (rW 0 z xs3 ms3) (.bool false) (rW 0 (dp z m (7*k+m)) xs4 ms4):=hC4
    generalize dp z m (7*k+m)=z2 at *
    (repeat' first|refine aY ?_|refine sa fun xe hxe=>?_|refine sb (fun hq=>?_) fun hq=>?_|refine cr (hC4) ?_|exact True.intro)
    refine⟨(m+1,xs4,ms4),⟨by dsimp only;omega,by dsimp only;rw[hds];exact hR4⟩,by dsimp only;omega,?_⟩
    dsimp only
    rw[hds]
    rfl
   ·obtain⟨⟨xs4,ms4⟩,⟨hR4,hx4⟩,hC4⟩:=nf z _ _ hdo hR3 ⟨1,m,7*k+m,v0⟩ ha
    rw[hsd] at hR4 hC4
    have hF1:=jN hx4
    have hC4:ah Tryz.prog 40 [.ptr 4 0,.agg [.int .i64 1,.int .i64 (m:Int),.int .i64 (7*k+m),.int .i64 0,.int .i64 0,.lst (.int .i64) [],.int .i64 0]] (rW 0 z xs3 ms3) (.bool true) (GC 0 (dp z m (7*k+m)) xs4 ms4):=hC4
    generalize dp z m (7*k+m)=z2 at *
    (repeat' first|refine aY ?_|refine sa fun xe hxe=>?_|refine sb (fun hq=>?_) fun hq=>?_|refine cr (hC4) ?_|exact True.intro)
    refine⟨(m+1,xs4,ms4),⟨by dsimp only;omega,by dsimp only;rw[hds];exact hR4⟩,by dsimp only;omega,?_⟩
    dsimp only
    rw[hds]
    rfl
  ·obtain rfl:m=y.com.length:=by omega
   have hzc:(bl y k y.com.length).com.length=y.com.length:=by rw[hdc]
   generalize bl y k y.com.length=z at *
   obtain⟨⟨xs4,ms4⟩,⟨hR4,hx4⟩,hC4⟩:=ru z (xs3,ms3) hdo hR3
   dsimp only at hR4 hx4 hC4
   have hvo4:WOK (cA z):=cS hdo z.props.length
   have hvc4:(cA z).com=z.com:=(bK z _).1
   obtain⟨⟨xs5,ms5⟩,⟨hR5,hx5⟩,hC5⟩:=lQ (cA z) (xs4,ms4) hvo4 hR4
   dsimp only at hR5 hx5 hC5
   have hro4:=il hdo
   have hF0:=og (bU hdo hvo4 hvc4)
   have hF1:=jN hx4
   have hF2:=og (w:=cA z) (bU hvo4 hro4 ((h1c z).trans hvc4.symm))
   have hF3:=jN hx5
   rw[show bI (cA z)=dR z from rfl] at hR5 hC5
   generalize cA z=z1 at *
   generalize dR z=z2 at *
   (repeat' first|refine aY ?_|refine sa fun xe hxe=>?_|refine sb (fun hq=>?_) fun hq=>?_|refine cr (hC4) ?_|refine cr (hC5) ?_|exact True.intro)
   refine⟨(k+1,xs5,ms5),⟨by dsimp only;omega,by dsimp only;rw[hcs];exact hR5⟩,by dsimp only;omega,?_⟩
   dsimp only
   rw[hcs]
   rfl
 ·obtain rfl:k=r.toNat:=by omega
  have hW:=rx 0 (aC w r.toNat) xs ms hco hRk
  have hF2:=s0 43 (fE (aI (aC w r.toNat).props).length (aC w r.toNat).views)
  have hF3:=lG 3 (aI (aC w r.toNat).props++bd (aC w r.toNat).views)
  generalize aC w r.toNat=x at *
  refine fS 2 (.frow 43 (.vtxo 3) []) rfl ?_
  refine fS 3 (.frow 3 (.int .i64) []) rfl ?_
  (repeat' first|refine aY ?_|refine sa fun xe hxe=>?_|refine sb (fun hq=>?_) fun hq=>?_|((with_reducible refine iH [0,1,2,3] ?_);(conv=>whnf);(with_reducible refine ax (hW) ?_);conv=>whnf)|exact True.intro)
  exact⟨rfl,rfl⟩
theorem j9 (pss:List (List Int))(j:Nat)(a:List Int)(k:Int)(hj:pss[j]?=some a)(hk:0≤k∧k+a.length≤1000000000):ah Tryz.prog 45 [.hro 3 (some j),.int .i64 k] [(3,.frow 3 (.int .i64) pss)] (.int .i64 (k+a.length)) [(3,.frow 3 (.int .i64) (pss.set j (mk k a.length)))]:=by
 have hjl:j<pss.length:=(List.getElem?_eq_some_iff.1 hj).1
 refine aa ak Tryz.func45 rfl rfl false 0 4 rfl rfl rfl rfl fun K hK hb1 hb2=>?_;simp only[ae,enc,Nat.reduceAdd]
 clear hb1 hb2
 have h0:pss.set j (mk k 0++a.drop 0)=pss:=by
  apply List.ext_getElem?
  intro x
  rw[List.getElem?_set]
  split
  ·rename_i e
   subst e
   first|rw[if_pos hjl,hj]|rw[hj]
   simp[mk]
  ·rfl
 (repeat' first|refine st ?_|refine sa fun xe hxe=>?_|refine sb (fun hq=>?_) fun hq=>?_|exact True.intro)
 refine af hK [] [0,1,4,5] (fun i:Nat=>⟨[(0,.hro 3 (some j)),(1,.int .i64 (k+i)),(4,.int .i64 0),(5,.int .i64 i)],[(3,.frow 3 (.int .i64) (pss.set j (mk k i++a.drop i)))],4⟩) (fun i=>i≤a.length) (fun i=>a.length-i) 0 (by simp) (by rw[h0];simp;rfl) ?_
 intro i hi
 have hlen:(mk k i++a.drop i).length=a.length:=by simp[dz];omega
 have hjr:(pss.set j (mk k i++a.drop i))[j]?=some (mk k i++a.drop i):=List.getElem?_set_self hjl
 by_cases hlt:i<a.length
 ·have hs:(pss.set j (mk k i++a.drop i)).set j ((mk k i++a.drop i).set i (k+i))=pss.set j (mk k (i+1)++a.drop (i+1)):=by
   rw[ce _ _ _ (dz k i) hlt,rG,List.set_set]
  generalize mk k i++a.drop i=row at *
  generalize pss.set j row=ps at *
  (repeat' first|refine st ?_|refine sa fun xe hxe=>?_|refine sb (fun hq=>?_) fun hq=>?_|exact True.intro)
  refine⟨i+1,by omega,by omega,?_⟩
  rw[←hs,show k+((i+1:Nat):Int)=k+i+1 by omega]
  rfl
 ·obtain rfl:i=a.length:=by omega
  rw[show mk k a.length++a.drop a.length=mk k a.length by simp] at *
  generalize pss.set j (mk k a.length)=ps at *
  (repeat' first|refine st ?_|refine sa fun xe hxe=>?_|refine sb (fun hq=>?_) fun hq=>?_|exact True.intro)
  exact⟨rfl,rfl⟩
theorem z7 (E:TypeId)(a:List (List VtxO))(j:Nat)(b:List VtxO):ao (VB.frow E (.vtxo 3) a)≤ao (VB.frow E (.vtxo 3) (a.set j b)):=by simp[ao]
theorem pz (vss:List (List VtxO))(w:Nat)(vs:List VtxO)(hw:vss[w]?=some vs)(pss:List (List Int))(g:List Vtx)(k:Int)(hr:VsR pss vs g)(hk:0≤k∧k+cV g≤1000000000):ah Tryz.prog 94 [.hro 2 (some w),.int .i64 k] [(2,.frow 43 (.vtxo 3) vss),(3,.frow 3 (.int .i64) pss)] (.int .i64 (cI vs k pss).1) [(2,.frow 43 (.vtxo 3) (vss.set w (cI vs k pss).2.2)),(3,.frow 3 (.int .i64) (cI vs k pss).2.1)]:=by
 have hwl:w<vss.length:=(List.getElem?_eq_some_iff.1 hw).1
 refine aa ak Tryz.func94 rfl rfl false 0 4 rfl rfl rfl rfl fun K hK hb1 hb2=>?_;simp only[ae,enc,Nat.reduceAdd]
 clear hb1 hb2
 have h0:vss.set w ((cI (vs.take 0) k pss).2.2++vs.drop 0)=vss:=by
  apply List.ext_getElem?
  intro x
  rw[List.getElem?_set]
  split
  ·rename_i e
   subst e
   first|rw[if_pos hwl,hw]|rw[hw]
   simp[cI]
  ·rfl
 (repeat' first|refine st ?_|refine sa fun xe hxe=>?_|refine sb (fun hq=>?_) fun hq=>?_|exact True.intro)
 refine af hK [] [0,1,5] (fun i:Nat=>⟨[(0,.hro 2 (some w)),(1,.int .i64 (cI (vs.take i) k pss).1),(5,.int .i64 i)],[(2,.frow 43 (.vtxo 3) (vss.set w ((cI (vs.take i) k pss).2.2++vs.drop i))),(3,.frow 3 (.int .i64) (cI (vs.take i) k pss).2.1)],4⟩) (fun i=>i≤vs.length) (fun i=>vs.length-i) 0 (by simp) (by rw[h0];simp[cI];rfl) ?_
 intro i hi
 have hgl:=hr.len
 have hcl:=u7 g
 by_cases hlt:i<vs.length
 ·have hv:g[i]?=some g[i]:=List.getElem?_eq_getElem (by omega)
  obtain⟨j,y,h1,h2,h3,h4,h5,h6,h7,h8⟩:=tZ (k:=k) hr hv rfl
  have hc:=qK hv
  have hc2:=zz g (i+1)
  have hll:((cI (vs.take i) k pss).2.2++vs.drop i).length=vs.length:=by simp[jt];omega
  have hgw:(vss.set w ((cI (vs.take i) k pss).2.2++vs.drop i))[w]?=some ((cI (vs.take i) k pss).2.2++vs.drop i):=List.getElem?_set_self hwl
  have hss:∀b,(vss.set w ((cI (vs.take i) k pss).2.2++vs.drop i)).set w b=vss.set w b:=fun b=>List.set_set ..
  have hpl:(vss.set w ((cI (vs.take i) k pss).2.2++vs.drop i)).length=vss.length:=List.length_set
  generalize hr':cI (vs.take (i+1)) k pss=r' at *
  generalize cI (vs.take i) k pss=r at *
  obtain⟨r1,r2,r3⟩:=r
  simp only at h1 h2 h4 h5 h6 h7 h8 hll hgw hss hpl⊢
  generalize r3++vs.drop i=row at *
  generalize g[i]=v at *
  generalize vss.set w row=ps at *
  have hti:(i:Int).toNat<row.length:=by simp;omega
  have hwp:w<ps.length:=by omega
  (repeat' first|refine st ?_|refine sa fun xe hxe=>?_|refine sb (fun hq=>?_) fun hq=>?_|exact True.intro)
  obtain rfl:=Option.some.inj ((List.getElem?_set_self hwp).symm.trans hxe)
  clear hxe
  dsimp only
  have hl1:(row.set (i:Int).toNat (⟨r1,v.author,some j,v.digest⟩:VtxO)).length=row.length:=List.length_set
  have hx1:(row.set (i:Int).toNat (⟨r1,v.author,some j,v.digest⟩:VtxO))[(i:Int).toNat]?=some ⟨r1,v.author,some j,v.digest⟩:=List.getElem?_set_self hti
  have hs1:∀x:VtxO,(row.set (i:Int).toNat (⟨r1,v.author,some j,v.digest⟩:VtxO)).set (i:Int).toNat x=row.set i x:=fun x=>by rw[List.set_set,Int.toNat_natCast]
  generalize row.set (i:Int).toNat (⟨r1,v.author,some j,v.digest⟩:VtxO)=row1 at *
  have hw1:(ps.set w row1)[w]?=some row1:=List.getElem?_set_self hwp
  have hp1:∀b,(ps.set w row1).set w b=vss.set w b:=fun b=>by rw[List.set_set,hss]
  have hwp1:w<(ps.set w row1).length:=by rw[List.length_set];exact hwp
  generalize ps.set w row1=ps1 at *
  (repeat' first|refine st ?_|refine sa fun xe hxe=>?_|refine sb (fun hq=>?_) fun hq=>?_|exact True.intro)
  obtain rfl:=Option.some.inj ((List.getElem?_set_self hwp1).symm.trans hxe)
  clear hxe
  dsimp only
  have hl2:(row1.set (i:Int).toNat (⟨r1,r1+1,some j,v.digest⟩:VtxO)).length=row.length:=by rw[List.length_set,hl1]
  have hx2:(row1.set (i:Int).toNat (⟨r1,r1+1,some j,v.digest⟩:VtxO))[(i:Int).toNat]?=some ⟨r1,r1+1,some j,v.digest⟩:=List.getElem?_set_self (by omega)
  have hs2:∀x:VtxO,(row1.set (i:Int).toNat (⟨r1,r1+1,some j,v.digest⟩:VtxO)).set (i:Int).toNat x=row.set i x:=fun x=>by rw[List.set_set,hs1]
  generalize row1.set (i:Int).toNat (⟨r1,r1+1,some j,v.digest⟩:VtxO)=row2 at *
  have hw2:(ps1.set w row2)[w]?=some row2:=List.getElem?_set_self hwp1
  have hp2:∀b,(ps1.set w row2).set w b=vss.set w b:=fun b=>by rw[List.set_set,hp1]
  generalize ps1.set w row2=ps2 at *
  have hM:=j9 r2 j y (r1+1+1) h2 (by omega)
  rw[show r1+1+1=r1+2 by omega] at *
  have hF:=jl 3 r2 j (mk (r1+2) y.length)
  (repeat' first|refine st ?_|refine sa fun xe hxe=>?_|refine sb (fun hq=>?_) fun hq=>?_|refine co (hM) ?_|exact True.intro)
  refine⟨i+1,by omega,by omega,?_⟩
  rw[hr',h6,h7,h8,←hp2,show r1+3+(y.length:Int)=r1+2+y.length+1 by omega,←hs2]
  rfl
 ·obtain rfl:i=vs.length:=by omega
  rw[List.take_of_length_le (Nat.le_refl _),List.drop_eq_nil_of_le (Nat.le_refl _),List.append_nil] at *
  have hlm:=jt vs k pss
  have hgw:(vss.set w (cI vs k pss).2.2)[w]?=some (cI vs k pss).2.2:=List.getElem?_set_self hwl
  generalize cI vs k pss=r at *
  (repeat' first|refine st ?_|refine sa fun xe hxe=>?_|refine sb (fun hq=>?_) fun hq=>?_|exact True.intro)
  exact⟨rfl,rfl⟩
theorem oI (hs:List (Option Nat))(pss:List (List Int))(vss:List (List VtxO))(gs:List (List Vtx))(k:Int)(hr:GsR pss vss hs gs)(hn:(hs.map (·.getD 0)).Nodup)(hk:0≤k∧k+cG gs≤1000000000)(hl:hs.length≤1048576):ah Tryz.prog 46 [.ref 4,.int .i64 k] [(2,.frow 43 (.vtxo 3) vss),(3,.frow 3 (.int .i64) pss),(4,.row 102 (.hr 2) hs)] (.int .i64 (cd hs k pss vss).1) [(2,.frow 43 (.vtxo 3) (cd hs k pss vss).2.2),(3,.frow 3 (.int .i64) (cd hs k pss vss).2.1),(4,.row 102 (.hr 2) hs)]:=by
 refine aa ak Tryz.func46 rfl rfl false 1 5 rfl rfl rfl rfl fun K hK hb1 hb2=>?_;simp only[ae,enc,Nat.reduceAdd]
 clear hb1 hb2
 (repeat' first|refine st ?_|refine sa fun xe hxe=>?_|refine sb (fun hq=>?_) fun hq=>?_|exact True.intro)
 refine af hK [] [0,1,5] (fun i:Nat=>⟨[(0,.ref 4),(1,.int .i64 (cd (hs.take i) k pss vss).1),(5,.int .i64 i)],[(2,.frow 43 (.vtxo 3) (cd (hs.take i) k pss vss).2.2),(3,.frow 3 (.int .i64) (cd (hs.take i) k pss vss).2.1),(4,.row 102 (.hr 2) hs)],5⟩) (fun i=>i≤hs.length) (fun i=>hs.length-i) 0 (by simp) rfl ?_
 intro i hi
 have hgl:=hr.len
 by_cases hlt:i<hs.length
 ·have hv:gs[i]?=some gs[i]:=List.getElem?_eq_getElem (by omega)
  obtain⟨j,vs,g',h1,h2,h3,h4,h5,h6,h7,h8⟩:=tN (k:=k) hr hn hv rfl
  have hc:=qI hv
  have hc2:=zx gs (i+1)
  generalize hr':cd (hs.take (i+1)) k pss vss=r' at *
  generalize cd (hs.take i) k pss vss=r at *
  obtain⟨r1,r2,r3⟩:=r
  simp only at h2 h3 h5 h6 h7 h8⊢
  have hM:=pz r3 j vs h2 r2 g' r1 h3 (by omega)
  have hF0:=z7 43 r3 j (cI vs r1 r2).2.2
  have hF1:=eG 3 (gy vs r1 r2)
  generalize cI vs r1 r2=m at *
  (repeat' first|refine st ?_|refine sa fun xe hxe=>?_|refine sb (fun hq=>?_) fun hq=>?_|refine co (hM) ?_|exact True.intro)
  refine⟨i+1,by omega,by omega,?_⟩
  rw[hr',h6,h7,h8]
  rfl
 ·obtain rfl:i=hs.length:=by omega
  rw[List.take_of_length_le (Nat.le_refl _)] at *
  generalize cd hs k pss vss=r at *
  (repeat' first|refine st ?_|refine sa fun xe hxe=>?_|refine sb (fun hq=>?_) fun hq=>?_|exact True.intro)
  exact⟨rfl,rfl⟩
theorem mP (vs:List PplO)(pss:List (List Int))(g:List Ppl)(k:Int)(hr:PsR pss vs g)(hk:0≤k∧k+cP g≤1000000000):ah Tryz.prog 47 [.ref 4,.int .i64 k] [(3,.frow 3 (.int .i64) pss),(4,.row 104 (.pplo 3 3) vs)] (.int .i64 (e9 vs k pss).1) [(3,.frow 3 (.int .i64) (e9 vs k pss).2.1),(4,.row 104 (.pplo 3 3) (e9 vs k pss).2.2)]:=by
 refine aa ak Tryz.func47 rfl rfl false 1 5 rfl rfl rfl rfl fun K hK hb1 hb2=>?_;simp only[ae,enc,Nat.reduceAdd]
 clear hb1 hb2
 (repeat' first|refine st ?_|refine sa fun xe hxe=>?_|refine sb (fun hq=>?_) fun hq=>?_|exact True.intro)
 refine af hK [] [0,1,5] (fun i:Nat=>⟨[(0,.ref 4),(1,.int .i64 (e9 (vs.take i) k pss).1),(5,.int .i64 i)],[(3,.frow 3 (.int .i64) (e9 (vs.take i) k pss).2.1),(4,.row 104 (.pplo 3 3) ((e9 (vs.take i) k pss).2.2++vs.drop i))],5⟩) (fun i=>i≤vs.length) (fun i=>vs.length-i) 0 (by simp) (by simp[e9];rfl) ?_
 intro i hi
 have hgl:=hr.len
 have hcl:=u6 g
 by_cases hlt:i<vs.length
 ·have hv:g[i]?=some g[i]:=List.getElem?_eq_getElem (by omega)
  obtain⟨j,y,j2,y2,h1,h2,h2',h3,h3',h4,h5,h6,h7,h8⟩:=tW (k:=k) hr hv rfl
  have hc:=qJ hv
  have hc2:=zy g (i+1)
  have hll:((e9 (vs.take i) k pss).2.2++vs.drop i).length=vs.length:=by simp[js];omega
  generalize hr':e9 (vs.take (i+1)) k pss=r' at *
  generalize e9 (vs.take i) k pss=r at *
  obtain⟨r1,r2,r3⟩:=r
  simp only at h1 h2 h2' h4 h5 h6 h7 h8 hll⊢
  generalize r3++vs.drop i=row at *
  generalize g[i]=v at *
  have hti:(i:Int).toNat<row.length:=by simp;omega
  (repeat' first|refine st ?_|refine sa fun xe hxe=>?_|refine sb (fun hq=>?_) fun hq=>?_|exact True.intro)
  rename_i ya hya
  obtain rfl:=Option.some.inj ((List.getElem?_set_self hti).symm.trans hya)
  obtain rfl:=Option.some.inj ((List.getElem?_set_self (by rw[List.length_set];exact hti)).symm.trans hxe)
  clear hya hxe
  dsimp only
  rw[List.set_set]
  have hg2:(i:Int).toNat<(row.set (i:Int).toNat (⟨⟨r1,r1+1,some j,v.v.digest⟩,some j2⟩:PplO)).length:=by rw[List.length_set];exact hti
  have hg3:(row.set (i:Int).toNat (⟨⟨r1,r1+1,some j,v.v.digest⟩,some j2⟩:PplO))[(i:Int).toNat]?=some ⟨⟨r1,r1+1,some j,v.v.digest⟩,some j2⟩:=List.getElem?_set_self hti
  have hg4:∀x:PplO,(row.set (i:Int).toNat (⟨⟨r1,r1+1,some j,v.v.digest⟩,some j2⟩:PplO)).set (i:Int).toNat x=row.set i x:=fun x=>by rw[List.set_set,Int.toNat_natCast]
  generalize row.set (i:Int).toNat (⟨⟨r1,r1+1,some j,v.v.digest⟩,some j2⟩:PplO)=row2 at *
  have hM:=j9 r2 j y (r1+1+1) h2 (by omega)
  rw[show r1+1+1=r1+2 by omega] at *
  have hF:=jl 3 r2 j (mk (r1+2) y.length)
  (repeat(any_goals(first|refine st ?_|refine sa fun xe hxe=>?_|refine sb (fun hq=>?_) fun hq=>?_|refine co (hM) ?_|exact True.intro)))
  obtain rfl:=Option.some.inj ((List.getElem?_set_self hg2).symm.trans hxe)
  clear hxe hM hF
  dsimp only
  rw[hg4]
  have hM:=j9 (r2.set j (mk (r1+2) y.length)) j2 y2 (r1+2+y.length+1) h2' (by omega)
  rw[show r1+3+(y.length:Int)=r1+2+y.length+1 by omega] at *
  have hF:=jl 3 (r2.set j (mk (r1+2) y.length)) j2 (mk (r1+2+y.length+1) y2.length)
  generalize r2.set j (mk (r1+2) y.length)=r4 at *
  (repeat' first|refine st ?_|refine sa fun xe hxe=>?_|refine sb (fun hq=>?_) fun hq=>?_|refine co (hM) ?_|exact True.intro)
  refine⟨i+1,by omega,by omega,?_⟩
  rw[hr',h6,h7,h8]
  rfl
 ·obtain rfl:i=vs.length:=by omega
  rw[List.take_of_length_le (Nat.le_refl _),List.drop_eq_nil_of_le (Nat.le_refl _),List.append_nil] at *
  have hlm:=js vs k pss
  generalize e9 vs k pss=r at *
  (repeat' first|refine st ?_|refine sa fun xe hxe=>?_|refine sb (fun hq=>?_) fun hq=>?_|exact True.intro)
  exact⟨rfl,rfl⟩
theorem tI (a b:List Int)(bad:Int)(vss:List (List VtxO))(pss:List (List Int))(hs:List (Option Nat))(ps:List PplO)(gs:List (List Vtx))(qs:List Ppl)(k:Int)(h:WO vss pss hs ps gs qs)(hl:hs.length≤1048576)(hk:0≤k∧k+(a.length+b.length+cG gs+cP qs:Nat)≤1000000000):
  ∃x:(Int×List (List Int)×List (List VtxO))×(Int×List (List Int)×List PplO),(x.1=cd hs (k+a.length+b.length) pss vss∧x.2=e9 ps x.1.1 x.1.2.1)∧ah Tryz.prog 11 [wC bad,.int .i64 k] [(2,.frow 43 (.vtxo 3) vss),(3,.frow 3 (.int .i64) pss),(4,.row 3 (.int .i64) a),(5,.row 3 (.int .i64) b),(6,.row 102 (.hr 2) hs),(7,.row 104 (.pplo 3 3) ps)]
   (.int .i64 x.2.1) [(2,.frow 43 (.vtxo 3) x.1.2.2),(3,.frow 3 (.int .i64) x.2.2.1),(4,.row 3 (.int .i64) (mk k a.length)),(5,.row 3 (.int .i64) (mk (k+a.length) b.length)),(6,.row 102 (.hr 2) hs),(7,.row 104 (.pplo 3 3) x.2.2.2)]:=by
 refine⟨(cd hs (k+a.length+b.length) pss vss,e9 ps (cd hs (k+a.length+b.length) pss vss).1 (cd hs (k+a.length+b.length) pss vss).2.1),⟨rfl,rfl⟩,?_⟩
 obtain⟨h1,h2,h3,-,-⟩:=h.mark (k+a.length+b.length)
 have hG:=oI hs pss vss gs (k+a.length+b.length) h.g h.hn (by omega) hl
 have hP:=mP ps (cd hs (k+a.length+b.length) pss vss).2.1 qs (cd hs (k+a.length+b.length) pss vss).1 h1 (by omega)
 have hF0:ao (VB.frow 43 (.vtxo 3) vss)≤ao (VB.frow 43 (.vtxo 3) (cd hs (k+a.length+b.length) pss vss).2.2):=by
  have key:∀(hs:List (Option Nat)) (k:Int) (pss:List (List Int)) (vss:List (List VtxO)),(cd hs k pss vss).2.2.length=vss.length:=by
   intro hs
   induction hs with
   |nil=>intros;rfl
   |cons x l ih=>intro k pss vss;simp only[cd];rw[ih,List.length_set]
  simp[ao,key]
 have hF1:=eG 3 (gx hs (k+a.length+b.length) pss vss)
 have hF2:=eG 3 (ft ps (cd hs (k+a.length+b.length) pss vss).1 (cd hs (k+a.length+b.length) pss vss).2.1)
 generalize cd hs (k+a.length+b.length) pss vss=x at *
 generalize e9 ps x.1 x.2.1=y at *
 refine aa ak Tryz.func11 rfl rfl false 4 8 rfl rfl rfl rfl fun K hK hb1 hb2=>?_;simp only[ae,enc,Nat.reduceAdd]
 clear hb1 hb2
 (repeat' first|refine st ?_|refine sa fun xe hxe=>?_|refine sb (fun hq=>?_) fun hq=>?_|refine co (hG) ?_|refine co (hP) ?_|((with_reducible refine u9 ?_);(conv=>whnf);(first|with_reducible refine ax (j7 _ _ (by omega)) ?_);conv=>whnf)|exact True.intro)
 exact⟨rfl,rfl⟩
theorem v7 (k:Int):ah Tryz.prog 45 [.lst (.int .i64) [],.int .i64 k] [] (.int .i64 k) []:=by
 refine aa ak Tryz.func45 rfl rfl false 0 4 rfl rfl rfl rfl fun K hK hb1 hb2=>?_;simp only[ae,enc,Nat.reduceAdd]
 (repeat' first|refine st ?_|refine sa fun xe hxe=>?_|refine sb (fun hq=>?_) fun hq=>?_|exact True.intro)
 refine af hK [] [0,1,4,5] (fun _:Unit=>⟨[(0,.lst (.int .i64) []),(1,.int .i64 k),(4,.int .i64 0),(5,.int .i64 0)],[],4⟩) (fun _=>True) (fun _=>0) () trivial rfl ?_
 rintro⟨⟩ _
 (repeat' first|refine st ?_|refine sa fun xe hxe=>?_|refine sb (fun hq=>?_) fun hq=>?_|exact True.intro)
 ·simp at hq
 ·exact⟨rfl,rfl⟩
theorem oJ (k:Int):ah Tryz.prog 46 [.lst (.int .i64) [],.int .i64 k] [] (.int .i64 k) []:=by
 refine aa ak Tryz.func46 rfl rfl false 0 4 rfl rfl rfl rfl fun K hK hb1 hb2=>?_;simp only[ae,enc,Nat.reduceAdd]
 (repeat' first|refine st ?_|refine sa fun xe hxe=>?_|refine sb (fun hq=>?_) fun hq=>?_|exact True.intro)
 refine af hK [] [0,1,5] (fun _:Unit=>⟨[(0,.lst (.int .i64) []),(1,.int .i64 k),(5,.int .i64 0)],[],4⟩) (fun _=>True) (fun _=>0) () trivial rfl ?_
 rintro⟨⟩ _
 (repeat' first|refine st ?_|refine sa fun xe hxe=>?_|refine sb (fun hq=>?_) fun hq=>?_|exact True.intro)
 ·simp at hq
 ·exact⟨rfl,rfl⟩
theorem mQ (k:Int):ah Tryz.prog 47 [.lst (.int .i64) [],.int .i64 k] [] (.int .i64 k) []:=by
 refine aa ak Tryz.func47 rfl rfl false 0 4 rfl rfl rfl rfl fun K hK hb1 hb2=>?_;simp only[ae,enc,Nat.reduceAdd]
 (repeat' first|refine st ?_|refine sa fun xe hxe=>?_|refine sb (fun hq=>?_) fun hq=>?_|exact True.intro)
 refine af hK [] [0,1,5] (fun _:Unit=>⟨[(0,.lst (.int .i64) []),(1,.int .i64 k),(5,.int .i64 0)],[],4⟩) (fun _=>True) (fun _=>0) () trivial rfl ?_
 rintro⟨⟩ _
 (repeat' first|refine st ?_|refine sa fun xe hxe=>?_|refine sb (fun hq=>?_) fun hq=>?_|exact True.intro)
 ·simp at hq
 ·exact⟨rfl,rfl⟩
abbrev DQ:V:=.agg [.lst (.int .i64) [],.lst (.int .i64) [],.int .i64 0,.lst (.int .i64) [],.lst (.int .i64) []]
theorem mG (k:Int):ah Tryz.prog 11 [DQ,.int .i64 k] [] (.int .i64 k) []:=by
 refine aa ak Tryz.func11 rfl rfl false 0 4 rfl rfl rfl rfl fun K hK hb1 hb2=>?_;simp only[ae,enc,Nat.reduceAdd]
 clear hb1 hb2
 (repeat' first|refine st ?_|refine sa fun xe hxe=>?_|refine sb (fun hq=>?_) fun hq=>?_|refine cr (v7 _) ?_|refine cr (oJ _) ?_|refine cr (mQ _) ?_|exact True.intro)
 exact⟨rfl,rfl⟩
theorem ji:ah Tryz.prog 10 [DQ,DQ] [] (.bool true) []:=by
 have h:=gh ⟨[],[],0,[],[]⟩
 unfold ah at h⊢
 exact h
theorem mD (k:Int)(hk:0≤k∧k≤1000000000):ah Tryz.prog 12 [DQ,.int .i64 k] [] (.int .i64 k) []:=by
 have h:=mE ⟨[],[],0,[],[]⟩ k (by simp) (by simp[cW,cG,cP];omega)
 have e:cW ⟨[],[],0,[],[]⟩=0:=rfl
 have e2:Hf k ⟨[],[],0,[],[]⟩=⟨[],[],0,[],[]⟩:=rfl
 rw[e,e2,show k+((0:Nat):Int)=k by omega] at h
 unfold ah at h⊢
 exact h
theorem nW {w:Wrl}(h:WOK w)(i:Int):∀n,dW w≤dW (cT w i n)
 |0=>Nat.le_refl _
 |n+1=>by
  have h1:=nW h i n
  rcases im (iI h i n) n i with⟨-,h2⟩|⟨-,h2⟩
  ·simp only[cT,h2];exact h1
  ·simp only[cT,h2];omega
theorem qf {w:Wrl}(h:WOK w):∀k,dW w≤dW (bn w k)
 |0=>Nat.le_refl _
 |k+1=>Nat.le_trans (qf h k) (nW (gA h k) _ _)
theorem yY {w:Wrl}(h:WOK w){m i:Int}(hb:dk w m i=true):(cz w m i).views[m.toNat]?=some (ee (view w m) (prop w i).v):=by
 have hg:good w m=true:=by
  simp only[dk,Bool.and_eq_true] at hb
  exact hb.1
 have hl:=(h.view hg).2.2
 simp[cz,hb,List.getElem?_set,hl]
abbrev DO:List V:=[.nils,.nils,.int .i64 0,.nils,.nils]
set_option maxHeartbeats 1000000 in
theorem wq (w:Wrl)(h:WOK w):ah Tryz.prog 30 [aG w] [] (aG (bI w)) []:=by
 refine aa ak Tryz.func30 rfl rfl true 0 4 rfl rfl rfl rfl fun K hK hb1 hb2=>?_;simp only[ae,enc,Nat.reduceAdd]
 clear hb1 hb2
 (repeat' first|refine st ?_|refine sa fun xe hxe=>?_|refine sb (fun hq=>?_) fun hq=>?_|exact True.intro)
 refine af hK [] [1,2,3] (fun x:Bool×Wrl=>⟨[(1,.ptr 4 0),(2,.ptr 5 0),(3,.bool x.1)],[(4,.var 31 (aG x.2).cells),(5,.var 31 DO)],6⟩) (fun x=>WOK x.2∧(x.1=true→bI x.2=bI w)∧(x.1=false→x.2=bI w)) (fun x=>if x.1=true then 1520-dW x.2 else 0) (true,w) ⟨h,fun _=>rfl,fun h=>by cases h⟩ rfl ?_
 rintro⟨b,x⟩ ⟨hx,hbt,hbf⟩
 dsimp only at hx hbt hbf⊢
 cases b
 ·have:=hbf rfl
  rw[←this]
  (repeat' first|refine st ?_|refine sa fun xe hxe=>?_|refine sb (fun hq=>?_) fun hq=>?_|exact True.intro)
  exact⟨rfl,rfl⟩
 have hbt:=hbt rfl
 have hx7:=hx.len
 have hxp:=hx.plen
 (repeat' first|refine st ?_|refine sa fun xe hxe=>?_|refine sb (fun hq=>?_) fun hq=>?_|exact True.intro)
 refine af hK [] [1,2,3,4] (fun k:Nat=>⟨[(1,.ptr 4 0),(2,.ptr 5 0),(3,.bool (decide (dW x<dW (bn x k)))),(4,.int .i64 (k:Int))],[(4,.var 31 (aG (bn x k)).cells),(5,.var 31 DO)],6⟩) (fun k=>k≤x.props.length) (fun k=>x.props.length-k) 0 (by omega) (by simp only[bn,Nat.lt_irrefl,decide_false];rfl) ?_
 intro k hk
 have hpc:=cL x k
 have hpo:=gA hx k
 have hple:=qf hx k
 have hps:bn x (k+1)=cT (bn x k) k (bn x k).com.length:=rfl
 by_cases hlt:k<x.props.length
 ·generalize bn x k=y at *
  have hyl:y.props.length=x.props.length:=by rw[hpc.2]
  have hyc:y.com.length=x.com.length:=by rw[hpc.1]
  (repeat' first|refine st ?_|refine sa fun xe hxe=>?_|refine sb (fun hq=>?_) fun hq=>?_|exact True.intro)
  refine af hK [] [1,2,3,4,5] (fun m:Nat=>⟨[(1,.ptr 4 0),(2,.ptr 5 0),(3,.bool (decide (dW x<dW (cT y k m)))),(4,.int .i64 (k:Int)),(5,.int .i64 (m:Int))],[(4,.var 31 (aG (cT y k m)).cells),(5,.var 31 DO)],6⟩) (fun m=>m≤y.com.length) (fun m=>y.com.length-m) 0 (by omega) rfl ?_
  intro m hm
  have hdc:=gf y k m
  have hdo:=iI hpo k m
  have hdle:=nW hpo k m
  have hds:cT y k (m+1)=cz (cT y k m) m k:=rfl
  by_cases hml:m<y.com.length
  ·generalize cT y k m=z at *
   have hzc:z.com.length=y.com.length:=by rw[hdc.1]
   have hzv:=hdo.vlen
   have hS:=BI z m k hdo
   have hxv:z.views[m]?=some (view z m):=by
    unfold view
    rw[Int.toNat_natCast,List.getD_eq_getElem?_getD,List.getElem?_eq_getElem (show m<z.views.length by omega)]
    rfl
   have hgl:=hdo.vl _ (List.mem_of_getElem? hxv)
   have hso:=rO hdo m k
   have hsc:=ut z m k
   have hsv:=hso.vlen
   rcases im hdo m k with⟨e1,e2⟩|⟨e1,e2⟩
   ·rw[e2] at hS hds
    generalize view z m=g at *
    by_cases hmo:dW x<dW z
    ·rw[decide_eq_true hmo]
     (repeat' first|refine st ?_|refine sa fun xe hxe=>?_|refine sb (fun hq=>?_) fun hq=>?_|refine cr (hS) ?_|exact True.intro)
     exact⟨m+1,by omega,by omega,by rw[hds,decide_eq_true hmo];rfl⟩
    ·rw[decide_eq_false hmo]
     (repeat' first|refine st ?_|refine sa fun xe hxe=>?_|refine sb (fun hq=>?_) fun hq=>?_|refine cr (hS) ?_|exact True.intro)
     exact⟨m+1,by omega,by omega,by rw[hds,decide_eq_false hmo,decide_eq_false (Int.lt_irrefl _)];rfl⟩
   ·have hxv2:=yY hdo e1
    rw[Int.toNat_natCast] at hxv2
    have hil:=tl (view z m) (prop z k).v
    have hmo2:dW x<dW (cz z m k):=by omega
    generalize cz z m k=z2 at *
    generalize ee (view z m) (prop z k).v=g2 at *
    generalize view z m=g at *
    by_cases hmo:dW x<dW z
    ·rw[decide_eq_true hmo]
     (repeat' first|refine st ?_|refine sa fun xe hxe=>?_|refine sb (fun hq=>?_) fun hq=>?_|refine cr (hS) ?_|exact True.intro)
     exact⟨m+1,by omega,by omega,by rw[hds,decide_eq_true hmo2];rfl⟩
    ·rw[decide_eq_false hmo]
     have hlt2:(g.length:Int)<g2.length:=by omega
     (repeat' first|refine st ?_|refine sa fun xe hxe=>?_|refine sb (fun hq=>?_) fun hq=>?_|refine cr (hS) ?_|exact True.intro)
     exact⟨m+1,by omega,by omega,by rw[hds,decide_eq_true hmo2,decide_eq_true hlt2];rfl⟩
  ·obtain rfl:m=y.com.length:=by omega
   rw[←hps]
   have hc2:(bn x (k+1)).com.length=y.com.length:=by rw[hps,hdc.1]
   generalize hz:bn x (k+1)=z at *
   (repeat' first|refine st ?_|refine sa fun xe hxe=>?_|refine sb (fun hq=>?_) fun hq=>?_|exact True.intro)
   exact⟨k+1,by omega,by omega,by rw[hz];rfl⟩
 ·obtain rfl:k=x.props.length:=by omega
  have hpa:bn x x.props.length=pass x:=rfl
  rw[hpa] at hpc hpo hple
  rw[hpa]
  clear hpa hps
  have hyl:(pass x).props.length=x.props.length:=by rw[hpc.2]
  have htl:=sl hpo
  have htx:=sl hx
  have e1:dW x<dW (pass x)→bI x=bI (pass x):=fun hh=>by
   rw[bI]
   exact dif_pos ⟨hh,htl⟩
  have e2:¬dW x<dW (pass x)→bI x=pass x:=fun hh=>by
   rw[bI]
   exact dif_neg fun h9=>hh h9.1
  generalize pass x=z at *
  (repeat' first|refine st ?_|refine sa fun xe hxe=>?_|refine sb (fun hq=>?_) fun hq=>?_|exact True.intro)
  refine⟨(decide (dW x<dW z),z),⟨hpo,fun hh=>?_,fun hh=>?_⟩,?_,rfl⟩
  ·rw[←hbt,e1 (of_decide_eq_true hh)]
  ·rw[←hbt,e2 (of_decide_eq_false hh)]
  ·dsimp only
   split
   ·rename_i hh
    have:=of_decide_eq_true hh
    simp only[if_true]
    omega
   ·simp only[if_true]
    omega
theorem BU (w:Wrl)(h:WOK w):ah Tryz.prog 31 [aG w] [] (aG (cA w)) []:=by
 have h7:=h.len
 have hpl:=h.plen
 refine aa ak Tryz.func31 rfl rfl true 0 4 rfl rfl rfl rfl fun K hK hb1 hb2=>?_;simp only[ae,enc,Nat.reduceAdd]
 clear hb1 hb2
 (repeat' first|refine st ?_|refine sa fun xe hxe=>?_|refine sb (fun hq=>?_) fun hq=>?_|exact True.intro)
 refine af hK [] [1,2,3] (fun k:Nat=>⟨[(1,.ptr 4 0),(2,.ptr 5 0),(3,.int .i64 (k:Int))],[(4,.var 31 (aG (cM w k)).cells),(5,.var 31 DO)],6⟩) (fun k=>k≤w.props.length) (fun k=>w.props.length-k) 0 (by omega) rfl ?_
 intro k hk
 have hpc:=bK w k
 have hpo:=cS h k
 have hps:cM w (k+1)=iv (cM w k) k (cM w k).com.length:=rfl
 by_cases hlt:k<w.props.length
 ·generalize cM w k=y at *
  have hyc:y.com.length=w.com.length:=by rw[hpc.1]
  (repeat' first|refine st ?_|refine sa fun xe hxe=>?_|refine sb (fun hq=>?_) fun hq=>?_|exact True.intro)
  refine af hK [] [1,2,3,4] (fun m:Nat=>⟨[(1,.ptr 4 0),(2,.ptr 5 0),(3,.int .i64 (k:Int)),(4,.int .i64 (m:Int))],[(4,.var 31 (aG (iv y k m)).cells),(5,.var 31 DO)],6⟩) (fun m=>m≤y.com.length) (fun m=>y.com.length-m) 0 (by omega) rfl ?_
  intro m hm
  have hdc:=jJ y k m
  have hdo:=pb hpo k m
  have hds:iv y k (m+1)=fb (iv y k m) m k:=rfl
  by_cases hml:m<y.com.length
  ·generalize iv y k m=z at *
   have hzc:z.com.length=y.com.length:=by rw[hdc.1]
   have hS:=BT z m k hdo
   generalize fb z m k=z2 at *
   (repeat' first|refine st ?_|refine sa fun xe hxe=>?_|refine sb (fun hq=>?_) fun hq=>?_|refine cr (hS) ?_|exact True.intro)
   exact⟨m+1,by omega,by omega,by rw[hds];rfl⟩
  ·obtain rfl:m=y.com.length:=by omega
   rw[←hps]
   have hc2:(cM w (k+1)).com.length=y.com.length:=by rw[hps,hdc.1]
   generalize hz:cM w (k+1)=z at *
   (repeat' first|refine st ?_|refine sa fun xe hxe=>?_|refine sb (fun hq=>?_) fun hq=>?_|exact True.intro)
   exact⟨k+1,by omega,by omega,by rw[hz];rfl⟩
 ·obtain rfl:k=w.props.length:=by omega
  have hpa:cM w w.props.length=cA w:=rfl
  rw[hpa] at hpc hpo
  rw[hpa]
  clear hpa hps
  have hyl:=hpc.2
  generalize cA w=z at *
  (repeat' first|refine st ?_|refine sa fun xe hxe=>?_|refine sb (fun hq=>?_) fun hq=>?_|exact True.intro)
  exact⟨rfl,rfl⟩
theorem BH (w:Wrl)(h:WOK w):ah Tryz.prog 33 [aG w] [] (aG w) []:=by
 have h7:=h.len
 have hvl:=h.vlen
 have hpl:=h.plen
 have hll:=(gw.1 h.lead).2
 refine aa ak Tryz.func33 rfl rfl true 0 4 rfl rfl rfl rfl fun K hK hb1 hb2=>?_;simp only[ae,enc,Nat.reduceAdd]
 clear hb1 hb2
 (repeat' first|refine st ?_|refine sa fun xe hxe=>?_|refine sb (fun hq=>?_) fun hq=>?_|exact True.intro)
 refine af hK [] [1,2,3,4] (fun i:Nat=>⟨[(1,.ptr 4 0),(2,.ptr 5 0),(3,.ptr 6 0),(4,.int .i64 (i:Int))],[(4,.var 31 (aG w).cells),(5,.var 31 DO),(6,.var 31 [.ref 7,.ref 8,.int .i64 w.bad,.ref 9,.ref 10]),(7,.row 3 (.int .i64) w.com),(8,.row 3 (.int .i64) w.lead),(9,.row 102 (.lst .vtx) (w.views.take i)),(10,.row 104 .ppl [])],11⟩) (fun i=>i≤w.views.length) (fun i=>w.views.length-i) 0 (by omega) rfl ?_
 intro i hi
 by_cases hlt:i<w.views.length
 ·have hxe:w.views[i]?=some w.views[i]:=List.getElem?_eq_getElem hlt
  have hsn:w.views.take (i+1)=w.views.take i++[w.views[i]]:=List.take_succ_eq_append_getElem hlt
  have hgm:=List.getElem_mem hlt
  have hC:=xX w.views[i] (by have:=h.vl _ hgm;omega) fun v hv=>by have:=h.par (h.vv _ hgm v hv);omega
  have hl1:(w.views.take i).length=i:=by rw[List.length_take];omega
  generalize w.views[i]=g at *
  generalize w.views.take i=l at *
  (repeat' first|refine st ?_|refine sa fun xe hxe=>?_|refine sb (fun hq=>?_) fun hq=>?_|refine cr (hC) ?_|exact True.intro)
  exact⟨i+1,by omega,by omega,by rw[hsn];rfl⟩
 rw[List.take_of_length_le (by omega)]
 (repeat' first|refine st ?_|refine sa fun xe hxe=>?_|refine sb (fun hq=>?_) fun hq=>?_|exact True.intro)
 refine af hK [] [1,2,3,5] (fun i:Nat=>⟨[(1,.ptr 4 0),(2,.ptr 5 0),(3,.ptr 6 0),(5,.int .i64 (i:Int))],[(4,.var 31 (aG w).cells),(5,.var 31 DO),(6,.var 31 [.ref 7,.ref 8,.int .i64 w.bad,.ref 9,.ref 10]),(7,.row 3 (.int .i64) w.com),(8,.row 3 (.int .i64) w.lead),(9,.row 102 (.lst .vtx) w.views),(10,.row 104 .ppl (w.props.take i))],11⟩) (fun i=>i≤w.props.length) (fun i=>w.props.length-i) 0 (by omega) rfl ?_
 intro k hk
 by_cases hkl:k<w.props.length
 ·have hxe:w.props[k]?=some w.props[k]:=List.getElem?_eq_getElem hkl
  have hsn:w.props.take (k+1)=w.props.take k++[w.props[k]]:=List.take_succ_eq_append_getElem hkl
  have hpm:=List.getElem_mem hkl
  have hC:=mc w.props[k].v (by have:=h.par (h.pv _ hpm).1;omega)
  have hm:=h.mem _ hpm
  have hl1:(w.props.take k).length=k:=by rw[List.length_take];omega
  generalize w.props[k]=p at *
  generalize w.props.take k=l at *
  (repeat' first|refine st ?_|refine sa fun xe hxe=>?_|refine sb (fun hq=>?_) fun hq=>?_|refine cr (hC) ?_|exact True.intro)
  exact⟨k+1,by omega,by omega,by rw[hsn];rfl⟩
 ·(repeat' first|refine st ?_|refine sa fun xe hxe=>?_|refine sb (fun hq=>?_) fun hq=>?_|exact True.intro)
  rw[List.take_of_length_le (by omega)]
  exact⟨rfl,rfl⟩
theorem DR {w:Wrl}(h:WOK w):w.com.length≤2000000:=by have:=h.len;omega
theorem DA (w:Wrl)(r:Nat)(h:WOK w)(hr:r≤12):ah Tryz.prog 7 [aG w,.int .i64 (r:Int)] [] (aG (aC w r)) []:=by
 have hV:=BV w (DR h)
 rw[dS.2 h] at hV
 have hI:=j4 (r:Int) 0 12
 rw[aD.2 (by omega)] at hI
 have hS:=wq w h
 refine aa ak Tryz.func7 rfl rfl true 0 4 rfl rfl rfl rfl fun K hK hb1 hb2=>?_;simp only[ae,enc,Nat.reduceAdd]
 clear hb1 hb2
 (repeat' first|refine st ?_|refine sa fun xe hxe=>?_|refine sb (fun hq=>?_) fun hq=>?_|refine cr (hV) ?_|refine cr (hI) ?_|refine cr (hS) ?_|exact True.intro)
 refine af hK [] [1,2,4,5] (fun k:Nat=>⟨[(1,.int .i64 (r:Int)),(2,.ptr 4 0),(4,.ptr 5 0),(5,.int .i64 (k:Int))],[(4,.var 31 (aG (aC w k)).cells),(5,.var 31 DO)],6⟩) (fun k=>k≤r) (fun k=>r-k) 0 (by omega) rfl ?_
 intro k hk
 have hco:=ec h k
 have hcs:aC w (k+1)=dR (bl (dR (aC w k)) k (dR (aC w k)).com.length):=rfl
 by_cases hlt:k<r
 ·generalize aC w k=x at *
  have h1:=BU x hco
  have h2:=wq (cA x) (cS hco _)
  have hr1:bI (cA x)=dR x:=rfl
  have hro:=il hco
  rw[hr1] at h2
  generalize cA x=x1 at *
  generalize dR x=y at *
  (repeat' first|refine st ?_|refine sa fun xe hxe=>?_|refine sb (fun hq=>?_) fun hq=>?_|refine cr (h1) ?_|refine cr (h2) ?_|exact True.intro)
  refine af hK [] [1,2,4,5,6] (fun m:Nat=>⟨[(1,.int .i64 (r:Int)),(2,.ptr 4 0),(4,.ptr 5 0),(5,.int .i64 (k:Int)),(6,.int .i64 (m:Int))],[(4,.var 31 (aG (bl y k m)).cells),(5,.var 31 DO)],6⟩) (fun m=>m≤y.com.length) (fun m=>y.com.length-m) 0 (by omega) rfl ?_
  intro m hm
  have hdc:=gB y k m
  have hdo:=iU hro k m
  have hyl:=hro.len
  have hds:bl y k (m+1)=dp (bl y k m) m (7*k+m):=rfl
  by_cases hml:m<y.com.length
  ·generalize bl y k m=z at *
   have hzc:z.com.length=y.com.length:=by rw[hdc]
   have hP:=BN z m (7*k+m) hdo
   generalize dp z m (7*k+m)=z2 at *
   (repeat' first|refine st ?_|refine sa fun xe hxe=>?_|refine sb (fun hq=>?_) fun hq=>?_|refine cr (hP) ?_|exact True.intro)
   exact⟨m+1,by omega,by omega,by rw[hds];rfl⟩
  ·obtain rfl:m=y.com.length:=by omega
   have hzc:(bl y k y.com.length).com.length=y.com.length:=by rw[hdc]
   generalize bl y k y.com.length=z at *
   have h3:=BU z hdo
   have h4:=wq (cA z) (cS hdo _)
   have hr2:bI (cA z)=dR z:=rfl
   rw[hr2] at h4
   generalize cA z=z1 at *
   generalize dR z=z2 at *
   (repeat' first|refine st ?_|refine sa fun xe hxe=>?_|refine sb (fun hq=>?_) fun hq=>?_|refine cr (h3) ?_|refine cr (h4) ?_|exact True.intro)
   exact⟨k+1,by omega,by omega,by rw[hcs];rfl⟩
 ·obtain rfl:k=r:=by omega
  have hC:=BH (aC w k) hco
  generalize aC w k=x at *
  (repeat' first|refine st ?_|refine sa fun xe hxe=>?_|refine sb (fun hq=>?_) fun hq=>?_|refine cr (hC) ?_|exact True.intro)
  exact⟨rfl,rfl⟩
def e0:Evt:=⟨0,0,0,v0⟩
theorem FL (w:Wrl)(e:Evt)(hl:w.com.length≤2000000)(hvl:e.v.parents.length≤2000000):ah Tryz.prog 14 [aG w,jM e] [] (if eS w then aG (dX w e) else wD) []:=by
 have hV:=BV w hl
 refine aa ak Tryz.func14 rfl rfl true 0 4 rfl rfl rfl rfl fun K hK hb1 hb2=>?_;simp only[ae,enc,Nat.reduceAdd]
 clear hb1 hb2
 cases hs:eS w
 ·rw[hs] at hV
  (repeat' first|refine st ?_|refine sa fun xe hxe=>?_|refine sb (fun hq=>?_) fun hq=>?_|refine cr (hV) ?_|exact True.intro)
  exact⟨rfl,rfl⟩
 ·rw[hs] at hV
  have hw:=dS.1 hs
  have hD:=GI w e hw hvl
  have hC:=BH _ (kg hw e)
  generalize dX w e=u at *
  (repeat' first|refine st ?_|refine sa fun xe hxe=>?_|refine sb (fun hq=>?_) fun hq=>?_|refine cr (hV) ?_|refine cr (hD) ?_|refine cr (hC) ?_|exact True.intro)
  exact⟨rfl,rfl⟩
theorem y7 (e:Evt)(l:Int)(hl:0≤l∧l≤1048576):ah Tryz.prog 13 [jM e,.int .i64 l] [] (.int .i64 (lw l e.v.parents.length)) []:=by
 have hc:=kh e.v l hl
 refine aa ak Tryz.func13 rfl rfl false 0 4 rfl rfl rfl rfl fun K hK hb1 hb2=>?_;simp only[ae,enc,Nat.reduceAdd]
 clear hb1 hb2
 unfold lw at hc⊢
 by_cases h:l-e.v.parents.length<0
 ·rw[if_pos h] at hc⊢
  (repeat' first|refine st ?_|refine sa fun xe hxe=>?_|refine sb (fun hq=>?_) fun hq=>?_|refine cr (hc) ?_|exact True.intro)
  exact⟨rfl,rfl⟩
 ·rw[if_neg h] at hc⊢
  (repeat' first|refine st ?_|refine sa fun xe hxe=>?_|refine sb (fun hq=>?_) fun hq=>?_|refine cr (hc) ?_|exact True.intro)
  exact⟨rfl,rfl⟩
theorem za (e:Evt)(hv:e.v.parents.length≤1048576):ah Tryz.prog 15 [jM e] [] (jM e) []:=by
 refine aa ak Tryz.func15 rfl rfl true 0 4 rfl rfl rfl rfl fun K hK hb1 hb2=>?_;simp only[ae,enc,Nat.reduceAdd]
 clear hb1 hb2
 (repeat' first|refine st ?_|refine sa fun xe hxe=>?_|refine sb (fun hq=>?_) fun hq=>?_|refine cr (ki _ hv) ?_|exact True.intro)
 exact⟨rfl,rfl⟩
abbrev Gi (e:Evt):V:=.agg [.int .i64 e.kind,.int .i64 e.a,.int .i64 e.b,.int .i64 e.v.round,.int .i64 e.v.author,.ref 4,.int .i64 e.v.digest]
theorem zb (e:Evt)(hv:e.v.parents.length≤1048576):ah Tryz.prog 15 [jM e] [] (Gi e) [(4,.row 3 (.int .i64) e.v.parents)]:=by
 refine aa ak Tryz.func15 rfl rfl false 0 4 rfl rfl rfl rfl fun K hK hb1 hb2=>?_;simp only[ae,enc,Nat.reduceAdd]
 clear hb1 hb2
 (repeat' first|refine st ?_|refine sa fun xe hxe=>?_|refine sb (fun hq=>?_) fun hq=>?_|refine cr (kj _ hv) ?_|exact True.intro)
 exact⟨rfl,rfl⟩
theorem yz (e:Evt):ah Tryz.prog 17 [jM e,jM e] [] (.bool true) []:=by
 refine aa ak Tryz.func17 rfl rfl false 0 4 rfl rfl rfl rfl fun K hK hb1 hb2=>?_;simp only[ae,enc,Nat.reduceAdd]
 clear hb1 hb2
 (repeat' first|refine st ?_|refine sa fun xe hxe=>?_|refine sb (fun hq=>?_) fun hq=>?_|refine cr (j0 _) ?_|exact True.intro)
 all_goals first|(exact⟨rfl,rfl⟩)|exact absurd rfl hq|exact absurd trivial hq|cases hq
theorem rC (v:Vtx)(k:Int)(hk:0≤k∧k+v.parents.length≤1000000000):ah Tryz.prog 55 [.agg [.int .i64 v.round,.int .i64 v.author,.ref 4,.int .i64 v.digest],.int .i64 k] [(4,.row 3 (.int .i64) v.parents)] (.int .i64 (k+v.parents.length)) [(4,.row 3 (.int .i64) (mk k v.parents.length))]:=by
 refine aa ak Tryz.func55 rfl rfl false 1 5 rfl rfl rfl rfl fun K hK hb1 hb2=>?_;simp only[ae,enc,Nat.reduceAdd]
 clear hb1 hb2
 (repeat' first|refine st ?_|refine sa fun xe hxe=>?_|refine sb (fun hq=>?_) fun hq=>?_|refine co (j7 _ _ hk) ?_|exact True.intro)
 exact⟨rfl,rfl⟩
theorem tH (e:Evt)(k:Int)(hk:0≤k∧k+e.v.parents.length≤1000000000):ah Tryz.prog 18 [Gi e,.int .i64 k] [(4,.row 3 (.int .i64) e.v.parents)] (.int .i64 (k+e.v.parents.length)) [(4,.row 3 (.int .i64) (mk k e.v.parents.length))]:=by
 refine aa ak Tryz.func18 rfl rfl false 1 5 rfl rfl rfl rfl fun K hK hb1 hb2=>?_;simp only[ae,enc,Nat.reduceAdd]
 clear hb1 hb2
 (repeat' first|refine st ?_|refine sa fun xe hxe=>?_|refine sb (fun hq=>?_) fun hq=>?_|refine co (rC _ _ hk) ?_|exact True.intro)
 exact⟨rfl,rfl⟩
theorem rZ {α:Type}(f:α→Nat)(b:Nat):∀(l:List α),(∀x∈l,f x≤b)→(l.map f).sum≤l.length*b
 |[],_=>by simp
 |x::l,h=>by
  have h1:=h x (by simp)
  have h2:=rZ f b l fun y hy=>h y (by simp[hy])
  simp only[List.map_cons,List.sum_cons,List.length_cons,Nat.succ_mul]
  omega
theorem Cd {w:Wrl}(h:WOK w):cW w≤100000∧w.views.length≤7:=by
 have h1:=h.len
 have h2:=(gw.1 h.lead).2
 have h3:cG w.views≤w.views.length*2170:=rZ _ _ _ fun g hg=>by
  have h4:cV g≤g.length*10:=rZ _ _ _ fun v hv=>by have:=h.par (h.vv g hg v hv);omega
  have h5:=h.vl g hg
  omega
 have h6:cP w.props≤w.props.length*17:=rZ _ _ _ fun p hp=>by
  have:=h.par (h.pv p hp).1
  have:=h.mem p hp
  omega
 have h7:=h.plen
 have h8:=h.vlen
 unfold cW
 refine⟨?_,by omega⟩
 have h9:w.views.length*2170≤7*2170:=Nat.mul_le_mul_right _ (by omega)
 omega
theorem Ga (gs:List (List Vtx)):cG gs≤3*pd gs:=by
 have hv:∀g:List Vtx,cV g≤3*vG g:=fun g=>by
  unfold cV vG eL
  induction g with
  |nil=>simp
  |cons v g ih=>simp only[List.map_cons,List.sum_cons,List.length_cons] at ih⊢;omega
 unfold cG pd
 induction gs with
 |nil=>simp
 |cons g l ih=>have:=hv g;simp only[List.map_cons,List.sum_cons] at ih⊢;omega
theorem Gb (ps:List Ppl):cP ps=3*ps.length+qi ps:=by
 unfold cP qi pA
 induction ps with
 |nil=>rfl
 |cons p l ih=>simp only[List.map_cons,List.sum_cons,List.length_cons] at ih⊢;omega
theorem Ey {w:Wrl}(h:Cf w≤1048576):w.com.length+w.lead.length+cG w.views+cP w.props≤10000000:=by
 have h1:=Ga w.views
 have h2:=Gb w.props
 unfold Cf at h
 omega
theorem BW (w:Wrl)(r:Int)(hl:w.com.length≤2000000):ah Tryz.prog 7 [aG w,.int .i64 r] [] (if decide (0≤r∧r≤12) && eS w then aG (aC w r.toNat) else wD) []:=by
 have hV:=BV w hl
 have hI:=j4 r 0 12
 cases hs:eS w
 ·rw[hs] at hV
  rw[Bool.and_false]
  refine aa ak Tryz.func7 rfl rfl true 0 4 rfl rfl rfl rfl fun K hK hb1 hb2=>?_;simp only[ae,enc,Nat.reduceAdd]
  clear hb1 hb2
  (repeat' first|refine st ?_|refine sa fun xe hxe=>?_|refine sb (fun hq=>?_) fun hq=>?_|refine cr (hV) ?_|refine cr (hI) ?_|exact True.intro)
  exact⟨rfl,rfl⟩
 ·rw[Bool.and_true]
  by_cases hr:0≤r∧r≤12
  ·rw[decide_eq_true hr]
   have h:=DA w r.toNat (dS.1 hs) (by omega)
   rw[show ((r.toNat:Nat):Int)=r by omega] at h
   exact h
  ·rw[decide_eq_false hr]
   rw[hs] at hV
   have hv:iq r 0 12=false:=by
    rw[Bool.eq_false_iff]
    intro h
    exact hr (aD.1 h)
   rw[hv] at hI
   refine aa ak Tryz.func7 rfl rfl true 0 4 rfl rfl rfl rfl fun K hK hb1 hb2=>?_;simp only[ae,enc,Nat.reduceAdd]
   clear hb1 hb2
   (repeat' first|refine st ?_|refine sa fun xe hxe=>?_|refine sb (fun hq=>?_) fun hq=>?_|refine cr (hV) ?_|refine cr (hI) ?_|exact True.intro)
   exact⟨rfl,rfl⟩

end Go.Proofs.YthmfppknagbkeaaGreat.Am
