/- Runs: a run as the program hands it back, in rows of one's own. Runs: WorldNew in rows of one's own; the law FnExactWorldNew. Runs: what an event does to a run. Runs: impl's WorldDo and WorldPlay. Runs: impl's quiet rounds. Runs: the program's WorldDo, WorldPlay, WorldCalm, their results in rows of one's own. The exact laws' own functions: marks on own rows within own rows, in families 2 and 3 (as XEB has them for 0 and 1). The law FnExactWorldNew. Runs: quiet rounds, copies, whole events: what the specification gives. What is drawn for new runs; the law FnWorldNew. What is drawn for runs. Wha -/
import Derived.WalkKit
import Derived.ProofKit
import Derived.OpenShut
import Derived.Carry
import Derived.ChangeSlices
import Derived.ChangeSame
import Derived.Test.YthmfppknagbkeaaGreatPL10
set_option linter.unusedSimpArgs false
set_option linter.unusedVariables false
set_option maxHeartbeats 1000000
namespace Go.Proofs.YthmfppknagbkeaaGreat.Am
open Go
attribute [local irreducible] Mk bS Ari eQ pS kR cw eG jf jg At ai
set_option maxRecDepth 10000
theorem B7 (tabs:List (List (Option Vtx)))(k:Nat)(tab:List (Option Vtx))(pss:List (List Int))(hk:tabs[k]?=some tab)(ht:tab.length=217)(hv:∀v,some v∈tab→v.parents.length≤1000000):ai Tryz.prog 91 [.hpo 0 (some k)] [(0,.fvari 142 217 (.ob .vtx) tabs),(3,.frow 3 (.int .i64) pss)] (.ref 4) [(0,.fvari 142 217 (.ob .vtx) tabs),(3,.frow 3 (.int .i64) (pss++(aT tab).map (·.parents))),(4,.row 43 (.vtxo 3) (gV pss.length (aT tab)))]:=by
 have h:=Ek tabs k tab pss hk ht hv
 unfold ai at h⊢
 exact h
abbrev xX (s:Int)(c l:List Int)(b:Int)(tabs:List (List (Option Vtx)))(xss:List (Option (List Int)))(ms:List PplM)(vss:List (List VtxO))(pss:List (List Int)):VH:=[(0,.fvari 142 217 (.ob .vtx) tabs),(1,.frowx 3 (.int .i64) xss),(2,.frow 43 (.vtxo 3) vss),(3,.frow 3 (.int .i64) pss),(4,.var 83 [.int .i32 s,.int .u32 0,.lst (.int .i64) c,.lst (.int .i64) l,.int .i64 b,.ref 5,.ref 6]),(5,.row 115 (.hp 0) ((List.range tabs.length).map some)),(6,.row 104 (.pplm 1) ms)]
abbrev GM (c l:List Int)(b:Int)(ps:List Ppl):VH:=[(7,VB.var 31 [.nils,.nils,.int .i64 0,.nils,.nils]),(8,VB.var 31 [.ref 9,.ref 10,.int .i64 b,.nils,.ref 11]),(9,VB.row 3 (.int .i64) c),(10,VB.row 3 (.int .i64) l),(11,VB.row 104 (.pplo 3 3) (fJ 0 ps))]
abbrev F1 (c l:List Int)(b:Int)(ps:List Ppl)(hs:List (Option Nat)):VH:=[(7,VB.var 31 [.nils,.nils,.int .i64 0,.nils,.nils]),(8,VB.var 31 [.ref 9,.ref 10,.int .i64 b,.ref 11,.ref 12]),(9,VB.row 3 (.int .i64) c),(10,VB.row 3 (.int .i64) l),(11,VB.row 102 (.hr 2) hs),(12,VB.row 104 (.pplo 3 3) (fJ 0 ps))]
def rA (s:Int)(c l:List Int)(b:Int)(tabs:List (List (Option Vtx)))(xss:List (Option (List Int)))(ms:List PplM)(ps:List Ppl):Nat→VSt
 |0=>⟨[(2,.ptr 7 0),(3,.ptr 8 0),(30,.ref 5),(31,.int .i64 tabs.length),(32,.int .i64 0)],xX s c l b tabs xss ms [] (aF ps)++GM c l b ps,12⟩
 |i+1=>⟨[(2,.ptr 7 0),(3,.ptr 8 0),(30,.ref 5),(31,.int .i64 tabs.length),(32,.int .i64 ((i+1:Nat):Int))],xX s c l b tabs xss ms (fI (aF ps).length ((tabs.take (i+1)).map aT)) (aF ps++aW ((tabs.take (i+1)).map aT))++F1 c l b ps ((List.range (i+1)).map some),13⟩
set_option maxHeartbeats 1000000 in
theorem Cc (s:Int)(c l:List Int)(b:Int)(tabs:List (List (Option Vtx)))(xss:List (Option (List Int)))(ms:List PplM)(ps:List Ppl)(hR:Rel ps xss ms)(hc:c≠[])(hcl:c.length≤1000000)(hll:l.length≤1000000)(ht:∀t∈tabs,t.length=217∧∀v,some v∈t→v.parents.length≤1000000)(htl:tabs.length≤7)(htl1:1≤tabs.length)
  (hv:∀p∈ps,p.v.parents.length≤1000000∧p.members.length≤1000000) (hpn:ps.length≤1000000):ai Tryz.prog 41 [.ptr 4 0] (xX s c l b tabs xss ms [] []) (.agg [.ref 7,.ref 8,.int .i64 b,.ref 9,.ref 10])
   (xX s c l b tabs xss ms (fI (aF ps).length (tabs.map aT)) (aF ps++aW (tabs.map aT))++[(7,.row 3 (.int .i64) c),(8,.row 3 (.int .i64) l),(9,.row 102 (.hr 2) ((List.range tabs.length).map some)),(10,.row 104 (.pplo 3 3) (fJ 0 ps))]):=by
 have hC:=D6 c hc hcl
 have hP:=D9 ps xss ms hR hv hpn
 have hrl:((List.range tabs.length).map some).length=tabs.length:=by simp
 have hF:=ph 3 (aF ps)
 refine aa jQ Tryz.func41 rfl rfl false 3 7 rfl rfl rfl rfl fun K hK hb1 hb2=>?_;simp only[ae,enc,Nat.reduceAdd]
 clear hb1 hb2
 (repeat' first|refine x7 ?_|refine sa fun xe hxe=>?_|refine sb (fun hq=>?_) fun hq=>?_|refine cr (hC) ?_|((with_reducible refine ij [1,3] ?_);(conv=>whnf);(with_reducible refine aB (hP) ?_);conv=>whnf)|exact True.intro)
 refine ag hK [] [2,3,30,31,32] (rA s c l b tabs xss ms ps) (fun i=>i≤tabs.length) (fun i=>tabs.length-i) 0 (by simp) (by simp only[hrl];(conv=>whnf);rfl) ?_
 intro i hi
 by_cases hlt:i<tabs.length
 ·have hxe:tabs[i]?=some tabs[i]:=List.getElem?_eq_getElem hlt
  have hsn:(tabs.take (i+1)).map aT=(tabs.take i).map aT++[aT tabs[i]]:=by rw[List.take_succ_eq_append_getElem hlt,List.map_append];rfl
  obtain⟨t1,t2⟩:=ht _ (List.getElem_mem hlt)
  have hxv:((List.range tabs.length).map some)[i]?=some (some i):=by rw[List.getElem?_map,List.getElem?_range hlt];rfl
  have hg1:fI (aF ps).length ((tabs.take (i+1)).map aT)=fI (aF ps).length ((tabs.take i).map aT)++[gV (aF ps++aW ((tabs.take i).map aT)).length (aT tabs[i])]:=by rw[hsn,nJ,List.length_append]
  have hg2:aF ps++aW ((tabs.take (i+1)).map aT)=(aF ps++aW ((tabs.take i).map aT))++(aT tabs[i]).map (·.parents):=by rw[hsn,pF,List.append_assoc]
  have hgl:(fI (aF ps).length ((tabs.take i).map aT)).length=i:=by rw[wo,List.length_map,List.length_take];omega
  have hV:=B7 tabs i _ (aF ps++aW ((tabs.take i).map aT)) hxe t1 t2
  have hF:=j5 3 (aF ps++aW ((tabs.take i).map aT)) ((aT tabs[i]).map (·.parents))
  cases i with
  |zero=>
   have hst:rA s c l b tabs xss ms ps (0+1)=⟨[(2,.ptr 7 0),(3,.ptr 8 0),(30,.ref 5),(31,.int .i64 tabs.length),(32,.int .i64 ((0+1:Nat):Int))],xX s c l b tabs xss ms ([]++[gV (aF ps).length (aT tabs[0])]) (aF ps++(aT tabs[0]).map (·.parents))++F1 c l b ps [some 0],13⟩:=by
    rw[rA,hg1,hg2]
    simp[aW,fI]
   have hs0:rA s c l b tabs xss ms ps 0=⟨[(2,.ptr 7 0),(3,.ptr 8 0),(30,.ref 5),(31,.int .i64 tabs.length),(32,.int .i64 0)],xX s c l b tabs xss ms [] (aF ps)++GM c l b ps,12⟩:=rfl
   have hx0:((List.range tabs.length).map some)[(0:Int).toNat]?=some (some 0):=hxv
   have e0:aF ps++aW ((tabs.take 0).map aT)=aF ps:=by simp[aW]
   rw[e0] at hV hF
   rw[hs0]
   (repeat' first|refine x7 ?_|refine sa fun xe hxe=>?_|refine sb (fun hq=>?_) fun hq=>?_|((with_reducible refine ij [0,3] ?_);(conv=>whnf);(with_reducible refine aB (hV) ?_);conv=>whnf)|exact True.intro)
   refine⟨0+1,by omega,by omega,?_⟩
   rw[hst]
   rfl
  |succ i=>
   have hrg:(List.range (i+1+1)).map some=(List.range (i+1)).map some++[some (i+1)]:=by rw[List.range_succ,List.map_append];rfl
   have hst:rA s c l b tabs xss ms ps (i+1+1)=⟨[(2,.ptr 7 0),(3,.ptr 8 0),(30,.ref 5),(31,.int .i64 tabs.length),(32,.int .i64 ((i+1+1:Nat):Int))],xX s c l b tabs xss ms (fI (aF ps).length ((tabs.take (i+1)).map aT)++[gV (aF ps++aW ((tabs.take (i+1)).map aT)).length (aT tabs[i+1])]) ((aF ps++aW ((tabs.take (i+1)).map aT))++(aT tabs[i+1]).map (·.parents))++F1 c l b ps ((List.range (i+1)).map some++[some (fI (aF ps).length ((tabs.take (i+1)).map aT)).length]),13⟩:=by
    rw[rA,hg1,hg2,hrg,hgl]
   have hs0:rA s c l b tabs xss ms ps (i+1)=⟨[(2,.ptr 7 0),(3,.ptr 8 0),(30,.ref 5),(31,.int .i64 tabs.length),(32,.int .i64 ((i+1:Nat):Int))],xX s c l b tabs xss ms (fI (aF ps).length ((tabs.take (i+1)).map aT)) (aF ps++aW ((tabs.take (i+1)).map aT))++F1 c l b ps ((List.range (i+1)).map some),13⟩:=rfl
   have hrl2:((List.range (i+1)).map some).length=i+1:=by simp
   rw[hs0]
   clear hs0 hg1 hg2
   generalize tabs[i+1]=tab at *
   generalize hvss:fI (aF ps).length ((tabs.take (i+1)).map aT)=vss at *
   generalize aF ps++aW ((tabs.take (i+1)).map aT)=pss at *
   generalize (List.range (i+1)).map some=hs at *
   (repeat' first|refine x7 ?_|refine sa fun xe hxe=>?_|refine sb (fun hq=>?_) fun hq=>?_|((with_reducible refine ij [0,3] ?_);(conv=>whnf);(with_reducible refine aB (hV) ?_);conv=>whnf)|exact True.intro)
   refine⟨i+1+1,by omega,by omega,?_⟩
   rw[hst]
   rfl
 ·cases i with
  |zero=>omega
  |succ i=>
   obtain hn:i+1=tabs.length:=by omega
   have hs0:rA s c l b tabs xss ms ps (i+1)=⟨[(2,.ptr 7 0),(3,.ptr 8 0),(30,.ref 5),(31,.int .i64 tabs.length),(32,.int .i64 ((i+1:Nat):Int))],xX s c l b tabs xss ms (fI (aF ps).length (tabs.map aT)) (aF ps++aW (tabs.map aT))++F1 c l b ps ((List.range tabs.length).map some),13⟩:=by
    rw[rA,List.take_of_length_le (by omega),hn]
   rw[hs0]
   clear hs0
   generalize fI (aF ps).length (tabs.map aT)=vss at *
   generalize aF ps++aW (tabs.map aT)=pss at *
   (repeat' first|refine x7 ?_|refine sa fun xe hxe=>?_|refine sb (fun hq=>?_) fun hq=>?_|exact True.intro)
   exact⟨rfl,rfl⟩
theorem B8 (s:Int)(w:Wrl)(xss:List (Option (List Int)))(ms:List PplM)(h:eJ w=true)(hR:Rel w.props xss ms):ai Tryz.prog 41 [.ptr 4 0] (xX s w.com w.lead w.bad (w.views.map az) xss ms [] []) (.agg [.ref 7,.ref 8,.int .i64 w.bad,.ref 9,.ref 10])
  (xX s w.com w.lead w.bad (w.views.map az) xss ms (fI (aF w.props).length w.views) (aF w.props++aW w.views)++[(7,.row 3 (.int .i64) w.com),(8,.row 3 (.int .i64) w.lead),(9,.row 102 (.hr 2) ((List.range w.views.length).map some)),(10,.row 104 (.pplo 3 3) (fJ 0 w.props))]):=by
 obtain⟨h1,h2,h3,h4,h5,h6⟩:=jM h
 have h7:=(aw.1 h1).2
 have hll:=(fX.1 h2).2
 have hps:=mS h
 have hpl:=i4 h4
 have hne:w.com≠[]:=fun h=>by rw[h] at h7;simp at h7
 have hc:=Cc s w.com w.lead w.bad (w.views.map az) xss ms w.props hR hne (by omega) (by omega) (fun t ht=>by
  obtain⟨g,hg,rfl⟩:=List.mem_map.1 ht
  refine⟨ch g,fun v hv=>?_⟩
  have:=(kw h g hg v (tL hv)).2
  omega) (by rw[List.length_map];omega) (by rw[List.length_map];omega) (fun p hp=>by have:=(hps p hp).2.2.2;omega) (by omega)
 rw[pP h,List.length_map] at hc
 exact hc
abbrev ED (w:Wrl):VH:=[(2,.frow 43 (.vtxo 3) (fI (aF w.props).length w.views)),(3,.frow 3 (.int .i64) (aF w.props++aW w.views)),(4,.row 3 (.int .i64) w.com),(5,.row 3 (.int .i64) w.lead),(6,.row 102 (.hr 2) ((List.range w.views.length).map some)),(7,.row 104 (.pplo 3 3) (fJ 0 w.props))]
set_option maxHeartbeats 1000000 in
theorem BS (c l:List Int)(b:Int)(tabs:List (List (Option Vtx)))(xss xss':List (Option (List Int)))(ms ms':List PplM)(e:Evt)(hx:xss.length≤xss'.length)(hk:e.kind=1∨e.kind=4)
  (h1:e.kind=1→ai Tryz.prog 85 [.ptr 4 0,.int .i64 e.a,.int .i64 e.b] (rX 1 c l b tabs xss ms) (.bool true) (FU 1 c l b tabs xss' ms'))
  (h4:e.kind=4→ai Tryz.prog 88 [.ptr 4 0,bu e.v] (rX 1 c l b tabs xss ms) (.bool true) (FU 1 c l b tabs xss' ms')):ai Tryz.prog 40 [.ptr 4 0,nz e] (rX 0 c l b tabs xss ms) (.bool true) (FU 0 c l b tabs xss' ms'):=by
 refine vV Aj aX Tryz.func40 rfl rfl false 3 7 rfl rfl rfl rfl (by exact Live.of_look (am (i:=0) (x:=.var 83 [.int .i32 0,.int .u32 0,.lst (.int .i64) c,.lst (.int .i64) l,.int .i64 b,.ref 5,.ref 6]) rfl rfl)) fun K hK hK4 hb1 hb2=>?_;simp only[ae,enc,Nat.reduceAdd]
 clear hb1 hb2
 have hL:=wx c l b tabs xss ms
 have hF1:ao (VB.frowx 3 (.int .i64) xss)≤ao (VB.frowx 3 (.int .i64) xss'):=hx
 refine mw ?_
 (repeat' first|refine bf ?_|refine sa fun xe hxe=>?_|refine sb (fun hq=>?_) fun hq=>?_|exact True.intro)
 refine⟨rfl,mw ?_⟩
 (repeat' first|refine bf ?_|refine sa fun xe hxe=>?_|refine sb (fun hq=>?_) fun hq=>?_|refine cr (hL) ?_|exact True.intro)
 refine⟨rfl,rL ?_⟩
 refine vS aX (l:=[_,_,_]) (od:=_) rfl ⟨rfl,rfl,rfl⟩ (by decide) ?_
 (conv=>whnf)
 (repeat' first|refine bf ?_|refine sa fun xe hxe=>?_|refine sb (fun hq=>?_) fun hq=>?_|exact True.intro)
 refine⟨rfl,hK4,rfl,?_⟩
 by_cases c1:e.kind=1
 ·have h:=h1 c1
  (repeat' first|refine bf ?_|refine sa fun xe hxe=>?_|refine sb (fun hq=>?_) fun hq=>?_|refine cr (h) ?_|exact True.intro)
  exact⟨rfl,rfl⟩
 ·have c4:e.kind=4:=hk.resolve_left c1
  have h:=h4 c4
  (repeat' first|refine bf ?_|refine sa fun xe hxe=>?_|refine sb (fun hq=>?_) fun hq=>?_|refine cr (h) ?_|exact True.intro)
  exact⟨rfl,rfl⟩
theorem wu (w:Wrl)(xss:List (Option (List Int)))(ms:List PplM)(hw:WOK w)(hR:Rel w.props xss ms)(e:Evt)(h:t7 w e=true):∃x:List (Option (List Int))×List PplM,(Rel (js w e).props x.1 x.2∧xss.length≤x.1.length)∧ai Tryz.prog 40 [.ptr 4 0,nz e] (rW 0 w xss ms) (.bool true) (Gz 0 (js w e) x.1 x.2):=by
 have key:∃v,js w e=oL w v∧(e.kind=1→fh w e.a e.b=true∧v=eo w e.a e.b)∧(e.kind=4→fg w e.v=true∧v=e.v)∧(e.kind=1∨e.kind=4):=by
  unfold t7 at h
  by_cases c1:e.kind=1
  ·have hp:fh w e.a e.b=true:=by simpa[c1] using h
   exact⟨eo w e.a e.b,by unfold js kD;rw[if_pos c1,if_pos hp],fun _=>⟨hp,rfl⟩,fun c=>by omega,.inl c1⟩
  ·have hp:e.kind=4∧fg w e.v=true:=by simpa[c1] using h
   exact⟨e.v,by unfold js ml;rw[if_neg c1,if_neg (by omega),if_neg (by omega),if_pos hp.1,if_pos hp.2],fun c=>absurd c c1,fun _=>⟨hp.2,rfl⟩,.inr hp.1⟩
 obtain⟨v,k1,k2,k3,k4⟩:=key
 rw[k1]
 refine⟨(xss++[some []],ms++[(⟨v,some xss.length⟩:PplM)]),⟨hR.add v,by simp⟩,?_⟩
 refine BS w.com w.lead w.bad (w.views.map az) xss _ ms _ e (by simp) k4 (fun c=>?_) fun c=>?_
 ·obtain⟨a1,rfl⟩:=k2 c
  have hC:=zZ 1 w xss ms hw hR e.a e.b
  rw[a1] at hC
  exact hC
 ·obtain⟨a1,rfl⟩:=k3 c
  have hC:=zS 1 w xss ms hw hR e.v
  rw[a1] at hC
  exact hC
theorem yk {w:Wrl}(hw:WOK w){m:Int}(hm:0≤m∧m<w.com.length){v:Vtx}(hv:fp v)(hn:cq (view w m) v.round v.author=false):(w.views.set m.toNat (eV (view w m) v)).map az=vC w m v:=by
 have hG:=(gk hw hm).2
 rw[List.map_set,A5 (fun u hu=>cK hw.com (hG.vtx u hu)) hv hn]
theorem wv (w:Wrl)(xss:List (Option (List Int)))(ms:List PplM)(hw:WOK w)(hR:Rel w.props xss ms)(e:Evt)(h:t7 w e=false):∃x:List (Option (List Int))×List PplM,(Rel (js w e).props x.1 x.2∧xss.length≤x.1.length)∧ai Tryz.prog 40 [.ptr 4 0,nz e] (rW 0 w xss ms) (.bool (xv w e)) (rW 0 (js w e) x.1 x.2):=by
 have no:∀{k:Int},e.kind=k→∀{j:Int},k≠j→¬e.kind=j:=fun h1 _ h2 h3=>h2 (h1.symm.trans h3)
 by_cases c1:e.kind=1
 ·have hp:fh w e.a e.b=false:=by simpa[t7,c1] using h
  have hd:js w e=w:=by unfold js kD;rw[if_pos c1,hp];rfl
  have hg:xv w e=false:=by unfold xv;rw[if_neg (by omega),if_neg (by omega),if_neg (by omega)]
  have hC:=zZ 1 w xss ms hw hR e.a e.b
  rw[hp] at hC
  rw[hd,hg]
  exact⟨(xss,ms),⟨hR,Nat.le_refl _⟩,cY w.com w.lead w.bad _ _ xss xss ms ms e false (Nat.le_refl _) (Nat.le_refl _) (fun _=>hC) (fun c=>by omega) (fun c=>by omega) (fun c=>by omega) (fun c=>by omega) (fun c=>by omega)⟩
 by_cases c2:e.kind=2
 ·have hd:js w e=iF w e.a e.b:=by unfold js;rw[if_neg c1,if_pos c2]
  have hg:xv w e=(fj w e.a e.b && !(prop w e.b).members.contains e.a):=by unfold xv;rw[if_pos c2]
  rw[hd,hg]
  cases hi:mH w e.b
  ·have hv:fj w e.a e.b=false:=by unfold fj;rw[hi];simp
   have hs:iF w e.a e.b=w:=by unfold iF;rw[hv];rfl
   rw[hs,hv]
   exact⟨(xss,ms),⟨hR,Nat.le_refl _⟩,cY w.com w.lead w.bad _ _ xss xss ms ms e false (Nat.le_refl _) (Nat.le_refl _) (fun c=>absurd c c1) (fun _=>B6 1 w xss ms hw hR e.a e.b hi) (fun c=>by omega) (fun c=>by omega) (fun c=>by omega) (fun c=>by omega)⟩
  ·obtain⟨n,hn,hn1,hn2⟩:=lv hi
   obtain⟨j,hj1,hj2⟩:=hR.get n _ hn2
   have hC:=Eh 1 w xss ms hw hR e.a n j (by rw[←hn];exact hi) (by rw[←hn];exact hj1) (by rw[←hn];exact hj2)
   rw[←hn] at hC
   have ha:=e9 (ly hw (List.mem_of_getElem? hn2)).2
   cases hf:(fj w e.a e.b && !(prop w e.b).members.contains e.a)
   ·have hs:iF w e.a e.b=w:=by
     unfold iF
     split
     ·rename_i hv
      rw[hv,Bool.true_and] at hf
      exact rU hi ha (by simpa using hf)
     ·rfl
    rw[hf] at hC
    rw[hs]
    exact⟨(xss,ms),⟨hR,Nat.le_refl _⟩,cY w.com w.lead w.bad _ _ xss xss ms ms e false (Nat.le_refl _) (Nat.le_refl _) (fun c=>absurd c c1) (fun _=>hC) (fun c=>by omega) (fun c=>by omega) (fun c=>by omega) (fun c=>by omega)⟩
   ·have hv:fj w e.a e.b=true:=(Bool.and_eq_true .. ▸hf:_∧_).1
    have hs:iF w e.a e.b=jl w e.b e.a:=by unfold iF;rw[hv];rfl
    rw[hf] at hC
    rw[hs]
    have hR2:=hR.cast hj1 (dz (prop w e.b).members e.a)
    refine⟨(_,_),?_,cY w.com w.lead w.bad _ _ xss _ ms _ e true (Nat.le_refl _) (by simp) (fun c=>absurd c c1) (fun _=>hC) (fun c=>by omega) (fun c=>by omega) (fun c=>by omega) (fun c=>by omega)⟩
    refine⟨?_,by simp⟩
    have:e.b.toNat=n:=by omega
    show Rel (w.props.set e.b.toNat _) _ _
    rw[this]
    exact hR2
 by_cases c3:e.kind=3
 ·have hd:js w e=hJ w e.a e.b:=by unfold js;rw[if_neg c1,if_neg c2,if_pos c3]
  have hg:xv w e=eI w e.a e.b:=by unfold xv;rw[if_neg c2,if_pos c3]
  rw[hd,hg]
  cases hi:mH w e.b
  ·have hv:eI w e.a e.b=false:=by unfold eI;rw[hi];simp
   have hs:hJ w e.a e.b=w:=by unfold hJ;rw[hv];rfl
   rw[hs,hv]
   exact⟨(xss,ms),⟨hR,Nat.le_refl _⟩,cY w.com w.lead w.bad _ _ xss xss ms ms e false (Nat.le_refl _) (Nat.le_refl _) (fun c=>absurd c c1) (fun c=>absurd c c2) (fun _=>BW 1 w xss ms hw hR e.a e.b hi) (fun c=>by omega) (fun c=>by omega) (fun c=>by omega)⟩
  ·obtain⟨n,hn,hn1,hn2⟩:=lv hi
   obtain⟨j,hj1,hj2⟩:=hR.get n _ hn2
   have hC:=Ea 1 w xss ms hw hR e.a n j (by rw[←hn];exact hi) (by rw[←hn];exact hj1) (by rw[←hn];exact hj2)
   rw[←hn] at hC
   cases hf:eI w e.a e.b
   ·have hs:hJ w e.a e.b=w:=by unfold hJ;rw[hf];rfl
    rw[hf] at hC
    rw[hs]
    exact⟨(xss,ms),⟨hR,Nat.le_refl _⟩,cY w.com w.lead w.bad _ _ xss xss ms ms e false (Nat.le_refl _) (Nat.le_refl _) (fun c=>absurd c c1) (fun c=>absurd c c2) (fun _=>hC) (fun c=>by omega) (fun c=>by omega) (fun c=>by omega)⟩
   ·have hs:hJ w e.a e.b={w with views:=w.views.set e.a.toNat (eV (view w e.a) (prop w e.b).v)}:=by unfold hJ;rw[hf];rfl
    rw[hf] at hC
    rw[hs]
    unfold eI at hf
    simp only[Bool.and_eq_true,Bool.not_eq_true'] at hf
    have hvw:=yk hw (cS.1 hf.1).1 (cK hw.com (ly hw (List.mem_of_getElem? hn2)).1) hf.2.2.2.1
    refine⟨(xss,ms),⟨hR,Nat.le_refl _⟩,?_⟩
    show ai _ _ _ _ _ (rX 0 w.com w.lead w.bad ((w.views.set e.a.toNat (eV (view w e.a) (prop w e.b).v)).map az) xss ms)
    rw[hvw]
    exact cY w.com w.lead w.bad _ (vC w e.a (prop w e.b).v) xss xss ms ms e true (by simp[vC]) (Nat.le_refl _) (fun c=>absurd c c1) (fun c=>absurd c c2) (fun _=>hC) (fun c=>by omega) (fun c=>by omega) (fun c=>by omega)
 by_cases c4:e.kind=4
 ·have hp:fg w e.v=false:=by simpa[t7,c4] using h
  have hd:js w e=w:=by unfold js ml;rw[if_neg c1,if_neg c2,if_neg c3,if_pos c4,hp];rfl
  have hg:xv w e=false:=by unfold xv;rw[if_neg (by omega),if_neg (by omega),if_neg (by omega)]
  have hC:=zS 1 w xss ms hw hR e.v
  rw[hp] at hC
  rw[hd,hg]
  exact⟨(xss,ms),⟨hR,Nat.le_refl _⟩,cY w.com w.lead w.bad _ _ xss xss ms ms e false (Nat.le_refl _) (Nat.le_refl _) (fun c=>absurd c c1) (fun c=>absurd c c2) (fun c=>absurd c c3) (fun _=>hC) (fun c=>by omega) (fun c=>by omega)⟩
 by_cases c5:e.kind=5
 ·have hd:js w e=iE w e.b:=by unfold js;rw[if_neg c1,if_neg c2,if_neg c3,if_neg c4,if_pos c5]
  have hg:xv w e=(ig w e.b && !(prop w e.b).members.contains w.bad):=by unfold xv;rw[if_neg c2,if_neg c3,if_pos c5]
  rw[hd,hg]
  cases hi:mH w e.b
  ·have hv:ig w e.b=false:=by unfold ig;rw[hi];simp
   have hs:iE w e.b=w:=by unfold iE;rw[hv];rfl
   rw[hs,hv]
   exact⟨(xss,ms),⟨hR,Nat.le_refl _⟩,cY w.com w.lead w.bad _ _ xss xss ms ms e false (Nat.le_refl _) (Nat.le_refl _) (fun c=>absurd c c1) (fun c=>absurd c c2) (fun c=>absurd c c3) (fun c=>absurd c c4) (fun _=>BT 1 w xss ms hw hR e.b hi) (fun c=>by omega)⟩
  ·obtain⟨n,hn,hn1,hn2⟩:=lv hi
   obtain⟨j,hj1,hj2⟩:=hR.get n _ hn2
   have hC:=D4 1 w xss ms hw hR n j (by rw[←hn];exact hi) (by rw[←hn];exact hj1) (by rw[←hn];exact hj2)
   rw[←hn] at hC
   have ha:=e9 (ly hw (List.mem_of_getElem? hn2)).2
   cases hf:(ig w e.b && !(prop w e.b).members.contains w.bad)
   ·have hs:iE w e.b=w:=by
     unfold iE
     split
     ·rename_i hv
      rw[hv,Bool.true_and] at hf
      exact rU hi ha (by simpa using hf)
     ·rfl
    rw[hf] at hC
    rw[hs]
    exact⟨(xss,ms),⟨hR,Nat.le_refl _⟩,cY w.com w.lead w.bad _ _ xss xss ms ms e false (Nat.le_refl _) (Nat.le_refl _) (fun c=>absurd c c1) (fun c=>absurd c c2) (fun c=>absurd c c3) (fun c=>absurd c c4) (fun _=>hC) (fun c=>by omega)⟩
   ·have hv:ig w e.b=true:=(Bool.and_eq_true .. ▸hf:_∧_).1
    have hs:iE w e.b=jl w e.b w.bad:=by unfold iE;rw[hv];rfl
    rw[hf] at hC
    rw[hs]
    have hR2:=hR.cast hj1 (dz (prop w e.b).members w.bad)
    refine⟨(_,_),?_,cY w.com w.lead w.bad _ _ xss _ ms _ e true (Nat.le_refl _) (by simp) (fun c=>absurd c c1) (fun c=>absurd c c2) (fun c=>absurd c c3) (fun c=>absurd c c4) (fun _=>hC) (fun c=>by omega)⟩
    refine⟨?_,by simp⟩
    have:e.b.toNat=n:=by omega
    show Rel (w.props.set e.b.toNat _) _ _
    rw[this]
    exact hR2
 have hd:js w e=w:=by unfold js;rw[if_neg c1,if_neg c2,if_neg c3,if_neg c4,if_neg c5]
 have hg:xv w e=false:=by unfold xv;rw[if_neg c2,if_neg c3,if_neg c5]
 rw[hd,hg]
 exact⟨(xss,ms),⟨hR,Nat.le_refl _⟩,cY w.com w.lead w.bad _ _ xss xss ms ms e false (Nat.le_refl _) (Nat.le_refl _) (fun c=>absurd c c1) (fun c=>absurd c c2) (fun c=>absurd c c3) (fun c=>absurd c c4) (fun c=>absurd c c5) (fun _=>⟨rfl,rfl,rfl,rfl⟩)⟩
theorem AS (w:Wrl)(e:Evt):(js w e).com=w.com∧(js w e).lead=w.lead∧(js w e).bad=w.bad∧(js w e).views.length=w.views.length:=by
 simp only[js,kD,iF,hJ,ml,iE,jl,oL]
 (repeat' split)<;>simp
theorem FD {w:Wrl}{e:Evt}:ao (VB.fvari 142 217 (.ob .vtx) (w.views.map az))≤ao (VB.fvari 142 217 (.ob .vtx) ((js w e).views.map az)):=by
 show (w.views.map az).length≤((js w e).views.map az).length
 rw[List.length_map,List.length_map,(AS w e).2.2.2]
 exact Nat.le_refl _
theorem Ef (w:Wrl)(hl:∀g∈w.views,g.length≤2000000)(hp:eJ w=false):ai Tryz.prog 37 [aP w] [] (.tup [.nilp,.bool false]) []:=by
 have h:=Dd w hl
 simp only[EA,Ez,hp,Bool.false_eq_true,if_false] at h
 exact h
abbrev rP (c l:List Int)(b:Int)(tabs:List (List (Option Vtx)))(xss:List (Option (List Int)))(ms:List PplM):VH:=[(0,.fvari 142 217 (.ob .vtx) tabs),(1,.frowx 3 (.int .i64) xss),(4,.var 31 [.nils,.nils,.int .i64 0,.nils,.nils]),(5,.var 83 [.int .i32 0,.int .u32 0,.lst (.int .i64) c,.lst (.int .i64) l,.int .i64 b,.ref 6,.ref 7]),(6,.row 115 (.hp 0) ((List.range tabs.length).map some)),(7,.row 104 (.pplm 1) ms)]
theorem zY (w:Wrl)(es:List Evt)(hl:∀g∈w.views,g.length≤2000000)(hel:es.length≤1000000):ai Tryz.prog 22 [aP w,.lst .evt es] [] (if decide (es.length≤80) && fH w then .tup [aP (be w es),.bool true] else .tup [vJ,.bool false]) []:=by
 have he:=kP w
 refine aa aX Tryz.func22 rfl rfl true 0 4 rfl rfl rfl rfl fun K hK hb1 hb2=>?_;simp only[ae,enc,Nat.reduceAdd]
 clear hb1 hb2
 by_cases h80:80<(es.length:Int)
 ·(repeat' first|refine bf ?_|refine sa fun xe hxe=>?_|refine sb (fun hq=>?_) fun hq=>?_|exact True.intro)
  rw[decide_eq_false (p:=es.length≤80) (by omega)]
  exact⟨rfl,rfl⟩
 ·rw[decide_eq_true (p:=es.length≤80) (by omega),Bool.true_and]
  cases hp:eJ w
  ·have hO:=Ef w hl hp
   rw[hp,Bool.false_and] at he
   (repeat' first|refine bf ?_|refine sa fun xe hxe=>?_|refine sb (fun hq=>?_) fun hq=>?_|refine cr (hO) ?_|exact True.intro)
   rw[he]
   exact⟨rfl,rfl⟩
  ·have hO:=zX w hl hp
   cases hs:fH w
   ·rw[hs] at hO
    (repeat' first|refine bf ?_|refine sa fun xe hxe=>?_|refine sb (fun hq=>?_) fun hq=>?_|refine cr (hO) ?_|exact True.intro)
    exact⟨rfl,rfl⟩
   ·rw[hs] at hO
    have hw:=je.1 hs
    (repeat' first|refine bf ?_|refine sa fun xe hxe=>?_|refine sb (fun hq=>?_) fun hq=>?_|refine cr (hO) ?_|exact True.intro)
    refine ag hK [] [4,6,22,23,24] (fun x:Nat×List (Option (List Int))×List PplM=>⟨[(4,.ptr 4 0),(6,.ptr 5 0),(22,.lst .evt es),(23,.int .i64 es.length),(24,.int .i64 (x.1:Int))],rP (be w (es.take x.1)).com (be w (es.take x.1)).lead (be w (es.take x.1)).bad ((be w (es.take x.1)).views.map az) x.2.1 x.2.2,8⟩) (fun x=>x.1≤es.length∧Rel (be w (es.take x.1)).props x.2.1 x.2.2) (fun x=>es.length-x.1) (0,w.props.map fun p=>some p.members,qW w.props) ⟨by simp,FW _⟩ (by(conv=>whnf);rfl) ?_
    rintro⟨i,xs,ms⟩ ⟨hi,hR⟩
    dsimp only at hi hR⊢
    have hwi:=kC hw (es.take i)
    by_cases hlt:i<es.length
    ·have hxe:es[i]?=some es[i]:=List.getElem?_eq_getElem hlt
     have hsn:=gM w (es.take i) es[i]
     rw[←List.take_succ_eq_append_getElem hlt] at hsn
     have hF0:=FD (w:=be w (es.take i)) (e:=es[i])
     generalize es[i]=e at *
     generalize be w (es.take i)=u at *
     cases ha:t7 u e
     ·obtain⟨⟨xs',ms'⟩,⟨hR',hx⟩,hC⟩:=wv u _ _ hwi hR e ha
      have hF1:ao (VB.frowx 3 (.int .i64) xs)≤ao (VB.frowx 3 (.int .i64) xs'):=hx
      (repeat' first|refine bf ?_|refine sa fun xe hxe=>?_|refine sb (fun hq=>?_) fun hq=>?_|refine cr (hC) ?_|exact True.intro)
      refine⟨(i+1,xs',ms'),⟨by dsimp only;omega,by dsimp only;rw[hsn];exact hR'⟩,by dsimp only;omega,?_⟩
      dsimp only
      rw[hsn]
      rfl
     ·obtain⟨⟨xs',ms'⟩,⟨hR',hx⟩,hC⟩:=wu u _ _ hwi hR e ha
      have hF1:ao (VB.frowx 3 (.int .i64) xs)≤ao (VB.frowx 3 (.int .i64) xs'):=hx
      (repeat' first|refine bf ?_|refine sa fun xe hxe=>?_|refine sb (fun hq=>?_) fun hq=>?_|refine cr (hC) ?_|exact True.intro)
      refine⟨(i+1,xs',ms'),⟨by dsimp only;omega,by dsimp only;rw[hsn];exact hR'⟩,by dsimp only;omega,?_⟩
      dsimp only
      rw[hsn]
      rfl
    ·rw[List.take_of_length_le (by omega)] at hR hwi⊢
     have hW:=B9 0 (be w es) xs ms hwi hR
     (repeat' first|refine bf ?_|refine sa fun xe hxe=>?_|refine sb (fun hq=>?_) fun hq=>?_|refine cr (hW) ?_|exact True.intro)
     exact⟨rfl,rfl⟩
theorem AF {w:Wrl}(h:fH w=true):eJ w=true:=by
 rw[kP,Bool.and_eq_true] at h
 exact h.1
theorem Ca (s:Int)(w:Wrl)(xss:List (Option (List Int)))(ms:List PplM)(hw:WOK w)(hR:Rel w.props xss ms):ai Tryz.prog 41 [.ptr 4 0] (xX s w.com w.lead w.bad (w.views.map az) xss ms [] []) (.agg [.ref 7,.ref 8,.int .i64 w.bad,.ref 9,.ref 10])
  (xX s w.com w.lead w.bad (w.views.map az) xss ms (fI (aF w.props).length w.views) (aF w.props++aW w.views)++[(7,.row 3 (.int .i64) w.com),(8,.row 3 (.int .i64) w.lead),(9,.row 102 (.hr 2) ((List.range w.views.length).map some)),(10,.row 104 (.pplo 3 3) (fJ 0 w.props))]):=
 B8 s w xss ms (AF (je.2 hw)) hR
theorem y9 (E:TypeId)(b:List (List VtxO)):ao (VB.frow E (.vtxo 3) [])≤ao (VB.frow E (.vtxo 3) b):=by simp[ao]
theorem Eg (w:Wrl)(es:List Evt)(hl:∀g∈w.views,g.length≤2000000)(hel:es.length≤80)(hs:fH w=true):ai Tryz.prog 22 [aP w,.lst .evt es] [] (.tup [yn (be w es).bad,.bool true]) (ED (be w es)):=by
 have hO:=zX w hl (AF hs)
 rw[hs] at hO
 refine aa aX Tryz.func22 rfl rfl false 0 4 rfl rfl rfl rfl fun K hK hb1 hb2=>?_;simp only[ae,enc,Nat.reduceAdd]
 clear hb1 hb2
 have hw:=je.1 hs
 (repeat' first|refine bf ?_|refine sa fun xe hxe=>?_|refine sb (fun hq=>?_) fun hq=>?_|refine cr (hO) ?_|exact True.intro)
 refine ag hK [] [4,6,22,23,24] (fun x:Nat×List (Option (List Int))×List PplM=>⟨[(4,.ptr 4 0),(6,.ptr 5 0),(22,.lst .evt es),(23,.int .i64 es.length),(24,.int .i64 (x.1:Int))],rP (be w (es.take x.1)).com (be w (es.take x.1)).lead (be w (es.take x.1)).bad ((be w (es.take x.1)).views.map az) x.2.1 x.2.2,8⟩) (fun x=>x.1≤es.length∧Rel (be w (es.take x.1)).props x.2.1 x.2.2) (fun x=>es.length-x.1) (0,w.props.map fun p=>some p.members,qW w.props) ⟨by simp,FW _⟩ (by(conv=>whnf);rfl) ?_
 rintro⟨i,xs,ms⟩ ⟨hi,hR⟩
 dsimp only at hi hR⊢
 have hwi:=kC hw (es.take i)
 by_cases hlt:i<es.length
 ·have hxe:es[i]?=some es[i]:=List.getElem?_eq_getElem hlt
  have hsn:=gM w (es.take i) es[i]
  rw[←List.take_succ_eq_append_getElem hlt] at hsn
  have hF0:=FD (w:=be w (es.take i)) (e:=es[i])
  generalize es[i]=e at *
  generalize be w (es.take i)=u at *
  cases ha:t7 u e
  ·obtain⟨⟨xs',ms'⟩,⟨hR',hx⟩,hC⟩:=wv u _ _ hwi hR e ha
   have hF1:ao (VB.frowx 3 (.int .i64) xs)≤ao (VB.frowx 3 (.int .i64) xs'):=hx
   (repeat' first|refine bf ?_|refine sa fun xe hxe=>?_|refine sb (fun hq=>?_) fun hq=>?_|refine cr (hC) ?_|exact True.intro)
   refine⟨(i+1,xs',ms'),⟨by dsimp only;omega,by dsimp only;rw[hsn];exact hR'⟩,by dsimp only;omega,?_⟩
   dsimp only
   rw[hsn]
   rfl
  ·obtain⟨⟨xs',ms'⟩,⟨hR',hx⟩,hC⟩:=wu u _ _ hwi hR e ha
   have hF1:ao (VB.frowx 3 (.int .i64) xs)≤ao (VB.frowx 3 (.int .i64) xs'):=hx
   (repeat' first|refine bf ?_|refine sa fun xe hxe=>?_|refine sb (fun hq=>?_) fun hq=>?_|refine cr (hC) ?_|exact True.intro)
   refine⟨(i+1,xs',ms'),⟨by dsimp only;omega,by dsimp only;rw[hsn];exact hR'⟩,by dsimp only;omega,?_⟩
   dsimp only
   rw[hsn]
   rfl
 ·rw[List.take_of_length_le (by omega)] at hR hwi⊢
  have hW:=Ca 0 (be w es) xs ms hwi hR
  have hF2:=y9 43 (fI (aF (be w es).props).length (be w es).views)
  have hF3:=ph 3 (aF (be w es).props++aW (be w es).views)
  refine hX 2 (.frow 43 (.vtxo 3) []) rfl ?_
  refine hX 3 (.frow 3 (.int .i64) []) rfl ?_
  (repeat' first|refine bf ?_|refine sa fun xe hxe=>?_|refine sb (fun hq=>?_) fun hq=>?_|((with_reducible refine ij [0,1,2,3] ?_);(conv=>whnf);(with_reducible refine aB (hW) ?_);conv=>whnf)|exact True.intro)
  exact⟨rfl,rfl⟩
theorem jI (pss:List (List Int))(j:Nat)(a:List Int)(k:Int)(hj:pss[j]?=some a)(hk:0≤k∧k+a.length≤1000000000):ai Tryz.prog 45 [.hro 3 (some j),.int .i64 k] [(3,.frow 3 (.int .i64) pss)] (.int .i64 (k+a.length)) [(3,.frow 3 (.int .i64) (pss.set j (mk k a.length)))]:=by
 have hjl:j<pss.length:=(List.getElem?_eq_some_iff.1 hj).1
 refine aa ak Tryz.func45 rfl rfl false 0 4 rfl rfl rfl rfl fun K hK hb1 hb2=>?_;simp only[ae,enc,Nat.reduceAdd]
 clear hb1 hb2
 have h0:pss.set j (mk k 0++a.drop 0)=pss:=by
  apply List.ext_getElem?
  intro x
  rw[List.getElem?_set]
  split
  ·rename_i e
   subst e
   first|rw[if_pos hjl,hj]|rw[hj]
   simp[mk]
  ·rfl
 (repeat' first|refine st ?_|refine sa fun xe hxe=>?_|refine sb (fun hq=>?_) fun hq=>?_|exact True.intro)
 refine ag hK [] [0,1,4,5] (fun i:Nat=>⟨[(0,.hro 3 (some j)),(1,.int .i64 (k+i)),(4,.int .i64 0),(5,.int .i64 i)],[(3,.frow 3 (.int .i64) (pss.set j (mk k i++a.drop i)))],4⟩) (fun i=>i≤a.length) (fun i=>a.length-i) 0 (by simp) (by rw[h0];simp;rfl) ?_
 intro i hi
 have hlen:(mk k i++a.drop i).length=a.length:=by simp[dp];omega
 have hjr:(pss.set j (mk k i++a.drop i))[j]?=some (mk k i++a.drop i):=List.getElem?_set_self hjl
 by_cases hlt:i<a.length
 ·have hs:(pss.set j (mk k i++a.drop i)).set j ((mk k i++a.drop i).set i (k+i))=pss.set j (mk k (i+1)++a.drop (i+1)):=by
   rw[bE _ _ _ (dp k i) hlt,qR,List.set_set]
  generalize mk k i++a.drop i=row at *
  generalize pss.set j row=ps at *
  (repeat' first|refine st ?_|refine sa fun xe hxe=>?_|refine sb (fun hq=>?_) fun hq=>?_|exact True.intro)
  refine⟨i+1,by omega,by omega,?_⟩
  rw[←hs,show k+((i+1:Nat):Int)=k+i+1 by omega]
  rfl
 ·obtain rfl:i=a.length:=by omega
  rw[show mk k a.length++a.drop a.length=mk k a.length by simp] at *
  generalize pss.set j (mk k a.length)=ps at *
  (repeat' first|refine st ?_|refine sa fun xe hxe=>?_|refine sb (fun hq=>?_) fun hq=>?_|exact True.intro)
  exact⟨rfl,rfl⟩
theorem za (E:TypeId)(a:List (List VtxO))(j:Nat)(b:List VtxO):ao (VB.frow E (.vtxo 3) a)≤ao (VB.frow E (.vtxo 3) (a.set j b)):=by simp[ao]
theorem oU (vss:List (List VtxO))(w:Nat)(vs:List VtxO)(hw:vss[w]?=some vs)(pss:List (List Int))(g:List Vtx)(k:Int)(hr:VsR pss vs g)(hk:0≤k∧k+cV g≤1000000000):ai Tryz.prog 94 [.hro 2 (some w),.int .i64 k] [(2,.frow 43 (.vtxo 3) vss),(3,.frow 3 (.int .i64) pss)] (.int .i64 (cD vs k pss).1) [(2,.frow 43 (.vtxo 3) (vss.set w (cD vs k pss).2.2)),(3,.frow 3 (.int .i64) (cD vs k pss).2.1)]:=by
 have hwl:w<vss.length:=(List.getElem?_eq_some_iff.1 hw).1
 refine aa ak Tryz.func94 rfl rfl false 0 4 rfl rfl rfl rfl fun K hK hb1 hb2=>?_;simp only[ae,enc,Nat.reduceAdd]
 clear hb1 hb2
 have h0:vss.set w ((cD (vs.take 0) k pss).2.2++vs.drop 0)=vss:=by
  apply List.ext_getElem?
  intro x
  rw[List.getElem?_set]
  split
  ·rename_i e
   subst e
   first|rw[if_pos hwl,hw]|rw[hw]
   simp[cD]
  ·rfl
 (repeat' first|refine st ?_|refine sa fun xe hxe=>?_|refine sb (fun hq=>?_) fun hq=>?_|exact True.intro)
 refine ag hK [] [0,1,5] (fun i:Nat=>⟨[(0,.hro 2 (some w)),(1,.int .i64 (cD (vs.take i) k pss).1),(5,.int .i64 i)],[(2,.frow 43 (.vtxo 3) (vss.set w ((cD (vs.take i) k pss).2.2++vs.drop i))),(3,.frow 3 (.int .i64) (cD (vs.take i) k pss).2.1)],4⟩) (fun i=>i≤vs.length) (fun i=>vs.length-i) 0 (by simp) (by rw[h0];simp[cD];rfl) ?_
 intro i hi
 have hgl:=hr.len
 have hcl:=ui g
 by_cases hlt:i<vs.length
 ·have hv:g[i]?=some g[i]:=List.getElem?_eq_getElem (by omega)
  obtain⟨j,y,h1,h2,h3,h4,h5,h6,h7,h8⟩:=s9 (k:=k) hr hv rfl
  have hc:=qc hv
  have hc2:=yC g (i+1)
  have hll:((cD (vs.take i) k pss).2.2++vs.drop i).length=vs.length:=by simp[i0];omega
  have hgw:(vss.set w ((cD (vs.take i) k pss).2.2++vs.drop i))[w]?=some ((cD (vs.take i) k pss).2.2++vs.drop i):=List.getElem?_set_self hwl
  have hss:∀b,(vss.set w ((cD (vs.take i) k pss).2.2++vs.drop i)).set w b=vss.set w b:=fun b=>List.set_set ..
  have hpl:(vss.set w ((cD (vs.take i) k pss).2.2++vs.drop i)).length=vss.length:=List.length_set
  generalize hr':cD (vs.take (i+1)) k pss=r' at *
  generalize cD (vs.take i) k pss=r at *
  obtain⟨r1,r2,r3⟩:=r
  simp only at h1 h2 h4 h5 h6 h7 h8 hll hgw hss hpl⊢
  generalize r3++vs.drop i=row at *
  generalize g[i]=v at *
  generalize vss.set w row=ps at *
  have hti:(i:Int).toNat<row.length:=by simp;omega
  have hwp:w<ps.length:=by omega
  (repeat' first|refine st ?_|refine sa fun xe hxe=>?_|refine sb (fun hq=>?_) fun hq=>?_|exact True.intro)
  obtain rfl:=Option.some.inj ((List.getElem?_set_self hwp).symm.trans hxe)
  clear hxe
  dsimp only
  have hl1:(row.set (i:Int).toNat (⟨r1,v.author,some j,v.digest⟩:VtxO)).length=row.length:=List.length_set
  have hx1:(row.set (i:Int).toNat (⟨r1,v.author,some j,v.digest⟩:VtxO))[(i:Int).toNat]?=some ⟨r1,v.author,some j,v.digest⟩:=List.getElem?_set_self hti
  have hs1:∀x:VtxO,(row.set (i:Int).toNat (⟨r1,v.author,some j,v.digest⟩:VtxO)).set (i:Int).toNat x=row.set i x:=fun x=>by rw[List.set_set,Int.toNat_natCast]
  generalize row.set (i:Int).toNat (⟨r1,v.author,some j,v.digest⟩:VtxO)=row1 at *
  have hw1:(ps.set w row1)[w]?=some row1:=List.getElem?_set_self hwp
  have hp1:∀b,(ps.set w row1).set w b=vss.set w b:=fun b=>by rw[List.set_set,hss]
  have hwp1:w<(ps.set w row1).length:=by rw[List.length_set];exact hwp
  generalize ps.set w row1=ps1 at *
  (repeat' first|refine st ?_|refine sa fun xe hxe=>?_|refine sb (fun hq=>?_) fun hq=>?_|exact True.intro)
  obtain rfl:=Option.some.inj ((List.getElem?_set_self hwp1).symm.trans hxe)
  clear hxe
  dsimp only
  have hl2:(row1.set (i:Int).toNat (⟨r1,r1+1,some j,v.digest⟩:VtxO)).length=row.length:=by rw[List.length_set,hl1]
  have hx2:(row1.set (i:Int).toNat (⟨r1,r1+1,some j,v.digest⟩:VtxO))[(i:Int).toNat]?=some ⟨r1,r1+1,some j,v.digest⟩:=List.getElem?_set_self (by omega)
  have hs2:∀x:VtxO,(row1.set (i:Int).toNat (⟨r1,r1+1,some j,v.digest⟩:VtxO)).set (i:Int).toNat x=row.set i x:=fun x=>by rw[List.set_set,hs1]
  generalize row1.set (i:Int).toNat (⟨r1,r1+1,some j,v.digest⟩:VtxO)=row2 at *
  have hw2:(ps1.set w row2)[w]?=some row2:=List.getElem?_set_self hwp1
  have hp2:∀b,(ps1.set w row2).set w b=vss.set w b:=fun b=>by rw[List.set_set,hp1]
  generalize ps1.set w row2=ps2 at *
  have hM:=jI r2 j y (r1+1+1) h2 (by omega)
  rw[show r1+1+1=r1+2 by omega] at *
  have hF:=gy 3 r2 j (mk (r1+2) y.length)
  (repeat' first|refine st ?_|refine sa fun xe hxe=>?_|refine sb (fun hq=>?_) fun hq=>?_|refine co (hM) ?_|exact True.intro)
  refine⟨i+1,by omega,by omega,?_⟩
  rw[hr',h6,h7,h8,←hp2,show r1+3+(y.length:Int)=r1+2+y.length+1 by omega,←hs2]
  rfl
 ·obtain rfl:i=vs.length:=by omega
  rw[List.take_of_length_le (Nat.le_refl _),List.drop_eq_nil_of_le (Nat.le_refl _),List.append_nil] at *
  have hlm:=i0 vs k pss
  have hgw:(vss.set w (cD vs k pss).2.2)[w]?=some (cD vs k pss).2.2:=List.getElem?_set_self hwl
  generalize cD vs k pss=r at *
  (repeat' first|refine st ?_|refine sa fun xe hxe=>?_|refine sb (fun hq=>?_) fun hq=>?_|exact True.intro)
  exact⟨rfl,rfl⟩
theorem n5 (hs:List (Option Nat))(pss:List (List Int))(vss:List (List VtxO))(gs:List (List Vtx))(k:Int)(hr:GsR pss vss hs gs)(hn:(hs.map (·.getD 0)).Nodup)(hk:0≤k∧k+cG gs≤1000000000)(hl:hs.length≤1048576):ai Tryz.prog 46 [.ref 4,.int .i64 k] [(2,.frow 43 (.vtxo 3) vss),(3,.frow 3 (.int .i64) pss),(4,.row 102 (.hr 2) hs)] (.int .i64 (cg hs k pss vss).1) [(2,.frow 43 (.vtxo 3) (cg hs k pss vss).2.2),(3,.frow 3 (.int .i64) (cg hs k pss vss).2.1),(4,.row 102 (.hr 2) hs)]:=by
 refine aa ak Tryz.func46 rfl rfl false 1 5 rfl rfl rfl rfl fun K hK hb1 hb2=>?_;simp only[ae,enc,Nat.reduceAdd]
 clear hb1 hb2
 (repeat' first|refine st ?_|refine sa fun xe hxe=>?_|refine sb (fun hq=>?_) fun hq=>?_|exact True.intro)
 refine ag hK [] [0,1,5] (fun i:Nat=>⟨[(0,.ref 4),(1,.int .i64 (cg (hs.take i) k pss vss).1),(5,.int .i64 i)],[(2,.frow 43 (.vtxo 3) (cg (hs.take i) k pss vss).2.2),(3,.frow 3 (.int .i64) (cg (hs.take i) k pss vss).2.1),(4,.row 102 (.hr 2) hs)],5⟩) (fun i=>i≤hs.length) (fun i=>hs.length-i) 0 (by simp) rfl ?_
 intro i hi
 have hgl:=hr.len
 by_cases hlt:i<hs.length
 ·have hv:gs[i]?=some gs[i]:=List.getElem?_eq_getElem (by omega)
  obtain⟨j,vs,g',h1,h2,h3,h4,h5,h6,h7,h8⟩:=sU (k:=k) hr hn hv rfl
  have hc:=qa hv
  have hc2:=yA gs (i+1)
  generalize hr':cg (hs.take (i+1)) k pss vss=r' at *
  generalize cg (hs.take i) k pss vss=r at *
  obtain⟨r1,r2,r3⟩:=r
  simp only at h2 h3 h5 h6 h7 h8⊢
  have hM:=oU r3 j vs h2 r2 g' r1 h3 (by omega)
  have hF0:=za 43 r3 j (cD vs r1 r2).2.2
  have hF1:=dw 3 (ga vs r1 r2)
  generalize cD vs r1 r2=m at *
  (repeat' first|refine st ?_|refine sa fun xe hxe=>?_|refine sb (fun hq=>?_) fun hq=>?_|refine co (hM) ?_|exact True.intro)
  refine⟨i+1,by omega,by omega,?_⟩
  rw[hr',h6,h7,h8]
  rfl
 ·obtain rfl:i=hs.length:=by omega
  rw[List.take_of_length_le (Nat.le_refl _)] at *
  generalize cg hs k pss vss=r at *
  (repeat' first|refine st ?_|refine sa fun xe hxe=>?_|refine sb (fun hq=>?_) fun hq=>?_|exact True.intro)
  exact⟨rfl,rfl⟩
theorem mh (vs:List PplO)(pss:List (List Int))(g:List Ppl)(k:Int)(hr:PsR pss vs g)(hk:0≤k∧k+cP g≤1000000000):ai Tryz.prog 47 [.ref 4,.int .i64 k] [(3,.frow 3 (.int .i64) pss),(4,.row 104 (.pplo 3 3) vs)] (.int .i64 (eH vs k pss).1) [(3,.frow 3 (.int .i64) (eH vs k pss).2.1),(4,.row 104 (.pplo 3 3) (eH vs k pss).2.2)]:=by
 refine aa ak Tryz.func47 rfl rfl false 1 5 rfl rfl rfl rfl fun K hK hb1 hb2=>?_;simp only[ae,enc,Nat.reduceAdd]
 clear hb1 hb2
 (repeat' first|refine st ?_|refine sa fun xe hxe=>?_|refine sb (fun hq=>?_) fun hq=>?_|exact True.intro)
 refine ag hK [] [0,1,5] (fun i:Nat=>⟨[(0,.ref 4),(1,.int .i64 (eH (vs.take i) k pss).1),(5,.int .i64 i)],[(3,.frow 3 (.int .i64) (eH (vs.take i) k pss).2.1),(4,.row 104 (.pplo 3 3) ((eH (vs.take i) k pss).2.2++vs.drop i))],5⟩) (fun i=>i≤vs.length) (fun i=>vs.length-i) 0 (by simp) (by simp[eH];rfl) ?_
 intro i hi
 have hgl:=hr.len
 have hcl:=uh g
 by_cases hlt:i<vs.length
 ·have hv:g[i]?=some g[i]:=List.getElem?_eq_getElem (by omega)
  obtain⟨j,y,j2,y2,h1,h2,h2',h3,h3',h4,h5,h6,h7,h8⟩:=s6 (k:=k) hr hv rfl
  have hc:=qb hv
  have hc2:=yB g (i+1)
  have hll:((eH (vs.take i) k pss).2.2++vs.drop i).length=vs.length:=by simp[iZ];omega
  generalize hr':eH (vs.take (i+1)) k pss=r' at *
  generalize eH (vs.take i) k pss=r at *
  obtain⟨r1,r2,r3⟩:=r
  simp only at h1 h2 h2' h4 h5 h6 h7 h8 hll⊢
  generalize r3++vs.drop i=row at *
  generalize g[i]=v at *
  have hti:(i:Int).toNat<row.length:=by simp;omega
  (repeat' first|refine st ?_|refine sa fun xe hxe=>?_|refine sb (fun hq=>?_) fun hq=>?_|exact True.intro)
  rename_i ya hya
  obtain rfl:=Option.some.inj ((List.getElem?_set_self hti).symm.trans hya)
  obtain rfl:=Option.some.inj ((List.getElem?_set_self (by rw[List.length_set];exact hti)).symm.trans hxe)
  clear hya hxe
  dsimp only
  rw[List.set_set]
  have hg2:(i:Int).toNat<(row.set (i:Int).toNat (⟨⟨r1,r1+1,some j,v.v.digest⟩,some j2⟩:PplO)).length:=by rw[List.length_set];exact hti
  have hg3:(row.set (i:Int).toNat (⟨⟨r1,r1+1,some j,v.v.digest⟩,some j2⟩:PplO))[(i:Int).toNat]?=some ⟨⟨r1,r1+1,some j,v.v.digest⟩,some j2⟩:=List.getElem?_set_self hti
  have hg4:∀x:PplO,(row.set (i:Int).toNat (⟨⟨r1,r1+1,some j,v.v.digest⟩,some j2⟩:PplO)).set (i:Int).toNat x=row.set i x:=fun x=>by rw[List.set_set,Int.toNat_natCast]
  generalize row.set (i:Int).toNat (⟨⟨r1,r1+1,some j,v.v.digest⟩,some j2⟩:PplO)=row2 at *
  have hM:=jI r2 j y (r1+1+1) h2 (by omega)
  rw[show r1+1+1=r1+2 by omega] at *
  have hF:=gy 3 r2 j (mk (r1+2) y.length)
  (repeat(any_goals(first|refine st ?_|refine sa fun xe hxe=>?_|refine sb (fun hq=>?_) fun hq=>?_|refine co (hM) ?_|exact True.intro)))
  obtain rfl:=Option.some.inj ((List.getElem?_set_self hg2).symm.trans hxe)
  clear hxe hM hF
  dsimp only
  rw[hg4]
  have hM:=jI (r2.set j (mk (r1+2) y.length)) j2 y2 (r1+2+y.length+1) h2' (by omega)
  rw[show r1+3+(y.length:Int)=r1+2+y.length+1 by omega] at *
  have hF:=gy 3 (r2.set j (mk (r1+2) y.length)) j2 (mk (r1+2+y.length+1) y2.length)
  generalize r2.set j (mk (r1+2) y.length)=r4 at *
  (repeat' first|refine st ?_|refine sa fun xe hxe=>?_|refine sb (fun hq=>?_) fun hq=>?_|refine co (hM) ?_|exact True.intro)
  refine⟨i+1,by omega,by omega,?_⟩
  rw[hr',h6,h7,h8]
  rfl
 ·obtain rfl:i=vs.length:=by omega
  rw[List.take_of_length_le (Nat.le_refl _),List.drop_eq_nil_of_le (Nat.le_refl _),List.append_nil] at *
  have hlm:=iZ vs k pss
  generalize eH vs k pss=r at *
  (repeat' first|refine st ?_|refine sa fun xe hxe=>?_|refine sb (fun hq=>?_) fun hq=>?_|exact True.intro)
  exact⟨rfl,rfl⟩
theorem sN (a b:List Int)(bad:Int)(vss:List (List VtxO))(pss:List (List Int))(hs:List (Option Nat))(ps:List PplO)(gs:List (List Vtx))(qs:List Ppl)(k:Int)(h:WO vss pss hs ps gs qs)(hl:hs.length≤1048576)(hk:0≤k∧k+(a.length+b.length+cG gs+cP qs:Nat)≤1000000000):
  ∃x:(Int×List (List Int)×List (List VtxO))×(Int×List (List Int)×List PplO),(x.1=cg hs (k+a.length+b.length) pss vss∧x.2=eH ps x.1.1 x.1.2.1)∧ai Tryz.prog 11 [yn bad,.int .i64 k] [(2,.frow 43 (.vtxo 3) vss),(3,.frow 3 (.int .i64) pss),(4,.row 3 (.int .i64) a),(5,.row 3 (.int .i64) b),(6,.row 102 (.hr 2) hs),(7,.row 104 (.pplo 3 3) ps)]
   (.int .i64 x.2.1) [(2,.frow 43 (.vtxo 3) x.1.2.2),(3,.frow 3 (.int .i64) x.2.2.1),(4,.row 3 (.int .i64) (mk k a.length)),(5,.row 3 (.int .i64) (mk (k+a.length) b.length)),(6,.row 102 (.hr 2) hs),(7,.row 104 (.pplo 3 3) x.2.2.2)]:=by
 refine⟨(cg hs (k+a.length+b.length) pss vss,eH ps (cg hs (k+a.length+b.length) pss vss).1 (cg hs (k+a.length+b.length) pss vss).2.1),⟨rfl,rfl⟩,?_⟩
 obtain⟨h1,h2,h3,-,-⟩:=h.mark (k+a.length+b.length)
 have hG:=n5 hs pss vss gs (k+a.length+b.length) h.g h.hn (by omega) hl
 have hP:=mh ps (cg hs (k+a.length+b.length) pss vss).2.1 qs (cg hs (k+a.length+b.length) pss vss).1 h1 (by omega)
 have hF0:ao (VB.frow 43 (.vtxo 3) vss)≤ao (VB.frow 43 (.vtxo 3) (cg hs (k+a.length+b.length) pss vss).2.2):=by
  have key:∀(hs:List (Option Nat)) (k:Int) (pss:List (List Int)) (vss:List (List VtxO)),(cg hs k pss vss).2.2.length=vss.length:=by
   intro hs
   induction hs with
   |nil=>intros;rfl
   |cons x l ih=>intro k pss vss;simp only[cg];rw[ih,List.length_set]
  simp[ao,key]
 have hF1:=dw 3 (fZ hs (k+a.length+b.length) pss vss)
 have hF2:=dw 3 (eX ps (cg hs (k+a.length+b.length) pss vss).1 (cg hs (k+a.length+b.length) pss vss).2.1)
 generalize cg hs (k+a.length+b.length) pss vss=x at *
 generalize eH ps x.1 x.2.1=y at *
 refine aa ak Tryz.func11 rfl rfl false 4 8 rfl rfl rfl rfl fun K hK hb1 hb2=>?_;simp only[ae,enc,Nat.reduceAdd]
 clear hb1 hb2
 (repeat' first|refine st ?_|refine sa fun xe hxe=>?_|refine sb (fun hq=>?_) fun hq=>?_|refine co (hG) ?_|refine co (hP) ?_|((with_reducible refine uj ?_);(conv=>whnf);(first|with_reducible refine aB (nZ _ _ (by omega)) ?_);conv=>whnf)|exact True.intro)
 exact⟨rfl,rfl⟩
theorem u5 (k:Int):ai Tryz.prog 45 [.lst (.int .i64) [],.int .i64 k] [] (.int .i64 k) []:=by
 refine aa ak Tryz.func45 rfl rfl false 0 4 rfl rfl rfl rfl fun K hK hb1 hb2=>?_;simp only[ae,enc,Nat.reduceAdd]
 (repeat' first|refine st ?_|refine sa fun xe hxe=>?_|refine sb (fun hq=>?_) fun hq=>?_|exact True.intro)
 refine ag hK [] [0,1,4,5] (fun _:Unit=>⟨[(0,.lst (.int .i64) []),(1,.int .i64 k),(4,.int .i64 0),(5,.int .i64 0)],[],4⟩) (fun _=>True) (fun _=>0) () trivial rfl ?_
 rintro⟨⟩ _
 (repeat' first|refine st ?_|refine sa fun xe hxe=>?_|refine sb (fun hq=>?_) fun hq=>?_|exact True.intro)
 ·simp at hq
 ·exact⟨rfl,rfl⟩
theorem n6 (k:Int):ai Tryz.prog 46 [.lst (.int .i64) [],.int .i64 k] [] (.int .i64 k) []:=by
 refine aa ak Tryz.func46 rfl rfl false 0 4 rfl rfl rfl rfl fun K hK hb1 hb2=>?_;simp only[ae,enc,Nat.reduceAdd]
 (repeat' first|refine st ?_|refine sa fun xe hxe=>?_|refine sb (fun hq=>?_) fun hq=>?_|exact True.intro)
 refine ag hK [] [0,1,5] (fun _:Unit=>⟨[(0,.lst (.int .i64) []),(1,.int .i64 k),(5,.int .i64 0)],[],4⟩) (fun _=>True) (fun _=>0) () trivial rfl ?_
 rintro⟨⟩ _
 (repeat' first|refine st ?_|refine sa fun xe hxe=>?_|refine sb (fun hq=>?_) fun hq=>?_|exact True.intro)
 ·simp at hq
 ·exact⟨rfl,rfl⟩
theorem mi (k:Int):ai Tryz.prog 47 [.lst (.int .i64) [],.int .i64 k] [] (.int .i64 k) []:=by
 refine aa ak Tryz.func47 rfl rfl false 0 4 rfl rfl rfl rfl fun K hK hb1 hb2=>?_;simp only[ae,enc,Nat.reduceAdd]
 (repeat' first|refine st ?_|refine sa fun xe hxe=>?_|refine sb (fun hq=>?_) fun hq=>?_|exact True.intro)
 refine ag hK [] [0,1,5] (fun _:Unit=>⟨[(0,.lst (.int .i64) []),(1,.int .i64 k),(5,.int .i64 0)],[],4⟩) (fun _=>True) (fun _=>0) () trivial rfl ?_
 rintro⟨⟩ _
 (repeat' first|refine st ?_|refine sa fun xe hxe=>?_|refine sb (fun hq=>?_) fun hq=>?_|exact True.intro)
 ·simp at hq
 ·exact⟨rfl,rfl⟩
abbrev CZ:V:=.agg [.lst (.int .i64) [],.lst (.int .i64) [],.int .i64 0,.lst (.int .i64) [],.lst (.int .i64) []]
theorem sO (k:Int):ai Tryz.prog 11 [CZ,.int .i64 k] [] (.int .i64 k) []:=by
 refine aa ak Tryz.func11 rfl rfl false 0 4 rfl rfl rfl rfl fun K hK hb1 hb2=>?_;simp only[ae,enc,Nat.reduceAdd]
 clear hb1 hb2
 (repeat' first|refine st ?_|refine sa fun xe hxe=>?_|refine sb (fun hq=>?_) fun hq=>?_|refine cr (u5 _) ?_|refine cr (n6 _) ?_|refine cr (mi _) ?_|exact True.intro)
 exact⟨rfl,rfl⟩
theorem pf:ai Tryz.prog 10 [CZ,CZ] [] (.bool true) []:=by
 have h:=lc ⟨[],[],0,[],[]⟩
 unfold ai at h⊢
 exact h
theorem sw (k:Int)(hk:0≤k∧k≤1000000000):ai Tryz.prog 12 [CZ,.int .i64 k] [] (.int .i64 k) []:=by
 have h:=lZ ⟨[],[],0,[],[]⟩ k (by simp) (by simp[cW,cG,cP];omega)
 have e:cW ⟨[],[],0,[],[]⟩=0:=rfl
 have e2:Gw k ⟨[],[],0,[],[]⟩=⟨[],[],0,[],[]⟩:=rfl
 rw[e,e2,show k+((0:Nat):Int)=k by omega] at h
 unfold ai at h⊢
 exact h
abbrev GE:List V:=[.nils,.nils,.int .i64 0,.nils,.nils]
theorem EP (w:Wrl)(h:WOK w):ai Tryz.prog 33 [aP w] [] (aP w) []:=by
 have h7:=h.len
 have hvl:=h.vlen
 have hpl:=h.plen
 have hll:=(fX.1 h.lead).2
 refine aa ak Tryz.func33 rfl rfl true 0 4 rfl rfl rfl rfl fun K hK hb1 hb2=>?_;simp only[ae,enc,Nat.reduceAdd]
 clear hb1 hb2
 (repeat' first|refine st ?_|refine sa fun xe hxe=>?_|refine sb (fun hq=>?_) fun hq=>?_|exact True.intro)
 refine ag hK [] [1,2,3,4] (fun i:Nat=>⟨[(1,.ptr 4 0),(2,.ptr 5 0),(3,.ptr 6 0),(4,.int .i64 (i:Int))],[(4,.var 31 (aP w).cells),(5,.var 31 GE),(6,.var 31 [.ref 7,.ref 8,.int .i64 w.bad,.ref 9,.ref 10]),(7,.row 3 (.int .i64) w.com),(8,.row 3 (.int .i64) w.lead),(9,.row 102 (.lst .vtx) (w.views.take i)),(10,.row 104 .ppl [])],11⟩) (fun i=>i≤w.views.length) (fun i=>w.views.length-i) 0 (by omega) rfl ?_
 intro i hi
 by_cases hlt:i<w.views.length
 ·have hxe:w.views[i]?=some w.views[i]:=List.getElem?_eq_getElem hlt
  have hsn:w.views.take (i+1)=w.views.take i++[w.views[i]]:=List.take_succ_eq_append_getElem hlt
  have hgm:=List.getElem_mem hlt
  have hC:=wY w.views[i] (by have:=h.vl _ hgm;omega) fun v hv=>by have:=h.par (h.vv _ hgm v hv);omega
  have hl1:(w.views.take i).length=i:=by rw[List.length_take];omega
  generalize w.views[i]=g at *
  generalize w.views.take i=l at *
  (repeat' first|refine st ?_|refine sa fun xe hxe=>?_|refine sb (fun hq=>?_) fun hq=>?_|refine cr (hC) ?_|exact True.intro)
  exact⟨i+1,by omega,by omega,by rw[hsn];rfl⟩
 rw[List.take_of_length_le (by omega)]
 (repeat' first|refine st ?_|refine sa fun xe hxe=>?_|refine sb (fun hq=>?_) fun hq=>?_|exact True.intro)
 refine ag hK [] [1,2,3,5] (fun i:Nat=>⟨[(1,.ptr 4 0),(2,.ptr 5 0),(3,.ptr 6 0),(5,.int .i64 (i:Int))],[(4,.var 31 (aP w).cells),(5,.var 31 GE),(6,.var 31 [.ref 7,.ref 8,.int .i64 w.bad,.ref 9,.ref 10]),(7,.row 3 (.int .i64) w.com),(8,.row 3 (.int .i64) w.lead),(9,.row 102 (.lst .vtx) w.views),(10,.row 104 .ppl (w.props.take i))],11⟩) (fun i=>i≤w.props.length) (fun i=>w.props.length-i) 0 (by omega) rfl ?_
 intro k hk
 by_cases hkl:k<w.props.length
 ·have hxe:w.props[k]?=some w.props[k]:=List.getElem?_eq_getElem hkl
  have hsn:w.props.take (k+1)=w.props.take k++[w.props[k]]:=List.take_succ_eq_append_getElem hkl
  have hpm:=List.getElem_mem hkl
  have hC:=lF w.props[k].v (by have:=h.par (h.pv _ hpm).1;omega)
  have hm:=h.mem _ hpm
  have hl1:(w.props.take k).length=k:=by rw[List.length_take];omega
  generalize w.props[k]=p at *
  generalize w.props.take k=l at *
  (repeat' first|refine st ?_|refine sa fun xe hxe=>?_|refine sb (fun hq=>?_) fun hq=>?_|refine cr (hC) ?_|exact True.intro)
  exact⟨k+1,by omega,by omega,by rw[hsn];rfl⟩
 ·(repeat' first|refine st ?_|refine sa fun xe hxe=>?_|refine sb (fun hq=>?_) fun hq=>?_|exact True.intro)
  rw[List.take_of_length_le (by omega)]
  exact⟨rfl,rfl⟩
def e0:Evt:=⟨0,0,0,v0⟩
theorem A4 (w:Wrl)(es:List Evt)(hl:w.com.length≤2000000)(hel:es.length≤1000000)(hvl:∀e∈es,e.v.parents.length≤2000000):ai Tryz.prog 20 [aP w,.lst .evt es] [] (if decide (es.length≤80) && fH w then .tup [aP (be w es),.bool true] else .tup [vJ,.bool false]) []:=by
 have hV:=Dn w hl
 refine aa ak Tryz.func20 rfl rfl true 0 4 rfl rfl rfl rfl fun K hK hb1 hb2=>?_;simp only[ae,enc,Nat.reduceAdd]
 clear hb1 hb2
 cases hs:fH w
 ·rw[hs] at hV
  (repeat' first|refine st ?_|refine sa fun xe hxe=>?_|refine sb (fun hq=>?_) fun hq=>?_|refine cr (hV) ?_|exact True.intro)
  rw[Bool.and_false]
  exact⟨rfl,rfl⟩
 ·rw[hs] at hV
  have hw:=je.1 hs
  by_cases h80:80<(es.length:Int)
  ·(repeat' first|refine st ?_|refine sa fun xe hxe=>?_|refine sb (fun hq=>?_) fun hq=>?_|refine cr (hV) ?_|exact True.intro)
   rw[decide_eq_false (p:=es.length≤80) (by omega)]
   exact⟨rfl,rfl⟩
  ·rw[decide_eq_true (p:=es.length≤80) (by omega),Bool.true_and]
   (repeat' first|refine st ?_|refine sa fun xe hxe=>?_|refine sb (fun hq=>?_) fun hq=>?_|refine cr (hV) ?_|exact True.intro)
   refine ag hK [] [1,2,4,6] (fun i:Nat=>⟨[(1,.lst .evt es),(2,.ptr 4 0),(4,.ptr 5 0),(6,.int .i64 (i:Int))],[(4,.var 31 (aP (be w (es.take i))).cells),(5,.var 31 GE)],6⟩) (fun i=>i≤es.length) (fun i=>es.length-i) 0 (by simp) rfl ?_
   intro i hi
   have hwi:=kC hw (es.take i)
   by_cases hlt:i<es.length
   ·have hxe:es[i]?=some es[i]:=List.getElem?_eq_getElem hlt
    have hsn:=gM w (es.take i) es[i]
    rw[←List.take_succ_eq_append_getElem hlt] at hsn
    have hD:=FX _ es[i] hwi (hvl _ (List.getElem_mem hlt))
    generalize es[i]=e at *
    generalize be w (es.take i)=u at *
    (repeat' first|refine st ?_|refine sa fun xe hxe=>?_|refine sb (fun hq=>?_) fun hq=>?_|refine cr (hD) ?_|exact True.intro)
    refine⟨i+1,by omega,by omega,?_⟩
    rw[hsn]
    rfl
   ·rw[List.take_of_length_le (by omega)] at hwi⊢
    have hC:=EP _ hwi
    (repeat' first|refine st ?_|refine sa fun xe hxe=>?_|refine sb (fun hq=>?_) fun hq=>?_|refine cr (hC) ?_|exact True.intro)
    exact⟨rfl,rfl⟩
theorem x8 (e:Evt)(l:Int)(hl:0≤l∧l≤1048576):ai Tryz.prog 13 [nz e,.int .i64 l] [] (.int .i64 (jr l e.v.parents.length)) []:=by
 have hc:=jN e.v l hl
 refine aa ak Tryz.func13 rfl rfl false 0 4 rfl rfl rfl rfl fun K hK hb1 hb2=>?_;simp only[ae,enc,Nat.reduceAdd]
 clear hb1 hb2
 unfold jr at hc⊢
 by_cases h:l-e.v.parents.length<0
 ·rw[if_pos h] at hc⊢
  (repeat' first|refine st ?_|refine sa fun xe hxe=>?_|refine sb (fun hq=>?_) fun hq=>?_|refine cr (hc) ?_|exact True.intro)
  exact⟨rfl,rfl⟩
 ·rw[if_neg h] at hc⊢
  (repeat' first|refine st ?_|refine sa fun xe hxe=>?_|refine sb (fun hq=>?_) fun hq=>?_|refine cr (hc) ?_|exact True.intro)
  exact⟨rfl,rfl⟩
theorem yd (e:Evt)(hv:e.v.parents.length≤1048576):ai Tryz.prog 15 [nz e] [] (nz e) []:=by
 refine aa ak Tryz.func15 rfl rfl true 0 4 rfl rfl rfl rfl fun K hK hb1 hb2=>?_;simp only[ae,enc,Nat.reduceAdd]
 clear hb1 hb2
 (repeat' first|refine st ?_|refine sa fun xe hxe=>?_|refine sb (fun hq=>?_) fun hq=>?_|refine cr (jO _ hv) ?_|exact True.intro)
 exact⟨rfl,rfl⟩
abbrev Gj (e:Evt):V:=.agg [.int .i64 e.kind,.int .i64 e.a,.int .i64 e.b,.int .i64 e.v.round,.int .i64 e.v.author,.ref 4,.int .i64 e.v.digest]
theorem ye (e:Evt)(hv:e.v.parents.length≤1048576):ai Tryz.prog 15 [nz e] [] (Gj e) [(4,.row 3 (.int .i64) e.v.parents)]:=by
 refine aa ak Tryz.func15 rfl rfl false 0 4 rfl rfl rfl rfl fun K hK hb1 hb2=>?_;simp only[ae,enc,Nat.reduceAdd]
 clear hb1 hb2
 (repeat' first|refine st ?_|refine sa fun xe hxe=>?_|refine sb (fun hq=>?_) fun hq=>?_|refine cr (jP _ hv) ?_|exact True.intro)
 exact⟨rfl,rfl⟩
theorem xA (e:Evt):ai Tryz.prog 17 [nz e,nz e] [] (.bool true) []:=by
 refine aa ak Tryz.func17 rfl rfl false 0 4 rfl rfl rfl rfl fun K hK hb1 hb2=>?_;simp only[ae,enc,Nat.reduceAdd]
 clear hb1 hb2
 (repeat' first|refine st ?_|refine sa fun xe hxe=>?_|refine sb (fun hq=>?_) fun hq=>?_|refine cr (jx _) ?_|exact True.intro)
 all_goals first|(exact⟨rfl,rfl⟩)|exact absurd rfl hq|exact absurd trivial hq|cases hq
theorem rg {α:Type}(f:α→Nat)(b:Nat):∀(l:List α),(∀x∈l,f x≤b)→(l.map f).sum≤l.length*b
 |[],_=>by simp
 |x::l,h=>by
  have h1:=h x (by simp)
  have h2:=rg f b l fun y hy=>h y (by simp[hy])
  simp only[List.map_cons,List.sum_cons,List.length_cons,Nat.succ_mul]
  omega
theorem Fa {w:Wrl}(h:WOK w):cW w≤100000∧w.views.length≤7:=by
 have h1:=h.len
 have h2:=(fX.1 h.lead).2
 have h3:cG w.views≤w.views.length*2170:=rg _ _ _ fun g hg=>by
  have h4:cV g≤g.length*10:=rg _ _ _ fun v hv=>by have:=h.par (h.vv g hg v hv);omega
  have h5:=h.vl g hg
  omega
 have h6:cP w.props≤w.props.length*17:=rg _ _ _ fun p hp=>by
  have:=h.par (h.pv p hp).1
  have:=h.mem p hp
  omega
 have h7:=h.plen
 have h8:=h.vlen
 unfold cW
 refine⟨?_,by omega⟩
 have h9:w.views.length*2170≤7*2170:=Nat.mul_le_mul_right _ (by omega)
 omega
theorem Fw (gs:List (List Vtx)):cG gs≤3*oG gs:=by
 have hv:∀g:List Vtx,cV g≤3*uI g:=fun g=>by
  unfold cV uI en
  induction g with
  |nil=>simp
  |cons v g ih=>simp only[List.map_cons,List.sum_cons,List.length_cons] at ih⊢;omega
 unfold cG oG
 induction gs with
 |nil=>simp
 |cons g l ih=>have:=hv g;simp only[List.map_cons,List.sum_cons] at ih⊢;omega
theorem Fx (ps:List Ppl):cP ps=3*ps.length+pH ps:=by
 unfold cP pH oV
 induction ps with
 |nil=>rfl
 |cons p l ih=>simp only[List.map_cons,List.sum_cons,List.length_cons] at ih⊢;omega
theorem DG {w:Wrl}(h:Bo w≤1048576):w.com.length+w.lead.length+cG w.views+cP w.props≤10000000:=by
 have h1:=Fw w.views
 have h2:=Fx w.props
 unfold Bo at h
 omega
theorem qP:∀(hs:List (Option Nat)) (k:Int) (pss:List (List Int)) (vss:List (List VtxO)),(cg hs k pss vss).2.2.length=vss.length
 |[],_,_,_=>rfl
 |x::l,k,pss,vss=>by simp only[cg];rw[qP l,List.length_set]
theorem xS (u:Wrl)(h1:cW u≤100000000)(h2:u.views.length≤1048576):
  ∃(a:List (List VtxO)) (b:List (List Int)) (c:List PplO) (d:List (List Vtx)) (e:List Ppl),ao (VB.frow 43 (.vtxo 3) (fI (aF u.props).length u.views))≤ao (VB.frow 43 (.vtxo 3) a)∧ao (VB.frow 3 (.int .i64) (aF u.props++aW u.views))≤ao (VB.frow 3 (.int .i64) b)∧
   (xy b a ((List.range u.views.length).map some))[0]?=some d∧(xz b b c)[0]?=some e∧
   ai Tryz.prog 11 [yn u.bad,.int .i64 1] (ED u) (.int .i64 (1+cW u)) [(2,.frow 43 (.vtxo 3) a),(3,.frow 3 (.int .i64) b),(4,.row 3 (.int .i64) (mk 1 u.com.length)),(5,.row 3 (.int .i64) (mk (1+u.com.length) u.lead.length)),(6,.row 102 (.hr 2) ((List.range u.views.length).map some)),(7,.row 104 (.pplo 3 3) c)]∧
   ai Tryz.prog 12 [.agg [.lst (.int .i64) (mk 1 u.com.length),.lst (.int .i64) (mk (1+u.com.length) u.lead.length),.int .i64 u.bad,.lst (.lst .vtx) d,.lst .ppl e],.int .i64 1] [] (.int .i64 (1+cW u)) []:=by
 have hW:=Bl u.views u.props
 have hc:(u.com.length+u.lead.length+cG u.views+cP u.props:Nat)=cW u:=rfl
 obtain⟨⟨x,y⟩,⟨hx,hy⟩,hM⟩:=sN u.com u.lead u.bad _ _ _ _ _ _ 1 hW (by simpa using h2) (by omega)
 obtain⟨m1,m2,m3,m4,m5⟩:=hW.mark (1+u.com.length+u.lead.length)
 dsimp only at hx hy hM m3
 rw[←hx,←hy] at m3 m4
 rw[←hx,←hy] at m5
 have hH:=lZ u 1 h2 (by omega)
 have hy2:y.1=1+cW u:=by rw[m3];omega
 rw[hy2] at hM
 refine⟨_,_,_,_,_,?_,?_,m4,m5,hM,hH⟩
 ·rw[hx]
  simp[ao,qP]
 ·refine dw _ ?_
  rw[hy,eX,hx,fZ]
def pg (n:Nat)(es:List Evt):List EvtO:=(es.zipIdx n).map fun x=>⟨x.1.kind,x.1.a,x.1.b,⟨x.1.v.round,x.1.v.author,some x.2,x.1.v.digest⟩⟩
theorem BE (n:Nat)(es:List Evt):(pg n es).length=es.length:=by simp[pg]
theorem yZ (n:Nat)(es:List Evt)(e:Evt):pg n (es++[e])=pg n es++[⟨e.kind,e.a,e.b,⟨e.v.round,e.v.author,some (n+es.length),e.v.digest⟩⟩]:=by
 simp[pg,List.zipIdx_append]
def nx (es:List Evt):List (List Int):=es.map fun e=>e.v.parents
theorem y5 (es:List Evt)(e:Evt):nx (es++[e])=nx es++[e.v.parents]:=by simp[nx]
def EsR (pss:List (List Int)):List EvtO→List Evt→Prop
 |[],[]=>True
 |x::l,e::es=>(∃j,x=⟨e.kind,e.a,e.b,⟨e.v.round,e.v.author,some j,e.v.digest⟩⟩∧pss[j]?=some e.v.parents)∧EsR pss l es
 |_,_=>False
theorem EsR.len {pss:List (List Int)}:∀{vs:List EvtO} {g:List Evt},EsR pss vs g→vs.length=g.length
 |[],[],_=>rfl
 |x::l,v::g,h=>by simp[EsR.len h.2]
theorem EsR.get {pss:List (List Int)}:∀{vs:List EvtO} {g:List Evt} {i:Nat} {e:Evt},EsR pss vs g→g[i]?=some e→∃j,vs[i]?=some ⟨e.kind,e.a,e.b,⟨e.v.round,e.v.author,some j,e.v.digest⟩⟩∧pss[j]?=some e.v.parents
 |[],[],i,e,_,he=>by cases he
 |x::l,y::g,0,e,h,he=>by
  obtain⟨⟨j,rfl,h1⟩,h2⟩:=h
  simp only[List.getElem?_cons_zero,Option.some.injEq] at he
  subst he
  exact⟨j,rfl,h1⟩
 |x::l,y::g,i+1,e,h,he=>EsR.get (i:=i) h.2 (by simpa using he)
theorem EsR.read {pss:List (List Int)}:∀{vs:List EvtO} {g:List Evt},EsR pss vs g→vs.mapM (F6 pss)=some g
 |[],[],_=>rfl
 |x::l,e::g,h=>by
  obtain⟨⟨j,rfl,h1⟩,h2⟩:=h
  rw[List.mapM_cons,EsR.read h2]
  simp[F6,BC,Fg,h1]
theorem qo {pss:List (List Int)}:∀{es:List Evt} {n:Nat},(∀i e,es[i]?=some e→pss[n+i]?=some e.v.parents)→EsR pss (pg n es) es
 |[],n,_=>trivial
 |e::es,n,h=>⟨⟨n,rfl,by simpa using h 0 e rfl⟩,qo (n:=n+1) fun i x hx=>by have:=h (i+1) x (by simpa using hx);rwa [show n+1+i=n+(i+1) by omega]⟩
def l8:List EvtO→Int→List (List Int)→Int×List (List Int)×List EvtO
 |[],k,p=>(k,p,[])
 |x::l,k,p=>
  let j:=x.v.parents.getD 0
  let n:=(p.getD j []).length
  let r:=l8 l (k+6+n) (p.set j (mk (k+5) n))
  (r.1,r.2.1,⟨k,k+1,k+2,⟨k+3,k+4,x.v.parents,k+5+n⟩⟩::r.2.2)
theorem sQ (x:EvtO):∀(l:List EvtO) (k:Int) (p:List (List Int)),l8 (l++[x]) k p=
  (let r:=l8 l k p;let j:=x.v.parents.getD 0;let n:=(r.2.1.getD j []).length
  (r.1+6+n,r.2.1.set j (mk (r.1+5) n),r.2.2++[⟨r.1,r.1+1,r.1+2,⟨r.1+3,r.1+4,x.v.parents,r.1+5+n⟩⟩]))
 |[],k,p=>rfl
 |y::l,k,p=>by
  simp only[List.cons_append,l8]
  rw[sQ x l]
theorem nU:∀(l:List EvtO) (k:Int) (p:List (List Int)),(l8 l k p).2.1.map List.length=p.map List.length
 |[],_,_=>rfl
 |x::l,k,p=>by simp only[l8];rw[nU l,cU]
theorem mK:∀(l:List EvtO) (k:Int) (p:List (List Int)),(l8 l k p).2.2.length=l.length
 |[],_,_=>rfl
 |x::l,k,p=>by simp only[l8,List.length_cons];rw[mK l]
def cE (g:List Evt):Nat:=(g.map fun e=>6+e.v.parents.length).sum
theorem DB (g:List Evt):g.length≤cE g:=mJ _ (fun v=>by omega) g
theorem Bv {g:List Evt}{i:Nat}{v:Evt}(h:g[i]?=some v):cE (g.take (i+1))=cE (g.take i)+(6+v.v.parents.length):=by simp[cE,b9 h]
theorem Fv (g:List Evt)(i:Nat):cE (g.take i)≤cE g:=oA _ g i
theorem EsR.take {pss:List (List Int)}:∀{vs:List EvtO} {g:List Evt} (i:Nat),EsR pss vs g→EsR pss (vs.take i) (g.take i)
 |[],[],i,_=>by simp[EsR]
 |x::l,v::g,0,_=>trivial
 |x::l,v::g,i+1,h=>⟨h.1,EsR.take i h.2⟩
theorem qN {q:List (List Int)}:∀{vs:List EvtO} {g:List Evt} (k:Int) (p:List (List Int)),p.map List.length=q.map List.length→EsR q vs g→(l8 vs k p).1=k+cE g
 |[],[],k,p,_,_=>by simp[l8,cE]
 |x::l,v::g,k,p,hp,h=>by
  obtain⟨⟨j,rfl,h1⟩,h2⟩:=h
  simp only[l8,Option.getD_some]
  rw[qN _ _ (by rw[cU,hp]) h2,fY hp,eC h1]
  simp only[cE,List.map_cons,List.sum_cons]
  omega
theorem Ag {pss q:List (List Int)}{vs:List EvtO}{g:List Evt}{k:Int}{i:Nat}{v:Evt}(hq:pss.map List.length=q.map List.length)(hr:EsR q vs g)(hv:g[i]?=some v){r:Int×List (List Int)×List EvtO}(hr0:l8 (vs.take i) k pss=r):
  ∃j y,(r.2.2++vs.drop i)[i]?=some ⟨v.kind,v.a,v.b,⟨v.v.round,v.v.author,some j,v.v.digest⟩⟩∧r.2.1[j]?=some y∧y.length=v.v.parents.length∧r.1=k+cE (g.take i)∧i<(r.2.2++vs.drop i).length∧
   (l8 (vs.take (i+1)) k pss).1=r.1+6+y.length∧(l8 (vs.take (i+1)) k pss).2.1=r.2.1.set j (mk (r.1+5) y.length)∧(l8 (vs.take (i+1)) k pss).2.2++vs.drop (i+1)=(r.2.2++vs.drop i).set i ⟨r.1,r.1+1,r.1+2,⟨r.1+3,r.1+4,some j,r.1+5+y.length⟩⟩:=by
 obtain⟨j,h1,h2⟩:=hr.get hv
 have hil:i<vs.length:=(List.getElem?_eq_some_iff.1 h1).1
 have hlen:r.2.2.length=i:=by rw[←hr0,mK,List.length_take];omega
 obtain⟨y,h3,h4⟩:=iu (p:=r.2.1) (q:=q) (by rw[←hr0,nU,hq]) h2
 have hs:=sQ ⟨v.kind,v.a,v.b,⟨v.v.round,v.v.author,some j,v.v.digest⟩⟩ (vs.take i) k pss
 rw[←b9 h1,hr0] at hs
 simp only[Option.getD_some,eC h3] at hs
 refine⟨j,y,by rw[qV _ _ hlen,h1],h3,h4,by rw[←hr0,qN k pss hq (hr.take i)],by simp;omega,?_⟩
 rw[hs,oc _ _ _ hlen hil]
 exact⟨rfl,rfl,rfl⟩
def Θv:TT:=(45,⟨.struct [(3,0,1),(3,1,1),(3,2,1),(43,3,4)],7,72,some (.agg [.int .i64 0,.int .i64 0,.int .i64 0,.int .i64 0,.int .i64 0,.nils,.int .i64 0]),some (.evto 1),false⟩)::Θ
theorem oF:TT.ok Tryz.prog Θv:=TT.okB_ok (by kernel_rfl)
theorem GA {P Q:Prop}(h:Q)(s:Hid Q→P:=by
  intro h
  (first|(with_reducible first|apply cQ|apply ca)|((first|with_reducible apply bO oF|refine go ?_|(with_reducible first|apply ck|apply b7|apply bM|apply bP|refine bN oF mixed (by kernel_rfl) ?_))<;>conv=>whnf))
  repeat(first|(with_reducible first|apply cQ|apply ca)|((first|with_reducible apply bO oF|refine go ?_|(with_reducible first|apply ck|apply b7|apply bM|apply bP|refine bN oF mixed (by kernel_rfl) ?_))<;>conv=>whnf))
  exact h.h):P:=s ⟨h⟩
def Fh:EvtO:=⟨0,0,0,⟨0,0,none,0⟩⟩
def FC:Evt:=⟨0,0,0,v0⟩
theorem vF (g:List Evt)(pss:List (List Int))(hg:g.length≤1048576)(hv:∀e∈g,e.v.parents.length≤1048576):ai Tryz.prog 21 [.lst .evt g] [(1,.frow 3 (.int .i64) pss)] (.ref 4) [(1,.frow 3 (.int .i64) (pss++nx g)),(4,.row 45 (.evto 1) (pg pss.length g))]:=by
 refine aa oF Tryz.func21 rfl rfl false 0 4 rfl rfl rfl rfl fun K hK hb1 hb2=>?_;simp only[ae,enc,Nat.reduceAdd]
 clear hb1 hb2
 (repeat' first|refine GA ?_|refine sa fun xe hxe=>?_|refine sb (fun hq=>?_) fun hq=>?_|exact True.intro)
 refine ag hK [] [0,3,4] (fun i:Nat=>⟨[(0,.lst .evt g),(3,.ref 4),(4,.int .i64 i)],[(1,.frow 3 (.int .i64) (pss++nx (g.take i))),(4,.row 45 (.evto 1) (pg pss.length (g.take i)++(List.replicate g.length Fh).drop i))],5⟩) (fun i=>i≤g.length) (fun i=>g.length-i) 0 (by simp) (by simp[pg,nx];rfl) ?_
 intro i hi
 by_cases hlt:i<g.length
 ·have hx:g[i]?=some g[i]:=List.getElem?_eq_getElem hlt
  have hsn:g.take (i+1)=g.take i++[g[i]]:=List.take_succ_eq_append_getElem hlt
  have hvl:=hv _ (List.getElem_mem hlt)
  have hln:(pg pss.length (g.take i)).length=i:=by rw[BE,List.length_take];omega
  have dJ:i<(pg pss.length (g.take i)++(List.replicate g.length Fh).drop i).length:=cI _ _ hln (by simpa using hlt)
  have hel:(nx (g.take i)).length=i:=by simp[nx];omega
  have hs:(pg pss.length (g.take i)++(List.replicate g.length Fh).drop i).set i ⟨g[i].kind,g[i].a,g[i].b,⟨g[i].v.round,g[i].v.author,some (pss++nx (g.take i)).length,g[i].v.digest⟩⟩=pg pss.length (g.take (i+1))++(List.replicate g.length Fh).drop (i+1):=by
   rw[bE _ _ _ hln (by simpa using hlt),hsn,yZ,List.length_append,hel,List.length_take,Nat.min_eq_left (by omega)]
  have hp:pss++nx (g.take (i+1))=(pss++nx (g.take i))++[g[i].v.parents]:=by rw[hsn,y5,List.append_assoc]
  clear hel
  generalize hrow:pg pss.length (g.take i)++(List.replicate g.length Fh).drop i=row at *
  generalize pss++nx (g.take i)=ps at *
  generalize g[i]=x at *
  (repeat' first|refine GA ?_|refine sa fun xe hxe=>?_|refine sb (fun hq=>?_) fun hq=>?_|refine cr (ye _ hvl) ?_|exact True.intro)
  refine⟨i+1,by omega,by omega,?_⟩
  rw[←hs,hp]
  rfl
 ·obtain rfl:i=g.length:=by omega
  rw[List.take_of_length_le (Nat.le_refl _),show pg pss.length g++(List.replicate g.length Fh).drop g.length=pg pss.length g by simp]
  (repeat' first|refine GA ?_|refine sa fun xe hxe=>?_|refine sb (fun hq=>?_) fun hq=>?_|exact True.intro)
  exact⟨rfl,rfl⟩
theorem vE (g:List Evt)(hg:g.length≤1048576)(hv:∀e∈g,e.v.parents.length≤1048576):ai Tryz.prog 21 [.lst .evt g] [] (.lst .evt g) []:=by
 refine aa ak Tryz.func21 rfl rfl true 0 4 rfl rfl rfl rfl fun K hK hb1 hb2=>?_;simp only[ae,enc,Nat.reduceAdd]
 clear hb1 hb2
 (repeat' first|refine st ?_|refine sa fun xe hxe=>?_|refine sb (fun hq=>?_) fun hq=>?_|exact True.intro)
 refine ag hK [] [0,3,4] (fun i:Nat=>⟨[(0,.lst .evt g),(3,.ref 4),(4,.int .i64 i)],[(4,.row 45 .evt (g.take i++(List.replicate g.length FC).drop i))],5⟩) (fun i=>i≤g.length) (fun i=>g.length-i) 0 (by simp) (by simp;rfl) ?_
 intro i hi
 by_cases hlt:i<g.length
 ·have hx:g[i]?=some g[i]:=List.getElem?_eq_getElem hlt
  have dJ:i<(g.take i++(List.replicate g.length FC).drop i).length:=cI _ _ (by simp;omega) (by simpa using hlt)
  have hs:(g.take i++(List.replicate g.length FC).drop i).set i g[i]=g.take (i+1)++(List.replicate g.length FC).drop (i+1):=by
   rw[bE _ _ _ (by simp;omega) (by simpa using hlt),List.take_succ_eq_append_getElem hlt]
  have hvl:=hv _ (List.getElem_mem hlt)
  generalize hrow:g.take i++(List.replicate g.length FC).drop i=row at *
  generalize g[i]=x at *
  (repeat' first|refine st ?_|refine sa fun xe hxe=>?_|refine sb (fun hq=>?_) fun hq=>?_|refine cr (yd _ hvl) ?_|exact True.intro)
  refine⟨i+1,by omega,by omega,?_⟩
  rw[←hs]
  rfl
 ·obtain rfl:i=g.length:=by omega
  (repeat' first|refine st ?_|refine sa fun xe hxe=>?_|refine sb (fun hq=>?_) fun hq=>?_|exact True.intro)
  simp
theorem uy (g:List Evt):ai Tryz.prog 23 [.lst .evt g,.lst .evt g] [] (.bool true) []:=by
 refine aa ak Tryz.func23 rfl rfl false 0 4 rfl rfl rfl rfl fun K hK hb1 hb2=>?_;simp only[ae,enc,Nat.reduceAdd]
 simp[af,V.toD,bnd,ab,D.cells] at hb1
 (repeat' first|refine st ?_|refine sa fun xe hxe=>?_|refine sb (fun hq=>?_) fun hq=>?_|exact True.intro)
 ·exact absurd trivial hq
 refine ag hK [] [0,1,5] (fun i:Nat=>⟨[(0,.lst .evt g),(1,.lst .evt g),(5,.int .i64 i)],[],4⟩) (fun i=>i≤g.length) (fun i=>g.length-i) 0 (by simp) rfl ?_
 intro i hi
 by_cases hlt:i<g.length
 ·have hx:g[i]?=some g[i]:=List.getElem?_eq_getElem hlt
  generalize g[i]=x at *
  (repeat' first|refine st ?_|refine sa fun xe hxe=>?_|refine sb (fun hq=>?_) fun hq=>?_|refine cr (xA _) ?_|exact True.intro)
  exact⟨i+1,by omega,by omega,rfl⟩
 ·(repeat' first|refine st ?_|refine sa fun xe hxe=>?_|refine sb (fun hq=>?_) fun hq=>?_|exact True.intro)
  exact⟨rfl,rfl⟩
def fG (g:List Evt):Nat:=(g.map fun e=>e.v.parents.length).sum
theorem pD {g:List Evt}{i:Nat}{v:Evt}(h:g[i]?=some v):fG (g.take (i+1))=fG (g.take i)+v.v.parents.length:=by simp[fG,b9 h]
theorem wO (g:List Evt)(i:Nat):fG (g.take i)≤fG g:=oA _ g i
theorem Cp {g:List Evt}{v:Evt}(h:v∈g):v.v.parents.length≤fG g:=by
 obtain⟨i,hi⟩:=List.getElem?_of_mem h
 have h1:=pD hi
 have h2:=wO g (i+1)
 omega
theorem Fu (g:List Evt):cE g=6*g.length+fG g:=by
 unfold cE fG
 induction g with
 |nil=>rfl
 |cons v g ih=>simp only[List.map_cons,List.sum_cons,List.length_cons,ih];omega
theorem vz (g:List Evt)(l:Int)(hl:0≤l∧l≤1048576):ai Tryz.prog 19 [.lst .evt g,.int .i64 l] [] (.int .i64 (jr l (g.length+fG g))) []:=by
 refine aa ak Tryz.func19 rfl rfl false 0 4 rfl rfl rfl rfl fun K hK hb1 hb2=>?_;simp only[ae,enc,Nat.reduceAdd]
 simp[af,V.toD,bnd,ab,D.cells] at hb1
 have hno:l-g.length-fG g<0→V.int .i64 (-1)=V.int .i64 (jr l (g.length+fG g))∧([]:VH)=[]:=fun h=>⟨by rw[jr,if_pos (by omega)],rfl⟩
 by_cases h0:l-g.length<0
 ·(repeat' first|refine st ?_|refine sa fun xe hxe=>?_|refine sb (fun hq=>?_) fun hq=>?_|exact True.intro)
  exact hno (by omega)
 (repeat' first|refine st ?_|refine sa fun xe hxe=>?_|refine sb (fun hq=>?_) fun hq=>?_|exact True.intro)
 refine ag hK [] [0,1,5] (fun i:Nat=>⟨[(0,.lst .evt g),(1,.int .i64 (l-g.length-fG (g.take i))),(5,.int .i64 i)],[],4⟩) (fun i=>i≤g.length∧0≤l-g.length-fG (g.take i)) (fun i=>g.length-i) 0 ⟨by simp,by simp[fG];omega⟩ (by simp[fG];rfl) ?_
 rintro i ⟨hi,hp⟩
 by_cases hlt:i<g.length
 ·have hxe:g[i]?=some g[i]:=List.getElem?_eq_getElem hlt
  have h3:=pD hxe
  have h4:=wO g (i+1)
  generalize g[i]=v at *
  have hc:=x8 v (l-g.length-fG (g.take i)) (by omega)
  unfold jr at hc
  by_cases h5:l-g.length-fG (g.take i)-v.v.parents.length<0
  ·rw[if_pos h5] at hc
   (repeat' first|refine st ?_|refine sa fun xe hxe=>?_|refine sb (fun hq=>?_) fun hq=>?_|refine cr (hc) ?_|exact True.intro)
   exact hno (by omega)
  ·rw[if_neg h5] at hc
   (repeat' first|refine st ?_|refine sa fun xe hxe=>?_|refine sb (fun hq=>?_) fun hq=>?_|refine cr (hc) ?_|exact True.intro)
   refine⟨i+1,by omega,by omega,?_⟩
   rw[h3,show l-(g.length:Int)-((fG (g.take i)+v.v.parents.length:Nat):Int)=l-g.length-fG (g.take i)-v.v.parents.length by omega]
   rfl
 ·rw[List.take_of_length_le (by omega)] at *
  (repeat' first|refine st ?_|refine sa fun xe hxe=>?_|refine sb (fun hq=>?_) fun hq=>?_|exact True.intro)
  exact⟨by rw[jr,if_neg (by omega)];congr 1;omega,rfl⟩
theorem qM (vs:List EvtO)(pss q:List (List Int))(g:List Evt)(k:Int)(hlq:pss.map List.length=q.map List.length)(hr:EsR q vs g)(hk:0≤k∧k+cE g≤1000000000):ai Tryz.prog 24 [.ref 4,.int .i64 k] [(1,.frow 3 (.int .i64) pss),(4,.row 45 (.evto 1) vs)] (.int .i64 (l8 vs k pss).1) [(1,.frow 3 (.int .i64) (l8 vs k pss).2.1),(4,.row 45 (.evto 1) (l8 vs k pss).2.2)]:=by
 refine aa ak Tryz.func24 rfl rfl false 1 5 rfl rfl rfl rfl fun K hK hb1 hb2=>?_;simp only[ae,enc,Nat.reduceAdd]
 clear hb1 hb2
 (repeat' first|refine st ?_|refine sa fun xe hxe=>?_|refine sb (fun hq=>?_) fun hq=>?_|exact True.intro)
 refine ag hK [] [0,1,5] (fun i:Nat=>⟨[(0,.ref 4),(1,.int .i64 (l8 (vs.take i) k pss).1),(5,.int .i64 i)],[(1,.frow 3 (.int .i64) (l8 (vs.take i) k pss).2.1),(4,.row 45 (.evto 1) ((l8 (vs.take i) k pss).2.2++vs.drop i))],5⟩) (fun i=>i≤vs.length) (fun i=>vs.length-i) 0 (by simp) (by simp[l8];rfl) ?_
 intro i hi
 have hgl:=hr.len
 have hcl:=DB g
 by_cases hlt:i<vs.length
 ·have hv:g[i]?=some g[i]:=List.getElem?_eq_getElem (by omega)
  obtain⟨j,y,h1,h2,h3,h4,h5,h6,h7,h8⟩:=Ag (k:=k) hlq hr hv rfl
  have hc:=Bv hv
  have hc2:=Fv g (i+1)
  have hll:((l8 (vs.take i) k pss).2.2++vs.drop i).length=vs.length:=by simp[mK];omega
  generalize hr':l8 (vs.take (i+1)) k pss=r' at *
  generalize l8 (vs.take i) k pss=r at *
  obtain⟨r1,r2,r3⟩:=r
  simp only at h1 h2 h4 h5 h6 h7 h8 hll⊢
  generalize r3++vs.drop i=row at *
  generalize g[i]=v at *
  (repeat' first|refine st ?_|refine sa fun xe hxe=>?_|refine sb (fun hq=>?_) fun hq=>?_|exact True.intro)
  rename_i x1 hx1 x2 hx2 x3 hx3 x4 hx4
  have hti:(i:Int).toNat<row.length:=by simp;omega
  obtain rfl:=Option.some.inj ((List.getElem?_set_self hti).symm.trans hx1)
  obtain rfl:=Option.some.inj ((List.getElem?_set_self (by simp only[List.length_set];exact hti)).symm.trans hx2)
  obtain rfl:=Option.some.inj ((List.getElem?_set_self (by simp only[List.length_set];exact hti)).symm.trans hx3)
  obtain rfl:=Option.some.inj ((List.getElem?_set_self (by simp only[List.length_set];exact hti)).symm.trans hx4)
  obtain rfl:=Option.some.inj ((List.getElem?_set_self (by simp only[List.length_set];exact hti)).symm.trans hxe)
  clear hx1 hx2 hx3 hx4 hxe
  dsimp only
  simp only[List.set_set]
  have hg2:(i:Int).toNat<(row.set (i:Int).toNat (⟨r1,r1+1,r1+1+1,⟨r1+1+1+1,r1+1+1+1+1,some j,v.v.digest⟩⟩:EvtO)).length:=by rw[List.length_set];exact hti
  have hg3:(row.set (i:Int).toNat (⟨r1,r1+1,r1+1+1,⟨r1+1+1+1,r1+1+1+1+1,some j,v.v.digest⟩⟩:EvtO))[(i:Int).toNat]?=some ⟨r1,r1+1,r1+1+1,⟨r1+1+1+1,r1+1+1+1+1,some j,v.v.digest⟩⟩:=List.getElem?_set_self hti
  have hg4:(row.set (i:Int).toNat (⟨r1,r1+1,r1+1+1,⟨r1+1+1+1,r1+1+1+1+1,some j,v.v.digest⟩⟩:EvtO)).set (i:Int).toNat ⟨r1,r1+1,r1+1+1,⟨r1+1+1+1,r1+1+1+1+1,some j,r1+1+1+1+1+1+y.length⟩⟩=(r'.2.2++vs.drop (i+1)):=by
   rw[h8,List.set_set,Int.toNat_natCast,show r1+1+1+1+1+1+(y.length:Int)=r1+5+y.length by omega,show r1+1+1+1+1=r1+4 by omega,show r1+1+1+1=r1+3 by omega,show r1+1+1=r1+2 by omega]
  generalize row.set (i:Int).toNat (⟨r1,r1+1,r1+1+1,⟨r1+1+1+1,r1+1+1+1+1,some j,v.v.digest⟩⟩:EvtO)=row2 at *
  have hM:=gC r2 j y (r1+1+1+1+1+1) h2 (by omega)
  rw[show r1+5=r1+1+1+1+1+1 by omega] at h7
  have hF:=gy 3 r2 j (mk (r1+1+1+1+1+1) y.length)
  (repeat' first|refine st ?_|refine sa fun xe hxe=>?_|refine sb (fun hq=>?_) fun hq=>?_|refine co (hM) ?_|exact True.intro)
  refine⟨i+1,by omega,by omega,?_⟩
  rw[hr',h6,h7,←hg4,show r1+6+(y.length:Int)=r1+1+1+1+1+1+y.length+1 by omega]
  rfl
 ·obtain rfl:i=vs.length:=by omega
  rw[List.take_of_length_le (Nat.le_refl _),List.drop_eq_nil_of_le (Nat.le_refl _),List.append_nil] at *
  have hlm:=mK vs k pss
  generalize l8 vs k pss=r at *
  (repeat' first|refine st ?_|refine sa fun xe hxe=>?_|refine sb (fun hq=>?_) fun hq=>?_|exact True.intro)
  exact⟨rfl,rfl⟩
theorem VsR.app {pss:List (List Int)}(x:List (List Int)):∀{vs:List VtxO} {g:List Vtx},VsR pss vs g→VsR (pss++x) vs g
 |[],[],_=>trivial
 |_::_,_::_,⟨⟨j,hx,h1⟩,h2⟩=>⟨⟨j,hx,fL _ _ h1⟩,VsR.app x h2⟩
theorem GsR.app {pss:List (List Int)}{vss:List (List VtxO)}(x:List (List Int)):∀{hs:List (Option Nat)} {gs:List (List Vtx)},GsR pss vss hs gs→GsR (pss++x) vss hs gs
 |[],[],_=>trivial
 |_::_,_::_,⟨⟨i,vs,hx,h1,h2⟩,h3⟩=>⟨⟨i,vs,hx,h1,h2.app x⟩,GsR.app x h3⟩
theorem PsR.app {pss:List (List Int)}(x:List (List Int)):∀{ps:List PplO} {qs:List Ppl},PsR pss ps qs→PsR (pss++x) ps qs
 |[],[],_=>trivial
 |_::_,_::_,⟨⟨j,k,hx,h1,h2⟩,h3⟩=>⟨⟨j,k,hx,fL _ _ h1,fL _ _ h2⟩,PsR.app x h3⟩
theorem WO.app {vss:List (List VtxO)}{pss:List (List Int)}{hs:List (Option Nat)}{ps:List PplO}{gs:List (List Vtx)}{qs:List Ppl}(x:List (List Int))(h:WO vss pss hs ps gs qs):WO vss (pss++x) hs ps gs qs:=
 ⟨h.g.app x,h.p.app x,h.hn,h.gn,h.pn,h.d⟩
theorem B1 (w:Wrl)(es:List Evt)(h:80<(es.length:Int)):ai Tryz.prog 22 [aP w,.lst .evt es] [] (.tup [vJ,.bool false]) []:=by
 refine aa aX Tryz.func22 rfl rfl true 0 4 rfl rfl rfl rfl fun K hK hb1 hb2=>?_;simp only[ae,enc,Nat.reduceAdd]
 clear hb1 hb2
 (repeat' first|refine bf ?_|refine sa fun xe hxe=>?_|refine sb (fun hq=>?_) fun hq=>?_|exact True.intro)
 exact⟨rfl,rfl⟩
theorem CR (w:Wrl)(es:List Evt)(hl:w.com.length≤2000000)(h:80<(es.length:Int)):ai Tryz.prog 20 [aP w,.lst .evt es] [] (.tup [vJ,.bool false]) []:=by
 have hV:=Dn w hl
 refine aa ak Tryz.func20 rfl rfl true 0 4 rfl rfl rfl rfl fun K hK hb1 hb2=>?_;simp only[ae,enc,Nat.reduceAdd]
 clear hb1 hb2
 cases hs:fH w
 ·rw[hs] at hV
  (repeat' first|refine st ?_|refine sa fun xe hxe=>?_|refine sb (fun hq=>?_) fun hq=>?_|refine cr (hV) ?_|exact True.intro)
  exact⟨rfl,rfl⟩
 ·rw[hs] at hV
  (repeat' first|refine st ?_|refine sa fun xe hxe=>?_|refine sb (fun hq=>?_) fun hq=>?_|refine cr (hV) ?_|exact True.intro)
  exact⟨rfl,rfl⟩
theorem xI (w:Wrl)(es:List Evt)(h:Bo w≤1048576)(he:es.length+fG es≤1048576)(hs:Small w):
  ∃(a:List (List VtxO)) (b b2:List (List Int)) (c:List PplO) (d:List EvtO) (k:Int),ao (VB.frow 43 (.vtxo 1) (fI 0 w.views))≤ao (VB.frow 43 (.vtxo 1) a)∧ao (VB.frow 3 (.int .i64) (aW w.views++aF w.props++nx es))≤ao (VB.frow 3 (.int .i64) b)∧ao (VB.frow 3 (.int .i64) b)≤ao (VB.frow 3 (.int .i64) b2)∧
   ai Tryz.prog 11 [yn w.bad,.int .i64 1] [(0,.frow 43 (.vtxo 1) (fI 0 w.views)),(1,.frow 3 (.int .i64) (aW w.views++aF w.props++nx es)),(4,.row 3 (.int .i64) w.com),(5,.row 3 (.int .i64) w.lead),(6,.row 102 (.hr 0) ((List.range w.views.length).map some)),(7,.row 104 (.pplo 1 1) (fJ (aW w.views).length w.props))] (.int .i64 (1+cW w))
    [(0,.frow 43 (.vtxo 1) a),(1,.frow 3 (.int .i64) b),(4,.row 3 (.int .i64) (mk 1 w.com.length)),(5,.row 3 (.int .i64) (mk (1+w.com.length) w.lead.length)),(6,.row 102 (.hr 0) ((List.range w.views.length).map some)),(7,.row 104 (.pplo 1 1) c)]∧
   ai Tryz.prog 24 [.ref 4,.int .i64 (1+cW w)] [(1,.frow 3 (.int .i64) b),(4,.row 45 (.evto 1) (pg (aW w.views++aF w.props).length es))] (.int .i64 k) [(1,.frow 3 (.int .i64) b2),(4,.row 45 (.evto 1) d)]∧0≤k:=by
 have hW:=(xj w.views w.props).app (nx es)
 have hc:(w.com.length+w.lead.length+cG w.views+cP w.props:Nat)=cW w:=rfl
 have hcn:=DG h
 have hce:=Fu es
 have hE:EsR (aW w.views++aF w.props++nx es) (pg (aW w.views++aF w.props).length es) es:=qo fun i e hx=>jU _ _ (by simp[nx,hx])
 obtain⟨⟨x,y⟩,⟨hx,hy⟩,hM⟩:=sP w.com w.lead w.bad _ _ _ _ _ _ 1 hW (by simpa using hs.vlen) (by omega)
 obtain⟨m1,m2,m3,-,-⟩:=hW.mark (1+w.com.length+w.lead.length)
 dsimp only at hx hy hM m3
 rw[←hx,←hy] at m3
 have hy2:y.1=1+cW w:=by rw[m3];omega
 rw[hy2] at hM
 have hlb:y.2.1.map List.length=(aW w.views++aF w.props++nx es).map List.length:=by rw[hy,eX,hx,fZ]
 have hME:=qM _ y.2.1 _ es (1+cW w) hlb hE (by omega)
 have hk:=qN (1+cW w) y.2.1 hlb hE
 refine⟨_,_,_,_,_,_,?_,?_,?_,hM,hME,by rw[hk];omega⟩
 ·rw[hx]
  simp[ao,qP]
 ·exact dw _ hlb
 ·exact dw _ (nU _ _ _)
set_option maxHeartbeats 16000000 in
theorem uV (w:Wrl)(es:List Evt):ai Tryz.prog 5 [aP w,.lst .evt es] [] (.bool true) []:=by
 have hsz:=x9 w 1048576 (by omega)
 unfold jr at hsz
 refine aa ak Tryz.func5 rfl rfl false 0 4 rfl rfl rfl rfl fun K hK hb1 hb2=>?_;simp only[ae,enc,Nat.reduceAdd]
 clear hb1 hb2
 by_cases hl:(1048576:Int)-(Bo w:Nat)<0
 ·rw[if_pos hl] at hsz
  (repeat' first|refine st ?_|refine sa fun xe hxe=>?_|refine sb (fun hq=>?_) fun hq=>?_|refine cr (hsz) ?_|exact True.intro)
  exact⟨rfl,rfl⟩
 rw[if_neg hl] at hsz
 have hsz2:=vz es (1048576-(Bo w:Nat)) (by omega)
 unfold jr at hsz2
 by_cases hl2:(1048576:Int)-(Bo w:Nat)-(es.length+fG es:Nat)<0
 ·rw[if_pos hl2] at hsz2
  (repeat' first|refine st ?_|refine sa fun xe hxe=>?_|refine sb (fun hq=>?_) fun hq=>?_|refine cr (hsz) ?_|refine cr (hsz2) ?_|exact True.intro)
  exact⟨rfl,rfl⟩
 rw[if_neg hl2] at hsz2
 have hs:Small w:=AX (by omega)
 have hvw:∀g∈w.views,g.length≤2000000:=fun g hg=>by have:=(hs.view g hg).1;omega
 have hel:es.length≤1048576:=by omega
 have hep:∀e∈es,e.v.parents.length≤1048576:=fun e he=>by have:=Cp he;omega
 obtain⟨a0,b0,b1,c0,d0,k0,hF0,hF1,hF4,hM0,hME,hk0⟩:=xI w es (by omega) (by omega) hs
 have hO:=yg w hs
 have hT:=yf w hs
 have hEw:=lc w
 have hW:=(xj w.views w.props).app (nx es)
 have hd1:=hW.readG
 have hd2:=hW.readP
 have hd3:(DM (aW w.views++aF w.props++nx es) (pg (aW w.views++aF w.props).length es))[0]?=some es:=by
  rw[DM,EsR.read (qo (es:=es) (n:=(aW w.views++aF w.props).length) fun i e hx=>jU _ _ (by simp[nx,hx]))]
  rfl
 have hTe:=vE es hel hep
 have hTo:=vF es (aW w.views++aF w.props) hel hep
 have hEe:=uy es
 have hF5:=j5 3 (aW w.views++aF w.props) (nx es)
 generalize pg (aW w.views++aF w.props).length es=eso at *
 generalize fI 0 w.views=vss at *
 generalize fJ (aW w.views).length w.props=pso at *
 generalize aW w.views++aF w.props=pss at *
 generalize pss++nx es=pse at *
 generalize (List.range w.views.length).map some=hh at *
 clear hW
 cases hv:(decide (es.length≤80) && fH w)
 ·have hI:ai Tryz.prog 22 [aP w,.lst .evt es] [] (.tup [vJ,.bool false]) []:=by
   by_cases h80:80<(es.length:Int)
   ·exact B1 w es h80
   ·have:=zY w es hvw (by omega)
    rwa [hv,if_neg (by simp)] at this
  have hS:ai Tryz.prog 20 [aP w,.lst .evt es] [] (.tup [vJ,.bool false]) []:=by
   by_cases h80:80<(es.length:Int)
   ·exact CR w es (by have:=hs.com;omega) h80
   ·have:=A4 w es (by have:=hs.com;omega) (by omega) (fun e he=>by have:=hep e he;omega)
    rwa [hv,if_neg (by simp)] at this
  (repeat' first|refine st ?_|refine sa fun xe hxe=>?_|refine sb (fun hq=>?_) fun hq=>?_|refine cr (hsz) ?_|refine cr (hsz2) ?_|exact True.intro)
  refine cr hT ?_
  (conv=>whnf)
  refine cr hTe ?_
  (repeat' first|refine st ?_|refine sa fun xe hxe=>?_|refine sb (fun hq=>?_) fun hq=>?_|refine cr (hS) ?_|refine cr (hO) ?_|exact True.intro)
  (repeat' first|refine st ?_|refine sa fun xe hxe=>?_|refine sb (fun hq=>?_) fun hq=>?_|((with_reducible refine ij [1] ?_);(conv=>whnf);(with_reducible refine aB (hTo) ?_);conv=>whnf)|exact True.intro)
  (repeat' first|refine st ?_|refine sa fun xe hxe=>?_|refine sb (fun hq=>?_) fun hq=>?_|((with_reducible refine qd ?_);(conv=>whnf))|((first|with_reducible refine aB (hI) ?_);conv=>whnf)|exact True.intro)
  (repeat' first|refine st ?_|refine sa fun xe hxe=>?_|refine sb (fun hq=>?_) fun hq=>?_|refine cr (hT) ?_|refine cr (hTe) ?_|refine cr (hI) ?_|refine cr (pf) ?_|refine cr (hEe) ?_|refine cr (sO _) ?_|((with_reducible refine cA ?_);(conv=>whnf);(first|with_reducible refine aB (sw _ (by omega)) ?_);conv=>whnf)|refine co (hM0) ?_|refine co (hME) ?_|((with_reducible refine qd ?_);(conv=>whnf))|((first|with_reducible refine aB (hEw) ?_|with_reducible refine aB (pf) ?_|with_reducible refine aB (hEe) ?_);conv=>whnf)|exact True.intro)
  all_goals first|(exact⟨rfl,rfl⟩)|exact absurd rfl hq|exact absurd trivial hq|cases hq
 ·have h80:es.length≤80:=of_decide_eq_true (Bool.and_eq_true_iff.1 hv).1
  have hw:=(Bool.and_eq_true_iff.1 hv).2
  have hI:=zY w es hvw (by omega)
  have hS:=A4 w es (by have:=hs.com;omega) (by omega) (fun e he=>by have:=hep e he;omega)
  rw[hv] at hI hS
  simp only[if_true] at hI hS
  have hO2:=Eg w es hvw h80 hw
  have hok:=kC (je.1 hw) es
  have hcw:=Fa hok
  obtain⟨a,b,c,d,f,hG0,hG1,hr1,hr2,hM,hH⟩:=xS (be w es) (by omega) (by omega)
  have hE:=lc (be w es)
  have hWu:=Bl (be w es).views (be w es).props
  have hu1:=hWu.readG
  have hu2:=hWu.readP
  clear hWu hok
  generalize be w es=u at *
  obtain⟨uc,ul,ub,uv,up⟩:=u
  dsimp only[ED,aP] at *
  generalize cW ⟨uc,ul,ub,uv,up⟩=cu at *
  generalize fI (aF up).length uv=vss2 at *
  generalize aF up++aW uv=pss2 at *
  generalize fJ 0 up=pso2 at *
  generalize (List.range uv.length).map some=hh2 at *
  (repeat' first|refine st ?_|refine sa fun xe hxe=>?_|refine sb (fun hq=>?_) fun hq=>?_|refine cr (hsz) ?_|refine cr (hsz2) ?_|exact True.intro)
  refine cr hT ?_
  (conv=>whnf)
  refine cr hTe ?_
  (repeat' first|refine st ?_|refine sa fun xe hxe=>?_|refine sb (fun hq=>?_) fun hq=>?_|refine cr (hS) ?_|refine cr (hO) ?_|exact True.intro)
  (repeat' first|refine st ?_|refine sa fun xe hxe=>?_|refine sb (fun hq=>?_) fun hq=>?_|((with_reducible refine ij [1] ?_);(conv=>whnf);(with_reducible refine aB (hTo) ?_);conv=>whnf)|exact True.intro)
  (repeat' first|refine st ?_|refine sa fun xe hxe=>?_|refine sb (fun hq=>?_) fun hq=>?_|((with_reducible refine qd ?_);(conv=>whnf))|((first|with_reducible refine aB (hO2) ?_);conv=>whnf)|exact True.intro)
  (repeat' first|refine st ?_|refine sa fun xe hxe=>?_|refine sb (fun hq=>?_) fun hq=>?_|refine cr (hT) ?_|refine cr (hTe) ?_|refine cr (hI) ?_|refine cr (hE) ?_|refine cr (hEe) ?_|refine co (hM0) ?_|refine co (hME) ?_|refine co (hM) ?_|((with_reducible refine qd ?_);(conv=>whnf))|((first|with_reducible refine aB (hE) ?_|with_reducible refine aB (hEw) ?_|with_reducible refine aB (hEe) ?_|with_reducible refine aB (hH) ?_);conv=>whnf)|exact True.intro)
  all_goals first|(exact⟨rfl,rfl⟩)|exact absurd rfl hq|exact absurd trivial hq|cases hq
end Go.Proofs.YthmfppknagbkeaaGreat.Am
namespace Go.Proofs.YthmfppknagbkeaaGreat.Am
open Go Go.RowKit Go.ChangeShapes Go.WideShapes Go.ChangeAt
section
variable {H:Type} {enc:TypeId×Value→H} {P:Program}
theorem vh {f:Func}{s:ChangeSpec}{apart fresh handsOn again:Bool}{W W':World}{args:Array Value}{v:Value}{ds gs:List (DataW H)}{before pa pv:List MemPlace}
  (hW:DataW.Whole enc P f.params.toList s.vars apart W args.toList ds gs before)
  (hres:∀(b:Nat) (sp:Nat→Bool) (hd:Bool),DataW.TrodAll enc P W' b sp hd f.resultTypes.toList (v.resultList f.resultTypes.size) (s.fn H (ds++gs)).results [])
  (hargs:∀sp:Nat→Bool,(∀p∈before,sp p.block=true)→DataW.TrodAll enc P W' 0 sp true f.params.toList args.toList (s.fn H (ds++gs)).args pa)
  (hvars:∀sp:Nat→Bool,(∀p∈before,sp p.block=true)→DataW.TrodVars enc P W' sp s.vars (s.fn H (ds++gs)).vars pv)
  (hps:before=pa++pv) (hb:Below W.heap.size W W')
  (hok:∀(j:Nat) (t:TypeId) (r:Value),f.resultTypes[j]?=some t→(v.resultList f.resultTypes.size)[j]?=some r→Value.okWide P W' .any 0 t r):
  s.post enc P f apart fresh handsOn again W args v W':=by
 have hlt:∀p∈before,p.block<W.heap.size:=fun p hp=>hW.lt p hp
 have hold:∀p∈before,(fun b=>decide (b<W.heap.size)) p.block=true:=fun p hp=>by simpa using hlt p hp
 refine⟨ds,gs,before,[],pa,pv,hW,hres _ _ _,hargs _ hold,hvars _ hold,World.keptBut_mono (fun p hp=>⟨hp,?_⟩) (hb.frame (· ∈before)),fun _=>?_⟩
 ·rw[hps,List.mem_append] at hp
  exact Or.inr hp
 ·obtain⟨_,_,_,_,_,hz,hn⟩:=hW
  refine⟨hok,_,_,([]++pa)++pv,⟨[]++pa,pv,trodAll_append (hargs _ (fun _ _=>rfl)) (hres _ _ _),hvars _ (fun _ _=>rfl),rfl,?_,?_⟩,?_⟩
  ·intro b off hp
   have hin:MemPlace.cell b off∈before:=by rw[hps];simpa using hp
   rw[hb.frozen (hlt _ hin)]
   exact hz b off hin
  ·intro ha
   have:=hn ha
   rw[hps] at this
   simpa using this
  ·intro p hp _
   rw[hps]
   simpa using hp
end
theorem xM {P:Program}{f:FuncId}{vs:List V}(h:ai P f vs [] (.bool true) []){w:World}{args:Array Value}(hl:(af vs).length=args.size)
  (hr:∀i,i<(af vs).length→Rep (fun k=>k<w.heap.size) w ((af vs).getD i .undef) (args.getD i undef))
  (hg:∀g x,look Gl g=some x→g<w.heap.size∧∃ad,w.cell? ⟨g,0,none⟩=some (.iface x.1 (.pointer (some ad))):=by intro g x h;cases h):
  Calls P f args w fun e w'=>e= .returned (.bool true)∧Below w.heap.size w w':=by
 have hno:∀k,¬rD (fun _=>⟨0,0,0,0⟩) (toH []) k:=by
  rintro k ⟨b,x,hb,-⟩
  cases hb
 have hs:Sim P w (rD (fun _=>⟨0,0,0,0⟩) (toH [])) (fun _=>True) 0 (fun _=>⟨0,0,0,0⟩) [] (toH []) eS w:=by
  refine⟨fun _ _=>trivial,fun _ _=>trivial,Fr.refl _ _,rfl,rfl,?_,?_,?_,?_,?_⟩
  ·intro k d hk;cases hk
  ·intro b x hx;cases hx
  ·intro b x hx;cases hx
  ·intro b b' x x' hx;cases hx
  ·intro g x hx
   exact⟨⟨trivial,hno g,(hg g x hx).1⟩,(hg g x hx).2⟩
 refine(h.2 w (fun _=>True) (fun _=>⟨0,0,0,0⟩) args hs hl fun i hi=>.pure ((hr i hi).mono fun b hb=>⟨⟨⟨hb,trivial⟩,fun b x hx=>by cases hx⟩,rfl⟩)).mono fun e w' he=>?_
 obtain⟨u,ρ',rfl,-,hs',hc⟩:=he
 refine⟨by rw[hc.bool_inv],⟨hs'.fr.os,hs'.fr.tape,hs'.fr.output,hs'.fr.size,fun k hk=>hs'.fr.block k hk (hno k)⟩⟩
theorem vU {w:World}{a:Addr}{v:Value}(h:w.cell? a=some v):a.block<w.heap.size:=by
 rcases Nat.lt_or_ge a.block w.heap.size with hl|hl
 ·exact hl
 ·have:w.heap[a.block]?=none:=by simp[hl]
  simp[World.cell?,this] at h
theorem CC {w:World}{l:List D}{a:Addr}{n cap:Nat}{g:Nat→Value}(hn:l.length=n)(hcap:n≤cap)(hmax:cap≤maxLen)(hl:∀e∈l,e.cells=[e]∧e.pure0=true)
  (hc:∀i,i<n→w.cell? (a.add i)=some (g i)) (hr:∀i,i<n→Rep (fun k=>k<w.heap.size) w (l.getD i .undef) (g i)):Rep (fun k=>k<w.heap.size) w (.lst l) (.slice (some a) n cap):=by
 cases l with
 |nil=>
  simp only[List.length_nil] at hn
  subst hn
  exact .none _ _ (fun h=>by cases h) hmax
 |cons x l=>
  have hp:0<n:=by rw[←hn];simp
  have hsz:szl (x::l)=1:=by show x.cells.length=1;rw[(hl x (List.mem_cons_self ..)).1];rfl
  obtain⟨b,off,spot⟩:=a
  have hspot:spot=none:=by simpa[Addr.add] using World.cell?_spot (hc 0 hp)
  subst hspot
  have h0:=vU (hc 0 hp)
  refine .lst _ n b off cap (fun i _=>g i) hn hcap hmax h0 ?_ (by rw[hsz];omega) ?_ ?_
  ·intro e he
   rw[hsz]
   exact⟨by rw[(hl e he).1];rfl,by rw[(hl e he).1];simp[(hl e he).2]⟩
  ·intro i j hi hj
   rw[hsz] at hj⊢
   obtain rfl:j=0:=by omega
   have:=hc i hi
   rw[Go.WideShapes.add_plain] at this
   rw[Nat.mul_one,Nat.add_zero]
   exact this
  ·intro i j hi hj
   rw[hsz] at hj
   obtain rfl:j=0:=by omega
   have hi':i<(x::l).length:=by omega
   have e:(x::l).getD i .undef=(x::l)[i]:=by simp[List.getD_eq_getElem?_getD,List.getElem?_eq_getElem hi']
   have h1:=(hl _ (List.getElem_mem hi')).1
   have h2:=hr i hi
   rw[e] at h2⊢
   rw[h1]
   exact h2
theorem gB {H:Type}{enc:TypeId×Value→H}{P:Program}{W:World}{sp:Nat→Bool}{hd:Bool}{t e:TypeId}{k:IntKind}{cs:List Value}{fuel:Nat}{x:DataW H×List MemPlace}(ht:P.underlying t=some (.slice e))(he:P.underlying e=some (.int k))(hc:P.cellsOf e=1)
  (h:DataW.trod enc P W 0 sp hd fuel t cs=some x):∃(c:List Int) (v:Value),cs=[v]∧Rep (fun b=>b<W.heap.size) W (.lst (c.map (.int k))) v:=by
 rcases open_ints ht he hc h with⟨h1,-⟩|⟨a,len,cap,zs,h1,h2,h3,h4,h5,-,h6,h7⟩
 ·exact⟨[],_,h1,.none _ _ (fun _=>rfl) (Nat.zero_le _)⟩
 ·have hle:len≤zs.length:=by rw[h5];split<;>omega
  have hlen:(zs.take len).length=len:=by rw[List.length_take];omega
  refine⟨zs.take len,_,h1,?_⟩
  refine CC (g:=fun i=>.int k (zs.getD i 0)) (by rw[List.length_map,hlen]) h3 h4 ?_ (fun i hi=>h6 i (by omega)) ?_
  ·intro e he
   obtain⟨z,_,rfl⟩:=List.mem_map.1 he
   exact⟨rfl,rfl⟩
  ·intro i hi
   have e1:((zs.take len).map (D.int k)).getD i .undef= .int k (zs.getD i 0):=by
    have hi2:i<zs.length:=by omega
    simp[List.getD_eq_getElem?_getD,List.getElem?_map,List.getElem?_take,hi,List.getElem?_eq_getElem hi2]
   rw[e1]
   exact .int _ _
theorem dT {H:Type}{enc:TypeId×Value→H}{P:Program}{W:World}{sp:Nat→Bool}{hd:Bool}{t:TypeId}{k:IntKind}{v:Value}{fuel:Nat}{x:DataW H×List MemPlace}(ht:P.underlying t=some (.int k))(h:DataW.trod enc P W 0 sp hd fuel t [v]=some x):∃n,v= .int k n:=by
 obtain⟨n,h1,-,-⟩:=DataW.trod_int ht h
 simp only[List.cons.injEq,and_true] at h1
 exact⟨n,h1⟩
theorem CP {H:Type}{enc:TypeId×Value→H}{P:Program}{W:World}{sp:Nat→Bool}{hd:Bool}{t:TypeId}{fs:Array Field}{v:Value}{d:DataW H}{p:List MemPlace}{base:Nat}(ht:P.underlying t=some (.struct fs))(hs:P.cellsOf t=fs.size)(hf:(fs.toList.zipIdx.all fun q=>q.1.offset==q.2 && P.cellsOf q.1.type==1)=true)
  (hv:Value.okWide P W .any base t v) (h:DataW.Trod enc P W 0 sp hd t v d p):∃vs:Array Value,v= .agg vs∧vs.size=fs.size∧∀(i:Nat) (f:Field),fs[i]?=some f→∃fuel y,DataW.trod enc P W 0 sp hd fuel f.type [vs.getD i undef]=some y:=by
 obtain⟨vs,rfl,hsz⟩:=okWide_struct ht hv
 obtain⟨fuel,h⟩:=h
 obtain⟨xs,n,-,-,-,hl,hx⟩:=DataW.trod_struct ht h
 refine⟨vs,rfl,by omega,fun i f hi=>?_⟩
 have hi':=(Array.getElem?_eq_some_iff.1 hi).1
 have h1:=hx i f hi
 rw[List.all_eq_true] at hf
 have h2:=hf (f,i) (List.mem_zipIdx_iff_getElem?.2 (by simpa using hi))
 simp only[Bool.and_eq_true,beq_iff_eq] at h2
 have hvi:i<vs.size:=by omega
 refine⟨n,xs[i],?_⟩
 have e:((Value.agg vs).cells.toList.drop f.offset).take (P.cellsOf f.type)=[vs.getD i undef]:=by
  rw[h2.1,h2.2]
  show (vs.toList.drop i).take 1=_
  rw[List.drop_eq_getElem_cons (by simpa using hvi)]
  simp[Array.getD_eq_getD_getElem?,hvi]
 rw[←e,h1,List.getElem?_eq_getElem (by omega)]
theorem CA {ok:Nat→Prop}{W:World}{ds:List D}{vs:Array Value}(hl:ds.length=vs.size)(h:∀i,i<ds.length→Rep ok W (ds.getD i .undef) (vs.getD i undef)):Rep ok W (.agg ds) (.agg vs):=.agg ds vs hl h
def rE (W:World)(T:Ty)(x:T.den)(cs:List Value):Prop:=cs.length=T.sz∧∀j,j<T.sz→Rep (fun k=>k<W.heap.size) W ((ab T x).cells.getD j .undef) (cs.getD j undef)
theorem wE {α:Type}{p:Nat→α→Prop}:∀n,(∀i,i<n→∃d,p i d)→∃l:List α,l.length=n∧∀i (h:i<l.length),p i l[i]
 |0,_=>⟨[],rfl,fun i h=>absurd h (Nat.not_lt_zero i)⟩
 |n+1,h=>by
  obtain⟨l,hl,hp⟩:=wE n fun i hi=>h i (by omega)
  obtain⟨d,hd⟩:=h n (by omega)
  refine⟨l++[d],by simp[hl],fun i hi=>?_⟩
  rcases Nat.lt_or_ge i l.length with hlt|hge
  ·rw[List.getElem_append_left hlt]
   exact hp i hlt
  ·obtain rfl:i=l.length:=by simp at hi;omega
   rw[List.getElem_append_right (Nat.le_refl _)]
   simpa[hl] using hd
theorem row_cells {H:Type}{enc:TypeId×Value→H}{P:Program}{W:World}{sp:Nat→Bool}{hd:Bool}{t e:TypeId}{T:Ty}{cs:List Value}{fuel:Nat}{x:DataW H×List MemPlace}(hp:T.pure=true)(ht:P.underlying t=some (.slice e))(hc:P.cellsOf e=T.sz)
  (hel:∀fuel cs x,DataW.trod enc P W 0 sp hd fuel e cs=some x→∃d,rE W T d cs) (h:DataW.trod enc P W 0 sp hd fuel t cs=some x):∃(l:List T.den) (v:Value),cs=[v]∧Rep (fun b=>b<W.heap.size) W (V.lst T l).toD v:=by
 rcases DataW.trod_slice ht h with⟨h1,-⟩|⟨a,len,cap,elems,rest,n,-,h1,-,-,hl,hm,hlen,hel2,-,-⟩
 ·exact⟨[],_,h1,.none _ _ (fun _=>rfl) (Nat.zero_le _)⟩
 ·have each:∀i,i<len→∃d:T.den,∃cs',W.cells? 0 (a.add (i*T.sz)) T.sz=some cs'∧rE W T d cs':=by
   intro i hi
   have h2:=hel2 i hi
   rw[List.getElem?_eq_getElem (by omega),hc,Option.bind_eq_some_iff] at h2
   obtain⟨cs',h3,h4⟩:=h2
   obtain⟨d,hd⟩:=hel _ _ _ h4
   exact⟨d,cs',h3,hd⟩
  obtain⟨l,hll,hlp⟩:=wE len each
  refine⟨l,_,h1,?_⟩
  show Rep _ W (.lst (l.map (ab T))) _
  by_cases hz:l=[]
  ·subst hz
   subst hll
   exact .none _ _ (fun h=>by cases h) hm
  ·have hpos:0<l.length:=List.length_pos_iff.2 hz
   have hsz:szl (l.map (ab T))=T.sz:=by
    cases l with
    |nil=>exact absurd rfl hz
    |cons y l=>exact(dt T y).1
   have cell:∀i j,i<l.length→j<T.sz→∃v,W.cell? ((a.add (i*T.sz)).add j)=some v∧Rep (fun k=>k<W.heap.size) W ((ab T (l[i]?.getD (l[0]'hpos))).cells.getD j .undef) v:=by
    intro i j hi hj
    obtain⟨cs',h3,h4,h5⟩:=hlp i hi
    have h6:=(World.cells?_some h3).2.2 j hj
    have hj':j<cs'.length:=by omega
    refine⟨cs'[j],by rw[h6,List.getElem?_eq_getElem hj'],?_⟩
    have:=h5 j hj
    rw[List.getElem?_eq_getElem hi]
    simp only[List.getD_eq_getElem?_getD (l:=cs'),List.getElem?_eq_getElem hj',Option.getD_some] at this
    exact this
   obtain⟨b,off,spot⟩:=a
   obtain⟨v0,hv0,-⟩:=cell 0 0 hpos T.sz_pos
   have hspot:spot=none:=by simpa[Addr.add] using World.cell?_spot hv0
   subst hspot
   have hb:=vU hv0
   refine .lst _ len b off cap (fun i j=>(W.cell? ⟨b,off+i*T.sz+j,none⟩).getD undef) (by simpa using hll) hl hm (by simpa[Addr.add] using hb) ?_ (by rw[hsz];exact T.sz_pos) ?_ ?_
   ·intro e he
    obtain⟨y,-,rfl⟩:=List.mem_map.1 he
    rw[hsz]
    exact fP hp y
   ·intro i j hi hj
    rw[hsz] at hj⊢
    obtain⟨v,hv,-⟩:=cell i j (by omega) hj
    rw[Go.WideShapes.add_plain,Go.WideShapes.add_plain] at hv
    rw[hv]
    rfl
   ·intro i j hi hj
    rw[hsz] at hj
    obtain⟨v,hv,hr⟩:=cell i j (by omega) hj
    rw[Go.WideShapes.add_plain,Go.WideShapes.add_plain] at hv
    rw[hv]
    have e:(l.map (ab T)).getD i .undef=ab T (l[i]?.getD (l[0]'hpos)):=by
     have:i<l.length:=by omega
     simp[List.getD_eq_getElem?_getD,List.getElem?_eq_getElem this]
    rw[e]
    exact hr
theorem rb {H:Type}{enc:TypeId×Value→H}{P:Program}{W:World}{sp:Nat→Bool}{hd:Bool}{t:TypeId}{fs:Array Field}{cs:List Value}{fuel:Nat}{x:DataW H×List MemPlace}(ht:P.underlying t=some (.struct fs))(hs:P.cellsOf t=fs.size)(hf:(fs.toList.zipIdx.all fun q=>q.1.offset==q.2 && P.cellsOf q.1.type==1)=true)
  (h:DataW.trod enc P W 0 sp hd fuel t cs=some x):cs.length=fs.size∧∀(i:Nat) (f:Field),fs[i]?=some f→∃fuel y,DataW.trod enc P W 0 sp hd fuel f.type [cs.getD i undef]=some y:=by
 obtain⟨xs,n,-,-,hlc,hl,hx⟩:=DataW.trod_struct ht h
 refine⟨by omega,fun i f hi=>?_⟩
 have hi':=(Array.getElem?_eq_some_iff.1 hi).1
 have h1:=hx i f hi
 rw[List.all_eq_true] at hf
 have h2:=hf (f,i) (List.mem_zipIdx_iff_getElem?.2 (by simpa using hi))
 simp only[Bool.and_eq_true,beq_iff_eq] at h2
 have hci:i<cs.length:=by omega
 refine⟨n,xs[i],?_⟩
 have e:(cs.drop f.offset).take (P.cellsOf f.type)=[cs.getD i undef]:=by
  have e2:(cs.drop i).take 1=[cs[i]]:=by rw[List.drop_eq_getElem_cons hci];rfl
  rw[h2.1,h2.2,e2]
  simp[List.getD_eq_getElem?_getD,hci]
 rw[←e,h1,List.getElem?_eq_getElem (by omega)]

end Go.Proofs.YthmfppknagbkeaaGreat.Am
