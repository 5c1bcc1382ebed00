/- Runs: what an event does to a run. Runs: impl's WorldDo and WorldPlay. Runs: quiet rounds, copies, whole events: what the specification gives. What is drawn for new runs; the law FnWorldNew. What is drawn for runs. What is drawn for runs: whole runs, runs that are often invalid. Certified proposals: the law FnWorldCertified. Runs: the reference's WorldDo and WorldPlay; what is drawn for them. Runs: quorums meet; what is held of valid runs. Runs: what quiet periods lead to (plain laws): nothing is left to deliver, so all correct members have all that is certified. Runs: what single events leave -/
import Derived.LaidEql
import Derived.Stop.Asserts
import Derived.RowKitTokens
import Derived.Test.YtpefhoohfkeflaaGreatDoorEA9
set_option linter.unusedSimpArgs false
set_option linter.unusedVariables false
set_option maxHeartbeats 1000000
namespace Go.Proofs.YtpefhoohfkeflaaGreatDoor.Am
open Go
attribute [local irreducible] Mk ck Ari fK mQ jM cd cX i7 fC At ag
set_option maxRecDepth 10000
set_option maxHeartbeats 1000000 in
theorem Ih (c l:List Int)(b:Int)(tabs:List (List (Option Vtx)))(xss xss':List (Option (List Int)))(ms ms':List PplM)(e:Evt)(hx:xss.length≤xss'.length)(hk:e.kind=1∨e.kind=4)
  (h1:e.kind=1→ag Tryz.prog 173 [.ptr 4 0,.int .i64 e.a,.int .i64 e.b] (rX 1 c l b tabs xss ms) (.bool true) (NQ 1 c l b tabs xss' ms'))
  (h4:e.kind=4→ag Tryz.prog 176 [.ptr 4 0,de e.v] (rX 1 c l b tabs xss ms) (.bool true) (NQ 1 c l b tabs xss' ms')):ag Tryz.prog 150 [.ptr 4 0,t7 e] (rX 0 c l b tabs xss ms) (.bool true) (NQ 0 c l b tabs xss' ms'):=by
 refine A6 FL bV Tryz.func150 rfl rfl false 3 7 rfl rfl rfl rfl (by exact Live.of_look (av (i:=0) (x:=.var 117 [.int .i32 0,.int .u32 0,.lst (.int .i64) c,.lst (.int .i64) l,.int .i64 b,.ref 5,.ref 6]) rfl rfl)) fun K hK hK4 hb1 hb2=>?_;simp only[ae,enc,Nat.reduceAdd]
 clear hb1 hb2
 have hL:=BD c l b tabs xss ms
 have hF1:bA (VB.frowx 3 (.int .i64) xss)≤bA (VB.frowx 3 (.int .i64) xss'):=hx
 refine q9 ?_
 (repeat' first|refine ch ?_|refine sa fun xe hxe=>?_|refine sb (fun hq=>?_) fun hq=>?_|exact aa)
 refine⟨rfl,q9 ?_⟩
 (repeat' first|refine ch ?_|refine sa fun xe hxe=>?_|refine sb (fun hq=>?_) fun hq=>?_|refine cr (hL) ?_|exact aa)
 refine⟨rfl,w5 ?_⟩
 refine AW bV (l:=[_,_,_]) (od:=_) rfl ⟨rfl,rfl,rfl⟩ (by decide) ?_
 (conv=>whnf)
 (repeat' first|refine ch ?_|refine sa fun xe hxe=>?_|refine sb (fun hq=>?_) fun hq=>?_|exact aa)
 refine⟨rfl,hK4,rfl,?_⟩
 by_cases c1:e.kind=1
 ·have h:=h1 c1
  (repeat' first|refine ch ?_|refine sa fun xe hxe=>?_|refine sb (fun hq=>?_) fun hq=>?_|refine cr (h) ?_|exact aa)
  exact⟨rfl,rfl⟩
 ·have c4:e.kind=4:=hk.resolve_left c1
  have h:=h4 c4
  (repeat' first|refine ch ?_|refine sa fun xe hxe=>?_|refine sb (fun hq=>?_) fun hq=>?_|refine cr (h) ?_|exact aa)
  exact⟨rfl,rfl⟩
theorem BA (w:Wrl)(xss:List (Option (List Int)))(ms:List PplM)(hw:WOK w)(hR:Rel w.props xss ms)(e:Evt)(h:wV w e=true):∃x:List (Option (List Int))×List PplM,(Rel (jL w e).props x.1 x.2∧xss.length≤x.1.length)∧ag Tryz.prog 150 [.ptr 4 0,t7 e] (rW 0 w xss ms) (.bool true) (Oe 0 (jL w e) x.1 x.2):=by
 have key:∃v,jL w e=tV w v∧(e.kind=1→jP w e.a e.b=true∧v=iA w e.a e.b)∧(e.kind=4→jO w e.v=true∧v=e.v)∧(e.kind=1∨e.kind=4):=by
  unfold wV at h
  by_cases c1:e.kind=1
  ·have hp:jP w e.a e.b=true:=by simpa[c1] using h
   exact⟨iA w e.a e.b,by unfold jL eS;rw[if_pos c1,if_pos hp],fun _=>⟨hp,rfl⟩,fun c=>by omega,.inl c1⟩
  ·have hp:e.kind=4∧jO w e.v=true:=by simpa[c1] using h
   exact⟨e.v,by unfold jL iR;rw[if_neg c1,if_neg (by omega),if_neg (by omega),if_pos hp.1,if_pos hp.2],fun c=>absurd c c1,fun _=>⟨hp.2,rfl⟩,.inr hp.1⟩
 obtain⟨v,k1,k2,k3,k4⟩:=key
 rw[k1]
 refine⟨(xss++[some []],ms++[(⟨v,some xss.length⟩:PplM)]),⟨hR.add v,by simp⟩,?_⟩
 refine Ih w.com w.lead w.bad (w.views.map aT) xss _ ms _ e (by simp) k4 (fun c=>?_) fun c=>?_
 ·obtain⟨a1,rfl⟩:=k2 c
  have hC:=Fs 1 w xss ms hw hR e.a e.b
  rw[a1] at hC
  exact hC
 ·obtain⟨a1,rfl⟩:=k3 c
  have hC:=Fj 1 w xss ms hw hR e.v
  rw[a1] at hC
  exact hC
theorem DD {w:Wrl}(hw:WOK w){m:Int}(hm:0≤m∧m<w.com.length){v:Vtx}(hv:jq v)(hn:d7 (view w m) v.round v.author=false):(w.views.set m.toNat (gS (view w m) v)).map aT=AI w m v:=by
 have hG:=(le hw hm).2
 rw[List.map_set,GY (fun u hu=>dw hw.com (hG.vtx u hu)) hv hn]
theorem vU (w:Wrl)(xss:List (Option (List Int)))(ms:List PplM)(hw:WOK w)(hR:Rel w.props xss ms)(e:Evt)(h:wV w e=false):∃x:List (Option (List Int))×List PplM,(Rel (jL w e).props x.1 x.2∧xss.length≤x.1.length)∧ag Tryz.prog 150 [.ptr 4 0,t7 e] (rW 0 w xss ms) (.bool (tY w e)) (rW 0 (jL w e) x.1 x.2):=by
 have no:∀{k:Int},e.kind=k→∀{j:Int},k≠j→¬e.kind=j:=fun h1 _ h2 h3=>h2 (h1.symm.trans h3)
 by_cases c1:e.kind=1
 ·have hp:jP w e.a e.b=false:=by simpa[wV,c1] using h
  have hd:jL w e=w:=by unfold jL eS;rw[if_pos c1,hp];rfl
  have hg:tY w e=false:=by unfold tY;rw[if_neg (by omega),if_neg (by omega),if_neg (by omega)]
  have hC:=Fs 1 w xss ms hw hR e.a e.b
  rw[hp] at hC
  rw[hd,hg]
  exact⟨(xss,ms),⟨hR,ax _⟩,fy w.com w.lead w.bad _ _ xss xss ms ms e false (ax _) (ax _) (fun _=>hC) (fun c=>by omega) (fun c=>by omega) (fun c=>by omega) (fun c=>by omega) (fun c=>by omega)⟩
 by_cases c2:e.kind=2
 ·have hd:jL w e=e9 w e.a e.b:=by unfold jL;rw[if_neg c1,if_pos c2]
  have hg:tY w e=(jQ w e.a e.b && !(aV w e.b).members.contains e.a):=by unfold tY;rw[if_pos c2]
  rw[hd,hg]
  cases hi:qV w e.b
  ·have hv:jQ w e.a e.b=false:=by unfold jQ;rw[hi];simp
   have hs:e9 w e.a e.b=w:=by unfold e9;rw[hv];rfl
   rw[hs,hv]
   exact⟨(xss,ms),⟨hR,ax _⟩,fy w.com w.lead w.bad _ _ xss xss ms ms e false (ax _) (ax _) (fun c=>absurd c c1) (fun _=>IB 1 w xss ms hw hR e.a e.b hi) (fun c=>by omega) (fun c=>by omega) (fun c=>by omega) (fun c=>by omega)⟩
  ·obtain⟨n,hn,hn1,hn2⟩:=pY hi
   obtain⟨j,hj1,hj2⟩:=hR.get n _ hn2
   have hC:=Lz 1 w xss ms hw hR e.a n j (by rw[←hn];exact hi) (by rw[←hn];exact hj1) (by rw[←hn];exact hj2)
   rw[←hn] at hC
   have ha:=fq (kk hw (bn hn2)).2
   cases hf:(jQ w e.a e.b && !(aV w e.b).members.contains e.a)
   ·have hs:e9 w e.a e.b=w:=by
     unfold e9
     split
     ·rename_i hv
      rw[hv,dX] at hf
      exact xh hi ha (by simpa using hf)
     ·rfl
    rw[hf] at hC
    rw[hs]
    exact⟨(xss,ms),⟨hR,ax _⟩,fy w.com w.lead w.bad _ _ xss xss ms ms e false (ax _) (ax _) (fun c=>absurd c c1) (fun _=>hC) (fun c=>by omega) (fun c=>by omega) (fun c=>by omega) (fun c=>by omega)⟩
   ·have hv:jQ w e.a e.b=true:=(aB .. ▸hf:_∧_).1
    have hs:e9 w e.a e.b=mA w e.b e.a:=by unfold e9;rw[hv];rfl
    rw[hf] at hC
    rw[hs]
    have hR2:=hR.cast hj1 (fk (aV w e.b).members e.a)
    refine⟨(_,_),?_,fy w.com w.lead w.bad _ _ xss _ ms _ e true (ax _) (by simp) (fun c=>absurd c c1) (fun _=>hC) (fun c=>by omega) (fun c=>by omega) (fun c=>by omega) (fun c=>by omega)⟩
    refine⟨?_,by simp⟩
    have:e.b.toNat=n:=by omega
    show Rel (w.props.set e.b.toNat _) _ _
    rw[this]
    exact hR2
 by_cases c3:e.kind=3
 ·have hd:jL w e=dh w e.a e.b:=by unfold jL;rw[if_neg c1,if_neg c2,if_pos c3]
  have hg:tY w e=eJ w e.a e.b:=by unfold tY;rw[if_neg c2,if_pos c3]
  rw[hd,hg]
  cases hi:qV w e.b
  ·have hv:eJ w e.a e.b=false:=by unfold eJ;rw[hi];simp
   have hs:dh w e.a e.b=w:=by unfold dh;rw[hv];rfl
   rw[hs,hv]
   exact⟨(xss,ms),⟨hR,ax _⟩,fy w.com w.lead w.bad _ _ xss xss ms ms e false (ax _) (ax _) (fun c=>absurd c c1) (fun c=>absurd c c2) (fun _=>In 1 w xss ms hw hR e.a e.b hi) (fun c=>by omega) (fun c=>by omega) (fun c=>by omega)⟩
  ·obtain⟨n,hn,hn1,hn2⟩:=pY hi
   obtain⟨j,hj1,hj2⟩:=hR.get n _ hn2
   have hC:=Lh 1 w xss ms hw hR e.a n j (by rw[←hn];exact hi) (by rw[←hn];exact hj1) (by rw[←hn];exact hj2)
   rw[←hn] at hC
   cases hf:eJ w e.a e.b
   ·have hs:dh w e.a e.b=w:=by unfold dh;rw[hf];rfl
    rw[hf] at hC
    rw[hs]
    exact⟨(xss,ms),⟨hR,ax _⟩,fy w.com w.lead w.bad _ _ xss xss ms ms e false (ax _) (ax _) (fun c=>absurd c c1) (fun c=>absurd c c2) (fun _=>hC) (fun c=>by omega) (fun c=>by omega) (fun c=>by omega)⟩
   ·have hs:dh w e.a e.b={w with views:=w.views.set e.a.toNat (gS (view w e.a) (aV w e.b).v)}:=by unfold dh;rw[hf];rfl
    rw[hf] at hC
    rw[hs]
    unfold eJ at hf
    simp only[aB,fV] at hf
    have hvw:=DD hw (eL.1 hf.1).1 (dw hw.com (kk hw (bn hn2)).1) hf.2.2.2.1
    refine⟨(xss,ms),⟨hR,ax _⟩,?_⟩
    show ag _ _ _ _ _ (rX 0 w.com w.lead w.bad ((w.views.set e.a.toNat (gS (view w e.a) (aV w e.b).v)).map aT) xss ms)
    rw[hvw]
    exact fy w.com w.lead w.bad _ (AI w e.a (aV w e.b).v) xss xss ms ms e true (by simp[AI]) (ax _) (fun c=>absurd c c1) (fun c=>absurd c c2) (fun _=>hC) (fun c=>by omega) (fun c=>by omega) (fun c=>by omega)
 by_cases c4:e.kind=4
 ·have hp:jO w e.v=false:=by simpa[wV,c4] using h
  have hd:jL w e=w:=by unfold jL iR;rw[if_neg c1,if_neg c2,if_neg c3,if_pos c4,hp];rfl
  have hg:tY w e=false:=by unfold tY;rw[if_neg (by omega),if_neg (by omega),if_neg (by omega)]
  have hC:=Fj 1 w xss ms hw hR e.v
  rw[hp] at hC
  rw[hd,hg]
  exact⟨(xss,ms),⟨hR,ax _⟩,fy w.com w.lead w.bad _ _ xss xss ms ms e false (ax _) (ax _) (fun c=>absurd c c1) (fun c=>absurd c c2) (fun c=>absurd c c3) (fun _=>hC) (fun c=>by omega) (fun c=>by omega)⟩
 by_cases c5:e.kind=5
 ·have hd:jL w e=iQ w e.b:=by unfold jL;rw[if_neg c1,if_neg c2,if_neg c3,if_neg c4,if_pos c5]
  have hg:tY w e=(l7 w e.b && !(aV w e.b).members.contains w.bad):=by unfold tY;rw[if_neg c2,if_neg c3,if_pos c5]
  rw[hd,hg]
  cases hi:qV w e.b
  ·have hv:l7 w e.b=false:=by unfold l7;rw[hi];simp
   have hs:iQ w e.b=w:=by unfold iQ;rw[hv];rfl
   rw[hs,hv]
   exact⟨(xss,ms),⟨hR,ax _⟩,fy w.com w.lead w.bad _ _ xss xss ms ms e false (ax _) (ax _) (fun c=>absurd c c1) (fun c=>absurd c c2) (fun c=>absurd c c3) (fun c=>absurd c c4) (fun _=>Ii 1 w xss ms hw hR e.b hi) (fun c=>by omega)⟩
  ·obtain⟨n,hn,hn1,hn2⟩:=pY hi
   obtain⟨j,hj1,hj2⟩:=hR.get n _ hn2
   have hC:=La 1 w xss ms hw hR n j (by rw[←hn];exact hi) (by rw[←hn];exact hj1) (by rw[←hn];exact hj2)
   rw[←hn] at hC
   have ha:=fq (kk hw (bn hn2)).2
   cases hf:(l7 w e.b && !(aV w e.b).members.contains w.bad)
   ·have hs:iQ w e.b=w:=by
     unfold iQ
     split
     ·rename_i hv
      rw[hv,dX] at hf
      exact xh hi ha (by simpa using hf)
     ·rfl
    rw[hf] at hC
    rw[hs]
    exact⟨(xss,ms),⟨hR,ax _⟩,fy w.com w.lead w.bad _ _ xss xss ms ms e false (ax _) (ax _) (fun c=>absurd c c1) (fun c=>absurd c c2) (fun c=>absurd c c3) (fun c=>absurd c c4) (fun _=>hC) (fun c=>by omega)⟩
   ·have hv:l7 w e.b=true:=(aB .. ▸hf:_∧_).1
    have hs:iQ w e.b=mA w e.b w.bad:=by unfold iQ;rw[hv];rfl
    rw[hf] at hC
    rw[hs]
    have hR2:=hR.cast hj1 (fk (aV w e.b).members w.bad)
    refine⟨(_,_),?_,fy w.com w.lead w.bad _ _ xss _ ms _ e true (ax _) (by simp) (fun c=>absurd c c1) (fun c=>absurd c c2) (fun c=>absurd c c3) (fun c=>absurd c c4) (fun _=>hC) (fun c=>by omega)⟩
    refine⟨?_,by simp⟩
    have:e.b.toNat=n:=by omega
    show Rel (w.props.set e.b.toNat _) _ _
    rw[this]
    exact hR2
 have hd:jL w e=w:=by unfold jL;rw[if_neg c1,if_neg c2,if_neg c3,if_neg c4,if_neg c5]
 have hg:tY w e=false:=by unfold tY;rw[if_neg c2,if_neg c3,if_neg c5]
 rw[hd,hg]
 exact⟨(xss,ms),⟨hR,ax _⟩,fy w.com w.lead w.bad _ _ xss xss ms ms e false (ax _) (ax _) (fun c=>absurd c c1) (fun c=>absurd c c2) (fun c=>absurd c c3) (fun c=>absurd c c4) (fun c=>absurd c c5) (fun _=>⟨rfl,rfl,rfl,rfl⟩)⟩
theorem Gx (w:Wrl)(e:Evt):(jL w e).com=w.com∧(jL w e).lead=w.lead∧(jL w e).bad=w.bad∧(jL w e).views.length=w.views.length:=by
 simp only[jL,eS,e9,dh,iR,iQ,mA,tV]
 (repeat' split)<;>simp
theorem H3 {w:Wrl}{e:Evt}:bA (VB.fvari 148 217 (.ob .vtx) (w.views.map aT))≤bA (VB.fvari 148 217 (.ob .vtx) ((jL w e).views.map aT)):=by
 show (w.views.map aT).length≤((jL w e).views.map aT).length
 rw[az,az,(Gx w e).2.2.2]
 exact ax _
theorem Fp (w:Wrl)(hl:∀g∈w.views,g.length≤2000000)(hp:gy w=false):ag Tryz.prog 38 [bd w] [] (.tup [.nilp,.bool false]) []:=by
 have h:=BH w hl
 simp only[Hq,Hp,hp,fg,if_false] at h
 exact h
theorem Ny (w:Wrl)(e:Evt)(hl:∀g∈w.views,g.length≤2000000):ag Tryz.prog 123 [bd w,t7 e] [] (if lg w then bd (jL w e) else JQ) []:=by
 have he:=nE w
 refine ab bV Tryz.func123 rfl rfl true 0 4 rfl rfl rfl rfl fun K hK hb1 hb2=>?_;simp only[ae,enc,Nat.reduceAdd]
 clear hb1 hb2
 cases hp:gy w
 ·have hO:=Fp w hl hp
  rw[hp,iJ] at he
  (repeat' first|refine ch ?_|refine sa fun xe hxe=>?_|refine sb (fun hq=>?_) fun hq=>?_|refine cr (hO) ?_|exact aa)
  rw[he]
  exact⟨rfl,rfl⟩
 ·have hO:=Fq w hl hp
  cases hs:lg w
  ·rw[hs] at hO
   (repeat' first|refine ch ?_|refine sa fun xe hxe=>?_|refine sb (fun hq=>?_) fun hq=>?_|refine cr (hO) ?_|exact aa)
   exact⟨rfl,rfl⟩
  ·rw[hs] at hO
   have hw:=i6.1 hs
   cases ha:wV w e
   ·obtain⟨⟨xs,ms⟩,⟨hR,hx⟩,hC⟩:=vU w _ _ hw (Mn _) e ha
    have hW:=v8 0 (jL w e) xs ms (Ar hw e) hR
    have hF0:=H3 (w:=w) (e:=e)
    have hF1:bA (VB.frowx 3 (.int .i64) (w.props.map fun p=>some p.members))≤bA (VB.frowx 3 (.int .i64) xs):=hx
    (repeat' first|refine ch ?_|refine sa fun xe hxe=>?_|refine sb (fun hq=>?_) fun hq=>?_|refine cr (hO) ?_|refine cr (hC) ?_|refine cr (hW) ?_|exact aa)
    exact⟨rfl,rfl⟩
   ·obtain⟨⟨xs,ms⟩,⟨hR,hx⟩,hC⟩:=BA w _ _ hw (Mn _) e ha
    have hW:=v8 0 (jL w e) xs ms (Ar hw e) hR
    have hF0:=H3 (w:=w) (e:=e)
    have hF1:bA (VB.frowx 3 (.int .i64) (w.props.map fun p=>some p.members))≤bA (VB.frowx 3 (.int .i64) xs):=hx
    (repeat' first|refine ch ?_|refine sa fun xe hxe=>?_|refine sb (fun hq=>?_) fun hq=>?_|refine cr (hO) ?_|refine cr (hC) ?_|refine cr (hW) ?_|exact aa)
    exact⟨rfl,rfl⟩
abbrev rP (c l:List Int)(b:Int)(tabs:List (List (Option Vtx)))(xss:List (Option (List Int)))(ms:List PplM):VH:=[(0,.fvari 148 217 (.ob .vtx) tabs),(1,.frowx 3 (.int .i64) xss),(4,.var 31 [.nils,.nils,.int .i64 0,.nils,.nils]),(5,.var 117 [.int .i32 0,.int .u32 0,.lst (.int .i64) c,.lst (.int .i64) l,.int .i64 b,.ref 6,.ref 7]),(6,.row 118 (.hp 0) ((List.range tabs.length).map some)),(7,.row 93 (.pplm 1) ms)]
theorem oB {w:Wrl}(h:WOK w)(i:Int):∀n,eu w≤eu (cQ w i n)
 |0=>ax _
 |n+1=>by
  have h1:=oB h i n
  rcases ig (ky h i n) n i with⟨-,h2⟩|⟨-,h2⟩
  ·simp only[cQ,h2];exact h1
  ·simp only[cQ,h2];omega
theorem uN {w:Wrl}(h:WOK w):∀k,eu w≤eu (bI w k)
 |0=>ax _
 |k+1=>cz (uN h k) (oB (ji h k) _ _)
theorem Dq {w:Wrl}(h:WOK w){m i:Int}(hb:eJ w m i=true):(dh w m i).views[m.toNat]?=some (gS (view w m) (aV w i).v):=by
 have hg:good w m=true:=by
  simp only[eJ,aB] at hb
  exact hb.1
 have hl:=(h.view hg).2.2
 simp[dh,hb,dx,hl]
abbrev JO:List V:=[.nils,.nils,.int .i64 0,.nils,.nils]
set_option maxHeartbeats 1000000 in
theorem AB (w:Wrl)(h:WOK w):ag Tryz.prog 65 [bd w] [] (bd (cW w)) []:=by
 refine ab aj Tryz.func65 rfl rfl true 0 4 rfl rfl rfl rfl fun K hK hb1 hb2=>?_;simp only[ae,enc,Nat.reduceAdd]
 clear hb1 hb2
 (repeat' first|refine st ?_|refine sa fun xe hxe=>?_|refine sb (fun hq=>?_) fun hq=>?_|exact aa)
 refine ah hK [] [1,2,3] (fun x:Bool×Wrl=>⟨[(1,.ptr 4 0),(2,.ptr 5 0),(3,.bool x.1)],[(4,.var 31 (bd x.2).cells),(5,.var 31 JO)],6⟩) (fun x=>WOK x.2∧(x.1=true→cW x.2=cW w)∧(x.1=false→x.2=cW w)) (fun x=>if x.1=true then 1520-eu x.2 else 0) (true,w) ⟨h,fun _=>rfl,fun h=>by cases h⟩ rfl ?_
 rintro⟨b,x⟩ ⟨hx,hbt,hbf⟩
 dsimp only at hx hbt hbf⊢
 cases b
 ·have:=hbf rfl
  rw[←this]
  (repeat' first|refine st ?_|refine sa fun xe hxe=>?_|refine sb (fun hq=>?_) fun hq=>?_|exact aa)
  exact⟨rfl,rfl⟩
 have hbt:=hbt rfl
 have hx7:=hx.len
 have hxp:=hx.plen
 (repeat' first|refine st ?_|refine sa fun xe hxe=>?_|refine sb (fun hq=>?_) fun hq=>?_|exact aa)
 refine ah hK [] [1,2,3,4] (fun k:Nat=>⟨[(1,.ptr 4 0),(2,.ptr 5 0),(3,.bool (decide (eu x<eu (bI x k)))),(4,.int .i64 (k:Int))],[(4,.var 31 (bd (bI x k)).cells),(5,.var 31 JO)],6⟩) (fun k=>k≤x.props.length) (fun k=>x.props.length-k) 0 (by omega) (by simp only[bI,Nat.lt_irrefl,decide_false];rfl) ?_
 intro k hk
 have hpc:=eR x k
 have hpo:=ji hx k
 have hple:=uN hx k
 have hps:bI x (k+1)=cQ (bI x k) k (bI x k).com.length:=rfl
 by_cases hlt:k<x.props.length
 ·generalize bI x k=y at *
  have hyl:y.props.length=x.props.length:=by rw[hpc.2]
  have hyc:y.com.length=x.com.length:=by rw[hpc.1]
  (repeat' first|refine st ?_|refine sa fun xe hxe=>?_|refine sb (fun hq=>?_) fun hq=>?_|exact aa)
  refine ah hK [] [1,2,3,4,5] (fun m:Nat=>⟨[(1,.ptr 4 0),(2,.ptr 5 0),(3,.bool (decide (eu x<eu (cQ y k m)))),(4,.int .i64 (k:Int)),(5,.int .i64 (m:Int))],[(4,.var 31 (bd (cQ y k m)).cells),(5,.var 31 JO)],6⟩) (fun m=>m≤y.com.length) (fun m=>y.com.length-m) 0 (by omega) rfl ?_
  intro m hm
  have hdc:=kx y k m
  have hdo:=ky hpo k m
  have hdle:=oB hpo k m
  have hds:cQ y k (m+1)=dh (cQ y k m) m k:=rfl
  by_cases hml:m<y.com.length
  ·generalize cQ y k m=z at *
   have hzc:z.com.length=y.com.length:=by rw[hdc.1]
   have hzv:=hdo.vlen
   have hS:=Av z m k hdo
   have hxv:z.views[m]?=some (view z m):=by
    unfold view
    rw[mP,aq,am (show m<z.views.length by omega)]
    rfl
   have hgl:=hdo.vl _ (bn hxv)
   have hso:=rO hdo m k
   have hsc:=pb z m k
   have hsv:=hso.vlen
   rcases ig hdo m k with⟨e1,e2⟩|⟨e1,e2⟩
   ·rw[e2] at hS hds
    generalize view z m=g at *
    by_cases hmo:eu x<eu z
    ·rw[decide_eq_true hmo]
     (repeat' first|refine st ?_|refine sa fun xe hxe=>?_|refine sb (fun hq=>?_) fun hq=>?_|refine cr (hS) ?_|exact aa)
     exact⟨m+1,by omega,by omega,by rw[hds,decide_eq_true hmo];rfl⟩
    ·rw[decide_eq_false hmo]
     (repeat' first|refine st ?_|refine sa fun xe hxe=>?_|refine sb (fun hq=>?_) fun hq=>?_|refine cr (hS) ?_|exact aa)
     exact⟨m+1,by omega,by omega,by rw[hds,decide_eq_false hmo,decide_eq_false (Int.lt_irrefl _)];rfl⟩
   ·have hxv2:=Dq hdo e1
    rw[mP] at hxv2
    have hil:=xS (view z m) (aV z k).v
    have hmo2:eu x<eu (dh z m k):=by omega
    generalize dh z m k=z2 at *
    generalize gS (view z m) (aV z k).v=g2 at *
    generalize view z m=g at *
    by_cases hmo:eu x<eu z
    ·rw[decide_eq_true hmo]
     (repeat' first|refine st ?_|refine sa fun xe hxe=>?_|refine sb (fun hq=>?_) fun hq=>?_|refine cr (hS) ?_|exact aa)
     exact⟨m+1,by omega,by omega,by rw[hds,decide_eq_true hmo2];rfl⟩
    ·rw[decide_eq_false hmo]
     have hlt2:(g.length:Int)<g2.length:=by omega
     (repeat' first|refine st ?_|refine sa fun xe hxe=>?_|refine sb (fun hq=>?_) fun hq=>?_|refine cr (hS) ?_|exact aa)
     exact⟨m+1,by omega,by omega,by rw[hds,decide_eq_true hmo2,decide_eq_true hlt2];rfl⟩
  ·obtain rfl:m=y.com.length:=by omega
   rw[←hps]
   have hc2:(bI x (k+1)).com.length=y.com.length:=by rw[hps,hdc.1]
   generalize hz:bI x (k+1)=z at *
   (repeat' first|refine st ?_|refine sa fun xe hxe=>?_|refine sb (fun hq=>?_) fun hq=>?_|exact aa)
   exact⟨k+1,by omega,by omega,by rw[hz];rfl⟩
 ·obtain rfl:k=x.props.length:=by omega
  have hpa:bI x x.props.length=pass x:=rfl
  rw[hpa] at hpc hpo hple
  rw[hpa]
  clear hpa hps
  have hyl:(pass x).props.length=x.props.length:=by rw[hpc.2]
  have htl:=tH hpo
  have htx:=tH hx
  have e1:eu x<eu (pass x)→cW x=cW (pass x):=fun hh=>by
   rw[cW]
   exact dif_pos ⟨hh,htl⟩
  have e2:¬eu x<eu (pass x)→cW x=pass x:=fun hh=>by
   rw[cW]
   exact dif_neg fun h9=>hh h9.1
  generalize pass x=z at *
  (repeat' first|refine st ?_|refine sa fun xe hxe=>?_|refine sb (fun hq=>?_) fun hq=>?_|exact aa)
  refine⟨(decide (eu x<eu z),z),⟨hpo,fun hh=>?_,fun hh=>?_⟩,?_,rfl⟩
  ·rw[←hbt,e1 (of_decide_eq_true hh)]
  ·rw[←hbt,e2 (of_decide_eq_false hh)]
  ·dsimp only
   split
   ·rename_i hh
    have:=of_decide_eq_true hh
    simp only[if_true]
    omega
   ·simp only[if_true]
    omega
theorem GW (w:Wrl)(h:WOK w):ag Tryz.prog 66 [bd w] [] (bd (iS w)) []:=by
 have h7:=h.len
 have hpl:=h.plen
 refine ab aj Tryz.func66 rfl rfl true 0 4 rfl rfl rfl rfl fun K hK hb1 hb2=>?_;simp only[ae,enc,Nat.reduceAdd]
 clear hb1 hb2
 (repeat' first|refine st ?_|refine sa fun xe hxe=>?_|refine sb (fun hq=>?_) fun hq=>?_|exact aa)
 refine ah hK [] [1,2,3] (fun k:Nat=>⟨[(1,.ptr 4 0),(2,.ptr 5 0),(3,.int .i64 (k:Int))],[(4,.var 31 (bd (di w k)).cells),(5,.var 31 JO)],6⟩) (fun k=>k≤w.props.length) (fun k=>w.props.length-k) 0 (by omega) rfl ?_
 intro k hk
 have hpc:=fJ w k
 have hpo:=fT h k
 have hps:di w (k+1)=iU (di w k) k (di w k).com.length:=rfl
 by_cases hlt:k<w.props.length
 ·generalize di w k=y at *
  have hyc:y.com.length=w.com.length:=by rw[hpc.1]
  (repeat' first|refine st ?_|refine sa fun xe hxe=>?_|refine sb (fun hq=>?_) fun hq=>?_|exact aa)
  refine ah hK [] [1,2,3,4] (fun m:Nat=>⟨[(1,.ptr 4 0),(2,.ptr 5 0),(3,.int .i64 (k:Int)),(4,.int .i64 (m:Int))],[(4,.var 31 (bd (iU y k m)).cells),(5,.var 31 JO)],6⟩) (fun m=>m≤y.com.length) (fun m=>y.com.length-m) 0 (by omega) rfl ?_
  intro m hm
  have hdc:=nC y k m
  have hdo:=tK hpo k m
  have hds:iU y k (m+1)=e9 (iU y k m) m k:=rfl
  by_cases hml:m<y.com.length
  ·generalize iU y k m=z at *
   have hzc:z.com.length=y.com.length:=by rw[hdc.1]
   have hS:=AG z m k hdo
   generalize e9 z m k=z2 at *
   (repeat' first|refine st ?_|refine sa fun xe hxe=>?_|refine sb (fun hq=>?_) fun hq=>?_|refine cr (hS) ?_|exact aa)
   exact⟨m+1,by omega,by omega,by rw[hds];rfl⟩
  ·obtain rfl:m=y.com.length:=by omega
   rw[←hps]
   have hc2:(di w (k+1)).com.length=y.com.length:=by rw[hps,hdc.1]
   generalize hz:di w (k+1)=z at *
   (repeat' first|refine st ?_|refine sa fun xe hxe=>?_|refine sb (fun hq=>?_) fun hq=>?_|exact aa)
   exact⟨k+1,by omega,by omega,by rw[hz];rfl⟩
 ·obtain rfl:k=w.props.length:=by omega
  have hpa:di w w.props.length=iS w:=rfl
  rw[hpa] at hpc hpo
  rw[hpa]
  clear hpa hps
  have hyl:=hpc.2
  generalize iS w=z at *
  (repeat' first|refine st ?_|refine sa fun xe hxe=>?_|refine sb (fun hq=>?_) fun hq=>?_|exact aa)
  exact⟨rfl,rfl⟩
theorem Mv (w:Wrl)(h:WOK w):ag Tryz.prog 67 [bd w] [] (bd w) []:=by
 have h7:=h.len
 have hvl:=h.vlen
 have hpl:=h.plen
 have hll:=(bS.1 h.lead).2
 refine ab aj Tryz.func67 rfl rfl true 0 4 rfl rfl rfl rfl fun K hK hb1 hb2=>?_;simp only[ae,enc,Nat.reduceAdd]
 clear hb1 hb2
 (repeat' first|refine st ?_|refine sa fun xe hxe=>?_|refine sb (fun hq=>?_) fun hq=>?_|exact aa)
 refine ah hK [] [1,2,3,4] (fun i:Nat=>⟨[(1,.ptr 4 0),(2,.ptr 5 0),(3,.ptr 6 0),(4,.int .i64 (i:Int))],[(4,.var 31 (bd w).cells),(5,.var 31 JO),(6,.var 31 [.ref 7,.ref 8,.int .i64 w.bad,.ref 9,.ref 10]),(7,.row 3 (.int .i64) w.com),(8,.row 3 (.int .i64) w.lead),(9,.row 69 (.lst .vtx) (w.views.take i)),(10,.row 93 .ppl [])],11⟩) (fun i=>i≤w.views.length) (fun i=>w.views.length-i) 0 (by omega) rfl ?_
 intro i hi
 by_cases hlt:i<w.views.length
 ·have hxe:w.views[i]?=some w.views[i]:=am hlt
  have hsn:w.views.take (i+1)=w.views.take i++[w.views[i]]:=ca hlt
  have hgm:=be hlt
  have hC:=Cj w.views[i] (by have:=h.vl _ hgm;omega) fun v hv=>by have:=h.par (h.vv _ hgm v hv);omega
  have hl1:(w.views.take i).length=i:=by rw[bQ];omega
  generalize w.views[i]=g at *
  generalize w.views.take i=l at *
  (repeat' first|refine st ?_|refine sa fun xe hxe=>?_|refine sb (fun hq=>?_) fun hq=>?_|refine cr (hC) ?_|exact aa)
  exact⟨i+1,by omega,by omega,by rw[hsn];rfl⟩
 rw[br (by omega)]
 (repeat' first|refine st ?_|refine sa fun xe hxe=>?_|refine sb (fun hq=>?_) fun hq=>?_|exact aa)
 refine ah hK [] [1,2,3,5] (fun i:Nat=>⟨[(1,.ptr 4 0),(2,.ptr 5 0),(3,.ptr 6 0),(5,.int .i64 (i:Int))],[(4,.var 31 (bd w).cells),(5,.var 31 JO),(6,.var 31 [.ref 7,.ref 8,.int .i64 w.bad,.ref 9,.ref 10]),(7,.row 3 (.int .i64) w.com),(8,.row 3 (.int .i64) w.lead),(9,.row 69 (.lst .vtx) w.views),(10,.row 93 .ppl (w.props.take i))],11⟩) (fun i=>i≤w.props.length) (fun i=>w.props.length-i) 0 (by omega) rfl ?_
 intro k hk
 by_cases hkl:k<w.props.length
 ·have hxe:w.props[k]?=some w.props[k]:=am hkl
  have hsn:w.props.take (k+1)=w.props.take k++[w.props[k]]:=ca hkl
  have hpm:=be hkl
  have hC:=qh w.props[k].v (by have:=h.par (h.pv _ hpm).1;omega)
  have hm:=h.mem _ hpm
  have hl1:(w.props.take k).length=k:=by rw[bQ];omega
  generalize w.props[k]=p at *
  generalize w.props.take k=l at *
  (repeat' first|refine st ?_|refine sa fun xe hxe=>?_|refine sb (fun hq=>?_) fun hq=>?_|refine cr (hC) ?_|exact aa)
  exact⟨k+1,by omega,by omega,by rw[hsn];rfl⟩
 ·(repeat' first|refine st ?_|refine sa fun xe hxe=>?_|refine sb (fun hq=>?_) fun hq=>?_|exact aa)
  rw[br (by omega)]
  exact⟨rfl,rfl⟩
theorem JR {w:Wrl}(h:WOK w):w.com.length≤2000000:=by have:=h.len;omega
theorem Jm (w:Wrl)(r:Nat)(h:WOK w)(hr:r≤12):ag Tryz.prog 33 [bd w,.int .i64 (r:Int)] [] (bd (aU w r)) []:=by
 have hV:=N3 w (JR h)
 rw[i6.2 h] at hV
 have hI:=nF (r:Int) 0 12
 rw[aC.2 (by omega)] at hI
 have hS:=AB w h
 refine ab aj Tryz.func33 rfl rfl true 0 4 rfl rfl rfl rfl fun K hK hb1 hb2=>?_;simp only[ae,enc,Nat.reduceAdd]
 clear hb1 hb2
 (repeat' first|refine st ?_|refine sa fun xe hxe=>?_|refine sb (fun hq=>?_) fun hq=>?_|refine cr (hV) ?_|refine cr (hI) ?_|refine cr (hS) ?_|exact aa)
 refine ah hK [] [1,2,4,5] (fun k:Nat=>⟨[(1,.int .i64 (r:Int)),(2,.ptr 4 0),(4,.ptr 5 0),(5,.int .i64 (k:Int))],[(4,.var 31 (bd (aU w k)).cells),(5,.var 31 JO)],6⟩) (fun k=>k≤r) (fun k=>r-k) 0 (by omega) rfl ?_
 intro k hk
 have hco:=gM h k
 have hcs:aU w (k+1)=gz (dL (gz (aU w k)) k (gz (aU w k)).com.length):=rfl
 by_cases hlt:k<r
 ·generalize aU w k=x at *
  have h1:=GW x hco
  have h2:=AB (iS x) (fT hco _)
  have hr1:cW (iS x)=gz x:=rfl
  have hro:=nt hco
  rw[hr1] at h2
  generalize iS x=x1 at *
  generalize gz x=y at *
  (repeat' first|refine st ?_|refine sa fun xe hxe=>?_|refine sb (fun hq=>?_) fun hq=>?_|refine cr (h1) ?_|refine cr (h2) ?_|exact aa)
  refine ah hK [] [1,2,4,5,6] (fun m:Nat=>⟨[(1,.int .i64 (r:Int)),(2,.ptr 4 0),(4,.ptr 5 0),(5,.int .i64 (k:Int)),(6,.int .i64 (m:Int))],[(4,.var 31 (bd (dL y k m)).cells),(5,.var 31 JO)],6⟩) (fun m=>m≤y.com.length) (fun m=>y.com.length-m) 0 (by omega) rfl ?_
  intro m hm
  have hdc:=nj y k m
  have hdo:=mt hro k m
  have hyl:=hro.len
  have hds:dL y k (m+1)=eS (dL y k m) m (7*k+m):=rfl
  by_cases hml:m<y.com.length
  ·generalize dL y k m=z at *
   have hzc:z.com.length=y.com.length:=by rw[hdc]
   have hP:=AA z m (7*k+m) hdo
   generalize eS z m (7*k+m)=z2 at *
   (repeat' first|refine st ?_|refine sa fun xe hxe=>?_|refine sb (fun hq=>?_) fun hq=>?_|refine cr (hP) ?_|exact aa)
   exact⟨m+1,by omega,by omega,by rw[hds];rfl⟩
  ·obtain rfl:m=y.com.length:=by omega
   have hzc:(dL y k y.com.length).com.length=y.com.length:=by rw[hdc]
   generalize dL y k y.com.length=z at *
   have h3:=GW z hdo
   have h4:=AB (iS z) (fT hdo _)
   have hr2:cW (iS z)=gz z:=rfl
   rw[hr2] at h4
   generalize iS z=z1 at *
   generalize gz z=z2 at *
   (repeat' first|refine st ?_|refine sa fun xe hxe=>?_|refine sb (fun hq=>?_) fun hq=>?_|refine cr (h3) ?_|refine cr (h4) ?_|exact aa)
   exact⟨k+1,by omega,by omega,by rw[hcs];rfl⟩
 ·obtain rfl:k=r:=by omega
  have hC:=Mv (aU w k) hco
  generalize aU w k=x at *
  (repeat' first|refine st ?_|refine sa fun xe hxe=>?_|refine sb (fun hq=>?_) fun hq=>?_|refine cr (hC) ?_|exact aa)
  exact⟨rfl,rfl⟩
theorem OT {c:List Int}(h:∀x∈c,0≤x∧x≤255):Gj (c.take 2000) 0:=⟨by rw[bQ];omega,fun x hx=>h x (j7 hx),by omega,by omega⟩
def e0:Evt:=⟨0,0,0,v0⟩
end Go.Proofs.YtpefhoohfkeflaaGreatDoor.Am
namespace Go.Proofs.YtpefhoohfkeflaaGreatDoor.Am
open Go
theorem H2 {w:Wrl}(hw:WOK w){i k:Nat}{p q:Ppl}(hk:k<i)(hp:w.props[i]?=some p)(hq:w.props[k]?=some q)(h1:p.v.round=q.v.round)(h2:p.v.author=q.v.author):p.v.author=w.bad∧lQ w.bad p.members q.members=false:=by
 have h:=ic hw.fit hk hq hp
 unfold fitP at h
 rw[pe.2 ⟨h1,h2⟩] at h
 have h:lb p.v q.v=false∧p.v.author=w.bad∧lQ w.bad p.members q.members=false:=by simpa using h
 exact h.2
theorem BG {c:List Int}:∀{ms:List Int} {m:Int},m∉ms→fo c (fk ms m)=fo c ms+c.getD m.toNat 0
 |[],m,_=>by simp[fk,fo]
 |x::l,m,h=>by
  simp only[aA,not_or] at h
  unfold fk
  split
  ·have:=BG (c:=c) h.2
   simp only[fo,bB,List.sum_cons] at this⊢
   omega
  ·rw[if_neg fun e=>h.1 e.symm]
   simp only[fo,bB,List.sum_cons]
   omega
theorem Ht (c:List Int):fo c ((List.range c.length).map fun i:Nat=>(i:Int))=n6 c:=by
 have:((List.range c.length).map fun i:Nat=>(i:Int)).map (fun m=>c.getD m.toNat 0)=c:=by
  apply mJ
  intro i
  simp only[ep,bf]
  rcases ct i c.length with h|h
  ·rw[oe h,am h]
   simp[aq,am h]
  ·rw[dP (by simpa using h),dP h]
   rfl
 unfold fo n6
 rw[this]
theorem pC {l:List Int}(h:l.Pairwise (· < ·)):l.Nodup:=h.imp fun h=>by omega
theorem JF {c a b:List Int}(hc:∀x∈c,0≤x)(ha:a.Pairwise (· < ·))(hb:b.Pairwise (· < ·))(ha1:∀x∈a,0≤x∧x<c.length)(hb1:∀x∈b,0≤x∧x<c.length)(hd:∀x∈a,x∉b):fo c a+fo c b≤n6 c:=by
 have key:∀b:List Int,b.Nodup→(∀x∈b,0≤x∧x<c.length)→(∀x∈a,x∉b)→∃l:List Int,l.Pairwise (· < ·)∧(∀x,x∈l↔x∈a∨x∈b)∧fo c l=fo c a+fo c b:=by
  intro b
  induction b with
  |nil=>exact fun _ _ _=>⟨a,ha,fun x=>by simp,by simp[fo]⟩
  |cons y b ih=>
   intro h1 h2 h3
   obtain⟨n1,n2⟩:=List.nodup_cons.1 h1
   obtain⟨l,l1,l2,l3⟩:=ih n2 (fun x hx=>h2 x (by simp[hx])) fun x hx hb=>h3 x hx (by simp[hb])
   refine⟨fk l y,xQ l1,fun x=>?_,?_⟩
   ·rw[kJ,l2,aA]
    constructor
    ·rintro(h|h|h)
     ·exact .inr (.inl h)
     ·exact .inl h
     ·exact .inr (.inr h)
    ·rintro(h|h|h)
     ·exact .inr (.inl h)
     ·exact .inl h
     ·exact .inr (.inr h)
   ·rw[BG (fun h=>(l2 y).1 h|>.elim (fun ha=>h3 y ha (by simp)) n1),l3]
    simp only[fo,bB,List.sum_cons]
    omega
 obtain⟨l,l1,l2,l3⟩:=key b (pC hb) hb1 hd
 rw[←l3,←Ht]
 refine wJ hc l1 ?_ fun x hx=>?_
 ·rw[lL]
  exact List.pairwise_lt_range.imp fun h=>by omega
 ·have:0≤x∧x<c.length:=((l2 x).1 hx).elim (ha1 x) (hb1 x)
  exact aD.2 ⟨x.toNat,eC.2 (by omega),by omega⟩
theorem wI {c:List Int}{b:Int}:∀{a:List Int},a.Nodup→fo c a=fo c (a.filter fun m=>m !=b)+if b∈a then c.getD b.toNat 0 else 0
 |[],_=>by simp[fo]
 |x::l,h=>by
  obtain⟨h1,h2⟩:=List.nodup_cons.1 h
  have ih:=wI (c:=c) (b:=b) h2
  by_cases e:x=b
  ·subst e
   rw[if_neg h1] at ih
   rw[if_pos (by simp),lP,if_neg (by simp)]
   simp only[fo,bB,List.sum_cons] at ih⊢
   omega
  ·rw[lP,if_pos (by simpa using e)]
   have:(b∈x::l)=(b∈l):=by simp[cm e]
   simp only[this]
   simp only[fo,bB,List.sum_cons] at ih⊢
   omega
theorem Gg {c a b:List Int}{bad:Int}(hc:comV c=true)(hbad:badS c bad=true)(ha:d8 c a=true)(hb:d8 c b=true)(h1:quo c≤fo c a)(h2:quo c≤fo c b):lQ bad a b=true:=by
 cases hbo:lQ bad a b with
 |true=>rfl
 |false=>
  exfalso
  have hno:∀m∈a,m≠bad→m∉b:=fun m hm hne hmb=>by
   have:=l8.2 ⟨m,hne,hm,hmb⟩
   rw[hbo] at this
   cases this
  have a1:=fq ha
  have a2:=cD ha
  have hp:=(ay.1 hc).1
  have hw:=wI (c:=c) (b:=bad) (pC a1)
  have ht:=JF (c:=c) (a:=a.filter fun m=>m !=bad) (b:=b) (fun x hx=>by have:=hp x hx;omega) (a1.filter _) (fq hb) (fun x hx=>a2 x ((dW.1 hx).1)) (cD hb) fun x hx=>hno x ((dW.1 hx).1) (by simpa using(dW.1 hx).2)
  have hf:=sC hc
  have hle:(if bad∈a then c.getD bad.toNat 0 else 0)≤y6 c:=by
   split
   ·rename_i hm
    rcases kw.1 hbad with h|⟨-,h⟩
    ·have:=a2 _ hm;omega
    ·exact h
   ·exact hf.1
  have hq:quo c=2*n6 c/3+1:=by
   have:=jz hc
   unfold quo
   rw[jH (by omega)]
  omega
theorem up {w:Wrl}(hw:WOK w){i k:Nat}{p q:Ppl}(hk:k<i)(hp:w.props[i]?=some p)(hq:w.props[k]?=some q)(d1:don w.com p=true)(d2:don w.com q=true)(h1:p.v.round=q.v.round)(h2:p.v.author=q.v.author):False:=by
 have h:=(H2 hw hk hp hq h1 h2).2
 have m1:=(kk hw (bn hp)).2
 have m2:=(kk hw (bn hq)).2
 rw[Gg hw.com hw.bad m1 m2 (by simpa[don] using d1) (by simpa[don] using d2)] at h
 cases h
def still (w:Wrl):Prop:=∀m i:Nat,m<w.com.length→i<w.props.length→eJ w m i=false
theorem Jl {w:Wrl}(h:WOK w)(m i:Int):eu w≤eu (dh w m i):=by
 rcases ig h m i with⟨-,e⟩|⟨-,e⟩
 ·rw[e];exact ax _
 ·omega
theorem xp {w:Wrl}(h:WOK w)(i:Int):∀n:Nat,eu (cQ w i n)≤eu w→cQ w i n=w∧∀m:Nat,m<n→eJ w m i=false
 |0,_=>⟨rfl,fun m hm=>absurd hm (Nat.not_lt_zero m)⟩
 |n+1,ht=>by
  have ho:=ky h i n
  have h1:=Jl ho n i
  have ht:eu (dh (cQ w i n) n i)≤eu w:=ht
  obtain⟨e1,e2⟩:=xp h i n (by omega)
  show dh (cQ w i n) n i=w∧_
  rw[e1] at ht⊢
  rcases ig h n i with⟨d1,d2⟩|⟨d1,d2⟩
  ·refine⟨d2,fun m hm=>?_⟩
   rcases ct m n with hlt|hge
   ·exact e2 m hlt
   ·obtain rfl:m=n:=by omega
    exact d1
  ·omega
theorem uM {w:Wrl}(h:WOK w):∀k:Nat,eu (bI w k)≤eu w→bI w k=w∧∀i m:Nat,i<k→m<w.com.length→eJ w m i=false
 |0,_=>⟨rfl,fun i _ hi _=>absurd hi (Nat.not_lt_zero i)⟩
 |k+1,ht=>by
  have ho:=ji h k
  have h1:=oB ho k (bI w k).com.length
  have ht:eu (cQ (bI w k) k (bI w k).com.length)≤eu w:=ht
  obtain⟨e1,e2⟩:=uM h k (by omega)
  show cQ (bI w k) k (bI w k).com.length=w∧_
  rw[e1] at ht⊢
  obtain⟨d1,d2⟩:=xp h k _ ht
  refine⟨d1,fun i m hi hm=>?_⟩
  rcases ct i k with hlt|hge
  ·exact e2 i m hlt hm
  ·obtain rfl:i=k:=by omega
   exact d2 m hm
theorem tr:∀(n:Nat) {w:Wrl},1519-eu w≤n→WOK w→still (cW w):=by
 have fin:∀{w:Wrl},WOK w→¬(eu w<eu (pass w)∧eu (pass w)≤1519)→still (pass w):=fun {w} h hn=>by
  have:=tH (lB h)
  obtain⟨e1,e2⟩:=uM h w.props.length (show eu (pass w)≤eu w by omega)
  have e1:pass w=w:=e1
  rw[e1]
  exact fun m i hm hi=>e2 i m hi hm
 intro n
 induction n with
 |zero=>
  intro w hn h
  rw[cW]
  split
  ·omega
  ·rename_i hh
   exact fin h hh
 |succ n ih=>
  intro w hn h
  rw[cW]
  split
  ·exact ih (by omega) (lB h)
  ·rename_i hh
   exact fin h hh
theorem vn {w:Wrl}(h:WOK w):∀r,still (aU w r)
 |0=>tr _ (ax _) h
 |r+1=>tr _ (ax _) (fT (mt (nt (gM h r)) _ _) _)
theorem G8 {w:Wrl}(hw:WOK w){p:Ppl}(hp:p∈w.props)(hd:don w.com p=true):∃m:Nat,(m:Int)∈p.members∧(m:Int)≠w.bad∧m<w.com.length:=by
 have hm:=(kk hw hp).2
 have hq:quo w.com≤fo w.com p.members:=by simpa[don] using hd
 by_cases hx:∃m∈p.members,m≠w.bad
 ·obtain⟨m,h1,h2⟩:=hx
  have:=cD hm m h1
  exact⟨m.toNat,by rw[Int.toNat_of_nonneg this.1];exact h1,by rw[Int.toNat_of_nonneg this.1];exact h2,by omega⟩
 ·exfalso
  have hf:p.members.filter (fun m=>m !=w.bad)=[]:=List.filter_eq_nil_iff.2 fun m h1 h2=>hx ⟨m,h1,by simpa using h2⟩
  have h1:=wI (c:=w.com) (b:=w.bad) (pC (fq hm))
  rw[hf] at h1
  have hle:(if w.bad∈p.members then w.com.getD w.bad.toNat 0 else 0)≤y6 w.com:=by
   have hb:=sC hw.com
   split
   ·rename_i h2
    rcases kw.1 hw.bad with h|⟨-,h⟩
    ·have:=cD hm _ h2;omega
    ·exact h
   ·exact hb.1
  have hb:=sC hw.com
  have ht:=jz hw.com
  have:quo w.com=2*n6 w.com/3+1:=by
   unfold quo
   rw[jH (by omega)]
  have h0:fo w.com []=0:=rfl
  omega
theorem HS {w:Wrl}(hw:WOK w){p q:Ppl}(hp:p∈w.props)(hq:q∈w.props)(dp:don w.com p=true)(dq:don w.com q=true)(h1:p.v.round=q.v.round)(h2:p.v.author=q.v.author):p=q:=by
 obtain⟨i,hi⟩:=gw hp
 obtain⟨k,hk⟩:=gw hq
 rcases Nat.lt_trichotomy i k with h|h|h
 ·exact(up hw h hk hi dq dp h1.symm h2.symm).elim
 ·subst h
  rw[hi] at hk
  exact ar hk
 ·exact(up hw h hi hk dp dq h1 h2).elim
theorem ny {w:Wrl}(hw:WOK w){m:Nat}(hm:m<w.com.length):w.views.getD m []∈w.views:=fj (by rw[hw.vlen];exact hm)
theorem Du {w:Wrl}(hw:WOK w)(hs:still w):∀(n:Nat) (p:Ppl),p∈w.props→don w.com p=true→p.v.round.toNat=n→∀m:Nat,m<w.com.length→(m:Int)≠w.bad→p.v∈w.views.getD m []:=by
 intro n
 induction n using Nat.strongRecOn with
 |ind n ih=>
  intro p hp hd hn m hm hb
  obtain⟨i,hi⟩:=gw hp
  have hil:=(aQ.1 hi).1
  have hdel:=hs m i hm hil
  have hgood:good w m=true:=eL.2 ⟨⟨by omega,by omega⟩,hb⟩
  have hin:qV w i=true:=aC.2 ⟨by omega,by omega⟩
  have hpr:aV w i=p:=by unfold aV;rw[mP];exact bW hi
  have hvw:view w m=w.views.getD m []:=by unfold view;rw[mP]
  unfold eJ at hdel
  rw[hgood,hin,hpr,hd,hvw] at hdel
  simp only[dX] at hdel
  obtain⟨k,k1,k2,k3⟩:=G8 hw hp hd
  have hkp:=hw.kp p hp k (by rw[hw.vlen];exact k3) k2 (.inr k1)
  have hpar:parOK (w.views.getD m []) p.v=true:=by
   rw[dK] at hkp⊢
   intro q hq
   obtain⟨u,u1,u2,u3⟩:=ce.1 (hkp q hq)
   obtain⟨p',q1,q2,rfl⟩:=hw.knw _ (ny hw k3) u u1
   have h0:=(bG (kk hw q1).1).1.1
   exact ce.2 ⟨_,ih _ (by omega) p' q1 q2 rfl m hm hb,u2,u3⟩
  rw[hpar] at hdel
  have hh:d7 (w.views.getD m []) p.v.round p.v.author=true:=by
   cases h:d7 (w.views.getD m []) p.v.round p.v.author with
   |true=>rfl
   |false=>rw[h] at hdel;cases hdel
  obtain⟨u,u1,u2,u3⟩:=ce.1 hh
  obtain⟨p',q1,q2,rfl⟩:=hw.knw _ (ny hw hm) u u1
  rw[HS hw hp q1 hd q2 u2.symm u3.symm]
  exact u1
structure Grw (w u:Wrl):Prop where
 com:u.com=w.com
 lead:u.lead=w.lead
 bad:u.bad=w.bad
 vlen:u.views.length=w.views.length
 views:∀m:Nat,∀v∈w.views.getD m [],v∈u.views.getD m []
 props:∀(k:Nat) (p:Ppl),w.props[k]?=some p→∃l,u.props[k]?=some ⟨p.v,l⟩∧∀m∈p.members,m∈l
theorem Grw.refl (w:Wrl):Grw w w:=⟨rfl,rfl,rfl,rfl,fun _ _ h=>h,fun _ p h=>⟨p.members,h,fun _ h=>h⟩⟩
theorem Grw.trans {w u x:Wrl}(h1:Grw w u)(h2:Grw u x):Grw w x:=by
 refine⟨h2.com.trans h1.com,h2.lead.trans h1.lead,h2.bad.trans h1.bad,h2.vlen.trans h1.vlen,fun m v h=>h2.views m v (h1.views m v h),fun k p h=>?_⟩
 obtain⟨l,a1,a2⟩:=h1.props k p h
 obtain⟨l2,b1,b2⟩:=h2.props k _ a1
 exact⟨l2,b1,fun m hm=>b2 m (a2 m hm)⟩
theorem Grw.plen {w u:Wrl}(h:Grw w u):w.props.length≤u.props.length:=by
 rcases ct u.props.length w.props.length with hlt|hge
 ·obtain⟨l,a1,-⟩:=h.props u.props.length _ (am hlt)
  have:=(aQ.1 a1).1
  omega
 ·exact hge
theorem DR:∀{a b:List Vtx},(a.Pairwise fun a b=>bef a b=true)→(b.Pairwise fun a b=>bef a b=true)→(∀x,x∈a↔x∈b)→a=b:=by
 have irr:∀x:Vtx,bef x x=false:=fun x=>by
  rw[cj]
  intro h
  simp only[bef,cK,aB,decide_eq_true_eq] at h
  omega
 intro a
 induction a with
 |nil=>
  intro b _ _ h
  match b with
  |[]=>rfl
  |y::b=>exact absurd ((h y).2 (by simp)) (by simp)
 |cons x a ih=>
  intro b h1 h2 h
  match b,h2,h with
  |[],_,h=>exact absurd ((h x).1 (by simp)) (by simp)
  |y::b,h2,h=>
   obtain⟨a1,a2⟩:=fv.1 h1
   obtain⟨b1,b2⟩:=fv.1 h2
   have e:x=y:=by
    rcases aA.1 ((h x).1 (by simp)) with e|hx
    ·exact e
    rcases aA.1 ((h y).2 (by simp)) with e|hy
    ·exact e.symm
    have:=pF (b1 x hx) (a1 y hy)
    rw[irr] at this
    cases this
   subst e
   rw[ih a2 b2 fun z=>?_]
   constructor
   ·intro hz
    rcases aA.1 ((h z).1 (by simp[hz])) with e|hz2
    ·have:=a1 z hz
     rw[e,irr] at this
     cases this
    ·exact hz2
   ·intro hz
    rcases aA.1 ((h z).2 (by simp[hz])) with e|hz2
    ·have:=b1 z hz
     rw[e,irr] at this
     cases this
    ·exact hz2
theorem Dv {w:Wrl}(hw:WOK w)(hs:still w){m k:Nat}(hm:m<w.com.length)(hb:(m:Int)≠w.bad)(hk:k<w.com.length)(hkb:(k:Int)≠w.bad):w.views.getD m []=w.views.getD k []:=by
 have key:∀{m k:Nat},m<w.com.length→(m:Int)≠w.bad→k<w.com.length→(k:Int)≠w.bad→∀x∈w.views.getD m [],x∈w.views.getD k []:=fun {m k} hm _ hk hkb x hx=>by
  obtain⟨p,p1,p2,rfl⟩:=hw.knw _ (ny hw hm) x hx
  exact Du hw hs _ p p1 p2 rfl k hk hkb
 exact DR (eZ (hw.gra _ (ny hw hm))).pw (eZ (hw.gra _ (ny hw hk))).pw fun x=>⟨key hm hb hk hkb x,key hk hkb hm hb x⟩
inductive Rv (g:List Vtx):Vtx→Vtx→Prop where
 |refl (u:Vtx):Rv g u u
 |step {u x v:Vtx} (hx:x∈g) (h1:x.round=u.round-1) (h2:x.author∈u.parents) (h:Rv g x v):Rv g u v
theorem Rv.trans {g:List Vtx}{u x v:Vtx}(h:Rv g u x)(h':Rv g x v):Rv g u v:=by
 induction h with
 |refl u=>exact h'
 |step hx h1 h2 _ ih=>exact .step hx h1 h2 (ih h')
theorem Rv.mem {g:List Vtx}{u v:Vtx}(h:Rv g u v)(hu:u∈g):v∈g:=by
 induction h with
 |refl u=>exact hu
 |step hx _ _ _ ih=>exact ih hx
theorem Rv.round {g:List Vtx}{u v:Vtx}(h:Rv g u v):v.round≤u.round:=by
 induction h with
 |refl u=>exact Int.le_refl _
 |step _ h1 _ _ ih=>omega
theorem Rv.mono {g U:List Vtx}(hs:∀v∈g,v∈U){u v:Vtx}(h:Rv g u v):Rv U u v:=by
 induction h with
 |refl u=>exact .refl u
 |step hx h1 h2 _ ih=>exact .step (hs _ hx) h1 h2 ih
theorem rL {g:List Vtx}(h:g.Pairwise fun a b=>bef a b=true){u v:Vtx}(hu:u∈g)(hv:v∈g)(h1:u.round=v.round)(h2:u.author=v.author):u=v:=by
 obtain⟨i,hi⟩:=gw hu
 obtain⟨k,hk⟩:=gw hv
 rcases Nat.lt_trichotomy i k with hlt|rfl|hlt
 ·have:=ic h hlt hi hk
  simp only[bef,cK,aB,decide_eq_true_eq] at this
  omega
 ·rw[hi] at hk;exact ar hk
 ·have:=ic h hlt hk hi
  simp only[bef,cK,aB,decide_eq_true_eq] at this
  omega
theorem Rv.down {c:List Int}{g U:List Vtx}(hg:GraOK c g)(hU:GraOK c U)(hs:∀v∈g,v∈U){u v:Vtx}(h:Rv U u v)(hu:u∈g):Rv g u v:=by
 induction h with
 |refl u=>exact .refl u
 | @step u x v hx h1 h2 _ ih=>
  obtain⟨y,y1,y2,y3⟩:=ce.1 (dK.1 (hg.par u hu) _ h2)
  have e:y=x:=rL hU.pw (hs y y1) hx (by omega) y3
  subst e
  exact .step y1 h1 h2 (ih y1)
def gx (l:List Int)(w:Nat):Int:=l.getD (w-1) 0
def qK (g:List Vtx)(l:List Int)(w:Nat):Option Vtx:=g.find? (fl (2*(w:Int)-1) (gx l w))
theorem sR {g:List Vtx}{l:List Int}{w:Nat}{v:Vtx}(h:qK g l w=some v):v∈g∧v.round=2*(w:Int)-1∧v.author=gx l w:=
 ⟨tO h,iw.1 (List.find?_some h)⟩
def tQ (g:List Vtx)(l:List Int)(w:Nat):List Int:=(g.filter fun v=>v.round==2*(w:Int) && v.parents.contains (gx l w)).map (·.author)
def qZ (c:List Int)(g:List Vtx)(l:List Int)(w:Nat):Int:=if(qK g l w).isSome then fo c (tQ g l w) else 0
def DJ (c:List Int):Int:=(n6 c).tdiv 3+1
def zz (c:List Int)(g:List Vtx)(l:List Int)(w:Nat):Bool:=decide (DJ c≤qZ c g l w)
theorem ph {c:List Int}(h:comV c=true):1≤DJ c∧DJ c=n6 c/3+1:=by
 have:=jz h
 unfold DJ
 rw[jH (by omega)]
 omega
theorem rd {c:List Int}{g:List Vtx}{l:List Int}{w:Nat}(hc:comV c=true)(h:zz c g l w=true):∃v,qK g l w=some v∧DJ c≤fo c (tQ g l w):=by
 have hs:=ph hc
 unfold zz qZ at h
 have h:=of_decide_eq_true h
 cases hl:qK g l w with
 |none=>rw[hl] at h;simp at h;omega
 |some v=>rw[hl] at h;exact⟨v,rfl,by simpa using h⟩
theorem JL {g:List Vtx}{l:List Int}{w:Nat}{a:Int}:a∈tQ g l w↔∃v∈g,v.round=2*(w:Int)∧gx l w∈v.parents∧v.author=a:=by
 simp only[tQ,aD,dW,aB,beq_iff_eq,iF]
 constructor
 ·rintro⟨v,⟨h1,h2,h3⟩,h4⟩;exact⟨v,h1,h2,h3,h4⟩
 ·rintro⟨v,h1,h2,h3,h4⟩;exact⟨v,⟨h1,h2,h3⟩,h4⟩
theorem JJ {g:List Vtx}(h:g.Pairwise fun a b=>bef a b=true)(l:List Int)(w:Nat):(tQ g l w).Pairwise (· < ·):=by
 unfold tQ
 rw[lL]
 refine(h.sublist (qu ..)).imp_of_mem fun {a b} ha hb hab=>?_
 have ha:=(dW.1 ha).2
 have hb:=(dW.1 hb).2
 simp only[bef,cK,aB,decide_eq_true_eq,beq_iff_eq] at *
 omega
open Classical in
noncomputable def dwn (g:List Vtx) (l:List Int) (last:Nat):Nat→Vtx→List Nat
 |0,_=>[]
 |x+1,cur=>if x+1≤last then[] else match qK g l (x+1) with
  |some k=>if Rv g cur k then dwn g l last x k++[x+1] else dwn g l last x cur
  |none=>dwn g l last x cur
noncomputable def chn (g:List Vtx) (l:List Int) (w last:Nat):List Nat:=match qK g l w with
 |some k=>dwn g l last (w-1) k++[w]
 |none=>[w]
noncomputable def cmt (c:List Int) (g:List Vtx) (l:List Int):Nat→List Nat×Nat
 |0=>([],0)
 |n+1=>if zz c g l (n+1) then((cmt c g l n).1++chn g l (n+1) (cmt c g l n).2,n+1) else cmt c g l n
open Classical in
theorem rg (g:List Vtx)(l:List Int)(last:Nat):∀(x:Nat) (cur:Vtx),∀w∈dwn g l last x cur,1≤w∧w≤x∧∃k,qK g l w=some k
 |0,_,w,hw=>by simp[dwn] at hw
 |x+1,cur,w,hw=>by
  unfold dwn at hw
  split at hw
  ·cases hw
  ·split at hw
   ·rename_i k hk
    split at hw
    ·rcases bi.1 hw with h|h
     ·obtain⟨h1,h2,h3⟩:=rg g l last x k w h
      exact⟨h1,by omega,h3⟩
     ·obtain rfl:=aY.1 h
      exact⟨by omega,ax _,k,hk⟩
    ·obtain⟨h1,h2,h3⟩:=rg g l last x cur w hw
     exact⟨h1,by omega,h3⟩
   ·obtain⟨h1,h2,h3⟩:=rg g l last x cur w hw
    exact⟨h1,by omega,h3⟩
theorem mX {c:List Int}{g:List Vtx}(hc:comV c=true)(l:List Int):∀n:Nat,∀w∈(cmt c g l n).1,1≤w∧w≤n∧∃k,qK g l w=some k
 |0,w,hw=>by simp[cmt] at hw
 |n+1,w,hw=>by
  unfold cmt at hw
  split at hw
  ·rename_i hd
   obtain⟨k,hk,-⟩:=rd hc hd
   rcases bi.1 hw with h|h
   ·obtain⟨h1,h2,h3⟩:=mX hc l n w h
    exact⟨h1,by omega,h3⟩
   ·unfold chn at h
    rw[hk] at h
    rcases bi.1 h with h|h
    ·obtain⟨h1,h2,h3⟩:=rg g l _ _ k w h
     exact⟨h1,by omega,h3⟩
    ·obtain rfl:=aY.1 h
     exact⟨by omega,ax _,k,hk⟩
  ·obtain⟨h1,h2,h3⟩:=mX hc l n w hw
   exact⟨h1,by omega,h3⟩
open Classical in
noncomputable def ordW (g:List Vtx) (l:List Int) (acc:List Vtx) (w:Nat):List Vtx:=match qK g l w with
 |some k=>g.filter fun v=>decide (Rv g k v) && (decide (2*(w:Int)-7≤v.round) && decide (v∉acc))
 |none=>[]
noncomputable def ordTo (g:List Vtx) (l:List Int) (acc:List Vtx) (ws:List Nat):List Vtx:=ws.foldl (fun acc w=>acc++ordW g l acc w) acc
theorem nZ (g:List Vtx)(l:List Int)(acc:List Vtx)(w:Nat)(ws:List Nat):ordTo g l acc (w::ws)=ordTo g l (acc++ordW g l acc w) ws:=rfl
theorem Dh (g:List Vtx)(l:List Int)(acc:List Vtx)(ws ws':List Nat):ordTo g l acc (ws++ws')=ordTo g l (ordTo g l acc ws) ws':=by simp[ordTo,List.foldl_append]
noncomputable def ordG (c:List Int) (g:List Vtx) (l:List Int):List Vtx:=ordTo g l [] (cmt c g l l.length).1
end Go.Proofs.YtpefhoohfkeflaaGreatDoor.Am
namespace Go.Proofs.YtpefhoohfkeflaaGreatDoor.Am
open Go
def pix (g:List Vtx)(v:Vtx):List (Option Nat):=v.parents.map fun a=>g.findIdx? (fl (v.round-1) a)
theorem kI {g:List Vtx}{r a:Int}{k:Nat}(h:g.findIdx? (fl r a)=some k):∃x,g[k]?=some x∧x.round=r∧x.author=a:=by
 obtain⟨hk,h1,-⟩:=wN.1 h
 exact⟨_,am hk,iw.1 h1⟩
theorem nU {c:List Int}{g:List Vtx}(hg:GraOK c g){k:Nat}{x:Vtx}(h:g[k]?=some x):g.findIdx? (fl x.round x.author)=some k:=by
 cases hf:g.findIdx? (fl x.round x.author) with
 |none=>
  have:=px.1 hf x (bn h)
  rw[iw.2 ⟨rfl,rfl⟩] at this
  cases this
 |some j=>
  obtain⟨y,h1,h2,h3⟩:=kI hf
  have e:=rL hg.pw (bn h1) (bn h) h2 h3
  subst e
  rw[pw_idx hg h1 h]
where
 pw_idx {c:List Int} {g:List Vtx} (hg:GraOK c g) {i k:Nat} {x:Vtx} (h1:g[i]?=some x) (h2:g[k]?=some x):i=k:=by
  rcases Nat.lt_trichotomy i k with hlt|rfl|hlt
  ·have:=ic hg.pw hlt h1 h2
   simp only[bef,cK,aB,decide_eq_true_eq] at this
   omega
  ·rfl
  ·have:=ic hg.pw hlt h2 h1
   simp only[bef,cK,aB,decide_eq_true_eq] at this
   omega
theorem ER {c:List Int}{g:List Vtx}(hg:GraOK c g){i k:Nat}{x:Vtx}(h1:g[i]?=some x)(h2:g[k]?=some x):i=k:=by
 have e1:=nU hg h1
 have e2:=nU hg h2
 rw[e1] at e2
 exact ar e2
theorem oY {c:List Int}{g:List Vtx}(hg:GraOK c g){v:Vtx}(hv:v∈g){o:Option Nat}(h:o∈pix g v):∃k x,o=some k∧g[k]?=some x∧x.round=v.round-1∧x.author∈v.parents:=by
 obtain⟨a,ha,rfl⟩:=aD.1 h
 obtain⟨x,x1,x2,x3⟩:=ce.1 (dK.1 (hg.par v hv) a ha)
 obtain⟨k,hk⟩:=gw x1
 have:=nU hg hk
 rw[x2,x3] at this
 exact⟨k,x,this,hk,x2,x3▸ha⟩
theorem F8 {c:List Int}{g:List Vtx}(hg:GraOK c g){v x:Vtx}(hv:v∈g){k:Nat}(h:some k∈pix g v)(hx:g[k]?=some x):Rv g v x:=by
 obtain⟨k',x',e,h1,h2,h3⟩:=oY hg hv h
 obtain rfl:=ar e
 rw[hx] at h1
 obtain rfl:=ar h1
 exact .step (bn hx) h2 h3 (.refl x)
theorem uQ {c:List Int}{g:List Vtx}(hg:GraOK c g){S:Nat→Prop}(hS:∀i v,g[i]?=some v→S i→∀k,some k∈pix g v→S k){u v:Vtx}(h:Rv g u v):∀i k,g[i]?=some u→S i→g[k]?=some v→S k:=by
 induction h with
 |refl u=>
  intro i k h1 h2 h3
  rw[←ER hg h1 h3]
  exact h2
 | @step u x v hx h1 h2 _ ih=>
  intro i k hi hs hk
  obtain⟨j,hj⟩:=gw hx
  have:=nU hg hj
  exact ih j k hj (hS i u hi hs j (aD.2 ⟨x.author,h2,by rw[←h1];exact this⟩)) hk
structure Dfs (g:List Vtx)(u:Vtx)(n j:Nat)(re:List Bool)(wt:List (Option Nat)):Prop where
 len:re.length=g.length
 snd:∀(i:Nat) (v:Vtx),g[i]?=some v→re[i]?=some true→Rv g u v
 wtg:∀o∈wt,∃k,o=some k∧re[k]?=some true
 cur:∀v:Vtx,g[n]?=some v→re[n]?=some true
 cls:∀(i:Nat) (v:Vtx),g[i]?=some v→re[i]?=some true→some i∈wt∨(i=n∧∀(k q:Nat),k<j→(pix g v)[k]?=some (some q)→re[q]?=some true)∨∀q:Nat,some q∈pix g v→re[q]?=some true
theorem Nn {c:List Int}{g:List Vtx}(hg:GraOK c g){st:Nat}{u:Vtx}(h:g[st]?=some u):Dfs g u g.length 0 ((List.replicate g.length false).set st true) [some st]:=by
 have hl:=(aQ.1 h).1
 have key:∀i:Nat,((List.replicate g.length false).set st true)[i]?=some true→i=st:=fun i hi=>by
  rw[dx] at hi
  split at hi
  ·omega
  ·rw[mL] at hi
   split at hi<;>cases hi
 have hst:((List.replicate g.length false).set st true)[st]?=some true:=by
  rw[dx,if_pos rfl,if_pos (by simpa using hl)]
 refine⟨by simp,fun i v hi hr=>?_,fun o ho=>⟨st,by simpa using ho,hst⟩,fun v hv=>?_,fun i v hi hr=>.inl ?_⟩
 ·obtain rfl:=key i hr
  rw[h] at hi
  obtain rfl:=ar hi
  exact .refl u
 ·have:=(aQ.1 hv).1
  omega
 ·rw[key i hr]
  simp
theorem HQ {g:List Vtx}{u:Vtx}{n j:Nat}{re:List Bool}{wt:List (Option Nat)}{q:Nat}(h:Dfs g u n j re (wt++[some q]))(hn:g[n]?=none):Dfs g u q 0 re wt:=by
 refine⟨h.len,h.snd,fun o ho=>h.wtg o (bi.2 (.inl ho)),fun v _=>?_,fun i v hi hr=>?_⟩
 ·obtain⟨k,h1,h2⟩:=h.wtg (some q) (by simp)
  obtain rfl:=ar h1
  exact h2
 ·rcases h.cls i v hi hr with h1|⟨rfl,-⟩|h1
  ·rcases bi.1 h1 with h1|h1
   ·exact .inl h1
   ·refine .inr (.inl ⟨?_,fun k _ hk=>absurd hk (Nat.not_lt_zero k)⟩)
    simpa using h1
  ·rw[hn] at hi;cases hi
  ·exact .inr (.inr h1)
theorem Er {g:List Vtx}{u v:Vtx}{n j q:Nat}{re:List Bool}{wt:List (Option Nat)}(h:Dfs g u n j re wt)(hv:g[n]?=some v)(hj:(pix g v)[j]?=some (some q))(hq:re[q]?=some true):Dfs g u n (j+1) re wt:=by
 refine⟨h.len,h.snd,h.wtg,h.cur,fun i x hi hr=>?_⟩
 rcases h.cls i x hi hr with h1|⟨rfl,h1⟩|h1
 ·exact .inl h1
 ·refine .inr (.inl ⟨rfl,fun k q' hk hp=>?_⟩)
  rcases ct k j with hlt|hge
  ·exact h1 k q' hlt hp
  ·obtain rfl:k=j:=by omega
   rw[hv] at hi
   obtain rfl:=ar hi
   rw[hj] at hp
   obtain rfl:=ar (ar hp)
   exact hq
 ·exact .inr (.inr h1)
theorem gr {re:List Bool}{q i:Nat}(h:re[i]?=some true):(re.set q true)[i]?=some true:=by
 have hl:=(aQ.1 h).1
 rw[dx]
 split
 ·rename_i e
  rw[if_pos (by omega)]
 ·exact h
theorem Ep {c:List Int}{g:List Vtx}(hg:GraOK c g){u v:Vtx}{n j q:Nat}{re:List Bool}{wt:List (Option Nat)}(h:Dfs g u n j re wt)(hv:g[n]?=some v)(hj:(pix g v)[j]?=some (some q))(hq:re[q]?=some false):Dfs g u n (j+1) (re.set q true) (wt++[some q]):=by
 have hql:=(aQ.1 hq).1
 have hqt:(re.set q true)[q]?=some true:=by rw[dx,if_pos rfl,if_pos hql]
 have hne:∀i:Nat,i≠q→(re.set q true)[i]?=re[i]?:=fun i hi=>by rw[dx,if_neg (by omega)]
 refine⟨by rw[jI];exact h.len,fun i x hi hr=>?_,fun o ho=>?_,fun x hx=>gr (h.cur x hx),fun i x hi hr=>?_⟩
 ·by_cases e:i=q
  ·subst e
   exact(h.snd n v hv (h.cur v hv)).trans (F8 hg (bn hv) (bn hj) hi)
  ·rw[hne i e] at hr
   exact h.snd i x hi hr
 ·rcases bi.1 ho with ho|ho
  ·obtain⟨k,h1,h2⟩:=h.wtg o ho
   exact⟨k,h1,gr h2⟩
  ·exact⟨q,by simpa using ho,hqt⟩
 ·by_cases e:i=q
  ·subst e
   exact .inl (by simp)
  rw[hne i e] at hr
  rcases h.cls i x hi hr with h1|⟨rfl,h1⟩|h1
  ·exact .inl (bi.2 (.inl h1))
  ·refine .inr (.inl ⟨rfl,fun k q' hk hp=>?_⟩)
   rcases ct k j with hlt|hge
   ·exact gr (h1 k q' hlt hp)
   ·obtain rfl:k=j:=by omega
    rw[hv] at hi
    obtain rfl:=ar hi
    rw[hj] at hp
    obtain rfl:=ar (ar hp)
    exact hqt
  ·exact .inr (.inr fun q' hq'=>gr (h1 q' hq'))
theorem xq {g:List Vtx}{u v:Vtx}{n j:Nat}{re:List Bool}{wt:List (Option Nat)}(h:Dfs g u n j re wt)(hv:g[n]?=some v)(hj:v.parents.length≤j):Dfs g u g.length 0 re wt:=by
 refine⟨h.len,h.snd,h.wtg,fun x hx=>?_,fun i x hi hr=>?_⟩
 ·have:=(aQ.1 hx).1
  omega
 ·rcases h.cls i x hi hr with h1|⟨rfl,h1⟩|h1
  ·exact .inl h1
  ·rw[hv] at hi
   obtain rfl:=ar hi
   refine .inr (.inr fun q hq=>?_)
   obtain⟨k,hk⟩:=gw hq
   have hkl:=(aQ.1 hk).1
   unfold pix at hkl
   rw[az] at hkl
   exact h1 k q (by omega) hk
  ·exact .inr (.inr h1)
theorem HP {c:List Int}{g:List Vtx}(hg:GraOK c g){u:Vtx}{st:Nat}(hst:g[st]?=some u){re:List Bool}(h:Dfs g u g.length 0 re [])(h0:re[st]?=some true){i:Nat}{v:Vtx}(hi:g[i]?=some v):re[i]?=some true↔Rv g u v:=by
 refine⟨h.snd i v hi,fun hr=>?_⟩
 refine uQ hg (S:=fun k=>re[k]?=some true) (fun k x hk hs q hq=>?_) hr st i hst h0 hi
 rcases h.cls k x hk hs with h1|⟨rfl,-⟩|h1
 ·cases h1
 ·have:=(aQ.1 hk).1
  omega
 ·exact h1 q hq
theorem vp:∀{re:List Bool} {q:Nat},re[q]?=some false→(re.set q true).count false+1=re.count false
 |[],_,h=>by simp at h
 |b::re,0,h=>by
  simp only[iV,aw] at h
  subst h
  simp
 |b::re,q+1,h=>by
  have:=vp (re:=re) (q:=q) (by simpa using h)
  simp only[List.set_cons_succ,List.count_cons]
  omega
open Classical in
noncomputable def pst (g:List Vtx) (u:Vtx):List Int:=((List.range g.length).filter fun i=>decide (Rv g u (g.getD i v0))).map fun i:Nat=>(i:Int)
def pk (re:List Bool)(n:Nat):List Int:=((List.range n).filter fun i=>re.getD i false).map fun i:Nat=>(i:Int)
theorem AK {re:List Bool}{n:Nat}{b:Bool}(h:re[n]?=some b):pk re (n+1)=if b=true then pk re n++[(n:Int)] else pk re n:=by
 have e:re.getD n false=b:=by rw[aq,h];rfl
 simp only[pk,mH,py,cg,lP,mI,e]
 cases b<;>simp
theorem Dy (re:List Bool)(n:Nat):(pk re n).length≤n:=by
 unfold pk
 rw[az]
 exact cz (mN _ _) (by simp)
open Classical in
theorem Dz {g:List Vtx}{u:Vtx}{re:List Bool}(hl:re.length=g.length)(h:∀(i:Nat) (v:Vtx),g[i]?=some v→(re[i]?=some true↔Rv g u v)):pk re g.length=pst g u:=by
 unfold pk pst
 congr 1
 refine oc fun i hi=>?_
 have hi:=eC.1 hi
 have h1:=h i (g.getD i v0) (by rw[aq,am hi];rfl)
 rw[am (by omega)] at h1
 rw[aq,am (by omega)]
 rw[eo,decide_eq_true_iff,←h1]
 simp
open Classical in
theorem Ca {g:List Vtx}{u:Vtx}{x:Int}:x∈pst g u↔∃i:Nat,x=i∧∃v,g[i]?=some v∧Rv g u v:=by
 unfold pst
 rw[aD]
 constructor
 ·rintro⟨i,hi,rfl⟩
  obtain⟨h1,h2⟩:=dW.1 hi
  have h1:=eC.1 h1
  exact⟨i,rfl,_,by rw[aq,am h1];rfl,of_decide_eq_true h2⟩
 ·rintro⟨i,rfl,v,hv,hr⟩
  have hl:=(aQ.1 hv).1
  refine⟨i,dW.2 ⟨eC.2 hl,decide_eq_true ?_⟩,rfl⟩
  rw[aq,hv]
  exact hr
theorem I5 (g:List Vtx)(u:Vtx):(pst g u).Pairwise (· < ·):=by
 unfold pst
 rw[lL]
 exact(List.Pairwise.filter _ List.pairwise_lt_range).imp fun h=>by omega
theorem wi (g:List Vtx)(u:Vtx):(pst g u).length≤g.length:=by
 unfold pst
 rw[az]
 exact cz (mN _ _) (by simp)
theorem xP {c:List Int}:∀{g:List Vtx},GraOK c g→∀{i:Nat} {v:Vtx},g[i]?=some v→∃p,(dg g).nodes[i]?=some ⟨v,i,p⟩∧((v.parents=[]∧p=none)∨∃r,p=some r∧(dg g).rows[r]?=some (pix g v)):=by
 have raw:∀(g:List Vtx) {i:Nat} {v:Vtx},g[i]?=some v→∃p,(dg g).nodes[i]?=some ⟨v,i,p⟩∧((v.parents=[]∧p=none)∨∃r,p=some r∧(dg g).rows[r]?=some (v.parents.map fun a=>(dg (g.take i)).at (v.round-1) a)):=by
  intro g
  induction g using cq with
  |h0=>intro i v h;simp at h
  |h l x ih=>
   intro i v h
   rw[me]
   have hnl:=(fx l).1
   rcases ct i l.length with hlt|hge
   ·rw[db hlt] at h
    obtain⟨p,h1,h2⟩:=ih h
    refine⟨p,?_,?_⟩
    ·show ((dg l).nodes++_)[i]?=_
     rw[db (by omega)]
     exact h1
    ·rcases h2 with h2|⟨r,h2,h3⟩
     ·exact .inl h2
     ·refine .inr ⟨r,h2,?_⟩
      have hr:=(aQ.1 h3).1
      rw[List.take_append_of_le_length (by omega)]
      simp only[cJ]
      split
      ·exact h3
      ·rw[db hr];exact h3
   ·obtain rfl:i=l.length:=by
     have:=(aQ.1 h).1
     simp at this
     omega
    rw[fb (ax _),kr] at h
    simp only[iV,aw] at h
    subst h
    refine⟨if x.parents=[] then none else some (dg l).rows.length,?_,?_⟩
    ·show ((dg l).nodes++_)[l.length]?=_
     rw[←hnl,fb (ax _),kr]
     rfl
    ·by_cases hp:x.parents=[]
     ·exact .inl ⟨hp,by rw[if_pos hp]⟩
     ·refine .inr ⟨_,by rw[if_neg hp],?_⟩
      simp only[cJ]
      rw[if_neg hp,fb (ax _),kr,List.take_left]
      rfl
 rename_i g
 intro hg i v h
 obtain⟨p,h1,h2⟩:=raw g h
 refine⟨p,h1,?_⟩
 rcases h2 with h2|⟨r,h2,h3⟩
 ·exact .inl h2
 ·refine .inr ⟨r,h2,?_⟩
  rw[h3]
  congr 1
  unfold pix
  refine qS fun a ha=>?_
  have hv:=bn h
  obtain⟨x,x1,x2,x3⟩:=ce.1 (dK.1 (hg.par v hv) a ha)
  obtain⟨k,hk⟩:=gw x1
  have hx:=nU hg hk
  rw[x2,x3] at hx
  rw[hx]
  have hil:=(aQ.1 h).1
  have hki:k<i:=by
   rcases ct k i with hlt|hge
   ·exact hlt
   ·exfalso
    rcases ct i k with hlt|hge2
    ·have:=ic hg.pw hlt h hk
     simp only[bef,cK,aB,decide_eq_true_eq] at this
     omega
    ·obtain rfl:i=k:=by omega
     rw[h] at hk
     obtain rfl:=ar hk
     omega
  have hvt:=(bG (hg.vtx v hv)).1
  have hxt:=dw hg.com (hg.vtx x x1)
  have ht:∀u∈g.take i,jq u:=fun u hu=>dw hg.com (hg.vtx u (j7 hu))
  have hk2:(g.take i)[k]?=some x:=by rw[eA,if_pos hki];exact hk
  have hin:=(vT ht (r:=v.round-1) (a:=a) (by have:=hxt.1;omega) (by have:=hxt.2;omega))
  have hsome:d7 (g.take i) (v.round-1) a=true:=ce.2 ⟨x,bn hk2,x2,x3⟩
  obtain⟨j,hj⟩:=mK.1 (hin.1.trans hsome)
  rw[hj]
  have hjx:=hin.2 j hj
  exact congrArg some (gst_j hg hki hjx hk x2 x3)
where
 gst_j {c:List Int} {g:List Vtx} (hg:GraOK c g) {i j k:Nat} {a r:Int} {x:Vtx} (hki:k<i) (hj:∃y,(g.take i)[j]?=some y∧y.round=r∧y.author=a) (hk:g[k]?=some x) (x2:x.round=r) (x3:x.author=a):j=k:=by
  obtain⟨y,y1,y2,y3⟩:=hj
  have y1':g[j]?=some y:=by
   rw[eA] at y1
   split at y1
   ·exact y1
   ·cases y1
  have e:=rL hg.pw (bn y1') (bn hk) (by omega) (by rw[y3,x3])
  subst e
  exact ER hg y1' hk
end Go.Proofs.YtpefhoohfkeflaaGreatDoor.Am
namespace Go.Proofs.YtpefhoohfkeflaaGreatDoor.Am
open Go
structure Sph (g:List Vtx)(u:Vtx)(st m:Nat)(re:List Bool):Prop where
 len:re.length=g.length
 snd:∀(i:Nat) (v:Vtx),g[i]?=some v→re[i]?=some true→Rv g u v
 top:re[st]?=some true
 cls:∀(i:Nat) (v:Vtx),g[i]?=some v→re[i]?=some true→i<m∨∀q:Nat,some q∈pix g v→re[q]?=some true
structure Spi (g:List Vtx)(u:Vtx)(st n j:Nat)(re:List Bool):Prop where
 len:re.length=g.length
 snd:∀(i:Nat) (v:Vtx),g[i]?=some v→re[i]?=some true→Rv g u v
 top:re[st]?=some true
 cur:re[n]?=some true∨j=0
 cls:∀(i:Nat) (v:Vtx),g[i]?=some v→re[i]?=some true→i<n∨(i=n∧∀(k q:Nat),k<j→(pix g v)[k]?=some (some q)→re[q]?=some true)∨∀q:Nat,some q∈pix g v→re[q]?=some true
theorem N0 {g:List Vtx}{st:Nat}{u:Vtx}(h:g[st]?=some u):Sph g u st (st+1) ((List.replicate g.length false).set st true):=by
 have hl:=(aQ.1 h).1
 have key:∀i:Nat,((List.replicate g.length false).set st true)[i]?=some true→i=st:=fun i hi=>by
  rw[dx] at hi
  split at hi
  ·omega
  ·rw[mL] at hi
   split at hi<;>cases hi
 have hst:((List.replicate g.length false).set st true)[st]?=some true:=by
  rw[dx,if_pos rfl,if_pos (by simpa using hl)]
 refine⟨by simp,fun i v hi hr=>?_,hst,fun i v hi hr=>.inl ?_⟩
 ·obtain rfl:=key i hr
  rw[h] at hi
  obtain rfl:=ar hi
  exact .refl u
 ·rw[key i hr]
  omega
theorem MG {g:List Vtx}{u:Vtx}{st m:Nat}{re:List Bool}(h:Sph g u st (m+1) re):Spi g u st m 0 re:=by
 refine⟨h.len,h.snd,h.top,.inr rfl,fun i v hi hr=>?_⟩
 rcases h.cls i v hi hr with h1|h1
 ·rcases ct i m with h2|h2
  ·exact .inl h2
  ·exact .inr (.inl ⟨by omega,fun k _ hk=>absurd hk (Nat.not_lt_zero k)⟩)
 ·exact .inr (.inr h1)
theorem Md {c:List Int}{g:List Vtx}(hg:GraOK c g){n q:Nat}{v:Vtx}(hv:g[n]?=some v)(hq:some q∈pix g v):q<n:=by
 obtain⟨k,x,e,h1,h2,h3⟩:=oY hg (bn hv) hq
 obtain rfl:=ar e
 rcases Nat.lt_trichotomy q n with h|h|h
 ·exact h
 ·subst h
  rw[hv] at h1
  obtain rfl:=ar h1
  omega
 ·have:=ic hg.pw h hv h1
  rw[bef_iff'] at this
  omega
where
 bef_iff' {a b:Vtx}:bef a b=true↔a.round<b.round∨(a.round=b.round∧a.author<b.author):=by
  simp only[bef,cK,aB,decide_eq_true_eq]
theorem Jw {c:List Int}{g:List Vtx}(hg:GraOK c g){u v:Vtx}{st n j q:Nat}{re:List Bool}(h:Spi g u st n j re)(hv:g[n]?=some v)(hn:re[n]?=some true)(hj:(pix g v)[j]?=some (some q)):Spi g u st n (j+1) (re.set q true):=by
 have hqm:=bn hj
 have hqn:=Md hg hv hqm
 have hnl:=(aQ.1 hn).1
 have hqt:(re.set q true)[q]?=some true:=by rw[dx,if_pos rfl,if_pos (by omega)]
 have hne:∀i:Nat,i≠q→(re.set q true)[i]?=re[i]?:=fun i hi=>by rw[dx,if_neg (by omega)]
 refine⟨by rw[jI];exact h.len,fun i x hi hr=>?_,gr h.top,.inl (gr hn),fun i x hi hr=>?_⟩
 ·by_cases e:i=q
  ·subst e
   exact(h.snd n v hv hn).trans (F8 hg (bn hv) hqm hi)
  ·rw[hne i e] at hr
   exact h.snd i x hi hr
 ·by_cases e:i=q
  ·subst e
   exact .inl hqn
  rw[hne i e] at hr
  rcases h.cls i x hi hr with h1|⟨rfl,h1⟩|h1
  ·exact .inl h1
  ·refine .inr (.inl ⟨rfl,fun k q' hk hp=>?_⟩)
   rcases ct k j with hlt|hge
   ·exact gr (h1 k q' hlt hp)
   ·obtain rfl:k=j:=by omega
    rw[hv] at hi
    obtain rfl:=ar hi
    rw[hj] at hp
    obtain rfl:=ar (ar hp)
    exact hqt
  ·exact .inr (.inr fun q' hq'=>gr (h1 q' hq'))
theorem Cn {g:List Vtx}{u v:Vtx}{st n j:Nat}{re:List Bool}(h:Spi g u st n j re)(hv:g[n]?=some v)(hj:re[n]?=some false∨v.parents.length≤j):Sph g u st n re:=by
 refine⟨h.len,h.snd,h.top,fun i x hi hr=>?_⟩
 rcases h.cls i x hi hr with h1|⟨rfl,h1⟩|h1
 ·exact .inl h1
 ·rw[hv] at hi
  obtain rfl:=ar hi
  rcases hj with hj|hj
  ·rw[hr] at hj;cases hj
  refine .inr fun q hq=>?_
  obtain⟨k,hk⟩:=gw hq
  have hkl:=(aQ.1 hk).1
  unfold pix at hkl
  rw[az] at hkl
  exact h1 k q (by omega) hk
 ·exact .inr h1
open Classical in
noncomputable def pfl (g:List Vtx) (u:Vtx):List Bool:=g.map fun v=>decide (Rv g u v)
open Classical in
theorem Al {g:List Vtx}{u v:Vtx}{i:Nat}(h:g[i]?=some v):(pfl g u)[i]?=some (decide (Rv g u v)):=by
 rw[pfl,bf,h];rfl
open Classical in
theorem KX {g:List Vtx}{u:Vtx}{re:List Bool}(hl:re.length=g.length)(h:∀(i:Nat) (v:Vtx),g[i]?=some v→(re[i]?=some true↔Rv g u v)):re=pfl g u:=by
 refine mJ fun i=>?_
 rcases ct i g.length with hi|hi
 ·have hv:=am hi
  have h1:=h i _ hv
  rw[Al hv]
  rw[am (by omega)] at h1⊢
  congr 1
  rw[eo,decide_eq_true_iff,←h1]
  simp
 ·rw[dP (by omega),dP (by simpa[pfl] using hi)]
theorem Jv {c:List Int}{g:List Vtx}(hg:GraOK c g){u:Vtx}{st:Nat}(hst:g[st]?=some u){re:List Bool}(h:Sph g u st 0 re):re=pfl g u:=by
 refine KX h.len fun i v hi=>⟨h.snd i v hi,fun hr=>?_⟩
 refine uQ hg (S:=fun k=>re[k]?=some true) (fun k x hk hs q hq=>?_) hr st i hst h.top hi
 rcases h.cls k x hk hs with h1|h1
 ·omega
 ·exact h1 q hq
open Classical in
theorem oC (g:List Vtx)(l:List Int)(last:Nat):∀(x:Nat) (cur:Vtx),(dwn g l last x cur).Pairwise (· < ·)∧∀w∈dwn g l last x cur,last<w∧w≤x
 |0,cur=>by simp[dwn]
 |x+1,cur=>by
  unfold dwn
  by_cases hx:x+1≤last
  ·rw[if_pos hx];simp
  rw[if_neg hx]
  have st:∀cur:Vtx,(dwn g l last x cur).Pairwise (· < ·)∧∀w∈dwn g l last x cur,last<w∧w≤x+1:=fun cur=>
   ⟨(oC g l last x cur).1,fun w hw=>⟨((oC g l last x cur).2 w hw).1,by have:=((oC g l last x cur).2 w hw).2;omega⟩⟩
  split
  ·rename_i k hk
   split
   ·obtain⟨h1,h2⟩:=oC g l last x k
    refine⟨qp.2 ⟨h1,List.pairwise_singleton _ _,fun a ha b hb=>?_⟩,fun w hw=>?_⟩
    ·obtain rfl:=aY.1 hb
     have:=h2 a ha
     omega
    ·rcases bi.1 hw with hw|hw
     ·have:=h2 w hw
      omega
     ·obtain rfl:=aY.1 hw
      omega
   ·exact st cur
  ·exact st cur
theorem A3 (g:List Vtx)(l:List Int){w last:Nat}(hw:last<w):(chn g l w last).Pairwise (· < ·)∧∀x∈chn g l w last,last<x∧x≤w:=by
 unfold chn
 split
 ·rename_i k hk
  obtain⟨h1,h2⟩:=oC g l last (w-1) k
  refine⟨qp.2 ⟨h1,List.pairwise_singleton _ _,fun a ha b hb=>?_⟩,fun x hx=>?_⟩
  ·obtain rfl:=aY.1 hb
   have:=h2 a ha
   omega
  ·rcases bi.1 hx with hx|hx
   ·have:=h2 x hx
    omega
   ·obtain rfl:=aY.1 hx
    omega
 ·exact⟨List.pairwise_singleton _ _,fun x hx=>by obtain rfl:=aY.1 hx;omega⟩
theorem ov (c:List Int)(g:List Vtx)(l:List Int):∀n:Nat,(cmt c g l n).2≤n∧(cmt c g l n).1.Pairwise (· < ·)∧∀w∈(cmt c g l n).1,w≤(cmt c g l n).2
 |0=>by simp[cmt]
 |n+1=>by
  obtain⟨h1,h2,h3⟩:=ov c g l n
  unfold cmt
  split
  ·obtain⟨h4,h5⟩:=A3 g l (w:=n+1) (last:=(cmt c g l n).2) (by omega)
   refine⟨ax _,qp.2 ⟨h2,h4,fun a ha b hb=>?_⟩,fun w hw=>?_⟩
   ·have:=h3 a ha
    have:=(h5 b hb).1
    omega
   ·rcases bi.1 hw with hw|hw
    ·have:=h3 w hw
     show w≤n+1
     omega
    ·exact(h5 w hw).2
  ·exact⟨by omega,h2,h3⟩
def y7 (g:List Vtx)(l:List Int)(w:Nat)(v:Vtx):Prop:=∃k,qK g l w=some k∧Rv g k v∧2*(w:Int)-7≤v.round
open Classical in
noncomputable def wvk (g:List Vtx) (l:List Int) (ws:List Nat) (v:Vtx):Int:=match ws.find? fun w=>decide (y7 g l w v) with
 |some w=>(w:Int)
 |none=>0
open Classical in
theorem tM (g:List Vtx)(l:List Int)(ws:List Nat)(w:Nat)(v:Vtx)(hp:∀w∈ws,1≤w):wvk g l (ws++[w]) v=if wvk g l ws v=0∧y7 g l w v then(w:Int) else wvk g l ws v:=by
 unfold wvk
 rw[List.find?_append]
 cases h:ws.find? fun w=>decide (y7 g l w v) with
 |none=>
  simp only[Option.none_or,List.find?_cons,List.find?_nil,true_and]
  by_cases hi:y7 g l w v
  ·simp[hi]
  ·simp[hi]
 |some x=>
  have:=hp x (tO h)
  simp only[Option.some_or]
  rw[if_neg (by omega)]
open Classical in
theorem y5 {g:List Vtx}{l:List Int}{ws:List Nat}{v:Vtx}(hp:∀w∈ws,1≤w):wvk g l ws v=0↔∀w∈ws,¬y7 g l w v:=by
 unfold wvk
 cases h:ws.find? fun w=>decide (y7 g l w v) with
 |none=>
  have:=List.find?_eq_none.1 h
  simp only[true_iff]
  intro w hw hi
  exact this w hw (decide_eq_true hi)
 |some x=>
  have h1:=hp x (tO h)
  have h2:y7 g l x v:=by
   have:=List.find?_some h
   simpa using this
  refine⟨fun h0=>?_,fun h0=>absurd h2 (h0 x (tO h))⟩
  simp only at h0
  omega
open Classical in
theorem CB {g:List Vtx}{l:List Int}{ws:List Nat}{v:Vtx}(h:wvk g l ws v≠0):∃w∈ws,wvk g l ws v=(w:Int):=by
 unfold wvk at h⊢
 cases hf:ws.find? fun w=>decide (y7 g l w v) with
 |none=>rw[hf] at h;exact absurd rfl h
 |some x=>exact⟨x,tO hf,rfl⟩
open Classical in
theorem F4 {g:List Vtx}{l:List Int}{acc:List Vtx}{w:Nat}{v:Vtx}:v∈ordW g l acc w↔v∈g∧y7 g l w v∧v∉acc:=by
 unfold ordW y7
 cases h:qK g l w with
 |none=>simp
 |some k=>
  simp only[dW,aB,decide_eq_true_eq,aw,exists_eq_left',and_assoc]
open Classical in
theorem uJ {g:List Vtx}{l:List Int}:∀{ws:List Nat} {acc:List Vtx} {v:Vtx},v∈ordTo g l acc ws↔v∈acc∨(v∈g∧∃w∈ws,y7 g l w v)
 |[],acc,v=>by simp[ordTo]
 |w::ws,acc,v=>by
  rw[nZ,uJ]
  simp only[bi,F4,aA,exists_eq_or_imp]
  constructor
  ·rintro((h|⟨h1,h2,h3⟩)|⟨h1,h2⟩)
   ·exact .inl h
   ·exact .inr ⟨h1,.inl h2⟩
   ·exact .inr ⟨h1,.inr h2⟩
  ·rintro(h|⟨h1,h2|h2⟩)
   ·exact .inl (.inl h)
   ·by_cases hm:v∈acc
    ·exact .inl (.inl hm)
    ·exact .inl (.inr ⟨h1,h2,hm⟩)
   ·exact .inr ⟨h1,h2⟩
open Classical in
theorem Ai (g:List Vtx)(l:List Int)(ws:List Nat)(hp:∀w∈ws,1≤w)(hn:ws.Pairwise (· < ·)):ordTo g l [] ws=ws.flatMap fun w:Nat=>g.filter fun v=>decide (wvk g l ws v=(w:Int)):=by
 induction ws using cq with
 |h0=>rfl
 |h ws w ih=>
  have hp':∀x∈ws,1≤x:=fun x hx=>hp x (bi.2 (.inl hx))
  obtain⟨hn1,-,hn2⟩:=qp.1 hn
  have hlt:∀x∈ws,x<w:=fun x hx=>hn2 x hx w (by simp)
  have hw1:1≤w:=hp w (by simp)
  rw[Dh,List.flatMap_append,ih hp' hn1]
  have e1:∀x∈ws,(g.filter fun v=>decide (wvk g l (ws++[w]) v=(x:Int)))=g.filter fun v=>decide (wvk g l ws v=(x:Int)):=fun x hx=>by
   refine oc fun v _=>?_
   rw[tM g l ws w v hp']
   have hx1:=hp' x hx
   have hx2:=hlt x hx
   split
   ·rename_i h
    rw[h.1,decide_eq_false (by omega),decide_eq_false (by omega)]
   ·rfl
  rw[show (ws.flatMap fun x:Nat=>g.filter fun v=>decide (wvk g l (ws++[w]) v=(x:Int)))=ws.flatMap fun x:Nat=>g.filter fun v=>decide (wvk g l ws v=(x:Int)) from flat_congr e1]
  rw[←ih hp' hn1]
  show ordTo g l [] ws++ordW g l (ordTo g l [] ws) w=_
  congr 1
  rw[gD,List.flatMap_nil,gG]
  have e2:∀v,wvk g l (ws++[w]) v=(w:Int)↔y7 g l w v∧∀x∈ws,¬y7 g l x v:=fun v=>by
   rw[tM g l ws w v hp']
   constructor
   ·intro h
    split at h
    ·rename_i h2
     exact⟨h2.2,(y5 hp').1 h2.1⟩
    ·exfalso
     obtain⟨x,hx,hxe⟩:=CB (g:=g) (l:=l) (ws:=ws) (v:=v) (by omega)
     have:=hlt x hx
     omega
   ·rintro⟨h1,h2⟩
    rw[if_pos ⟨(y5 hp').2 h2,h1⟩]
  unfold ordW
  cases hl:qK g l w with
  |none=>
   symm
   rw[List.filter_eq_nil_iff]
   intro v _ h
   obtain⟨⟨k,hk,-⟩,-⟩:=(e2 v).1 (of_decide_eq_true h)
   rw[hl] at hk
   cases hk
  |some k=>
   refine oc fun v hv=>?_
   rw[eo]
   simp only[aB,decide_eq_true_eq,e2,uJ,y7,hl,aw,exists_eq_left',gE,false_or,not_and,not_exists,and_assoc]
   constructor
   ·rintro⟨h1,h2,h3⟩
    exact⟨h1,h2,fun x hx k hk hr hd=>h3 hv x hx k hk hr hd⟩
   ·rintro⟨h1,h2,h3⟩
    exact⟨h1,h2,fun _ x hx k hk hr hd=>h3 x hx k hk hr hd⟩
where
 flat_congr {α β:Type} {l:List α} {f f':α→List β} (h:∀x∈l,f x=f' x):l.flatMap f=l.flatMap f':=by
  induction l with
  |nil=>rfl
  |cons x l ih=>rw[gD,gD,h x (by simp),ih fun y hy=>h y (by simp[hy])]
theorem qH {α β:Type}{f:α→List β}(p:α→Bool):∀(l:List α),(∀x∈l,p x=false→f x=[])→l.flatMap f=(l.filter p).flatMap f
 |[],_=>rfl
 |x::l,h=>by
  rw[gD,qH p l fun y hy=>h y (by simp[hy]),lP]
  cases hp:p x
  ·rw[h x (by simp) hp];rfl
  ·rfl
theorem DQ {a b:List Nat}(ha:a.Pairwise (· < ·))(hb:b.Pairwise (· < ·))(h:∀x,x∈a↔x∈b):a=b:=by
 induction a generalizing b with
 |nil=>
  cases b with
  |nil=>rfl
  |cons y b=>exact absurd ((h y).2 (by simp)) (by simp)
 |cons x a ih=>
  obtain⟨a1,a2⟩:=fv.1 ha
  cases b with
  |nil=>exact absurd ((h x).1 (by simp)) (by simp)
  |cons y b=>
   obtain⟨b1,b2⟩:=fv.1 hb
   have e:x=y:=by
    rcases Nat.lt_trichotomy x y with hlt|e|hlt
    ·rcases aA.1 ((h x).1 (by simp)) with e|hm
     ·exact e
     ·have:=b1 x hm;omega
    ·exact e
    ·rcases aA.1 ((h y).2 (by simp)) with e|hm
     ·exact e.symm
     ·have:=a1 y hm;omega
   subst e
   congr 1
   refine ih a2 b2 fun z=>?_
   have hz:=h z
   simp only[aA] at hz
   constructor
   ·intro hm
    have:=a1 z hm
    rcases hz.1 (.inr hm) with e|e
    ·omega
    ·exact e
   ·intro hm
    have:=b1 z hm
    rcases hz.2 (.inr hm) with e|e
    ·omega
    ·exact e
open Classical in
theorem Dg {c:List Int}{g:List Vtx}(hc:comV c=true)(l:List Int):ordG c g l=(List.range' 1 l.length).flatMap fun w:Nat=>g.filter fun v=>decide (wvk g l (cmt c g l l.length).1 v=(w:Int)):=by
 have h1:=mX (g:=g) hc l l.length
 obtain⟨h2,h3,h4⟩:=ov c g l l.length
 unfold ordG
 rw[Ai g l _ (fun w hw=>(h1 w hw).1) h3]
 rw[qH (fun w=>decide (w∈(cmt c g l l.length).1)) (List.range' 1 l.length)]
 ·congr 1
  refine DQ h3 ((List.pairwise_lt_range').filter _) fun w=>?_
  rw[dW,List.mem_range'_1,decide_eq_true_iff]
  refine⟨fun h=>⟨?_,h⟩,fun h=>h.2⟩
  have:=h1 w h
  omega
 ·intro w hw hn
  have hw:=List.mem_range'_1.1 hw
  rw[List.filter_eq_nil_iff]
  intro v _ h
  have h:=of_decide_eq_true h
  obtain⟨x,hx,hxe⟩:=CB (g:=g) (l:=l) (ws:=(cmt c g l l.length).1) (v:=v) (by omega)
  have:x=w:=by omega
  subst this
  exact of_decide_eq_false hn hx
def y8 (xs:List Int)(w:Int)(n:Nat):List Int:=((List.range n).filter fun i=>xs.getD i 0==w).map fun i:Nat=>(i:Int)
theorem GG {xs:List Int}{w x:Int}{n:Nat}(h:xs[n]?=some x):y8 xs w (n+1)=if x=w then y8 xs w n++[(n:Int)] else y8 xs w n:=by
 have e:xs.getD n 0=x:=by rw[aq,h];rfl
 simp only[y8,mH,cg,py,lP,mI,e]
 by_cases hx:x=w
 ·simp[hx]
 ·simp[hx]
def jZ (xs:List Int)(m:Nat):List Int:=(List.range' 1 m).flatMap fun w:Nat=>y8 xs (w:Int) xs.length
theorem tx (xs:List Int)(m:Nat):jZ xs (m+1)=jZ xs m++y8 xs ((m+1:Nat):Int) xs.length:=by
 unfold jZ
 rw[List.range'_concat,List.flatMap_append,gD,List.flatMap_nil,gG,iK,Nat.add_comm 1 m]
def iD (v:Vtx):Slt:=⟨v.round,v.author⟩
open Classical in
theorem Jo {c:List Int}{g:List Vtx}(hc:comV c=true)(l:List Int):(jZ (g.map (wvk g l (cmt c g l l.length).1)) l.length).map (fun i=>iD (g.getD i.toNat v0))=(ordG c g l).map iD:=by
 rw[Dg hc,jZ,List.map_flatMap,List.map_flatMap]
 congr 1
 funext w
 rw[az,y8,ep]
 conv=>rhs;rw[show g=(List.range g.length).map fun i=>g.getD i v0 from range_get g]
 rw[List.filter_map,ep]
 simp only[←range_get g]
 have e:((List.range g.length).filter fun i=>(g.map (wvk g l (cmt c g l l.length).1)).getD i 0==(w:Int))=(List.range g.length).filter ((fun v=>decide (wvk g l (cmt c g l l.length).1 v=(w:Int)))∘fun i=>g.getD i v0):=by
  refine oc fun i hi=>?_
  have hi:=eC.1 hi
  rw[eo]
  simp[aq,am hi]
 rw[e]
 refine qS fun i _=>?_
 simp
where
 range_get (g:List Vtx):g=(List.range g.length).map fun i=>g.getD i v0:=by
  refine List.ext_getElem (by simp) fun i h1 h2=>?_
  simp[aq,am h1]
end Go.Proofs.YtpefhoohfkeflaaGreatDoor.Am
namespace Go.Proofs.YtpefhoohfkeflaaGreatDoor.Am
open Go
attribute [local irreducible] Mk ck Ari fK mQ jM cd cX i7 fC At ag
set_option maxRecDepth 10000
theorem N2 (c:List Int)(hc:comV c=true):ag Tryz.prog 163 [.lst (.int .i64) c] [] (.int .i64 (DJ c)) []:=by
 have h1:=jz hc
 have h3:(n6 c).tdiv 3+1=DJ c:=rfl
 have h2:=ph hc
 refine ab aj Tryz.func163 rfl rfl false 0 4 rfl rfl rfl rfl fun K hK hb1 hb2=>?_;simp only[ae,enc,Nat.reduceAdd]
 (repeat' first|refine st ?_|refine sa fun xe hxe=>?_|refine sb (fun hq=>?_) fun hq=>?_|refine cr (G0 _ hc) ?_|exact aa)
 exact⟨rfl,rfl⟩
theorem Mc {c:List Int}{g:List Vtx}(hg:GraOK c g){n j:Nat}{v:Vtx}{a:Int}(hv:g[n]?=some v)(hj:v.parents[j]?=some a):∃q:Nat,(pix g v)[j]?=some (some q)∧lS g (v.round-1) a=(q:Int)∧q<g.length:=by
 have h0:(pix g v)[j]?=some (g.findIdx? (fl (v.round-1) a)):=by rw[pix,bf,hj];rfl
 obtain⟨k,x,e,h1,-,-⟩:=oY hg (bn hv) (bn h0)
 refine⟨k,by rw[h0,e],?_,(aQ.1 h1).1⟩
 rw[lS,e]
theorem Ak (c:List Int)(g:List Vtx)(hg:GraOK c g)(hl:g.length≤1000000)(sa:Nat)(u:Vtx)(hst:g[sa]?=some u):ag Tryz.prog 130 [.lst .vtx g,.int .i64 (sa:Int)] [] (.lst .bool (pfl g u)) []:=by
 have hsl:=(aQ.1 hst).1
 have h7:=(ay.1 hg.com).2
 have h0:=N0 hst
 have hrl:(List.replicate g.length false).length=g.length:=by simp
 have hre:(List.replicate g.length false)[sa]?=some false:=by rw[mL,if_pos hsl]
 have hre2:(List.replicate ((g.length:Int).toNat) false)[sa]?=some false:=hre
 refine ab aj Tryz.func130 rfl rfl true 0 4 rfl rfl rfl rfl fun K hK hb1 hb2=>?_;simp only[ae,enc,Nat.reduceAdd]
 clear hb1 hb2
 (repeat' first|refine st ?_|refine sa fun xe hxe=>?_|refine sb (fun hq=>?_) fun hq=>?_|exact aa)
 refine ah hK [] [0,5,6] (fun x:Nat×List Bool=>⟨[(0,.lst .vtx g),(5,.ref 4),(6,.int .i64 ((x.1:Int)-1))],[(4,.row 4 .bool x.2)],5⟩) (fun x=>Sph g u sa x.1 x.2∧x.1≤sa+1) (fun x=>x.1) (sa+1,(List.replicate g.length false).set sa true) ⟨h0,ax _⟩ ?_ ?_
 ·dsimp only
  rw[show (((sa+1:Nat):Int)-1)=(sa:Int) by omega]
  rfl
 rintro⟨m,re⟩ ⟨hS,hm⟩
 dsimp only at hS hm⊢
 have hrel:=hS.len
 cases m with
 |zero=>
  have he:=Jv hg hst hS
  (repeat' first|refine st ?_|refine sa fun xe hxe=>?_|refine sb (fun hq=>?_) fun hq=>?_|exact aa)
  exact⟨by rw[he],rfl⟩
 |succ m=>
  rw[show (((m+1:Nat):Int)-1)=(m:Int) by omega]
  have hI:=MG hS
  have hml:m<g.length:=by omega
  have hv:g[m]?=some g[m]:=am hml
  have hvr:=(bG (hg.vtx _ (bn hv))).1
  have hpl:=eO (bG (hg.vtx _ (bn hv))).2.2.1
  generalize g[m]=v at *
  clear hS
  (repeat' first|refine st ?_|refine sa fun xe hxe=>?_|refine sb (fun hq=>?_) fun hq=>?_|exact aa)
  refine ah hK [] [0,5,6,7] (fun y:Nat×List Bool=>⟨[(0,.lst .vtx g),(5,.ref 4),(6,.int .i64 (m:Int)),(7,.int .i64 (y.1:Int))],[(4,.row 4 .bool y.2)],5⟩) (fun y=>Spi g u sa m y.1 y.2∧y.1≤v.parents.length) (fun y=>v.parents.length-y.1) (0,re) ⟨hI,aX _⟩ rfl ?_
  rintro⟨j,rf⟩ ⟨hJ,hj⟩
  dsimp only at hJ hj⊢
  have hrl2:=hJ.len
  have hbm:rf[m]?=some rf[m]:=am (by omega)
  by_cases hlt:j<v.parents.length
  ·cases hb:rf[m] with
   |false=>
    rw[hb] at hbm
    have hS2:=Cn hJ hv (.inl hbm)
    (repeat' first|refine st ?_|refine sa fun xe hxe=>?_|refine sb (fun hq=>?_) fun hq=>?_|exact aa)
    exact⟨(m,rf),⟨hS2,by dsimp only;omega⟩,by dsimp only;omega,rfl⟩
   |true=>
    rw[hb] at hbm
    have hxe:v.parents[j]?=some v.parents[j]:=am hlt
    generalize v.parents[j]=a at *
    obtain⟨q,q1,q2,q3⟩:=Mc hg hv hxe
    have hF:=pL g (v.round-1) a
    rw[q2] at hF
    have hS2:=Jw hg hJ hv hbm q1
    have hq:rf[q]?=some rf[q]:=am (by omega)
    (repeat' first|refine st ?_|refine sa fun xe hxe=>?_|refine sb (fun hq=>?_) fun hq=>?_|refine cr (hF) ?_|exact aa)
    exact⟨(j+1,rf.set q true),⟨hS2,by dsimp only;omega⟩,by dsimp only;omega,rfl⟩
  ·have hS2:=Cn hJ hv (.inr (by omega))
   cases hb:rf[m] with
   |false=>
    rw[hb] at hbm
    (repeat' first|refine st ?_|refine sa fun xe hxe=>?_|refine sb (fun hq=>?_) fun hq=>?_|exact aa)
    exact⟨(m,rf),⟨hS2,by dsimp only;omega⟩,by dsimp only;omega,rfl⟩
   |true=>
    rw[hb] at hbm
    (repeat' first|refine st ?_|refine sa fun xe hxe=>?_|refine sb (fun hq=>?_) fun hq=>?_|exact aa)
    exact⟨(m,rf),⟨hS2,by dsimp only;omega⟩,by dsimp only;omega,rfl⟩
theorem nc {l:List Int}{w:Nat}(h1:1≤w)(h2:w≤l.length):l[((w:Int)-1).toNat]?=some (gx l w):=by
 rw[show ((w:Int)-1).toNat=w-1 by omega,gx,aq,am (by omega)]
 rfl
def FD (g:List Vtx)(l:List Int)(w:Nat):Int:=lS g (2*(w:Int)-1) (gx l w)
theorem nd {c:List Int}{g:List Vtx}(hg:GraOK c g){l:List Int}{w:Nat}{k:Vtx}(h:qK g l w=some k):∃i:Nat,FD g l w=(i:Int)∧g[i]?=some k:=by
 obtain⟨h1,h2,h3⟩:=sR h
 obtain⟨i,hi⟩:=gw h1
 have:=nU hg hi
 rw[h2,h3] at this
 exact⟨i,by rw[FD,lS,this],hi⟩
theorem uA {g:List Vtx}{l:List Int}{w:Nat}(h:qK g l w=none):FD g l w= -1:=by
 have:g.findIdx? (fl (2*(w:Int)-1) (gx l w))=none:=by
  rw[px]
  intro x hx
  have:=List.find?_eq_none.1 h x hx
  simpa using this
 rw[FD,lS,this]
theorem BN (g:List Vtx)(l:List Int)(w:Nat)(h1:1≤w)(h2:w≤l.length)(h3:w≤1000000):ag Tryz.prog 131 [.lst .vtx g,.lst (.int .i64) l,.int .i64 (w:Int)] [] (.int .i64 (FD g l w)) []:=by
 have hx:=nc h1 h2
 have hF:=pL g (2*(w:Int)-1) (gx l w)
 refine ab aj Tryz.func131 rfl rfl false 0 4 rfl rfl rfl rfl fun K hK hb1 hb2=>?_;simp only[ae,enc,Nat.reduceAdd]
 clear hb1 hb2
 (repeat' first|refine st ?_|refine sa fun xe hxe=>?_|refine sb (fun hq=>?_) fun hq=>?_|refine cr (hF) ?_|exact aa)
 exact⟨rfl,rfl⟩
theorem He {g:List Vtx}{l:List Int}{w i:Nat}{v:Vtx}(h:g[i]?=some v):tQ (g.take (i+1)) l w=if(v.round==2*(w:Int) && v.parents.contains (gx l w))=true then tQ (g.take i) l w++[v.author] else tQ (g.take i) l w:=by
 have e:g.take (i+1)=g.take i++[v]:=by
  obtain⟨hi,rfl⟩:=aQ.1 h
  exact ca hi
 rw[tQ,e,py,cg,lP,mI]
 split
 ·rfl
 ·rw[eD,gG];rfl
theorem JK (g:List Vtx)(l:List Int)(w:Nat):(tQ g l w).length≤g.length:=by
 unfold tQ
 rw[az]
 exact mN _ _
theorem N7 (c:List Int)(g:List Vtx)(l:List Int)(w:Nat)(hg:GraOK c g)(hl:g.length≤1000000)(h1:1≤w)(h2:w≤l.length)(h3:w≤1000000):ag Tryz.prog 162 [.lst (.int .i64) c,.lst .vtx g,.lst (.int .i64) l,.int .i64 (w:Int)] [] (.int .i64 (qZ c g l w)) []:=by
 have hx:=nc h1 h2
 have hL:=BN g l w h1 h2 h3
 have hcm:=(ay.1 hg.com).1
 refine ab aj Tryz.func162 rfl rfl false 0 4 rfl rfl rfl rfl fun K hK hb1 hb2=>?_;simp only[ae,enc,Nat.reduceAdd]
 clear hb1 hb2
 (repeat' first|refine st ?_|refine sa fun xe hxe=>?_|refine sb (fun hq=>?_) fun hq=>?_|exact aa)
 refine ah hK [] [0,1,2,3,9,10] (fun i:Nat=>⟨[(0,.lst (.int .i64) c),(1,.lst .vtx g),(2,.lst (.int .i64) l),(3,.int .i64 (w:Int)),(9,.int .i64 (fo c (tQ (g.take i) l w))),(10,.int .i64 (i:Int))],[],4⟩) (fun i=>i≤g.length∧(0<i→(qK g l w).isSome=true)) (fun i=>g.length-i) 0 ⟨aX _,fun h=>absurd h (Nat.lt_irrefl 0)⟩ rfl ?_
 rintro i ⟨hi,hs⟩
 have hwb:=wH (ms:=tQ (g.take i) l w) hg.com
 have hwl:=JK (g.take i) l w
 rw[bQ] at hwl
 cases hk:qK g l w with
 |none=>
  rw[uA hk] at hL
  have hi0:i=0:=by
   rcases Nat.eq_zero_or_pos i with h|h
   ·exact h
   ·have:=hs h
    rw[hk] at this
    cases this
  subst hi0
  have he:qZ c g l w=0:=by rw[qZ,hk];rfl
  rw[he]
  have hz:fo c (tQ (g.take 0) l w)=0:=rfl
  rw[hz]
  by_cases hlt:0<g.length
  ·(repeat' first|refine st ?_|refine sa fun xe hxe=>?_|refine sb (fun hq=>?_) fun hq=>?_|refine cr (hL) ?_|exact aa)
   exact⟨rfl,rfl⟩
  ·(repeat' first|refine st ?_|refine sa fun xe hxe=>?_|refine sb (fun hq=>?_) fun hq=>?_|refine cr (hL) ?_|exact aa)
   exact⟨rfl,rfl⟩
 |some k=>
  obtain⟨n,hn,-⟩:=nd hg hk
  rw[hn] at hL
  have he:qZ c g l w=fo c (tQ g l w):=by rw[qZ,hk];rfl
  by_cases hlt:i<g.length
  ·have hxe:g[i]?=some g[i]:=am hlt
   have hsn:=He (l:=l) (w:=w) hxe
   obtain⟨hvr,hva,-⟩:=bG (hg.vtx _ (bn hxe))
   generalize g[i]=v at *
   have hH:=By v.parents (gx l w)
   cases h4:v.round==2*(w:Int)
   ·rw[h4,iJ,if_neg (by simp)] at hsn
    (repeat' first|refine st ?_|refine sa fun xe hxe=>?_|refine sb (fun hq=>?_) fun hq=>?_|refine cr (hL) ?_|refine cr (hH) ?_|exact aa)
    exact⟨i+1,⟨by omega,fun _=>rfl⟩,by omega,by rw[hsn];rfl⟩
   ·cases h5:v.parents.contains (gx l w)
    ·rw[h4,h5,if_neg (by simp)] at hsn
     rw[h5] at hH
     (repeat' first|refine st ?_|refine sa fun xe hxe=>?_|refine sb (fun hq=>?_) fun hq=>?_|refine cr (hL) ?_|refine cr (hH) ?_|exact aa)
     exact⟨i+1,⟨by omega,fun _=>rfl⟩,by omega,by rw[hsn];rfl⟩
    ·rw[h4,h5,show (true && true)=true from rfl,if_pos rfl] at hsn
     rw[h5] at hH
     have hwn:=tL c (tQ (g.take i) l w) v.author
     have hca:c[v.author.toNat]?=some (c.getD v.author.toNat 0):=by rw[aq,am (by omega)];rfl
     have hcb:=hcm _ (bn hca)
     generalize c.getD v.author.toNat 0=cx at *
     generalize fo c (tQ (g.take i) l w)=wx at *
     (repeat' first|refine st ?_|refine sa fun xe hxe=>?_|refine sb (fun hq=>?_) fun hq=>?_|refine cr (hL) ?_|refine cr (hH) ?_|exact aa)
     exact⟨i+1,⟨by omega,fun _=>rfl⟩,by omega,by rw[hsn,hwn];rfl⟩
  ·rw[br (by omega)]
   (repeat' first|refine st ?_|refine sa fun xe hxe=>?_|refine sb (fun hq=>?_) fun hq=>?_|refine cr (hL) ?_|exact aa)
   exact⟨by rw[he],rfl⟩
theorem Mr {n i:Nat}(h:i<n):((List.range n).map some)[i]?=some (some i):=by
 rw[bf,oe h];rfl
theorem Ay {α:Type}(l:List α):l=[]∨∃l' x,l=l'++[x]:=by
 rcases List.eq_nil_or_concat l with h|⟨l',x,h⟩
 ·exact .inl h
 ·exact .inr ⟨l',x,by rw[h,List.concat_eq_append]⟩
theorem vY (c:List Int)(g:List Vtx)(hg:GraOK c g)(hl:g.length≤1000000)(sa:Nat)(u:Vtx)(hst:g[sa]?=some u):ag Tryz.prog 159 [.ptr 4 0,.hpo 0 (some sa)] (gR c (dg g)) (.lst (.int .i64) (pst g u)) (gR c (dg g)):=by
 have hn:=(fx g).1
 have hsl:=(aQ.1 hst).1
 have h7:=(ay.1 hg.com).2
 obtain⟨p0,hp0⟩:=md hst
 have hrl:((List.range (dg g).nodes.length).map some).length=g.length:=by simp[hn]
 have h0:=Nn hg hst
 have hre0:(List.replicate g.length false)[sa]?=some false:=by rw[mL,if_pos hsl]
 have hr0l:(List.replicate g.length false).length=g.length:=by simp
 have ht0:((List.replicate g.length false).set sa true)[sa]?=some true:=by rw[dx,if_pos rfl,if_pos (by omega)]
 have hix:0≤(sa:Int)∧(sa:Int)<((List.replicate ((((List.range (dg g).nodes.length).map some).length:Int).toNat) false).length:Nat):=by rw[hrl,iG];omega
 have hfit:lw 1 (((((List.range (dg g).nodes.length).map some).length:Nat):Int).toNat):=by rw[hrl];unfold lw;omega
 have hre2:(List.replicate ((((List.range (dg g).nodes.length).map some).length:Int).toNat) false)[sa]?=some false:=by rw[hrl];exact hre0
 refine ab eW Tryz.func159 rfl rfl true 2 6 rfl rfl rfl rfl fun K hK hb1 hb2=>?_;simp only[ae,enc,Nat.reduceAdd]
 clear hb1 hb2
 (repeat' first|refine j4 ?_|refine sa fun xe hxe=>?_|refine sb (fun hq=>?_) fun hq=>?_|exact aa)
 refine ah hK [] [5,6] (fun x:List Bool×List (Option Nat)=>⟨[(5,.ref 6),(6,.ref 7)],H7 c (dg g) (.row 4 .bool x.1)++[(7,.row 181 (.hp 0) x.2)],8⟩) (fun x=>Dfs g u g.length 0 x.1 x.2∧x.1[sa]?=some true∧x.2.length+x.1.count false≤g.length+1) (fun x=>2*x.1.count false+x.2.length) ((List.replicate g.length false).set sa true,[some sa]) ⟨h0,ht0,?_⟩ (by simp only[hrl];rfl) ?_
 ·have:=vp hre0
  simp only[List.count_replicate_self] at this
  simp only[mM]
  omega
 rintro⟨re,wt⟩ ⟨hD,hS,hc⟩
 dsimp only at hD hS hc⊢
 have hrel:=hD.len
 rcases Ay wt with rfl|⟨wt,o,rfl⟩
 ·have hfin:=Dz hrel fun i v hi=>HP hg hst hD hS hi
  have hnil:¬(0:Int)<((([]:List (Ty.hp 0).den).length:Nat):Int):=by simp
  (repeat' first|refine j4 ?_|refine sa fun xe hxe=>?_|refine sb (fun hq=>?_) fun hq=>?_|exact aa)
  refine ah hK [] [10,70,71,72] (fun i:Nat=>⟨[(10,.ref 6),(70,.ref 7),(71,.int .i64 g.length),(72,.int .i64 (i:Int))],H7 c (dg g) (.row 3 (.int .i64) (pk re i))++[(7,.row 4 .bool re)],8⟩) (fun i=>i≤g.length) (fun i=>g.length-i) 0 (aX _) (by simp only[hrel];rfl) ?_
  intro i hi
  have htl:=Dy re i
  by_cases hlt:i<g.length
  ·have hxe:re[i]?=some re[i]:=am (by omega)
   have hsn:=AK hxe
   cases hb:re[i] with
   |false=>
    rw[hb] at hxe hsn
    rw[if_neg (by simp)] at hsn
    (repeat' first|refine j4 ?_|refine sa fun xe hxe=>?_|refine sb (fun hq=>?_) fun hq=>?_|exact aa)
    exact⟨i+1,by omega,by omega,by rw[hsn];rfl⟩
   |true=>
    rw[hb] at hxe hsn
    rw[if_pos rfl] at hsn
    (repeat' first|refine j4 ?_|refine sa fun xe hxe=>?_|refine sb (fun hq=>?_) fun hq=>?_|exact aa)
    exact⟨i+1,by omega,by omega,by rw[hsn];rfl⟩
  ·obtain rfl:i=g.length:=by omega
   (repeat' first|refine j4 ?_|refine sa fun xe hxe=>?_|refine sb (fun hq=>?_) fun hq=>?_|exact aa)
   exact⟨by rw[hfin],rfl⟩
 ·obtain⟨q,rfl,hq⟩:=hD.wtg o (by simp)
  have hql:q<g.length:=by have:=(aQ.1 hq).1;omega
  obtain⟨v,hv⟩:∃v,g[q]?=some v:=⟨_,am hql⟩
  obtain⟨p,hp,hrow⟩:=xP hg hv
  have hD2:=HQ hD (dP (ax _))
  have hwl:(wt++[some q]).length=wt.length+1:=by simp
  have hwx:(wt++[some q])[((((wt++[some q]).length:Nat):Int)-1).toNat]?=some (some q):=by
   rw[hwl,show (((wt.length+1:Nat):Int)-1).toNat=wt.length by omega];simp
  have hwt:(wt++[some q]).take ((((wt++[some q]).length:Nat):Int)-1).toNat=wt:=by
   rw[hwl,show (((wt.length+1:Nat):Int)-1).toNat=wt.length by omega];simp
  have hwc:wt.length+1+re.count false≤g.length+1:=by rw[hwl] at hc;exact hc
  clear hD hc
  generalize wt++[some q]=W at *
  have hcut:ma W none (some (.int .i64 ((W.length:Int)-1))) 0 ((W.length:Int)-1).toNat=wt:=hwt
  rcases hrow with⟨hpn,rfl⟩|⟨r,rfl,hrow⟩
  ·have hnx:=xq hD2 hv (by rw[hpn];simp)
   (repeat' first|refine j4 ?_|refine sa fun xe hxe=>?_|refine sb (fun hq=>?_) fun hq=>?_|exact aa)
   refine ah hK [] [5,6,44,45,46] (fun j:Nat=>⟨[(5,.ref 6),(6,.ref 7),(44,.hro 1 none),(45,.int .i64 0),(46,.int .i64 (j:Int))],H7 c (dg g) (.row 4 .bool re)++[(7,.row 181 (.hp 0) wt)],8⟩) (fun j=>j=0) (fun j=>j) 0 rfl (by simp only[hcut];rfl) ?_
   rintro j rfl
   (repeat' first|refine j4 ?_|refine sa fun xe hxe=>?_|refine sb (fun hq=>?_) fun hq=>?_|exact aa)
   exact⟨(re,wt),⟨hnx,hS,by dsimp only;omega⟩,by dsimp only;omega,rfl⟩
  ·have hpxl:(pix g v).length=v.parents.length:=by simp[pix]
   have hpl:=eO (bG (hg.vtx v (bn hv))).2.2.1
   (repeat' first|refine j4 ?_|refine sa fun xe hxe=>?_|refine sb (fun hq=>?_) fun hq=>?_|exact aa)
   refine ah hK [] [5,6,44,45,46] (fun y:Nat×List Bool×List (Option Nat)=>⟨[(5,.ref 6),(6,.ref 7),(44,.hro 1 (some r)),(45,.int .i64 (pix g v).length),(46,.int .i64 (y.1:Int))],H7 c (dg g) (.row 4 .bool y.2.1)++[(7,.row 181 (.hp 0) y.2.2)],8⟩) (fun y=>Dfs g u q y.1 y.2.1 y.2.2∧y.2.1[sa]?=some true∧y.1≤(pix g v).length∧y.2.2.length+y.2.1.count false=wt.length+re.count false∧y.2.1.count false≤re.count false) (fun y=>(pix g v).length-y.1) (0,re,wt) ⟨hD2,hS,aX _,rfl,ax _⟩ (by simp only[hcut];rfl) ?_
   rintro⟨j,rf,wf⟩ ⟨hJ,hJs,hj,hjc,hjm⟩
   dsimp only at hJ hJs hj hjc hjm⊢
   have hrl2:=hJ.len
   by_cases hlt:j<(pix g v).length
   ·have hxe:(pix g v)[j]?=some (pix g v)[j]:=am hlt
    obtain⟨q',x',e',hv',-,-⟩:=oY hg (bn hv) (bn hxe)
    rw[e'] at hxe
    obtain⟨p',hp'⟩:=md hv'
    have hq'l:=(aQ.1 hv').1
    have hbq:rf[q']?=some rf[q']:=am (by omega)
    have hix2:0≤(q':Int)∧(q':Int)<(rf.length:Nat):=by omega
    cases hb:rf[q'] with
    |true=>
     rw[hb] at hbq
     have hsk:=Er hJ hv hxe hbq
     (repeat' first|refine j4 ?_|refine sa fun xe hxe=>?_|refine sb (fun hq=>?_) fun hq=>?_|exact aa)
     exact⟨(j+1,rf,wf),⟨hsk,hJs,by dsimp only;omega,hjc,hjm⟩,by dsimp only;omega,rfl⟩
    |false=>
     rw[hb] at hbq
     have hpu:=Ep hg hJ hv hxe hbq
     have hcs:=vp hbq
     (repeat' first|refine j4 ?_|refine sa fun xe hxe=>?_|refine sb (fun hq=>?_) fun hq=>?_|exact aa)
     exact⟨(j+1,rf.set q' true,wf++[some q']),⟨hpu,gr hJs,by dsimp only;omega,by dsimp only;rw[aO];simp only[bH,dG];omega,by dsimp only;omega⟩,by dsimp only;omega,rfl⟩
   ·have hnx:=xq hJ hv (by omega)
    (repeat' first|refine j4 ?_|refine sa fun xe hxe=>?_|refine sb (fun hq=>?_) fun hq=>?_|exact aa)
    exact⟨(rf,wf),⟨hnx,hJs,by dsimp only;omega⟩,by dsimp only;omega,rfl⟩
end Go.Proofs.YtpefhoohfkeflaaGreatDoor.Am
namespace Go.Proofs.YtpefhoohfkeflaaGreatDoor.Am
open Go Go.RowKit Go.Extern.Stop Go.Stop Go.Extern
set_option maxRecDepth 10000
theorem OD (v:Value)(w:World):(Extern.ReflectliteType.typeOf #[.iface 260 v]).run Tryz.prog w= .ok (.iface 250 (.agg #[.pointer (some ⟨9,260,none⟩)])) w:=by kernel_rfl
theorem Oz (w : World) : ((Extern.ReflectliteType.method fun t => do Rtype.noPackHeld "Comparable" t; (fun a => Value.bool a.comparable) <$> typeInfo t) #[.agg #[.pointer (some ⟨9, 260, none⟩)]]).run Tryz.prog w = .ok (.bool true) w := by kernel_rfl
theorem OB (v : Value) (w : World) : (Go.method 393 250 v "Comparable").run Tryz.prog w = .ok (257, v) w := by kernel_rfl
theorem OA:(Tryz.prog.info? 260).map (·.comparable)=some true:=by kernel_rfl
theorem OC:(Tryz.prog.info? 282).map (·.size)=some 1:=by kernel_rfl
theorem Oy (a:Addr)(w:World):
  Calls Tryz.prog 201 #[.iface 260 (.pointer (some a)),.iface 260 (.pointer (some a))] w fun e w'=>e= .returned (.bool true)∧w'=w:=by
 obtain⟨i,hi,hcmp⟩:=bm.1 OA
 obtain⟨j,hj,hjs⟩:=bm.1 OC
 have h8:=@run_callFunc_extern Tryz.prog 215 _ Extern.ReflectliteType.typeOf Tryz.func215 (by kernel_rfl) (by kernel_rfl) (by kernel_rfl) (by kernel_rfl)
 have h32 := @run_callFunc_extern Tryz.prog 257 _ (Extern.ReflectliteType.method fun t => do Rtype.noPackHeld "Comparable" t; pure (.bool (← typeInfo t).comparable)) Tryz.func257 (by kernel_rfl) (by kernel_rfl) (by kernel_rfl) (by kernel_rfl)
 have tT:=OD
 have cT:=Oz
 have mR:=OB
 have heq:=run_eql_iface_ptr_same (P:=Tryz.prog) w a Tryz.underlying127 Tryz.underlying260 hi hcmp hj
 go_enter Tryz.func201,Tryz.ntmps201
 go_wp2
 refine wp_loop_rounds 1 ?_
 rw[rounds_succ]
 go_wp2
 go_ret
 exact⟨rfl,rfl⟩
theorem Ox (b:Addr)(w:World):
  Calls Tryz.prog 201 #[.nilIface,.iface 260 (.pointer (some b))] w fun e w'=>e= .returned (.bool false)∧w'=w:=by
 have hn:=run_eql_iface_nil_left (P:=Tryz.prog) w 260 (.pointer (some b)) Tryz.underlying127
 go_enter Tryz.func201,Tryz.ntmps201
 go_wp2
 go_ret
 exact⟨rfl,rfl⟩
theorem E3 {ρ:Id→Pl}{L:Id→Prop}{ok:Nat→Prop}{w:World}{v:Value}(h:C ρ L ok w (.gv 6) v):∃ad,v= .iface 260 (.pointer (some ad))∧w.cell? ⟨6,0,none⟩=some (.iface 260 (.pointer (some ad))):=by
 obtain⟨x,ad,rfl,hx,-,hc⟩:=h.gv_inv
 obtain rfl:(260,127)=x:=ar hx
 exact⟨ad,rfl,hc⟩
theorem yV {vs:Array Value}(h:2=vs.size):∃v1 v2,vs= #[v1,v2]:=by
 refine⟨vs[0],vs[1],Array.ext (by simp[←h]) fun i h1 h2=>?_⟩
 have:i=0∨i=1:=by simp at h2;omega
 rcases this with rfl|rfl<;>rfl
theorem KQ:ag Tryz.prog 201 [.gv 6,.gv 6] [] (.bool true) []:=by
 unfold ag
 refine ja ⟨_,Tryz.func201,rfl,rfl⟩ fun w ok ρ vs hl hc=>?_
 obtain⟨v1,v2,rfl⟩:=yV hl
 obtain⟨ad,rfl,c1⟩:=E3 (hc 0 (by decide))
 obtain⟨ad',e2,c2⟩:=E3 (hc 1 (by decide))
 rw[c1] at c2
 have e:v2= .iface 260 (.pointer (some ad)):=e2.trans (ar c2).symm
 subst e
 refine(Oy ad w).mono ?_
 rintro e w' ⟨rfl,rfl⟩
 exact⟨_,rfl,⟨rfl,rfl,rfl,ax _,fun _ _=>rfl⟩,fun ok'=>.bool _⟩
theorem KP:ag Tryz.prog 201 [.nili,.gv 6] [] (.bool false) []:=by
 unfold ag
 refine ja ⟨_,Tryz.func201,rfl,rfl⟩ fun w ok ρ vs hl hc=>?_
 obtain⟨v1,v2,rfl⟩:=yV hl
 have e1:C ρ (fun _=>False) ok w .nili v1:=hc 0 (by decide)
 obtain rfl:=e1.nili_inv
 obtain⟨ad',e2,-⟩:=E3 (hc 1 (by decide))
 have e2:v2= .iface 260 (.pointer (some ad')):=e2
 subst e2
 refine(Ox ad' w).mono ?_
 rintro e w' ⟨rfl,rfl⟩
 exact⟨_,rfl,⟨rfl,rfl,rfl,ax _,fun _ _=>rfl⟩,fun ok'=>.bool _⟩

end Go.Proofs.YtpefhoohfkeflaaGreatDoor.Am
