/- Runs while events are applied: what a member proposes. Runs while events are applied: votes, deliveries, what the faulty member does. Runs while events are applied: deliveries, what the faulty member does. The lock of a run, under the numbers of this program. Runs: what the specification's functions of events give. Runs: what the specification's functions of events give, put together. Runs: an event is applied, under the lock. Runs: what has been applied is handed back. -/
import Derived.Conc.MuLone
import Derived.Test.YtpefhoohfkeflaaGreatDoorEA8
set_option linter.unusedSimpArgs false
set_option linter.unusedVariables false
set_option maxHeartbeats 1000000
namespace Go.Proofs.YtpefhoohfkeflaaGreatDoor.Am
open Go
attribute [local irreducible] Mk ck Ari fK mQ jM cd cX i7 fC At ag
set_option maxRecDepth 10000
abbrev rW (s:Int)(w:Wrl)(xss:List (Option (List Int)))(ms:List PplM):VH:=rX s w.com w.lead w.bad (w.views.map aT) xss ms
abbrev Oe (s:Int)(w:Wrl)(xss:List (Option (List Int)))(ms:List PplM):VH:=NQ s w.com w.lead w.bad (w.views.map aT) xss ms
theorem le {w:Wrl}(hw:WOK w){m:Int}(hm:0≤m∧m<w.com.length):(w.views.map aT)[m.toNat]?=some (aT (view w m))∧GraOK w.com (view w m):=by
 have hl:=hw.vlen
 have h:w.views[m.toNat]?=some (view w m):=by
  unfold view
  rw[aq,am (by omega)]
  rfl
 exact⟨by rw[bf,h];rfl,eZ (hw.gra _ (bn h))⟩
theorem E7 {n:Nat}{m:Int}(hm:0≤m∧m<n):((List.range n).map some)[m.toNat]?=some (some m.toNat):=by
 rw[bf,oe (by omega)]
 rfl
theorem I3 {w:Wrl}{m d:Int}(h1:good w m=true)(h2:lU w.props m≤(iA w m d).round):jP w m d=(vtxS w.com (iA w m d) && decide (w.props.length<220)):=by
 have hd:vtxS w.com (iA w m d)=true→j5 d 0 990=true:=fun h=>aC.2 (bG h).2.2.2.1
 unfold jP
 rw[h1,decide_eq_true h2]
 cases h:vtxS w.com (iA w m d)
 ·simp
 ·rw[hd h]
  simp
theorem I4 {w:Wrl}{m d:Int}{p:Ppl}(hp:p∈w.props)(h1:p.v.author=m)(h2:(iA w m d).round≤p.v.round):jP w m d=false:=by
 have:=FP p hp h1
 unfold jP
 rw[decide_eq_false (p:=lU w.props m≤(iA w m d).round) (by omega)]
 simp
theorem Mf {w:Wrl}{m d:Int}(h:iO w.com (view w m)<0):iA w m d=⟨0,m,[],d⟩:=by
 have:=(oI w.com (view w m) 31).1
 have:iO w.com (view w m)= -1:=by unfold iO at *;omega
 unfold iA
 rw[this]
 rfl
theorem Mg {w:Wrl}{m d:Int}(h:0≤iO w.com (view w m)):iA w m d=⟨iO w.com (view w m)+1,m,fE (view w m) (iO w.com (view w m)),d⟩:=by
 unfold iA
 rw[if_pos (by omega)]
theorem zH (E:TypeId)(t:Ty)(xs ys:List (Option (List t.den))):bA (VB.frowx E t xs)≤bA (VB.frowx E t (xs++ys)):=by
 show xs.length≤(xs++ys).length
 simp
set_option maxHeartbeats 1000000 in
theorem Fs (s:Int)(w:Wrl)(xss:List (Option (List Int)))(ms:List PplM)(hw:WOK w)(hR:Rel w.props xss ms)(m d:Int):ag Tryz.prog 173 [.ptr 4 0,.int .i64 m,.int .i64 d] (rW s w xss ms) (.bool (jP w m d)) (if jP w m d then Oe s w (xss++[some []]) (ms++[⟨iA w m d,some xss.length⟩]) else rW s w xss ms):=by
 refine ab bV Tryz.func173 rfl rfl false 3 7 rfl rfl rfl rfl fun K hK hb1 hb2=>?_;simp only[ae,enc,Nat.reduceAdd]
 clear hb1 hb2
 have hC:=zQ s w.com w.lead w.bad (w.views.map aT) xss ms m
 have hpl:=hw.plen
 have hml:=hR.len
 rw[show (dB w.com m && m !=w.bad)=good w m from rfl] at hC
 cases hg:good w m
 ·have hF:jP w m d=false:=by unfold jP;rw[hg];rfl
  rw[hg] at hC
  (repeat' first|refine ch ?_|refine sa fun xe hxe=>?_|refine sb (fun hq=>?_) fun hq=>?_|refine cr (hC) ?_|exact aa)
  rw[hF]
  exact⟨rfl,rfl⟩
 ·rw[hg] at hC
  obtain⟨hm,-⟩:=eL.1 hg
  obtain⟨hk,hG⟩:=le hw hm
  have hvl:(w.views.map aT).length=w.com.length:=by rw[az,hw.vlen]
  have hc:=hw.com
  have h7:=(ay.1 hc).2
  have hxv:=E7 (n:=(w.views.map aT).length) (m:=m) (by rw[hvl];exact hm)
  have hrl:((List.range (w.views.map aT).length).map some).length=w.com.length:=by simp[hvl,hw.vlen]
  have hno:=fun p hp=>I4 (w:=w) (m:=m) (d:=d) (p:=p) hp
  have heq:=I3 (w:=w) (m:=m) (d:=d) hg
  have hH:=NA s w.com w.lead w.bad (w.views.map aT) xss ms m.toNat (view w m) hG hk
  have hlt31:=oI w.com (view w m) 31
  have hT:=fun r h0 h1=>J9 (w.views.map aT) m.toNat _ r hk (ef _) ⟨h0,h1⟩
  have hTe:=fun(r:Nat) (hr:r≤30)=>w9 hG hr
  have hAm:=pE hG
  rw[show kH w.com (view w m) 31=iO w.com (view w m) from rfl] at hlt31
  rcases Int.lt_or_le (iO w.com (view w m)) 0 with hh|hh
  ·rw[Mf hh] at hno heq⊢
   (repeat' first|refine ch ?_|refine sa fun xe hxe=>?_|refine sb (fun hq=>?_) fun hq=>?_|refine cr (hC) ?_|refine cr (hH) ?_|exact aa)
   refine ah hK [] [0,1,7,45,46,47] (fun i:Nat=>⟨[(0,.ptr 4 0),(1,.int .i64 m),(7,.ptr 7 0),(45,.ref 6),(46,.int .i64 ms.length),(47,.int .i64 (i:Int))],rW s w xss ms++[(7,VB.var 58 [.int .i64 0,.int .i64 m,.nils,.int .i64 d])],8⟩) (fun i=>i≤w.props.length∧∀p∈w.props.take i,¬(p.v.author=m∧0≤p.v.round)) (fun i=>w.props.length-i) 0 (by simp) (by(conv=>whnf);rfl) ?_
   rintro i ⟨hi,hall⟩
   by_cases hlt:i<w.props.length
   ·have hxe:w.props[i]?=some w.props[i]:=am hlt
    have hsn:w.props.take (i+1)=w.props.take i++[w.props[i]]:=ca hlt
    obtain⟨j,hj1,hj2⟩:=hR.get i _ hxe
    have hno:=hno _ (be hlt)
    generalize w.props[i]=p at *
    by_cases c1:p.v.author=m
    ·by_cases c2:0≤p.v.round
     ·have hF:=hno c1 c2
      (repeat' first|refine ch ?_|refine sa fun xe hxe=>?_|refine sb (fun hq=>?_) fun hq=>?_|exact aa)
      rw[hF]
      exact⟨rfl,rfl⟩
     ·(repeat' first|refine ch ?_|refine sa fun xe hxe=>?_|refine sb (fun hq=>?_) fun hq=>?_|exact aa)
      exact⟨i+1,⟨by omega,by rw[hsn];exact bM hall fun h=>c2 h.2⟩,by omega,rfl⟩
    ·(repeat' first|refine ch ?_|refine sa fun xe hxe=>?_|refine sb (fun hq=>?_) fun hq=>?_|exact aa)
     exact⟨i+1,⟨by omega,by rw[hsn];exact bM hall fun h=>c1 h.1⟩,by omega,rfl⟩
   ·rw[br (by omega)] at hall
    have heq:=heq (FQ (by show (0:Int)≤0;omega) fun p hp ha=>by
     have:=hall p hp
     show p.v.round+1≤0
     omega)
    cases hv:(vtxS w.com ⟨0,m,[],d⟩ && decide (w.props.length<220))
    ·rw[hv] at heq
     have hN:=zO s w.com w.lead w.bad (w.views.map aT) xss ms ⟨0,m,[],d⟩ hc (by rw[hml];exact hv) (by omega)
     (repeat' first|refine ch ?_|refine sa fun xe hxe=>?_|refine sb (fun hq=>?_) fun hq=>?_|refine cr (hN) ?_|exact aa)
     rw[heq]
     exact⟨rfl,rfl⟩
    ·rw[hv] at heq
     simp only[aB,decide_eq_true_eq] at hv
     have hY:=zP s w.com w.lead w.bad (w.views.map aT) xss ms ⟨0,m,[],d⟩ hc hv.1 (by omega)
     (repeat' first|refine ch ?_|refine sa fun xe hxe=>?_|refine sb (fun hq=>?_) fun hq=>?_|refine cr (hY) ?_|exact aa)
     refine gj (zH _ _ _ _) ?_
     (conv=>whnf)
     (repeat' first|refine ch ?_|refine sa fun xe hxe=>?_|refine sb (fun hq=>?_) fun hq=>?_|refine cr (hY) ?_|exact aa)
     rw[heq]
     exact⟨rfl,rfl⟩
  ·rw[Mg hh] at hno heq⊢
   have hT:=hT (iO w.com (view w m)) hh (by omega)
   rw[hTe (iO w.com (view w m)).toNat (by omega),show (((iO w.com (view w m)).toNat:Nat):Int)=iO w.com (view w m) by omega] at hT
   have hal:=eO (hAm (iO w.com (view w m)))
   (repeat' first|refine ch ?_|refine sa fun xe hxe=>?_|refine sb (fun hq=>?_) fun hq=>?_|refine cr (hC) ?_|refine cr (hH) ?_|refine co (hT) ?_|exact aa)
   refine ah hK [] [0,1,7,45,46,47] (fun i:Nat=>⟨[(0,.ptr 4 0),(1,.int .i64 m),(7,.ptr 7 0),(45,.ref 6),(46,.int .i64 ms.length),(47,.int .i64 (i:Int))],rW s w xss ms++[(7,VB.var 58 [.int .i64 (iO w.com (view w m)+1),.int .i64 m,.ref 8,.int .i64 d]),(8,VB.row 3 (.int .i64) (fE (view w m) (iO w.com (view w m))))],9⟩) (fun i=>i≤w.props.length∧∀p∈w.props.take i,¬(p.v.author=m∧(iO w.com (view w m)+1)≤p.v.round)) (fun i=>w.props.length-i) 0 (by simp) (by(conv=>whnf);rfl) ?_
   rintro i ⟨hi,hall⟩
   by_cases hlt:i<w.props.length
   ·have hxe:w.props[i]?=some w.props[i]:=am hlt
    have hsn:w.props.take (i+1)=w.props.take i++[w.props[i]]:=ca hlt
    obtain⟨j,hj1,hj2⟩:=hR.get i _ hxe
    have hno:=hno _ (be hlt)
    generalize w.props[i]=p at *
    by_cases c1:p.v.author=m
    ·by_cases c2:(iO w.com (view w m)+1)≤p.v.round
     ·have hF:=hno c1 c2
      (repeat' first|refine ch ?_|refine sa fun xe hxe=>?_|refine sb (fun hq=>?_) fun hq=>?_|exact aa)
      rw[hF]
      exact⟨rfl,rfl⟩
     ·(repeat' first|refine ch ?_|refine sa fun xe hxe=>?_|refine sb (fun hq=>?_) fun hq=>?_|exact aa)
      exact⟨i+1,⟨by omega,by rw[hsn];exact bM hall fun h=>c2 h.2⟩,by omega,rfl⟩
    ·(repeat' first|refine ch ?_|refine sa fun xe hxe=>?_|refine sb (fun hq=>?_) fun hq=>?_|exact aa)
     exact⟨i+1,⟨by omega,by rw[hsn];exact bM hall fun h=>c1 h.1⟩,by omega,rfl⟩
   ·rw[br (by omega)] at hall
    have heq:=heq (FQ (by show (0:Int)≤(iO w.com (view w m)+1);omega) fun p hp ha=>by
     have:=hall p hp
     show p.v.round+1≤(iO w.com (view w m)+1)
     omega)
    cases hv:(vtxS w.com ⟨(iO w.com (view w m)+1),m,fE (view w m) (iO w.com (view w m)),d⟩ && decide (w.props.length<220))
    ·rw[hv] at heq
     have hN:=zO s w.com w.lead w.bad (w.views.map aT) xss ms ⟨(iO w.com (view w m)+1),m,fE (view w m) (iO w.com (view w m)),d⟩ hc (by rw[hml];exact hv) (by omega)
     (repeat' first|refine ch ?_|refine sa fun xe hxe=>?_|refine sb (fun hq=>?_) fun hq=>?_|refine cr (hN) ?_|exact aa)
     rw[heq]
     exact⟨rfl,rfl⟩
    ·rw[hv] at heq
     simp only[aB,decide_eq_true_eq] at hv
     have hY:=zP s w.com w.lead w.bad (w.views.map aT) xss ms ⟨(iO w.com (view w m)+1),m,fE (view w m) (iO w.com (view w m)),d⟩ hc hv.1 (by omega)
     (repeat' first|refine ch ?_|refine sa fun xe hxe=>?_|refine sb (fun hq=>?_) fun hq=>?_|refine cr (hY) ?_|exact aa)
     refine gj (zH _ _ _ _) ?_
     (conv=>whnf)
     (repeat' first|refine ch ?_|refine sa fun xe hxe=>?_|refine sb (fun hq=>?_) fun hq=>?_|refine cr (hY) ?_|exact aa)
     rw[heq]
     exact⟨rfl,rfl⟩
theorem EI {E:TypeId}{t:Ty}{xs:List (Option (List t.den))}{j:Nat}{o:Option (List t.den)}{ys:List (Option (List t.den))}:bA (VB.frowx E t xs)≤bA (VB.frowx E t (xs.set j o++ys)):=by
 show xs.length≤(xs.set j o++ys).length
 simp
theorem pY {w:Wrl}{i:Int}(hi:qV w i=true):∃n:Nat,i=n∧n<w.props.length∧w.props[n]?=some (aV w i):=by
 obtain⟨h1,h2,-⟩:=lE hi
 have h0:=(aC.1 hi).1
 exact⟨i.toNat,by omega,h1,h2⟩
theorem Aj {w:Wrl}{i:Int}(hi:qV w i=false):i<0∨(w.props.length:Int)≤i:=by
 rw[cj] at hi
 rcases Int.lt_or_le i 0 with h|h
 ·exact .inl h
 ·refine .inr ?_
  rcases Int.lt_or_le i w.props.length with h2|h2
  ·exact absurd (aC.2 ⟨h,by omega⟩) hi
  ·exact h2
theorem kk {w:Wrl}(hw:WOK w){p:Ppl}(hp:p∈w.props):vtxS w.com p.v=true∧d8 w.com p.members=true:=by
 have:=hw.one p hp
 simpa[oneP] using this
theorem nD {c:List Int}{v:Vtx}(hc:comV c=true)(h:vtxS c v=true):(v.parents≠[]→1≤v.round∧v.round≤31)∧(∀p∈v.parents,0≤p∧p≤6):=by
 obtain⟨h1,h2,h3,h4,h5,h6⟩:=bG h
 have h7:=(ay.1 hc).2
 refine⟨fun hne=>⟨?_,by omega⟩,fun p hp=>?_⟩
 ·rcases Int.lt_or_le v.round 1 with hlt|hge
  ·exact absurd (h5 (by omega)) hne
  ·exact hge
 ·have:=cD h3 p hp
  omega
theorem Ej {w:Wrl}(hw:WOK w){m:Int}(hm:0≤m∧m<w.com.length){v:Vtx}(hv:vtxS w.com v=true):qY (aT (view w m)) v=parOK (view w m) v:=by
 have hG:=(le hw hm).2
 exact Cu (fun u hu=>dw hw.com (hG.vtx u hu)) (nD hw.com hv).1 (nD hw.com hv).2
def xm (w:Wrl)(m i:Int)(k:Nat):Bool:=(k:Int) !=i && (slt (w.props.getD k p0).v (aV w i).v && (w.props.getD k p0).members.contains m)
theorem HM {w:Wrl}{m i:Int}{k:Nat}(hk:k<w.props.length)(h:xm w m i k=true):HK w m i=true:=fU.2 ⟨k,eC.2 hk,h⟩
theorem KI {w:Wrl}{m i:Int}(h:∀k,k<w.props.length→xm w m i k=false):HK w m i=false:=by
 rw[cj]
 intro h2
 obtain⟨k,hk,h3⟩:=fU.1 h2
 have:=h k (eC.1 hk)
 rw[show xm w m i k=true from h3] at this
 cases this
theorem IB (s:Int)(w:Wrl)(xss:List (Option (List Int)))(ms:List PplM)(hw:WOK w)(hR:Rel w.props xss ms)(m i:Int)(hi:qV w i=false):ag Tryz.prog 174 [.ptr 4 0,.int .i64 m,.int .i64 i] (rW s w xss ms) (.bool false) (rW s w xss ms):=by
 have hpl:=hw.plen
 have hml:=hR.len
 refine ab bV Tryz.func174 rfl rfl false 3 7 rfl rfl rfl rfl fun K hK hb1 hb2=>?_;simp only[ae,enc,Nat.reduceAdd]
 clear hb1 hb2
 have hP:=zT s w.com w.lead w.bad (w.views.map aT) xss ms i (by rw[hml];exact Aj hi) (by omega)
 (repeat' first|refine ch ?_|refine sa fun xe hxe=>?_|refine sb (fun hq=>?_) fun hq=>?_|refine cr (hP) ?_|exact aa)
 exact⟨rfl,rfl⟩
set_option maxHeartbeats 1000000 in
theorem Lz (s:Int)(w:Wrl)(xss:List (Option (List Int)))(ms:List PplM)(hw:WOK w)(hR:Rel w.props xss ms)(m:Int)(i j:Nat)(hi:qV w i=true)(hj1:ms[i]?=some ⟨(aV w i).v,some j⟩)(hj2:xss[j]?=some (some (aV w i).members)):ag Tryz.prog 174 [.ptr 4 0,.int .i64 m,.int .i64 (i:Int)] (rW s w xss ms)
  (.bool (jQ w m i && !(aV w i).members.contains m)) (if jQ w m i && !(aV w i).members.contains m then rW s w (xss.set j none++[some (fk (aV w i).members m)]) (ms.set i ⟨(aV w i).v,some xss.length⟩) else rW s w xss ms):=by
 have hpl:=hw.plen
 have hml:=hR.len
 have hil:=(aQ.1 hj1).1
 obtain⟨n,hn,hn1,hn2⟩:=pY hi
 obtain rfl:i=n:=by omega
 obtain⟨o1,o2⟩:=kk hw (bn hn2)
 refine ab bV Tryz.func174 rfl rfl false 3 7 rfl rfl rfl rfl fun K hK hb1 hb2=>?_;simp only[ae,enc,Nat.reduceAdd]
 clear hb1 hb2
 have hP:=zV s w.com w.lead w.bad (w.views.map aT) xss ms i (by omega) (by omega)
 have hC:=zQ s w.com w.lead w.bad (w.views.map aT) xss ms m
 rw[show (dB w.com m && m !=w.bad)=good w m from rfl] at hC
 cases hg:good w m
 ·have hF:jQ w m i=false:=by unfold jQ;rw[hg];rfl
  rw[hg] at hC
  (repeat' first|refine ch ?_|refine sa fun xe hxe=>?_|refine sb (fun hq=>?_) fun hq=>?_|refine cr (hP) ?_|refine cr (hC) ?_|exact aa)
  rw[hF]
  exact⟨rfl,rfl⟩
 ·rw[hg] at hC
  obtain⟨hm,-⟩:=eL.1 hg
  obtain⟨hk,hG⟩:=le hw hm
  have hc:=hw.com
  have h7:=(ay.1 hc).2
  have hvl:(w.views.map aT).length=w.com.length:=by rw[az,hw.vlen]
  have hxv:=E7 (n:=(w.views.map aT).length) (m:=m) (by rw[hvl];exact hm)
  have hrl:((List.range (w.views.map aT).length).map some).length=w.com.length:=by simp[hvl,hw.vlen]
  have hV:=Ek (w.views.map aT) m.toNat _ (aV w i).v hk (ef _) (nD hc o1).1 (nD hc o1).2
  rw[Ej hw hm o1] at hV
  cases hp:parOK (view w m) (aV w i).v
  ·have hF:jQ w m i=false:=by unfold jQ;rw[hp];simp
   rw[hp] at hV
   (repeat' first|refine ch ?_|refine sa fun xe hxe=>?_|refine sb (fun hq=>?_) fun hq=>?_|refine cr (hP) ?_|refine cr (hC) ?_|refine cr (hV) ?_|exact aa)
   rw[hF]
   exact⟨rfl,rfl⟩
  ·rw[hp] at hV
   have hB:jQ w m i= !HK w m i:=by unfold jQ;rw[hg,hi,hp];simp
   (repeat' first|refine ch ?_|refine sa fun xe hxe=>?_|refine sb (fun hq=>?_) fun hq=>?_|refine cr (hP) ?_|refine cr (hC) ?_|refine cr (hV) ?_|exact aa)
   refine ah hK [] [0,1,2,7,39,40,41] (fun k:Nat=>⟨[(0,.ptr 4 0),(1,.int .i64 m),(2,.int .i64 (i:Int)),(7,.eptr 6 i 0),(39,.ref 6),(40,.int .i64 ms.length),(41,.int .i64 (k:Int))],rW s w xss ms,7⟩) (fun k=>k≤w.props.length∧∀k',k'<k→xm w m i k'=false) (fun k=>w.props.length-k) 0 (by simp) (by(conv=>whnf);rfl) ?_
   rintro k ⟨hk1,hall⟩
   by_cases hlt:k<w.props.length
   ·have hxe:w.props[k]?=some w.props[k]:=am hlt
    obtain⟨jk,hq1,hq2⟩:=hR.get k _ hxe
    have hyes:=HM (m:=m) (i:=(i:Int)) hlt
    have hgd:w.props.getD k p0=w.props[k]:=by rw[aq,hxe];rfl
    have hD:xm w m i k=((k:Int) !=i && (slt w.props[k].v (aV w i).v && w.props[k].members.contains m)):=by unfold xm;rw[hgd]
    generalize w.props[k]=q at *
    have hS:=sN q.v (aV w i).v
    have hN:=j2 q.members m
    have lU:xm w m i k=false→∀k',k'<k+1→xm w m i k'=false:=fun h k' hk'=>by
     rcases ct k' k with h1|h1
     ·exact hall k' h1
     ·obtain rfl:k'=k:=by omega
      exact h
    by_cases c1:k=i
    ·have c2:((k:Int) !=i)=false:=by simp[c1]
     rw[c2,iJ] at hD
     (repeat' first|refine ch ?_|refine sa fun xe hxe=>?_|refine sb (fun hq=>?_) fun hq=>?_|exact aa)
     exact⟨k+1,⟨by omega,lU hD⟩,by omega,rfl⟩
    ·have c2:((k:Int) !=i)=true:=by simp;omega
     rw[c2,dX] at hD
     cases c3:slt q.v (aV w i).v
     ·rw[c3] at hD hS
      (repeat' first|refine ch ?_|refine sa fun xe hxe=>?_|refine sb (fun hq=>?_) fun hq=>?_|refine cr (hS) ?_|exact aa)
      exact⟨k+1,⟨by omega,lU hD⟩,by omega,rfl⟩
     ·rw[c3,dX] at hD
      rw[c3] at hS
      cases c4:q.members.contains m
      ·rw[c4] at hD hN
       (repeat' first|refine ch ?_|refine sa fun xe hxe=>?_|refine sb (fun hq=>?_) fun hq=>?_|refine cr (hS) ?_|((with_reducible refine lm ?_);(conv=>whnf))|((first|with_reducible refine bg (hN) ?_);conv=>whnf)|exact aa)
       exact⟨k+1,⟨by omega,lU hD⟩,by omega,rfl⟩
      ·rw[c4] at hD hN
       rw[hyes hD] at hB
       (repeat' first|refine ch ?_|refine sa fun xe hxe=>?_|refine sb (fun hq=>?_) fun hq=>?_|refine cr (hS) ?_|((with_reducible refine lm ?_);(conv=>whnf))|((first|with_reducible refine bg (hN) ?_);conv=>whnf)|exact aa)
       rw[hB]
       exact⟨rfl,rfl⟩
   ·rw[KI fun k' hk'=>hall k' (by omega)] at hB
    rw[hB]
    have hl:=eO o2
    have ha:=fq o2
    cases hm2:(aV w i).members.contains m
    ·have hY:=Fb xss ms i j _ _ m hj1 hj2 ha (by omega) hm2
     rw[qd ha (by simpa using hm2)] at hY
     (repeat' first|refine ch ?_|refine sa fun xe hxe=>?_|refine sb (fun hq=>?_) fun hq=>?_|refine cr (hY) ?_|exact aa)
     refine gj EI ?_
     (conv=>whnf)
     (repeat' first|refine ch ?_|refine sa fun xe hxe=>?_|refine sb (fun hq=>?_) fun hq=>?_|refine cr (hY) ?_|exact aa)
     exact⟨rfl,rfl⟩
    ·have hY:=Fa xss ms i j _ _ m hj1 hj2 ha (by omega) hm2
     (repeat' first|refine ch ?_|refine sa fun xe hxe=>?_|refine sb (fun hq=>?_) fun hq=>?_|refine cr (hY) ?_|exact aa)
     exact⟨rfl,rfl⟩
theorem In (s:Int)(w:Wrl)(xss:List (Option (List Int)))(ms:List PplM)(hw:WOK w)(hR:Rel w.props xss ms)(m i:Int)(hi:qV w i=false):ag Tryz.prog 175 [.ptr 4 0,.int .i64 m,.int .i64 i] (rW s w xss ms) (.bool false) (rW s w xss ms):=by
 have hpl:=hw.plen
 have hml:=hR.len
 refine ab bV Tryz.func175 rfl rfl false 3 7 rfl rfl rfl rfl fun K hK hb1 hb2=>?_;simp only[ae,enc,Nat.reduceAdd]
 clear hb1 hb2
 have hP:=zT s w.com w.lead w.bad (w.views.map aT) xss ms i (by rw[hml];exact Aj hi) (by omega)
 (repeat' first|refine ch ?_|refine sa fun xe hxe=>?_|refine sb (fun hq=>?_) fun hq=>?_|refine cr (hP) ?_|exact aa)
 exact⟨rfl,rfl⟩
abbrev AI (w:Wrl)(m:Int)(v:Vtx):List (List (Option Vtx)):=(w.views.map aT).set m.toNat ((aT (view w m)).set (mB v) (some v))
theorem Js {w:Wrl}(hw:WOK w){m:Int}(hm:0≤m∧m<w.com.length){v:Vtx}(hv:jq v):(aT (view w m))[v.round.toNat * 7+v.author.toNat]?=some ((aT (view w m)).getD (v.round.toNat * 7+v.author.toNat) none)∧((aT (view w m)).getD (v.round.toNat * 7+v.author.toNat) none).isSome=d7 (view w m) v.round v.author:=by
 obtain⟨⟨a1,a2⟩,a3,a4⟩:=hv
 have hG:=(le hw hm).2
 have:=rR (fun u hu=>dw hw.com (hG.vtx u hu)) (r:=v.round) (a:=v.author) ⟨a1,a2⟩ ⟨a3,a4⟩
 rw[show (v.round*7+v.author).toNat=v.round.toNat * 7+v.author.toNat by omega] at this
 exact⟨by rw[aq,am (by rw[ef];omega)];rfl,this⟩
set_option maxHeartbeats 1000000 in
theorem Lh (s:Int)(w:Wrl)(xss:List (Option (List Int)))(ms:List PplM)(hw:WOK w)(hR:Rel w.props xss ms)(m:Int)(i j:Nat)(hi:qV w i=true)(hj1:ms[i]?=some ⟨(aV w i).v,some j⟩)(hj2:xss[j]?=some (some (aV w i).members)):ag Tryz.prog 175 [.ptr 4 0,.int .i64 m,.int .i64 (i:Int)] (rW s w xss ms)
  (.bool (eJ w m i)) (if eJ w m i then rX s w.com w.lead w.bad (AI w m (aV w i).v) xss ms else rW s w xss ms):=by
 have hpl:=hw.plen
 have hml:=hR.len
 have hil:=(aQ.1 hj1).1
 obtain⟨n,hn,hn1,hn2⟩:=pY hi
 obtain rfl:i=n:=by omega
 obtain⟨o1,o2⟩:=kk hw (bn hn2)
 refine ab bV Tryz.func175 rfl rfl false 3 7 rfl rfl rfl rfl fun K hK hb1 hb2=>?_;simp only[ae,enc,Nat.reduceAdd]
 clear hb1 hb2
 have hP:=zV s w.com w.lead w.bad (w.views.map aT) xss ms i (by omega) (by omega)
 have hC:=zQ s w.com w.lead w.bad (w.views.map aT) xss ms m
 rw[show (dB w.com m && m !=w.bad)=good w m from rfl] at hC
 cases hg:good w m
 ·have hF:eJ w m i=false:=by unfold eJ;rw[hg];rfl
  rw[hg] at hC
  (repeat' first|refine ch ?_|refine sa fun xe hxe=>?_|refine sb (fun hq=>?_) fun hq=>?_|refine cr (hP) ?_|refine cr (hC) ?_|exact aa)
  rw[hF]
  exact⟨rfl,rfl⟩
 ·rw[hg] at hC
  obtain⟨hm,-⟩:=eL.1 hg
  obtain⟨hk,hG⟩:=le hw hm
  have hc:=hw.com
  have h7:=(ay.1 hc).2
  have hvl:(w.views.map aT).length=w.com.length:=by rw[az,hw.vlen]
  have hxv:=E7 (n:=(w.views.map aT).length) (m:=m) (by rw[hvl];exact hm)
  have hrl:((List.range (w.views.map aT).length).map some).length=w.com.length:=by simp[hvl,hw.vlen]
  have hV:=Ek (w.views.map aT) m.toNat _ (aV w i).v hk (ef _) (nD hc o1).1 (nD hc o1).2
  rw[Ej hw hm o1] at hV
  have hD:=vW w.com (aV w i) hc o2
  obtain⟨hs1,hs2⟩:=Js hw hm (dw hc o1)
  obtain⟨⟨a1,a2⟩,a3,a4⟩:=dw hc o1
  have hpp:=pq hc o1
  have htl:=ef (view w m)
  cases hd:don w.com (aV w i)
  ·have hF:eJ w m i=false:=by unfold eJ;rw[hd];simp
   rw[hd] at hD
   (repeat' first|refine ch ?_|refine sa fun xe hxe=>?_|refine sb (fun hq=>?_) fun hq=>?_|refine cr (hP) ?_|refine cr (hC) ?_|((with_reducible refine lm ?_);(conv=>whnf))|((first|with_reducible refine bg (hD) ?_);conv=>whnf)|exact aa)
   rw[hF]
   exact⟨rfl,rfl⟩
  ·rw[hd] at hD
   cases hp:parOK (view w m) (aV w i).v
   ·have hF:eJ w m i=false:=by unfold eJ;rw[hp];simp
    rw[hp] at hV
    (repeat' first|refine ch ?_|refine sa fun xe hxe=>?_|refine sb (fun hq=>?_) fun hq=>?_|refine cr (hP) ?_|refine cr (hC) ?_|refine cr (hV) ?_|((with_reducible refine fF ?_);(conv=>whnf);(first|with_reducible refine bg (oM _ (cz hpp (by omega))) ?_);conv=>whnf)|((with_reducible refine lm ?_);(conv=>whnf))|((first|with_reducible refine bg (hD) ?_);conv=>whnf)|exact aa)
    rw[hF]
    exact⟨rfl,rfl⟩
   ·rw[hp] at hV
    have hB:eJ w m i= !d7 (view w m) (aV w i).v.round (aV w i).v.author:=by unfold eJ;rw[hg,hi,hd,hp];simp
    cases ho:(aT (view w m)).getD ((aV w i).v.round.toNat * 7+(aV w i).v.author.toNat) none with
    |some u=>
     rw[ho] at hs1 hs2
     rw[←hs2] at hB
     (repeat' first|refine ch ?_|refine sa fun xe hxe=>?_|refine sb (fun hq=>?_) fun hq=>?_|refine cr (hP) ?_|refine cr (hC) ?_|refine cr (hV) ?_|((with_reducible refine fF ?_);(conv=>whnf);(first|with_reducible refine bg (oM _ (cz hpp (by omega))) ?_);conv=>whnf)|((with_reducible refine lm ?_);(conv=>whnf))|((first|with_reducible refine bg (hD) ?_);conv=>whnf)|exact aa)
     rw[hB]
     exact⟨rfl,rfl⟩
    |none=>
     rw[ho] at hs1 hs2
     rw[←hs2] at hB
     (repeat' first|refine ch ?_|refine sa fun xe hxe=>?_|refine sb (fun hq=>?_) fun hq=>?_|refine cr (hP) ?_|refine cr (hC) ?_|refine cr (hV) ?_|((with_reducible refine fF ?_);(conv=>whnf);(first|with_reducible refine bg (oM _ (cz hpp (by omega))) ?_);conv=>whnf)|((with_reducible refine lm ?_);(conv=>whnf))|((first|with_reducible refine bg (hD) ?_);conv=>whnf)|exact aa)
     rw[hB]
     refine⟨rfl,?_⟩
     have e:mB (aV w i).v=(aV w i).v.round.toNat * 7+(aV w i).v.author.toNat:=by unfold mB;omega
     have e2:(AI w m (aV w i).v).length=(w.views.map aT).length:=jI ..
     show _=rX s w.com w.lead w.bad (AI w m (aV w i).v) xss ms
     delta rX
     rw[e2]
     delta AI
     rw[e]
theorem H4 {w:Wrl}{v:Vtx}(h1:v.author=w.bad)(h2:∀p∈w.props,lb p.v v=false):jO w v=(vtxS w.com v && decide (w.props.length<220)):=by
 have h3:w.props.any (fun p=>lb p.v v)=false:=by
  rw[List.any_eq_false]
  intro p hp
  rw[h2 p hp]
  simp
 unfold jO
 rw[h3,h1]
 cases h:vtxS w.com v
 ·simp
 ·have:=(bG h).2.1.1
  rw[decide_eq_true (p:=0≤w.bad) (by omega)]
  simp
set_option maxHeartbeats 1000000 in
theorem Fj (s:Int)(w:Wrl)(xss:List (Option (List Int)))(ms:List PplM)(hw:WOK w)(hR:Rel w.props xss ms)(v:Vtx):ag Tryz.prog 176 [.ptr 4 0,de v] (rW s w xss ms) (.bool (jO w v)) (if jO w v then Oe s w (xss++[some []]) (ms++[⟨v,some xss.length⟩]) else rW s w xss ms):=by
 have hpl:=hw.plen
 have hml:=hR.len
 have hc:=hw.com
 refine ab bV Tryz.func176 rfl rfl false 3 7 rfl rfl rfl rfl fun K hK hb1 hb2=>?_;simp only[ae,enc,Nat.reduceAdd]
 clear hb1 hb2
 cases c1:v.author !=w.bad
 ·have ha:v.author=w.bad:=by simpa using c1
  (repeat' first|refine ch ?_|refine sa fun xe hxe=>?_|refine sb (fun hq=>?_) fun hq=>?_|exact aa)
  refine ah hK [] [0,3,17,18,19] (fun k:Nat=>⟨[(0,.ptr 4 0),(3,.ptr 7 0),(17,.ref 6),(18,.int .i64 ms.length),(19,.int .i64 (k:Int))],rW s w xss ms++[(7,VB.var 58 (de v).cells)],8⟩) (fun k=>k≤w.props.length∧∀p∈w.props.take k,lb p.v v=false) (fun k=>w.props.length-k) 0 (by simp) (by(conv=>whnf);rfl) ?_
  rintro k ⟨hk1,hall⟩
  by_cases hlt:k<w.props.length
  ·have hxe:w.props[k]?=some w.props[k]:=am hlt
   have hsn:w.props.take (k+1)=w.props.take k++[w.props[k]]:=ca hlt
   obtain⟨jk,hq1,hq2⟩:=hR.get k _ hxe
   have hmem:=be hlt
   generalize w.props[k]=q at *
   have hE:=nX q.v v
   cases c3:lb q.v v
   ·rw[c3] at hE
    (repeat' first|refine ch ?_|refine sa fun xe hxe=>?_|refine sb (fun hq=>?_) fun hq=>?_|refine cr (hE) ?_|exact aa)
    exact⟨k+1,⟨by omega,by rw[hsn];exact bM hall c3⟩,by omega,rfl⟩
   ·have hF:jO w v=false:=by
     unfold jO
     rw[fU.2 ⟨q,hmem,c3⟩]
     simp
    rw[c3] at hE
    (repeat' first|refine ch ?_|refine sa fun xe hxe=>?_|refine sb (fun hq=>?_) fun hq=>?_|refine cr (hE) ?_|exact aa)
    rw[hF]
    exact⟨rfl,rfl⟩
  ·rw[br (by omega)] at hall
   have heq:=H4 ha hall
   cases hv:(vtxS w.com v && decide (w.props.length<220))
   ·rw[hv] at heq
    have hN:=zO s w.com w.lead w.bad (w.views.map aT) xss ms v hc (by rw[hml];exact hv) (by omega)
    (repeat' first|refine ch ?_|refine sa fun xe hxe=>?_|refine sb (fun hq=>?_) fun hq=>?_|refine cr (hN) ?_|exact aa)
    rw[heq]
    exact⟨rfl,rfl⟩
   ·rw[hv] at heq
    simp only[aB,decide_eq_true_eq] at hv
    have hY:=zP s w.com w.lead w.bad (w.views.map aT) xss ms v hc hv.1 (by omega)
    (repeat' first|refine ch ?_|refine sa fun xe hxe=>?_|refine sb (fun hq=>?_) fun hq=>?_|refine cr (hY) ?_|exact aa)
    refine gj (zH _ _ _ _) ?_
    (conv=>whnf)
    (repeat' first|refine ch ?_|refine sa fun xe hxe=>?_|refine sb (fun hq=>?_) fun hq=>?_|refine cr (hY) ?_|exact aa)
    rw[heq]
    exact⟨rfl,rfl⟩
 ·have hF:jO w v=false:=by
   have:(v.author==w.bad)=false:=by simpa using c1
   unfold jO
   rw[this]
   simp
  (repeat' first|refine ch ?_|refine sa fun xe hxe=>?_|refine sb (fun hq=>?_) fun hq=>?_|exact aa)
  rw[hF]
  exact⟨rfl,rfl⟩
theorem Ii (s:Int)(w:Wrl)(xss:List (Option (List Int)))(ms:List PplM)(hw:WOK w)(hR:Rel w.props xss ms)(i:Int)(hi:qV w i=false):ag Tryz.prog 177 [.ptr 4 0,.int .i64 i] (rW s w xss ms) (.bool false) (rW s w xss ms):=by
 have hpl:=hw.plen
 have hml:=hR.len
 refine ab bV Tryz.func177 rfl rfl false 3 7 rfl rfl rfl rfl fun K hK hb1 hb2=>?_;simp only[ae,enc,Nat.reduceAdd]
 clear hb1 hb2
 have hP:=zT s w.com w.lead w.bad (w.views.map aT) xss ms i (by rw[hml];exact Aj hi) (by omega)
 (repeat' first|refine ch ?_|refine sa fun xe hxe=>?_|refine sb (fun hq=>?_) fun hq=>?_|refine cr (hP) ?_|exact aa)
 exact⟨rfl,rfl⟩
theorem La (s:Int)(w:Wrl)(xss:List (Option (List Int)))(ms:List PplM)(hw:WOK w)(hR:Rel w.props xss ms)(i j:Nat)(hi:qV w i=true)(hj1:ms[i]?=some ⟨(aV w i).v,some j⟩)(hj2:xss[j]?=some (some (aV w i).members)):ag Tryz.prog 177 [.ptr 4 0,.int .i64 (i:Int)] (rW s w xss ms)
  (.bool (l7 w i && !(aV w i).members.contains w.bad)) (if l7 w i && !(aV w i).members.contains w.bad then rW s w (xss.set j none++[some (fk (aV w i).members w.bad)]) (ms.set i ⟨(aV w i).v,some xss.length⟩) else rW s w xss ms):=by
 have hpl:=hw.plen
 have hml:=hR.len
 have hil:=(aQ.1 hj1).1
 obtain⟨n,hn,hn1,hn2⟩:=pY hi
 obtain rfl:i=n:=by omega
 obtain⟨o1,o2⟩:=kk hw (bn hn2)
 have hl:=eO o2
 have ha:=fq o2
 have h7:=(ay.1 hw.com).2
 refine ab bV Tryz.func177 rfl rfl false 3 7 rfl rfl rfl rfl fun K hK hb1 hb2=>?_;simp only[ae,enc,Nat.reduceAdd]
 clear hb1 hb2
 have hP:=zV s w.com w.lead w.bad (w.views.map aT) xss ms i (by omega) (by omega)
 by_cases hb:0≤w.bad
 ·have hB:l7 w i=true:=by unfold l7;rw[hi,decide_eq_true hb];rfl
  rw[hB]
  cases hm2:(aV w i).members.contains w.bad
  ·have hY:=Fb xss ms i j _ _ w.bad hj1 hj2 ha (by omega) hm2
   rw[qd ha (by simpa using hm2)] at hY
   (repeat' first|refine ch ?_|refine sa fun xe hxe=>?_|refine sb (fun hq=>?_) fun hq=>?_|refine cr (hP) ?_|refine cr (hY) ?_|exact aa)
   refine gj EI ?_
   (conv=>whnf)
   (repeat' first|refine ch ?_|refine sa fun xe hxe=>?_|refine sb (fun hq=>?_) fun hq=>?_|refine cr (hP) ?_|refine cr (hY) ?_|exact aa)
   exact⟨rfl,rfl⟩
  ·have hY:=Fa xss ms i j _ _ w.bad hj1 hj2 ha (by omega) hm2
   (repeat' first|refine ch ?_|refine sa fun xe hxe=>?_|refine sb (fun hq=>?_) fun hq=>?_|refine cr (hP) ?_|refine cr (hY) ?_|exact aa)
   exact⟨rfl,rfl⟩
 ·have hB:l7 w i=false:=by unfold l7;rw[decide_eq_false hb];rfl
  rw[hB]
  (repeat' first|refine ch ?_|refine sa fun xe hxe=>?_|refine sb (fun hq=>?_) fun hq=>?_|refine cr (hP) ?_|exact aa)
  exact⟨rfl,rfl⟩
end Go.Proofs.YtpefhoohfkeflaaGreatDoor.Am
namespace Go.Proofs.YtpefhoohfkeflaaGreatDoor.Am
open Go
def Pc:Go.Conc.Locks.MuLink:={lock:=171,unlock:=172,ilock:=189,iunlock:=190,lockSlow:=209,unlockSlow:=212,disable:=205,enable:=207,acquire:=208,relMerge:=210,cas32:=206,add32:=211,tMutex:=113,tIMutex:=111,tPMutex:=217,tPIMutex:=230,tPI32:=232,tUP:=171,tNoCopy:=108,tU32:=109}
theorem FL:Go.Conc.Locks.MuLib Tryz.prog Pc:=
 ⟨Tryz.func171,Tryz.func172,Tryz.func189,Tryz.func190,Tryz.func205,Tryz.func207,Tryz.func208,Tryz.func210,Tryz.func206,Tryz.func211,Tryz.underlying111,Tryz.runUnderlying111,Tryz.sizeOf111,Tryz.isAgg111,Tryz.zeroValue111,Tryz.underlying113,Tryz.runUnderlying113,Tryz.sizeOf113,Tryz.isAgg113,Tryz.zeroValue113,Tryz.underlying217,Tryz.runUnderlying217,Tryz.sizeOf217,Tryz.isAgg217,Tryz.zeroValue217,Tryz.underlying230,Tryz.runUnderlying230,Tryz.sizeOf230,Tryz.isAgg230,Tryz.zeroValue230,Tryz.underlying232,Tryz.runUnderlying232,Tryz.sizeOf232,Tryz.isAgg232,Tryz.zeroValue232,Tryz.underlying171,Tryz.runUnderlying171,Tryz.sizeOf171,Tryz.isAgg171,Tryz.zeroValue171,Tryz.underlying108,Tryz.runUnderlying108,Tryz.sizeOf108,Tryz.isAgg108,Tryz.zeroValue108,Tryz.underlying21,Tryz.runUnderlying21,Tryz.sizeOf21,Tryz.isAgg21,Tryz.zeroValue21,(by kernel_rfl)⟩
end Go.Proofs.YtpefhoohfkeflaaGreatDoor.Am
namespace Go.Proofs.YtpefhoohfkeflaaGreatDoor.Am
open Go
attribute [local irreducible] Mk ck Ari fK mQ jM cd cX i7 fC At ag
set_option maxRecDepth 10000
theorem wr (w:Wrl)(m:Int):ag Tryz.prog 49 [bd w,.int .i64 m] [] (.bool (good w m)) []:=by
 have hI:=nF m 0 ((w.com.length:Int)-1)
 refine ab aj Tryz.func49 rfl rfl false 0 4 rfl rfl rfl rfl fun K hK hb1 hb2=>?_;simp only[ae,enc,Nat.reduceAdd]
 simp[ak,V.toD,bnd,ai,D.cells] at hb1
 cases h:j5 m 0 ((w.com.length:Int)-1)
 ·rw[h] at hI
  (repeat' first|refine st ?_|refine sa fun xe hxe=>?_|refine sb (fun hq=>?_) fun hq=>?_|refine cr (hI) ?_|exact aa)
  exact⟨by simp[good,dB,h],rfl⟩
 ·rw[h] at hI
  (repeat' first|refine st ?_|refine sa fun xe hxe=>?_|refine sb (fun hq=>?_) fun hq=>?_|refine cr (hI) ?_|exact aa)
  exact⟨by simp[good,dB,h],rfl⟩
theorem FR {ps:List Ppl}{i:Nat}{p:Ppl}(h:ps[i]?=some p)(m:Int):lU (ps.take (i+1)) m=if p.v.author=m then(if lU (ps.take i) m<p.v.round+1 then p.v.round+1 else lU (ps.take i) m) else lU (ps.take i) m:=by
 obtain⟨hl,rfl⟩:=aQ.1 h
 rw[ca hl,rF]
 split
 ·split<;>omega
 ·rfl
theorem Jt (w:Wrl)(m:Int)(hp:∀p∈w.props,0≤p.v.round∧p.v.round≤30)(hl:w.props.length≤1000):ag Tryz.prog 53 [bd w,.int .i64 m] [] (.int .i64 (lU w.props m)) []:=by
 refine ab aj Tryz.func53 rfl rfl false 0 4 rfl rfl rfl rfl fun K hK hb1 hb2=>?_;simp only[ae,enc,Nat.reduceAdd]
 clear hb1 hb2
 (repeat' first|refine st ?_|refine sa fun xe hxe=>?_|refine sb (fun hq=>?_) fun hq=>?_|exact aa)
 refine ah hK [] [1,2,5,6] (fun i:Nat=>⟨[(1,.int .i64 m),(2,.ptr 4 0),(5,.int .i64 (lU (w.props.take i) m)),(6,.int .i64 (i:Int))],[(4,.var 31 (bd w).cells)],5⟩) (fun i=>i≤w.props.length) (fun i=>w.props.length-i) 0 (by simp) rfl ?_
 intro i hi
 by_cases hlt:i<w.props.length
 ·have hxe:w.props[i]?=some w.props[i]:=am hlt
  have hs:=FR hxe m
  have hpb:=hp _ (be hlt)
  have hnb:=FO (m:=m) fun p hpp=>hp p (j7 (i:=i) hpp)
  generalize w.props[i]=p at *
  by_cases ha:p.v.author=m
  ·rw[if_pos ha] at hs
   (repeat' first|refine st ?_|refine sa fun xe hxe=>?_|refine sb (fun hq=>?_) fun hq=>?_|exact aa)
   exact⟨i+1,by omega,by omega,by rw[hs];rfl⟩
  ·rw[if_neg ha] at hs
   (repeat' first|refine st ?_|refine sa fun xe hxe=>?_|refine sb (fun hq=>?_) fun hq=>?_|exact aa)
   exact⟨i+1,by omega,by omega,by rw[hs];rfl⟩
 ·(repeat' first|refine st ?_|refine sa fun xe hxe=>?_|refine sb (fun hq=>?_) fun hq=>?_|exact aa)
  rw[br (by omega)]
  exact⟨rfl,rfl⟩
theorem MB (l:List Int)(n:Int)(hl:l.length≤1000):ag Tryz.prog 98 [.lst (.int .i64) l,.int .i64 n] [] (.lst (.int .i64) (fk l n)) []:=by
 refine ab aj Tryz.func98 rfl rfl true 0 4 rfl rfl rfl rfl fun K hK hb1 hb2=>?_;simp only[ae,enc,Nat.reduceAdd]
 clear hb1 hb2
 (repeat' first|refine st ?_|refine sa fun xe hxe=>?_|refine sb (fun hq=>?_) fun hq=>?_|exact aa)
 refine ah hK [] [0,1,5] (fun k:Nat=>⟨[(0,.lst (.int .i64) l),(1,.int .i64 n),(5,.int .i64 (k:Int))],[],4⟩) (fun k=>k≤l.length∧∀y∈l.take k,y<n) (fun k=>l.length-k) 0 ⟨by simp,by simp⟩ rfl ?_
 rintro k ⟨hk,hall⟩
 have hat:=BE (l:=l) (n:=n) (k:=k) hall hk
 have e1:ma l none (some (.int .i64 k)) 0 (k:Int).toNat=l.take k:=by simp[ma]
 have e2:ma l (some (.int .i64 k)) none (k:Int).toNat l.length=l.drop k:=by simp[ma]
 have hl1:(l.take k).length=k:=by rw[bQ];omega
 have hl2:(l.drop k).length=l.length-k:=lK ..
 by_cases hlt:k<l.length
 ·have hxe:l[k]?=some l[k]:=am hlt
  have hsn:l.take (k+1)=l.take k++[l[k]]:=ca hlt
  generalize l[k]=x at *
  by_cases hx:x<n
  ·(repeat' first|refine st ?_|refine sa fun xe hxe=>?_|refine sb (fun hq=>?_) fun hq=>?_|exact aa)
   exact⟨k+1,⟨by omega,by rw[hsn];intro y hy;rcases bi.1 hy with h|h;exact hall y h;rw[aY.1 h];exact hx⟩,by omega,rfl⟩
  ·have hat:=hat fun y hy=>by rw[hxe] at hy;obtain rfl:=ar hy;exact hx
   rw[hxe] at hat
   by_cases hxn:x=n
   ·rw[if_pos (by rw[hxn])] at hat
    rw[hat]
    (repeat' first|refine st ?_|refine sa fun xe hxe=>?_|refine sb (fun hq=>?_) fun hq=>?_|exact aa)
    exact⟨rfl,rfl⟩
   ·rw[if_neg (by simpa using hxn)] at hat
    rw[hat]
    (repeat' first|refine st ?_|refine sa fun xe hxe=>?_|refine sb (fun hq=>?_) fun hq=>?_|exact aa)
    rw[e1]
    refine gj ?_ ?_
    ·refine m6 (xs:=([]:List Int)) (ys:=l.take k) (by simp) (by omega) ?_;decide
    (conv=>whnf)
    (repeat' first|refine st ?_|refine sa fun xe hxe=>?_|refine sb (fun hq=>?_) fun hq=>?_|exact aa)
    rw[e2]
    refine gj ?_ ?_
    ·refine m6 (xs:=[]++l.take k++[n]) (ys:=l.drop k) (by rw[eB,aO,mM];omega) (by omega) ?_;decide
    (conv=>whnf)
    (repeat' first|refine st ?_|refine sa fun xe hxe=>?_|refine sb (fun hq=>?_) fun hq=>?_|exact aa)
    exact⟨rfl,rfl⟩
 ·obtain rfl:k=l.length:=by omega
  have hat:=hat fun y hy=>by rw[dP (ax _)] at hy;cases hy
  rw[dP (ax _),if_neg (by simp)] at hat
  rw[hat]
  (repeat' first|refine st ?_|refine sa fun xe hxe=>?_|refine sb (fun hq=>?_) fun hq=>?_|exact aa)
  rw[e1]
  refine gj ?_ ?_
  ·refine m6 (xs:=([]:List Int)) (ys:=l.take l.length) (by simp) (by omega) ?_;decide
  (conv=>whnf)
  (repeat' first|refine st ?_|refine sa fun xe hxe=>?_|refine sb (fun hq=>?_) fun hq=>?_|exact aa)
  rw[e2]
  refine gj ?_ ?_
  ·refine m6 (xs:=[]++l.take l.length++[n]) (ys:=l.drop l.length) (by rw[eB,aO,mM];omega) (by omega) ?_;decide
  (conv=>whnf)
  (repeat' first|refine st ?_|refine sa fun xe hxe=>?_|refine sb (fun hq=>?_) fun hq=>?_|exact aa)
  exact⟨rfl,rfl⟩
theorem IJ {n:Nat}(h:n≤1000000):n≤2000000:=by omega
theorem qh (v:Vtx)(hl:v.parents.length≤2000000):ag Tryz.prog 63 [de v] [] (de v) []:=by
 refine ab aj Tryz.func63 rfl rfl true 0 4 rfl rfl rfl rfl fun K hK hb1 hb2=>?_;simp only[ae,enc,Nat.reduceAdd]
 clear hb1 hb2
 (repeat' first|refine st ?_|refine sa fun xe hxe=>?_|refine sb (fun hq=>?_) fun hq=>?_|exact aa)
 exact⟨rfl,rfl⟩
theorem Cj (g:List Vtx)(hl:g.length≤1000)(hv:∀v∈g,v.parents.length≤1000000):ag Tryz.prog 99 [.lst .vtx g] [] (.lst .vtx g) []:=by
 refine ab aj Tryz.func99 rfl rfl true 0 4 rfl rfl rfl rfl fun K hK hb1 hb2=>?_;simp only[ae,enc,Nat.reduceAdd]
 clear hb1 hb2
 (repeat' first|refine st ?_|refine sa fun xe hxe=>?_|refine sb (fun hq=>?_) fun hq=>?_|exact aa)
 refine ah hK [] [0,3,4] (fun i:Nat=>⟨[(0,.lst .vtx g),(3,.ref 4),(4,.int .i64 (i:Int))],[(4,.row 58 .vtx (g.take i))],5⟩) (fun i=>i≤g.length) (fun i=>g.length-i) 0 (by simp) rfl ?_
 intro i hi
 by_cases hlt:i<g.length
 ·have hxe:g[i]?=some g[i]:=am hlt
  have hsn:g.take (i+1)=g.take i++[g[i]]:=ca hlt
  have hvl:=hv _ (be hlt)
  have hll:(g.take i).length=i:=by rw[bQ];omega
  generalize g[i]=v at *
  generalize g.take i=l at *
  (repeat' first|refine st ?_|refine sa fun xe hxe=>?_|refine sb (fun hq=>?_) fun hq=>?_|refine cr (qh _ (IJ hvl)) ?_|exact aa)
  exact⟨i+1,by omega,by omega,by rw[hsn];rfl⟩
 ·(repeat' first|refine st ?_|refine sa fun xe hxe=>?_|refine sb (fun hq=>?_) fun hq=>?_|exact aa)
  rw[br (by omega)]
  exact⟨rfl,rfl⟩
theorem KY {g:List Vtx}{r a:Int}(h:d7 g r a=false):lS g r a<0:=by
 have:=zI g r a
 simpa[h] using this
theorem Ms (g:List Vtx)(v:Vtx)(hl:g.length≤400)(hv:∀u∈g,u.parents.length≤1000000)(hvp:v.parents.length≤1000000)(hr:-1000000<v.round∧v.round<1000000)(h1:d7 g v.round v.author=false)(h2:parOK g v=true):ag Tryz.prog 61 [.lst .vtx g,de v] [] (.tup [.lst .vtx (gS g v),.int .i64 0]) []:=by
 have hF:=pL g v.round v.author
 have hF2:=KY h1
 have hP:=e8 g v hr
 rw[h2] at hP
 refine ab aj Tryz.func61 rfl rfl true 0 4 rfl rfl rfl rfl fun K hK hb1 hb2=>?_;simp only[ae,enc,Nat.reduceAdd]
 clear hb1 hb2
 generalize lS g v.round v.author=fi at *
 (repeat' first|refine st ?_|refine sa fun xe hxe=>?_|refine sb (fun hq=>?_) fun hq=>?_|refine cr (hF) ?_|refine cr (hP) ?_|exact aa)
 refine ah hK [] [0,3,7,8] (fun k:Nat=>⟨[(0,.lst .vtx g),(3,.ptr 4 0),(7,.ref 5),(8,.int .i64 (k:Int))],[(4,.var 58 (de v).cells),(5,.row 58 .vtx (g.take k))],6⟩) (fun k=>k≤g.length∧∀y∈g.take k,bef y v=true) (fun k=>g.length-k) 0 ⟨by simp,by simp⟩ rfl ?_
 rintro k ⟨hk,hall⟩
 have hat:=BF (g:=g) (v:=v) (k:=k) hall hk
 have hll:(g.take k).length=k:=by rw[bQ];omega
 have e2:ma g (some (.int .i64 k)) none (k:Int).toNat g.length=g.drop k:=by simp[ma]
 have hdl:(g.drop k).length=g.length-k:=lK ..
 have hC:=Cj (g.drop k) (by omega) fun u hu=>hv u (List.mem_of_mem_drop hu)
 by_cases hlt:k<g.length
 ·have hxe:g[k]?=some g[k]:=am hlt
  have hsn:g.take (k+1)=g.take k++[g[k]]:=ca hlt
  have hxl:=hv _ (be hlt)
  generalize g[k]=x at *
  have hB:=oq x v
  cases hb:bef x v
  ·rw[hb] at hB
   have hat:=hat fun y hy=>by rw[hxe] at hy;obtain rfl:=ar hy;exact hb
   rw[hat]
   generalize g.take k=lt at *
   (repeat' first|refine st ?_|refine sa fun xe hxe=>?_|refine sb (fun hq=>?_) fun hq=>?_|refine cr (hB) ?_|refine cr (qh _ (IJ hvp)) ?_|exact aa)
   have e3:ma g (some (.int .i64 (lt.length:Int))) none (lt.length:Int).toNat g.length=g.drop k:=by rw[hll];exact e2
   rw[e3]
   (repeat' first|refine st ?_|refine sa fun xe hxe=>?_|refine sb (fun hq=>?_) fun hq=>?_|refine cr (hC) ?_|exact aa)
   exact⟨rfl,rfl⟩
  ·rw[hb] at hB
   generalize hlt2:g.take k=lt at *
   (repeat' first|refine st ?_|refine sa fun xe hxe=>?_|refine sb (fun hq=>?_) fun hq=>?_|refine cr (hB) ?_|refine cr (qh _ (IJ hxl)) ?_|exact aa)
   exact⟨k+1,⟨by omega,by rw[hsn];exact bM hall hb⟩,by omega,by rw[hsn];rfl⟩
 ·have hat:=hat fun y hy=>by rw[dP (by omega)] at hy;cases hy
  rw[hat]
  generalize g.take k=lt at *
  (repeat' first|refine st ?_|refine sa fun xe hxe=>?_|refine sb (fun hq=>?_) fun hq=>?_|refine cr (qh _ (IJ hvp)) ?_|exact aa)
  have e3:ma g (some (.int .i64 (lt.length:Int))) none (lt.length:Int).toNat g.length=g.drop k:=by rw[hll];exact e2
  rw[e3]
  (repeat' first|refine st ?_|refine sa fun xe hxe=>?_|refine sb (fun hq=>?_) fun hq=>?_|refine cr (hC) ?_|exact aa)
  exact⟨rfl,rfl⟩
theorem AA (w:Wrl)(m d:Int)(h:WOK w):ag Tryz.prog 26 [bd w,.int .i64 m,.int .i64 d] [] (bd (eS w m d)) []:=by
 have hG:=wr w m
 have hD:=sr d
 have hN:=Jt w m (fun p hp=>(bG (h.pv p hp).1).1) (by have:=h.plen;omega)
 have hpl:=h.plen
 have hno:jP w m d=false→eS w m d=w:=fun h=>by simp[eS,h]
 refine ab aj Tryz.func26 rfl rfl true 0 4 rfl rfl rfl rfl fun K hK hb1 hb2=>?_;simp only[ae,enc,Nat.reduceAdd]
 clear hb1 hb2
 cases h1:good w m
 ·rw[h1] at hG
  rw[hno (by simp[jP,h1])]
  (repeat' first|refine st ?_|refine sa fun xe hxe=>?_|refine sb (fun hq=>?_) fun hq=>?_|refine cr (hG) ?_|exact aa)
  exact⟨rfl,rfl⟩
 rw[h1] at hG
 cases h2:j5 d 0 990
 ·rw[h2] at hD
  rw[hno (by simp[jP,h2])]
  (repeat' first|refine st ?_|refine sa fun xe hxe=>?_|refine sb (fun hq=>?_) fun hq=>?_|refine cr (hG) ?_|refine cr (hD) ?_|exact aa)
  exact⟨rfl,rfl⟩
 rw[h2] at hD
 by_cases h3:w.props.length<220
 rotate_left
 ·rw[hno (by simp[jP,h3])]
  (repeat' first|refine st ?_|refine sa fun xe hxe=>?_|refine sb (fun hq=>?_) fun hq=>?_|refine cr (hG) ?_|refine cr (hD) ?_|exact aa)
  exact⟨rfl,rfl⟩
 obtain⟨hx,hvm,hml⟩:=h.view h1
 have hgo:=eZ (h.gra _ hvm)
 have hvl:=h.vl _ hvm
 have hgr:=eL.1 h1
 have hvlen:=h.vlen
 have hH:=Nt w.com (view w m) hgo (by omega)
 have hhb:=oI w.com (view w m) 31
 have hhb:-1≤iO w.com (view w m)∧iO w.com (view w m)<31:=hhb
 have hnb:=FO (ps:=w.props) (m:=m) fun p hp=>(bG (h.pv p hp).1).1
 have hB:jP w m d=(decide (lU w.props m≤(iA w m d).round) && vtxS w.com (iA w m d)):=by simp[jP,h1,h2,h3]
 by_cases h4:0<iO w.com (view w m)+1
 ·have hA:=zj (view w m) (iO w.com (view w m)+1-1) (by omega)
  have hv:iA w m d=⟨iO w.com (view w m)+1,m,fE (view w m) (iO w.com (view w m)+1-1),d⟩:=by
   rw[iA,if_pos h4,show iO w.com (view w m)+1-1=iO w.com (view w m) by omega]
  have hV:=nM w.com (iA w m d) h.com
  rw[hv] at hV hB
  have hadd:jP w m d=true→eS w m d=tV w ⟨iO w.com (view w m)+1,m,fE (view w m) (iO w.com (view w m)+1-1),d⟩:=fun hb=>by simp only[eS,hb,if_true,hv]
  generalize fE (view w m) (iO w.com (view w m)+1-1)=au at *
  generalize iO w.com (view w m)=hh at *
  generalize view w m=g at *
  by_cases h5:lU w.props m≤hh+1
  rotate_left
  ·rw[hno (by rw[hB];simp[h5])]
   generalize lU w.props m=nn at *
   (repeat' first|refine st ?_|refine sa fun xe hxe=>?_|refine sb (fun hq=>?_) fun hq=>?_|refine cr (hG) ?_|refine cr (hD) ?_|refine cr (hH) ?_|refine cr (hA) ?_|refine cr (hN) ?_|refine cr (hV) ?_|exact aa)
   exact⟨rfl,rfl⟩
  cases h6:vtxS w.com ⟨hh+1,m,au,d⟩
  ·rw[h6] at hV
   rw[hno (by rw[hB,h6,lO])]
   generalize lU w.props m=nn at *
   (repeat' first|refine st ?_|refine sa fun xe hxe=>?_|refine sb (fun hq=>?_) fun hq=>?_|refine cr (hG) ?_|refine cr (hD) ?_|refine cr (hH) ?_|refine cr (hA) ?_|refine cr (hN) ?_|refine cr (hV) ?_|exact aa)
   exact⟨rfl,rfl⟩
  ·rw[h6] at hV
   rw[hadd (by rw[hB,h6];simpa using h5)]
   generalize lU w.props m=nn at *
   (repeat' first|refine st ?_|refine sa fun xe hxe=>?_|refine sb (fun hq=>?_) fun hq=>?_|refine cr (hG) ?_|refine cr (hD) ?_|refine cr (hH) ?_|refine cr (hA) ?_|refine cr (hN) ?_|refine cr (hV) ?_|exact aa)
   exact⟨rfl,rfl⟩
 ·have hv:iA w m d=⟨iO w.com (view w m)+1,m,[],d⟩:=by rw[iA,if_neg h4]
  have hV:=nM w.com (iA w m d) h.com
  rw[hv] at hV hB
  have hadd:jP w m d=true→eS w m d=tV w ⟨iO w.com (view w m)+1,m,[],d⟩:=fun hb=>by simp only[eS,hb,if_true,hv]
  generalize iO w.com (view w m)=hh at *
  generalize view w m=g at *
  by_cases h5:lU w.props m≤hh+1
  rotate_left
  ·rw[hno (by rw[hB];simp[h5])]
   generalize lU w.props m=nn at *
   (repeat' first|refine st ?_|refine sa fun xe hxe=>?_|refine sb (fun hq=>?_) fun hq=>?_|refine cr (hG) ?_|refine cr (hD) ?_|refine cr (hH) ?_|refine cr (hN) ?_|refine cr (hV) ?_|exact aa)
   exact⟨rfl,rfl⟩
  cases h6:vtxS w.com ⟨hh+1,m,[],d⟩
  ·rw[h6] at hV
   rw[hno (by rw[hB,h6,lO])]
   generalize lU w.props m=nn at *
   (repeat' first|refine st ?_|refine sa fun xe hxe=>?_|refine sb (fun hq=>?_) fun hq=>?_|refine cr (hG) ?_|refine cr (hD) ?_|refine cr (hH) ?_|refine cr (hN) ?_|refine cr (hV) ?_|exact aa)
   exact⟨rfl,rfl⟩
  ·rw[h6] at hV
   rw[hadd (by rw[hB,h6];simpa using h5)]
   generalize lU w.props m=nn at *
   (repeat' first|refine st ?_|refine sa fun xe hxe=>?_|refine sb (fun hq=>?_) fun hq=>?_|refine cr (hG) ?_|refine cr (hD) ?_|refine cr (hH) ?_|refine cr (hN) ?_|refine cr (hV) ?_|exact aa)
   exact⟨rfl,rfl⟩
theorem GB (w:Wrl)(i m:Int)(h:WOK w)(hi:qV w i=true):ag Tryz.prog 58 [bd w,.int .i64 i,.int .i64 m] [] (bd (mA w i m)) []:=by
 obtain⟨hl,hx,hp⟩:=lE hi
 have hpl:=h.plen
 have hir:=aC.1 hi
 have hI:=MB (aV w i).members m (by have:=h.mem _ hp;omega)
 have hs:mA w i m={w with props:=w.props.set i.toNat ⟨(aV w i).v,fk (aV w i).members m⟩}:=rfl
 rw[hs]
 refine ab aj Tryz.func58 rfl rfl true 0 4 rfl rfl rfl rfl fun K hK hb1 hb2=>?_;simp only[ae,enc,Nat.reduceAdd]
 clear hb1 hb2
 generalize aV w i=p at *
 generalize fk p.members m=ms at *
 (repeat' first|refine st ?_|refine sa fun xe hxe=>?_|refine sb (fun hq=>?_) fun hq=>?_|exact aa)
 obtain rfl:xe=p:=ar (hxe.symm.trans hx)
 (repeat' first|refine st ?_|refine sa fun xe hxe=>?_|refine sb (fun hq=>?_) fun hq=>?_|refine cr (hI) ?_|exact aa)
 exact⟨rfl,rfl⟩
theorem AG (w:Wrl)(m i:Int)(h:WOK w):ag Tryz.prog 27 [bd w,.int .i64 m,.int .i64 i] [] (bd (e9 w m i)) []:=by
 have hG:=wr w m
 have hI:=nF i 0 ((w.props.length:Int)-1)
 have hpl:=h.plen
 have hno:jQ w m i=false→e9 w m i=w:=fun h=>by simp[e9,h]
 refine ab aj Tryz.func27 rfl rfl true 0 4 rfl rfl rfl rfl fun K hK hb1 hb2=>?_;simp only[ae,enc,Nat.reduceAdd]
 clear hb1 hb2
 cases h1:good w m
 ·rw[h1] at hG
  rw[hno (by simp[jQ,h1])]
  (repeat' first|refine st ?_|refine sa fun xe hxe=>?_|refine sb (fun hq=>?_) fun hq=>?_|refine cr (hG) ?_|exact aa)
  exact⟨rfl,rfl⟩
 rw[h1] at hG
 cases h2:j5 i 0 ((w.props.length:Int)-1)
 ·rw[h2] at hI
  rw[hno (by simp[jQ,qV,h2])]
  (repeat' first|refine st ?_|refine sa fun xe hxe=>?_|refine sb (fun hq=>?_) fun hq=>?_|refine cr (hG) ?_|refine cr (hI) ?_|exact aa)
  exact⟨rfl,rfl⟩
 rw[h2] at hI
 have h2':qV w i=true:=h2
 obtain⟨hl,hx,hp⟩:=lE h2'
 have hir:=aC.1 h2
 have hvx:=h.pv _ hp
 have hrd:=rT hvx.1
 obtain⟨hgx,hvm,hml⟩:=h.view h1
 have hgr:=eL.1 h1
 have hvlen:=h.vlen
 have hB:jQ w m i=(!HK w m i && parOK (view w m) (aV w i).v):=by simp[jQ,h1,h2']
 have hP:=e8 (view w m) (aV w i).v hrd
 have hC:=GB w i m h h2'
 have hyes:jQ w m i=true→e9 w m i=mA w i m:=fun h=>by simp[e9,h]
 have hdbl:HK w m i=(List.range w.props.length).any fun j=>(j:Int) !=i && (slt (w.props.getD j p0).v (aV w i).v && (w.props.getD j p0).members.contains m):=rfl
 generalize aV w i=p at *
 (repeat' first|refine st ?_|refine sa fun xe hxe=>?_|refine sb (fun hq=>?_) fun hq=>?_|refine cr (hG) ?_|refine cr (hI) ?_|exact aa)
 refine ah hK [] [1,2,3,6,7,8] (fun j:Nat=>⟨[(1,.int .i64 m),(2,.int .i64 i),(3,.ptr 4 0),(6,.ptr 5 0),(7,.ptr 6 0),(8,.int .i64 (j:Int))],[(4,.var 31 (bd w).cells),(5,.var 31 [.nils,.nils,.int .i64 0,.nils,.nils]),(6,.var 58 (de p.v).cells)],7⟩)
  (fun j=>j≤w.props.length∧∀k,k<j→((k:Int) !=i && (slt (w.props.getD k p0).v p.v && (w.props.getD k p0).members.contains m))=false) (fun j=>w.props.length-j) 0 ⟨by simp,by simp⟩ rfl ?_
 rintro j ⟨hj,hall⟩
 by_cases hlt:j<w.props.length
 ·have hxq:w.props[j]?=some (w.props.getD j p0):=by rw[aq,am hlt];rfl
  have hqm:w.props.getD j p0∈w.props:=fj hlt
  have hyes2:((j:Int) !=i && (slt (w.props.getD j p0).v p.v && (w.props.getD j p0).members.contains m))=true→HK w m i=true:=fun hh=>by rw[hdbl];exact fU.2 ⟨j,eC.2 hlt,hh⟩
  have hno2:((j:Int) !=i && (slt (w.props.getD j p0).v p.v && (w.props.getD j p0).members.contains m))=false→∀k,k<j+1→((k:Int) !=i && (slt (w.props.getD k p0).v p.v && (w.props.getD k p0).members.contains m))=false:=fun hh k hk=>by
   rcases ct k j with h5|h5
   ·exact hall k h5
   ·obtain rfl:k=j:=by omega
    exact hh
  generalize w.props.getD j p0=q at *
  have hS:=GO q.v p.v
  have hH:=By q.members m
  by_cases h3:(j:Int)=i
  ·(repeat' first|refine st ?_|refine sa fun xe hxe=>?_|refine sb (fun hq=>?_) fun hq=>?_|refine cr (hS) ?_|refine cr (hH) ?_|exact aa)
   exact⟨j+1,⟨by omega,hno2 (by simp[h3])⟩,by omega,rfl⟩
  cases h4:slt q.v p.v
  ·rw[h4] at hS
   (repeat' first|refine st ?_|refine sa fun xe hxe=>?_|refine sb (fun hq=>?_) fun hq=>?_|refine cr (hS) ?_|refine cr (hH) ?_|exact aa)
   exact⟨j+1,⟨by omega,hno2 (by simp[h4])⟩,by omega,rfl⟩
  rw[h4] at hS
  cases h5:q.members.contains m
  ·rw[h5] at hH
   (repeat' first|refine st ?_|refine sa fun xe hxe=>?_|refine sb (fun hq=>?_) fun hq=>?_|refine cr (hS) ?_|refine cr (hH) ?_|exact aa)
   exact⟨j+1,⟨by omega,hno2 (by rw[h5,lO,lO])⟩,by omega,rfl⟩
  ·rw[h5] at hH
   rw[hno (by rw[hB,hyes2 (by rw[h4,h5];simpa using h3)];rfl)]
   (repeat' first|refine st ?_|refine sa fun xe hxe=>?_|refine sb (fun hq=>?_) fun hq=>?_|refine cr (hS) ?_|refine cr (hH) ?_|exact aa)
   exact⟨rfl,rfl⟩
 ·have hnd:HK w m i=false:=by
   rw[hdbl,cj]
   intro hh
   obtain⟨k,hk,hh⟩:=fU.1 hh
   rw[hall k (by have:=eC.1 hk;omega)] at hh
   cases hh
  rw[hnd] at hB
  generalize view w m=g at *
  cases h6:parOK g p.v
  ·rw[h6] at hP hB
   rw[hno hB]
   (repeat' first|refine st ?_|refine sa fun xe hxe=>?_|refine sb (fun hq=>?_) fun hq=>?_|refine cr (hP) ?_|exact aa)
   exact⟨rfl,rfl⟩
  ·rw[h6] at hP hB
   rw[hyes hB]
   (repeat' first|refine st ?_|refine sa fun xe hxe=>?_|refine sb (fun hq=>?_) fun hq=>?_|refine cr (hP) ?_|refine cr (hC) ?_|exact aa)
   exact⟨rfl,rfl⟩
theorem Av (w:Wrl)(m i:Int)(h:WOK w):ag Tryz.prog 28 [bd w,.int .i64 m,.int .i64 i] [] (bd (dh w m i)) []:=by
 have hG:=wr w m
 have hI:=nF i 0 ((w.props.length:Int)-1)
 have hpl:=h.plen
 have hno:eJ w m i=false→dh w m i=w:=fun h=>by simp[dh,h]
 refine ab aj Tryz.func28 rfl rfl true 0 4 rfl rfl rfl rfl fun K hK hb1 hb2=>?_;simp only[ae,enc,Nat.reduceAdd]
 clear hb1 hb2
 cases h1:good w m
 ·rw[h1] at hG
  rw[hno (by simp[eJ,h1])]
  (repeat' first|refine st ?_|refine sa fun xe hxe=>?_|refine sb (fun hq=>?_) fun hq=>?_|refine cr (hG) ?_|exact aa)
  exact⟨rfl,rfl⟩
 rw[h1] at hG
 cases h2:j5 i 0 ((w.props.length:Int)-1)
 ·rw[h2] at hI
  rw[hno (by simp[eJ,qV,h2])]
  (repeat' first|refine st ?_|refine sa fun xe hxe=>?_|refine sb (fun hq=>?_) fun hq=>?_|refine cr (hG) ?_|refine cr (hI) ?_|exact aa)
  exact⟨rfl,rfl⟩
 rw[h2] at hI
 have h2':qV w i=true:=h2
 obtain⟨hl,hx,hp⟩:=lE h2'
 have hir:=aC.1 h2
 have hvx:=h.pv _ hp
 have hrd:=rT hvx.1
 obtain⟨hgx,hvm,hml⟩:=h.view h1
 have hgr:=eL.1 h1
 have hvlen:=h.vlen
 have h7:=h.len
 have hDn:=Ck w (aV w i) h.com hvx.2
 have hB:eJ w m i=(don w.com (aV w i) && (!d7 (view w m) (aV w i).v.round (aV w i).v.author && parOK (view w m) (aV w i).v)):=by simp[eJ,h1,h2']
 have hyes:eJ w m i=true→dh w m i={w with views:=w.views.set m.toNat (gS (view w m) (aV w i).v)}:=fun h=>by simp[dh,h]
 have hF:=pL (view w m) (aV w i).v.round (aV w i).v.author
 have hFl:=zI (view w m) (aV w i).v.round (aV w i).v.author
 have hP:=e8 (view w m) (aV w i).v hrd
 have hAd:=Ms (view w m) (aV w i).v (by have:=h.vl _ hvm;omega) (fun u hu=>by have:=h.par (h.vv _ hvm u hu);omega) (by have:=h.par hvx.1;omega) hrd
 cases h3:don w.com (aV w i)
 ·rw[h3] at hDn
  rw[hno (by rw[hB,h3];rfl)]
  generalize aV w i=p at *
  (repeat' first|refine st ?_|refine sa fun xe hxe=>?_|refine sb (fun hq=>?_) fun hq=>?_|refine cr (hG) ?_|refine cr (hI) ?_|refine cr (hDn) ?_|exact aa)
  exact⟨rfl,rfl⟩
 rw[h3] at hDn
 generalize aV w i=p at *
 generalize view w m=g at *
 cases h4:d7 g p.v.round p.v.author
 rotate_left
 ·have hFl:¬lS g p.v.round p.v.author<0:=by simpa[h4] using hFl
  rw[hno (by rw[hB,h3,h4];rfl)]
  generalize lS g p.v.round p.v.author=fi at *
  (repeat' first|refine st ?_|refine sa fun xe hxe=>?_|refine sb (fun hq=>?_) fun hq=>?_|refine cr (hG) ?_|refine cr (hI) ?_|refine cr (hDn) ?_|refine cr (hF) ?_|exact aa)
  exact⟨rfl,rfl⟩
 have hFl:lS g p.v.round p.v.author<0:=by simpa[h4] using hFl
 generalize lS g p.v.round p.v.author=fi at *
 cases h5:parOK g p.v
 ·rw[h5] at hP
  rw[hno (by rw[hB,h3,h4,h5];rfl)]
  (repeat' first|refine st ?_|refine sa fun xe hxe=>?_|refine sb (fun hq=>?_) fun hq=>?_|refine cr (hG) ?_|refine cr (hI) ?_|refine cr (hDn) ?_|refine cr (hF) ?_|refine cr (hP) ?_|exact aa)
  exact⟨rfl,rfl⟩
 rw[h5] at hP
 rw[hyes (by rw[hB,h3,h4,h5];rfl)]
 have hAd:=hAd h4 h5
 generalize gS g p.v=g2 at *
 (repeat' first|refine st ?_|refine sa fun xe hxe=>?_|refine sb (fun hq=>?_) fun hq=>?_|refine cr (hG) ?_|refine cr (hI) ?_|refine cr (hDn) ?_|refine cr (hF) ?_|refine cr (hP) ?_|refine cr (hAd) ?_|exact aa)
 exact⟨rfl,rfl⟩
theorem GI (w:Wrl)(v:Vtx)(h:WOK w)(hvl:v.parents.length≤2000000):ag Tryz.prog 29 [bd w,de v] [] (bd (iR w v)) []:=by
 have hpl:=h.plen
 have hno:jO w v=false→iR w v=w:=fun h=>by simp[iR,h]
 have hyes:jO w v=true→iR w v=tV w v:=fun h=>by simp[iR,h]
 have hV:=nM w.com v h.com
 refine ab aj Tryz.func29 rfl rfl true 0 4 rfl rfl rfl rfl fun K hK hb1 hb2=>?_;simp only[ae,enc,Nat.reduceAdd]
 clear hb1 hb2
 by_cases h1:w.bad<0
 ·rw[hno (by simp[jO];intro h9;omega)]
  (repeat' first|refine st ?_|refine sa fun xe hxe=>?_|refine sb (fun hq=>?_) fun hq=>?_|refine cr (hV) ?_|exact aa)
  exact⟨rfl,rfl⟩
 by_cases h2:v.author=w.bad
 rotate_left
 ·rw[hno (by simp[jO,h2])]
  (repeat' first|refine st ?_|refine sa fun xe hxe=>?_|refine sb (fun hq=>?_) fun hq=>?_|refine cr (hV) ?_|exact aa)
  exact⟨rfl,rfl⟩
 cases h3:vtxS w.com v
 ·rw[h3] at hV
  rw[hno (by simp[jO,h3])]
  (repeat' first|refine st ?_|refine sa fun xe hxe=>?_|refine sb (fun hq=>?_) fun hq=>?_|refine cr (hV) ?_|exact aa)
  exact⟨rfl,rfl⟩
 rw[h3] at hV
 by_cases h4:w.props.length<220
 rotate_left
 ·rw[hno (by simp[jO,h4])]
  (repeat' first|refine st ?_|refine sa fun xe hxe=>?_|refine sb (fun hq=>?_) fun hq=>?_|refine cr (hV) ?_|exact aa)
  exact⟨rfl,rfl⟩
 have hB:jO w v= !w.props.any fun p=>lb p.v v:=by
  have:(0:Int)≤w.bad:=by omega
  simp[jO,this,h2,h3,h4]
 (repeat' first|refine st ?_|refine sa fun xe hxe=>?_|refine sb (fun hq=>?_) fun hq=>?_|refine cr (hV) ?_|exact aa)
 refine ah hK [] [2,3,4,5] (fun j:Nat=>⟨[(2,.ptr 4 0),(3,.ptr 5 0),(4,.ptr 6 0),(5,.int .i64 (j:Int))],[(4,.var 31 (bd w).cells),(5,.var 58 (de v).cells),(6,.var 31 [.nils,.nils,.int .i64 0,.nils,.nils])],7⟩)
  (fun j=>j≤w.props.length∧∀p∈w.props.take j,lb p.v v=false) (fun j=>w.props.length-j) 0 ⟨by simp,by simp⟩ rfl ?_
 rintro j ⟨hj,hall⟩
 by_cases hlt:j<w.props.length
 ·have hxq:w.props[j]?=some w.props[j]:=am hlt
  have hsn:w.props.take (j+1)=w.props.take j++[w.props[j]]:=ca hlt
  have hqm:w.props[j]∈w.props:=be hlt
  generalize w.props[j]=q at *
  have hS:=As q.v v
  cases h5:lb q.v v
  ·rw[h5] at hS
   (repeat' first|refine st ?_|refine sa fun xe hxe=>?_|refine sb (fun hq=>?_) fun hq=>?_|refine cr (hS) ?_|exact aa)
   exact⟨j+1,⟨by omega,by rw[hsn];exact bM hall h5⟩,by omega,rfl⟩
  ·rw[h5] at hS
   have:(w.props.any fun p=>lb p.v v)=true:=fU.2 ⟨q,hqm,h5⟩
   rw[hno (by rw[hB,this];rfl)]
   (repeat' first|refine st ?_|refine sa fun xe hxe=>?_|refine sb (fun hq=>?_) fun hq=>?_|refine cr (hS) ?_|exact aa)
   exact⟨rfl,rfl⟩
 ·rw[br (by omega)] at hall
  have:(w.props.any fun p=>lb p.v v)=false:=by
   rw[cj]
   intro hh
   obtain⟨p,hp,hh⟩:=fU.1 hh
   rw[hall p hp] at hh
   cases hh
  rw[hyes (by rw[hB,this];rfl)]
  (repeat' first|refine st ?_|refine sa fun xe hxe=>?_|refine sb (fun hq=>?_) fun hq=>?_|refine cr (qh _ hvl) ?_|exact aa)
  exact⟨rfl,rfl⟩
abbrev t7 (e:Evt):V:=.agg [.int .i64 e.kind,.int .i64 e.a,.int .i64 e.b,.int .i64 e.v.round,.int .i64 e.v.author,.lst (.int .i64) e.v.parents,.int .i64 e.v.digest]
theorem NW (w:Wrl)(e:Evt)(h:WOK w)(hvl:e.v.parents.length≤2000000):ag Tryz.prog 31 [bd w,t7 e] [] (bd (jL w e)) []:=by
 have hpl:=h.plen
 have h1:=AA w e.a e.b h
 have h2:=AG w e.a e.b h
 have h3:=Av w e.a e.b h
 have h4:=GI w e.v h hvl
 have hI:=nF e.b 0 ((w.props.length:Int)-1)
 refine ab aj Tryz.func31 rfl rfl true 0 4 rfl rfl rfl rfl fun K hK hb1 hb2=>?_;simp only[ae,enc,Nat.reduceAdd]
 clear hb1 hb2
 unfold jL
 by_cases k1:e.kind=1
 ·rw[if_pos k1]
  generalize eS w e.a e.b=w' at *
  (repeat' first|refine st ?_|refine sa fun xe hxe=>?_|refine sb (fun hq=>?_) fun hq=>?_|refine cr (h1) ?_|exact aa)
  exact⟨rfl,rfl⟩
 by_cases k2:e.kind=2
 ·rw[if_neg k1,if_pos k2]
  generalize e9 w e.a e.b=w' at *
  (repeat' first|refine st ?_|refine sa fun xe hxe=>?_|refine sb (fun hq=>?_) fun hq=>?_|refine cr (h2) ?_|exact aa)
  exact⟨rfl,rfl⟩
 by_cases k3:e.kind=3
 ·rw[if_neg k1,if_neg k2,if_pos k3]
  generalize dh w e.a e.b=w' at *
  (repeat' first|refine st ?_|refine sa fun xe hxe=>?_|refine sb (fun hq=>?_) fun hq=>?_|refine cr (h3) ?_|exact aa)
  exact⟨rfl,rfl⟩
 by_cases k4:e.kind=4
 ·rw[if_neg k1,if_neg k2,if_neg k3,if_pos k4]
  generalize iR w e.v=w' at *
  (repeat' first|refine st ?_|refine sa fun xe hxe=>?_|refine sb (fun hq=>?_) fun hq=>?_|refine cr (h4) ?_|exact aa)
  exact⟨rfl,rfl⟩
 by_cases k5:e.kind=5
 ·rw[if_neg k1,if_neg k2,if_neg k3,if_neg k4,if_pos k5]
  by_cases h6:0≤w.bad
  ·cases h7:j5 e.b 0 ((w.props.length:Int)-1)
   ·rw[h7] at hI
    have:iQ w e.b=w:=by simp[iQ,l7,qV,h7]
    rw[this]
    (repeat' first|refine st ?_|refine sa fun xe hxe=>?_|refine sb (fun hq=>?_) fun hq=>?_|refine cr (hI) ?_|exact aa)
    exact⟨rfl,rfl⟩
   ·rw[h7] at hI
    have h7':qV w e.b=true:=h7
    have:iQ w e.b=mA w e.b w.bad:=by simp[iQ,l7,h7',h6]
    rw[this]
    have h5:=GB w e.b w.bad h h7'
    generalize mA w e.b w.bad=w' at *
    (repeat' first|refine st ?_|refine sa fun xe hxe=>?_|refine sb (fun hq=>?_) fun hq=>?_|refine cr (hI) ?_|refine cr (h5) ?_|exact aa)
    exact⟨rfl,rfl⟩
  ·have:iQ w e.b=w:=by simp[iQ,l7,h6]
   rw[this]
   (repeat' first|refine st ?_|refine sa fun xe hxe=>?_|refine sb (fun hq=>?_) fun hq=>?_|refine cr (hI) ?_|exact aa)
   exact⟨rfl,rfl⟩
 ·rw[if_neg k1,if_neg k2,if_neg k3,if_neg k4,if_neg k5]
  (repeat' first|refine st ?_|refine sa fun xe hxe=>?_|refine sb (fun hq=>?_) fun hq=>?_|exact aa)
  exact⟨rfl,rfl⟩
theorem BD (c l:List Int)(b:Int)(tabs:List (List (Option Vtx)))(xss:List (Option (List Int)))(ms:List PplM):ag Tryz.prog 171 [.ptr 4 0] (rX 0 c l b tabs xss ms) (.tup []) (rX 1 c l b tabs xss ms):=by
 have h:=CQ FL (h:=rX 0 c l b tabs xss ms) (T:=117) (cs:=[.int .u32 0,.lst (.int .i64) c,.lst (.int .i64) l,.int .i64 b,.ref 5,.ref 6]) rfl
 exact h
set_option maxHeartbeats 1000000 in
theorem fy (c l:List Int)(b:Int)(tabs tabs':List (List (Option Vtx)))(xss xss':List (Option (List Int)))(ms ms':List PplM)(e:Evt)(r:Bool)(ht:tabs.length≤tabs'.length)(hx:xss.length≤xss'.length)
  (h1:e.kind=1→ag Tryz.prog 173 [.ptr 4 0,.int .i64 e.a,.int .i64 e.b] (rX 1 c l b tabs xss ms) (.bool r) (rX 1 c l b tabs' xss' ms'))
  (h2:e.kind=2→ag Tryz.prog 174 [.ptr 4 0,.int .i64 e.a,.int .i64 e.b] (rX 1 c l b tabs xss ms) (.bool r) (rX 1 c l b tabs' xss' ms'))
  (h3:e.kind=3→ag Tryz.prog 175 [.ptr 4 0,.int .i64 e.a,.int .i64 e.b] (rX 1 c l b tabs xss ms) (.bool r) (rX 1 c l b tabs' xss' ms'))
  (h4:e.kind=4→ag Tryz.prog 176 [.ptr 4 0,de e.v] (rX 1 c l b tabs xss ms) (.bool r) (rX 1 c l b tabs' xss' ms'))
  (h5:e.kind=5→ag Tryz.prog 177 [.ptr 4 0,.int .i64 e.b] (rX 1 c l b tabs xss ms) (.bool r) (rX 1 c l b tabs' xss' ms'))
  (h6:¬(1≤e.kind∧e.kind≤5)→r=false∧tabs'=tabs∧xss'=xss∧ms'=ms):ag Tryz.prog 150 [.ptr 4 0,t7 e] (rX 0 c l b tabs xss ms) (.bool r) (rX 0 c l b tabs' xss' ms'):=by
 refine A6 FL bV Tryz.func150 rfl rfl false 3 7 rfl rfl rfl rfl (by exact Live.of_look (av (i:=0) (x:=.var 117 [.int .i32 0,.int .u32 0,.lst (.int .i64) c,.lst (.int .i64) l,.int .i64 b,.ref 5,.ref 6]) rfl rfl)) fun K hK hK4 hb1 hb2=>?_;simp only[ae,enc,Nat.reduceAdd]
 clear hb1 hb2
 have hL:=BD c l b tabs xss ms
 have hF0:bA (VB.fvari 148 217 (.ob .vtx) tabs)≤bA (VB.fvari 148 217 (.ob .vtx) tabs'):=ht
 have hF1:bA (VB.frowx 3 (.int .i64) xss)≤bA (VB.frowx 3 (.int .i64) xss'):=hx
 refine q9 ?_
 (repeat' first|refine ch ?_|refine sa fun xe hxe=>?_|refine sb (fun hq=>?_) fun hq=>?_|exact aa)
 refine⟨rfl,q9 ?_⟩
 (repeat' first|refine ch ?_|refine sa fun xe hxe=>?_|refine sb (fun hq=>?_) fun hq=>?_|refine cr (hL) ?_|exact aa)
 refine⟨rfl,w5 ?_⟩
 refine AW bV (l:=[_,_,_]) (od:=_) rfl ⟨rfl,rfl,rfl⟩ (by decide) ?_
 (conv=>whnf)
 (repeat' first|refine ch ?_|refine sa fun xe hxe=>?_|refine sb (fun hq=>?_) fun hq=>?_|exact aa)
 refine⟨rfl,hK4,rfl,?_⟩
 by_cases c1:e.kind=1
 ·have h:=h1 c1
  (repeat' first|refine ch ?_|refine sa fun xe hxe=>?_|refine sb (fun hq=>?_) fun hq=>?_|refine cr (h) ?_|exact aa)
  exact⟨rfl,rfl⟩
 ·by_cases c2:e.kind=2
  ·have h:=h2 c2
   (repeat' first|refine ch ?_|refine sa fun xe hxe=>?_|refine sb (fun hq=>?_) fun hq=>?_|refine cr (h) ?_|exact aa)
   exact⟨rfl,rfl⟩
  ·by_cases c3:e.kind=3
   ·have h:=h3 c3
    (repeat' first|refine ch ?_|refine sa fun xe hxe=>?_|refine sb (fun hq=>?_) fun hq=>?_|refine cr (h) ?_|exact aa)
    exact⟨rfl,rfl⟩
   ·by_cases c4:e.kind=4
    ·have h:=h4 c4
     (repeat' first|refine ch ?_|refine sa fun xe hxe=>?_|refine sb (fun hq=>?_) fun hq=>?_|refine cr (h) ?_|exact aa)
     exact⟨rfl,rfl⟩
    ·by_cases c5:e.kind=5
     ·have h:=h5 c5
      (repeat' first|refine ch ?_|refine sa fun xe hxe=>?_|refine sb (fun hq=>?_) fun hq=>?_|refine cr (h) ?_|exact aa)
      exact⟨rfl,rfl⟩
     ·obtain⟨rfl,rfl,rfl,rfl⟩:=h6 (by omega)
      (repeat' first|refine ch ?_|refine sa fun xe hxe=>?_|refine sb (fun hq=>?_) fun hq=>?_|exact aa)
      exact⟨rfl,rfl⟩
theorem Lg (ps:List Ppl)(xss:List (Option (List Int)))(ms:List PplM)(hR:Rel ps xss ms)(hv:∀p∈ps,p.v.parents.length≤1000000∧p.members.length≤1000000)(hl:ps.length≤1000000):ag Tryz.prog 76 [.ref 4] [(1,.frowx 3 (.int .i64) xss),(4,.row 93 (.pplm 1) ms)] (.lst .ppl ps) [(1,.frowx 3 (.int .i64) xss),(4,.row 93 (.pplm 1) ms)]:=by
 refine ab aj Tryz.func76 rfl rfl true 1 5 rfl rfl rfl rfl fun K hK hb1 hb2=>?_;simp only[ae,enc,Nat.reduceAdd]
 clear hb1 hb2
 have hpl:=hR.len
 (repeat' first|refine st ?_|refine sa fun xe hxe=>?_|refine sb (fun hq=>?_) fun hq=>?_|exact aa)
 refine ah hK [] [3,9,10,11] (fun i:Nat=>⟨[(3,.ref 5),(9,.ref 4),(10,.int .i64 ps.length),(11,.int .i64 (i:Int))],[(1,.frowx 3 (.int .i64) xss),(4,.row 93 (.pplm 1) ms),(5,.row 93 .ppl (ps.take i++(List.replicate ps.length p0).drop i))],6⟩) (fun i=>i≤ps.length) (fun i=>ps.length-i) 0 (by simp) (by simp only[hpl];simp;rfl) ?_
 intro i hi
 by_cases hlt:i<ps.length
 ·have hxe:ps[i]?=some ps[i]:=am hlt
  have hg:i<(ps.take i++(List.replicate ps.length p0).drop i).length:=tc _ _ (by simp;omega) (by simpa using hlt)
  have hs:(ps.take i++(List.replicate ps.length p0).drop i).set i ps[i]=ps.take (i+1)++(List.replicate ps.length p0).drop (i+1):=by
   rw[tA _ _ _ (by simp;omega) (by simpa using hlt),ca hlt]
  obtain⟨v1,v2⟩:=hv _ (be hlt)
  obtain⟨j,hx1,hx2⟩:=hR.get i _ hxe
  generalize hrow:ps.take i++(List.replicate ps.length p0).drop i=row at *
  generalize ps[i]=p at *
  (repeat' first|refine st ?_|refine sa fun xe hxe=>?_|refine sb (fun hq=>?_) fun hq=>?_|refine cr (oM _ v1) ?_|exact aa)
  refine⟨i+1,by omega,by omega,?_⟩
  rw[←hs]
  rfl
 ·obtain rfl:i=ps.length:=by omega
  (repeat' first|refine st ?_|refine sa fun xe hxe=>?_|refine sb (fun hq=>?_) fun hq=>?_|exact aa)
  simp
def wL (s:Int)(c l:List Int)(b:Int)(tabs:List (List (Option Vtx)))(xss:List (Option (List Int)))(ms:List PplM)(ps:List Ppl):Nat→VSt
 |0=>⟨[(2,.ptr 7 0),(3,.ptr 8 0),(30,.ref 5),(31,.int .i64 tabs.length),(32,.int .i64 0)],rX s c l b tabs xss ms++[(7,VB.var 31 [.nils,.nils,.int .i64 0,.nils,.nils]),(8,VB.var 31 [.lst (.int .i64) c,.ref 9,.int .i64 b,.nils,.lst .ppl ps]),(9,VB.row 3 (.int .i64) l)],10⟩
 |i+1=>⟨[(2,.ptr 7 0),(3,.ptr 8 0),(30,.ref 5),(31,.int .i64 tabs.length),(32,.int .i64 ((i+1:Nat):Int))],rX s c l b tabs xss ms++[(7,VB.var 31 [.nils,.nils,.int .i64 0,.nils,.nils]),(8,VB.var 31 [.lst (.int .i64) c,.ref 9,.int .i64 b,.ref 10,.lst .ppl ps]),(9,VB.row 3 (.int .i64) l),(10,VB.row 69 (.lst .vtx) ((tabs.take (i+1)).map fX))],11⟩
set_option maxHeartbeats 1000000 in
theorem ID (s:Int)(c l:List Int)(b:Int)(tabs:List (List (Option Vtx)))(xss:List (Option (List Int)))(ms:List PplM)(ps:List Ppl)(hR:Rel ps xss ms)(hc:c≠[])(hcl:c.length≤1000000)(hll:l.length≤1000000)(ht:∀t∈tabs,t.length=217∧∀v,some v∈t→v.parents.length≤1000000)(htl:tabs.length≤7)(htl1:1≤tabs.length)
  (hv:∀p∈ps,p.v.parents.length≤1000000∧p.members.length≤1000000) (hpn:ps.length≤1000000):ag Tryz.prog 39 [.ptr 4 0] (rX s c l b tabs xss ms) (bd ⟨c,l,b,tabs.map fX,ps⟩) (rX s c l b tabs xss ms):=by
 have hC:=Fc c hc hcl
 have hP:=Lg ps xss ms hR hv hpn
 have hrl:((List.range tabs.length).map some).length=tabs.length:=by simp
 refine ab aj Tryz.func39 rfl rfl true 3 7 rfl rfl rfl rfl fun K hK hb1 hb2=>?_;simp only[ae,enc,Nat.reduceAdd]
 clear hb1 hb2
 (repeat' first|refine st ?_|refine sa fun xe hxe=>?_|refine sb (fun hq=>?_) fun hq=>?_|refine cr (hC) ?_|refine co (hP) ?_|exact aa)
 refine ah hK [] [2,3,30,31,32] (wL s c l b tabs xss ms ps) (fun i=>i≤tabs.length) (fun i=>tabs.length-i) 0 (by simp) (by simp only[hrl];(conv=>whnf);rfl) ?_
 intro i hi
 by_cases hlt:i<tabs.length
 ·have hxe:tabs[i]?=some tabs[i]:=am hlt
  have hsn:tabs.take (i+1)=tabs.take i++[tabs[i]]:=ca hlt
  obtain⟨t1,t2⟩:=ht _ (be hlt)
  have hxv:((List.range tabs.length).map some)[i]?=some (some i):=by rw[bf,oe hlt];rfl
  have hV:=Fv tabs i _ hxe t1 t2
  generalize tabs[i]=tab at *
  cases i with
  |zero=>
   have hst:wL s c l b tabs xss ms ps (0+1)=⟨[(2,.ptr 7 0),(3,.ptr 8 0),(30,.ref 5),(31,.int .i64 tabs.length),(32,.int .i64 ((0+1:Nat):Int))],rX s c l b tabs xss ms++[(7,VB.var 31 [.nils,.nils,.int .i64 0,.nils,.nils]),(8,VB.var 31 [.lst (.int .i64) c,.ref 9,.int .i64 b,.ref 10,.lst .ppl ps]),(9,VB.row 3 (.int .i64) l),(10,VB.row 69 (.lst .vtx) [fX tab])],11⟩:=by
    rw[wL,hsn]
    rfl
   have hs0:wL s c l b tabs xss ms ps 0=⟨[(2,.ptr 7 0),(3,.ptr 8 0),(30,.ref 5),(31,.int .i64 tabs.length),(32,.int .i64 0)],rX s c l b tabs xss ms++[(7,VB.var 31 [.nils,.nils,.int .i64 0,.nils,.nils]),(8,VB.var 31 [.lst (.int .i64) c,.ref 9,.int .i64 b,.nils,.lst .ppl ps]),(9,VB.row 3 (.int .i64) l)],10⟩:=rfl
   have hx0:((List.range tabs.length).map some)[(0:Int).toNat]?=some (some 0):=hxv
   rw[hs0]
   (repeat' first|refine st ?_|refine sa fun xe hxe=>?_|refine sb (fun hq=>?_) fun hq=>?_|refine co (hV) ?_|exact aa)
   refine⟨0+1,by omega,by omega,?_⟩
   rw[hst]
   rfl
  |succ i=>
   have hfl:((tabs.take (i+1)).map fX).length=i+1:=by rw[az,bQ];omega
   have hst:wL s c l b tabs xss ms ps (i+1+1)=⟨[(2,.ptr 7 0),(3,.ptr 8 0),(30,.ref 5),(31,.int .i64 tabs.length),(32,.int .i64 ((i+1+1:Nat):Int))],rX s c l b tabs xss ms++[(7,VB.var 31 [.nils,.nils,.int .i64 0,.nils,.nils]),(8,VB.var 31 [.lst (.int .i64) c,.ref 9,.int .i64 b,.ref 10,.lst .ppl ps]),(9,VB.row 3 (.int .i64) l),(10,VB.row 69 (.lst .vtx) ((tabs.take (i+1)).map fX++[fX tab]))],11⟩:=by
    rw[wL,hsn,cg]
    rfl
   have hs0:wL s c l b tabs xss ms ps (i+1)=⟨[(2,.ptr 7 0),(3,.ptr 8 0),(30,.ref 5),(31,.int .i64 tabs.length),(32,.int .i64 ((i+1:Nat):Int))],rX s c l b tabs xss ms++[(7,VB.var 31 [.nils,.nils,.int .i64 0,.nils,.nils]),(8,VB.var 31 [.lst (.int .i64) c,.ref 9,.int .i64 b,.ref 10,.lst .ppl ps]),(9,VB.row 3 (.int .i64) l),(10,VB.row 69 (.lst .vtx) ((tabs.take (i+1)).map fX))],11⟩:=rfl
   rw[hs0]
   clear hs0
   generalize (tabs.take (i+1)).map fX=ts at *
   (repeat' first|refine st ?_|refine sa fun xe hxe=>?_|refine sb (fun hq=>?_) fun hq=>?_|refine co (hV) ?_|exact aa)
   refine⟨i+1+1,by omega,by omega,?_⟩
   rw[hst]
   rfl
 ·cases i with
  |zero=>omega
  |succ i=>
   have hs0:wL s c l b tabs xss ms ps (i+1)=⟨[(2,.ptr 7 0),(3,.ptr 8 0),(30,.ref 5),(31,.int .i64 tabs.length),(32,.int .i64 ((i+1:Nat):Int))],rX s c l b tabs xss ms++[(7,VB.var 31 [.nils,.nils,.int .i64 0,.nils,.nils]),(8,VB.var 31 [.lst (.int .i64) c,.ref 9,.int .i64 b,.ref 10,.lst .ppl ps]),(9,VB.row 3 (.int .i64) l),(10,VB.row 69 (.lst .vtx) (tabs.map fX))],11⟩:=by
    rw[wL,br (by omega)]
   rw[hs0]
   clear hs0
   (repeat' first|refine st ?_|refine sa fun xe hxe=>?_|refine sb (fun hq=>?_) fun hq=>?_|exact aa)
   exact⟨rfl,rfl⟩
theorem v8 (s:Int)(w:Wrl)(xss:List (Option (List Int)))(ms:List PplM)(hw:WOK w)(hR:Rel w.props xss ms):ag Tryz.prog 39 [.ptr 4 0] (rW s w xss ms) (bd w) (rW s w xss ms):=by
 have h:=(i6.2 hw)
 rw[nE,aB] at h
 have h:=h.1
 obtain⟨h1,h2,h3,h4,h5,h6⟩:=n5 h
 have h7:=(ay.1 h1).2
 have hll:=(bS.1 h2).2
 have hps:=rH h
 have hpl:=ni h4
 have hne:w.com≠[]:=fun h=>by rw[h] at h7;simp at h7
 have hc:=ID s w.com w.lead w.bad (w.views.map aT) xss ms w.props hR hne (by omega) (by omega) (fun t ht=>by
  obtain⟨g,hg,rfl⟩:=aD.1 ht
  refine⟨ef g,fun v hv=>?_⟩
  have:=(o4 h g hg v (yQ hv)).2
  omega) (by rw[az];omega) (by rw[az];omega) (fun p hp=>by have:=(hps p hp).2.2.2;omega) (by omega)
 rw[uX h] at hc
 exact hc
theorem NP (c l:List Int)(b:Int)(tabs:List (List (Option Vtx)))(ps:List Ppl):∀k:Id,look (toH (rX 0 c l b tabs (ps.map fun p=>some p.members) (ud ps))) k=look (toH (rB c l b tabs ps)) k:=by
 rintro⟨k1,k2⟩
 rw[ap,ap]
 by_cases e:k1=1
 ·subst e
  simp only[look,if_true,bc,VB.blks]
  simp[bf,rowX]
  rfl
 ·simp[look,e]
theorem Fq (w:Wrl)(hl:∀g∈w.views,g.length≤2000000)(hp:gy w=true):ag Tryz.prog 38 [bd w] [] (.tup [.ptr 4 0,.bool (lg w)]) (rW 0 w (w.props.map fun p=>some p.members) (ud w.props)):=by
 have h:=BH w hl
 simp only[Hq,Hp,hp,if_true] at h
 rw[Gb hp] at h
 have e:lg w=pT w.bad w.props w.views:=by rw[nE,hp,dX]
 rw[e]
 unfold ag at h⊢
 exact h.out (NP _ _ _ _ _)
def wV (w:Wrl)(e:Evt):Bool:=(decide (e.kind=1) && jP w e.a e.b)||(decide (e.kind=4) && jO w e.v)
def tY (w:Wrl)(e:Evt):Bool:=if e.kind=2 then jQ w e.a e.b && !(aV w e.b).members.contains e.a else if e.kind=3 then eJ w e.a e.b else if e.kind=5 then l7 w e.b && !(aV w e.b).members.contains w.bad else false

end Go.Proofs.YtpefhoohfkeflaaGreatDoor.Am
