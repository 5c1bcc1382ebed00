/- Runs while events are applied: what a member proposes. Runs while events are applied: votes, deliveries, what the faulty member does. Runs while events are applied: deliveries, what the faulty member does. The lock of a run, under the numbers of this program. The plain machine: the lock of one goroutine; a function that defers its Unlock. Runs: what the specification's functions of events give. Runs: what the specification's functions of events give, put together. -/
import Derived.Conc.MuLone
import Derived.Defers
import Derived.Test.YtpefhoohfkeflacGreatDoorEC8
set_option linter.unusedSimpArgs false
set_option linter.unusedVariables false
set_option maxHeartbeats 1000000
namespace Go.Proofs.YtpefhoohfkeflacGreatDoor.Am
open Go
attribute [local irreducible] Mk ci Ari fB mA ju b9 cR iT fo At ag
set_option maxRecDepth 10000
abbrev rW (s:Int)(w:Wrl)(xss:List (Option (List Int)))(ms:List PplM):VH:=rX s w.com w.lead w.bad (w.views.map aT) xss ms
abbrev NW (s:Int)(w:Wrl)(xss:List (Option (List Int)))(ms:List PplM):VH:=Nv s w.com w.lead w.bad (w.views.map aT) xss ms
theorem kO {w:Wrl}(hw:WOK w){m:Int}(hm:0≤m∧m<w.com.length):(w.views.map aT)[m.toNat]?=some (aT (view w m))∧GraOK w.com (view w m):=by
 have hl:=hw.vlen
 have h:w.views[m.toNat]?=some (view w m):=by
  unfold view
  rw[aq,am (by omega)]
  rfl
 exact⟨by rw[be,h];rfl,fT (hw.gra _ (br h))⟩
theorem ER {n:Nat}{m:Int}(hm:0≤m∧m<n):((List.range n).map some)[m.toNat]?=some (some m.toNat):=by
 rw[be,qh (by omega)]
 rfl
theorem IN {w:Wrl}{m d:Int}(h1:good w m=true)(h2:lD w.props m≤(il w m d).round):jx w m d=(vtxS w.com (il w m d) && decide (w.props.length<220)):=by
 have hd:vtxS w.com (il w m d)=true→jS d 0 990=true:=fun h=>aC.2 (bG h).2.2.2.1
 unfold jx
 rw[h1,decide_eq_true h2]
 cases h:vtxS w.com (il w m d)
 ·simp
 ·rw[hd h]
  simp
theorem IO {w:Wrl}{m d:Int}{p:Ppl}(hp:p∈w.props)(h1:p.v.author=m)(h2:(il w m d).round≤p.v.round):jx w m d=false:=by
 have:=FB p hp h1
 unfold jx
 rw[decide_eq_false (p:=lD w.props m≤(il w m d).round) (by omega)]
 simp
theorem LS {w:Wrl}{m d:Int}(h:iD w.com (view w m)<0):il w m d=⟨0,m,[],d⟩:=by
 have:=(om w.com (view w m) 31).1
 have:iD w.com (view w m)= -1:=by unfold iD at *;omega
 unfold il
 rw[this]
 rfl
theorem LT {w:Wrl}{m d:Int}(h:0≤iD w.com (view w m)):il w m d=⟨iD w.com (view w m)+1,m,fq (view w m) (iD w.com (view w m)),d⟩:=by
 unfold il
 rw[if_pos (by omega)]
theorem zm (E:TypeId)(t:Ty)(xs ys:List (Option (List t.den))):bz (VB.frowx E t xs)≤bz (VB.frowx E t (xs++ys)):=by
 show xs.length≤(xs++ys).length
 simp
set_option maxHeartbeats 1000000 in
theorem Fc (s:Int)(w:Wrl)(xss:List (Option (List Int)))(ms:List PplM)(hw:WOK w)(hR:Rel w.props xss ms)(m d:Int):ag Tryz.prog 171 [.ptr 4 0,.int .i64 m,.int .i64 d] (rW s w xss ms) (.bool (jx w m d)) (if jx w m d then NW s w (xss++[some []]) (ms++[⟨il w m d,some xss.length⟩]) else rW s w xss ms):=by
 refine ab bS Tryz.func171 rfl rfl false 3 7 rfl rfl rfl rfl fun K hK hb1 hb2=>?_;simp only[ae,enc,Nat.reduceAdd]
 clear hb1 hb2
 have hC:=zy s w.com w.lead w.bad (w.views.map aT) xss ms m
 have hpl:=hw.plen
 have hml:=hR.len
 rw[show (dt w.com m && m !=w.bad)=good w m from rfl] at hC
 cases hg:good w m
 ·have hF:jx w m d=false:=by unfold jx;rw[hg];rfl
  rw[hg] at hC
  (repeat' first|refine cg ?_|refine sa fun xe hxe=>?_|refine sb (fun hq=>?_) fun hq=>?_|refine cr (hC) ?_|exact aa)
  rw[hF]
  exact⟨rfl,rfl⟩
 ·rw[hg] at hC
  obtain⟨hm,-⟩:=fb.1 hg
  obtain⟨hk,hG⟩:=kO hw hm
  have hvl:(w.views.map aT).length=w.com.length:=by rw[az,hw.vlen]
  have hc:=hw.com
  have h7:=(ay.1 hc).2
  have hxv:=ER (n:=(w.views.map aT).length) (m:=m) (by rw[hvl];exact hm)
  have hrl:((List.range (w.views.map aT).length).map some).length=w.com.length:=by simp[hvl,hw.vlen]
  have hno:=fun p hp=>IO (w:=w) (m:=m) (d:=d) (p:=p) hp
  have heq:=IN (w:=w) (m:=m) (d:=d) hg
  have hH:=Nf s w.com w.lead w.bad (w.views.map aT) xss ms m.toNat (view w m) hG hk
  have hlt31:=om w.com (view w m) 31
  have hT:=fun r h0 h1=>JO (w.views.map aT) m.toNat _ r hk (dX _) ⟨h0,h1⟩
  have hTe:=fun(r:Nat) (hr:r≤30)=>wP hG hr
  have hAm:=pk hG
  rw[show kr w.com (view w m) 31=iD w.com (view w m) from rfl] at hlt31
  rcases Int.lt_or_le (iD w.com (view w m)) 0 with hh|hh
  ·rw[LS hh] at hno heq⊢
   (repeat' first|refine cg ?_|refine sa fun xe hxe=>?_|refine sb (fun hq=>?_) fun hq=>?_|refine cr (hC) ?_|refine cr (hH) ?_|exact aa)
   refine ah hK [] [0,1,7,45,46,47] (fun i:Nat=>⟨[(0,.ptr 4 0),(1,.int .i64 m),(7,.ptr 7 0),(45,.ref 6),(46,.int .i64 ms.length),(47,.int .i64 (i:Int))],rW s w xss ms++[(7,VB.var 73 [.int .i64 0,.int .i64 m,.nils,.int .i64 d])],8⟩) (fun i=>i≤w.props.length∧∀p∈w.props.take i,¬(p.v.author=m∧0≤p.v.round)) (fun i=>w.props.length-i) 0 (by simp) (by(conv=>whnf);rfl) ?_
   rintro i ⟨hi,hall⟩
   by_cases hlt:i<w.props.length
   ·have hxe:w.props[i]?=some w.props[i]:=am hlt
    have hsn:w.props.take (i+1)=w.props.take i++[w.props[i]]:=b8 hlt
    obtain⟨j,hj1,hj2⟩:=hR.get i _ hxe
    have hno:=hno _ (bd hlt)
    generalize w.props[i]=p at *
    by_cases c1:p.v.author=m
    ·by_cases c2:0≤p.v.round
     ·have hF:=hno c1 c2
      (repeat' first|refine cg ?_|refine sa fun xe hxe=>?_|refine sb (fun hq=>?_) fun hq=>?_|exact aa)
      rw[hF]
      exact⟨rfl,rfl⟩
     ·(repeat' first|refine cg ?_|refine sa fun xe hxe=>?_|refine sb (fun hq=>?_) fun hq=>?_|exact aa)
      exact⟨i+1,⟨by omega,by rw[hsn];exact bL hall fun h=>c2 h.2⟩,by omega,rfl⟩
    ·(repeat' first|refine cg ?_|refine sa fun xe hxe=>?_|refine sb (fun hq=>?_) fun hq=>?_|exact aa)
     exact⟨i+1,⟨by omega,by rw[hsn];exact bL hall fun h=>c1 h.1⟩,by omega,rfl⟩
   ·rw[bp (by omega)] at hall
    have heq:=heq (FC (by show (0:Int)≤0;omega) fun p hp ha=>by
     have:=hall p hp
     show p.v.round+1≤0
     omega)
    cases hv:(vtxS w.com ⟨0,m,[],d⟩ && decide (w.props.length<220))
    ·rw[hv] at heq
     have hN:=zw s w.com w.lead w.bad (w.views.map aT) xss ms ⟨0,m,[],d⟩ hc (by rw[hml];exact hv) (by omega)
     (repeat' first|refine cg ?_|refine sa fun xe hxe=>?_|refine sb (fun hq=>?_) fun hq=>?_|refine cr (hN) ?_|exact aa)
     rw[heq]
     exact⟨rfl,rfl⟩
    ·rw[hv] at heq
     simp only[aA,decide_eq_true_eq] at hv
     have hY:=zx s w.com w.lead w.bad (w.views.map aT) xss ms ⟨0,m,[],d⟩ hc hv.1 (by omega)
     (repeat' first|refine cg ?_|refine sa fun xe hxe=>?_|refine sb (fun hq=>?_) fun hq=>?_|refine cr (hY) ?_|exact aa)
     refine fZ (zm _ _ _ _) ?_
     (conv=>whnf)
     (repeat' first|refine cg ?_|refine sa fun xe hxe=>?_|refine sb (fun hq=>?_) fun hq=>?_|refine cr (hY) ?_|exact aa)
     rw[heq]
     exact⟨rfl,rfl⟩
  ·rw[LT hh] at hno heq⊢
   have hT:=hT (iD w.com (view w m)) hh (by omega)
   rw[hTe (iD w.com (view w m)).toNat (by omega),show (((iD w.com (view w m)).toNat:Nat):Int)=iD w.com (view w m) by omega] at hT
   have hal:=eD (hAm (iD w.com (view w m)))
   (repeat' first|refine cg ?_|refine sa fun xe hxe=>?_|refine sb (fun hq=>?_) fun hq=>?_|refine cr (hC) ?_|refine cr (hH) ?_|refine co (hT) ?_|exact aa)
   refine ah hK [] [0,1,7,45,46,47] (fun i:Nat=>⟨[(0,.ptr 4 0),(1,.int .i64 m),(7,.ptr 7 0),(45,.ref 6),(46,.int .i64 ms.length),(47,.int .i64 (i:Int))],rW s w xss ms++[(7,VB.var 73 [.int .i64 (iD w.com (view w m)+1),.int .i64 m,.ref 8,.int .i64 d]),(8,VB.row 3 (.int .i64) (fq (view w m) (iD w.com (view w m))))],9⟩) (fun i=>i≤w.props.length∧∀p∈w.props.take i,¬(p.v.author=m∧(iD w.com (view w m)+1)≤p.v.round)) (fun i=>w.props.length-i) 0 (by simp) (by(conv=>whnf);rfl) ?_
   rintro i ⟨hi,hall⟩
   by_cases hlt:i<w.props.length
   ·have hxe:w.props[i]?=some w.props[i]:=am hlt
    have hsn:w.props.take (i+1)=w.props.take i++[w.props[i]]:=b8 hlt
    obtain⟨j,hj1,hj2⟩:=hR.get i _ hxe
    have hno:=hno _ (bd hlt)
    generalize w.props[i]=p at *
    by_cases c1:p.v.author=m
    ·by_cases c2:(iD w.com (view w m)+1)≤p.v.round
     ·have hF:=hno c1 c2
      (repeat' first|refine cg ?_|refine sa fun xe hxe=>?_|refine sb (fun hq=>?_) fun hq=>?_|exact aa)
      rw[hF]
      exact⟨rfl,rfl⟩
     ·(repeat' first|refine cg ?_|refine sa fun xe hxe=>?_|refine sb (fun hq=>?_) fun hq=>?_|exact aa)
      exact⟨i+1,⟨by omega,by rw[hsn];exact bL hall fun h=>c2 h.2⟩,by omega,rfl⟩
    ·(repeat' first|refine cg ?_|refine sa fun xe hxe=>?_|refine sb (fun hq=>?_) fun hq=>?_|exact aa)
     exact⟨i+1,⟨by omega,by rw[hsn];exact bL hall fun h=>c1 h.1⟩,by omega,rfl⟩
   ·rw[bp (by omega)] at hall
    have heq:=heq (FC (by show (0:Int)≤(iD w.com (view w m)+1);omega) fun p hp ha=>by
     have:=hall p hp
     show p.v.round+1≤(iD w.com (view w m)+1)
     omega)
    cases hv:(vtxS w.com ⟨(iD w.com (view w m)+1),m,fq (view w m) (iD w.com (view w m)),d⟩ && decide (w.props.length<220))
    ·rw[hv] at heq
     have hN:=zw s w.com w.lead w.bad (w.views.map aT) xss ms ⟨(iD w.com (view w m)+1),m,fq (view w m) (iD w.com (view w m)),d⟩ hc (by rw[hml];exact hv) (by omega)
     (repeat' first|refine cg ?_|refine sa fun xe hxe=>?_|refine sb (fun hq=>?_) fun hq=>?_|refine cr (hN) ?_|exact aa)
     rw[heq]
     exact⟨rfl,rfl⟩
    ·rw[hv] at heq
     simp only[aA,decide_eq_true_eq] at hv
     have hY:=zx s w.com w.lead w.bad (w.views.map aT) xss ms ⟨(iD w.com (view w m)+1),m,fq (view w m) (iD w.com (view w m)),d⟩ hc hv.1 (by omega)
     (repeat' first|refine cg ?_|refine sa fun xe hxe=>?_|refine sb (fun hq=>?_) fun hq=>?_|refine cr (hY) ?_|exact aa)
     refine fZ (zm _ _ _ _) ?_
     (conv=>whnf)
     (repeat' first|refine cg ?_|refine sa fun xe hxe=>?_|refine sb (fun hq=>?_) fun hq=>?_|refine cr (hY) ?_|exact aa)
     rw[heq]
     exact⟨rfl,rfl⟩
theorem Et {E:TypeId}{t:Ty}{xs:List (Option (List t.den))}{j:Nat}{o:Option (List t.den)}{ys:List (Option (List t.den))}:bz (VB.frowx E t xs)≤bz (VB.frowx E t (xs.set j o++ys)):=by
 show xs.length≤(xs.set j o++ys).length
 simp
theorem pL {w:Wrl}{i:Int}(hi:rk w i=true):∃n:Nat,i=n∧n<w.props.length∧w.props[n]?=some (aV w i):=by
 obtain⟨h1,h2,-⟩:=li hi
 have h0:=(aC.1 hi).1
 exact⟨i.toNat,by omega,h1,h2⟩
theorem zW {w:Wrl}{i:Int}(hi:rk w i=false):i<0∨(w.props.length:Int)≤i:=by
 rw[ck] at hi
 rcases Int.lt_or_le i 0 with h|h
 ·exact .inl h
 ·refine .inr ?_
  rcases Int.lt_or_le i w.props.length with h2|h2
  ·exact absurd (aC.2 ⟨h,by omega⟩) hi
  ·exact h2
theorem pP {w:Wrl}(hw:WOK w){p:Ppl}(hp:p∈w.props):vtxS w.com p.v=true∧ee w.com p.members=true:=by
 have:=hw.one p hp
 simpa[oneP] using this
theorem nf {c:List Int}{v:Vtx}(hc:comV c=true)(h:vtxS c v=true):(v.parents≠[]→1≤v.round∧v.round≤31)∧(∀p∈v.parents,0≤p∧p≤6):=by
 obtain⟨h1,h2,h3,h4,h5,h6⟩:=bG h
 have h7:=(ay.1 hc).2
 refine⟨fun hne=>⟨?_,by omega⟩,fun p hp=>?_⟩
 ·rcases Int.lt_or_le v.round 1 with hlt|hge
  ·exact absurd (h5 (by omega)) hne
  ·exact hge
 ·have:=dC h3 p hp
  omega
theorem D1 {w:Wrl}(hw:WOK w){m:Int}(hm:0≤m∧m<w.com.length){v:Vtx}(hv:vtxS w.com v=true):qP (aT (view w m)) v=parOK (view w m) v:=by
 have hG:=(kO hw hm).2
 exact Cf (fun u hu=>dk hw.com (hG.vtx u hu)) (nf hw.com hv).1 (nf hw.com hv).2
def w4 (w:Wrl)(m i:Int)(k:Nat):Bool:=(k:Int) !=i && (slt (w.props.getD k p0).v (aV w i).v && (w.props.getD k p0).members.contains m)
theorem Ht {w:Wrl}{m i:Int}{k:Nat}(hk:k<w.props.length)(h:w4 w m i k=true):Hs w m i=true:=fJ.2 ⟨k,eM.2 hk,h⟩
theorem Km {w:Wrl}{m i:Int}(h:∀k,k<w.props.length→w4 w m i k=false):Hs w m i=false:=by
 rw[ck]
 intro h2
 obtain⟨k,hk,h3⟩:=fJ.1 h2
 have:=h k (eM.1 hk)
 rw[show w4 w m i k=true from h3] at this
 cases this
theorem Ij (s:Int)(w:Wrl)(xss:List (Option (List Int)))(ms:List PplM)(hw:WOK w)(hR:Rel w.props xss ms)(m i:Int)(hi:rk w i=false):ag Tryz.prog 172 [.ptr 4 0,.int .i64 m,.int .i64 i] (rW s w xss ms) (.bool false) (rW s w xss ms):=by
 have hpl:=hw.plen
 have hml:=hR.len
 refine ab bS Tryz.func172 rfl rfl false 3 7 rfl rfl rfl rfl fun K hK hb1 hb2=>?_;simp only[ae,enc,Nat.reduceAdd]
 clear hb1 hb2
 have hP:=zC s w.com w.lead w.bad (w.views.map aT) xss ms i (by rw[hml];exact zW hi) (by omega)
 (repeat' first|refine cg ?_|refine sa fun xe hxe=>?_|refine sb (fun hq=>?_) fun hq=>?_|refine cr (hP) ?_|exact aa)
 exact⟨rfl,rfl⟩
set_option maxHeartbeats 1000000 in
theorem Ld (s:Int)(w:Wrl)(xss:List (Option (List Int)))(ms:List PplM)(hw:WOK w)(hR:Rel w.props xss ms)(m:Int)(i j:Nat)(hi:rk w i=true)(hj1:ms[i]?=some ⟨(aV w i).v,some j⟩)(hj2:xss[j]?=some (some (aV w i).members)):ag Tryz.prog 172 [.ptr 4 0,.int .i64 m,.int .i64 (i:Int)] (rW s w xss ms)
  (.bool (jy w m i && !(aV w i).members.contains m)) (if jy w m i && !(aV w i).members.contains m then rW s w (xss.set j none++[some (fV (aV w i).members m)]) (ms.set i ⟨(aV w i).v,some xss.length⟩) else rW s w xss ms):=by
 have hpl:=hw.plen
 have hml:=hR.len
 have hil:=(aR.1 hj1).1
 obtain⟨n,hn,hn1,hn2⟩:=pL hi
 obtain rfl:i=n:=by omega
 obtain⟨o1,o2⟩:=pP hw (br hn2)
 refine ab bS Tryz.func172 rfl rfl false 3 7 rfl rfl rfl rfl fun K hK hb1 hb2=>?_;simp only[ae,enc,Nat.reduceAdd]
 clear hb1 hb2
 have hP:=zE s w.com w.lead w.bad (w.views.map aT) xss ms i (by omega) (by omega)
 have hC:=zy s w.com w.lead w.bad (w.views.map aT) xss ms m
 rw[show (dt w.com m && m !=w.bad)=good w m from rfl] at hC
 cases hg:good w m
 ·have hF:jy w m i=false:=by unfold jy;rw[hg];rfl
  rw[hg] at hC
  (repeat' first|refine cg ?_|refine sa fun xe hxe=>?_|refine sb (fun hq=>?_) fun hq=>?_|refine cr (hP) ?_|refine cr (hC) ?_|exact aa)
  rw[hF]
  exact⟨rfl,rfl⟩
 ·rw[hg] at hC
  obtain⟨hm,-⟩:=fb.1 hg
  obtain⟨hk,hG⟩:=kO hw hm
  have hc:=hw.com
  have h7:=(ay.1 hc).2
  have hvl:(w.views.map aT).length=w.com.length:=by rw[az,hw.vlen]
  have hxv:=ER (n:=(w.views.map aT).length) (m:=m) (by rw[hvl];exact hm)
  have hrl:((List.range (w.views.map aT).length).map some).length=w.com.length:=by simp[hvl,hw.vlen]
  have hV:=D2 (w.views.map aT) m.toNat _ (aV w i).v hk (dX _) (nf hc o1).1 (nf hc o1).2
  rw[D1 hw hm o1] at hV
  cases hp:parOK (view w m) (aV w i).v
  ·have hF:jy w m i=false:=by unfold jy;rw[hp];simp
   rw[hp] at hV
   (repeat' first|refine cg ?_|refine sa fun xe hxe=>?_|refine sb (fun hq=>?_) fun hq=>?_|refine cr (hP) ?_|refine cr (hC) ?_|refine cr (hV) ?_|exact aa)
   rw[hF]
   exact⟨rfl,rfl⟩
  ·rw[hp] at hV
   have hB:jy w m i= !Hs w m i:=by unfold jy;rw[hg,hi,hp];simp
   (repeat' first|refine cg ?_|refine sa fun xe hxe=>?_|refine sb (fun hq=>?_) fun hq=>?_|refine cr (hP) ?_|refine cr (hC) ?_|refine cr (hV) ?_|exact aa)
   refine ah hK [] [0,1,2,7,39,40,41] (fun k:Nat=>⟨[(0,.ptr 4 0),(1,.int .i64 m),(2,.int .i64 (i:Int)),(7,.eptr 6 i 0),(39,.ref 6),(40,.int .i64 ms.length),(41,.int .i64 (k:Int))],rW s w xss ms,7⟩) (fun k=>k≤w.props.length∧∀k',k'<k→w4 w m i k'=false) (fun k=>w.props.length-k) 0 (by simp) (by(conv=>whnf);rfl) ?_
   rintro k ⟨hk1,hall⟩
   by_cases hlt:k<w.props.length
   ·have hxe:w.props[k]?=some w.props[k]:=am hlt
    obtain⟨jk,hq1,hq2⟩:=hR.get k _ hxe
    have hyes:=Ht (m:=m) (i:=(i:Int)) hlt
    have hgd:w.props.getD k p0=w.props[k]:=by rw[aq,hxe];rfl
    have hD:w4 w m i k=((k:Int) !=i && (slt w.props[k].v (aV w i).v && w.props[k].members.contains m)):=by unfold w4;rw[hgd]
    generalize w.props[k]=q at *
    have hS:=sF q.v (aV w i).v
    have hN:=jP q.members m
    have lD:w4 w m i k=false→∀k',k'<k+1→w4 w m i k'=false:=fun h k' hk'=>by
     rcases cG k' k with h1|h1
     ·exact hall k' h1
     ·obtain rfl:k'=k:=by omega
      exact h
    by_cases c1:k=i
    ·have c2:((k:Int) !=i)=false:=by simp[c1]
     rw[c2,iy] at hD
     (repeat' first|refine cg ?_|refine sa fun xe hxe=>?_|refine sb (fun hq=>?_) fun hq=>?_|exact aa)
     exact⟨k+1,⟨by omega,lD hD⟩,by omega,rfl⟩
    ·have c2:((k:Int) !=i)=true:=by simp;omega
     rw[c2,d7] at hD
     cases c3:slt q.v (aV w i).v
     ·rw[c3] at hD hS
      (repeat' first|refine cg ?_|refine sa fun xe hxe=>?_|refine sb (fun hq=>?_) fun hq=>?_|refine cr (hS) ?_|exact aa)
      exact⟨k+1,⟨by omega,lD hD⟩,by omega,rfl⟩
     ·rw[c3,d7] at hD
      rw[c3] at hS
      cases c4:q.members.contains m
      ·rw[c4] at hD hN
       (repeat' first|refine cg ?_|refine sa fun xe hxe=>?_|refine sb (fun hq=>?_) fun hq=>?_|refine cr (hS) ?_|((with_reducible refine kT ?_);(conv=>whnf))|((first|with_reducible refine bf (hN) ?_);conv=>whnf)|exact aa)
       exact⟨k+1,⟨by omega,lD hD⟩,by omega,rfl⟩
      ·rw[c4] at hD hN
       rw[hyes hD] at hB
       (repeat' first|refine cg ?_|refine sa fun xe hxe=>?_|refine sb (fun hq=>?_) fun hq=>?_|refine cr (hS) ?_|((with_reducible refine kT ?_);(conv=>whnf))|((first|with_reducible refine bf (hN) ?_);conv=>whnf)|exact aa)
       rw[hB]
       exact⟨rfl,rfl⟩
   ·rw[Km fun k' hk'=>hall k' (by omega)] at hB
    rw[hB]
    have hl:=eD o2
    have ha:=jl o2
    cases hm2:(aV w i).members.contains m
    ·have hY:=EV xss ms i j _ _ m hj1 hj2 ha (by omega) hm2
     rw[pU ha (by simpa using hm2)] at hY
     (repeat' first|refine cg ?_|refine sa fun xe hxe=>?_|refine sb (fun hq=>?_) fun hq=>?_|refine cr (hY) ?_|exact aa)
     refine fZ Et ?_
     (conv=>whnf)
     (repeat' first|refine cg ?_|refine sa fun xe hxe=>?_|refine sb (fun hq=>?_) fun hq=>?_|refine cr (hY) ?_|exact aa)
     exact⟨rfl,rfl⟩
    ·have hY:=EU xss ms i j _ _ m hj1 hj2 ha (by omega) hm2
     (repeat' first|refine cg ?_|refine sa fun xe hxe=>?_|refine sb (fun hq=>?_) fun hq=>?_|refine cr (hY) ?_|exact aa)
     exact⟨rfl,rfl⟩
theorem H4 (s:Int)(w:Wrl)(xss:List (Option (List Int)))(ms:List PplM)(hw:WOK w)(hR:Rel w.props xss ms)(m i:Int)(hi:rk w i=false):ag Tryz.prog 173 [.ptr 4 0,.int .i64 m,.int .i64 i] (rW s w xss ms) (.bool false) (rW s w xss ms):=by
 have hpl:=hw.plen
 have hml:=hR.len
 refine ab bS Tryz.func173 rfl rfl false 3 7 rfl rfl rfl rfl fun K hK hb1 hb2=>?_;simp only[ae,enc,Nat.reduceAdd]
 clear hb1 hb2
 have hP:=zC s w.com w.lead w.bad (w.views.map aT) xss ms i (by rw[hml];exact zW hi) (by omega)
 (repeat' first|refine cg ?_|refine sa fun xe hxe=>?_|refine sb (fun hq=>?_) fun hq=>?_|refine cr (hP) ?_|exact aa)
 exact⟨rfl,rfl⟩
abbrev As (w:Wrl)(m:Int)(v:Vtx):List (List (Option Vtx)):=(w.views.map aT).set m.toNat ((aT (view w m)).set (me v) (some v))
theorem Ja {w:Wrl}(hw:WOK w){m:Int}(hm:0≤m∧m<w.com.length){v:Vtx}(hv:jf v):(aT (view w m))[v.round.toNat * 7+v.author.toNat]?=some ((aT (view w m)).getD (v.round.toNat * 7+v.author.toNat) none)∧((aT (view w m)).getD (v.round.toNat * 7+v.author.toNat) none).isSome=ed (view w m) v.round v.author:=by
 obtain⟨⟨a1,a2⟩,a3,a4⟩:=hv
 have hG:=(kO hw hm).2
 have:=rJ (fun u hu=>dk hw.com (hG.vtx u hu)) (r:=v.round) (a:=v.author) ⟨a1,a2⟩ ⟨a3,a4⟩
 rw[show (v.round*7+v.author).toNat=v.round.toNat * 7+v.author.toNat by omega] at this
 exact⟨by rw[aq,am (by rw[dX];omega)];rfl,this⟩
set_option maxHeartbeats 1000000 in
theorem KU (s:Int)(w:Wrl)(xss:List (Option (List Int)))(ms:List PplM)(hw:WOK w)(hR:Rel w.props xss ms)(m:Int)(i j:Nat)(hi:rk w i=true)(hj1:ms[i]?=some ⟨(aV w i).v,some j⟩)(hj2:xss[j]?=some (some (aV w i).members)):ag Tryz.prog 173 [.ptr 4 0,.int .i64 m,.int .i64 (i:Int)] (rW s w xss ms)
  (.bool (fa w m i)) (if fa w m i then rX s w.com w.lead w.bad (As w m (aV w i).v) xss ms else rW s w xss ms):=by
 have hpl:=hw.plen
 have hml:=hR.len
 have hil:=(aR.1 hj1).1
 obtain⟨n,hn,hn1,hn2⟩:=pL hi
 obtain rfl:i=n:=by omega
 obtain⟨o1,o2⟩:=pP hw (br hn2)
 refine ab bS Tryz.func173 rfl rfl false 3 7 rfl rfl rfl rfl fun K hK hb1 hb2=>?_;simp only[ae,enc,Nat.reduceAdd]
 clear hb1 hb2
 have hP:=zE s w.com w.lead w.bad (w.views.map aT) xss ms i (by omega) (by omega)
 have hC:=zy s w.com w.lead w.bad (w.views.map aT) xss ms m
 rw[show (dt w.com m && m !=w.bad)=good w m from rfl] at hC
 cases hg:good w m
 ·have hF:fa w m i=false:=by unfold fa;rw[hg];rfl
  rw[hg] at hC
  (repeat' first|refine cg ?_|refine sa fun xe hxe=>?_|refine sb (fun hq=>?_) fun hq=>?_|refine cr (hP) ?_|refine cr (hC) ?_|exact aa)
  rw[hF]
  exact⟨rfl,rfl⟩
 ·rw[hg] at hC
  obtain⟨hm,-⟩:=fb.1 hg
  obtain⟨hk,hG⟩:=kO hw hm
  have hc:=hw.com
  have h7:=(ay.1 hc).2
  have hvl:(w.views.map aT).length=w.com.length:=by rw[az,hw.vlen]
  have hxv:=ER (n:=(w.views.map aT).length) (m:=m) (by rw[hvl];exact hm)
  have hrl:((List.range (w.views.map aT).length).map some).length=w.com.length:=by simp[hvl,hw.vlen]
  have hV:=D2 (w.views.map aT) m.toNat _ (aV w i).v hk (dX _) (nf hc o1).1 (nf hc o1).2
  rw[D1 hw hm o1] at hV
  have hD:=vH w.com (aV w i) hc o2
  obtain⟨hs1,hs2⟩:=Ja hw hm (dk hc o1)
  obtain⟨⟨a1,a2⟩,a3,a4⟩:=dk hc o1
  have hpp:=o9 hc o1
  have htl:=dX (view w m)
  cases hd:don w.com (aV w i)
  ·have hF:fa w m i=false:=by unfold fa;rw[hd];simp
   rw[hd] at hD
   (repeat' first|refine cg ?_|refine sa fun xe hxe=>?_|refine sb (fun hq=>?_) fun hq=>?_|refine cr (hP) ?_|refine cr (hC) ?_|((with_reducible refine kT ?_);(conv=>whnf))|((first|with_reducible refine bf (hD) ?_);conv=>whnf)|exact aa)
   rw[hF]
   exact⟨rfl,rfl⟩
  ·rw[hd] at hD
   cases hp:parOK (view w m) (aV w i).v
   ·have hF:fa w m i=false:=by unfold fa;rw[hp];simp
    rw[hp] at hV
    (repeat' first|refine cg ?_|refine sa fun xe hxe=>?_|refine sb (fun hq=>?_) fun hq=>?_|refine cr (hP) ?_|refine cr (hC) ?_|refine cr (hV) ?_|((with_reducible refine ft ?_);(conv=>whnf);(first|with_reducible refine bf (ov _ (cu hpp (by omega))) ?_);conv=>whnf)|((with_reducible refine kT ?_);(conv=>whnf))|((first|with_reducible refine bf (hD) ?_);conv=>whnf)|exact aa)
    rw[hF]
    exact⟨rfl,rfl⟩
   ·rw[hp] at hV
    have hB:fa w m i= !ed (view w m) (aV w i).v.round (aV w i).v.author:=by unfold fa;rw[hg,hi,hd,hp];simp
    cases ho:(aT (view w m)).getD ((aV w i).v.round.toNat * 7+(aV w i).v.author.toNat) none with
    |some u=>
     rw[ho] at hs1 hs2
     rw[←hs2] at hB
     (repeat' first|refine cg ?_|refine sa fun xe hxe=>?_|refine sb (fun hq=>?_) fun hq=>?_|refine cr (hP) ?_|refine cr (hC) ?_|refine cr (hV) ?_|((with_reducible refine ft ?_);(conv=>whnf);(first|with_reducible refine bf (ov _ (cu hpp (by omega))) ?_);conv=>whnf)|((with_reducible refine kT ?_);(conv=>whnf))|((first|with_reducible refine bf (hD) ?_);conv=>whnf)|exact aa)
     rw[hB]
     exact⟨rfl,rfl⟩
    |none=>
     rw[ho] at hs1 hs2
     rw[←hs2] at hB
     (repeat' first|refine cg ?_|refine sa fun xe hxe=>?_|refine sb (fun hq=>?_) fun hq=>?_|refine cr (hP) ?_|refine cr (hC) ?_|refine cr (hV) ?_|((with_reducible refine ft ?_);(conv=>whnf);(first|with_reducible refine bf (ov _ (cu hpp (by omega))) ?_);conv=>whnf)|((with_reducible refine kT ?_);(conv=>whnf))|((first|with_reducible refine bf (hD) ?_);conv=>whnf)|exact aa)
     rw[hB]
     refine⟨rfl,?_⟩
     have e:me (aV w i).v=(aV w i).v.round.toNat * 7+(aV w i).v.author.toNat:=by unfold me;omega
     have e2:(As w m (aV w i).v).length=(w.views.map aT).length:=jq ..
     show _=rX s w.com w.lead w.bad (As w m (aV w i).v) xss ms
     delta rX
     rw[e2]
     delta As
     rw[e]
theorem HK {w:Wrl}{v:Vtx}(h1:v.author=w.bad)(h2:∀p∈w.props,kR p.v v=false):jw w v=(vtxS w.com v && decide (w.props.length<220)):=by
 have h3:w.props.any (fun p=>kR p.v v)=false:=by
  rw[List.any_eq_false]
  intro p hp
  rw[h2 p hp]
  simp
 unfold jw
 rw[h3,h1]
 cases h:vtxS w.com v
 ·simp
 ·have:=(bG h).2.1.1
  rw[decide_eq_true (p:=0≤w.bad) (by omega)]
  simp
set_option maxHeartbeats 1000000 in
theorem E4 (s:Int)(w:Wrl)(xss:List (Option (List Int)))(ms:List PplM)(hw:WOK w)(hR:Rel w.props xss ms)(v:Vtx):ag Tryz.prog 174 [.ptr 4 0,cY v] (rW s w xss ms) (.bool (jw w v)) (if jw w v then NW s w (xss++[some []]) (ms++[⟨v,some xss.length⟩]) else rW s w xss ms):=by
 have hpl:=hw.plen
 have hml:=hR.len
 have hc:=hw.com
 refine ab bS Tryz.func174 rfl rfl false 3 7 rfl rfl rfl rfl fun K hK hb1 hb2=>?_;simp only[ae,enc,Nat.reduceAdd]
 clear hb1 hb2
 cases c1:v.author !=w.bad
 ·have ha:v.author=w.bad:=by simpa using c1
  (repeat' first|refine cg ?_|refine sa fun xe hxe=>?_|refine sb (fun hq=>?_) fun hq=>?_|exact aa)
  refine ah hK [] [0,3,17,18,19] (fun k:Nat=>⟨[(0,.ptr 4 0),(3,.ptr 7 0),(17,.ref 6),(18,.int .i64 ms.length),(19,.int .i64 (k:Int))],rW s w xss ms++[(7,VB.var 73 (cY v).cells)],8⟩) (fun k=>k≤w.props.length∧∀p∈w.props.take k,kR p.v v=false) (fun k=>w.props.length-k) 0 (by simp) (by(conv=>whnf);rfl) ?_
  rintro k ⟨hk1,hall⟩
  by_cases hlt:k<w.props.length
  ·have hxe:w.props[k]?=some w.props[k]:=am hlt
   have hsn:w.props.take (k+1)=w.props.take k++[w.props[k]]:=b8 hlt
   obtain⟨jk,hq1,hq2⟩:=hR.get k _ hxe
   have hmem:=bd hlt
   generalize w.props[k]=q at *
   have hE:=nH q.v v
   cases c3:kR q.v v
   ·rw[c3] at hE
    (repeat' first|refine cg ?_|refine sa fun xe hxe=>?_|refine sb (fun hq=>?_) fun hq=>?_|refine cr (hE) ?_|exact aa)
    exact⟨k+1,⟨by omega,by rw[hsn];exact bL hall c3⟩,by omega,rfl⟩
   ·have hF:jw w v=false:=by
     unfold jw
     rw[fJ.2 ⟨q,hmem,c3⟩]
     simp
    rw[c3] at hE
    (repeat' first|refine cg ?_|refine sa fun xe hxe=>?_|refine sb (fun hq=>?_) fun hq=>?_|refine cr (hE) ?_|exact aa)
    rw[hF]
    exact⟨rfl,rfl⟩
  ·rw[bp (by omega)] at hall
   have heq:=HK ha hall
   cases hv:(vtxS w.com v && decide (w.props.length<220))
   ·rw[hv] at heq
    have hN:=zw s w.com w.lead w.bad (w.views.map aT) xss ms v hc (by rw[hml];exact hv) (by omega)
    (repeat' first|refine cg ?_|refine sa fun xe hxe=>?_|refine sb (fun hq=>?_) fun hq=>?_|refine cr (hN) ?_|exact aa)
    rw[heq]
    exact⟨rfl,rfl⟩
   ·rw[hv] at heq
    simp only[aA,decide_eq_true_eq] at hv
    have hY:=zx s w.com w.lead w.bad (w.views.map aT) xss ms v hc hv.1 (by omega)
    (repeat' first|refine cg ?_|refine sa fun xe hxe=>?_|refine sb (fun hq=>?_) fun hq=>?_|refine cr (hY) ?_|exact aa)
    refine fZ (zm _ _ _ _) ?_
    (conv=>whnf)
    (repeat' first|refine cg ?_|refine sa fun xe hxe=>?_|refine sb (fun hq=>?_) fun hq=>?_|refine cr (hY) ?_|exact aa)
    rw[heq]
    exact⟨rfl,rfl⟩
 ·have hF:jw w v=false:=by
   have:(v.author==w.bad)=false:=by simpa using c1
   unfold jw
   rw[this]
   simp
  (repeat' first|refine cg ?_|refine sa fun xe hxe=>?_|refine sb (fun hq=>?_) fun hq=>?_|exact aa)
  rw[hF]
  exact⟨rfl,rfl⟩
theorem HZ (s:Int)(w:Wrl)(xss:List (Option (List Int)))(ms:List PplM)(hw:WOK w)(hR:Rel w.props xss ms)(i:Int)(hi:rk w i=false):ag Tryz.prog 175 [.ptr 4 0,.int .i64 i] (rW s w xss ms) (.bool false) (rW s w xss ms):=by
 have hpl:=hw.plen
 have hml:=hR.len
 refine ab bS Tryz.func175 rfl rfl false 3 7 rfl rfl rfl rfl fun K hK hb1 hb2=>?_;simp only[ae,enc,Nat.reduceAdd]
 clear hb1 hb2
 have hP:=zC s w.com w.lead w.bad (w.views.map aT) xss ms i (by rw[hml];exact zW hi) (by omega)
 (repeat' first|refine cg ?_|refine sa fun xe hxe=>?_|refine sb (fun hq=>?_) fun hq=>?_|refine cr (hP) ?_|exact aa)
 exact⟨rfl,rfl⟩
theorem KN (s:Int)(w:Wrl)(xss:List (Option (List Int)))(ms:List PplM)(hw:WOK w)(hR:Rel w.props xss ms)(i j:Nat)(hi:rk w i=true)(hj1:ms[i]?=some ⟨(aV w i).v,some j⟩)(hj2:xss[j]?=some (some (aV w i).members)):ag Tryz.prog 175 [.ptr 4 0,.int .i64 (i:Int)] (rW s w xss ms)
  (.bool (lK w i && !(aV w i).members.contains w.bad)) (if lK w i && !(aV w i).members.contains w.bad then rW s w (xss.set j none++[some (fV (aV w i).members w.bad)]) (ms.set i ⟨(aV w i).v,some xss.length⟩) else rW s w xss ms):=by
 have hpl:=hw.plen
 have hml:=hR.len
 have hil:=(aR.1 hj1).1
 obtain⟨n,hn,hn1,hn2⟩:=pL hi
 obtain rfl:i=n:=by omega
 obtain⟨o1,o2⟩:=pP hw (br hn2)
 have hl:=eD o2
 have ha:=jl o2
 have h7:=(ay.1 hw.com).2
 refine ab bS Tryz.func175 rfl rfl false 3 7 rfl rfl rfl rfl fun K hK hb1 hb2=>?_;simp only[ae,enc,Nat.reduceAdd]
 clear hb1 hb2
 have hP:=zE s w.com w.lead w.bad (w.views.map aT) xss ms i (by omega) (by omega)
 by_cases hb:0≤w.bad
 ·have hB:lK w i=true:=by unfold lK;rw[hi,decide_eq_true hb];rfl
  rw[hB]
  cases hm2:(aV w i).members.contains w.bad
  ·have hY:=EV xss ms i j _ _ w.bad hj1 hj2 ha (by omega) hm2
   rw[pU ha (by simpa using hm2)] at hY
   (repeat' first|refine cg ?_|refine sa fun xe hxe=>?_|refine sb (fun hq=>?_) fun hq=>?_|refine cr (hP) ?_|refine cr (hY) ?_|exact aa)
   refine fZ Et ?_
   (conv=>whnf)
   (repeat' first|refine cg ?_|refine sa fun xe hxe=>?_|refine sb (fun hq=>?_) fun hq=>?_|refine cr (hP) ?_|refine cr (hY) ?_|exact aa)
   exact⟨rfl,rfl⟩
  ·have hY:=EU xss ms i j _ _ w.bad hj1 hj2 ha (by omega) hm2
   (repeat' first|refine cg ?_|refine sa fun xe hxe=>?_|refine sb (fun hq=>?_) fun hq=>?_|refine cr (hP) ?_|refine cr (hY) ?_|exact aa)
   exact⟨rfl,rfl⟩
 ·have hB:lK w i=false:=by unfold lK;rw[decide_eq_false hb];rfl
  rw[hB]
  (repeat' first|refine cg ?_|refine sa fun xe hxe=>?_|refine sb (fun hq=>?_) fun hq=>?_|refine cr (hP) ?_|exact aa)
  exact⟨rfl,rfl⟩
end Go.Proofs.YtpefhoohfkeflacGreatDoor.Am
namespace Go.Proofs.YtpefhoohfkeflacGreatDoor.Am
open Go
def OU:Go.Conc.Locks.MuLink:={lock:=169,unlock:=170,ilock:=189,iunlock:=190,lockSlow:=209,unlockSlow:=212,disable:=205,enable:=207,acquire:=208,relMerge:=210,cas32:=206,add32:=211,tMutex:=93,tIMutex:=91,tPMutex:=216,tPIMutex:=229,tPI32:=231,tUP:=167,tNoCopy:=88,tU32:=89}
theorem Fx:Go.Conc.Locks.MuLib Tryz.prog OU:=
 ⟨Tryz.func169,Tryz.func170,Tryz.func189,Tryz.func190,Tryz.func205,Tryz.func207,Tryz.func208,Tryz.func210,Tryz.func206,Tryz.func211,Tryz.underlying91,Tryz.runUnderlying91,Tryz.sizeOf91,Tryz.isAgg91,Tryz.zeroValue91,Tryz.underlying93,Tryz.runUnderlying93,Tryz.sizeOf93,Tryz.isAgg93,Tryz.zeroValue93,Tryz.underlying216,Tryz.runUnderlying216,Tryz.sizeOf216,Tryz.isAgg216,Tryz.zeroValue216,Tryz.underlying229,Tryz.runUnderlying229,Tryz.sizeOf229,Tryz.isAgg229,Tryz.zeroValue229,Tryz.underlying231,Tryz.runUnderlying231,Tryz.sizeOf231,Tryz.isAgg231,Tryz.zeroValue231,Tryz.underlying167,Tryz.runUnderlying167,Tryz.sizeOf167,Tryz.isAgg167,Tryz.zeroValue167,Tryz.underlying88,Tryz.runUnderlying88,Tryz.sizeOf88,Tryz.isAgg88,Tryz.zeroValue88,Tryz.underlying21,Tryz.runUnderlying21,Tryz.sizeOf21,Tryz.isAgg21,Tryz.zeroValue21,(by kernel_rfl)⟩
end Go.Proofs.YtpefhoohfkeflacGreatDoor.Am
namespace Go.Proofs.YtpefhoohfkeflacGreatDoor.Am
open Go Go.RowKit
variable {P:Program} {w0:World} {S:SD} {A:Nat→Prop} {N:Nat} {ρ:Id→Pl} {t:List (Nat×D)} {h:HL} {a:Act} {w:World}
theorem tf {g:Nat}{c:Array Value}{T:TypeId}{v:Value}(hg:w.heap[g]?=some (.cells c T (0,0))):w.setCell ⟨g,0,none⟩ v=w.setRow g (c.setIfInBounds 0 v):=by
 have:w.heap.modify g (fun o=>match o with
   | .cells cs E fr=>.cells (cs.setIfInBounds 0 v) E fr
   |o=>o)=w.heap.modify g (fun o=>match o with
   | .cells _ E fr=>.cells (c.setIfInBounds 0 v) E fr
   |o=>o):=by
  apply Array.ext_getElem?
  intro i
  rw[nN,nN]
  by_cases e:g=i
  ·subst e
   simp[hg]
  ·simp[e]
 simp only[World.setCell,World.setRow]
 first|exact congrArg (fun x=>{w with heap:=x}) this|simpa using this
theorem Sim.cell0 (s:Sim P w0 S A N ρ t h a w){b:Id}{T:TypeId}{x:D}{cs:List D}(hb:look h b=some (.var T (x::cs)))(k:IntKind)(n:Int):Sim P w0 S A N ρ t (put b (.var T (.int k n::cs)) h) a (w.setCell ⟨(ρ b).blk,0,none⟩ (.int k n)):=by
 obtain⟨c,g1,g2,g3⟩:=s.blk b _ hb
 rw[tf g1]
 refine s.write hb rfl _ fun hC hR=>⟨_,setRow_heap w _ c _ T _ g1,by simpa using g2,fun j hj=>?_⟩
 have hpos:0<c.size:=by rw[g2];simp
 cases j with
 |zero=>
  have:(c.setIfInBounds 0 (.int k n)).getD 0 undef= .int k n:=by simp[bJ,hpos]
  rw[this]
  exact C.int k n
 |succ j=>
  have:(c.setIfInBounds 0 (.int k n)).getD (j+1) undef=c.getD (j+1) undef:=by simp[bJ,wy]
  rw[this]
  exact hC _ _ (g3 (j+1) (by simpa using hj))
theorem Sim.at0 (s:Sim P w0 S A N ρ t h a w){b:Id}{T:TypeId}{k:IntKind}{n:Int}{cs:List D}(hb:look h b=some (.var T (.int k n::cs))):w.cell? ⟨(ρ b).blk,0,none⟩=some (.int k n)∧w.frozen? ⟨(ρ b).blk,0,none⟩=false:=by
 obtain⟨c,g1,g2,g3⟩:=s.blk b _ hb
 have hpos:0<c.size:=by rw[g2];simp
 have h1:=(g3 0 (by simp)).int_inv
 rw[bJ,eI hpos,dY] at h1
 refine⟨?_,?_⟩
 ·simp[World.cell?,g1,eI hpos,h1]
 ·simp[World.frozen?,g1]
theorem AG {vs:Array Value}(h:1=vs.size):∃v,vs= #[v]:=by
 refine⟨vs[0],Array.ext (by simp;omega) fun i h1 h2=>?_⟩
 match i,h2 with
 |0,_=>rfl
theorem DR {L:Go.Conc.Locks.MuLink}(H:Go.Conc.Locks.MuLib P L){h:HL}{b:Id}{T:TypeId}{cs:List D}(hb:look h b=some (.var T (.int .i32 0::cs))):
  ∀hout:HL,(∀b',look hout b'=look (put b (.var T (.int .i32 1::cs)) h) b')→Con P L.lock [.ptr b 0] h (.tup []) hout:=by
 intro hout hh
 refine⟨⟨_,H.f_lock,rfl,rfl⟩,fun w A ρ vs s hl hcv=>?_⟩
 obtain⟨v,rfl⟩:=AG hl
 obtain⟨-,e0⟩:=(hcv 0 (by simp)).ptr_inv
 have e0:v= .pointer (some ⟨(ρ b).blk,0,none⟩):=e0
 subst e0
 obtain⟨q1,q2⟩:=s.at0 hb
 refine(Go.MuLone.lock_free H _ w q1 q2).mono ?_
 rintro e w' ⟨rfl,rfl⟩
 exact⟨_,ρ,rfl,fun b' hb'=>⟨rfl,by
  have:Live (put b (.var T (.int .i32 1::cs)) h) b':=hb'.put
  unfold Live at this⊢
  rw[hh]
  exact this⟩,(s.cell0 hb _ _).congr (fun _=>rfl) hh,.tup [] #[] rfl (fun i hi=>by simp at hi)⟩
theorem CB {L:Go.Conc.Locks.MuLink}(H:Go.Conc.Locks.MuLib P L){h:VH}{T:TypeId}{cs:List V}(hb:look h 4=some (.var T (.int .i32 0::cs))):ag P L.lock [.ptr 4 0] h (.tup []) (put 4 (.var T (.int .i32 1::cs)) h):=by
 refine DR (cs:=ak cs) H (av (i:=0) hb rfl) _ fun b'=>?_
 obtain⟨b1,b2⟩:=b'
 rw[ap,af,af,ap]
 by_cases e:b1=4
 ·subst e
  rw[if_pos rfl,hb]
  cases b2 with
  |zero=>rw[if_pos rfl];rfl
  |succ j=>rw[if_neg (by simp)];rfl
 ·rw[if_neg e,if_neg (fun h=>e (Prod.mk.inj h).1)]
def dU (fu:FuncId)(g:Nat):Deferred:={target:=.fn (.func fu) #[],args:=#[]++ #[.pointer (some ⟨g,0,none⟩)]}
theorem Sim.defs {dfs:List Deferred}(s:Sim P w0 S A N ρ t h a w):Sim P w0 ⟨S.S,dfs⟩ A N ρ t h {a with defers:=dfs} w:=
 ⟨s.base,s.inS,s.fr,rfl,s.size,s.tmp,s.blk,s.own,s.inj,s.gl⟩
theorem SimS.defs {dfs:List Deferred}{ρ0:Id→Pl}{K:Id→Prop}{σ:St}(s:SimS P w0 S A N ρ0 K σ a w):SimS P w0 ⟨S.S,dfs⟩ A N ρ0 K σ {a with defers:=dfs} w:=by
 obtain⟨h1,h2,ρ,h3,h4⟩:=s
 exact⟨h1,h2,ρ,h3,h4.defs⟩
def uN (P:Program)(N:Nat)(K:Id→Prop)(fu:FuncId)(b:Id)(c:Code)(σ:St)(e:Exit)(σ':St):Prop:=
 ∀w0 S A ρ0 a w,S.dfs=[]→SimS P w0 S A N ρ0 K σ a w→c.wp P (fun e' a' w'=>e'=e∧SimS P w0 ⟨S.S,[dU fu (ρ0 b).blk]⟩ A N ρ0 K σ' a' w') a w
def Ka (P:Program)(N:Nat)(K:Id→Prop)(fu:FuncId)(b:Id)(c:Code)(Q:Exit→VSt→Prop)(σ:VSt):Prop:=∃e σ',uN P N K fu b c σ.toD e σ'.toD∧(gY P N K σ'.toD→Q e σ')
variable {K:Id→Prop} {fu:FuncId} {b:Id} {Q:Exit→VSt→Prop} {σ:VSt}
theorem rZ {c:Code}{σ:St}(h:¬gY P N K σ)(e:Exit)(σ':St):uN P N K fu b c σ e σ':=fun w0 S A ρ0 a w _ hs=>absurd ⟨w0,S,A,ρ0,a,w,hs⟩ h
theorem qT {x y:Code}(h:At P N K x (fun e σ=>e= .normal∧Ka P N K fu b y Q σ) σ):Ka P N K fu b (.seq x y) Q σ:=by
 obtain⟨e,σ1,h1,h2⟩:=h
 rcases jr (gY P N K σ1.toD) with hr|hr
 ·obtain⟨rfl,e2,σ2,h3,h4⟩:=h2 hr
  refine⟨e2,σ2,fun w0 S A ρ0 a w hd hs=>wp_seq (wp_mono (h1 w0 S A ρ0 a w hs) ?_),h4⟩
  rintro e' a' w' ⟨rfl,hs'⟩
  exact h3 w0 S A ρ0 a' w' hd hs'
 ·rcases jr (gY P N K σ.toD) with hr0|hr0
  ·refine⟨e,σ1,fun w0 S A ρ0 a w hd hs=>wp_seq (wp_mono (h1 w0 S A ρ0 a w hs) ?_),fun h=>absurd h hr⟩
   rintro e' a' w' ⟨rfl,hs'⟩
   exact absurd ⟨_,_,_,_,_,_,hs'⟩ hr
  ·exact⟨.normal,σ1,rZ hr0 _ _,fun h=>absurd h hr⟩
theorem wL {x y:Code}(h:Ka P N K fu b x (fun e σ=>e= .normal∧At P N K y Q σ) σ):Ka P N K fu b (.seq x y) Q σ:=by
 obtain⟨e,σ1,h1,h2⟩:=h
 rcases jr (gY P N K σ1.toD) with hr|hr
 ·obtain⟨rfl,e2,σ2,h3,h4⟩:=h2 hr
  refine⟨e2,σ2,fun w0 S A ρ0 a w hd hs=>wp_seq (wp_mono (h1 w0 S A ρ0 a w hd hs) ?_),h4⟩
  rintro e' a' w' ⟨rfl,hs'⟩
  exact h3 w0 _ A ρ0 a' w' hs'
 ·refine⟨e,σ1,fun w0 S A ρ0 a w hd hs=>wp_seq (wp_mono (h1 w0 S A ρ0 a w hd hs) ?_),fun h=>absurd h hr⟩
  rintro e' a' w' ⟨rfl,hs'⟩
  exact absurd ⟨_,_,_,_,_,_,hs'⟩ hr
theorem sY {ops:Array Oper}{ρ0:Id→Pl}{Q:Exit→Act→World→Prop}{r:List Nat}:∀(L:List (Oper×Rc)) (k:Nat) (t:List (Nat×D)) (h:HL) (n:Nat) (a:Act) (w:World) (ρ:Id→Pl),TRun P ops N t h n L→(∀b:Id,n≤b.1→look h b=none)→
  (∀b,K b→Live h b)→(∀b,K b→ρ b=ρ0 b)→(∀i,i<L.length→ops[k+i]?=(L[i]?).map (·.1))→Sim P w0 S A N ρ t h a w→
  (∀ρ a w,(∀b,K b→ρ b=ρ0 b)→Sim P w0 S A N ρ (kb (fun _=>true) k L t) (jp (fun _=>true) k L h) a w→wpOps P ops Q r a w)→wpOps P ops Q (List.range' k L.length++r) a w
 |[],k,t,h,n,a,w,ρ,_,_,_,hρ,_,s,hq=>hq ρ a w hρ s
 |(o,rc)::L,k,t,h,n,a,w,ρ,hT,hn,hK,hρ,hops,s,hq=>by
  obtain⟨⟨rfl,h1,h2,h3⟩,h4,h5⟩:=hT
  simp only[bF,List.range'_succ,gx]
  rw[wpOps_cons]
  unfold wpOp
  have ho:ops[k]?=some o:=by simpa using hops 0 (by simp)
  rw[ho]
  simp only
  have hn':∀b:Id,rc.n'≤b.1→look (puts rc.u h) b=none:=by
   intro b hb
   rw[aN _ _ _ fun x hx e=>by have:=h2 x hx;rw[e] at this;omega]
   exact hn b (by omega)
  have lD:∀(ρ':Id→Pl) (v:Value) (w':World),Ext h ρ ρ'→Sim P w0 S A N ρ' (im o.dst rc.d t) (puts rc.u h) (a.put o.dst v) w'→wpOps P ops Q (List.range' (k+1) L.length++r) (a.put o.dst v) w':=by
   intro ρ' v w' hex s'
   exact sY L (k+1) _ _ rc.n' _ w' ρ' h5 hn' (fun b hb=>m4 _ _ _ (hK b hb)) (fun b hb=>(hex b (hK b hb)).trans (hρ b hb)) (fun i hi=>by rw[show k+1+i=k+(i+1) by omega];exact hops (i+1) (by simpa using hi)) s' hq
  rcases h4 with⟨g1,g2⟩|⟨g1,g2,g3,g4⟩
  ·rw[s.guard g1]
   simp only[if_true]
   left
   have hw:=g2 t h (fun x hx=>rfl) (fun b hb=>rfl) _ _ _ ρ a w s
   refine Reg.wp_exit_mono (K:=tE P w0 S A N ρ t h (puts rc.u h) a o.dst rc.d) ?_ hw
   rintro a' w' ⟨v,ρ',rfl,hex,q1,q2⟩
   exact lD ρ' v w' hex (q1.putO h3 q2)
  ·rw[s.guard g1]
   simp only[eW,if_false]
   refine lD ρ undef w (Ext.refl _ _) ?_
   rw[g2,g3]
   exact s.putO h3 (.tup [] #[] rfl fun i hi=>absurd hi (Nat.not_lt_zero i))
theorem AI {Θ:TT}(hΘ:Θ.ok P){id:Nat}{ops:Array Oper}{l:List Oper}{od:Oper}{x:Tmp}{Ts:Array TypeId}(hops:ops.toList=l++[od])(hod:od.op= .defer {callee:=.value (.func fu),args:=#[.tmp x],argTypes:=Ts}∧od.guard=none∧od.dst=none)
  (hx:x<N) (h:lv P Θ ops (fun _=>[]) false N l 0 [] σ (fun σ=>look (fL σ.t) x=some (.ptr b 0)∧K b∧Q .normal σ)):Ka P N K fu b (.region id ops false) Q σ:=by
 rcases jr (¬gY P N K σ.toD) with hr|hr
 ·exact⟨.normal,σ,rZ hr _ _,fun h=>absurd h hr⟩
 have hr:=Classical.not_not.1 hr
 have hfr:lG σ:=by obtain⟨w0,S,A,ρ0,a,w,hs⟩:=hr;exact hs.1
 obtain⟨σ',⟨q1,q2,q3⟩,h2⟩:=nc hΘ hfr h
 obtain⟨L,l1,l2,l3,l4,l5,_⟩:=h2 [] fun h=>by cases h
 refine⟨.normal,σ',?_,fun _=>q3⟩
 rintro w0 S A ρ0 a w hd ⟨hn,hK,ρ,hρ,s⟩
 refine wp_region ?_
 have hll:L.length=l.length:=by rw[←l1,az]
 have hsz:ops.size=L.length+1:=by have:=congrArg List.length hops;simp only[nx,aP,mw] at this;omega
 have hget:∀i:Nat,ops[i]?=(l++[od])[i]?:=fun i=>by rw[←hops];simp
 rw[hsz,List.range_eq_range',List.range'_concat]
 simp only[iz,eX]
 refine sY L 0 _ _ _ a w ρ l2 hn hK hρ (fun i hi=>?_) s fun ρ' a' w' hρ' s'=>?_
 ·rw[eX,hget,cW (by omega),←l1,be]
 ·obtain⟨od1,od2,od3⟩:=hod
  have s2:=s'.congr (t':=fL σ'.t) (h':=toH σ'.h) (fun x=>(l3 x)) (fun b=>(l4 b))
  have hv:=(s2.tmp x _ q1).2
  obtain⟨-,hv⟩:=hv.ptr_inv
  rw[hρ' b q2] at hv
  have ho:ops[L.length]?=some od:=by rw[hget,hll,eJ (ax _)];simp
  simp only[wpOps,ho]
  have hwant:Region.wanted od (yielded ops a'.tmps)=true:=by simp[Region.wanted,od2]
  rw[if_pos hwant]
  left
  have hex:(execOp a'.eval od).run P w'= .ok (.defer (dU fu (ρ0 b).blk)) w':=by
   have he:a'.eval (.tmp x)= .pointer (some ⟨(ρ0 b).blk,0,none⟩):=by
    rw[←hv];rfl
   obtain⟨dst,op,ty,pos,after,guard⟩:=od
   subst od1
   simp only[execOp,resolve,List.map_toArray,bK,eq,he]
   rfl
  unfold Oper.wp
  rw[hex,Oper.upon_defer,od3]
  have hdf:a'.defers=[]:=s2.defers.trans hd
  refine⟨trivial,l5,fun b hb=>?_,ρ',hρ',?_⟩
  ·have:=kK (fun _=>true) L 0 (toH σ.h) b (hK b hb)
   show Live (toH σ'.h) b
   unfold Live at this⊢
   rw[l4]
   exact this
  ·have:=s2.defs (dfs:=[dU fu (ρ0 b).blk])
   rw[hdf]
   exact this
theorem HG {w:World}{hin:HL}{ρ:Id→Pl}{fn:Func}{N:Nat}{σ:St}{a':Act}{w':World}{r:D}{hout:HL}{ρ1:Id→Pl}(hK:∀b,Live hin b→Live σ.h b)(hρ1:∀b,Live hin b→ρ1 b=ρ b)(s1:Sim P w (qv ρ hin) A N ρ1 σ.t σ.h a' w')
  (hr:ph P fn.results.toList (Live hin) σ r hout):∃u,(results fn a'.tmps).run P w'= .ok u w'∧∃v ρ'',Ending.returned u= .returned v∧(∀b,Live hin b→ρ'' b=ρ b∧Live hout b)∧Sim P w (qv ρ hin) A 0 ρ'' [] hout ec w'∧C ρ'' (Live hout) (okOf A ρ'' hout w') w' r v:=by
 obtain⟨ds',bs,g,hrds,hrn,hren,hkeep⟩:=hr
 obtain⟨vs',r1,r2,r3⟩:=s1.results (f:=L1 a'.tmps) (fun r=>by cases r<;>rfl) hrds
 have hone:=FJ r2 r3
 have hrun:(results fn a'.tmps).run P w'= .ok (if h:vs'.toArray.size=1 then vs'.toArray[0] else .tuple vs'.toArray) w':=by
  rw[s7,Array.mapM_eq_mapM_toList,Sem.run_bind,map_eq_pure_bind,Sem.run_bind,r1]
  rfl
 generalize (if h:vs'.toArray.size=1 then vs'.toArray[0] else Value.tuple vs'.toArray)=u at *
 obtain⟨q1,q2,q3⟩:=s1.frz_ok bs
 have hcu:C ρ1 (Live (puts (frz σ.h bs) σ.h)) (okOf A ρ1 (puts (frz σ.h bs) σ.h) w') w' (one ds') u:=hone.mono (fun b hb=>⟨lX hb,rfl⟩) (fun k hk=>⟨⟨hk.1,fun b y hy hmu=>by
  rcases q2 b with q|⟨y',z1,z2⟩
  ·rw[q] at hy;exact hk.2 b y hy hmu
  ·rw[z2] at hy
   obtain rfl:=ar hy
   rw[(kl z1).2.1] at hmu;cases hmu⟩,rfl⟩)
 obtain⟨s3,hok3⟩:=q1.ren (N':=0) (a':=ec) (t':=[]) hren rfl rfl (fun k d' hk=>by cases hk)
 exact⟨u,hrun,u,fun b=>ρ1 (g b),rfl,fun b hb=>⟨by show ρ1 (g b)=_;rw[(hkeep b hb (hK b hb)).1];exact hρ1 b hb,(hkeep b hb (hK b hb)).2⟩,s3,q1.rn hok3 hrn hcu⟩
theorem u5 {L : Go.Conc.Locks.MuLink} (H : Go.Conc.Locks.MuLib P L) {f : FuncId} {fn : Func} {c : Code} (hf : P.funcs[f]? = some fn) (hb : fn.body = some c) (hname : (fn.name == "runtime.NumGoroutine") = false) {N : Nat} {rs : List ResultVar} (hN : fn.ntmps = N) (hrs : fn.results.toList = rs) {ds : List D} {hin : HL} {n0 : Nat} {r : D} {hout : HL}
  (hl:ds.length≤N) (hn0:∀b:Id,n0≤b.1→look hin b=none) (hLb:Live hin b)
  (hF:(∀d∈ds,bnd 6 d)→(∀b x,look hin b=some x→bndB 6 x)→∃e σ,uN P N (Live hin) L.unlock b c ⟨t8 ds,hin,n0⟩ e σ∧(gY P N (Live hin) σ→(e= .normal∨e= .ret)∧∃T cs h2,look σ.h b=some (.var T (.int .i32 1::cs))∧(∀b',look h2 b'=look (put b (.var T (.int .i32 0::cs)) σ.h) b')∧ph P rs (Live hin) ⟨σ.t,h2,σ.n⟩ r hout)):Con P f ds hin r hout:=by
 subst hN hrs
 refine⟨⟨fn,hf,by rw[hb];rfl,hname⟩,fun w A ρ vs s hlen hv=>?_⟩
 obtain⟨e,σ,hA,hfin⟩:=hF (fun d hd=>by
  obtain⟨i,hi,rfl⟩:=bW hd
  exact(hv i hi).bnd 6) (fun b x hx=>s.bndB 6 hx)
 refine calls_of_wp_defers hf hb ?_
 have hs0:SimS P w (qv ρ hin) A fn.ntmps ρ (Live hin) ⟨t8 ds,hin,n0⟩ {tmps:=vs++Array.replicate (fn.ntmps-vs.size) undef,defers:=[]} w:=by
  refine⟨hn0,fun b hb=>hb,ρ,fun b hb=>rfl,s.base,s.inS,s.fr,rfl,by simp;omega,fun k d hk=>?_,s.blk,s.own,s.inj,s.gl⟩
  have hk2:look ((ds.zipIdx 0).map fun x=>(x.2,x.1)) k=some d:=hk
  rw[pJ] at hk2
  simp only[aW,if_true,Nat.sub_zero] at hk2
  have hk':k<ds.length:=(aR.1 hk2).1
  refine⟨by omega,?_⟩
  have:=hv k hk'
  rw[aq,hk2] at this
  have hkv:k<vs.size:=by omega
  simpa[bJ,Array.getElem?_append,hkv] using this
 refine wp_mono (hA _ _ _ ρ _ w rfl hs0) ?_
 clear hA
 rintro e' a' w' ⟨rfl,hs1⟩
 obtain⟨he,T,cs,h2,hlk,hh2,hres⟩:=hfin ⟨_,_,_,_,_,_,hs1⟩
 clear hfin
 obtain⟨hn,hK,ρ1,hρ1,s1⟩:=hs1
 have hdf:a'.defers=[dU L.unlock (ρ b).blk]:=s1.defers
 have hlv:Leaves P fn a'.tmps (fun e w'=>∃u ρ',e= .returned u∧(∀b,Live hin b→ρ' b=ρ b∧Live hout b)∧Sim P w (qv ρ hin) A 0 ρ' [] hout ec w'∧C ρ' (Live hout) (okOf A ρ' hout w') w' r u) a'.defers .returning w':=by
  obtain⟨c1,c2⟩:=s1.at0 hlk
  rw[hρ1 b hLb] at c1 c2
  rw[hdf]
  refine leaves_cons (f:=L.unlock) (args:=#[.pointer (some ⟨(ρ b).blk,0,none⟩)]) (by simp) ?_ ?_
  ·simp[invoke,callFunc,H.f_unlock,go_sem]
   rfl
  ·refine(Go.MuLone.unlock_deferred H _ .returning w' c1 c2).mono ?_
   rintro e u' w'' ⟨rfl,rfl,rfl⟩
   have s2:=(s1.cell0 hlk .i32 0).defs (dfs:=[])
   rw[hρ1 b hLb] at s2
   exact HG (a':={a' with defers:=[]}) (σ:=⟨σ.t,h2,σ.n⟩) (fun b2 hb2=>by
    have:Live (put b (.var T (.int .i32 0::cs)) σ.h) b2:=(hK b2 hb2).put
    unfold Live at this⊢
    rw[hh2]
    exact this) hρ1 (s2.congr (fun _=>rfl) hh2) hres
 rcases he with rfl|rfl<;>exact hlv
def Jm (σ:VSt)(Q:VSt→Prop):Prop:=match aU σ.h 4 with
 |some (.var T (.int .i32 1::cs))=>Q ⟨σ.t,put 4 (.var T (.int .i32 0::cs)) σ.h,σ.n⟩
 |_=>False
theorem Hl {L : Go.Conc.Locks.MuLink} (H : Go.Conc.Locks.MuLib P L) {Θ : TT} (hΘ : Θ.ok P) {f : FuncId} {fn : Func} {c : Code} (hf : P.funcs[f]? = some fn) (hb : fn.body = some c) (hname : (fn.name == "runtime.NumGoroutine") = false) (pr : Bool) {vs : List V} {hin : VH} (m n0 : Nat) (hn0 : 4 + m = n0) (hlt : zN n0 hin = true) (hnd : j4 (keysV hin) = true) (hl : Nat.ble vs.length fn.ntmps = true)
  (hlb:Live (toH hin) (4,0)) {R:V→VH→Prop} {r0:V} {hout0:VH} (h0:R r0 hout0)
  (h:∀K,KB m K→K (4,0)→(∀d∈ak vs,bnd 6 d)→(∀x∈hin,∀d∈x.2.blks,bndB 6 d)→Ka P fn.ntmps K L.unlock (4,0) c (HF fun σ=>Jm σ fun σ=>zl Θ fn.results.toList m pr σ fun r hout=>qp (lP hin) r hout (R r)) ⟨ae vs 0,hin,n0⟩):∃r hout,R r hout∧ag P f vs hin r hout:=by
 have hlen:(ak vs).length≤fn.ntmps:=by rw[aL];exact Nat.le_of_ble_eq_true hl
 have e1:t8 (ak vs)=fL (ae vs 0):=rV vs 0
 have hfr:=ug hlt
 have hK:KB m (Live (toH hin)):=by
  intro b hb
  rcases cG b.1 (4+m) with hlt|hge
  ·exact hlt
  ·unfold Live at hb
   rw[hfr b (by omega)] at hb
   cases hb
 have hbnd:(∀b x,look (toH hin) b=some x→bndB 6 x)→∀x∈hin,∀d∈x.2.blks,bndB 6 d:=by
  rintro hq ⟨k,x⟩ hx d hd
  obtain⟨i,hi⟩:=iM hd
  exact hq (k,i) d (av (ij (by rw[fe];exact iW hnd) hx) hi)
 rcases jr ((∀d∈ak vs,bnd 6 d)∧∀b x,look (toH hin) b=some x→bndB 6 x) with hbb|hbb
 ·obtain⟨e,σ',h1,h2⟩:=h _ hK hlb hbb.1 (hbnd hbb.2)
  rcases jr (gY P fn.ntmps (Live (toH hin)) σ'.toD) with hr|hr
  ·have h3:=h2 hr
   have hfin:(e= .normal∨e= .ret)∧Jm σ' fun σ=>zl Θ fn.results.toList m pr σ fun r hout=>qp (lP hin) r hout (R r):=by
    cases e with
    |normal=>exact⟨.inl rfl,h3⟩
    |ret=>exact⟨.inr rfl,h3⟩
    |_=>exact h3.elim
   obtain⟨he,hfin⟩:=hfin
   unfold Jm at hfin
   split at hfin
   ·rename_i T cs hlk
    rw[aS] at hlk
    obtain⟨r,hout1,q1,q2⟩:=Bd hΘ hK hfin
    obtain⟨hout,q1,q2⟩:=w8 (fun b hb hlt=>by
     unfold Live at hb
     rw[ap] at hb
     obtain⟨d,hd⟩:=mq.1 hb
     obtain⟨y,hy,-⟩:=bE.1 hd
     simp only[lP,eL]
     exact⟨by rw[←fe];exact aB.2 ⟨_,di hy,rfl⟩,by simpa[Nat.blt_eq] using hlt⟩) q1 q2
    refine⟨r,hout,q2,u5 H hf hb hname rfl rfl hlen hfr hlb fun _ _=>⟨e,σ'.toD,?_,fun _=>⟨he,T,ak cs,toH (put 4 (.var T (.int .i32 0::cs)) σ'.h),av (i:=0) hlk rfl,fun b'=>?_,q1⟩⟩⟩
    ·rw[e1]
     exact h1
    ·show look (toH (put 4 (.var T (.int .i32 0::cs)) σ'.h)) b'=look (put (4,0) (.var T (ak (.int .i32 0::cs))) (toH σ'.h)) b'
     obtain⟨b1,b2⟩:=b'
     rw[ap,af,af,ap]
     by_cases e:b1=4
     ·subst e
      rw[if_pos rfl,hlk]
      cases b2 with
      |zero=>rw[if_pos rfl];rfl
      |succ j=>rw[if_neg (by simp)];rfl
     ·rw[if_neg e,if_neg (fun h=>e (Prod.mk.inj h).1)]
   ·exact hfin.elim
  ·refine⟨r0,hout0,h0,u5 H hf hb hname rfl rfl hlen hfr hlb fun _ _=>⟨e,σ'.toD,?_,fun h=>absurd h hr⟩⟩
   rw[e1]
   exact h1
 ·exact⟨r0,hout0,h0,u5 H hf hb hname rfl rfl hlen hfr hlb fun b1 b2=>absurd ⟨b1,b2⟩ hbb⟩
theorem AT {L : Go.Conc.Locks.MuLink} (H : Go.Conc.Locks.MuLib P L) {Θ : TT} (hΘ : Θ.ok P) {f : FuncId} {fn : Func} {c : Code} (hf : P.funcs[f]? = some fn) (hb : fn.body = some c) (hname : (fn.name == "runtime.NumGoroutine") = false) (pr : Bool) {vs : List V} {hin : VH} (m n0 : Nat) (hn0 : 4 + m = n0) (hlt : zN n0 hin = true) (hnd : j4 (keysV hin) = true) (hl : Nat.ble vs.length fn.ntmps = true) (hlb : Live (toH hin) (4, 0)) {r : V} {hout : VH}
  (h:∀K,KB m K→K (4,0)→(∀d∈ak vs,bnd 6 d)→(∀x∈hin,∀d∈x.2.blks,bndB 6 d)→Ka P fn.ntmps K L.unlock (4,0) c (HF fun σ=>Jm σ fun σ=>zl Θ fn.results.toList m pr σ fun r' hout'=>qp (lP hin) r' hout' fun hout'=>r'=r∧hout'=hout) ⟨ae vs 0,hin,n0⟩):ag P f vs hin r hout:=by
 obtain⟨r',hout',⟨rfl,rfl⟩,h2⟩:=Hl H hΘ hf hb hname pr m n0 hn0 hlt hnd hl hlb (R:=fun r' hout'=>r'=r∧hout'=hout) ⟨rfl,rfl⟩ h
 exact h2
end Go.Proofs.YtpefhoohfkeflacGreatDoor.Am
namespace Go.Proofs.YtpefhoohfkeflacGreatDoor.Am
open Go
attribute [local irreducible] Mk ci Ari fB mA ju b9 cR iT fo At ag
set_option maxRecDepth 10000
theorem v8 (w:Wrl)(m:Int):ag Tryz.prog 72 [bc w,.int .i64 m] [] (.bool (good w m)) []:=by
 have hI:=nh m 0 ((w.com.length:Int)-1)
 refine ab aj Tryz.func72 rfl rfl false 0 4 rfl rfl rfl rfl fun K hK hb1 hb2=>?_;simp only[ae,enc,Nat.reduceAdd]
 simp[ak,V.toD,bnd,ai,D.cells] at hb1
 cases h:jS m 0 ((w.com.length:Int)-1)
 ·rw[h] at hI
  (repeat' first|refine st ?_|refine sa fun xe hxe=>?_|refine sb (fun hq=>?_) fun hq=>?_|refine cr (hI) ?_|exact aa)
  exact⟨by simp[good,dt,h],rfl⟩
 ·rw[h] at hI
  (repeat' first|refine st ?_|refine sa fun xe hxe=>?_|refine sb (fun hq=>?_) fun hq=>?_|refine cr (hI) ?_|exact aa)
  exact⟨by simp[good,dt,h],rfl⟩
theorem FD {ps:List Ppl}{i:Nat}{p:Ppl}(h:ps[i]?=some p)(m:Int):lD (ps.take (i+1)) m=if p.v.author=m then(if lD (ps.take i) m<p.v.round+1 then p.v.round+1 else lD (ps.take i) m) else lD (ps.take i) m:=by
 obtain⟨hl,rfl⟩:=aR.1 h
 rw[b8 hl,ru]
 split
 ·split<;>omega
 ·rfl
theorem Jb (w:Wrl)(m:Int)(hp:∀p∈w.props,0≤p.v.round∧p.v.round≤30)(hl:w.props.length≤1000):ag Tryz.prog 76 [bc w,.int .i64 m] [] (.int .i64 (lD w.props m)) []:=by
 refine ab aj Tryz.func76 rfl rfl false 0 4 rfl rfl rfl rfl fun K hK hb1 hb2=>?_;simp only[ae,enc,Nat.reduceAdd]
 clear hb1 hb2
 (repeat' first|refine st ?_|refine sa fun xe hxe=>?_|refine sb (fun hq=>?_) fun hq=>?_|exact aa)
 refine ah hK [] [1,2,5,6] (fun i:Nat=>⟨[(1,.int .i64 m),(2,.ptr 4 0),(5,.int .i64 (lD (w.props.take i) m)),(6,.int .i64 (i:Int))],[(4,.var 36 (bc w).cells)],5⟩) (fun i=>i≤w.props.length) (fun i=>w.props.length-i) 0 (by simp) rfl ?_
 intro i hi
 by_cases hlt:i<w.props.length
 ·have hxe:w.props[i]?=some w.props[i]:=am hlt
  have hs:=FD hxe m
  have hpb:=hp _ (bd hlt)
  have hnb:=FA (m:=m) fun p hpp=>hp p (jU (i:=i) hpp)
  generalize w.props[i]=p at *
  by_cases ha:p.v.author=m
  ·rw[if_pos ha] at hs
   (repeat' first|refine st ?_|refine sa fun xe hxe=>?_|refine sb (fun hq=>?_) fun hq=>?_|exact aa)
   exact⟨i+1,by omega,by omega,by rw[hs];rfl⟩
  ·rw[if_neg ha] at hs
   (repeat' first|refine st ?_|refine sa fun xe hxe=>?_|refine sb (fun hq=>?_) fun hq=>?_|exact aa)
   exact⟨i+1,by omega,by omega,by rw[hs];rfl⟩
 ·(repeat' first|refine st ?_|refine sa fun xe hxe=>?_|refine sb (fun hq=>?_) fun hq=>?_|exact aa)
  rw[bp (by omega)]
  exact⟨rfl,rfl⟩
theorem Me (l:List Int)(n:Int)(hl:l.length≤1000):ag Tryz.prog 122 [.lst (.int .i64) l,.int .i64 n] [] (.lst (.int .i64) (fV l n)) []:=by
 refine ab aj Tryz.func122 rfl rfl true 0 4 rfl rfl rfl rfl fun K hK hb1 hb2=>?_;simp only[ae,enc,Nat.reduceAdd]
 clear hb1 hb2
 (repeat' first|refine st ?_|refine sa fun xe hxe=>?_|refine sb (fun hq=>?_) fun hq=>?_|exact aa)
 refine ah hK [] [0,1,5] (fun k:Nat=>⟨[(0,.lst (.int .i64) l),(1,.int .i64 n),(5,.int .i64 (k:Int))],[],4⟩) (fun k=>k≤l.length∧∀y∈l.take k,y<n) (fun k=>l.length-k) 0 ⟨by simp,by simp⟩ rfl ?_
 rintro k ⟨hk,hall⟩
 have hat:=Br (l:=l) (n:=n) (k:=k) hall hk
 have e1:lM l none (some (.int .i64 k)) 0 (k:Int).toNat=l.take k:=by simp[lM]
 have e2:lM l (some (.int .i64 k)) none (k:Int).toNat l.length=l.drop k:=by simp[lM]
 have hl1:(l.take k).length=k:=by rw[bP];omega
 have hl2:(l.drop k).length=l.length-k:=lw ..
 by_cases hlt:k<l.length
 ·have hxe:l[k]?=some l[k]:=am hlt
  have hsn:l.take (k+1)=l.take k++[l[k]]:=b8 hlt
  generalize l[k]=x at *
  by_cases hx:x<n
  ·(repeat' first|refine st ?_|refine sa fun xe hxe=>?_|refine sb (fun hq=>?_) fun hq=>?_|exact aa)
   exact⟨k+1,⟨by omega,by rw[hsn];intro y hy;rcases bl.1 hy with h|h;exact hall y h;rw[aY.1 h];exact hx⟩,by omega,rfl⟩
  ·have hat:=hat fun y hy=>by rw[hxe] at hy;obtain rfl:=ar hy;exact hx
   rw[hxe] at hat
   by_cases hxn:x=n
   ·rw[if_pos (by rw[hxn])] at hat
    rw[hat]
    (repeat' first|refine st ?_|refine sa fun xe hxe=>?_|refine sb (fun hq=>?_) fun hq=>?_|exact aa)
    exact⟨rfl,rfl⟩
   ·rw[if_neg (by simpa using hxn)] at hat
    rw[hat]
    (repeat' first|refine st ?_|refine sa fun xe hxe=>?_|refine sb (fun hq=>?_) fun hq=>?_|exact aa)
    rw[e1]
    refine fZ ?_ ?_
    ·refine mM (xs:=([]:List Int)) (ys:=l.take k) (by simp) (by omega) ?_;decide
    (conv=>whnf)
    (repeat' first|refine st ?_|refine sa fun xe hxe=>?_|refine sb (fun hq=>?_) fun hq=>?_|exact aa)
    rw[e2]
    refine fZ ?_ ?_
    ·refine mM (xs:=[]++l.take k++[n]) (ys:=l.drop k) (by rw[eo,aP,mw];omega) (by omega) ?_;decide
    (conv=>whnf)
    (repeat' first|refine st ?_|refine sa fun xe hxe=>?_|refine sb (fun hq=>?_) fun hq=>?_|exact aa)
    exact⟨rfl,rfl⟩
 ·obtain rfl:k=l.length:=by omega
  have hat:=hat fun y hy=>by rw[eg (ax _)] at hy;cases hy
  rw[eg (ax _),if_neg (by simp)] at hat
  rw[hat]
  (repeat' first|refine st ?_|refine sa fun xe hxe=>?_|refine sb (fun hq=>?_) fun hq=>?_|exact aa)
  rw[e1]
  refine fZ ?_ ?_
  ·refine mM (xs:=([]:List Int)) (ys:=l.take l.length) (by simp) (by omega) ?_;decide
  (conv=>whnf)
  (repeat' first|refine st ?_|refine sa fun xe hxe=>?_|refine sb (fun hq=>?_) fun hq=>?_|exact aa)
  rw[e2]
  refine fZ ?_ ?_
  ·refine mM (xs:=[]++l.take l.length++[n]) (ys:=l.drop l.length) (by rw[eo,aP,mw];omega) (by omega) ?_;decide
  (conv=>whnf)
  (repeat' first|refine st ?_|refine sa fun xe hxe=>?_|refine sb (fun hq=>?_) fun hq=>?_|exact aa)
  exact⟨rfl,rfl⟩
theorem Is {n:Nat}(h:n≤1000000):n≤2000000:=by omega
theorem pX (v:Vtx)(hl:v.parents.length≤2000000):ag Tryz.prog 86 [cY v] [] (cY v) []:=by
 refine ab aj Tryz.func86 rfl rfl true 0 4 rfl rfl rfl rfl fun K hK hb1 hb2=>?_;simp only[ae,enc,Nat.reduceAdd]
 clear hb1 hb2
 (repeat' first|refine st ?_|refine sa fun xe hxe=>?_|refine sb (fun hq=>?_) fun hq=>?_|exact aa)
 exact⟨rfl,rfl⟩
theorem B4 (g:List Vtx)(hl:g.length≤1000)(hv:∀v∈g,v.parents.length≤1000000):ag Tryz.prog 123 [.lst .vtx g] [] (.lst .vtx g) []:=by
 refine ab aj Tryz.func123 rfl rfl true 0 4 rfl rfl rfl rfl fun K hK hb1 hb2=>?_;simp only[ae,enc,Nat.reduceAdd]
 clear hb1 hb2
 (repeat' first|refine st ?_|refine sa fun xe hxe=>?_|refine sb (fun hq=>?_) fun hq=>?_|exact aa)
 refine ah hK [] [0,3,4] (fun i:Nat=>⟨[(0,.lst .vtx g),(3,.ref 4),(4,.int .i64 (i:Int))],[(4,.row 73 .vtx (g.take i))],5⟩) (fun i=>i≤g.length) (fun i=>g.length-i) 0 (by simp) rfl ?_
 intro i hi
 by_cases hlt:i<g.length
 ·have hxe:g[i]?=some g[i]:=am hlt
  have hsn:g.take (i+1)=g.take i++[g[i]]:=b8 hlt
  have hvl:=hv _ (bd hlt)
  have hll:(g.take i).length=i:=by rw[bP];omega
  generalize g[i]=v at *
  generalize g.take i=l at *
  (repeat' first|refine st ?_|refine sa fun xe hxe=>?_|refine sb (fun hq=>?_) fun hq=>?_|refine cr (pX _ (Is hvl)) ?_|exact aa)
  exact⟨i+1,by omega,by omega,by rw[hsn];rfl⟩
 ·(repeat' first|refine st ?_|refine sa fun xe hxe=>?_|refine sb (fun hq=>?_) fun hq=>?_|exact aa)
  rw[bp (by omega)]
  exact⟨rfl,rfl⟩
theorem KC {g:List Vtx}{r a:Int}(h:ed g r a=false):lB g r a<0:=by
 have:=zn g r a
 simpa[h] using this
theorem L5 (g:List Vtx)(v:Vtx)(hl:g.length≤400)(hv:∀u∈g,u.parents.length≤1000000)(hvp:v.parents.length≤1000000)(hr:-1000000<v.round∧v.round<1000000)(h1:ed g v.round v.author=false)(h2:parOK g v=true):ag Tryz.prog 84 [.lst .vtx g,cY v] [] (.tup [.lst .vtx (gC g v),.int .i64 0]) []:=by
 have hF:=px g v.round v.author
 have hF2:=KC h1
 have hP:=eQ g v hr
 rw[h2] at hP
 refine ab aj Tryz.func84 rfl rfl true 0 4 rfl rfl rfl rfl fun K hK hb1 hb2=>?_;simp only[ae,enc,Nat.reduceAdd]
 clear hb1 hb2
 generalize lB g v.round v.author=fi at *
 (repeat' first|refine st ?_|refine sa fun xe hxe=>?_|refine sb (fun hq=>?_) fun hq=>?_|refine cr (hF) ?_|refine cr (hP) ?_|exact aa)
 refine ah hK [] [0,3,7,8] (fun k:Nat=>⟨[(0,.lst .vtx g),(3,.ptr 4 0),(7,.ref 5),(8,.int .i64 (k:Int))],[(4,.var 73 (cY v).cells),(5,.row 73 .vtx (g.take k))],6⟩) (fun k=>k≤g.length∧∀y∈g.take k,bef y v=true) (fun k=>g.length-k) 0 ⟨by simp,by simp⟩ rfl ?_
 rintro k ⟨hk,hall⟩
 have hat:=Bs (g:=g) (v:=v) (k:=k) hall hk
 have hll:(g.take k).length=k:=by rw[bP];omega
 have e2:lM g (some (.int .i64 k)) none (k:Int).toNat g.length=g.drop k:=by simp[lM]
 have hdl:(g.drop k).length=g.length-k:=lw ..
 have hC:=B4 (g.drop k) (by omega) fun u hu=>hv u (List.mem_of_mem_drop hu)
 by_cases hlt:k<g.length
 ·have hxe:g[k]?=some g[k]:=am hlt
  have hsn:g.take (k+1)=g.take k++[g[k]]:=b8 hlt
  have hxl:=hv _ (bd hlt)
  generalize g[k]=x at *
  have hB:=nY x v
  cases hb:bef x v
  ·rw[hb] at hB
   have hat:=hat fun y hy=>by rw[hxe] at hy;obtain rfl:=ar hy;exact hb
   rw[hat]
   generalize g.take k=lt at *
   (repeat' first|refine st ?_|refine sa fun xe hxe=>?_|refine sb (fun hq=>?_) fun hq=>?_|refine cr (hB) ?_|refine cr (pX _ (Is hvp)) ?_|exact aa)
   have e3:lM g (some (.int .i64 (lt.length:Int))) none (lt.length:Int).toNat g.length=g.drop k:=by rw[hll];exact e2
   rw[e3]
   (repeat' first|refine st ?_|refine sa fun xe hxe=>?_|refine sb (fun hq=>?_) fun hq=>?_|refine cr (hC) ?_|exact aa)
   exact⟨rfl,rfl⟩
  ·rw[hb] at hB
   generalize hlt2:g.take k=lt at *
   (repeat' first|refine st ?_|refine sa fun xe hxe=>?_|refine sb (fun hq=>?_) fun hq=>?_|refine cr (hB) ?_|refine cr (pX _ (Is hxl)) ?_|exact aa)
   exact⟨k+1,⟨by omega,by rw[hsn];exact bL hall hb⟩,by omega,by rw[hsn];rfl⟩
 ·have hat:=hat fun y hy=>by rw[eg (by omega)] at hy;cases hy
  rw[hat]
  generalize g.take k=lt at *
  (repeat' first|refine st ?_|refine sa fun xe hxe=>?_|refine sb (fun hq=>?_) fun hq=>?_|refine cr (pX _ (Is hvp)) ?_|exact aa)
  have e3:lM g (some (.int .i64 (lt.length:Int))) none (lt.length:Int).toNat g.length=g.drop k:=by rw[hll];exact e2
  rw[e3]
  (repeat' first|refine st ?_|refine sa fun xe hxe=>?_|refine sb (fun hq=>?_) fun hq=>?_|refine cr (hC) ?_|exact aa)
  exact⟨rfl,rfl⟩
theorem Ai (w:Wrl)(m d:Int)(h:WOK w):ag Tryz.prog 35 [bc w,.int .i64 m,.int .i64 d] [] (bc (eH w m d)) []:=by
 have hG:=v8 w m
 have hD:=sg d
 have hN:=Jb w m (fun p hp=>(bG (h.pv p hp).1).1) (by have:=h.plen;omega)
 have hpl:=h.plen
 have hno:jx w m d=false→eH w m d=w:=fun h=>by simp[eH,h]
 refine ab aj Tryz.func35 rfl rfl true 0 4 rfl rfl rfl rfl fun K hK hb1 hb2=>?_;simp only[ae,enc,Nat.reduceAdd]
 clear hb1 hb2
 cases h1:good w m
 ·rw[h1] at hG
  rw[hno (by simp[jx,h1])]
  (repeat' first|refine st ?_|refine sa fun xe hxe=>?_|refine sb (fun hq=>?_) fun hq=>?_|refine cr (hG) ?_|exact aa)
  exact⟨rfl,rfl⟩
 rw[h1] at hG
 cases h2:jS d 0 990
 ·rw[h2] at hD
  rw[hno (by simp[jx,h2])]
  (repeat' first|refine st ?_|refine sa fun xe hxe=>?_|refine sb (fun hq=>?_) fun hq=>?_|refine cr (hG) ?_|refine cr (hD) ?_|exact aa)
  exact⟨rfl,rfl⟩
 rw[h2] at hD
 by_cases h3:w.props.length<220
 rotate_left
 ·rw[hno (by simp[jx,h3])]
  (repeat' first|refine st ?_|refine sa fun xe hxe=>?_|refine sb (fun hq=>?_) fun hq=>?_|refine cr (hG) ?_|refine cr (hD) ?_|exact aa)
  exact⟨rfl,rfl⟩
 obtain⟨hx,hvm,hml⟩:=h.view h1
 have hgo:=fT (h.gra _ hvm)
 have hvl:=h.vl _ hvm
 have hgr:=fb.1 h1
 have hvlen:=h.vlen
 have hH:=M7 w.com (view w m) hgo (by omega)
 have hhb:=om w.com (view w m) 31
 have hhb:-1≤iD w.com (view w m)∧iD w.com (view w m)<31:=hhb
 have hnb:=FA (ps:=w.props) (m:=m) fun p hp=>(bG (h.pv p hp).1).1
 have hB:jx w m d=(decide (lD w.props m≤(il w m d).round) && vtxS w.com (il w m d)):=by simp[jx,h1,h2,h3]
 by_cases h4:0<iD w.com (view w m)+1
 ·have hA:=yW (view w m) (iD w.com (view w m)+1-1) (by omega)
  have hv:il w m d=⟨iD w.com (view w m)+1,m,fq (view w m) (iD w.com (view w m)+1-1),d⟩:=by
   rw[il,if_pos h4,show iD w.com (view w m)+1-1=iD w.com (view w m) by omega]
  have hV:=nu w.com (il w m d) h.com
  rw[hv] at hV hB
  have hadd:jx w m d=true→eH w m d=tH w ⟨iD w.com (view w m)+1,m,fq (view w m) (iD w.com (view w m)+1-1),d⟩:=fun hb=>by simp only[eH,hb,if_true,hv]
  generalize fq (view w m) (iD w.com (view w m)+1-1)=au at *
  generalize iD w.com (view w m)=hh at *
  generalize view w m=g at *
  by_cases h5:lD w.props m≤hh+1
  rotate_left
  ·rw[hno (by rw[hB];simp[h5])]
   generalize lD w.props m=nn at *
   (repeat' first|refine st ?_|refine sa fun xe hxe=>?_|refine sb (fun hq=>?_) fun hq=>?_|refine cr (hG) ?_|refine cr (hD) ?_|refine cr (hH) ?_|refine cr (hA) ?_|refine cr (hN) ?_|refine cr (hV) ?_|exact aa)
   exact⟨rfl,rfl⟩
  cases h6:vtxS w.com ⟨hh+1,m,au,d⟩
  ·rw[h6] at hV
   rw[hno (by rw[hB,h6,lz])]
   generalize lD w.props m=nn at *
   (repeat' first|refine st ?_|refine sa fun xe hxe=>?_|refine sb (fun hq=>?_) fun hq=>?_|refine cr (hG) ?_|refine cr (hD) ?_|refine cr (hH) ?_|refine cr (hA) ?_|refine cr (hN) ?_|refine cr (hV) ?_|exact aa)
   exact⟨rfl,rfl⟩
  ·rw[h6] at hV
   rw[hadd (by rw[hB,h6];simpa using h5)]
   generalize lD w.props m=nn at *
   (repeat' first|refine st ?_|refine sa fun xe hxe=>?_|refine sb (fun hq=>?_) fun hq=>?_|refine cr (hG) ?_|refine cr (hD) ?_|refine cr (hH) ?_|refine cr (hA) ?_|refine cr (hN) ?_|refine cr (hV) ?_|exact aa)
   exact⟨rfl,rfl⟩
 ·have hv:il w m d=⟨iD w.com (view w m)+1,m,[],d⟩:=by rw[il,if_neg h4]
  have hV:=nu w.com (il w m d) h.com
  rw[hv] at hV hB
  have hadd:jx w m d=true→eH w m d=tH w ⟨iD w.com (view w m)+1,m,[],d⟩:=fun hb=>by simp only[eH,hb,if_true,hv]
  generalize iD w.com (view w m)=hh at *
  generalize view w m=g at *
  by_cases h5:lD w.props m≤hh+1
  rotate_left
  ·rw[hno (by rw[hB];simp[h5])]
   generalize lD w.props m=nn at *
   (repeat' first|refine st ?_|refine sa fun xe hxe=>?_|refine sb (fun hq=>?_) fun hq=>?_|refine cr (hG) ?_|refine cr (hD) ?_|refine cr (hH) ?_|refine cr (hN) ?_|refine cr (hV) ?_|exact aa)
   exact⟨rfl,rfl⟩
  cases h6:vtxS w.com ⟨hh+1,m,[],d⟩
  ·rw[h6] at hV
   rw[hno (by rw[hB,h6,lz])]
   generalize lD w.props m=nn at *
   (repeat' first|refine st ?_|refine sa fun xe hxe=>?_|refine sb (fun hq=>?_) fun hq=>?_|refine cr (hG) ?_|refine cr (hD) ?_|refine cr (hH) ?_|refine cr (hN) ?_|refine cr (hV) ?_|exact aa)
   exact⟨rfl,rfl⟩
  ·rw[h6] at hV
   rw[hadd (by rw[hB,h6];simpa using h5)]
   generalize lD w.props m=nn at *
   (repeat' first|refine st ?_|refine sa fun xe hxe=>?_|refine sb (fun hq=>?_) fun hq=>?_|refine cr (hG) ?_|refine cr (hD) ?_|refine cr (hH) ?_|refine cr (hN) ?_|refine cr (hV) ?_|exact aa)
   exact⟨rfl,rfl⟩
theorem Gj (w:Wrl)(i m:Int)(h:WOK w)(hi:rk w i=true):ag Tryz.prog 81 [bc w,.int .i64 i,.int .i64 m] [] (bc (md w i m)) []:=by
 obtain⟨hl,hx,hp⟩:=li hi
 have hpl:=h.plen
 have hir:=aC.1 hi
 have hI:=Me (aV w i).members m (by have:=h.mem _ hp;omega)
 have hs:md w i m={w with props:=w.props.set i.toNat ⟨(aV w i).v,fV (aV w i).members m⟩}:=rfl
 rw[hs]
 refine ab aj Tryz.func81 rfl rfl true 0 4 rfl rfl rfl rfl fun K hK hb1 hb2=>?_;simp only[ae,enc,Nat.reduceAdd]
 clear hb1 hb2
 generalize aV w i=p at *
 generalize fV p.members m=ms at *
 (repeat' first|refine st ?_|refine sa fun xe hxe=>?_|refine sb (fun hq=>?_) fun hq=>?_|exact aa)
 obtain rfl:xe=p:=ar (hxe.symm.trans hx)
 (repeat' first|refine st ?_|refine sa fun xe hxe=>?_|refine sb (fun hq=>?_) fun hq=>?_|refine cr (hI) ?_|exact aa)
 exact⟨rfl,rfl⟩
theorem Aq (w:Wrl)(m i:Int)(h:WOK w):ag Tryz.prog 36 [bc w,.int .i64 m,.int .i64 i] [] (bc (eR w m i)) []:=by
 have hG:=v8 w m
 have hI:=nh i 0 ((w.props.length:Int)-1)
 have hpl:=h.plen
 have hno:jy w m i=false→eR w m i=w:=fun h=>by simp[eR,h]
 refine ab aj Tryz.func36 rfl rfl true 0 4 rfl rfl rfl rfl fun K hK hb1 hb2=>?_;simp only[ae,enc,Nat.reduceAdd]
 clear hb1 hb2
 cases h1:good w m
 ·rw[h1] at hG
  rw[hno (by simp[jy,h1])]
  (repeat' first|refine st ?_|refine sa fun xe hxe=>?_|refine sb (fun hq=>?_) fun hq=>?_|refine cr (hG) ?_|exact aa)
  exact⟨rfl,rfl⟩
 rw[h1] at hG
 cases h2:jS i 0 ((w.props.length:Int)-1)
 ·rw[h2] at hI
  rw[hno (by simp[jy,rk,h2])]
  (repeat' first|refine st ?_|refine sa fun xe hxe=>?_|refine sb (fun hq=>?_) fun hq=>?_|refine cr (hG) ?_|refine cr (hI) ?_|exact aa)
  exact⟨rfl,rfl⟩
 rw[h2] at hI
 have h2':rk w i=true:=h2
 obtain⟨hl,hx,hp⟩:=li h2'
 have hir:=aC.1 h2
 have hvx:=h.pv _ hp
 have hrd:=rL hvx.1
 obtain⟨hgx,hvm,hml⟩:=h.view h1
 have hgr:=fb.1 h1
 have hvlen:=h.vlen
 have hB:jy w m i=(!Hs w m i && parOK (view w m) (aV w i).v):=by simp[jy,h1,h2']
 have hP:=eQ (view w m) (aV w i).v hrd
 have hC:=Gj w i m h h2'
 have hyes:jy w m i=true→eR w m i=md w i m:=fun h=>by simp[eR,h]
 have hdbl:Hs w m i=(List.range w.props.length).any fun j=>(j:Int) !=i && (slt (w.props.getD j p0).v (aV w i).v && (w.props.getD j p0).members.contains m):=rfl
 generalize aV w i=p at *
 (repeat' first|refine st ?_|refine sa fun xe hxe=>?_|refine sb (fun hq=>?_) fun hq=>?_|refine cr (hG) ?_|refine cr (hI) ?_|exact aa)
 refine ah hK [] [1,2,3,6,7,8] (fun j:Nat=>⟨[(1,.int .i64 m),(2,.int .i64 i),(3,.ptr 4 0),(6,.ptr 5 0),(7,.ptr 6 0),(8,.int .i64 (j:Int))],[(4,.var 36 (bc w).cells),(5,.var 36 [.nils,.nils,.int .i64 0,.nils,.nils]),(6,.var 73 (cY p.v).cells)],7⟩)
  (fun j=>j≤w.props.length∧∀k,k<j→((k:Int) !=i && (slt (w.props.getD k p0).v p.v && (w.props.getD k p0).members.contains m))=false) (fun j=>w.props.length-j) 0 ⟨by simp,by simp⟩ rfl ?_
 rintro j ⟨hj,hall⟩
 by_cases hlt:j<w.props.length
 ·have hxq:w.props[j]?=some (w.props.getD j p0):=by rw[aq,am hlt];rfl
  have hqm:w.props.getD j p0∈w.props:=fv hlt
  have hyes2:((j:Int) !=i && (slt (w.props.getD j p0).v p.v && (w.props.getD j p0).members.contains m))=true→Hs w m i=true:=fun hh=>by rw[hdbl];exact fJ.2 ⟨j,eM.2 hlt,hh⟩
  have hno2:((j:Int) !=i && (slt (w.props.getD j p0).v p.v && (w.props.getD j p0).members.contains m))=false→∀k,k<j+1→((k:Int) !=i && (slt (w.props.getD k p0).v p.v && (w.props.getD k p0).members.contains m))=false:=fun hh k hk=>by
   rcases cG k j with h5|h5
   ·exact hall k h5
   ·obtain rfl:k=j:=by omega
    exact hh
  generalize w.props.getD j p0=q at *
  have hS:=Gz q.v p.v
  have hH:=Bl q.members m
  by_cases h3:(j:Int)=i
  ·(repeat' first|refine st ?_|refine sa fun xe hxe=>?_|refine sb (fun hq=>?_) fun hq=>?_|refine cr (hS) ?_|refine cr (hH) ?_|exact aa)
   exact⟨j+1,⟨by omega,hno2 (by simp[h3])⟩,by omega,rfl⟩
  cases h4:slt q.v p.v
  ·rw[h4] at hS
   (repeat' first|refine st ?_|refine sa fun xe hxe=>?_|refine sb (fun hq=>?_) fun hq=>?_|refine cr (hS) ?_|refine cr (hH) ?_|exact aa)
   exact⟨j+1,⟨by omega,hno2 (by simp[h4])⟩,by omega,rfl⟩
  rw[h4] at hS
  cases h5:q.members.contains m
  ·rw[h5] at hH
   (repeat' first|refine st ?_|refine sa fun xe hxe=>?_|refine sb (fun hq=>?_) fun hq=>?_|refine cr (hS) ?_|refine cr (hH) ?_|exact aa)
   exact⟨j+1,⟨by omega,hno2 (by rw[h5,lz,lz])⟩,by omega,rfl⟩
  ·rw[h5] at hH
   rw[hno (by rw[hB,hyes2 (by rw[h4,h5];simpa using h3)];rfl)]
   (repeat' first|refine st ?_|refine sa fun xe hxe=>?_|refine sb (fun hq=>?_) fun hq=>?_|refine cr (hS) ?_|refine cr (hH) ?_|exact aa)
   exact⟨rfl,rfl⟩
 ·have hnd:Hs w m i=false:=by
   rw[hdbl,ck]
   intro hh
   obtain⟨k,hk,hh⟩:=fJ.1 hh
   rw[hall k (by have:=eM.1 hk;omega)] at hh
   cases hh
  rw[hnd] at hB
  generalize view w m=g at *
  cases h6:parOK g p.v
  ·rw[h6] at hP hB
   rw[hno hB]
   (repeat' first|refine st ?_|refine sa fun xe hxe=>?_|refine sb (fun hq=>?_) fun hq=>?_|refine cr (hP) ?_|exact aa)
   exact⟨rfl,rfl⟩
  ·rw[h6] at hP hB
   rw[hyes hB]
   (repeat' first|refine st ?_|refine sa fun xe hxe=>?_|refine sb (fun hq=>?_) fun hq=>?_|refine cr (hP) ?_|refine cr (hC) ?_|exact aa)
   exact⟨rfl,rfl⟩
theorem Ad (w:Wrl)(m i:Int)(h:WOK w):ag Tryz.prog 37 [bc w,.int .i64 m,.int .i64 i] [] (bc (dB w m i)) []:=by
 have hG:=v8 w m
 have hI:=nh i 0 ((w.props.length:Int)-1)
 have hpl:=h.plen
 have hno:fa w m i=false→dB w m i=w:=fun h=>by simp[dB,h]
 refine ab aj Tryz.func37 rfl rfl true 0 4 rfl rfl rfl rfl fun K hK hb1 hb2=>?_;simp only[ae,enc,Nat.reduceAdd]
 clear hb1 hb2
 cases h1:good w m
 ·rw[h1] at hG
  rw[hno (by simp[fa,h1])]
  (repeat' first|refine st ?_|refine sa fun xe hxe=>?_|refine sb (fun hq=>?_) fun hq=>?_|refine cr (hG) ?_|exact aa)
  exact⟨rfl,rfl⟩
 rw[h1] at hG
 cases h2:jS i 0 ((w.props.length:Int)-1)
 ·rw[h2] at hI
  rw[hno (by simp[fa,rk,h2])]
  (repeat' first|refine st ?_|refine sa fun xe hxe=>?_|refine sb (fun hq=>?_) fun hq=>?_|refine cr (hG) ?_|refine cr (hI) ?_|exact aa)
  exact⟨rfl,rfl⟩
 rw[h2] at hI
 have h2':rk w i=true:=h2
 obtain⟨hl,hx,hp⟩:=li h2'
 have hir:=aC.1 h2
 have hvx:=h.pv _ hp
 have hrd:=rL hvx.1
 obtain⟨hgx,hvm,hml⟩:=h.view h1
 have hgr:=fb.1 h1
 have hvlen:=h.vlen
 have h7:=h.len
 have hDn:=B5 w (aV w i) h.com hvx.2
 have hB:fa w m i=(don w.com (aV w i) && (!ed (view w m) (aV w i).v.round (aV w i).v.author && parOK (view w m) (aV w i).v)):=by simp[fa,h1,h2']
 have hyes:fa w m i=true→dB w m i={w with views:=w.views.set m.toNat (gC (view w m) (aV w i).v)}:=fun h=>by simp[dB,h]
 have hF:=px (view w m) (aV w i).v.round (aV w i).v.author
 have hFl:=zn (view w m) (aV w i).v.round (aV w i).v.author
 have hP:=eQ (view w m) (aV w i).v hrd
 have hAd:=L5 (view w m) (aV w i).v (by have:=h.vl _ hvm;omega) (fun u hu=>by have:=h.par (h.vv _ hvm u hu);omega) (by have:=h.par hvx.1;omega) hrd
 cases h3:don w.com (aV w i)
 ·rw[h3] at hDn
  rw[hno (by rw[hB,h3];rfl)]
  generalize aV w i=p at *
  (repeat' first|refine st ?_|refine sa fun xe hxe=>?_|refine sb (fun hq=>?_) fun hq=>?_|refine cr (hG) ?_|refine cr (hI) ?_|refine cr (hDn) ?_|exact aa)
  exact⟨rfl,rfl⟩
 rw[h3] at hDn
 generalize aV w i=p at *
 generalize view w m=g at *
 cases h4:ed g p.v.round p.v.author
 rotate_left
 ·have hFl:¬lB g p.v.round p.v.author<0:=by simpa[h4] using hFl
  rw[hno (by rw[hB,h3,h4];rfl)]
  generalize lB g p.v.round p.v.author=fi at *
  (repeat' first|refine st ?_|refine sa fun xe hxe=>?_|refine sb (fun hq=>?_) fun hq=>?_|refine cr (hG) ?_|refine cr (hI) ?_|refine cr (hDn) ?_|refine cr (hF) ?_|exact aa)
  exact⟨rfl,rfl⟩
 have hFl:lB g p.v.round p.v.author<0:=by simpa[h4] using hFl
 generalize lB g p.v.round p.v.author=fi at *
 cases h5:parOK g p.v
 ·rw[h5] at hP
  rw[hno (by rw[hB,h3,h4,h5];rfl)]
  (repeat' first|refine st ?_|refine sa fun xe hxe=>?_|refine sb (fun hq=>?_) fun hq=>?_|refine cr (hG) ?_|refine cr (hI) ?_|refine cr (hDn) ?_|refine cr (hF) ?_|refine cr (hP) ?_|exact aa)
  exact⟨rfl,rfl⟩
 rw[h5] at hP
 rw[hyes (by rw[hB,h3,h4,h5];rfl)]
 have hAd:=hAd h4 h5
 generalize gC g p.v=g2 at *
 (repeat' first|refine st ?_|refine sa fun xe hxe=>?_|refine sb (fun hq=>?_) fun hq=>?_|refine cr (hG) ?_|refine cr (hI) ?_|refine cr (hDn) ?_|refine cr (hF) ?_|refine cr (hP) ?_|refine cr (hAd) ?_|exact aa)
 exact⟨rfl,rfl⟩
theorem Gs (w:Wrl)(v:Vtx)(h:WOK w)(hvl:v.parents.length≤2000000):ag Tryz.prog 38 [bc w,cY v] [] (bc (iH w v)) []:=by
 have hpl:=h.plen
 have hno:jw w v=false→iH w v=w:=fun h=>by simp[iH,h]
 have hyes:jw w v=true→iH w v=tH w v:=fun h=>by simp[iH,h]
 have hV:=nu w.com v h.com
 refine ab aj Tryz.func38 rfl rfl true 0 4 rfl rfl rfl rfl fun K hK hb1 hb2=>?_;simp only[ae,enc,Nat.reduceAdd]
 clear hb1 hb2
 by_cases h1:w.bad<0
 ·rw[hno (by simp[jw];intro h9;omega)]
  (repeat' first|refine st ?_|refine sa fun xe hxe=>?_|refine sb (fun hq=>?_) fun hq=>?_|refine cr (hV) ?_|exact aa)
  exact⟨rfl,rfl⟩
 by_cases h2:v.author=w.bad
 rotate_left
 ·rw[hno (by simp[jw,h2])]
  (repeat' first|refine st ?_|refine sa fun xe hxe=>?_|refine sb (fun hq=>?_) fun hq=>?_|refine cr (hV) ?_|exact aa)
  exact⟨rfl,rfl⟩
 cases h3:vtxS w.com v
 ·rw[h3] at hV
  rw[hno (by simp[jw,h3])]
  (repeat' first|refine st ?_|refine sa fun xe hxe=>?_|refine sb (fun hq=>?_) fun hq=>?_|refine cr (hV) ?_|exact aa)
  exact⟨rfl,rfl⟩
 rw[h3] at hV
 by_cases h4:w.props.length<220
 rotate_left
 ·rw[hno (by simp[jw,h4])]
  (repeat' first|refine st ?_|refine sa fun xe hxe=>?_|refine sb (fun hq=>?_) fun hq=>?_|refine cr (hV) ?_|exact aa)
  exact⟨rfl,rfl⟩
 have hB:jw w v= !w.props.any fun p=>kR p.v v:=by
  have:(0:Int)≤w.bad:=by omega
  simp[jw,this,h2,h3,h4]
 (repeat' first|refine st ?_|refine sa fun xe hxe=>?_|refine sb (fun hq=>?_) fun hq=>?_|refine cr (hV) ?_|exact aa)
 refine ah hK [] [2,3,4,5] (fun j:Nat=>⟨[(2,.ptr 4 0),(3,.ptr 5 0),(4,.ptr 6 0),(5,.int .i64 (j:Int))],[(4,.var 36 (bc w).cells),(5,.var 73 (cY v).cells),(6,.var 36 [.nils,.nils,.int .i64 0,.nils,.nils])],7⟩)
  (fun j=>j≤w.props.length∧∀p∈w.props.take j,kR p.v v=false) (fun j=>w.props.length-j) 0 ⟨by simp,by simp⟩ rfl ?_
 rintro j ⟨hj,hall⟩
 by_cases hlt:j<w.props.length
 ·have hxq:w.props[j]?=some w.props[j]:=am hlt
  have hsn:w.props.take (j+1)=w.props.take j++[w.props[j]]:=b8 hlt
  have hqm:w.props[j]∈w.props:=bd hlt
  generalize w.props[j]=q at *
  have hS:=Ab q.v v
  cases h5:kR q.v v
  ·rw[h5] at hS
   (repeat' first|refine st ?_|refine sa fun xe hxe=>?_|refine sb (fun hq=>?_) fun hq=>?_|refine cr (hS) ?_|exact aa)
   exact⟨j+1,⟨by omega,by rw[hsn];exact bL hall h5⟩,by omega,rfl⟩
  ·rw[h5] at hS
   have:(w.props.any fun p=>kR p.v v)=true:=fJ.2 ⟨q,hqm,h5⟩
   rw[hno (by rw[hB,this];rfl)]
   (repeat' first|refine st ?_|refine sa fun xe hxe=>?_|refine sb (fun hq=>?_) fun hq=>?_|refine cr (hS) ?_|exact aa)
   exact⟨rfl,rfl⟩
 ·rw[bp (by omega)] at hall
  have:(w.props.any fun p=>kR p.v v)=false:=by
   rw[ck]
   intro hh
   obtain⟨p,hp,hh⟩:=fJ.1 hh
   rw[hall p hp] at hh
   cases hh
  rw[hyes (by rw[hB,this];rfl)]
  (repeat' first|refine st ?_|refine sa fun xe hxe=>?_|refine sb (fun hq=>?_) fun hq=>?_|refine cr (pX _ hvl) ?_|exact aa)
  exact⟨rfl,rfl⟩
abbrev tM (e:Evt):V:=.agg [.int .i64 e.kind,.int .i64 e.a,.int .i64 e.b,.int .i64 e.v.round,.int .i64 e.v.author,.lst (.int .i64) e.v.parents,.int .i64 e.v.digest]
theorem NB (w:Wrl)(e:Evt)(h:WOK w)(hvl:e.v.parents.length≤2000000):ag Tryz.prog 40 [bc w,tM e] [] (bc (jt w e)) []:=by
 have hpl:=h.plen
 have h1:=Ai w e.a e.b h
 have h2:=Aq w e.a e.b h
 have h3:=Ad w e.a e.b h
 have h4:=Gs w e.v h hvl
 have hI:=nh e.b 0 ((w.props.length:Int)-1)
 refine ab aj Tryz.func40 rfl rfl true 0 4 rfl rfl rfl rfl fun K hK hb1 hb2=>?_;simp only[ae,enc,Nat.reduceAdd]
 clear hb1 hb2
 unfold jt
 by_cases k1:e.kind=1
 ·rw[if_pos k1]
  generalize eH w e.a e.b=w' at *
  (repeat' first|refine st ?_|refine sa fun xe hxe=>?_|refine sb (fun hq=>?_) fun hq=>?_|refine cr (h1) ?_|exact aa)
  exact⟨rfl,rfl⟩
 by_cases k2:e.kind=2
 ·rw[if_neg k1,if_pos k2]
  generalize eR w e.a e.b=w' at *
  (repeat' first|refine st ?_|refine sa fun xe hxe=>?_|refine sb (fun hq=>?_) fun hq=>?_|refine cr (h2) ?_|exact aa)
  exact⟨rfl,rfl⟩
 by_cases k3:e.kind=3
 ·rw[if_neg k1,if_neg k2,if_pos k3]
  generalize dB w e.a e.b=w' at *
  (repeat' first|refine st ?_|refine sa fun xe hxe=>?_|refine sb (fun hq=>?_) fun hq=>?_|refine cr (h3) ?_|exact aa)
  exact⟨rfl,rfl⟩
 by_cases k4:e.kind=4
 ·rw[if_neg k1,if_neg k2,if_neg k3,if_pos k4]
  generalize iH w e.v=w' at *
  (repeat' first|refine st ?_|refine sa fun xe hxe=>?_|refine sb (fun hq=>?_) fun hq=>?_|refine cr (h4) ?_|exact aa)
  exact⟨rfl,rfl⟩
 by_cases k5:e.kind=5
 ·rw[if_neg k1,if_neg k2,if_neg k3,if_neg k4,if_pos k5]
  by_cases h6:0≤w.bad
  ·cases h7:jS e.b 0 ((w.props.length:Int)-1)
   ·rw[h7] at hI
    have:iG w e.b=w:=by simp[iG,lK,rk,h7]
    rw[this]
    (repeat' first|refine st ?_|refine sa fun xe hxe=>?_|refine sb (fun hq=>?_) fun hq=>?_|refine cr (hI) ?_|exact aa)
    exact⟨rfl,rfl⟩
   ·rw[h7] at hI
    have h7':rk w e.b=true:=h7
    have:iG w e.b=md w e.b w.bad:=by simp[iG,lK,h7',h6]
    rw[this]
    have h5:=Gj w e.b w.bad h h7'
    generalize md w e.b w.bad=w' at *
    (repeat' first|refine st ?_|refine sa fun xe hxe=>?_|refine sb (fun hq=>?_) fun hq=>?_|refine cr (hI) ?_|refine cr (h5) ?_|exact aa)
    exact⟨rfl,rfl⟩
  ·have:iG w e.b=w:=by simp[iG,lK,h6]
   rw[this]
   (repeat' first|refine st ?_|refine sa fun xe hxe=>?_|refine sb (fun hq=>?_) fun hq=>?_|refine cr (hI) ?_|exact aa)
   exact⟨rfl,rfl⟩
 ·rw[if_neg k1,if_neg k2,if_neg k3,if_neg k4,if_neg k5]
  (repeat' first|refine st ?_|refine sa fun xe hxe=>?_|refine sb (fun hq=>?_) fun hq=>?_|exact aa)
  exact⟨rfl,rfl⟩

end Go.Proofs.YtpefhoohfkeflacGreatDoor.Am
