/- Runs while events are applied: what a member proposes. Runs while events are applied: votes, deliveries, what the faulty member does. Runs while events are applied: deliveries, what the faulty member does. The lock of a run, under the numbers of this program. The plain machine: the lock of one goroutine; a function that defers its Unlock. Runs: what the specification's functions of events give. Runs: what the specification's functions of events give, put together. -/
import Derived.Conc.MuLone
import Derived.Defers
import Derived.Test.YtpefhoohfkeflabGreatDoorEB8
set_option linter.unusedSimpArgs false
set_option linter.unusedVariables false
set_option maxHeartbeats 1000000
namespace Go.Proofs.YtpefhoohfkeflabGreatDoor.Am
open Go
attribute [local irreducible] Mk ci Ari fF mI jx ca cR iW fv At ag
set_option maxRecDepth 10000
abbrev rW (s:Int)(w:Wrl)(xss:List (Option (List Int)))(ms:List PplM):VH:=rX s w.com w.lead w.bad (w.views.map aT) xss ms
abbrev Oc (s:Int)(w:Wrl)(xss:List (Option (List Int)))(ms:List PplM):VH:=NM s w.com w.lead w.bad (w.views.map aT) xss ms
theorem kS {w:Wrl}(hw:WOK w){m:Int}(hm:0≤m∧m<w.com.length):(w.views.map aT)[m.toNat]?=some (aT (view w m))∧GraOK w.com (view w m):=by
 have hl:=hw.vlen
 have h:w.views[m.toNat]?=some (view w m):=by
  unfold view
  rw[ar,am (by omega)]
  rfl
 exact⟨by rw[bf,h];rfl,fX (hw.gra _ (br h))⟩
theorem E3 {n:Nat}{m:Int}(hm:0≤m∧m<n):((List.range n).map some)[m.toNat]?=some (some m.toNat):=by
 rw[bf,qo (by omega)]
 rfl
theorem I1 {w:Wrl}{m d:Int}(h1:good w m=true)(h2:lJ w.props m≤(ir w m d).round):jH w m d=(vtxS w.com (ir w m d) && decide (w.props.length<220)):=by
 have hd:vtxS w.com (ir w m d)=true→jV d 0 990=true:=fun h=>aC.2 (bG h).2.2.2.1
 unfold jH
 rw[h1,decide_eq_true h2]
 cases h:vtxS w.com (ir w m d)
 ·simp
 ·rw[hd h]
  simp
theorem I2 {w:Wrl}{m d:Int}{p:Ppl}(hp:p∈w.props)(h1:p.v.author=m)(h2:(ir w m d).round≤p.v.round):jH w m d=false:=by
 have:=FL p hp h1
 unfold jH
 rw[decide_eq_false (p:=lJ w.props m≤(ir w m d).round) (by omega)]
 simp
theorem L9 {w:Wrl}{m d:Int}(h:iJ w.com (view w m)<0):ir w m d=⟨0,m,[],d⟩:=by
 have:=(oy w.com (view w m) 31).1
 have:iJ w.com (view w m)= -1:=by unfold iJ at *;omega
 unfold ir
 rw[this]
 rfl
theorem Ma {w:Wrl}{m d:Int}(h:0≤iJ w.com (view w m)):ir w m d=⟨iJ w.com (view w m)+1,m,fx (view w m) (iJ w.com (view w m)),d⟩:=by
 unfold ir
 rw[if_pos (by omega)]
theorem zD (E:TypeId)(t:Ty)(xs ys:List (Option (List t.den))):bA (VB.frowx E t xs)≤bA (VB.frowx E t (xs++ys)):=by
 show xs.length≤(xs++ys).length
 simp
set_option maxHeartbeats 1000000 in
theorem Fo (s:Int)(w:Wrl)(xss:List (Option (List Int)))(ms:List PplM)(hw:WOK w)(hR:Rel w.props xss ms)(m d:Int):ag Tryz.prog 171 [.ptr 4 0,.int .i64 m,.int .i64 d] (rW s w xss ms) (.bool (jH w m d)) (if jH w m d then Oc s w (xss++[some []]) (ms++[⟨ir w m d,some xss.length⟩]) else rW s w xss ms):=by
 refine ab bS Tryz.func171 rfl rfl false 3 7 rfl rfl rfl rfl fun K hK hb1 hb2=>?_;simp only[ae,enc,Nat.reduceAdd]
 clear hb1 hb2
 have hC:=zM s w.com w.lead w.bad (w.views.map aT) xss ms m
 have hpl:=hw.plen
 have hml:=hR.len
 rw[show (du w.com m && m !=w.bad)=good w m from rfl] at hC
 cases hg:good w m
 ·have hF:jH w m d=false:=by unfold jH;rw[hg];rfl
  rw[hg] at hC
  (repeat' first|refine cg ?_|refine sa fun xe hxe=>?_|refine sb (fun hq=>?_) fun hq=>?_|refine cr (hC) ?_|exact aa)
  rw[hF]
  exact⟨rfl,rfl⟩
 ·rw[hg] at hC
  obtain⟨hm,-⟩:=fg.1 hg
  obtain⟨hk,hG⟩:=kS hw hm
  have hvl:(w.views.map aT).length=w.com.length:=by rw[aA,hw.vlen]
  have hc:=hw.com
  have h7:=(ay.1 hc).2
  have hxv:=E3 (n:=(w.views.map aT).length) (m:=m) (by rw[hvl];exact hm)
  have hrl:((List.range (w.views.map aT).length).map some).length=w.com.length:=by simp[hvl,hw.vlen]
  have hno:=fun p hp=>I2 (w:=w) (m:=m) (d:=d) (p:=p) hp
  have heq:=I1 (w:=w) (m:=m) (d:=d) hg
  have hH:=Nu s w.com w.lead w.bad (w.views.map aT) xss ms m.toNat (view w m) hG hk
  have hlt31:=oy w.com (view w m) 31
  have hT:=fun r h0 h1=>J1 (w.views.map aT) m.toNat _ r hk (d6 _) ⟨h0,h1⟩
  have hTe:=fun(r:Nat) (hr:r≤30)=>wX hG hr
  have hAm:=pu hG
  rw[show kw w.com (view w m) 31=iJ w.com (view w m) from rfl] at hlt31
  rcases Int.lt_or_le (iJ w.com (view w m)) 0 with hh|hh
  ·rw[L9 hh] at hno heq⊢
   (repeat' first|refine cg ?_|refine sa fun xe hxe=>?_|refine sb (fun hq=>?_) fun hq=>?_|refine cr (hC) ?_|refine cr (hH) ?_|exact aa)
   refine ah hK [] [0,1,7,45,46,47] (fun i:Nat=>⟨[(0,.ptr 4 0),(1,.int .i64 m),(7,.ptr 7 0),(45,.ref 6),(46,.int .i64 ms.length),(47,.int .i64 (i:Int))],rW s w xss ms++[(7,VB.var 73 [.int .i64 0,.int .i64 m,.nils,.int .i64 d])],8⟩) (fun i=>i≤w.props.length∧∀p∈w.props.take i,¬(p.v.author=m∧0≤p.v.round)) (fun i=>w.props.length-i) 0 (by simp) (by(conv=>whnf);rfl) ?_
   rintro i ⟨hi,hall⟩
   by_cases hlt:i<w.props.length
   ·have hxe:w.props[i]?=some w.props[i]:=am hlt
    have hsn:w.props.take (i+1)=w.props.take i++[w.props[i]]:=b9 hlt
    obtain⟨j,hj1,hj2⟩:=hR.get i _ hxe
    have hno:=hno _ (be hlt)
    generalize w.props[i]=p at *
    by_cases c1:p.v.author=m
    ·by_cases c2:0≤p.v.round
     ·have hF:=hno c1 c2
      (repeat' first|refine cg ?_|refine sa fun xe hxe=>?_|refine sb (fun hq=>?_) fun hq=>?_|exact aa)
      rw[hF]
      exact⟨rfl,rfl⟩
     ·(repeat' first|refine cg ?_|refine sa fun xe hxe=>?_|refine sb (fun hq=>?_) fun hq=>?_|exact aa)
      exact⟨i+1,⟨by omega,by rw[hsn];exact bL hall fun h=>c2 h.2⟩,by omega,rfl⟩
    ·(repeat' first|refine cg ?_|refine sa fun xe hxe=>?_|refine sb (fun hq=>?_) fun hq=>?_|exact aa)
     exact⟨i+1,⟨by omega,by rw[hsn];exact bL hall fun h=>c1 h.1⟩,by omega,rfl⟩
   ·rw[bp (by omega)] at hall
    have heq:=heq (FM (by show (0:Int)≤0;omega) fun p hp ha=>by
     have:=hall p hp
     show p.v.round+1≤0
     omega)
    cases hv:(vtxS w.com ⟨0,m,[],d⟩ && decide (w.props.length<220))
    ·rw[hv] at heq
     have hN:=zK s w.com w.lead w.bad (w.views.map aT) xss ms ⟨0,m,[],d⟩ hc (by rw[hml];exact hv) (by omega)
     (repeat' first|refine cg ?_|refine sa fun xe hxe=>?_|refine sb (fun hq=>?_) fun hq=>?_|refine cr (hN) ?_|exact aa)
     rw[heq]
     exact⟨rfl,rfl⟩
    ·rw[hv] at heq
     simp only[az,decide_eq_true_eq] at hv
     have hY:=zL s w.com w.lead w.bad (w.views.map aT) xss ms ⟨0,m,[],d⟩ hc hv.1 (by omega)
     (repeat' first|refine cg ?_|refine sa fun xe hxe=>?_|refine sb (fun hq=>?_) fun hq=>?_|refine cr (hY) ?_|exact aa)
     refine gd (zD _ _ _ _) ?_
     (conv=>whnf)
     (repeat' first|refine cg ?_|refine sa fun xe hxe=>?_|refine sb (fun hq=>?_) fun hq=>?_|refine cr (hY) ?_|exact aa)
     rw[heq]
     exact⟨rfl,rfl⟩
  ·rw[Ma hh] at hno heq⊢
   have hT:=hT (iJ w.com (view w m)) hh (by omega)
   rw[hTe (iJ w.com (view w m)).toNat (by omega),show (((iJ w.com (view w m)).toNat:Nat):Int)=iJ w.com (view w m) by omega] at hT
   have hal:=eF (hAm (iJ w.com (view w m)))
   (repeat' first|refine cg ?_|refine sa fun xe hxe=>?_|refine sb (fun hq=>?_) fun hq=>?_|refine cr (hC) ?_|refine cr (hH) ?_|refine co (hT) ?_|exact aa)
   refine ah hK [] [0,1,7,45,46,47] (fun i:Nat=>⟨[(0,.ptr 4 0),(1,.int .i64 m),(7,.ptr 7 0),(45,.ref 6),(46,.int .i64 ms.length),(47,.int .i64 (i:Int))],rW s w xss ms++[(7,VB.var 73 [.int .i64 (iJ w.com (view w m)+1),.int .i64 m,.ref 8,.int .i64 d]),(8,VB.row 3 (.int .i64) (fx (view w m) (iJ w.com (view w m))))],9⟩) (fun i=>i≤w.props.length∧∀p∈w.props.take i,¬(p.v.author=m∧(iJ w.com (view w m)+1)≤p.v.round)) (fun i=>w.props.length-i) 0 (by simp) (by(conv=>whnf);rfl) ?_
   rintro i ⟨hi,hall⟩
   by_cases hlt:i<w.props.length
   ·have hxe:w.props[i]?=some w.props[i]:=am hlt
    have hsn:w.props.take (i+1)=w.props.take i++[w.props[i]]:=b9 hlt
    obtain⟨j,hj1,hj2⟩:=hR.get i _ hxe
    have hno:=hno _ (be hlt)
    generalize w.props[i]=p at *
    by_cases c1:p.v.author=m
    ·by_cases c2:(iJ w.com (view w m)+1)≤p.v.round
     ·have hF:=hno c1 c2
      (repeat' first|refine cg ?_|refine sa fun xe hxe=>?_|refine sb (fun hq=>?_) fun hq=>?_|exact aa)
      rw[hF]
      exact⟨rfl,rfl⟩
     ·(repeat' first|refine cg ?_|refine sa fun xe hxe=>?_|refine sb (fun hq=>?_) fun hq=>?_|exact aa)
      exact⟨i+1,⟨by omega,by rw[hsn];exact bL hall fun h=>c2 h.2⟩,by omega,rfl⟩
    ·(repeat' first|refine cg ?_|refine sa fun xe hxe=>?_|refine sb (fun hq=>?_) fun hq=>?_|exact aa)
     exact⟨i+1,⟨by omega,by rw[hsn];exact bL hall fun h=>c1 h.1⟩,by omega,rfl⟩
   ·rw[bp (by omega)] at hall
    have heq:=heq (FM (by show (0:Int)≤(iJ w.com (view w m)+1);omega) fun p hp ha=>by
     have:=hall p hp
     show p.v.round+1≤(iJ w.com (view w m)+1)
     omega)
    cases hv:(vtxS w.com ⟨(iJ w.com (view w m)+1),m,fx (view w m) (iJ w.com (view w m)),d⟩ && decide (w.props.length<220))
    ·rw[hv] at heq
     have hN:=zK s w.com w.lead w.bad (w.views.map aT) xss ms ⟨(iJ w.com (view w m)+1),m,fx (view w m) (iJ w.com (view w m)),d⟩ hc (by rw[hml];exact hv) (by omega)
     (repeat' first|refine cg ?_|refine sa fun xe hxe=>?_|refine sb (fun hq=>?_) fun hq=>?_|refine cr (hN) ?_|exact aa)
     rw[heq]
     exact⟨rfl,rfl⟩
    ·rw[hv] at heq
     simp only[az,decide_eq_true_eq] at hv
     have hY:=zL s w.com w.lead w.bad (w.views.map aT) xss ms ⟨(iJ w.com (view w m)+1),m,fx (view w m) (iJ w.com (view w m)),d⟩ hc hv.1 (by omega)
     (repeat' first|refine cg ?_|refine sa fun xe hxe=>?_|refine sb (fun hq=>?_) fun hq=>?_|refine cr (hY) ?_|exact aa)
     refine gd (zD _ _ _ _) ?_
     (conv=>whnf)
     (repeat' first|refine cg ?_|refine sa fun xe hxe=>?_|refine sb (fun hq=>?_) fun hq=>?_|refine cr (hY) ?_|exact aa)
     rw[heq]
     exact⟨rfl,rfl⟩
theorem EE {E:TypeId}{t:Ty}{xs:List (Option (List t.den))}{j:Nat}{o:Option (List t.den)}{ys:List (Option (List t.den))}:bA (VB.frowx E t xs)≤bA (VB.frowx E t (xs.set j o++ys)):=by
 show xs.length≤(xs.set j o++ys).length
 simp
theorem pR {w:Wrl}{i:Int}(hi:ru w i=true):∃n:Nat,i=n∧n<w.props.length∧w.props[n]?=some (aW w i):=by
 obtain⟨h1,h2,-⟩:=lr hi
 have h0:=(aC.1 hi).1
 exact⟨i.toNat,by omega,h1,h2⟩
theorem Ag {w:Wrl}{i:Int}(hi:ru w i=false):i<0∨(w.props.length:Int)≤i:=by
 rw[ck] at hi
 rcases Int.lt_or_le i 0 with h|h
 ·exact .inl h
 ·refine .inr ?_
  rcases Int.lt_or_le i w.props.length with h2|h2
  ·exact absurd (aC.2 ⟨h,by omega⟩) hi
  ·exact h2
theorem pV {w:Wrl}(hw:WOK w){p:Ppl}(hp:p∈w.props):vtxS w.com p.v=true∧en w.com p.members=true:=by
 have:=hw.one p hp
 simpa[oneP] using this
theorem nt {c:List Int}{v:Vtx}(hc:comV c=true)(h:vtxS c v=true):(v.parents≠[]→1≤v.round∧v.round≤31)∧(∀p∈v.parents,0≤p∧p≤6):=by
 obtain⟨h1,h2,h3,h4,h5,h6⟩:=bG h
 have h7:=(ay.1 hc).2
 refine⟨fun hne=>⟨?_,by omega⟩,fun p hp=>?_⟩
 ·rcases Int.lt_or_le v.round 1 with hlt|hge
  ·exact absurd (h5 (by omega)) hne
  ·exact hge
 ·have:=dE h3 p hp
  omega
theorem Ed {w:Wrl}(hw:WOK w){m:Int}(hm:0≤m∧m<w.com.length){v:Vtx}(hv:vtxS w.com v=true):qV (aT (view w m)) v=parOK (view w m) v:=by
 have hG:=(kS hw hm).2
 exact Cr (fun u hu=>dm hw.com (hG.vtx u hu)) (nt hw.com hv).1 (nt hw.com hv).2
def xf (w:Wrl)(m i:Int)(k:Nat):Bool:=(k:Int) !=i && (slt (w.props.getD k p0).v (aW w i).v && (w.props.getD k p0).members.contains m)
theorem HI {w:Wrl}{m i:Int}{k:Nat}(hk:k<w.props.length)(h:xf w m i k=true):HH w m i=true:=eZ.2 ⟨k,eN.2 hk,h⟩
theorem KA {w:Wrl}{m i:Int}(h:∀k,k<w.props.length→xf w m i k=false):HH w m i=false:=by
 rw[ck]
 intro h2
 obtain⟨k,hk,h3⟩:=eZ.1 h2
 have:=h k (eN.1 hk)
 rw[show xf w m i k=true from h3] at this
 cases this
theorem Iy (s:Int)(w:Wrl)(xss:List (Option (List Int)))(ms:List PplM)(hw:WOK w)(hR:Rel w.props xss ms)(m i:Int)(hi:ru w i=false):ag Tryz.prog 172 [.ptr 4 0,.int .i64 m,.int .i64 i] (rW s w xss ms) (.bool false) (rW s w xss ms):=by
 have hpl:=hw.plen
 have hml:=hR.len
 refine ab bS Tryz.func172 rfl rfl false 3 7 rfl rfl rfl rfl fun K hK hb1 hb2=>?_;simp only[ae,enc,Nat.reduceAdd]
 clear hb1 hb2
 have hP:=zP s w.com w.lead w.bad (w.views.map aT) xss ms i (by rw[hml];exact Ag hi) (by omega)
 (repeat' first|refine cg ?_|refine sa fun xe hxe=>?_|refine sb (fun hq=>?_) fun hq=>?_|refine cr (hP) ?_|exact aa)
 exact⟨rfl,rfl⟩
set_option maxHeartbeats 1000000 in
theorem Ls (s:Int)(w:Wrl)(xss:List (Option (List Int)))(ms:List PplM)(hw:WOK w)(hR:Rel w.props xss ms)(m:Int)(i j:Nat)(hi:ru w i=true)(hj1:ms[i]?=some ⟨(aW w i).v,some j⟩)(hj2:xss[j]?=some (some (aW w i).members)):ag Tryz.prog 172 [.ptr 4 0,.int .i64 m,.int .i64 (i:Int)] (rW s w xss ms)
  (.bool (jI w m i && !(aW w i).members.contains m)) (if jI w m i && !(aW w i).members.contains m then rW s w (xss.set j none++[some (fZ (aW w i).members m)]) (ms.set i ⟨(aW w i).v,some xss.length⟩) else rW s w xss ms):=by
 have hpl:=hw.plen
 have hml:=hR.len
 have hil:=(aR.1 hj1).1
 obtain⟨n,hn,hn1,hn2⟩:=pR hi
 obtain rfl:i=n:=by omega
 obtain⟨o1,o2⟩:=pV hw (br hn2)
 refine ab bS Tryz.func172 rfl rfl false 3 7 rfl rfl rfl rfl fun K hK hb1 hb2=>?_;simp only[ae,enc,Nat.reduceAdd]
 clear hb1 hb2
 have hP:=zR s w.com w.lead w.bad (w.views.map aT) xss ms i (by omega) (by omega)
 have hC:=zM s w.com w.lead w.bad (w.views.map aT) xss ms m
 rw[show (du w.com m && m !=w.bad)=good w m from rfl] at hC
 cases hg:good w m
 ·have hF:jI w m i=false:=by unfold jI;rw[hg];rfl
  rw[hg] at hC
  (repeat' first|refine cg ?_|refine sa fun xe hxe=>?_|refine sb (fun hq=>?_) fun hq=>?_|refine cr (hP) ?_|refine cr (hC) ?_|exact aa)
  rw[hF]
  exact⟨rfl,rfl⟩
 ·rw[hg] at hC
  obtain⟨hm,-⟩:=fg.1 hg
  obtain⟨hk,hG⟩:=kS hw hm
  have hc:=hw.com
  have h7:=(ay.1 hc).2
  have hvl:(w.views.map aT).length=w.com.length:=by rw[aA,hw.vlen]
  have hxv:=E3 (n:=(w.views.map aT).length) (m:=m) (by rw[hvl];exact hm)
  have hrl:((List.range (w.views.map aT).length).map some).length=w.com.length:=by simp[hvl,hw.vlen]
  have hV:=Ee (w.views.map aT) m.toNat _ (aW w i).v hk (d6 _) (nt hc o1).1 (nt hc o1).2
  rw[Ed hw hm o1] at hV
  cases hp:parOK (view w m) (aW w i).v
  ·have hF:jI w m i=false:=by unfold jI;rw[hp];simp
   rw[hp] at hV
   (repeat' first|refine cg ?_|refine sa fun xe hxe=>?_|refine sb (fun hq=>?_) fun hq=>?_|refine cr (hP) ?_|refine cr (hC) ?_|refine cr (hV) ?_|exact aa)
   rw[hF]
   exact⟨rfl,rfl⟩
  ·rw[hp] at hV
   have hB:jI w m i= !HH w m i:=by unfold jI;rw[hg,hi,hp];simp
   (repeat' first|refine cg ?_|refine sa fun xe hxe=>?_|refine sb (fun hq=>?_) fun hq=>?_|refine cr (hP) ?_|refine cr (hC) ?_|refine cr (hV) ?_|exact aa)
   refine ah hK [] [0,1,2,7,39,40,41] (fun k:Nat=>⟨[(0,.ptr 4 0),(1,.int .i64 m),(2,.int .i64 (i:Int)),(7,.eptr 6 i 0),(39,.ref 6),(40,.int .i64 ms.length),(41,.int .i64 (k:Int))],rW s w xss ms,7⟩) (fun k=>k≤w.props.length∧∀k',k'<k→xf w m i k'=false) (fun k=>w.props.length-k) 0 (by simp) (by(conv=>whnf);rfl) ?_
   rintro k ⟨hk1,hall⟩
   by_cases hlt:k<w.props.length
   ·have hxe:w.props[k]?=some w.props[k]:=am hlt
    obtain⟨jk,hq1,hq2⟩:=hR.get k _ hxe
    have hyes:=HI (m:=m) (i:=(i:Int)) hlt
    have hgd:w.props.getD k p0=w.props[k]:=by rw[ar,hxe];rfl
    have hD:xf w m i k=((k:Int) !=i && (slt w.props[k].v (aW w i).v && w.props[k].members.contains m)):=by unfold xf;rw[hgd]
    generalize w.props[k]=q at *
    have hS:=sO q.v (aW w i).v
    have hN:=jS q.members m
    have lJ:xf w m i k=false→∀k',k'<k+1→xf w m i k'=false:=fun h k' hk'=>by
     rcases cG k' k with h1|h1
     ·exact hall k' h1
     ·obtain rfl:k'=k:=by omega
      exact h
    by_cases c1:k=i
    ·have c2:((k:Int) !=i)=false:=by simp[c1]
     rw[c2,iD] at hD
     (repeat' first|refine cg ?_|refine sa fun xe hxe=>?_|refine sb (fun hq=>?_) fun hq=>?_|exact aa)
     exact⟨k+1,⟨by omega,lJ hD⟩,by omega,rfl⟩
    ·have c2:((k:Int) !=i)=true:=by simp;omega
     rw[c2,d9] at hD
     cases c3:slt q.v (aW w i).v
     ·rw[c3] at hD hS
      (repeat' first|refine cg ?_|refine sa fun xe hxe=>?_|refine sb (fun hq=>?_) fun hq=>?_|refine cr (hS) ?_|exact aa)
      exact⟨k+1,⟨by omega,lJ hD⟩,by omega,rfl⟩
     ·rw[c3,d9] at hD
      rw[c3] at hS
      cases c4:q.members.contains m
      ·rw[c4] at hD hN
       (repeat' first|refine cg ?_|refine sa fun xe hxe=>?_|refine sb (fun hq=>?_) fun hq=>?_|refine cr (hS) ?_|((with_reducible refine kX ?_);(conv=>whnf))|((first|with_reducible refine bg (hN) ?_);conv=>whnf)|exact aa)
       exact⟨k+1,⟨by omega,lJ hD⟩,by omega,rfl⟩
      ·rw[c4] at hD hN
       rw[hyes hD] at hB
       (repeat' first|refine cg ?_|refine sa fun xe hxe=>?_|refine sb (fun hq=>?_) fun hq=>?_|refine cr (hS) ?_|((with_reducible refine kX ?_);(conv=>whnf))|((first|with_reducible refine bg (hN) ?_);conv=>whnf)|exact aa)
       rw[hB]
       exact⟨rfl,rfl⟩
   ·rw[KA fun k' hk'=>hall k' (by omega)] at hB
    rw[hB]
    have hl:=eF o2
    have ha:=jo o2
    cases hm2:(aW w i).members.contains m
    ·have hY:=E7 xss ms i j _ _ m hj1 hj2 ha (by omega) hm2
     rw[p8 ha (by simpa using hm2)] at hY
     (repeat' first|refine cg ?_|refine sa fun xe hxe=>?_|refine sb (fun hq=>?_) fun hq=>?_|refine cr (hY) ?_|exact aa)
     refine gd EE ?_
     (conv=>whnf)
     (repeat' first|refine cg ?_|refine sa fun xe hxe=>?_|refine sb (fun hq=>?_) fun hq=>?_|refine cr (hY) ?_|exact aa)
     exact⟨rfl,rfl⟩
    ·have hY:=E6 xss ms i j _ _ m hj1 hj2 ha (by omega) hm2
     (repeat' first|refine cg ?_|refine sa fun xe hxe=>?_|refine sb (fun hq=>?_) fun hq=>?_|refine cr (hY) ?_|exact aa)
     exact⟨rfl,rfl⟩
theorem Ik (s:Int)(w:Wrl)(xss:List (Option (List Int)))(ms:List PplM)(hw:WOK w)(hR:Rel w.props xss ms)(m i:Int)(hi:ru w i=false):ag Tryz.prog 173 [.ptr 4 0,.int .i64 m,.int .i64 i] (rW s w xss ms) (.bool false) (rW s w xss ms):=by
 have hpl:=hw.plen
 have hml:=hR.len
 refine ab bS Tryz.func173 rfl rfl false 3 7 rfl rfl rfl rfl fun K hK hb1 hb2=>?_;simp only[ae,enc,Nat.reduceAdd]
 clear hb1 hb2
 have hP:=zP s w.com w.lead w.bad (w.views.map aT) xss ms i (by rw[hml];exact Ag hi) (by omega)
 (repeat' first|refine cg ?_|refine sa fun xe hxe=>?_|refine sb (fun hq=>?_) fun hq=>?_|refine cr (hP) ?_|exact aa)
 exact⟨rfl,rfl⟩
abbrev AG (w:Wrl)(m:Int)(v:Vtx):List (List (Option Vtx)):=(w.views.map aT).set m.toNat ((aT (view w m)).set (mm v) (some v))
theorem Jo {w:Wrl}(hw:WOK w){m:Int}(hm:0≤m∧m<w.com.length){v:Vtx}(hv:ji v):(aT (view w m))[v.round.toNat * 7+v.author.toNat]?=some ((aT (view w m)).getD (v.round.toNat * 7+v.author.toNat) none)∧((aT (view w m)).getD (v.round.toNat * 7+v.author.toNat) none).isSome=eg (view w m) v.round v.author:=by
 obtain⟨⟨a1,a2⟩,a3,a4⟩:=hv
 have hG:=(kS hw hm).2
 have:=rR (fun u hu=>dm hw.com (hG.vtx u hu)) (r:=v.round) (a:=v.author) ⟨a1,a2⟩ ⟨a3,a4⟩
 rw[show (v.round*7+v.author).toNat=v.round.toNat * 7+v.author.toNat by omega] at this
 exact⟨by rw[ar,am (by rw[d6];omega)];rfl,this⟩
set_option maxHeartbeats 1000000 in
theorem La (s:Int)(w:Wrl)(xss:List (Option (List Int)))(ms:List PplM)(hw:WOK w)(hR:Rel w.props xss ms)(m:Int)(i j:Nat)(hi:ru w i=true)(hj1:ms[i]?=some ⟨(aW w i).v,some j⟩)(hj2:xss[j]?=some (some (aW w i).members)):ag Tryz.prog 173 [.ptr 4 0,.int .i64 m,.int .i64 (i:Int)] (rW s w xss ms)
  (.bool (fe w m i)) (if fe w m i then rX s w.com w.lead w.bad (AG w m (aW w i).v) xss ms else rW s w xss ms):=by
 have hpl:=hw.plen
 have hml:=hR.len
 have hil:=(aR.1 hj1).1
 obtain⟨n,hn,hn1,hn2⟩:=pR hi
 obtain rfl:i=n:=by omega
 obtain⟨o1,o2⟩:=pV hw (br hn2)
 refine ab bS Tryz.func173 rfl rfl false 3 7 rfl rfl rfl rfl fun K hK hb1 hb2=>?_;simp only[ae,enc,Nat.reduceAdd]
 clear hb1 hb2
 have hP:=zR s w.com w.lead w.bad (w.views.map aT) xss ms i (by omega) (by omega)
 have hC:=zM s w.com w.lead w.bad (w.views.map aT) xss ms m
 rw[show (du w.com m && m !=w.bad)=good w m from rfl] at hC
 cases hg:good w m
 ·have hF:fe w m i=false:=by unfold fe;rw[hg];rfl
  rw[hg] at hC
  (repeat' first|refine cg ?_|refine sa fun xe hxe=>?_|refine sb (fun hq=>?_) fun hq=>?_|refine cr (hP) ?_|refine cr (hC) ?_|exact aa)
  rw[hF]
  exact⟨rfl,rfl⟩
 ·rw[hg] at hC
  obtain⟨hm,-⟩:=fg.1 hg
  obtain⟨hk,hG⟩:=kS hw hm
  have hc:=hw.com
  have h7:=(ay.1 hc).2
  have hvl:(w.views.map aT).length=w.com.length:=by rw[aA,hw.vlen]
  have hxv:=E3 (n:=(w.views.map aT).length) (m:=m) (by rw[hvl];exact hm)
  have hrl:((List.range (w.views.map aT).length).map some).length=w.com.length:=by simp[hvl,hw.vlen]
  have hV:=Ee (w.views.map aT) m.toNat _ (aW w i).v hk (d6 _) (nt hc o1).1 (nt hc o1).2
  rw[Ed hw hm o1] at hV
  have hD:=vO w.com (aW w i) hc o2
  obtain⟨hs1,hs2⟩:=Jo hw hm (dm hc o1)
  obtain⟨⟨a1,a2⟩,a3,a4⟩:=dm hc o1
  have hpp:=ph hc o1
  have htl:=d6 (view w m)
  cases hd:don w.com (aW w i)
  ·have hF:fe w m i=false:=by unfold fe;rw[hd];simp
   rw[hd] at hD
   (repeat' first|refine cg ?_|refine sa fun xe hxe=>?_|refine sb (fun hq=>?_) fun hq=>?_|refine cr (hP) ?_|refine cr (hC) ?_|((with_reducible refine kX ?_);(conv=>whnf))|((first|with_reducible refine bg (hD) ?_);conv=>whnf)|exact aa)
   rw[hF]
   exact⟨rfl,rfl⟩
  ·rw[hd] at hD
   cases hp:parOK (view w m) (aW w i).v
   ·have hF:fe w m i=false:=by unfold fe;rw[hp];simp
    rw[hp] at hV
    (repeat' first|refine cg ?_|refine sa fun xe hxe=>?_|refine sb (fun hq=>?_) fun hq=>?_|refine cr (hP) ?_|refine cr (hC) ?_|refine cr (hV) ?_|((with_reducible refine fy ?_);(conv=>whnf);(first|with_reducible refine bg (oC _ (cu hpp (by omega))) ?_);conv=>whnf)|((with_reducible refine kX ?_);(conv=>whnf))|((first|with_reducible refine bg (hD) ?_);conv=>whnf)|exact aa)
    rw[hF]
    exact⟨rfl,rfl⟩
   ·rw[hp] at hV
    have hB:fe w m i= !eg (view w m) (aW w i).v.round (aW w i).v.author:=by unfold fe;rw[hg,hi,hd,hp];simp
    cases ho:(aT (view w m)).getD ((aW w i).v.round.toNat * 7+(aW w i).v.author.toNat) none with
    |some u=>
     rw[ho] at hs1 hs2
     rw[←hs2] at hB
     (repeat' first|refine cg ?_|refine sa fun xe hxe=>?_|refine sb (fun hq=>?_) fun hq=>?_|refine cr (hP) ?_|refine cr (hC) ?_|refine cr (hV) ?_|((with_reducible refine fy ?_);(conv=>whnf);(first|with_reducible refine bg (oC _ (cu hpp (by omega))) ?_);conv=>whnf)|((with_reducible refine kX ?_);(conv=>whnf))|((first|with_reducible refine bg (hD) ?_);conv=>whnf)|exact aa)
     rw[hB]
     exact⟨rfl,rfl⟩
    |none=>
     rw[ho] at hs1 hs2
     rw[←hs2] at hB
     (repeat' first|refine cg ?_|refine sa fun xe hxe=>?_|refine sb (fun hq=>?_) fun hq=>?_|refine cr (hP) ?_|refine cr (hC) ?_|refine cr (hV) ?_|((with_reducible refine fy ?_);(conv=>whnf);(first|with_reducible refine bg (oC _ (cu hpp (by omega))) ?_);conv=>whnf)|((with_reducible refine kX ?_);(conv=>whnf))|((first|with_reducible refine bg (hD) ?_);conv=>whnf)|exact aa)
     rw[hB]
     refine⟨rfl,?_⟩
     have e:mm (aW w i).v=(aW w i).v.round.toNat * 7+(aW w i).v.author.toNat:=by unfold mm;omega
     have e2:(AG w m (aW w i).v).length=(w.views.map aT).length:=jt ..
     show _=rX s w.com w.lead w.bad (AG w m (aW w i).v) xss ms
     delta rX
     rw[e2]
     delta AG
     rw[e]
theorem H0 {w:Wrl}{v:Vtx}(h1:v.author=w.bad)(h2:∀p∈w.props,kV p.v v=false):jz w v=(vtxS w.com v && decide (w.props.length<220)):=by
 have h3:w.props.any (fun p=>kV p.v v)=false:=by
  rw[List.any_eq_false]
  intro p hp
  rw[h2 p hp]
  simp
 unfold jz
 rw[h3,h1]
 cases h:vtxS w.com v
 ·simp
 ·have:=(bG h).2.1.1
  rw[decide_eq_true (p:=0≤w.bad) (by omega)]
  simp
set_option maxHeartbeats 1000000 in
theorem Ff (s:Int)(w:Wrl)(xss:List (Option (List Int)))(ms:List PplM)(hw:WOK w)(hR:Rel w.props xss ms)(v:Vtx):ag Tryz.prog 174 [.ptr 4 0,cZ v] (rW s w xss ms) (.bool (jz w v)) (if jz w v then Oc s w (xss++[some []]) (ms++[⟨v,some xss.length⟩]) else rW s w xss ms):=by
 have hpl:=hw.plen
 have hml:=hR.len
 have hc:=hw.com
 refine ab bS Tryz.func174 rfl rfl false 3 7 rfl rfl rfl rfl fun K hK hb1 hb2=>?_;simp only[ae,enc,Nat.reduceAdd]
 clear hb1 hb2
 cases c1:v.author !=w.bad
 ·have ha:v.author=w.bad:=by simpa using c1
  (repeat' first|refine cg ?_|refine sa fun xe hxe=>?_|refine sb (fun hq=>?_) fun hq=>?_|exact aa)
  refine ah hK [] [0,3,17,18,19] (fun k:Nat=>⟨[(0,.ptr 4 0),(3,.ptr 7 0),(17,.ref 6),(18,.int .i64 ms.length),(19,.int .i64 (k:Int))],rW s w xss ms++[(7,VB.var 73 (cZ v).cells)],8⟩) (fun k=>k≤w.props.length∧∀p∈w.props.take k,kV p.v v=false) (fun k=>w.props.length-k) 0 (by simp) (by(conv=>whnf);rfl) ?_
  rintro k ⟨hk1,hall⟩
  by_cases hlt:k<w.props.length
  ·have hxe:w.props[k]?=some w.props[k]:=am hlt
   have hsn:w.props.take (k+1)=w.props.take k++[w.props[k]]:=b9 hlt
   obtain⟨jk,hq1,hq2⟩:=hR.get k _ hxe
   have hmem:=be hlt
   generalize w.props[k]=q at *
   have hE:=nN q.v v
   cases c3:kV q.v v
   ·rw[c3] at hE
    (repeat' first|refine cg ?_|refine sa fun xe hxe=>?_|refine sb (fun hq=>?_) fun hq=>?_|refine cr (hE) ?_|exact aa)
    exact⟨k+1,⟨by omega,by rw[hsn];exact bL hall c3⟩,by omega,rfl⟩
   ·have hF:jz w v=false:=by
     unfold jz
     rw[eZ.2 ⟨q,hmem,c3⟩]
     simp
    rw[c3] at hE
    (repeat' first|refine cg ?_|refine sa fun xe hxe=>?_|refine sb (fun hq=>?_) fun hq=>?_|refine cr (hE) ?_|exact aa)
    rw[hF]
    exact⟨rfl,rfl⟩
  ·rw[bp (by omega)] at hall
   have heq:=H0 ha hall
   cases hv:(vtxS w.com v && decide (w.props.length<220))
   ·rw[hv] at heq
    have hN:=zK s w.com w.lead w.bad (w.views.map aT) xss ms v hc (by rw[hml];exact hv) (by omega)
    (repeat' first|refine cg ?_|refine sa fun xe hxe=>?_|refine sb (fun hq=>?_) fun hq=>?_|refine cr (hN) ?_|exact aa)
    rw[heq]
    exact⟨rfl,rfl⟩
   ·rw[hv] at heq
    simp only[az,decide_eq_true_eq] at hv
    have hY:=zL s w.com w.lead w.bad (w.views.map aT) xss ms v hc hv.1 (by omega)
    (repeat' first|refine cg ?_|refine sa fun xe hxe=>?_|refine sb (fun hq=>?_) fun hq=>?_|refine cr (hY) ?_|exact aa)
    refine gd (zD _ _ _ _) ?_
    (conv=>whnf)
    (repeat' first|refine cg ?_|refine sa fun xe hxe=>?_|refine sb (fun hq=>?_) fun hq=>?_|refine cr (hY) ?_|exact aa)
    rw[heq]
    exact⟨rfl,rfl⟩
 ·have hF:jz w v=false:=by
   have:(v.author==w.bad)=false:=by simpa using c1
   unfold jz
   rw[this]
   simp
  (repeat' first|refine cg ?_|refine sa fun xe hxe=>?_|refine sb (fun hq=>?_) fun hq=>?_|exact aa)
  rw[hF]
  exact⟨rfl,rfl⟩
theorem If (s:Int)(w:Wrl)(xss:List (Option (List Int)))(ms:List PplM)(hw:WOK w)(hR:Rel w.props xss ms)(i:Int)(hi:ru w i=false):ag Tryz.prog 175 [.ptr 4 0,.int .i64 i] (rW s w xss ms) (.bool false) (rW s w xss ms):=by
 have hpl:=hw.plen
 have hml:=hR.len
 refine ab bS Tryz.func175 rfl rfl false 3 7 rfl rfl rfl rfl fun K hK hb1 hb2=>?_;simp only[ae,enc,Nat.reduceAdd]
 clear hb1 hb2
 have hP:=zP s w.com w.lead w.bad (w.views.map aT) xss ms i (by rw[hml];exact Ag hi) (by omega)
 (repeat' first|refine cg ?_|refine sa fun xe hxe=>?_|refine sb (fun hq=>?_) fun hq=>?_|refine cr (hP) ?_|exact aa)
 exact⟨rfl,rfl⟩
theorem K3 (s:Int)(w:Wrl)(xss:List (Option (List Int)))(ms:List PplM)(hw:WOK w)(hR:Rel w.props xss ms)(i j:Nat)(hi:ru w i=true)(hj1:ms[i]?=some ⟨(aW w i).v,some j⟩)(hj2:xss[j]?=some (some (aW w i).members)):ag Tryz.prog 175 [.ptr 4 0,.int .i64 (i:Int)] (rW s w xss ms)
  (.bool (lQ w i && !(aW w i).members.contains w.bad)) (if lQ w i && !(aW w i).members.contains w.bad then rW s w (xss.set j none++[some (fZ (aW w i).members w.bad)]) (ms.set i ⟨(aW w i).v,some xss.length⟩) else rW s w xss ms):=by
 have hpl:=hw.plen
 have hml:=hR.len
 have hil:=(aR.1 hj1).1
 obtain⟨n,hn,hn1,hn2⟩:=pR hi
 obtain rfl:i=n:=by omega
 obtain⟨o1,o2⟩:=pV hw (br hn2)
 have hl:=eF o2
 have ha:=jo o2
 have h7:=(ay.1 hw.com).2
 refine ab bS Tryz.func175 rfl rfl false 3 7 rfl rfl rfl rfl fun K hK hb1 hb2=>?_;simp only[ae,enc,Nat.reduceAdd]
 clear hb1 hb2
 have hP:=zR s w.com w.lead w.bad (w.views.map aT) xss ms i (by omega) (by omega)
 by_cases hb:0≤w.bad
 ·have hB:lQ w i=true:=by unfold lQ;rw[hi,decide_eq_true hb];rfl
  rw[hB]
  cases hm2:(aW w i).members.contains w.bad
  ·have hY:=E7 xss ms i j _ _ w.bad hj1 hj2 ha (by omega) hm2
   rw[p8 ha (by simpa using hm2)] at hY
   (repeat' first|refine cg ?_|refine sa fun xe hxe=>?_|refine sb (fun hq=>?_) fun hq=>?_|refine cr (hP) ?_|refine cr (hY) ?_|exact aa)
   refine gd EE ?_
   (conv=>whnf)
   (repeat' first|refine cg ?_|refine sa fun xe hxe=>?_|refine sb (fun hq=>?_) fun hq=>?_|refine cr (hP) ?_|refine cr (hY) ?_|exact aa)
   exact⟨rfl,rfl⟩
  ·have hY:=E6 xss ms i j _ _ w.bad hj1 hj2 ha (by omega) hm2
   (repeat' first|refine cg ?_|refine sa fun xe hxe=>?_|refine sb (fun hq=>?_) fun hq=>?_|refine cr (hP) ?_|refine cr (hY) ?_|exact aa)
   exact⟨rfl,rfl⟩
 ·have hB:lQ w i=false:=by unfold lQ;rw[decide_eq_false hb];rfl
  rw[hB]
  (repeat' first|refine cg ?_|refine sa fun xe hxe=>?_|refine sb (fun hq=>?_) fun hq=>?_|refine cr (hP) ?_|exact aa)
  exact⟨rfl,rfl⟩
end Go.Proofs.YtpefhoohfkeflabGreatDoor.Am
namespace Go.Proofs.YtpefhoohfkeflabGreatDoor.Am
open Go
def Pc:Go.Conc.Locks.MuLink:={lock:=169,unlock:=170,ilock:=189,iunlock:=190,lockSlow:=209,unlockSlow:=212,disable:=205,enable:=207,acquire:=208,relMerge:=210,cas32:=206,add32:=211,tMutex:=93,tIMutex:=91,tPMutex:=216,tPIMutex:=229,tPI32:=231,tUP:=167,tNoCopy:=88,tU32:=89}
theorem FH:Go.Conc.Locks.MuLib Tryz.prog Pc:=
 ⟨Tryz.func169,Tryz.func170,Tryz.func189,Tryz.func190,Tryz.func205,Tryz.func207,Tryz.func208,Tryz.func210,Tryz.func206,Tryz.func211,Tryz.underlying91,Tryz.runUnderlying91,Tryz.sizeOf91,Tryz.isAgg91,Tryz.zeroValue91,Tryz.underlying93,Tryz.runUnderlying93,Tryz.sizeOf93,Tryz.isAgg93,Tryz.zeroValue93,Tryz.underlying216,Tryz.runUnderlying216,Tryz.sizeOf216,Tryz.isAgg216,Tryz.zeroValue216,Tryz.underlying229,Tryz.runUnderlying229,Tryz.sizeOf229,Tryz.isAgg229,Tryz.zeroValue229,Tryz.underlying231,Tryz.runUnderlying231,Tryz.sizeOf231,Tryz.isAgg231,Tryz.zeroValue231,Tryz.underlying167,Tryz.runUnderlying167,Tryz.sizeOf167,Tryz.isAgg167,Tryz.zeroValue167,Tryz.underlying88,Tryz.runUnderlying88,Tryz.sizeOf88,Tryz.isAgg88,Tryz.zeroValue88,Tryz.underlying21,Tryz.runUnderlying21,Tryz.sizeOf21,Tryz.isAgg21,Tryz.zeroValue21,(by kernel_rfl)⟩
end Go.Proofs.YtpefhoohfkeflabGreatDoor.Am
namespace Go.Proofs.YtpefhoohfkeflabGreatDoor.Am
open Go Go.RowKit
variable {P:Program} {w0:World} {S:SD} {A:Nat→Prop} {N:Nat} {ρ:Id→Pl} {t:List (Nat×D)} {h:HL} {a:Act} {w:World}
theorem tw {g:Nat}{c:Array Value}{T:TypeId}{v:Value}(hg:w.heap[g]?=some (.cells c T (0,0))):w.setCell ⟨g,0,none⟩ v=w.setRow g (c.setIfInBounds 0 v):=by
 have:w.heap.modify g (fun o=>match o with
   | .cells cs E fr=>.cells (cs.setIfInBounds 0 v) E fr
   |o=>o)=w.heap.modify g (fun o=>match o with
   | .cells _ E fr=>.cells (c.setIfInBounds 0 v) E fr
   |o=>o):=by
  apply Array.ext_getElem?
  intro i
  rw[nS,nS]
  by_cases e:g=i
  ·subst e
   simp[hg]
  ·simp[e]
 simp only[World.setCell,World.setRow]
 first|exact congrArg (fun x=>{w with heap:=x}) this|simpa using this
theorem Sim.cell0 (s:Sim P w0 S A N ρ t h a w){b:Id}{T:TypeId}{x:D}{cs:List D}(hb:look h b=some (.var T (x::cs)))(k:IntKind)(n:Int):Sim P w0 S A N ρ t (put b (.var T (.int k n::cs)) h) a (w.setCell ⟨(ρ b).blk,0,none⟩ (.int k n)):=by
 obtain⟨c,g1,g2,g3⟩:=s.blk b _ hb
 rw[tw g1]
 refine s.write hb rfl _ fun hC hR=>⟨_,setRow_heap w _ c _ T _ g1,by simpa using g2,fun j hj=>?_⟩
 have hpos:0<c.size:=by rw[g2];simp
 cases j with
 |zero=>
  have:(c.setIfInBounds 0 (.int k n)).getD 0 undef= .int k n:=by simp[bK,hpos]
  rw[this]
  exact C.int k n
 |succ j=>
  have:(c.setIfInBounds 0 (.int k n)).getD (j+1) undef=c.getD (j+1) undef:=by simp[bK,wG]
  rw[this]
  exact hC _ _ (g3 (j+1) (by simpa using hj))
theorem Sim.at0 (s:Sim P w0 S A N ρ t h a w){b:Id}{T:TypeId}{k:IntKind}{n:Int}{cs:List D}(hb:look h b=some (.var T (.int k n::cs))):w.cell? ⟨(ρ b).blk,0,none⟩=some (.int k n)∧w.frozen? ⟨(ρ b).blk,0,none⟩=false:=by
 obtain⟨c,g1,g2,g3⟩:=s.blk b _ hb
 have hpos:0<c.size:=by rw[g2];simp
 have h1:=(g3 0 (by simp)).int_inv
 rw[bK,eK hpos,d7] at h1
 refine⟨?_,?_⟩
 ·simp[World.cell?,g1,eK hpos,h1]
 ·simp[World.frozen?,g1]
theorem AT {vs:Array Value}(h:1=vs.size):∃v,vs= #[v]:=by
 refine⟨vs[0],Array.ext (by simp;omega) fun i h1 h2=>?_⟩
 match i,h2 with
 |0,_=>rfl
theorem D3 {L:Go.Conc.Locks.MuLink}(H:Go.Conc.Locks.MuLib P L){h:HL}{b:Id}{T:TypeId}{cs:List D}(hb:look h b=some (.var T (.int .i32 0::cs))):
  ∀hout:HL,(∀b',look hout b'=look (put b (.var T (.int .i32 1::cs)) h) b')→Con P L.lock [.ptr b 0] h (.tup []) hout:=by
 intro hout hh
 refine⟨⟨_,H.f_lock,rfl,rfl⟩,fun w A ρ vs s hl hcv=>?_⟩
 obtain⟨v,rfl⟩:=AT hl
 obtain⟨-,e0⟩:=(hcv 0 (by simp)).ptr_inv
 have e0:v= .pointer (some ⟨(ρ b).blk,0,none⟩):=e0
 subst e0
 obtain⟨q1,q2⟩:=s.at0 hb
 refine(Go.MuLone.lock_free H _ w q1 q2).mono ?_
 rintro e w' ⟨rfl,rfl⟩
 exact⟨_,ρ,rfl,fun b' hb'=>⟨rfl,by
  have:Live (put b (.var T (.int .i32 1::cs)) h) b':=hb'.put
  unfold Live at this⊢
  rw[hh]
  exact this⟩,(s.cell0 hb _ _).congr (fun _=>rfl) hh,.tup [] #[] rfl (fun i hi=>by simp at hi)⟩
theorem CN {L:Go.Conc.Locks.MuLink}(H:Go.Conc.Locks.MuLib P L){h:VH}{T:TypeId}{cs:List V}(hb:look h 4=some (.var T (.int .i32 0::cs))):ag P L.lock [.ptr 4 0] h (.tup []) (put 4 (.var T (.int .i32 1::cs)) h):=by
 refine D3 (cs:=ak cs) H (av (i:=0) hb rfl) _ fun b'=>?_
 obtain⟨b1,b2⟩:=b'
 rw[ap,af,af,ap]
 by_cases e:b1=4
 ·subst e
  rw[if_pos rfl,hb]
  cases b2 with
  |zero=>rw[if_pos rfl];rfl
  |succ j=>rw[if_neg (by simp)];rfl
 ·rw[if_neg e,if_neg (fun h=>e (Prod.mk.inj h).1)]
def dU (fu:FuncId)(g:Nat):Deferred:={target:=.fn (.func fu) #[],args:=#[]++ #[.pointer (some ⟨g,0,none⟩)]}
theorem Sim.defs {dfs:List Deferred}(s:Sim P w0 S A N ρ t h a w):Sim P w0 ⟨S.S,dfs⟩ A N ρ t h {a with defers:=dfs} w:=
 ⟨s.base,s.inS,s.fr,rfl,s.size,s.tmp,s.blk,s.own,s.inj,s.gl⟩
theorem SimS.defs {dfs:List Deferred}{ρ0:Id→Pl}{K:Id→Prop}{σ:St}(s:SimS P w0 S A N ρ0 K σ a w):SimS P w0 ⟨S.S,dfs⟩ A N ρ0 K σ {a with defers:=dfs} w:=by
 obtain⟨h1,h2,ρ,h3,h4⟩:=s
 exact⟨h1,h2,ρ,h3,h4.defs⟩
def uU (P:Program)(N:Nat)(K:Id→Prop)(fu:FuncId)(b:Id)(c:Code)(σ:St)(e:Exit)(σ':St):Prop:=
 ∀w0 S A ρ0 a w,S.dfs=[]→SimS P w0 S A N ρ0 K σ a w→c.wp P (fun e' a' w'=>e'=e∧SimS P w0 ⟨S.S,[dU fu (ρ0 b).blk]⟩ A N ρ0 K σ' a' w') a w
def Ko (P:Program)(N:Nat)(K:Id→Prop)(fu:FuncId)(b:Id)(c:Code)(Q:Exit→VSt→Prop)(σ:VSt):Prop:=∃e σ',uU P N K fu b c σ.toD e σ'.toD∧(ij P N K σ'.toD→Q e σ')
variable {K:Id→Prop} {fu:FuncId} {b:Id} {Q:Exit→VSt→Prop} {σ:VSt}
theorem sf {c:Code}{σ:St}(h:¬ij P N K σ)(e:Exit)(σ':St):uU P N K fu b c σ e σ':=fun w0 S A ρ0 a w _ hs=>absurd ⟨w0,S,A,ρ0,a,w,hs⟩ h
theorem qZ {x y:Code}(h:At P N K x (fun e σ=>e= .normal∧Ko P N K fu b y Q σ) σ):Ko P N K fu b (.seq x y) Q σ:=by
 obtain⟨e,σ1,h1,h2⟩:=h
 rcases ju (ij P N K σ1.toD) with hr|hr
 ·obtain⟨rfl,e2,σ2,h3,h4⟩:=h2 hr
  refine⟨e2,σ2,fun w0 S A ρ0 a w hd hs=>wp_seq (wp_mono (h1 w0 S A ρ0 a w hs) ?_),h4⟩
  rintro e' a' w' ⟨rfl,hs'⟩
  exact h3 w0 S A ρ0 a' w' hd hs'
 ·rcases ju (ij P N K σ.toD) with hr0|hr0
  ·refine⟨e,σ1,fun w0 S A ρ0 a w hd hs=>wp_seq (wp_mono (h1 w0 S A ρ0 a w hs) ?_),fun h=>absurd h hr⟩
   rintro e' a' w' ⟨rfl,hs'⟩
   exact absurd ⟨_,_,_,_,_,_,hs'⟩ hr
  ·exact⟨.normal,σ1,sf hr0 _ _,fun h=>absurd h hr⟩
theorem wT {x y:Code}(h:Ko P N K fu b x (fun e σ=>e= .normal∧At P N K y Q σ) σ):Ko P N K fu b (.seq x y) Q σ:=by
 obtain⟨e,σ1,h1,h2⟩:=h
 rcases ju (ij P N K σ1.toD) with hr|hr
 ·obtain⟨rfl,e2,σ2,h3,h4⟩:=h2 hr
  refine⟨e2,σ2,fun w0 S A ρ0 a w hd hs=>wp_seq (wp_mono (h1 w0 S A ρ0 a w hd hs) ?_),h4⟩
  rintro e' a' w' ⟨rfl,hs'⟩
  exact h3 w0 _ A ρ0 a' w' hs'
 ·refine⟨e,σ1,fun w0 S A ρ0 a w hd hs=>wp_seq (wp_mono (h1 w0 S A ρ0 a w hd hs) ?_),fun h=>absurd h hr⟩
  rintro e' a' w' ⟨rfl,hs'⟩
  exact absurd ⟨_,_,_,_,_,_,hs'⟩ hr
theorem s9 {ops:Array Oper}{ρ0:Id→Pl}{Q:Exit→Act→World→Prop}{r:List Nat}:∀(L:List (Oper×Rc)) (k:Nat) (t:List (Nat×D)) (h:HL) (n:Nat) (a:Act) (w:World) (ρ:Id→Pl),TRun P ops N t h n L→(∀b:Id,n≤b.1→look h b=none)→
  (∀b,K b→Live h b)→(∀b,K b→ρ b=ρ0 b)→(∀i,i<L.length→ops[k+i]?=(L[i]?).map (·.1))→Sim P w0 S A N ρ t h a w→
  (∀ρ a w,(∀b,K b→ρ b=ρ0 b)→Sim P w0 S A N ρ (kh (fun _=>true) k L t) (js (fun _=>true) k L h) a w→wpOps P ops Q r a w)→wpOps P ops Q (List.range' k L.length++r) a w
 |[],k,t,h,n,a,w,ρ,_,_,_,hρ,_,s,hq=>hq ρ a w hρ s
 |(o,rc)::L,k,t,h,n,a,w,ρ,hT,hn,hK,hρ,hops,s,hq=>by
  obtain⟨⟨rfl,h1,h2,h3⟩,h4,h5⟩:=hT
  simp only[bF,List.range'_succ,gz]
  rw[wpOps_cons]
  unfold wpOp
  have ho:ops[k]?=some o:=by simpa using hops 0 (by simp)
  rw[ho]
  simp only
  have hn':∀b:Id,rc.n'≤b.1→look (puts rc.u h) b=none:=by
   intro b hb
   rw[aN _ _ _ fun x hx e=>by have:=h2 x hx;rw[e] at this;omega]
   exact hn b (by omega)
  have lJ:∀(ρ':Id→Pl) (v:Value) (w':World),Ext h ρ ρ'→Sim P w0 S A N ρ' (iu o.dst rc.d t) (puts rc.u h) (a.put o.dst v) w'→wpOps P ops Q (List.range' (k+1) L.length++r) (a.put o.dst v) w':=by
   intro ρ' v w' hex s'
   exact s9 L (k+1) _ _ rc.n' _ w' ρ' h5 hn' (fun b hb=>nc _ _ _ (hK b hb)) (fun b hb=>(hex b (hK b hb)).trans (hρ b hb)) (fun i hi=>by rw[show k+1+i=k+(i+1) by omega];exact hops (i+1) (by simpa using hi)) s' hq
  rcases h4 with⟨g1,g2⟩|⟨g1,g2,g3,g4⟩
  ·rw[s.guard g1]
   simp only[if_true]
   left
   have hw:=g2 t h (fun x hx=>rfl) (fun b hb=>rfl) _ _ _ ρ a w s
   refine Reg.wp_exit_mono (K:=tN P w0 S A N ρ t h (puts rc.u h) a o.dst rc.d) ?_ hw
   rintro a' w' ⟨v,ρ',rfl,hex,q1,q2⟩
   exact lJ ρ' v w' hex (q1.putO h3 q2)
  ·rw[s.guard g1]
   simp only[eY,if_false]
   refine lJ ρ undef w (Ext.refl _ _) ?_
   rw[g2,g3]
   exact s.putO h3 (.tup [] #[] rfl fun i hi=>absurd hi (Nat.not_lt_zero i))
theorem AV {Θ:TT}(hΘ:Θ.ok P){id:Nat}{ops:Array Oper}{l:List Oper}{od:Oper}{x:Tmp}{Ts:Array TypeId}(hops:ops.toList=l++[od])(hod:od.op= .defer {callee:=.value (.func fu),args:=#[.tmp x],argTypes:=Ts}∧od.guard=none∧od.dst=none)
  (hx:x<N) (h:lA P Θ ops (fun _=>[]) false N l 0 [] σ (fun σ=>look (fP σ.t) x=some (.ptr b 0)∧K b∧Q .normal σ)):Ko P N K fu b (.region id ops false) Q σ:=by
 rcases ju (¬ij P N K σ.toD) with hr|hr
 ·exact⟨.normal,σ,sf hr _ _,fun h=>absurd h hr⟩
 have hr:=Classical.not_not.1 hr
 have hfr:lM σ:=by obtain⟨w0,S,A,ρ0,a,w,hs⟩:=hr;exact hs.1
 obtain⟨σ',⟨q1,q2,q3⟩,h2⟩:=nl hΘ hfr h
 obtain⟨L,l1,l2,l3,l4,l5,_⟩:=h2 [] fun h=>by cases h
 refine⟨.normal,σ',?_,fun _=>q3⟩
 rintro w0 S A ρ0 a w hd ⟨hn,hK,ρ,hρ,s⟩
 refine wp_region ?_
 have hll:L.length=l.length:=by rw[←l1,aA]
 have hsz:ops.size=L.length+1:=by have:=congrArg List.length hops;simp only[nE,aP,mF] at this;omega
 have hget:∀i:Nat,ops[i]?=(l++[od])[i]?:=fun i=>by rw[←hops];simp
 rw[hsz,List.range_eq_range',List.range'_concat]
 simp only[iF,e8]
 refine s9 L 0 _ _ _ a w ρ l2 hn hK hρ (fun i hi=>?_) s fun ρ' a' w' hρ' s'=>?_
 ·rw[e8,hget,cX (by omega),←l1,bf]
 ·obtain⟨od1,od2,od3⟩:=hod
  have s2:=s'.congr (t':=fP σ'.t) (h':=toH σ'.h) (fun x=>(l3 x)) (fun b=>(l4 b))
  have hv:=(s2.tmp x _ q1).2
  obtain⟨-,hv⟩:=hv.ptr_inv
  rw[hρ' b q2] at hv
  have ho:ops[L.length]?=some od:=by rw[hget,hll,eW (ax _)];simp
  simp only[wpOps,ho]
  have hwant:Region.wanted od (yielded ops a'.tmps)=true:=by simp[Region.wanted,od2]
  rw[if_pos hwant]
  left
  have hex:(execOp a'.eval od).run P w'= .ok (.defer (dU fu (ρ0 b).blk)) w':=by
   have he:a'.eval (.tmp x)= .pointer (some ⟨(ρ0 b).blk,0,none⟩):=by
    rw[←hv];rfl
   obtain⟨dst,op,ty,pos,after,guard⟩:=od
   subst od1
   simp only[execOp,resolve,List.map_toArray,bI,ec,he]
   rfl
  unfold Oper.wp
  rw[hex,Oper.upon_defer,od3]
  have hdf:a'.defers=[]:=s2.defers.trans hd
  refine⟨trivial,l5,fun b hb=>?_,ρ',hρ',?_⟩
  ·have:=kO (fun _=>true) L 0 (toH σ.h) b (hK b hb)
   show Live (toH σ'.h) b
   unfold Live at this⊢
   rw[l4]
   exact this
  ·have:=s2.defs (dfs:=[dU fu (ρ0 b).blk])
   rw[hdf]
   exact this
theorem HW {w:World}{hin:HL}{ρ:Id→Pl}{fn:Func}{N:Nat}{σ:St}{a':Act}{w':World}{r:D}{hout:HL}{ρ1:Id→Pl}(hK:∀b,Live hin b→Live σ.h b)(hρ1:∀b,Live hin b→ρ1 b=ρ b)(s1:Sim P w (qD ρ hin) A N ρ1 σ.t σ.h a' w')
  (hr:po P fn.results.toList (Live hin) σ r hout):∃u,(results fn a'.tmps).run P w'= .ok u w'∧∃v ρ'',Ending.returned u= .returned v∧(∀b,Live hin b→ρ'' b=ρ b∧Live hout b)∧Sim P w (qD ρ hin) A 0 ρ'' [] hout ef w'∧C ρ'' (Live hout) (okOf A ρ'' hout w') w' r v:=by
 obtain⟨ds',bs,g,hrds,hrn,hren,hkeep⟩:=hr
 obtain⟨vs',r1,r2,r3⟩:=s1.results (f:=Mh a'.tmps) (fun r=>by cases r<;>rfl) hrds
 have hone:=FT r2 r3
 have hrun:(results fn a'.tmps).run P w'= .ok (if h:vs'.toArray.size=1 then vs'.toArray[0] else .tuple vs'.toArray) w':=by
  rw[th,Array.mapM_eq_mapM_toList,Sem.run_bind,map_eq_pure_bind,Sem.run_bind,r1]
  rfl
 generalize (if h:vs'.toArray.size=1 then vs'.toArray[0] else Value.tuple vs'.toArray)=u at *
 obtain⟨q1,q2,q3⟩:=s1.frz_ok bs
 have hcu:C ρ1 (Live (puts (frz σ.h bs) σ.h)) (okOf A ρ1 (puts (frz σ.h bs) σ.h) w') w' (one ds') u:=hone.mono (fun b hb=>⟨mb hb,rfl⟩) (fun k hk=>⟨⟨hk.1,fun b y hy hmu=>by
  rcases q2 b with q|⟨y',z1,z2⟩
  ·rw[q] at hy;exact hk.2 b y hy hmu
  ·rw[z2] at hy
   obtain rfl:=aq hy
   rw[(kq z1).2.1] at hmu;cases hmu⟩,rfl⟩)
 obtain⟨s3,hok3⟩:=q1.ren (N':=0) (a':=ef) (t':=[]) hren rfl rfl (fun k d' hk=>by cases hk)
 exact⟨u,hrun,u,fun b=>ρ1 (g b),rfl,fun b hb=>⟨by show ρ1 (g b)=_;rw[(hkeep b hb (hK b hb)).1];exact hρ1 b hb,(hkeep b hb (hK b hb)).2⟩,s3,q1.rn hok3 hrn hcu⟩
theorem vg {L : Go.Conc.Locks.MuLink} (H : Go.Conc.Locks.MuLib P L) {f : FuncId} {fn : Func} {c : Code} (hf : P.funcs[f]? = some fn) (hb : fn.body = some c) (hname : (fn.name == "runtime.NumGoroutine") = false) {N : Nat} {rs : List ResultVar} (hN : fn.ntmps = N) (hrs : fn.results.toList = rs) {ds : List D} {hin : HL} {n0 : Nat} {r : D} {hout : HL}
  (hl:ds.length≤N) (hn0:∀b:Id,n0≤b.1→look hin b=none) (hLb:Live hin b)
  (hF:(∀d∈ds,bnd 6 d)→(∀b x,look hin b=some x→bndB 6 x)→∃e σ,uU P N (Live hin) L.unlock b c ⟨uh ds,hin,n0⟩ e σ∧(ij P N (Live hin) σ→(e= .normal∨e= .ret)∧∃T cs h2,look σ.h b=some (.var T (.int .i32 1::cs))∧(∀b',look h2 b'=look (put b (.var T (.int .i32 0::cs)) σ.h) b')∧po P rs (Live hin) ⟨σ.t,h2,σ.n⟩ r hout)):Con P f ds hin r hout:=by
 subst hN hrs
 refine⟨⟨fn,hf,by rw[hb];rfl,hname⟩,fun w A ρ vs s hlen hv=>?_⟩
 obtain⟨e,σ,hA,hfin⟩:=hF (fun d hd=>by
  obtain⟨i,hi,rfl⟩:=bY hd
  exact(hv i hi).bnd 6) (fun b x hx=>s.bndB 6 hx)
 refine calls_of_wp_defers hf hb ?_
 have hs0:SimS P w (qD ρ hin) A fn.ntmps ρ (Live hin) ⟨uh ds,hin,n0⟩ {tmps:=vs++Array.replicate (fn.ntmps-vs.size) undef,defers:=[]} w:=by
  refine⟨hn0,fun b hb=>hb,ρ,fun b hb=>rfl,s.base,s.inS,s.fr,rfl,by simp;omega,fun k d hk=>?_,s.blk,s.own,s.inj,s.gl⟩
  have hk2:look ((ds.zipIdx 0).map fun x=>(x.2,x.1)) k=some d:=hk
  rw[pP] at hk2
  simp only[aX,if_true,Nat.sub_zero] at hk2
  have hk':k<ds.length:=(aR.1 hk2).1
  refine⟨by omega,?_⟩
  have:=hv k hk'
  rw[ar,hk2] at this
  have hkv:k<vs.size:=by omega
  simpa[bK,Array.getElem?_append,hkv] using this
 refine wp_mono (hA _ _ _ ρ _ w rfl hs0) ?_
 clear hA
 rintro e' a' w' ⟨rfl,hs1⟩
 obtain⟨he,T,cs,h2,hlk,hh2,hres⟩:=hfin ⟨_,_,_,_,_,_,hs1⟩
 clear hfin
 obtain⟨hn,hK,ρ1,hρ1,s1⟩:=hs1
 have hdf:a'.defers=[dU L.unlock (ρ b).blk]:=s1.defers
 have hlv:Leaves P fn a'.tmps (fun e w'=>∃u ρ',e= .returned u∧(∀b,Live hin b→ρ' b=ρ b∧Live hout b)∧Sim P w (qD ρ hin) A 0 ρ' [] hout ef w'∧C ρ' (Live hout) (okOf A ρ' hout w') w' r u) a'.defers .returning w':=by
  obtain⟨c1,c2⟩:=s1.at0 hlk
  rw[hρ1 b hLb] at c1 c2
  rw[hdf]
  refine leaves_cons (f:=L.unlock) (args:=#[.pointer (some ⟨(ρ b).blk,0,none⟩)]) (by simp) ?_ ?_
  ·simp[invoke,callFunc,H.f_unlock,go_sem]
   rfl
  ·refine(Go.MuLone.unlock_deferred H _ .returning w' c1 c2).mono ?_
   rintro e u' w'' ⟨rfl,rfl,rfl⟩
   have s2:=(s1.cell0 hlk .i32 0).defs (dfs:=[])
   rw[hρ1 b hLb] at s2
   exact HW (a':={a' with defers:=[]}) (σ:=⟨σ.t,h2,σ.n⟩) (fun b2 hb2=>by
    have:Live (put b (.var T (.int .i32 0::cs)) σ.h) b2:=(hK b2 hb2).put
    unfold Live at this⊢
    rw[hh2]
    exact this) hρ1 (s2.congr (fun _=>rfl) hh2) hres
 rcases he with rfl|rfl<;>exact hlv
def JA (σ:VSt)(Q:VSt→Prop):Prop:=match aV σ.h 4 with
 |some (.var T (.int .i32 1::cs))=>Q ⟨σ.t,put 4 (.var T (.int .i32 0::cs)) σ.h,σ.n⟩
 |_=>False
theorem HA {L : Go.Conc.Locks.MuLink} (H : Go.Conc.Locks.MuLib P L) {Θ : TT} (hΘ : Θ.ok P) {f : FuncId} {fn : Func} {c : Code} (hf : P.funcs[f]? = some fn) (hb : fn.body = some c) (hname : (fn.name == "runtime.NumGoroutine") = false) (pr : Bool) {vs : List V} {hin : VH} (m n0 : Nat) (hn0 : 4 + m = n0) (hlt : z6 n0 hin = true) (hnd : j8 (keysV hin) = true) (hl : Nat.ble vs.length fn.ntmps = true)
  (hlb:Live (toH hin) (4,0)) {R:V→VH→Prop} {r0:V} {hout0:VH} (h0:R r0 hout0)
  (h:∀K,KB m K→K (4,0)→(∀d∈ak vs,bnd 6 d)→(∀x∈hin,∀d∈x.2.blks,bndB 6 d)→Ko P fn.ntmps K L.unlock (4,0) c (HV fun σ=>JA σ fun σ=>zC Θ fn.results.toList m pr σ fun r hout=>qx (lW hin) r hout (R r)) ⟨ae vs 0,hin,n0⟩):∃r hout,R r hout∧ag P f vs hin r hout:=by
 have hlen:(ak vs).length≤fn.ntmps:=by rw[aL];exact Nat.le_of_ble_eq_true hl
 have e1:uh (ak vs)=fP (ae vs 0):=sd vs 0
 have hfr:=uo hlt
 have hK:KB m (Live (toH hin)):=by
  intro b hb
  rcases cG b.1 (4+m) with hlt|hge
  ·exact hlt
  ·unfold Live at hb
   rw[hfr b (by omega)] at hb
   cases hb
 have hbnd:(∀b x,look (toH hin) b=some x→bndB 6 x)→∀x∈hin,∀d∈x.2.blks,bndB 6 d:=by
  rintro hq ⟨k,x⟩ hx d hd
  obtain⟨i,hi⟩:=iR hd
  exact hq (k,i) d (av (iq (by rw[fh];exact i6 hnd) hx) hi)
 rcases ju ((∀d∈ak vs,bnd 6 d)∧∀b x,look (toH hin) b=some x→bndB 6 x) with hbb|hbb
 ·obtain⟨e,σ',h1,h2⟩:=h _ hK hlb hbb.1 (hbnd hbb.2)
  rcases ju (ij P fn.ntmps (Live (toH hin)) σ'.toD) with hr|hr
  ·have h3:=h2 hr
   have hfin:(e= .normal∨e= .ret)∧JA σ' fun σ=>zC Θ fn.results.toList m pr σ fun r hout=>qx (lW hin) r hout (R r):=by
    cases e with
    |normal=>exact⟨.inl rfl,h3⟩
    |ret=>exact⟨.inr rfl,h3⟩
    |_=>exact h3.elim
   obtain⟨he,hfin⟩:=hfin
   unfold JA at hfin
   split at hfin
   ·rename_i T cs hlk
    rw[aS] at hlk
    obtain⟨r,hout1,q1,q2⟩:=Bp hΘ hK hfin
    obtain⟨hout,q1,q2⟩:=xj (fun b hb hlt=>by
     unfold Live at hb
     rw[ap] at hb
     obtain⟨d,hd⟩:=mD.1 hb
     obtain⟨y,hy,-⟩:=bw.1 hd
     simp only[lW,eM]
     exact⟨by rw[←fh];exact aB.2 ⟨_,di hy,rfl⟩,by simpa[Nat.blt_eq] using hlt⟩) q1 q2
    refine⟨r,hout,q2,vg H hf hb hname rfl rfl hlen hfr hlb fun _ _=>⟨e,σ'.toD,?_,fun _=>⟨he,T,ak cs,toH (put 4 (.var T (.int .i32 0::cs)) σ'.h),av (i:=0) hlk rfl,fun b'=>?_,q1⟩⟩⟩
    ·rw[e1]
     exact h1
    ·show look (toH (put 4 (.var T (.int .i32 0::cs)) σ'.h)) b'=look (put (4,0) (.var T (ak (.int .i32 0::cs))) (toH σ'.h)) b'
     obtain⟨b1,b2⟩:=b'
     rw[ap,af,af,ap]
     by_cases e:b1=4
     ·subst e
      rw[if_pos rfl,hlk]
      cases b2 with
      |zero=>rw[if_pos rfl];rfl
      |succ j=>rw[if_neg (by simp)];rfl
     ·rw[if_neg e,if_neg (fun h=>e (Prod.mk.inj h).1)]
   ·exact hfin.elim
  ·refine⟨r0,hout0,h0,vg H hf hb hname rfl rfl hlen hfr hlb fun _ _=>⟨e,σ'.toD,?_,fun h=>absurd h hr⟩⟩
   rw[e1]
   exact h1
 ·exact⟨r0,hout0,h0,vg H hf hb hname rfl rfl hlen hfr hlb fun b1 b2=>absurd ⟨b1,b2⟩ hbb⟩
theorem A5 {L : Go.Conc.Locks.MuLink} (H : Go.Conc.Locks.MuLib P L) {Θ : TT} (hΘ : Θ.ok P) {f : FuncId} {fn : Func} {c : Code} (hf : P.funcs[f]? = some fn) (hb : fn.body = some c) (hname : (fn.name == "runtime.NumGoroutine") = false) (pr : Bool) {vs : List V} {hin : VH} (m n0 : Nat) (hn0 : 4 + m = n0) (hlt : z6 n0 hin = true) (hnd : j8 (keysV hin) = true) (hl : Nat.ble vs.length fn.ntmps = true) (hlb : Live (toH hin) (4, 0)) {r : V} {hout : VH}
  (h:∀K,KB m K→K (4,0)→(∀d∈ak vs,bnd 6 d)→(∀x∈hin,∀d∈x.2.blks,bndB 6 d)→Ko P fn.ntmps K L.unlock (4,0) c (HV fun σ=>JA σ fun σ=>zC Θ fn.results.toList m pr σ fun r' hout'=>qx (lW hin) r' hout' fun hout'=>r'=r∧hout'=hout) ⟨ae vs 0,hin,n0⟩):ag P f vs hin r hout:=by
 obtain⟨r',hout',⟨rfl,rfl⟩,h2⟩:=HA H hΘ hf hb hname pr m n0 hn0 hlt hnd hl hlb (R:=fun r' hout'=>r'=r∧hout'=hout) ⟨rfl,rfl⟩ h
 exact h2
end Go.Proofs.YtpefhoohfkeflabGreatDoor.Am
namespace Go.Proofs.YtpefhoohfkeflabGreatDoor.Am
open Go
attribute [local irreducible] Mk ci Ari fF mI jx ca cR iW fv At ag
set_option maxRecDepth 10000
theorem wh (w:Wrl)(m:Int):ag Tryz.prog 72 [bd w,.int .i64 m] [] (.bool (good w m)) []:=by
 have hI:=nv m 0 ((w.com.length:Int)-1)
 refine ab aj Tryz.func72 rfl rfl false 0 4 rfl rfl rfl rfl fun K hK hb1 hb2=>?_;simp only[ae,enc,Nat.reduceAdd]
 simp[ak,V.toD,bnd,ai,D.cells] at hb1
 cases h:jV m 0 ((w.com.length:Int)-1)
 ·rw[h] at hI
  (repeat' first|refine st ?_|refine sa fun xe hxe=>?_|refine sb (fun hq=>?_) fun hq=>?_|refine cr (hI) ?_|exact aa)
  exact⟨by simp[good,du,h],rfl⟩
 ·rw[h] at hI
  (repeat' first|refine st ?_|refine sa fun xe hxe=>?_|refine sb (fun hq=>?_) fun hq=>?_|refine cr (hI) ?_|exact aa)
  exact⟨by simp[good,du,h],rfl⟩
theorem FN {ps:List Ppl}{i:Nat}{p:Ppl}(h:ps[i]?=some p)(m:Int):lJ (ps.take (i+1)) m=if p.v.author=m then(if lJ (ps.take i) m<p.v.round+1 then p.v.round+1 else lJ (ps.take i) m) else lJ (ps.take i) m:=by
 obtain⟨hl,rfl⟩:=aR.1 h
 rw[b9 hl,rD]
 split
 ·split<;>omega
 ·rfl
theorem Jp (w:Wrl)(m:Int)(hp:∀p∈w.props,0≤p.v.round∧p.v.round≤30)(hl:w.props.length≤1000):ag Tryz.prog 76 [bd w,.int .i64 m] [] (.int .i64 (lJ w.props m)) []:=by
 refine ab aj Tryz.func76 rfl rfl false 0 4 rfl rfl rfl rfl fun K hK hb1 hb2=>?_;simp only[ae,enc,Nat.reduceAdd]
 clear hb1 hb2
 (repeat' first|refine st ?_|refine sa fun xe hxe=>?_|refine sb (fun hq=>?_) fun hq=>?_|exact aa)
 refine ah hK [] [1,2,5,6] (fun i:Nat=>⟨[(1,.int .i64 m),(2,.ptr 4 0),(5,.int .i64 (lJ (w.props.take i) m)),(6,.int .i64 (i:Int))],[(4,.var 36 (bd w).cells)],5⟩) (fun i=>i≤w.props.length) (fun i=>w.props.length-i) 0 (by simp) rfl ?_
 intro i hi
 by_cases hlt:i<w.props.length
 ·have hxe:w.props[i]?=some w.props[i]:=am hlt
  have hs:=FN hxe m
  have hpb:=hp _ (be hlt)
  have hnb:=FK (m:=m) fun p hpp=>hp p (jX (i:=i) hpp)
  generalize w.props[i]=p at *
  by_cases ha:p.v.author=m
  ·rw[if_pos ha] at hs
   (repeat' first|refine st ?_|refine sa fun xe hxe=>?_|refine sb (fun hq=>?_) fun hq=>?_|exact aa)
   exact⟨i+1,by omega,by omega,by rw[hs];rfl⟩
  ·rw[if_neg ha] at hs
   (repeat' first|refine st ?_|refine sa fun xe hxe=>?_|refine sb (fun hq=>?_) fun hq=>?_|exact aa)
   exact⟨i+1,by omega,by omega,by rw[hs];rfl⟩
 ·(repeat' first|refine st ?_|refine sa fun xe hxe=>?_|refine sb (fun hq=>?_) fun hq=>?_|exact aa)
  rw[bp (by omega)]
  exact⟨rfl,rfl⟩
theorem Mw (l:List Int)(n:Int)(hl:l.length≤1000):ag Tryz.prog 122 [.lst (.int .i64) l,.int .i64 n] [] (.lst (.int .i64) (fZ l n)) []:=by
 refine ab aj Tryz.func122 rfl rfl true 0 4 rfl rfl rfl rfl fun K hK hb1 hb2=>?_;simp only[ae,enc,Nat.reduceAdd]
 clear hb1 hb2
 (repeat' first|refine st ?_|refine sa fun xe hxe=>?_|refine sb (fun hq=>?_) fun hq=>?_|exact aa)
 refine ah hK [] [0,1,5] (fun k:Nat=>⟨[(0,.lst (.int .i64) l),(1,.int .i64 n),(5,.int .i64 (k:Int))],[],4⟩) (fun k=>k≤l.length∧∀y∈l.take k,y<n) (fun k=>l.length-k) 0 ⟨by simp,by simp⟩ rfl ?_
 rintro k ⟨hk,hall⟩
 have hat:=BD (l:=l) (n:=n) (k:=k) hall hk
 have e1:lT l none (some (.int .i64 k)) 0 (k:Int).toNat=l.take k:=by simp[lT]
 have e2:lT l (some (.int .i64 k)) none (k:Int).toNat l.length=l.drop k:=by simp[lT]
 have hl1:(l.take k).length=k:=by rw[bP];omega
 have hl2:(l.drop k).length=l.length-k:=lB ..
 by_cases hlt:k<l.length
 ·have hxe:l[k]?=some l[k]:=am hlt
  have hsn:l.take (k+1)=l.take k++[l[k]]:=b9 hlt
  generalize l[k]=x at *
  by_cases hx:x<n
  ·(repeat' first|refine st ?_|refine sa fun xe hxe=>?_|refine sb (fun hq=>?_) fun hq=>?_|exact aa)
   exact⟨k+1,⟨by omega,by rw[hsn];intro y hy;rcases bh.1 hy with h|h;exact hall y h;rw[aZ.1 h];exact hx⟩,by omega,rfl⟩
  ·have hat:=hat fun y hy=>by rw[hxe] at hy;obtain rfl:=aq hy;exact hx
   rw[hxe] at hat
   by_cases hxn:x=n
   ·rw[if_pos (by rw[hxn])] at hat
    rw[hat]
    (repeat' first|refine st ?_|refine sa fun xe hxe=>?_|refine sb (fun hq=>?_) fun hq=>?_|exact aa)
    exact⟨rfl,rfl⟩
   ·rw[if_neg (by simpa using hxn)] at hat
    rw[hat]
    (repeat' first|refine st ?_|refine sa fun xe hxe=>?_|refine sb (fun hq=>?_) fun hq=>?_|exact aa)
    rw[e1]
    refine gd ?_ ?_
    ·refine mV (xs:=([]:List Int)) (ys:=l.take k) (by simp) (by omega) ?_;decide
    (conv=>whnf)
    (repeat' first|refine st ?_|refine sa fun xe hxe=>?_|refine sb (fun hq=>?_) fun hq=>?_|exact aa)
    rw[e2]
    refine gd ?_ ?_
    ·refine mV (xs:=[]++l.take k++[n]) (ys:=l.drop k) (by rw[dS,aP,mF];omega) (by omega) ?_;decide
    (conv=>whnf)
    (repeat' first|refine st ?_|refine sa fun xe hxe=>?_|refine sb (fun hq=>?_) fun hq=>?_|exact aa)
    exact⟨rfl,rfl⟩
 ·obtain rfl:k=l.length:=by omega
  have hat:=hat fun y hy=>by rw[ep (ax _)] at hy;cases hy
  rw[ep (ax _),if_neg (by simp)] at hat
  rw[hat]
  (repeat' first|refine st ?_|refine sa fun xe hxe=>?_|refine sb (fun hq=>?_) fun hq=>?_|exact aa)
  rw[e1]
  refine gd ?_ ?_
  ·refine mV (xs:=([]:List Int)) (ys:=l.take l.length) (by simp) (by omega) ?_;decide
  (conv=>whnf)
  (repeat' first|refine st ?_|refine sa fun xe hxe=>?_|refine sb (fun hq=>?_) fun hq=>?_|exact aa)
  rw[e2]
  refine gd ?_ ?_
  ·refine mV (xs:=[]++l.take l.length++[n]) (ys:=l.drop l.length) (by rw[dS,aP,mF];omega) (by omega) ?_;decide
  (conv=>whnf)
  (repeat' first|refine st ?_|refine sa fun xe hxe=>?_|refine sb (fun hq=>?_) fun hq=>?_|exact aa)
  exact⟨rfl,rfl⟩
theorem IG {n:Nat}(h:n≤1000000):n≤2000000:=by omega
theorem qb (v:Vtx)(hl:v.parents.length≤2000000):ag Tryz.prog 86 [cZ v] [] (cZ v) []:=by
 refine ab aj Tryz.func86 rfl rfl true 0 4 rfl rfl rfl rfl fun K hK hb1 hb2=>?_;simp only[ae,enc,Nat.reduceAdd]
 clear hb1 hb2
 (repeat' first|refine st ?_|refine sa fun xe hxe=>?_|refine sb (fun hq=>?_) fun hq=>?_|exact aa)
 exact⟨rfl,rfl⟩
theorem Cg (g:List Vtx)(hl:g.length≤1000)(hv:∀v∈g,v.parents.length≤1000000):ag Tryz.prog 123 [.lst .vtx g] [] (.lst .vtx g) []:=by
 refine ab aj Tryz.func123 rfl rfl true 0 4 rfl rfl rfl rfl fun K hK hb1 hb2=>?_;simp only[ae,enc,Nat.reduceAdd]
 clear hb1 hb2
 (repeat' first|refine st ?_|refine sa fun xe hxe=>?_|refine sb (fun hq=>?_) fun hq=>?_|exact aa)
 refine ah hK [] [0,3,4] (fun i:Nat=>⟨[(0,.lst .vtx g),(3,.ref 4),(4,.int .i64 (i:Int))],[(4,.row 73 .vtx (g.take i))],5⟩) (fun i=>i≤g.length) (fun i=>g.length-i) 0 (by simp) rfl ?_
 intro i hi
 by_cases hlt:i<g.length
 ·have hxe:g[i]?=some g[i]:=am hlt
  have hsn:g.take (i+1)=g.take i++[g[i]]:=b9 hlt
  have hvl:=hv _ (be hlt)
  have hll:(g.take i).length=i:=by rw[bP];omega
  generalize g[i]=v at *
  generalize g.take i=l at *
  (repeat' first|refine st ?_|refine sa fun xe hxe=>?_|refine sb (fun hq=>?_) fun hq=>?_|refine cr (qb _ (IG hvl)) ?_|exact aa)
  exact⟨i+1,by omega,by omega,by rw[hsn];rfl⟩
 ·(repeat' first|refine st ?_|refine sa fun xe hxe=>?_|refine sb (fun hq=>?_) fun hq=>?_|exact aa)
  rw[bp (by omega)]
  exact⟨rfl,rfl⟩
theorem KR {g:List Vtx}{r a:Int}(h:eg g r a=false):lG g r a<0:=by
 have:=zE g r a
 simpa[h] using this
theorem Mn (g:List Vtx)(v:Vtx)(hl:g.length≤400)(hv:∀u∈g,u.parents.length≤1000000)(hvp:v.parents.length≤1000000)(hr:-1000000<v.round∧v.round<1000000)(h1:eg g v.round v.author=false)(h2:parOK g v=true):ag Tryz.prog 84 [.lst .vtx g,cZ v] [] (.tup [.lst .vtx (gG g v),.int .i64 0]) []:=by
 have hF:=pD g v.round v.author
 have hF2:=KR h1
 have hP:=eR g v hr
 rw[h2] at hP
 refine ab aj Tryz.func84 rfl rfl true 0 4 rfl rfl rfl rfl fun K hK hb1 hb2=>?_;simp only[ae,enc,Nat.reduceAdd]
 clear hb1 hb2
 generalize lG g v.round v.author=fi at *
 (repeat' first|refine st ?_|refine sa fun xe hxe=>?_|refine sb (fun hq=>?_) fun hq=>?_|refine cr (hF) ?_|refine cr (hP) ?_|exact aa)
 refine ah hK [] [0,3,7,8] (fun k:Nat=>⟨[(0,.lst .vtx g),(3,.ptr 4 0),(7,.ref 5),(8,.int .i64 (k:Int))],[(4,.var 73 (cZ v).cells),(5,.row 73 .vtx (g.take k))],6⟩) (fun k=>k≤g.length∧∀y∈g.take k,bef y v=true) (fun k=>g.length-k) 0 ⟨by simp,by simp⟩ rfl ?_
 rintro k ⟨hk,hall⟩
 have hat:=BE (g:=g) (v:=v) (k:=k) hall hk
 have hll:(g.take k).length=k:=by rw[bP];omega
 have e2:lT g (some (.int .i64 k)) none (k:Int).toNat g.length=g.drop k:=by simp[lT]
 have hdl:(g.drop k).length=g.length-k:=lB ..
 have hC:=Cg (g.drop k) (by omega) fun u hu=>hv u (List.mem_of_mem_drop hu)
 by_cases hlt:k<g.length
 ·have hxe:g[k]?=some g[k]:=am hlt
  have hsn:g.take (k+1)=g.take k++[g[k]]:=b9 hlt
  have hxl:=hv _ (be hlt)
  generalize g[k]=x at *
  have hB:=n5 x v
  cases hb:bef x v
  ·rw[hb] at hB
   have hat:=hat fun y hy=>by rw[hxe] at hy;obtain rfl:=aq hy;exact hb
   rw[hat]
   generalize g.take k=lt at *
   (repeat' first|refine st ?_|refine sa fun xe hxe=>?_|refine sb (fun hq=>?_) fun hq=>?_|refine cr (hB) ?_|refine cr (qb _ (IG hvp)) ?_|exact aa)
   have e3:lT g (some (.int .i64 (lt.length:Int))) none (lt.length:Int).toNat g.length=g.drop k:=by rw[hll];exact e2
   rw[e3]
   (repeat' first|refine st ?_|refine sa fun xe hxe=>?_|refine sb (fun hq=>?_) fun hq=>?_|refine cr (hC) ?_|exact aa)
   exact⟨rfl,rfl⟩
  ·rw[hb] at hB
   generalize hlt2:g.take k=lt at *
   (repeat' first|refine st ?_|refine sa fun xe hxe=>?_|refine sb (fun hq=>?_) fun hq=>?_|refine cr (hB) ?_|refine cr (qb _ (IG hxl)) ?_|exact aa)
   exact⟨k+1,⟨by omega,by rw[hsn];exact bL hall hb⟩,by omega,by rw[hsn];rfl⟩
 ·have hat:=hat fun y hy=>by rw[ep (by omega)] at hy;cases hy
  rw[hat]
  generalize g.take k=lt at *
  (repeat' first|refine st ?_|refine sa fun xe hxe=>?_|refine sb (fun hq=>?_) fun hq=>?_|refine cr (qb _ (IG hvp)) ?_|exact aa)
  have e3:lT g (some (.int .i64 (lt.length:Int))) none (lt.length:Int).toNat g.length=g.drop k:=by rw[hll];exact e2
  rw[e3]
  (repeat' first|refine st ?_|refine sa fun xe hxe=>?_|refine sb (fun hq=>?_) fun hq=>?_|refine cr (hC) ?_|exact aa)
  exact⟨rfl,rfl⟩
theorem Ay (w:Wrl)(m d:Int)(h:WOK w):ag Tryz.prog 35 [bd w,.int .i64 m,.int .i64 d] [] (bd (eJ w m d)) []:=by
 have hG:=wh w m
 have hD:=su d
 have hN:=Jp w m (fun p hp=>(bG (h.pv p hp).1).1) (by have:=h.plen;omega)
 have hpl:=h.plen
 have hno:jH w m d=false→eJ w m d=w:=fun h=>by simp[eJ,h]
 refine ab aj Tryz.func35 rfl rfl true 0 4 rfl rfl rfl rfl fun K hK hb1 hb2=>?_;simp only[ae,enc,Nat.reduceAdd]
 clear hb1 hb2
 cases h1:good w m
 ·rw[h1] at hG
  rw[hno (by simp[jH,h1])]
  (repeat' first|refine st ?_|refine sa fun xe hxe=>?_|refine sb (fun hq=>?_) fun hq=>?_|refine cr (hG) ?_|exact aa)
  exact⟨rfl,rfl⟩
 rw[h1] at hG
 cases h2:jV d 0 990
 ·rw[h2] at hD
  rw[hno (by simp[jH,h2])]
  (repeat' first|refine st ?_|refine sa fun xe hxe=>?_|refine sb (fun hq=>?_) fun hq=>?_|refine cr (hG) ?_|refine cr (hD) ?_|exact aa)
  exact⟨rfl,rfl⟩
 rw[h2] at hD
 by_cases h3:w.props.length<220
 rotate_left
 ·rw[hno (by simp[jH,h3])]
  (repeat' first|refine st ?_|refine sa fun xe hxe=>?_|refine sb (fun hq=>?_) fun hq=>?_|refine cr (hG) ?_|refine cr (hD) ?_|exact aa)
  exact⟨rfl,rfl⟩
 obtain⟨hx,hvm,hml⟩:=h.view h1
 have hgo:=fX (h.gra _ hvm)
 have hvl:=h.vl _ hvm
 have hgr:=fg.1 h1
 have hvlen:=h.vlen
 have hH:=Nn w.com (view w m) hgo (by omega)
 have hhb:=oy w.com (view w m) 31
 have hhb:-1≤iJ w.com (view w m)∧iJ w.com (view w m)<31:=hhb
 have hnb:=FK (ps:=w.props) (m:=m) fun p hp=>(bG (h.pv p hp).1).1
 have hB:jH w m d=(decide (lJ w.props m≤(ir w m d).round) && vtxS w.com (ir w m d)):=by simp[jH,h1,h2,h3]
 by_cases h4:0<iJ w.com (view w m)+1
 ·have hA:=ze (view w m) (iJ w.com (view w m)+1-1) (by omega)
  have hv:ir w m d=⟨iJ w.com (view w m)+1,m,fx (view w m) (iJ w.com (view w m)+1-1),d⟩:=by
   rw[ir,if_pos h4,show iJ w.com (view w m)+1-1=iJ w.com (view w m) by omega]
  have hV:=nB w.com (ir w m d) h.com
  rw[hv] at hV hB
  have hadd:jH w m d=true→eJ w m d=tR w ⟨iJ w.com (view w m)+1,m,fx (view w m) (iJ w.com (view w m)+1-1),d⟩:=fun hb=>by simp only[eJ,hb,if_true,hv]
  generalize fx (view w m) (iJ w.com (view w m)+1-1)=au at *
  generalize iJ w.com (view w m)=hh at *
  generalize view w m=g at *
  by_cases h5:lJ w.props m≤hh+1
  rotate_left
  ·rw[hno (by rw[hB];simp[h5])]
   generalize lJ w.props m=nn at *
   (repeat' first|refine st ?_|refine sa fun xe hxe=>?_|refine sb (fun hq=>?_) fun hq=>?_|refine cr (hG) ?_|refine cr (hD) ?_|refine cr (hH) ?_|refine cr (hA) ?_|refine cr (hN) ?_|refine cr (hV) ?_|exact aa)
   exact⟨rfl,rfl⟩
  cases h6:vtxS w.com ⟨hh+1,m,au,d⟩
  ·rw[h6] at hV
   rw[hno (by rw[hB,h6,lE])]
   generalize lJ w.props m=nn at *
   (repeat' first|refine st ?_|refine sa fun xe hxe=>?_|refine sb (fun hq=>?_) fun hq=>?_|refine cr (hG) ?_|refine cr (hD) ?_|refine cr (hH) ?_|refine cr (hA) ?_|refine cr (hN) ?_|refine cr (hV) ?_|exact aa)
   exact⟨rfl,rfl⟩
  ·rw[h6] at hV
   rw[hadd (by rw[hB,h6];simpa using h5)]
   generalize lJ w.props m=nn at *
   (repeat' first|refine st ?_|refine sa fun xe hxe=>?_|refine sb (fun hq=>?_) fun hq=>?_|refine cr (hG) ?_|refine cr (hD) ?_|refine cr (hH) ?_|refine cr (hA) ?_|refine cr (hN) ?_|refine cr (hV) ?_|exact aa)
   exact⟨rfl,rfl⟩
 ·have hv:ir w m d=⟨iJ w.com (view w m)+1,m,[],d⟩:=by rw[ir,if_neg h4]
  have hV:=nB w.com (ir w m d) h.com
  rw[hv] at hV hB
  have hadd:jH w m d=true→eJ w m d=tR w ⟨iJ w.com (view w m)+1,m,[],d⟩:=fun hb=>by simp only[eJ,hb,if_true,hv]
  generalize iJ w.com (view w m)=hh at *
  generalize view w m=g at *
  by_cases h5:lJ w.props m≤hh+1
  rotate_left
  ·rw[hno (by rw[hB];simp[h5])]
   generalize lJ w.props m=nn at *
   (repeat' first|refine st ?_|refine sa fun xe hxe=>?_|refine sb (fun hq=>?_) fun hq=>?_|refine cr (hG) ?_|refine cr (hD) ?_|refine cr (hH) ?_|refine cr (hN) ?_|refine cr (hV) ?_|exact aa)
   exact⟨rfl,rfl⟩
  cases h6:vtxS w.com ⟨hh+1,m,[],d⟩
  ·rw[h6] at hV
   rw[hno (by rw[hB,h6,lE])]
   generalize lJ w.props m=nn at *
   (repeat' first|refine st ?_|refine sa fun xe hxe=>?_|refine sb (fun hq=>?_) fun hq=>?_|refine cr (hG) ?_|refine cr (hD) ?_|refine cr (hH) ?_|refine cr (hN) ?_|refine cr (hV) ?_|exact aa)
   exact⟨rfl,rfl⟩
  ·rw[h6] at hV
   rw[hadd (by rw[hB,h6];simpa using h5)]
   generalize lJ w.props m=nn at *
   (repeat' first|refine st ?_|refine sa fun xe hxe=>?_|refine sb (fun hq=>?_) fun hq=>?_|refine cr (hG) ?_|refine cr (hD) ?_|refine cr (hH) ?_|refine cr (hN) ?_|refine cr (hV) ?_|exact aa)
   exact⟨rfl,rfl⟩
theorem Gy (w:Wrl)(i m:Int)(h:WOK w)(hi:ru w i=true):ag Tryz.prog 81 [bd w,.int .i64 i,.int .i64 m] [] (bd (ml w i m)) []:=by
 obtain⟨hl,hx,hp⟩:=lr hi
 have hpl:=h.plen
 have hir:=aC.1 hi
 have hI:=Mw (aW w i).members m (by have:=h.mem _ hp;omega)
 have hs:ml w i m={w with props:=w.props.set i.toNat ⟨(aW w i).v,fZ (aW w i).members m⟩}:=rfl
 rw[hs]
 refine ab aj Tryz.func81 rfl rfl true 0 4 rfl rfl rfl rfl fun K hK hb1 hb2=>?_;simp only[ae,enc,Nat.reduceAdd]
 clear hb1 hb2
 generalize aW w i=p at *
 generalize fZ p.members m=ms at *
 (repeat' first|refine st ?_|refine sa fun xe hxe=>?_|refine sb (fun hq=>?_) fun hq=>?_|exact aa)
 obtain rfl:xe=p:=aq (hxe.symm.trans hx)
 (repeat' first|refine st ?_|refine sa fun xe hxe=>?_|refine sb (fun hq=>?_) fun hq=>?_|refine cr (hI) ?_|exact aa)
 exact⟨rfl,rfl⟩
theorem AE (w:Wrl)(m i:Int)(h:WOK w):ag Tryz.prog 36 [bd w,.int .i64 m,.int .i64 i] [] (bd (eS w m i)) []:=by
 have hG:=wh w m
 have hI:=nv i 0 ((w.props.length:Int)-1)
 have hpl:=h.plen
 have hno:jI w m i=false→eS w m i=w:=fun h=>by simp[eS,h]
 refine ab aj Tryz.func36 rfl rfl true 0 4 rfl rfl rfl rfl fun K hK hb1 hb2=>?_;simp only[ae,enc,Nat.reduceAdd]
 clear hb1 hb2
 cases h1:good w m
 ·rw[h1] at hG
  rw[hno (by simp[jI,h1])]
  (repeat' first|refine st ?_|refine sa fun xe hxe=>?_|refine sb (fun hq=>?_) fun hq=>?_|refine cr (hG) ?_|exact aa)
  exact⟨rfl,rfl⟩
 rw[h1] at hG
 cases h2:jV i 0 ((w.props.length:Int)-1)
 ·rw[h2] at hI
  rw[hno (by simp[jI,ru,h2])]
  (repeat' first|refine st ?_|refine sa fun xe hxe=>?_|refine sb (fun hq=>?_) fun hq=>?_|refine cr (hG) ?_|refine cr (hI) ?_|exact aa)
  exact⟨rfl,rfl⟩
 rw[h2] at hI
 have h2':ru w i=true:=h2
 obtain⟨hl,hx,hp⟩:=lr h2'
 have hir:=aC.1 h2
 have hvx:=h.pv _ hp
 have hrd:=rT hvx.1
 obtain⟨hgx,hvm,hml⟩:=h.view h1
 have hgr:=fg.1 h1
 have hvlen:=h.vlen
 have hB:jI w m i=(!HH w m i && parOK (view w m) (aW w i).v):=by simp[jI,h1,h2']
 have hP:=eR (view w m) (aW w i).v hrd
 have hC:=Gy w i m h h2'
 have hyes:jI w m i=true→eS w m i=ml w i m:=fun h=>by simp[eS,h]
 have hdbl:HH w m i=(List.range w.props.length).any fun j=>(j:Int) !=i && (slt (w.props.getD j p0).v (aW w i).v && (w.props.getD j p0).members.contains m):=rfl
 generalize aW w i=p at *
 (repeat' first|refine st ?_|refine sa fun xe hxe=>?_|refine sb (fun hq=>?_) fun hq=>?_|refine cr (hG) ?_|refine cr (hI) ?_|exact aa)
 refine ah hK [] [1,2,3,6,7,8] (fun j:Nat=>⟨[(1,.int .i64 m),(2,.int .i64 i),(3,.ptr 4 0),(6,.ptr 5 0),(7,.ptr 6 0),(8,.int .i64 (j:Int))],[(4,.var 36 (bd w).cells),(5,.var 36 [.nils,.nils,.int .i64 0,.nils,.nils]),(6,.var 73 (cZ p.v).cells)],7⟩)
  (fun j=>j≤w.props.length∧∀k,k<j→((k:Int) !=i && (slt (w.props.getD k p0).v p.v && (w.props.getD k p0).members.contains m))=false) (fun j=>w.props.length-j) 0 ⟨by simp,by simp⟩ rfl ?_
 rintro j ⟨hj,hall⟩
 by_cases hlt:j<w.props.length
 ·have hxq:w.props[j]?=some (w.props.getD j p0):=by rw[ar,am hlt];rfl
  have hqm:w.props.getD j p0∈w.props:=fA hlt
  have hyes2:((j:Int) !=i && (slt (w.props.getD j p0).v p.v && (w.props.getD j p0).members.contains m))=true→HH w m i=true:=fun hh=>by rw[hdbl];exact eZ.2 ⟨j,eN.2 hlt,hh⟩
  have hno2:((j:Int) !=i && (slt (w.props.getD j p0).v p.v && (w.props.getD j p0).members.contains m))=false→∀k,k<j+1→((k:Int) !=i && (slt (w.props.getD k p0).v p.v && (w.props.getD k p0).members.contains m))=false:=fun hh k hk=>by
   rcases cG k j with h5|h5
   ·exact hall k h5
   ·obtain rfl:k=j:=by omega
    exact hh
  generalize w.props.getD j p0=q at *
  have hS:=GL q.v p.v
  have hH:=Bx q.members m
  by_cases h3:(j:Int)=i
  ·(repeat' first|refine st ?_|refine sa fun xe hxe=>?_|refine sb (fun hq=>?_) fun hq=>?_|refine cr (hS) ?_|refine cr (hH) ?_|exact aa)
   exact⟨j+1,⟨by omega,hno2 (by simp[h3])⟩,by omega,rfl⟩
  cases h4:slt q.v p.v
  ·rw[h4] at hS
   (repeat' first|refine st ?_|refine sa fun xe hxe=>?_|refine sb (fun hq=>?_) fun hq=>?_|refine cr (hS) ?_|refine cr (hH) ?_|exact aa)
   exact⟨j+1,⟨by omega,hno2 (by simp[h4])⟩,by omega,rfl⟩
  rw[h4] at hS
  cases h5:q.members.contains m
  ·rw[h5] at hH
   (repeat' first|refine st ?_|refine sa fun xe hxe=>?_|refine sb (fun hq=>?_) fun hq=>?_|refine cr (hS) ?_|refine cr (hH) ?_|exact aa)
   exact⟨j+1,⟨by omega,hno2 (by rw[h5,lE,lE])⟩,by omega,rfl⟩
  ·rw[h5] at hH
   rw[hno (by rw[hB,hyes2 (by rw[h4,h5];simpa using h3)];rfl)]
   (repeat' first|refine st ?_|refine sa fun xe hxe=>?_|refine sb (fun hq=>?_) fun hq=>?_|refine cr (hS) ?_|refine cr (hH) ?_|exact aa)
   exact⟨rfl,rfl⟩
 ·have hnd:HH w m i=false:=by
   rw[hdbl,ck]
   intro hh
   obtain⟨k,hk,hh⟩:=eZ.1 hh
   rw[hall k (by have:=eN.1 hk;omega)] at hh
   cases hh
  rw[hnd] at hB
  generalize view w m=g at *
  cases h6:parOK g p.v
  ·rw[h6] at hP hB
   rw[hno hB]
   (repeat' first|refine st ?_|refine sa fun xe hxe=>?_|refine sb (fun hq=>?_) fun hq=>?_|refine cr (hP) ?_|exact aa)
   exact⟨rfl,rfl⟩
  ·rw[h6] at hP hB
   rw[hyes hB]
   (repeat' first|refine st ?_|refine sa fun xe hxe=>?_|refine sb (fun hq=>?_) fun hq=>?_|refine cr (hP) ?_|refine cr (hC) ?_|exact aa)
   exact⟨rfl,rfl⟩
theorem As (w:Wrl)(m i:Int)(h:WOK w):ag Tryz.prog 37 [bd w,.int .i64 m,.int .i64 i] [] (bd (dD w m i)) []:=by
 have hG:=wh w m
 have hI:=nv i 0 ((w.props.length:Int)-1)
 have hpl:=h.plen
 have hno:fe w m i=false→dD w m i=w:=fun h=>by simp[dD,h]
 refine ab aj Tryz.func37 rfl rfl true 0 4 rfl rfl rfl rfl fun K hK hb1 hb2=>?_;simp only[ae,enc,Nat.reduceAdd]
 clear hb1 hb2
 cases h1:good w m
 ·rw[h1] at hG
  rw[hno (by simp[fe,h1])]
  (repeat' first|refine st ?_|refine sa fun xe hxe=>?_|refine sb (fun hq=>?_) fun hq=>?_|refine cr (hG) ?_|exact aa)
  exact⟨rfl,rfl⟩
 rw[h1] at hG
 cases h2:jV i 0 ((w.props.length:Int)-1)
 ·rw[h2] at hI
  rw[hno (by simp[fe,ru,h2])]
  (repeat' first|refine st ?_|refine sa fun xe hxe=>?_|refine sb (fun hq=>?_) fun hq=>?_|refine cr (hG) ?_|refine cr (hI) ?_|exact aa)
  exact⟨rfl,rfl⟩
 rw[h2] at hI
 have h2':ru w i=true:=h2
 obtain⟨hl,hx,hp⟩:=lr h2'
 have hir:=aC.1 h2
 have hvx:=h.pv _ hp
 have hrd:=rT hvx.1
 obtain⟨hgx,hvm,hml⟩:=h.view h1
 have hgr:=fg.1 h1
 have hvlen:=h.vlen
 have h7:=h.len
 have hDn:=Ch w (aW w i) h.com hvx.2
 have hB:fe w m i=(don w.com (aW w i) && (!eg (view w m) (aW w i).v.round (aW w i).v.author && parOK (view w m) (aW w i).v)):=by simp[fe,h1,h2']
 have hyes:fe w m i=true→dD w m i={w with views:=w.views.set m.toNat (gG (view w m) (aW w i).v)}:=fun h=>by simp[dD,h]
 have hF:=pD (view w m) (aW w i).v.round (aW w i).v.author
 have hFl:=zE (view w m) (aW w i).v.round (aW w i).v.author
 have hP:=eR (view w m) (aW w i).v hrd
 have hAd:=Mn (view w m) (aW w i).v (by have:=h.vl _ hvm;omega) (fun u hu=>by have:=h.par (h.vv _ hvm u hu);omega) (by have:=h.par hvx.1;omega) hrd
 cases h3:don w.com (aW w i)
 ·rw[h3] at hDn
  rw[hno (by rw[hB,h3];rfl)]
  generalize aW w i=p at *
  (repeat' first|refine st ?_|refine sa fun xe hxe=>?_|refine sb (fun hq=>?_) fun hq=>?_|refine cr (hG) ?_|refine cr (hI) ?_|refine cr (hDn) ?_|exact aa)
  exact⟨rfl,rfl⟩
 rw[h3] at hDn
 generalize aW w i=p at *
 generalize view w m=g at *
 cases h4:eg g p.v.round p.v.author
 rotate_left
 ·have hFl:¬lG g p.v.round p.v.author<0:=by simpa[h4] using hFl
  rw[hno (by rw[hB,h3,h4];rfl)]
  generalize lG g p.v.round p.v.author=fi at *
  (repeat' first|refine st ?_|refine sa fun xe hxe=>?_|refine sb (fun hq=>?_) fun hq=>?_|refine cr (hG) ?_|refine cr (hI) ?_|refine cr (hDn) ?_|refine cr (hF) ?_|exact aa)
  exact⟨rfl,rfl⟩
 have hFl:lG g p.v.round p.v.author<0:=by simpa[h4] using hFl
 generalize lG g p.v.round p.v.author=fi at *
 cases h5:parOK g p.v
 ·rw[h5] at hP
  rw[hno (by rw[hB,h3,h4,h5];rfl)]
  (repeat' first|refine st ?_|refine sa fun xe hxe=>?_|refine sb (fun hq=>?_) fun hq=>?_|refine cr (hG) ?_|refine cr (hI) ?_|refine cr (hDn) ?_|refine cr (hF) ?_|refine cr (hP) ?_|exact aa)
  exact⟨rfl,rfl⟩
 rw[h5] at hP
 rw[hyes (by rw[hB,h3,h4,h5];rfl)]
 have hAd:=hAd h4 h5
 generalize gG g p.v=g2 at *
 (repeat' first|refine st ?_|refine sa fun xe hxe=>?_|refine sb (fun hq=>?_) fun hq=>?_|refine cr (hG) ?_|refine cr (hI) ?_|refine cr (hDn) ?_|refine cr (hF) ?_|refine cr (hP) ?_|refine cr (hAd) ?_|exact aa)
 exact⟨rfl,rfl⟩
theorem GF (w:Wrl)(v:Vtx)(h:WOK w)(hvl:v.parents.length≤2000000):ag Tryz.prog 38 [bd w,cZ v] [] (bd (iN w v)) []:=by
 have hpl:=h.plen
 have hno:jz w v=false→iN w v=w:=fun h=>by simp[iN,h]
 have hyes:jz w v=true→iN w v=tR w v:=fun h=>by simp[iN,h]
 have hV:=nB w.com v h.com
 refine ab aj Tryz.func38 rfl rfl true 0 4 rfl rfl rfl rfl fun K hK hb1 hb2=>?_;simp only[ae,enc,Nat.reduceAdd]
 clear hb1 hb2
 by_cases h1:w.bad<0
 ·rw[hno (by simp[jz];intro h9;omega)]
  (repeat' first|refine st ?_|refine sa fun xe hxe=>?_|refine sb (fun hq=>?_) fun hq=>?_|refine cr (hV) ?_|exact aa)
  exact⟨rfl,rfl⟩
 by_cases h2:v.author=w.bad
 rotate_left
 ·rw[hno (by simp[jz,h2])]
  (repeat' first|refine st ?_|refine sa fun xe hxe=>?_|refine sb (fun hq=>?_) fun hq=>?_|refine cr (hV) ?_|exact aa)
  exact⟨rfl,rfl⟩
 cases h3:vtxS w.com v
 ·rw[h3] at hV
  rw[hno (by simp[jz,h3])]
  (repeat' first|refine st ?_|refine sa fun xe hxe=>?_|refine sb (fun hq=>?_) fun hq=>?_|refine cr (hV) ?_|exact aa)
  exact⟨rfl,rfl⟩
 rw[h3] at hV
 by_cases h4:w.props.length<220
 rotate_left
 ·rw[hno (by simp[jz,h4])]
  (repeat' first|refine st ?_|refine sa fun xe hxe=>?_|refine sb (fun hq=>?_) fun hq=>?_|refine cr (hV) ?_|exact aa)
  exact⟨rfl,rfl⟩
 have hB:jz w v= !w.props.any fun p=>kV p.v v:=by
  have:(0:Int)≤w.bad:=by omega
  simp[jz,this,h2,h3,h4]
 (repeat' first|refine st ?_|refine sa fun xe hxe=>?_|refine sb (fun hq=>?_) fun hq=>?_|refine cr (hV) ?_|exact aa)
 refine ah hK [] [2,3,4,5] (fun j:Nat=>⟨[(2,.ptr 4 0),(3,.ptr 5 0),(4,.ptr 6 0),(5,.int .i64 (j:Int))],[(4,.var 36 (bd w).cells),(5,.var 73 (cZ v).cells),(6,.var 36 [.nils,.nils,.int .i64 0,.nils,.nils])],7⟩)
  (fun j=>j≤w.props.length∧∀p∈w.props.take j,kV p.v v=false) (fun j=>w.props.length-j) 0 ⟨by simp,by simp⟩ rfl ?_
 rintro j ⟨hj,hall⟩
 by_cases hlt:j<w.props.length
 ·have hxq:w.props[j]?=some w.props[j]:=am hlt
  have hsn:w.props.take (j+1)=w.props.take j++[w.props[j]]:=b9 hlt
  have hqm:w.props[j]∈w.props:=be hlt
  generalize w.props[j]=q at *
  have hS:=Aq q.v v
  cases h5:kV q.v v
  ·rw[h5] at hS
   (repeat' first|refine st ?_|refine sa fun xe hxe=>?_|refine sb (fun hq=>?_) fun hq=>?_|refine cr (hS) ?_|exact aa)
   exact⟨j+1,⟨by omega,by rw[hsn];exact bL hall h5⟩,by omega,rfl⟩
  ·rw[h5] at hS
   have:(w.props.any fun p=>kV p.v v)=true:=eZ.2 ⟨q,hqm,h5⟩
   rw[hno (by rw[hB,this];rfl)]
   (repeat' first|refine st ?_|refine sa fun xe hxe=>?_|refine sb (fun hq=>?_) fun hq=>?_|refine cr (hS) ?_|exact aa)
   exact⟨rfl,rfl⟩
 ·rw[bp (by omega)] at hall
  have:(w.props.any fun p=>kV p.v v)=false:=by
   rw[ck]
   intro hh
   obtain⟨p,hp,hh⟩:=eZ.1 hh
   rw[hall p hp] at hh
   cases hh
  rw[hyes (by rw[hB,this];rfl)]
  (repeat' first|refine st ?_|refine sa fun xe hxe=>?_|refine sb (fun hq=>?_) fun hq=>?_|refine cr (qb _ hvl) ?_|exact aa)
  exact⟨rfl,rfl⟩
abbrev tY (e:Evt):V:=.agg [.int .i64 e.kind,.int .i64 e.a,.int .i64 e.b,.int .i64 e.v.round,.int .i64 e.v.author,.lst (.int .i64) e.v.parents,.int .i64 e.v.digest]
theorem NT (w:Wrl)(e:Evt)(h:WOK w)(hvl:e.v.parents.length≤2000000):ag Tryz.prog 40 [bd w,tY e] [] (bd (jw w e)) []:=by
 have hpl:=h.plen
 have h1:=Ay w e.a e.b h
 have h2:=AE w e.a e.b h
 have h3:=As w e.a e.b h
 have h4:=GF w e.v h hvl
 have hI:=nv e.b 0 ((w.props.length:Int)-1)
 refine ab aj Tryz.func40 rfl rfl true 0 4 rfl rfl rfl rfl fun K hK hb1 hb2=>?_;simp only[ae,enc,Nat.reduceAdd]
 clear hb1 hb2
 unfold jw
 by_cases k1:e.kind=1
 ·rw[if_pos k1]
  generalize eJ w e.a e.b=w' at *
  (repeat' first|refine st ?_|refine sa fun xe hxe=>?_|refine sb (fun hq=>?_) fun hq=>?_|refine cr (h1) ?_|exact aa)
  exact⟨rfl,rfl⟩
 by_cases k2:e.kind=2
 ·rw[if_neg k1,if_pos k2]
  generalize eS w e.a e.b=w' at *
  (repeat' first|refine st ?_|refine sa fun xe hxe=>?_|refine sb (fun hq=>?_) fun hq=>?_|refine cr (h2) ?_|exact aa)
  exact⟨rfl,rfl⟩
 by_cases k3:e.kind=3
 ·rw[if_neg k1,if_neg k2,if_pos k3]
  generalize dD w e.a e.b=w' at *
  (repeat' first|refine st ?_|refine sa fun xe hxe=>?_|refine sb (fun hq=>?_) fun hq=>?_|refine cr (h3) ?_|exact aa)
  exact⟨rfl,rfl⟩
 by_cases k4:e.kind=4
 ·rw[if_neg k1,if_neg k2,if_neg k3,if_pos k4]
  generalize iN w e.v=w' at *
  (repeat' first|refine st ?_|refine sa fun xe hxe=>?_|refine sb (fun hq=>?_) fun hq=>?_|refine cr (h4) ?_|exact aa)
  exact⟨rfl,rfl⟩
 by_cases k5:e.kind=5
 ·rw[if_neg k1,if_neg k2,if_neg k3,if_neg k4,if_pos k5]
  by_cases h6:0≤w.bad
  ·cases h7:jV e.b 0 ((w.props.length:Int)-1)
   ·rw[h7] at hI
    have:iM w e.b=w:=by simp[iM,lQ,ru,h7]
    rw[this]
    (repeat' first|refine st ?_|refine sa fun xe hxe=>?_|refine sb (fun hq=>?_) fun hq=>?_|refine cr (hI) ?_|exact aa)
    exact⟨rfl,rfl⟩
   ·rw[h7] at hI
    have h7':ru w e.b=true:=h7
    have:iM w e.b=ml w e.b w.bad:=by simp[iM,lQ,h7',h6]
    rw[this]
    have h5:=Gy w e.b w.bad h h7'
    generalize ml w e.b w.bad=w' at *
    (repeat' first|refine st ?_|refine sa fun xe hxe=>?_|refine sb (fun hq=>?_) fun hq=>?_|refine cr (hI) ?_|refine cr (h5) ?_|exact aa)
    exact⟨rfl,rfl⟩
  ·have:iM w e.b=w:=by simp[iM,lQ,h6]
   rw[this]
   (repeat' first|refine st ?_|refine sa fun xe hxe=>?_|refine sb (fun hq=>?_) fun hq=>?_|refine cr (hI) ?_|exact aa)
   exact⟨rfl,rfl⟩
 ·rw[if_neg k1,if_neg k2,if_neg k3,if_neg k4,if_neg k5]
  (repeat' first|refine st ?_|refine sa fun xe hxe=>?_|refine sb (fun hq=>?_) fun hq=>?_|exact aa)
  exact⟨rfl,rfl⟩

end Go.Proofs.YtpefhoohfkeflabGreatDoor.Am
