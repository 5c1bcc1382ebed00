/- Runs while events are applied: deliveries, what the faulty member does. The lock of a run, under the numbers of this program. The plain machine: the lock of one goroutine; a function that defers its Unlock. Runs: what the specification's functions of events give. Runs: what the specification's functions of events give, put together. Runs: an event is applied, under the lock. Runs: what has been applied is handed back. Runs: what the program hands back, in rows of one's own. -/
import Derived.Conc.MuLone
import Derived.Defers
import Derived.Test.YthmfppknagbkeaaGreatPL9
set_option linter.unusedSimpArgs false
set_option linter.unusedVariables false
set_option maxHeartbeats 1000000
namespace Go.Proofs.YthmfppknagbkeaaGreat.Am
open Go
attribute [local irreducible] Mk bS Ari eQ pS kR cw eG jf jg At ai
set_option maxRecDepth 10000
theorem BW (s:Int)(w:Wrl)(xss:List (Option (List Int)))(ms:List PplM)(hw:WOK w)(hR:Rel w.props xss ms)(m i:Int)(hi:mH w i=false):ai Tryz.prog 87 [.ptr 4 0,.int .i64 m,.int .i64 i] (rW s w xss ms) (.bool false) (rW s w xss ms):=by
 have hpl:=hw.plen
 have hml:=hR.len
 refine aa aX Tryz.func87 rfl rfl false 3 7 rfl rfl rfl rfl fun K hK hb1 hb2=>?_;simp only[ae,enc,Nat.reduceAdd]
 clear hb1 hb2
 have hP:=uQ s w.com w.lead w.bad (w.views.map az) xss ms i (by rw[hml];exact vd hi) (by omega)
 (repeat' first|refine bf ?_|refine sa fun xe hxe=>?_|refine sb (fun hq=>?_) fun hq=>?_|refine cr (hP) ?_|exact True.intro)
 exact⟨rfl,rfl⟩
abbrev vC (w:Wrl)(m:Int)(v:Vtx):List (List (Option Vtx)):=(w.views.map az).set m.toNat ((az (view w m)).set (iG v) (some v))
theorem CM {w:Wrl}(hw:WOK w){m:Int}(hm:0≤m∧m<w.com.length){v:Vtx}(hv:fp v):(az (view w m))[v.round.toNat * 7+v.author.toNat]?=some ((az (view w m)).getD (v.round.toNat * 7+v.author.toNat) none)∧((az (view w m)).getD (v.round.toNat * 7+v.author.toNat) none).isSome=cq (view w m) v.round v.author:=by
 obtain⟨⟨a1,a2⟩,a3,a4⟩:=hv
 have hG:=(gk hw hm).2
 have:=m6 (fun u hu=>cK hw.com (hG.vtx u hu)) (r:=v.round) (a:=v.author) ⟨a1,a2⟩ ⟨a3,a4⟩
 rw[show (v.round*7+v.author).toNat=v.round.toNat * 7+v.author.toNat by omega] at this
 exact⟨by rw[List.getD_eq_getElem?_getD,List.getElem?_eq_getElem (by rw[ch];omega)];rfl,this⟩
set_option maxHeartbeats 1000000 in
theorem Ea (s:Int)(w:Wrl)(xss:List (Option (List Int)))(ms:List PplM)(hw:WOK w)(hR:Rel w.props xss ms)(m:Int)(i j:Nat)(hi:mH w i=true)(hj1:ms[i]?=some ⟨(prop w i).v,some j⟩)(hj2:xss[j]?=some (some (prop w i).members)):ai Tryz.prog 87 [.ptr 4 0,.int .i64 m,.int .i64 (i:Int)] (rW s w xss ms)
  (.bool (eI w m i)) (if eI w m i then rX s w.com w.lead w.bad (vC w m (prop w i).v) xss ms else rW s w xss ms):=by
 have hpl:=hw.plen
 have hml:=hR.len
 have hil:=(List.getElem?_eq_some_iff.1 hj1).1
 obtain⟨n,hn,hn1,hn2⟩:=lv hi
 obtain rfl:i=n:=by omega
 obtain⟨o1,o2⟩:=ly hw (List.mem_of_getElem? hn2)
 refine aa aX Tryz.func87 rfl rfl false 3 7 rfl rfl rfl rfl fun K hK hb1 hb2=>?_;simp only[ae,enc,Nat.reduceAdd]
 clear hb1 hb2
 have hP:=uR s w.com w.lead w.bad (w.views.map az) xss ms i (by omega) (by omega)
 have hC:=uO s w.com w.lead w.bad (w.views.map az) xss ms m
 rw[show (bK w.com m && m !=w.bad)=good w m from rfl] at hC
 cases hg:good w m
 ·have hF:eI w m i=false:=by unfold eI;rw[hg];rfl
  rw[hg] at hC
  (repeat' first|refine bf ?_|refine sa fun xe hxe=>?_|refine sb (fun hq=>?_) fun hq=>?_|refine cr (hP) ?_|refine cr (hC) ?_|exact True.intro)
  rw[hF]
  exact⟨rfl,rfl⟩
 ·rw[hg] at hC
  obtain⟨hm,-⟩:=cS.1 hg
  obtain⟨hk,hG⟩:=gk hw hm
  have hc:=hw.com
  have h7:=(aw.1 hc).2
  have hvl:(w.views.map az).length=w.com.length:=by rw[List.length_map,hw.vlen]
  have hxv:=zJ (n:=(w.views.map az).length) (m:=m) (by rw[hvl];exact hm)
  have hrl:((List.range (w.views.map az).length).map some).length=w.com.length:=by simp[hvl,hw.vlen]
  have hV:=yR (w.views.map az) m.toNat _ (prop w i).v hk (ch _) (jd hc o1).1 (jd hc o1).2
  rw[yQ hw hm o1] at hV
  have hD:=qH w.com (prop w i) hc o2
  obtain⟨hs1,hs2⟩:=CM hw hm (cK hc o1)
  obtain⟨⟨a1,a2⟩,a3,a4⟩:=cK hc o1
  have hpp:=kO hc o1
  have htl:=ch (view w m)
  cases hd:don w.com (prop w i)
  ·have hF:eI w m i=false:=by unfold eI;rw[hd];simp
   rw[hd] at hD
   (repeat' first|refine bf ?_|refine sa fun xe hxe=>?_|refine sb (fun hq=>?_) fun hq=>?_|refine cr (hP) ?_|refine cr (hC) ?_|((with_reducible refine gr ?_);(conv=>whnf))|((first|with_reducible refine aB (hD) ?_);conv=>whnf)|exact True.intro)
   rw[hF]
   exact⟨rfl,rfl⟩
  ·rw[hd] at hD
   cases hp:parOK (view w m) (prop w i).v
   ·have hF:eI w m i=false:=by unfold eI;rw[hp];simp
    rw[hp] at hV
    (repeat' first|refine bf ?_|refine sa fun xe hxe=>?_|refine sb (fun hq=>?_) fun hq=>?_|refine cr (hP) ?_|refine cr (hC) ?_|refine cr (hV) ?_|((with_reducible refine cA ?_);(conv=>whnf);(first|with_reducible refine aB (jq _ (Nat.le_trans hpp (by omega))) ?_);conv=>whnf)|((with_reducible refine gr ?_);(conv=>whnf))|((first|with_reducible refine aB (hD) ?_);conv=>whnf)|exact True.intro)
    rw[hF]
    exact⟨rfl,rfl⟩
   ·rw[hp] at hV
    have hB:eI w m i= !cq (view w m) (prop w i).v.round (prop w i).v.author:=by unfold eI;rw[hg,hi,hd,hp];simp
    cases ho:(az (view w m)).getD ((prop w i).v.round.toNat * 7+(prop w i).v.author.toNat) none with
    |some u=>
     rw[ho] at hs1 hs2
     rw[←hs2] at hB
     (repeat' first|refine bf ?_|refine sa fun xe hxe=>?_|refine sb (fun hq=>?_) fun hq=>?_|refine cr (hP) ?_|refine cr (hC) ?_|refine cr (hV) ?_|((with_reducible refine cA ?_);(conv=>whnf);(first|with_reducible refine aB (jq _ (Nat.le_trans hpp (by omega))) ?_);conv=>whnf)|((with_reducible refine gr ?_);(conv=>whnf))|((first|with_reducible refine aB (hD) ?_);conv=>whnf)|exact True.intro)
     rw[hB]
     exact⟨rfl,rfl⟩
    |none=>
     rw[ho] at hs1 hs2
     rw[←hs2] at hB
     (repeat' first|refine bf ?_|refine sa fun xe hxe=>?_|refine sb (fun hq=>?_) fun hq=>?_|refine cr (hP) ?_|refine cr (hC) ?_|refine cr (hV) ?_|((with_reducible refine cA ?_);(conv=>whnf);(first|with_reducible refine aB (jq _ (Nat.le_trans hpp (by omega))) ?_);conv=>whnf)|((with_reducible refine gr ?_);(conv=>whnf))|((first|with_reducible refine aB (hD) ?_);conv=>whnf)|exact True.intro)
     rw[hB]
     refine⟨rfl,?_⟩
     have e:iG (prop w i).v=(prop w i).v.round.toNat * 7+(prop w i).v.author.toNat:=by unfold iG;omega
     have e2:(vC w m (prop w i).v).length=(w.views.map az).length:=List.length_set ..
     show _=rX s w.com w.lead w.bad (vC w m (prop w i).v) xss ms
     delta rX
     rw[e2]
     delta vC
     rw[e]
theorem BK {w:Wrl}{v:Vtx}(h1:v.author=w.bad)(h2:∀p∈w.props,gm p.v v=false):fg w v=(vtxS w.com v && decide (w.props.length<220)):=by
 have h3:w.props.any (fun p=>gm p.v v)=false:=by
  rw[List.any_eq_false]
  intro p hp
  rw[h2 p hp]
  simp
 unfold fg
 rw[h3,h1]
 cases h:vtxS w.com v
 ·simp
 ·have:=(bR h).2.1.1
  rw[decide_eq_true (p:=0≤w.bad) (by omega)]
  simp
set_option maxHeartbeats 1000000 in
theorem zS (s:Int)(w:Wrl)(xss:List (Option (List Int)))(ms:List PplM)(hw:WOK w)(hR:Rel w.props xss ms)(v:Vtx):ai Tryz.prog 88 [.ptr 4 0,bu v] (rW s w xss ms) (.bool (fg w v)) (if fg w v then Gz s w (xss++[some []]) (ms++[⟨v,some xss.length⟩]) else rW s w xss ms):=by
 have hpl:=hw.plen
 have hml:=hR.len
 have hc:=hw.com
 refine aa aX Tryz.func88 rfl rfl false 3 7 rfl rfl rfl rfl fun K hK hb1 hb2=>?_;simp only[ae,enc,Nat.reduceAdd]
 clear hb1 hb2
 cases c1:v.author !=w.bad
 ·have ha:v.author=w.bad:=by simpa using c1
  (repeat' first|refine bf ?_|refine sa fun xe hxe=>?_|refine sb (fun hq=>?_) fun hq=>?_|exact True.intro)
  refine ag hK [] [0,3,17,18,19] (fun k:Nat=>⟨[(0,.ptr 4 0),(3,.ptr 7 0),(17,.ref 6),(18,.int .i64 ms.length),(19,.int .i64 (k:Int))],rW s w xss ms++[(7,VB.var 43 (bu v).cells)],8⟩) (fun k=>k≤w.props.length∧∀p∈w.props.take k,gm p.v v=false) (fun k=>w.props.length-k) 0 (by simp) (by(conv=>whnf);rfl) ?_
  rintro k ⟨hk1,hall⟩
  by_cases hlt:k<w.props.length
  ·have hxe:w.props[k]?=some w.props[k]:=List.getElem?_eq_getElem hlt
   have hsn:w.props.take (k+1)=w.props.take k++[w.props[k]]:=List.take_succ_eq_append_getElem hlt
   obtain⟨jk,hq1,hq2⟩:=hR.get k _ hxe
   have hmem:=List.getElem_mem hlt
   generalize w.props[k]=q at *
   have hE:=jH q.v v
   cases c3:gm q.v v
   ·rw[c3] at hE
    (repeat' first|refine bf ?_|refine sa fun xe hxe=>?_|refine sb (fun hq=>?_) fun hq=>?_|refine cr (hE) ?_|exact True.intro)
    exact⟨k+1,⟨by omega,by rw[hsn];exact aS hall c3⟩,by omega,rfl⟩
   ·have hF:fg w v=false:=by
     unfold fg
     rw[List.any_eq_true.2 ⟨q,hmem,c3⟩]
     simp
    rw[c3] at hE
    (repeat' first|refine bf ?_|refine sa fun xe hxe=>?_|refine sb (fun hq=>?_) fun hq=>?_|refine cr (hE) ?_|exact True.intro)
    rw[hF]
    exact⟨rfl,rfl⟩
  ·rw[List.take_of_length_le (by omega)] at hall
   have heq:=BK ha hall
   cases hv:(vtxS w.com v && decide (w.props.length<220))
   ·rw[hv] at heq
    have hN:=uL s w.com w.lead w.bad (w.views.map az) xss ms v hc (by rw[hml];exact hv) (by omega)
    (repeat' first|refine bf ?_|refine sa fun xe hxe=>?_|refine sb (fun hq=>?_) fun hq=>?_|refine cr (hN) ?_|exact True.intro)
    rw[heq]
    exact⟨rfl,rfl⟩
   ·rw[hv] at heq
    simp only[Bool.and_eq_true,decide_eq_true_eq] at hv
    have hY:=uM s w.com w.lead w.bad (w.views.map az) xss ms v hc hv.1 (by omega)
    (repeat' first|refine bf ?_|refine sa fun xe hxe=>?_|refine sb (fun hq=>?_) fun hq=>?_|refine cr (hY) ?_|exact True.intro)
    refine dD (uC _ _ _ _) ?_
    (conv=>whnf)
    (repeat' first|refine bf ?_|refine sa fun xe hxe=>?_|refine sb (fun hq=>?_) fun hq=>?_|refine cr (hY) ?_|exact True.intro)
    rw[heq]
    exact⟨rfl,rfl⟩
 ·have hF:fg w v=false:=by
   have:(v.author==w.bad)=false:=by simpa using c1
   unfold fg
   rw[this]
   simp
  (repeat' first|refine bf ?_|refine sa fun xe hxe=>?_|refine sb (fun hq=>?_) fun hq=>?_|exact True.intro)
  rw[hF]
  exact⟨rfl,rfl⟩
theorem BT (s:Int)(w:Wrl)(xss:List (Option (List Int)))(ms:List PplM)(hw:WOK w)(hR:Rel w.props xss ms)(i:Int)(hi:mH w i=false):ai Tryz.prog 89 [.ptr 4 0,.int .i64 i] (rW s w xss ms) (.bool false) (rW s w xss ms):=by
 have hpl:=hw.plen
 have hml:=hR.len
 refine aa aX Tryz.func89 rfl rfl false 3 7 rfl rfl rfl rfl fun K hK hb1 hb2=>?_;simp only[ae,enc,Nat.reduceAdd]
 clear hb1 hb2
 have hP:=uQ s w.com w.lead w.bad (w.views.map az) xss ms i (by rw[hml];exact vd hi) (by omega)
 (repeat' first|refine bf ?_|refine sa fun xe hxe=>?_|refine sb (fun hq=>?_) fun hq=>?_|refine cr (hP) ?_|exact True.intro)
 exact⟨rfl,rfl⟩
theorem D4 (s:Int)(w:Wrl)(xss:List (Option (List Int)))(ms:List PplM)(hw:WOK w)(hR:Rel w.props xss ms)(i j:Nat)(hi:mH w i=true)(hj1:ms[i]?=some ⟨(prop w i).v,some j⟩)(hj2:xss[j]?=some (some (prop w i).members)):ai Tryz.prog 89 [.ptr 4 0,.int .i64 (i:Int)] (rW s w xss ms)
  (.bool (ig w i && !(prop w i).members.contains w.bad)) (if ig w i && !(prop w i).members.contains w.bad then rW s w (xss.set j none++[some (dz (prop w i).members w.bad)]) (ms.set i ⟨(prop w i).v,some xss.length⟩) else rW s w xss ms):=by
 have hpl:=hw.plen
 have hml:=hR.len
 have hil:=(List.getElem?_eq_some_iff.1 hj1).1
 obtain⟨n,hn,hn1,hn2⟩:=lv hi
 obtain rfl:i=n:=by omega
 obtain⟨o1,o2⟩:=ly hw (List.mem_of_getElem? hn2)
 have hl:=eh o2
 have ha:=e9 o2
 have h7:=(aw.1 hw.com).2
 refine aa aX Tryz.func89 rfl rfl false 3 7 rfl rfl rfl rfl fun K hK hb1 hb2=>?_;simp only[ae,enc,Nat.reduceAdd]
 clear hb1 hb2
 have hP:=uR s w.com w.lead w.bad (w.views.map az) xss ms i (by omega) (by omega)
 by_cases hb:0≤w.bad
 ·have hB:ig w i=true:=by unfold ig;rw[hi,decide_eq_true hb];rfl
  rw[hB]
  cases hm2:(prop w i).members.contains w.bad
  ·have hY:=zM xss ms i j _ _ w.bad hj1 hj2 ha (by omega) hm2
   rw[lD ha (by simpa using hm2)] at hY
   (repeat' first|refine bf ?_|refine sa fun xe hxe=>?_|refine sb (fun hq=>?_) fun hq=>?_|refine cr (hP) ?_|refine cr (hY) ?_|exact True.intro)
   refine dD zj ?_
   (conv=>whnf)
   (repeat' first|refine bf ?_|refine sa fun xe hxe=>?_|refine sb (fun hq=>?_) fun hq=>?_|refine cr (hP) ?_|refine cr (hY) ?_|exact True.intro)
   exact⟨rfl,rfl⟩
  ·have hY:=zL xss ms i j _ _ w.bad hj1 hj2 ha (by omega) hm2
   (repeat' first|refine bf ?_|refine sa fun xe hxe=>?_|refine sb (fun hq=>?_) fun hq=>?_|refine cr (hP) ?_|refine cr (hY) ?_|exact True.intro)
   exact⟨rfl,rfl⟩
 ·have hB:ig w i=false:=by unfold ig;rw[decide_eq_false hb];rfl
  rw[hB]
  (repeat' first|refine bf ?_|refine sa fun xe hxe=>?_|refine sb (fun hq=>?_) fun hq=>?_|refine cr (hP) ?_|exact True.intro)
  exact⟨rfl,rfl⟩
end Go.Proofs.YthmfppknagbkeaaGreat.Am
namespace Go.Proofs.YthmfppknagbkeaaGreat.Am
open Go
def GN:Go.Conc.Locks.MuLink:={lock:=83,unlock:=84,ilock:=122,iunlock:=123,lockSlow:=150,unlockSlow:=153,disable:=146,enable:=148,acquire:=149,relMerge:=151,cas32:=147,add32:=152,tMutex:=79,tIMutex:=77,tPMutex:=143,tPIMutex:=153,tPI32:=155,tUP:=157,tNoCopy:=74,tU32:=75}
theorem Aj:Go.Conc.Locks.MuLib Tryz.prog GN:=
 ⟨Tryz.func83,Tryz.func84,Tryz.func122,Tryz.func123,Tryz.func146,Tryz.func148,Tryz.func149,Tryz.func151,Tryz.func147,Tryz.func152,Tryz.underlying77,Tryz.runUnderlying77,Tryz.sizeOf77,Tryz.isAgg77,Tryz.zeroValue77,Tryz.underlying79,Tryz.runUnderlying79,Tryz.sizeOf79,Tryz.isAgg79,Tryz.zeroValue79,Tryz.underlying143,Tryz.runUnderlying143,Tryz.sizeOf143,Tryz.isAgg143,Tryz.zeroValue143,Tryz.underlying153,Tryz.runUnderlying153,Tryz.sizeOf153,Tryz.isAgg153,Tryz.zeroValue153,Tryz.underlying155,Tryz.runUnderlying155,Tryz.sizeOf155,Tryz.isAgg155,Tryz.zeroValue155,Tryz.underlying157,Tryz.runUnderlying157,Tryz.sizeOf157,Tryz.isAgg157,Tryz.zeroValue157,Tryz.underlying74,Tryz.runUnderlying74,Tryz.sizeOf74,Tryz.isAgg74,Tryz.zeroValue74,Tryz.underlying21,Tryz.runUnderlying21,Tryz.sizeOf21,Tryz.isAgg21,Tryz.zeroValue21,(by kernel_rfl)⟩
end Go.Proofs.YthmfppknagbkeaaGreat.Am
namespace Go.Proofs.YthmfppknagbkeaaGreat.Am
open Go Go.RowKit
variable {P:Program} {w0:World} {S:SD} {A:Nat→Prop} {N:Nat} {ρ:Id→Pl} {t:List (Nat×D)} {h:HL} {a:Act} {w:World}
theorem ow {g:Nat}{c:Array Value}{T:TypeId}{v:Value}(hg:w.heap[g]?=some (.cells c T (0,0))):w.setCell ⟨g,0,none⟩ v=w.setRow g (c.setIfInBounds 0 v):=by
 have:w.heap.modify g (fun o=>match o with
   | .cells cs E fr=>.cells (cs.setIfInBounds 0 v) E fr
   |o=>o)=w.heap.modify g (fun o=>match o with
   | .cells _ E fr=>.cells (c.setIfInBounds 0 v) E fr
   |o=>o):=by
  apply Array.ext_getElem?
  intro i
  rw[Array.getElem?_modify,Array.getElem?_modify]
  by_cases e:g=i
  ·subst e
   simp[hg]
  ·simp[e]
 simp only[World.setCell,World.setRow]
 first|exact congrArg (fun x=>{w with heap:=x}) this|simpa using this
theorem Sim.cell0 (s:Sim P w0 S A N ρ t h a w){b:Id}{T:TypeId}{x:D}{cs:List D}(hb:look h b=some (.var T (x::cs)))(k:IntKind)(n:Int):Sim P w0 S A N ρ t (put b (.var T (.int k n::cs)) h) a (w.setCell ⟨(ρ b).blk,0,none⟩ (.int k n)):=by
 obtain⟨c,g1,g2,g3⟩:=s.blk b _ hb
 rw[ow g1]
 refine s.write hb rfl _ fun hC hR=>⟨_,setRow_heap w _ c _ T _ g1,by simpa using g2,fun j hj=>?_⟩
 have hpos:0<c.size:=by rw[g2];simp
 cases j with
 |zero=>
  have:(c.setIfInBounds 0 (.int k n)).getD 0 undef= .int k n:=by simp[Array.getD_eq_getD_getElem?,hpos]
  rw[this]
  exact C.int k n
 |succ j=>
  have:(c.setIfInBounds 0 (.int k n)).getD (j+1) undef=c.getD (j+1) undef:=by simp[Array.getD_eq_getD_getElem?,Array.getElem?_setIfInBounds_ne]
  rw[this]
  exact hC _ _ (g3 (j+1) (by simpa using hj))
theorem Sim.at0 (s:Sim P w0 S A N ρ t h a w){b:Id}{T:TypeId}{k:IntKind}{n:Int}{cs:List D}(hb:look h b=some (.var T (.int k n::cs))):w.cell? ⟨(ρ b).blk,0,none⟩=some (.int k n)∧w.frozen? ⟨(ρ b).blk,0,none⟩=false:=by
 obtain⟨c,g1,g2,g3⟩:=s.blk b _ hb
 have hpos:0<c.size:=by rw[g2];simp
 have h1:=(g3 0 (by simp)).int_inv
 rw[Array.getD_eq_getD_getElem?,Array.getElem?_eq_getElem hpos,Option.getD_some] at h1
 refine⟨?_,?_⟩
 ·simp[World.cell?,g1,Array.getElem?_eq_getElem hpos,h1]
 ·simp[World.frozen?,g1]
theorem Fq {vs:Array Value}(h:1=vs.size):∃v,vs= #[v]:=by
 refine⟨vs[0],Array.ext (by simp;omega) fun i h1 h2=>?_⟩
 match i,h2 with
 |0,_=>rfl
theorem yH {L:Go.Conc.Locks.MuLink}(H:Go.Conc.Locks.MuLib P L){h:HL}{b:Id}{T:TypeId}{cs:List D}(hb:look h b=some (.var T (.int .i32 0::cs))):
  ∀hout:HL,(∀b',look hout b'=look (put b (.var T (.int .i32 1::cs)) h) b')→Con P L.lock [.ptr b 0] h (.tup []) hout:=by
 intro hout hh
 refine⟨⟨_,H.f_lock,rfl,rfl⟩,fun w A ρ vs s hl hcv=>?_⟩
 obtain⟨v,rfl⟩:=Fq hl
 obtain⟨-,e0⟩:=(hcv 0 (by simp)).ptr_inv
 have e0:v= .pointer (some ⟨(ρ b).blk,0,none⟩):=e0
 subst e0
 obtain⟨q1,q2⟩:=s.at0 hb
 refine(Go.MuLone.lock_free H _ w q1 q2).mono ?_
 rintro e w' ⟨rfl,rfl⟩
 exact⟨_,ρ,rfl,fun b' hb'=>⟨rfl,by
  have:Live (put b (.var T (.int .i32 1::cs)) h) b':=hb'.put
  unfold Live at this⊢
  rw[hh]
  exact this⟩,(s.cell0 hb _ _).congr (fun _=>rfl) hh,.tup [] #[] rfl (fun i hi=>by simp at hi)⟩
theorem xw {L:Go.Conc.Locks.MuLink}(H:Go.Conc.Locks.MuLib P L){h:VH}{T:TypeId}{cs:List V}(hb:look h 4=some (.var T (.int .i32 0::cs))):ai P L.lock [.ptr 4 0] h (.tup []) (put 4 (.var T (.int .i32 1::cs)) h):=by
 refine yH (cs:=af cs) H (am (i:=0) hb rfl) _ fun b'=>?_
 obtain⟨b1,b2⟩:=b'
 rw[al,ah,ah,al]
 by_cases e:b1=4
 ·subst e
  rw[if_pos rfl,hb]
  cases b2 with
  |zero=>rw[if_pos rfl];rfl
  |succ j=>rw[if_neg (by simp)];rfl
 ·rw[if_neg e,if_neg (fun h=>e (Prod.mk.inj h).1)]
def dU (fu:FuncId)(g:Nat):Deferred:={target:=.fn (.func fu) #[],args:=#[]++ #[.pointer (some ⟨g,0,none⟩)]}
theorem Sim.defs {dfs:List Deferred}(s:Sim P w0 S A N ρ t h a w):Sim P w0 ⟨S.S,dfs⟩ A N ρ t h {a with defers:=dfs} w:=
 ⟨s.base,s.inS,s.fr,rfl,s.size,s.tmp,s.blk,s.own,s.inj,s.gl⟩
theorem SimS.defs {dfs:List Deferred}{ρ0:Id→Pl}{K:Id→Prop}{σ:St}(s:SimS P w0 S A N ρ0 K σ a w):SimS P w0 ⟨S.S,dfs⟩ A N ρ0 K σ {a with defers:=dfs} w:=by
 obtain⟨h1,h2,ρ,h3,h4⟩:=s
 exact⟨h1,h2,ρ,h3,h4.defs⟩
def pR (P:Program)(N:Nat)(K:Id→Prop)(fu:FuncId)(b:Id)(c:Code)(σ:St)(e:Exit)(σ':St):Prop:=
 ∀w0 S A ρ0 a w,S.dfs=[]→SimS P w0 S A N ρ0 K σ a w→c.wp P (fun e' a' w'=>e'=e∧SimS P w0 ⟨S.S,[dU fu (ρ0 b).blk]⟩ A N ρ0 K σ' a' w') a w
def Dt (P:Program)(N:Nat)(K:Id→Prop)(fu:FuncId)(b:Id)(c:Code)(Q:Exit→VSt→Prop)(σ:VSt):Prop:=∃e σ',pR P N K fu b c σ.toD e σ'.toD∧(ec P N K σ'.toD→Q e σ')
variable {K:Id→Prop} {fu:FuncId} {b:Id} {Q:Exit→VSt→Prop} {σ:VSt}
theorem nl {c:Code}{σ:St}(h:¬ec P N K σ)(e:Exit)(σ':St):pR P N K fu b c σ e σ':=fun w0 S A ρ0 a w _ hs=>absurd ⟨w0,S,A,ρ0,a,w,hs⟩ h
theorem mw {x y:Code}(h:At P N K x (fun e σ=>e= .normal∧Dt P N K fu b y Q σ) σ):Dt P N K fu b (.seq x y) Q σ:=by
 obtain⟨e,σ1,h1,h2⟩:=h
 rcases Classical.em (ec P N K σ1.toD) with hr|hr
 ·obtain⟨rfl,e2,σ2,h3,h4⟩:=h2 hr
  refine⟨e2,σ2,fun w0 S A ρ0 a w hd hs=>wp_seq (wp_mono (h1 w0 S A ρ0 a w hs) ?_),h4⟩
  rintro e' a' w' ⟨rfl,hs'⟩
  exact h3 w0 S A ρ0 a' w' hd hs'
 ·rcases Classical.em (ec P N K σ.toD) with hr0|hr0
  ·refine⟨e,σ1,fun w0 S A ρ0 a w hd hs=>wp_seq (wp_mono (h1 w0 S A ρ0 a w hs) ?_),fun h=>absurd h hr⟩
   rintro e' a' w' ⟨rfl,hs'⟩
   exact absurd ⟨_,_,_,_,_,_,hs'⟩ hr
  ·exact⟨.normal,σ1,nl hr0 _ _,fun h=>absurd h hr⟩
theorem rL {x y:Code}(h:Dt P N K fu b x (fun e σ=>e= .normal∧At P N K y Q σ) σ):Dt P N K fu b (.seq x y) Q σ:=by
 obtain⟨e,σ1,h1,h2⟩:=h
 rcases Classical.em (ec P N K σ1.toD) with hr|hr
 ·obtain⟨rfl,e2,σ2,h3,h4⟩:=h2 hr
  refine⟨e2,σ2,fun w0 S A ρ0 a w hd hs=>wp_seq (wp_mono (h1 w0 S A ρ0 a w hd hs) ?_),h4⟩
  rintro e' a' w' ⟨rfl,hs'⟩
  exact h3 w0 _ A ρ0 a' w' hs'
 ·refine⟨e,σ1,fun w0 S A ρ0 a w hd hs=>wp_seq (wp_mono (h1 w0 S A ρ0 a w hd hs) ?_),fun h=>absurd h hr⟩
  rintro e' a' w' ⟨rfl,hs'⟩
  exact absurd ⟨_,_,_,_,_,_,hs'⟩ hr
theorem th {ops:Array Oper}{ρ0:Id→Pl}{Q:Exit→Act→World→Prop}{r:List Nat}:∀(L:List (Oper×Rc)) (k:Nat) (t:List (Nat×D)) (h:HL) (n:Nat) (a:Act) (w:World) (ρ:Id→Pl),TRun P ops N t h n L→(∀b:Id,n≤b.1→look h b=none)→
  (∀b,K b→Live h b)→(∀b,K b→ρ b=ρ0 b)→(∀i,i<L.length→ops[k+i]?=(L[i]?).map (·.1))→Sim P w0 S A N ρ t h a w→
  (∀ρ a w,(∀b,K b→ρ b=ρ0 b)→Sim P w0 S A N ρ (fK (fun _=>true) k L t) (fe (fun _=>true) k L h) a w→wpOps P ops Q r a w)→wpOps P ops Q (List.range' k L.length++r) a w
 |[],k,t,h,n,a,w,ρ,_,_,_,hρ,_,s,hq=>hq ρ a w hρ s
 |(o,rc)::L,k,t,h,n,a,w,ρ,hT,hn,hK,hρ,hops,s,hq=>by
  obtain⟨⟨rfl,h1,h2,h3⟩,h4,h5⟩:=hT
  simp only[List.length_cons,List.range'_succ,List.cons_append]
  rw[wpOps_cons]
  unfold wpOp
  have ho:ops[k]?=some o:=by simpa using hops 0 (by simp)
  rw[ho]
  simp only
  have hn':∀b:Id,rc.n'≤b.1→look (puts rc.u h) b=none:=by
   intro b hb
   rw[av _ _ _ fun x hx e=>by have:=h2 x hx;rw[e] at this;omega]
   exact hn b (by omega)
  have gX:∀(ρ':Id→Pl) (v:Value) (w':World),Ext h ρ ρ'→Sim P w0 S A N ρ' (ep o.dst rc.d t) (puts rc.u h) (a.put o.dst v) w'→wpOps P ops Q (List.range' (k+1) L.length++r) (a.put o.dst v) w':=by
   intro ρ' v w' hex s'
   exact th L (k+1) _ _ rc.n' _ w' ρ' h5 hn' (fun b hb=>i6 _ _ _ (hK b hb)) (fun b hb=>(hex b (hK b hb)).trans (hρ b hb)) (fun i hi=>by rw[show k+1+i=k+(i+1) by omega];exact hops (i+1) (by simpa using hi)) s' hq
  rcases h4 with⟨g1,g2⟩|⟨g1,g2,g3,g4⟩
  ·rw[s.guard g1]
   simp only[if_true]
   left
   have hw:=g2 t h (fun x hx=>rfl) (fun b hb=>rfl) _ _ _ ρ a w s
   refine Reg.wp_exit_mono (K:=oI P w0 S A N ρ t h (puts rc.u h) a o.dst rc.d) ?_ hw
   rintro a' w' ⟨v,ρ',rfl,hex,q1,q2⟩
   exact gX ρ' v w' hex (q1.putO h3 q2)
  ·rw[s.guard g1]
   simp only[Bool.false_eq_true,if_false]
   refine gX ρ undef w (Ext.refl _ _) ?_
   rw[g2,g3]
   exact s.putO h3 (.tup [] #[] rfl fun i hi=>absurd hi (Nat.not_lt_zero i))
theorem vS {Θ:TT}(hΘ:Θ.ok P){id:Nat}{ops:Array Oper}{l:List Oper}{od:Oper}{x:Tmp}{Ts:Array TypeId}(hops:ops.toList=l++[od])(hod:od.op= .defer {callee:=.value (.func fu),args:=#[.tmp x],argTypes:=Ts}∧od.guard=none∧od.dst=none)
  (hx:x<N) (h:iK P Θ ops (fun _=>[]) false N l 0 [] σ (fun σ=>look (dK σ.t) x=some (.ptr b 0)∧K b∧Q .normal σ)):Dt P N K fu b (.region id ops false) Q σ:=by
 rcases Classical.em (¬ec P N K σ.toD) with hr|hr
 ·exact⟨.normal,σ,nl hr _ _,fun h=>absurd h hr⟩
 have hr:=Classical.not_not.1 hr
 have hfr:jm σ:=by obtain⟨w0,S,A,ρ0,a,w,hs⟩:=hr;exact hs.1
 obtain⟨σ',⟨q1,q2,q3⟩,h2⟩:=kN hΘ hfr h
 obtain⟨L,l1,l2,l3,l4,l5,_⟩:=h2 [] fun h=>by cases h
 refine⟨.normal,σ',?_,fun _=>q3⟩
 rintro w0 S A ρ0 a w hd ⟨hn,hK,ρ,hρ,s⟩
 refine wp_region ?_
 have hll:L.length=l.length:=by rw[←l1,List.length_map]
 have hsz:ops.size=L.length+1:=by have:=congrArg List.length hops;simp only[Array.length_toList,List.length_append,List.length_singleton] at this;omega
 have hget:∀i:Nat,ops[i]?=(l++[od])[i]?:=fun i=>by rw[←hops];simp
 rw[hsz,List.range_eq_range',List.range'_concat]
 simp only[Nat.one_mul,Nat.zero_add]
 refine th L 0 _ _ _ a w ρ l2 hn hK hρ (fun i hi=>?_) s fun ρ' a' w' hρ' s'=>?_
 ·rw[Nat.zero_add,hget,List.getElem?_append_left (by omega),←l1,List.getElem?_map]
 ·obtain⟨od1,od2,od3⟩:=hod
  have s2:=s'.congr (t':=dK σ'.t) (h':=toH σ'.h) (fun x=>(l3 x)) (fun b=>(l4 b))
  have hv:=(s2.tmp x _ q1).2
  obtain⟨-,hv⟩:=hv.ptr_inv
  rw[hρ' b q2] at hv
  have ho:ops[L.length]?=some od:=by rw[hget,hll,List.getElem?_append_right (Nat.le_refl _)];simp
  simp only[wpOps,ho]
  have hwant:Region.wanted od (yielded ops a'.tmps)=true:=by simp[Region.wanted,od2]
  rw[if_pos hwant]
  left
  have hex:(execOp a'.eval od).run P w'= .ok (.defer (dU fu (ρ0 b).blk)) w':=by
   have he:a'.eval (.tmp x)= .pointer (some ⟨(ρ0 b).blk,0,none⟩):=by
    rw[←hv];rfl
   obtain⟨dst,op,ty,pos,after,guard⟩:=od
   subst od1
   simp only[execOp,resolve,List.map_toArray,List.map_cons,List.map_nil,he]
   rfl
  unfold Oper.wp
  rw[hex,Oper.upon_defer,od3]
  have hdf:a'.defers=[]:=s2.defers.trans hd
  refine⟨trivial,l5,fun b hb=>?_,ρ',hρ',?_⟩
  ·have:=iH (fun _=>true) L 0 (toH σ.h) b (hK b hb)
   show Live (toH σ'.h) b
   unfold Live at this⊢
   rw[l4]
   exact this
  ·have:=s2.defs (dfs:=[dU fu (ρ0 b).blk])
   rw[hdf]
   exact this
theorem BG {w:World}{hin:HL}{ρ:Id→Pl}{fn:Func}{N:Nat}{σ:St}{a':Act}{w':World}{r:D}{hout:HL}{ρ1:Id→Pl}(hK:∀b,Live hin b→Live σ.h b)(hρ1:∀b,Live hin b→ρ1 b=ρ b)(s1:Sim P w (rD ρ hin) A N ρ1 σ.t σ.h a' w')
  (hr:kT P fn.results.toList (Live hin) σ r hout):∃u,(results fn a'.tmps).run P w'= .ok u w'∧∃v ρ'',Ending.returned u= .returned v∧(∀b,Live hin b→ρ'' b=ρ b∧Live hout b)∧Sim P w (rD ρ hin) A 0 ρ'' [] hout eS w'∧C ρ'' (Live hout) (okOf A ρ'' hout w') w' r v:=by
 obtain⟨ds',bs,g,hrds,hrn,hren,hkeep⟩:=hr
 obtain⟨vs',r1,r2,r3⟩:=s1.results (f:=EL a'.tmps) (fun r=>by cases r<;>rfl) hrds
 have hone:=Ax r2 r3
 have hrun:(results fn a'.tmps).run P w'= .ok (if h:vs'.toArray.size=1 then vs'.toArray[0] else .tuple vs'.toArray) w':=by
  rw[oo,Array.mapM_eq_mapM_toList,Sem.run_bind,map_eq_pure_bind,Sem.run_bind,r1]
  rfl
 generalize (if h:vs'.toArray.size=1 then vs'.toArray[0] else Value.tuple vs'.toArray)=u at *
 obtain⟨q1,q2,q3⟩:=s1.frz_ok bs
 have hcu:C ρ1 (Live (puts (frz σ.h bs) σ.h)) (okOf A ρ1 (puts (frz σ.h bs) σ.h) w') w' (one ds') u:=hone.mono (fun b hb=>⟨iv hb,rfl⟩) (fun k hk=>⟨⟨hk.1,fun b y hy hmu=>by
  rcases q2 b with q|⟨y',z1,z2⟩
  ·rw[q] at hy;exact hk.2 b y hy hmu
  ·rw[z2] at hy
   obtain rfl:=Option.some.inj hy
   rw[(fS z1).2.1] at hmu;cases hmu⟩,rfl⟩)
 obtain⟨s3,hok3⟩:=q1.ren (N':=0) (a':=eS) (t':=[]) hren rfl rfl (fun k d' hk=>by cases hk)
 exact⟨u,hrun,u,fun b=>ρ1 (g b),rfl,fun b hb=>⟨by show ρ1 (g b)=_;rw[(hkeep b hb (hK b hb)).1];exact hρ1 b hb,(hkeep b hb (hK b hb)).2⟩,s3,q1.rn hok3 hrn hcu⟩
theorem qg {L : Go.Conc.Locks.MuLink} (H : Go.Conc.Locks.MuLib P L) {f : FuncId} {fn : Func} {c : Code} (hf : P.funcs[f]? = some fn) (hb : fn.body = some c) (hname : (fn.name == "runtime.NumGoroutine") = false) {N : Nat} {rs : List ResultVar} (hN : fn.ntmps = N) (hrs : fn.results.toList = rs) {ds : List D} {hin : HL} {n0 : Nat} {r : D} {hout : HL}
  (hl:ds.length≤N) (hn0:∀b:Id,n0≤b.1→look hin b=none) (hLb:Live hin b)
  (hF:(∀d∈ds,bnd 6 d)→(∀b x,look hin b=some x→bndB 6 x)→∃e σ,pR P N (Live hin) L.unlock b c ⟨o8 ds,hin,n0⟩ e σ∧(ec P N (Live hin) σ→(e= .normal∨e= .ret)∧∃T cs h2,look σ.h b=some (.var T (.int .i32 1::cs))∧(∀b',look h2 b'=look (put b (.var T (.int .i32 0::cs)) σ.h) b')∧kT P rs (Live hin) ⟨σ.t,h2,σ.n⟩ r hout)):Con P f ds hin r hout:=by
 subst hN hrs
 refine⟨⟨fn,hf,by rw[hb];rfl,hname⟩,fun w A ρ vs s hlen hv=>?_⟩
 obtain⟨e,σ,hA,hfin⟩:=hF (fun d hd=>by
  obtain⟨i,hi,rfl⟩:=aZ hd
  exact(hv i hi).bnd 6) (fun b x hx=>s.bndB 6 hx)
 refine calls_of_wp_defers hf hb ?_
 have hs0:SimS P w (rD ρ hin) A fn.ntmps ρ (Live hin) ⟨o8 ds,hin,n0⟩ {tmps:=vs++Array.replicate (fn.ntmps-vs.size) undef,defers:=[]} w:=by
  refine⟨hn0,fun b hb=>hb,ρ,fun b hb=>rfl,s.base,s.inS,s.fr,rfl,by simp;omega,fun k d hk=>?_,s.blk,s.own,s.inj,s.gl⟩
  have hk2:look ((ds.zipIdx 0).map fun x=>(x.2,x.1)) k=some d:=hk
  rw[ls] at hk2
  simp only[Nat.zero_le,if_true,Nat.sub_zero] at hk2
  have hk':k<ds.length:=(List.getElem?_eq_some_iff.1 hk2).1
  refine⟨by omega,?_⟩
  have:=hv k hk'
  rw[List.getD_eq_getElem?_getD,hk2] at this
  have hkv:k<vs.size:=by omega
  simpa[Array.getD_eq_getD_getElem?,Array.getElem?_append,hkv] using this
 refine wp_mono (hA _ _ _ ρ _ w rfl hs0) ?_
 clear hA
 rintro e' a' w' ⟨rfl,hs1⟩
 obtain⟨he,T,cs,h2,hlk,hh2,hres⟩:=hfin ⟨_,_,_,_,_,_,hs1⟩
 clear hfin
 obtain⟨hn,hK,ρ1,hρ1,s1⟩:=hs1
 have hdf:a'.defers=[dU L.unlock (ρ b).blk]:=s1.defers
 have hlv:Leaves P fn a'.tmps (fun e w'=>∃u ρ',e= .returned u∧(∀b,Live hin b→ρ' b=ρ b∧Live hout b)∧Sim P w (rD ρ hin) A 0 ρ' [] hout eS w'∧C ρ' (Live hout) (okOf A ρ' hout w') w' r u) a'.defers .returning w':=by
  obtain⟨c1,c2⟩:=s1.at0 hlk
  rw[hρ1 b hLb] at c1 c2
  rw[hdf]
  refine leaves_cons (f:=L.unlock) (args:=#[.pointer (some ⟨(ρ b).blk,0,none⟩)]) (by simp) ?_ ?_
  ·simp[invoke,callFunc,H.f_unlock,go_sem]
   rfl
  ·refine(Go.MuLone.unlock_deferred H _ .returning w' c1 c2).mono ?_
   rintro e u' w'' ⟨rfl,rfl,rfl⟩
   have s2:=(s1.cell0 hlk .i32 0).defs (dfs:=[])
   rw[hρ1 b hLb] at s2
   exact BG (a':={a' with defers:=[]}) (σ:=⟨σ.t,h2,σ.n⟩) (fun b2 hb2=>by
    have:Live (put b (.var T (.int .i32 0::cs)) σ.h) b2:=(hK b2 hb2).put
    unfold Live at this⊢
    rw[hh2]
    exact this) hρ1 (s2.congr (fun _=>rfl) hh2) hres
 rcases he with rfl|rfl<;>exact hlv
def CV (σ:VSt)(Q:VSt→Prop):Prop:=match ay σ.h 4 with
 |some (.var T (.int .i32 1::cs))=>Q ⟨σ.t,put 4 (.var T (.int .i32 0::cs)) σ.h,σ.n⟩
 |_=>False
theorem Bw {L : Go.Conc.Locks.MuLink} (H : Go.Conc.Locks.MuLib P L) {Θ : TT} (hΘ : Θ.ok P) {f : FuncId} {fn : Func} {c : Code} (hf : P.funcs[f]? = some fn) (hb : fn.body = some c) (hname : (fn.name == "runtime.NumGoroutine") = false) (pr : Bool) {vs : List V} {hin : VH} (m n0 : Nat) (hn0 : 4 + m = n0) (hlt : u3 n0 hin = true) (hnd : fE (keysV hin) = true) (hl : Nat.ble vs.length fn.ntmps = true)
  (hlb:Live (toH hin) (4,0)) {R:V→VH→Prop} {r0:V} {hout0:VH} (h0:R r0 hout0)
  (h:∀K,KB m K→K (4,0)→(∀d∈af vs,bnd 6 d)→(∀x∈hin,∀d∈x.2.blks,bndB 6 d)→Dt P fn.ntmps K L.unlock (4,0) c (BF fun σ=>CV σ fun σ=>uB Θ fn.results.toList m pr σ fun r hout=>lW (im hin) r hout (R r)) ⟨ae vs 0,hin,n0⟩):∃r hout,R r hout∧ai P f vs hin r hout:=by
 have hlen:(af vs).length≤fn.ntmps:=by rw[ar];exact Nat.le_of_ble_eq_true hl
 have e1:o8 (af vs)=dK (ae vs 0):=nj vs 0
 have hfr:=pj hlt
 have hK:KB m (Live (toH hin)):=by
  intro b hb
  rcases Nat.lt_or_ge b.1 (4+m) with hlt|hge
  ·exact hlt
  ·unfold Live at hb
   rw[hfr b (by omega)] at hb
   cases hb
 have hbnd:(∀b x,look (toH hin) b=some x→bndB 6 x)→∀x∈hin,∀d∈x.2.blks,bndB 6 d:=by
  rintro hq ⟨k,x⟩ hx d hd
  obtain⟨i,hi⟩:=List.getElem?_of_mem hd
  exact hq (k,i) d (am (eg (by rw[cT];exact eM hnd) hx) hi)
 rcases Classical.em ((∀d∈af vs,bnd 6 d)∧∀b x,look (toH hin) b=some x→bndB 6 x) with hbb|hbb
 ·obtain⟨e,σ',h1,h2⟩:=h _ hK hlb hbb.1 (hbnd hbb.2)
  rcases Classical.em (ec P fn.ntmps (Live (toH hin)) σ'.toD) with hr|hr
  ·have h3:=h2 hr
   have hfin:(e= .normal∨e= .ret)∧CV σ' fun σ=>uB Θ fn.results.toList m pr σ fun r hout=>lW (im hin) r hout (R r):=by
    cases e with
    |normal=>exact⟨.inl rfl,h3⟩
    |ret=>exact⟨.inr rfl,h3⟩
    |_=>exact h3.elim
   obtain⟨he,hfin⟩:=hfin
   unfold CV at hfin
   split at hfin
   ·rename_i T cs hlk
    rw[ax] at hlk
    obtain⟨r,hout1,q1,q2⟩:=wh hΘ hK hfin
    obtain⟨hout,q1,q2⟩:=r6 (fun b hb hlt=>by
     unfold Live at hb
     rw[al] at hb
     obtain⟨d,hd⟩:=Option.isSome_iff_exists.1 hb
     obtain⟨y,hy,-⟩:=Option.bind_eq_some_iff.1 hd
     simp only[im,List.mem_filter]
     exact⟨by rw[←cT];exact List.mem_map.2 ⟨_,bC hy,rfl⟩,by simpa[Nat.blt_eq] using hlt⟩) q1 q2
    refine⟨r,hout,q2,qg H hf hb hname rfl rfl hlen hfr hlb fun _ _=>⟨e,σ'.toD,?_,fun _=>⟨he,T,af cs,toH (put 4 (.var T (.int .i32 0::cs)) σ'.h),am (i:=0) hlk rfl,fun b'=>?_,q1⟩⟩⟩
    ·rw[e1]
     exact h1
    ·show look (toH (put 4 (.var T (.int .i32 0::cs)) σ'.h)) b'=look (put (4,0) (.var T (af (.int .i32 0::cs))) (toH σ'.h)) b'
     obtain⟨b1,b2⟩:=b'
     rw[al,ah,ah,al]
     by_cases e:b1=4
     ·subst e
      rw[if_pos rfl,hlk]
      cases b2 with
      |zero=>rw[if_pos rfl];rfl
      |succ j=>rw[if_neg (by simp)];rfl
     ·rw[if_neg e,if_neg (fun h=>e (Prod.mk.inj h).1)]
   ·exact hfin.elim
  ·refine⟨r0,hout0,h0,qg H hf hb hname rfl rfl hlen hfr hlb fun _ _=>⟨e,σ'.toD,?_,fun h=>absurd h hr⟩⟩
   rw[e1]
   exact h1
 ·exact⟨r0,hout0,h0,qg H hf hb hname rfl rfl hlen hfr hlb fun b1 b2=>absurd ⟨b1,b2⟩ hbb⟩
theorem vV {L : Go.Conc.Locks.MuLink} (H : Go.Conc.Locks.MuLib P L) {Θ : TT} (hΘ : Θ.ok P) {f : FuncId} {fn : Func} {c : Code} (hf : P.funcs[f]? = some fn) (hb : fn.body = some c) (hname : (fn.name == "runtime.NumGoroutine") = false) (pr : Bool) {vs : List V} {hin : VH} (m n0 : Nat) (hn0 : 4 + m = n0) (hlt : u3 n0 hin = true) (hnd : fE (keysV hin) = true) (hl : Nat.ble vs.length fn.ntmps = true) (hlb : Live (toH hin) (4, 0)) {r : V} {hout : VH}
  (h:∀K,KB m K→K (4,0)→(∀d∈af vs,bnd 6 d)→(∀x∈hin,∀d∈x.2.blks,bndB 6 d)→Dt P fn.ntmps K L.unlock (4,0) c (BF fun σ=>CV σ fun σ=>uB Θ fn.results.toList m pr σ fun r' hout'=>lW (im hin) r' hout' fun hout'=>r'=r∧hout'=hout) ⟨ae vs 0,hin,n0⟩):ai P f vs hin r hout:=by
 obtain⟨r',hout',⟨rfl,rfl⟩,h2⟩:=Bw H hΘ hf hb hname pr m n0 hn0 hlt hnd hl hlb (R:=fun r' hout'=>r'=r∧hout'=hout) ⟨rfl,rfl⟩ h
 exact h2
end Go.Proofs.YthmfppknagbkeaaGreat.Am
namespace Go.Proofs.YthmfppknagbkeaaGreat.Am
open Go
attribute [local irreducible] Mk bS Ari eQ pS kR cw eG jf jg At ai
set_option maxRecDepth 10000
theorem q7 (w:Wrl)(m:Int):ai Tryz.prog 65 [aP w,.int .i64 m] [] (.bool (good w m)) []:=by
 have hI:=lp m 0 ((w.com.length:Int)-1)
 refine aa ak Tryz.func65 rfl rfl false 0 4 rfl rfl rfl rfl fun K hK hb1 hb2=>?_;simp only[ae,enc,Nat.reduceAdd]
 simp[af,V.toD,bnd,ab,D.cells] at hb1
 cases h:gU m 0 ((w.com.length:Int)-1)
 ·rw[h] at hI
  (repeat' first|refine st ?_|refine sa fun xe hxe=>?_|refine sb (fun hq=>?_) fun hq=>?_|refine cr (hI) ?_|exact True.intro)
  exact⟨by simp[good,bK,h],rfl⟩
 ·rw[h] at hI
  (repeat' first|refine st ?_|refine sa fun xe hxe=>?_|refine sb (fun hq=>?_) fun hq=>?_|refine cr (hI) ?_|exact True.intro)
  exact⟨by simp[good,bK,h],rfl⟩
theorem Aq {ps:List Ppl}{i:Nat}{p:Ppl}(h:ps[i]?=some p)(m:Int):gX (ps.take (i+1)) m=if p.v.author=m then(if gX (ps.take i) m<p.v.round+1 then p.v.round+1 else gX (ps.take i) m) else gX (ps.take i) m:=by
 obtain⟨hl,rfl⟩:=List.getElem?_eq_some_iff.1 h
 rw[List.take_succ_eq_append_getElem hl,mQ]
 split
 ·split<;>omega
 ·rfl
theorem CN (w:Wrl)(m:Int)(hp:∀p∈w.props,0≤p.v.round∧p.v.round≤30)(hl:w.props.length≤1000):ai Tryz.prog 69 [aP w,.int .i64 m] [] (.int .i64 (gX w.props m)) []:=by
 refine aa ak Tryz.func69 rfl rfl false 0 4 rfl rfl rfl rfl fun K hK hb1 hb2=>?_;simp only[ae,enc,Nat.reduceAdd]
 clear hb1 hb2
 (repeat' first|refine st ?_|refine sa fun xe hxe=>?_|refine sb (fun hq=>?_) fun hq=>?_|exact True.intro)
 refine ag hK [] [1,2,5,6] (fun i:Nat=>⟨[(1,.int .i64 m),(2,.ptr 4 0),(5,.int .i64 (gX (w.props.take i) m)),(6,.int .i64 (i:Int))],[(4,.var 31 (aP w).cells)],5⟩) (fun i=>i≤w.props.length) (fun i=>w.props.length-i) 0 (by simp) rfl ?_
 intro i hi
 by_cases hlt:i<w.props.length
 ·have hxe:w.props[i]?=some w.props[i]:=List.getElem?_eq_getElem hlt
  have hs:=Aq hxe m
  have hpb:=hp _ (List.getElem_mem hlt)
  have hnb:=An (m:=m) fun p hpp=>hp p (List.mem_of_mem_take (i:=i) hpp)
  generalize w.props[i]=p at *
  by_cases ha:p.v.author=m
  ·rw[if_pos ha] at hs
   (repeat' first|refine st ?_|refine sa fun xe hxe=>?_|refine sb (fun hq=>?_) fun hq=>?_|exact True.intro)
   exact⟨i+1,by omega,by omega,by rw[hs];rfl⟩
  ·rw[if_neg ha] at hs
   (repeat' first|refine st ?_|refine sa fun xe hxe=>?_|refine sb (fun hq=>?_) fun hq=>?_|exact True.intro)
   exact⟨i+1,by omega,by omega,by rw[hs];rfl⟩
 ·(repeat' first|refine st ?_|refine sa fun xe hxe=>?_|refine sb (fun hq=>?_) fun hq=>?_|exact True.intro)
  rw[List.take_of_length_le (by omega)]
  exact⟨rfl,rfl⟩
theorem ES (l:List Int)(n:Int)(hl:l.length≤1000):ai Tryz.prog 132 [.lst (.int .i64) l,.int .i64 n] [] (.lst (.int .i64) (dz l n)) []:=by
 refine aa ak Tryz.func132 rfl rfl true 0 4 rfl rfl rfl rfl fun K hK hb1 hb2=>?_;simp only[ae,enc,Nat.reduceAdd]
 clear hb1 hb2
 (repeat' first|refine st ?_|refine sa fun xe hxe=>?_|refine sb (fun hq=>?_) fun hq=>?_|exact True.intro)
 refine ag hK [] [0,1,5] (fun k:Nat=>⟨[(0,.lst (.int .i64) l),(1,.int .i64 n),(5,.int .i64 (k:Int))],[],4⟩) (fun k=>k≤l.length∧∀y∈l.take k,y<n) (fun k=>l.length-k) 0 ⟨by simp,by simp⟩ rfl ?_
 rintro k ⟨hk,hall⟩
 have hat:=wy (l:=l) (n:=n) (k:=k) hall hk
 have e1:kZ l none (some (.int .i64 k)) 0 (k:Int).toNat=l.take k:=by simp[kZ]
 have e2:kZ l (some (.int .i64 k)) none (k:Int).toNat l.length=l.drop k:=by simp[kZ]
 have hl1:(l.take k).length=k:=by rw[List.length_take];omega
 have hl2:(l.drop k).length=l.length-k:=List.length_drop ..
 by_cases hlt:k<l.length
 ·have hxe:l[k]?=some l[k]:=List.getElem?_eq_getElem hlt
  have hsn:l.take (k+1)=l.take k++[l[k]]:=List.take_succ_eq_append_getElem hlt
  generalize l[k]=x at *
  by_cases hx:x<n
  ·(repeat' first|refine st ?_|refine sa fun xe hxe=>?_|refine sb (fun hq=>?_) fun hq=>?_|exact True.intro)
   exact⟨k+1,⟨by omega,by rw[hsn];intro y hy;rcases List.mem_append.1 hy with h|h;exact hall y h;rw[List.mem_singleton.1 h];exact hx⟩,by omega,rfl⟩
  ·have hat:=hat fun y hy=>by rw[hxe] at hy;obtain rfl:=Option.some.inj hy;exact hx
   rw[hxe] at hat
   by_cases hxn:x=n
   ·rw[if_pos (by rw[hxn])] at hat
    rw[hat]
    (repeat' first|refine st ?_|refine sa fun xe hxe=>?_|refine sb (fun hq=>?_) fun hq=>?_|exact True.intro)
    exact⟨rfl,rfl⟩
   ·rw[if_neg (by simpa using hxn)] at hat
    rw[hat]
    (repeat' first|refine st ?_|refine sa fun xe hxe=>?_|refine sb (fun hq=>?_) fun hq=>?_|exact True.intro)
    rw[e1]
    refine dD ?_ ?_
    ·refine gz (xs:=([]:List Int)) (ys:=l.take k) (by simp) (by omega) ?_;decide
    (conv=>whnf)
    (repeat' first|refine st ?_|refine sa fun xe hxe=>?_|refine sb (fun hq=>?_) fun hq=>?_|exact True.intro)
    rw[e2]
    refine dD ?_ ?_
    ·refine gz (xs:=[]++l.take k++[n]) (ys:=l.drop k) (by rw[List.nil_append,List.length_append,List.length_singleton];omega) (by omega) ?_;decide
    (conv=>whnf)
    (repeat' first|refine st ?_|refine sa fun xe hxe=>?_|refine sb (fun hq=>?_) fun hq=>?_|exact True.intro)
    exact⟨rfl,rfl⟩
 ·obtain rfl:k=l.length:=by omega
  have hat:=hat fun y hy=>by rw[List.getElem?_eq_none (Nat.le_refl _)] at hy;cases hy
  rw[List.getElem?_eq_none (Nat.le_refl _),if_neg (by simp)] at hat
  rw[hat]
  (repeat' first|refine st ?_|refine sa fun xe hxe=>?_|refine sb (fun hq=>?_) fun hq=>?_|exact True.intro)
  rw[e1]
  refine dD ?_ ?_
  ·refine gz (xs:=([]:List Int)) (ys:=l.take l.length) (by simp) (by omega) ?_;decide
  (conv=>whnf)
  (repeat' first|refine st ?_|refine sa fun xe hxe=>?_|refine sb (fun hq=>?_) fun hq=>?_|exact True.intro)
  rw[e2]
  refine dD ?_ ?_
  ·refine gz (xs:=[]++l.take l.length++[n]) (ys:=l.drop l.length) (by rw[List.nil_append,List.length_append,List.length_singleton];omega) (by omega) ?_;decide
  (conv=>whnf)
  (repeat' first|refine st ?_|refine sa fun xe hxe=>?_|refine sb (fun hq=>?_) fun hq=>?_|exact True.intro)
  exact⟨rfl,rfl⟩
theorem Ce {n:Nat}(h:n≤1000000):n≤2000000:=by omega
theorem lF (v:Vtx)(hl:v.parents.length≤2000000):ai Tryz.prog 72 [bu v] [] (bu v) []:=by
 refine aa ak Tryz.func72 rfl rfl true 0 4 rfl rfl rfl rfl fun K hK hb1 hb2=>?_;simp only[ae,enc,Nat.reduceAdd]
 clear hb1 hb2
 (repeat' first|refine st ?_|refine sa fun xe hxe=>?_|refine sb (fun hq=>?_) fun hq=>?_|exact True.intro)
 exact⟨rfl,rfl⟩
theorem wY (g:List Vtx)(hl:g.length≤1000)(hv:∀v∈g,v.parents.length≤1000000):ai Tryz.prog 71 [.lst .vtx g] [] (.lst .vtx g) []:=by
 refine aa ak Tryz.func71 rfl rfl true 0 4 rfl rfl rfl rfl fun K hK hb1 hb2=>?_;simp only[ae,enc,Nat.reduceAdd]
 clear hb1 hb2
 (repeat' first|refine st ?_|refine sa fun xe hxe=>?_|refine sb (fun hq=>?_) fun hq=>?_|exact True.intro)
 refine ag hK [] [0,3,4] (fun i:Nat=>⟨[(0,.lst .vtx g),(3,.ref 4),(4,.int .i64 (i:Int))],[(4,.row 43 .vtx (g.take i))],5⟩) (fun i=>i≤g.length) (fun i=>g.length-i) 0 (by simp) rfl ?_
 intro i hi
 by_cases hlt:i<g.length
 ·have hxe:g[i]?=some g[i]:=List.getElem?_eq_getElem hlt
  have hsn:g.take (i+1)=g.take i++[g[i]]:=List.take_succ_eq_append_getElem hlt
  have hvl:=hv _ (List.getElem_mem hlt)
  have hll:(g.take i).length=i:=by rw[List.length_take];omega
  generalize g[i]=v at *
  generalize g.take i=l at *
  (repeat' first|refine st ?_|refine sa fun xe hxe=>?_|refine sb (fun hq=>?_) fun hq=>?_|refine cr (lF _ (Ce hvl)) ?_|exact True.intro)
  exact⟨i+1,by omega,by omega,by rw[hsn];rfl⟩
 ·(repeat' first|refine st ?_|refine sa fun xe hxe=>?_|refine sb (fun hq=>?_) fun hq=>?_|exact True.intro)
  rw[List.take_of_length_le (by omega)]
  exact⟨rfl,rfl⟩
theorem DU {g:List Vtx}{r a:Int}(h:cq g r a=false):lg g r a<0:=by
 have:=uD g r a
 simpa[h] using this
theorem EO (g:List Vtx)(v:Vtx)(hl:g.length≤400)(hv:∀u∈g,u.parents.length≤1000000)(hvp:v.parents.length≤1000000)(hr:-1000000<v.round∧v.round<1000000)(h1:cq g v.round v.author=false)(h2:parOK g v=true):ai Tryz.prog 106 [.lst .vtx g,bu v] [] (.tup [.lst .vtx (eV g v),.int .i64 0]) []:=by
 have hF:=qx g v.round v.author
 have hF2:=DU h1
 have hP:=cN g v hr
 rw[h2] at hP
 refine aa ak Tryz.func106 rfl rfl true 0 4 rfl rfl rfl rfl fun K hK hb1 hb2=>?_;simp only[ae,enc,Nat.reduceAdd]
 clear hb1 hb2
 generalize lg g v.round v.author=fi at *
 (repeat' first|refine st ?_|refine sa fun xe hxe=>?_|refine sb (fun hq=>?_) fun hq=>?_|refine cr (hF) ?_|refine cr (hP) ?_|exact True.intro)
 refine ag hK [] [0,3,7,8] (fun k:Nat=>⟨[(0,.lst .vtx g),(3,.ptr 4 0),(7,.ref 5),(8,.int .i64 (k:Int))],[(4,.var 43 (bu v).cells),(5,.row 43 .vtx (g.take k))],6⟩) (fun k=>k≤g.length∧∀y∈g.take k,bef y v=true) (fun k=>g.length-k) 0 ⟨by simp,by simp⟩ rfl ?_
 rintro k ⟨hk,hall⟩
 have hat:=wz (g:=g) (v:=v) (k:=k) hall hk
 have hll:(g.take k).length=k:=by rw[List.length_take];omega
 have e2:kZ g (some (.int .i64 k)) none (k:Int).toNat g.length=g.drop k:=by simp[kZ]
 have hdl:(g.drop k).length=g.length-k:=List.length_drop ..
 have hC:=wY (g.drop k) (by omega) fun u hu=>hv u (List.mem_of_mem_drop hu)
 by_cases hlt:k<g.length
 ·have hxe:g[k]?=some g[k]:=List.getElem?_eq_getElem hlt
  have hsn:g.take (k+1)=g.take k++[g[k]]:=List.take_succ_eq_append_getElem hlt
  have hxl:=hv _ (List.getElem_mem hlt)
  generalize g[k]=x at *
  have hB:=jW x v
  cases hb:bef x v
  ·rw[hb] at hB
   have hat:=hat fun y hy=>by rw[hxe] at hy;obtain rfl:=Option.some.inj hy;exact hb
   rw[hat]
   generalize g.take k=lt at *
   (repeat' first|refine st ?_|refine sa fun xe hxe=>?_|refine sb (fun hq=>?_) fun hq=>?_|refine cr (hB) ?_|refine cr (lF _ (Ce hvp)) ?_|exact True.intro)
   have e3:kZ g (some (.int .i64 (lt.length:Int))) none (lt.length:Int).toNat g.length=g.drop k:=by rw[hll];exact e2
   rw[e3]
   (repeat' first|refine st ?_|refine sa fun xe hxe=>?_|refine sb (fun hq=>?_) fun hq=>?_|refine cr (hC) ?_|exact True.intro)
   exact⟨rfl,rfl⟩
  ·rw[hb] at hB
   generalize hlt2:g.take k=lt at *
   (repeat' first|refine st ?_|refine sa fun xe hxe=>?_|refine sb (fun hq=>?_) fun hq=>?_|refine cr (hB) ?_|refine cr (lF _ (Ce hxl)) ?_|exact True.intro)
   exact⟨k+1,⟨by omega,by rw[hsn];exact aS hall hb⟩,by omega,by rw[hsn];rfl⟩
 ·have hat:=hat fun y hy=>by rw[List.getElem?_eq_none (by omega)] at hy;cases hy
  rw[hat]
  generalize g.take k=lt at *
  (repeat' first|refine st ?_|refine sa fun xe hxe=>?_|refine sb (fun hq=>?_) fun hq=>?_|refine cr (lF _ (Ce hvp)) ?_|exact True.intro)
  have e3:kZ g (some (.int .i64 (lt.length:Int))) none (lt.length:Int).toNat g.length=g.drop k:=by rw[hll];exact e2
  rw[e3]
  (repeat' first|refine st ?_|refine sa fun xe hxe=>?_|refine sb (fun hq=>?_) fun hq=>?_|refine cr (hC) ?_|exact True.intro)
  exact⟨rfl,rfl⟩
theorem EX (w:Wrl)(m d:Int)(h:WOK w):ai Tryz.prog 32 [aP w,.int .i64 m,.int .i64 d] [] (aP (kD w m d)) []:=by
 have hG:=q7 w m
 have hD:=nt d
 have hN:=CN w m (fun p hp=>(bR (h.pv p hp).1).1) (by have:=h.plen;omega)
 have hpl:=h.plen
 have hno:fh w m d=false→kD w m d=w:=fun h=>by simp[kD,h]
 refine aa ak Tryz.func32 rfl rfl true 0 4 rfl rfl rfl rfl fun K hK hb1 hb2=>?_;simp only[ae,enc,Nat.reduceAdd]
 clear hb1 hb2
 cases h1:good w m
 ·rw[h1] at hG
  rw[hno (by simp[fh,h1])]
  (repeat' first|refine st ?_|refine sa fun xe hxe=>?_|refine sb (fun hq=>?_) fun hq=>?_|refine cr (hG) ?_|exact True.intro)
  exact⟨rfl,rfl⟩
 rw[h1] at hG
 cases h2:gU d 0 990
 ·rw[h2] at hD
  rw[hno (by simp[fh,h2])]
  (repeat' first|refine st ?_|refine sa fun xe hxe=>?_|refine sb (fun hq=>?_) fun hq=>?_|refine cr (hG) ?_|refine cr (hD) ?_|exact True.intro)
  exact⟨rfl,rfl⟩
 rw[h2] at hD
 by_cases h3:w.props.length<220
 rotate_left
 ·rw[hno (by simp[fh,h3])]
  (repeat' first|refine st ?_|refine sa fun xe hxe=>?_|refine sb (fun hq=>?_) fun hq=>?_|refine cr (hG) ?_|refine cr (hD) ?_|exact True.intro)
  exact⟨rfl,rfl⟩
 obtain⟨hx,hvm,hml⟩:=h.view h1
 have hgo:=j8 (h.gra _ hvm)
 have hvl:=h.vl _ hvm
 have hgr:=cS.1 h1
 have hvlen:=h.vlen
 have hH:=FG w.com (view w m) hgo (by omega)
 have hhb:=ka w.com (view w m) 31
 have hhb:-1≤dJ w.com (view w m)∧dJ w.com (view w m)<31:=hhb
 have hnb:=An (ps:=w.props) (m:=m) fun p hp=>(bR (h.pv p hp).1).1
 have hB:fh w m d=(decide (gX w.props m≤(eo w m d).round) && vtxS w.com (eo w m d)):=by simp[fh,h1,h2,h3]
 by_cases h4:0<dJ w.com (view w m)+1
 ·have hA:=ua (view w m) (dJ w.com (view w m)+1-1) (by omega)
  have hv:eo w m d=⟨dJ w.com (view w m)+1,m,dd (view w m) (dJ w.com (view w m)+1-1),d⟩:=by
   rw[eo,if_pos h4,show dJ w.com (view w m)+1-1=dJ w.com (view w m) by omega]
  have hV:=jt w.com (eo w m d) h.com
  rw[hv] at hV hB
  have hadd:fh w m d=true→kD w m d=oL w ⟨dJ w.com (view w m)+1,m,dd (view w m) (dJ w.com (view w m)+1-1),d⟩:=fun hb=>by simp only[kD,hb,if_true,hv]
  generalize dd (view w m) (dJ w.com (view w m)+1-1)=au at *
  generalize dJ w.com (view w m)=hh at *
  generalize view w m=g at *
  by_cases h5:gX w.props m≤hh+1
  rotate_left
  ·rw[hno (by rw[hB];simp[h5])]
   generalize gX w.props m=nn at *
   (repeat' first|refine st ?_|refine sa fun xe hxe=>?_|refine sb (fun hq=>?_) fun hq=>?_|refine cr (hG) ?_|refine cr (hD) ?_|refine cr (hH) ?_|refine cr (hA) ?_|refine cr (hN) ?_|refine cr (hV) ?_|exact True.intro)
   exact⟨rfl,rfl⟩
  cases h6:vtxS w.com ⟨hh+1,m,au,d⟩
  ·rw[h6] at hV
   rw[hno (by rw[hB,h6,Bool.and_false])]
   generalize gX w.props m=nn at *
   (repeat' first|refine st ?_|refine sa fun xe hxe=>?_|refine sb (fun hq=>?_) fun hq=>?_|refine cr (hG) ?_|refine cr (hD) ?_|refine cr (hH) ?_|refine cr (hA) ?_|refine cr (hN) ?_|refine cr (hV) ?_|exact True.intro)
   exact⟨rfl,rfl⟩
  ·rw[h6] at hV
   rw[hadd (by rw[hB,h6];simpa using h5)]
   generalize gX w.props m=nn at *
   (repeat' first|refine st ?_|refine sa fun xe hxe=>?_|refine sb (fun hq=>?_) fun hq=>?_|refine cr (hG) ?_|refine cr (hD) ?_|refine cr (hH) ?_|refine cr (hA) ?_|refine cr (hN) ?_|refine cr (hV) ?_|exact True.intro)
   exact⟨rfl,rfl⟩
 ·have hv:eo w m d=⟨dJ w.com (view w m)+1,m,[],d⟩:=by rw[eo,if_neg h4]
  have hV:=jt w.com (eo w m d) h.com
  rw[hv] at hV hB
  have hadd:fh w m d=true→kD w m d=oL w ⟨dJ w.com (view w m)+1,m,[],d⟩:=fun hb=>by simp only[kD,hb,if_true,hv]
  generalize dJ w.com (view w m)=hh at *
  generalize view w m=g at *
  by_cases h5:gX w.props m≤hh+1
  rotate_left
  ·rw[hno (by rw[hB];simp[h5])]
   generalize gX w.props m=nn at *
   (repeat' first|refine st ?_|refine sa fun xe hxe=>?_|refine sb (fun hq=>?_) fun hq=>?_|refine cr (hG) ?_|refine cr (hD) ?_|refine cr (hH) ?_|refine cr (hN) ?_|refine cr (hV) ?_|exact True.intro)
   exact⟨rfl,rfl⟩
  cases h6:vtxS w.com ⟨hh+1,m,[],d⟩
  ·rw[h6] at hV
   rw[hno (by rw[hB,h6,Bool.and_false])]
   generalize gX w.props m=nn at *
   (repeat' first|refine st ?_|refine sa fun xe hxe=>?_|refine sb (fun hq=>?_) fun hq=>?_|refine cr (hG) ?_|refine cr (hD) ?_|refine cr (hH) ?_|refine cr (hN) ?_|refine cr (hV) ?_|exact True.intro)
   exact⟨rfl,rfl⟩
  ·rw[h6] at hV
   rw[hadd (by rw[hB,h6];simpa using h5)]
   generalize gX w.props m=nn at *
   (repeat' first|refine st ?_|refine sa fun xe hxe=>?_|refine sb (fun hq=>?_) fun hq=>?_|refine cr (hG) ?_|refine cr (hD) ?_|refine cr (hH) ?_|refine cr (hN) ?_|refine cr (hV) ?_|exact True.intro)
   exact⟨rfl,rfl⟩
theorem AT (w:Wrl)(i m:Int)(h:WOK w)(hi:mH w i=true):ai Tryz.prog 97 [aP w,.int .i64 i,.int .i64 m] [] (aP (jl w i m)) []:=by
 obtain⟨hl,hx,hp⟩:=gJ hi
 have hpl:=h.plen
 have hir:=aD.1 hi
 have hI:=ES (prop w i).members m (by have:=h.mem _ hp;omega)
 have hs:jl w i m={w with props:=w.props.set i.toNat ⟨(prop w i).v,dz (prop w i).members m⟩}:=rfl
 rw[hs]
 refine aa ak Tryz.func97 rfl rfl true 0 4 rfl rfl rfl rfl fun K hK hb1 hb2=>?_;simp only[ae,enc,Nat.reduceAdd]
 clear hb1 hb2
 generalize prop w i=p at *
 generalize dz p.members m=ms at *
 (repeat' first|refine st ?_|refine sa fun xe hxe=>?_|refine sb (fun hq=>?_) fun hq=>?_|exact True.intro)
 obtain rfl:xe=p:=Option.some.inj (hxe.symm.trans hx)
 (repeat' first|refine st ?_|refine sa fun xe hxe=>?_|refine sb (fun hq=>?_) fun hq=>?_|refine cr (hI) ?_|exact True.intro)
 exact⟨rfl,rfl⟩
theorem E0 (w:Wrl)(m i:Int)(h:WOK w):ai Tryz.prog 64 [aP w,.int .i64 m,.int .i64 i] [] (aP (iF w m i)) []:=by
 have hG:=q7 w m
 have hI:=lp i 0 ((w.props.length:Int)-1)
 have hpl:=h.plen
 have hno:fj w m i=false→iF w m i=w:=fun h=>by simp[iF,h]
 refine aa ak Tryz.func64 rfl rfl true 0 4 rfl rfl rfl rfl fun K hK hb1 hb2=>?_;simp only[ae,enc,Nat.reduceAdd]
 clear hb1 hb2
 cases h1:good w m
 ·rw[h1] at hG
  rw[hno (by simp[fj,h1])]
  (repeat' first|refine st ?_|refine sa fun xe hxe=>?_|refine sb (fun hq=>?_) fun hq=>?_|refine cr (hG) ?_|exact True.intro)
  exact⟨rfl,rfl⟩
 rw[h1] at hG
 cases h2:gU i 0 ((w.props.length:Int)-1)
 ·rw[h2] at hI
  rw[hno (by simp[fj,mH,h2])]
  (repeat' first|refine st ?_|refine sa fun xe hxe=>?_|refine sb (fun hq=>?_) fun hq=>?_|refine cr (hG) ?_|refine cr (hI) ?_|exact True.intro)
  exact⟨rfl,rfl⟩
 rw[h2] at hI
 have h2':mH w i=true:=h2
 obtain⟨hl,hx,hp⟩:=gJ h2'
 have hir:=aD.1 h2
 have hvx:=h.pv _ hp
 have hrd:=m8 hvx.1
 obtain⟨hgx,hvm,hml⟩:=h.view h1
 have hgr:=cS.1 h1
 have hvlen:=h.vlen
 have hB:fj w m i=(!By w m i && parOK (view w m) (prop w i).v):=by simp[fj,h1,h2']
 have hP:=cN (view w m) (prop w i).v hrd
 have hC:=AT w i m h h2'
 have hyes:fj w m i=true→iF w m i=jl w i m:=fun h=>by simp[iF,h]
 have hdbl:By w m i=(List.range w.props.length).any fun j=>(j:Int) !=i && (slt (w.props.getD j p0).v (prop w i).v && (w.props.getD j p0).members.contains m):=rfl
 generalize prop w i=p at *
 (repeat' first|refine st ?_|refine sa fun xe hxe=>?_|refine sb (fun hq=>?_) fun hq=>?_|refine cr (hG) ?_|refine cr (hI) ?_|exact True.intro)
 refine ag hK [] [1,2,3,6,7,8] (fun j:Nat=>⟨[(1,.int .i64 m),(2,.int .i64 i),(3,.ptr 4 0),(6,.ptr 5 0),(7,.ptr 6 0),(8,.int .i64 (j:Int))],[(4,.var 31 (aP w).cells),(5,.var 31 [.nils,.nils,.int .i64 0,.nils,.nils]),(6,.var 43 (bu p.v).cells)],7⟩)
  (fun j=>j≤w.props.length∧∀k,k<j→((k:Int) !=i && (slt (w.props.getD k p0).v p.v && (w.props.getD k p0).members.contains m))=false) (fun j=>w.props.length-j) 0 ⟨by simp,by simp⟩ rfl ?_
 rintro j ⟨hj,hall⟩
 by_cases hlt:j<w.props.length
 ·have hxq:w.props[j]?=some (w.props.getD j p0):=by rw[List.getD_eq_getElem?_getD,List.getElem?_eq_getElem hlt];rfl
  have hqm:w.props.getD j p0∈w.props:=dx hlt
  have hyes2:((j:Int) !=i && (slt (w.props.getD j p0).v p.v && (w.props.getD j p0).members.contains m))=true→By w m i=true:=fun hh=>by rw[hdbl];exact List.any_eq_true.2 ⟨j,List.mem_range.2 hlt,hh⟩
  have hno2:((j:Int) !=i && (slt (w.props.getD j p0).v p.v && (w.props.getD j p0).members.contains m))=false→∀k,k<j+1→((k:Int) !=i && (slt (w.props.getD k p0).v p.v && (w.props.getD k p0).members.contains m))=false:=fun hh k hk=>by
   rcases Nat.lt_or_ge k j with h5|h5
   ·exact hall k h5
   ·obtain rfl:k=j:=by omega
    exact hh
  generalize w.props.getD j p0=q at *
  have hS:=AZ q.v p.v
  have hH:=zH q.members m
  by_cases h3:(j:Int)=i
  ·(repeat' first|refine st ?_|refine sa fun xe hxe=>?_|refine sb (fun hq=>?_) fun hq=>?_|refine cr (hS) ?_|refine cr (hH) ?_|exact True.intro)
   exact⟨j+1,⟨by omega,hno2 (by simp[h3])⟩,by omega,rfl⟩
  cases h4:slt q.v p.v
  ·rw[h4] at hS
   (repeat' first|refine st ?_|refine sa fun xe hxe=>?_|refine sb (fun hq=>?_) fun hq=>?_|refine cr (hS) ?_|refine cr (hH) ?_|exact True.intro)
   exact⟨j+1,⟨by omega,hno2 (by simp[h4])⟩,by omega,rfl⟩
  rw[h4] at hS
  cases h5:q.members.contains m
  ·rw[h5] at hH
   (repeat' first|refine st ?_|refine sa fun xe hxe=>?_|refine sb (fun hq=>?_) fun hq=>?_|refine cr (hS) ?_|refine cr (hH) ?_|exact True.intro)
   exact⟨j+1,⟨by omega,hno2 (by rw[h5,Bool.and_false,Bool.and_false])⟩,by omega,rfl⟩
  ·rw[h5] at hH
   rw[hno (by rw[hB,hyes2 (by rw[h4,h5];simpa using h3)];rfl)]
   (repeat' first|refine st ?_|refine sa fun xe hxe=>?_|refine sb (fun hq=>?_) fun hq=>?_|refine cr (hS) ?_|refine cr (hH) ?_|exact True.intro)
   exact⟨rfl,rfl⟩
 ·have hnd:By w m i=false:=by
   rw[hdbl,Bool.eq_false_iff]
   intro hh
   obtain⟨k,hk,hh⟩:=List.any_eq_true.1 hh
   rw[hall k (by have:=List.mem_range.1 hk;omega)] at hh
   cases hh
  rw[hnd] at hB
  generalize view w m=g at *
  cases h6:parOK g p.v
  ·rw[h6] at hP hB
   rw[hno hB]
   (repeat' first|refine st ?_|refine sa fun xe hxe=>?_|refine sb (fun hq=>?_) fun hq=>?_|refine cr (hP) ?_|exact True.intro)
   exact⟨rfl,rfl⟩
  ·rw[h6] at hP hB
   rw[hyes hB]
   (repeat' first|refine st ?_|refine sa fun xe hxe=>?_|refine sb (fun hq=>?_) fun hq=>?_|refine cr (hP) ?_|refine cr (hC) ?_|exact True.intro)
   exact⟨rfl,rfl⟩
theorem EQ (w:Wrl)(m i:Int)(h:WOK w):ai Tryz.prog 63 [aP w,.int .i64 m,.int .i64 i] [] (aP (hJ w m i)) []:=by
 have hG:=q7 w m
 have hI:=lp i 0 ((w.props.length:Int)-1)
 have hpl:=h.plen
 have hno:eI w m i=false→hJ w m i=w:=fun h=>by simp[hJ,h]
 refine aa ak Tryz.func63 rfl rfl true 0 4 rfl rfl rfl rfl fun K hK hb1 hb2=>?_;simp only[ae,enc,Nat.reduceAdd]
 clear hb1 hb2
 cases h1:good w m
 ·rw[h1] at hG
  rw[hno (by simp[eI,h1])]
  (repeat' first|refine st ?_|refine sa fun xe hxe=>?_|refine sb (fun hq=>?_) fun hq=>?_|refine cr (hG) ?_|exact True.intro)
  exact⟨rfl,rfl⟩
 rw[h1] at hG
 cases h2:gU i 0 ((w.props.length:Int)-1)
 ·rw[h2] at hI
  rw[hno (by simp[eI,mH,h2])]
  (repeat' first|refine st ?_|refine sa fun xe hxe=>?_|refine sb (fun hq=>?_) fun hq=>?_|refine cr (hG) ?_|refine cr (hI) ?_|exact True.intro)
  exact⟨rfl,rfl⟩
 rw[h2] at hI
 have h2':mH w i=true:=h2
 obtain⟨hl,hx,hp⟩:=gJ h2'
 have hir:=aD.1 h2
 have hvx:=h.pv _ hp
 have hrd:=m8 hvx.1
 obtain⟨hgx,hvm,hml⟩:=h.view h1
 have hgr:=cS.1 h1
 have hvlen:=h.vlen
 have h7:=h.len
 have hDn:=wZ w (prop w i) h.com hvx.2
 have hB:eI w m i=(don w.com (prop w i) && (!cq (view w m) (prop w i).v.round (prop w i).v.author && parOK (view w m) (prop w i).v)):=by simp[eI,h1,h2']
 have hyes:eI w m i=true→hJ w m i={w with views:=w.views.set m.toNat (eV (view w m) (prop w i).v)}:=fun h=>by simp[hJ,h]
 have hF:=qx (view w m) (prop w i).v.round (prop w i).v.author
 have hFl:=uD (view w m) (prop w i).v.round (prop w i).v.author
 have hP:=cN (view w m) (prop w i).v hrd
 have hAd:=EO (view w m) (prop w i).v (by have:=h.vl _ hvm;omega) (fun u hu=>by have:=h.par (h.vv _ hvm u hu);omega) (by have:=h.par hvx.1;omega) hrd
 cases h3:don w.com (prop w i)
 ·rw[h3] at hDn
  rw[hno (by rw[hB,h3];rfl)]
  generalize prop w i=p at *
  (repeat' first|refine st ?_|refine sa fun xe hxe=>?_|refine sb (fun hq=>?_) fun hq=>?_|refine cr (hG) ?_|refine cr (hI) ?_|refine cr (hDn) ?_|exact True.intro)
  exact⟨rfl,rfl⟩
 rw[h3] at hDn
 generalize prop w i=p at *
 generalize view w m=g at *
 cases h4:cq g p.v.round p.v.author
 rotate_left
 ·have hFl:¬lg g p.v.round p.v.author<0:=by simpa[h4] using hFl
  rw[hno (by rw[hB,h3,h4];rfl)]
  generalize lg g p.v.round p.v.author=fi at *
  (repeat' first|refine st ?_|refine sa fun xe hxe=>?_|refine sb (fun hq=>?_) fun hq=>?_|refine cr (hG) ?_|refine cr (hI) ?_|refine cr (hDn) ?_|refine cr (hF) ?_|exact True.intro)
  exact⟨rfl,rfl⟩
 have hFl:lg g p.v.round p.v.author<0:=by simpa[h4] using hFl
 generalize lg g p.v.round p.v.author=fi at *
 cases h5:parOK g p.v
 ·rw[h5] at hP
  rw[hno (by rw[hB,h3,h4,h5];rfl)]
  (repeat' first|refine st ?_|refine sa fun xe hxe=>?_|refine sb (fun hq=>?_) fun hq=>?_|refine cr (hG) ?_|refine cr (hI) ?_|refine cr (hDn) ?_|refine cr (hF) ?_|refine cr (hP) ?_|exact True.intro)
  exact⟨rfl,rfl⟩
 rw[h5] at hP
 rw[hyes (by rw[hB,h3,h4,h5];rfl)]
 have hAd:=hAd h4 h5
 generalize eV g p.v=g2 at *
 (repeat' first|refine st ?_|refine sa fun xe hxe=>?_|refine sb (fun hq=>?_) fun hq=>?_|refine cr (hG) ?_|refine cr (hI) ?_|refine cr (hDn) ?_|refine cr (hF) ?_|refine cr (hP) ?_|refine cr (hAd) ?_|exact True.intro)
 exact⟨rfl,rfl⟩
theorem ER (w:Wrl)(v:Vtx)(h:WOK w)(hvl:v.parents.length≤2000000):ai Tryz.prog 96 [aP w,bu v] [] (aP (ml w v)) []:=by
 have hpl:=h.plen
 have hno:fg w v=false→ml w v=w:=fun h=>by simp[ml,h]
 have hyes:fg w v=true→ml w v=oL w v:=fun h=>by simp[ml,h]
 have hV:=jt w.com v h.com
 refine aa ak Tryz.func96 rfl rfl true 0 4 rfl rfl rfl rfl fun K hK hb1 hb2=>?_;simp only[ae,enc,Nat.reduceAdd]
 clear hb1 hb2
 by_cases h1:w.bad<0
 ·rw[hno (by simp[fg];intro h9;omega)]
  (repeat' first|refine st ?_|refine sa fun xe hxe=>?_|refine sb (fun hq=>?_) fun hq=>?_|refine cr (hV) ?_|exact True.intro)
  exact⟨rfl,rfl⟩
 by_cases h2:v.author=w.bad
 rotate_left
 ·rw[hno (by simp[fg,h2])]
  (repeat' first|refine st ?_|refine sa fun xe hxe=>?_|refine sb (fun hq=>?_) fun hq=>?_|refine cr (hV) ?_|exact True.intro)
  exact⟨rfl,rfl⟩
 cases h3:vtxS w.com v
 ·rw[h3] at hV
  rw[hno (by simp[fg,h3])]
  (repeat' first|refine st ?_|refine sa fun xe hxe=>?_|refine sb (fun hq=>?_) fun hq=>?_|refine cr (hV) ?_|exact True.intro)
  exact⟨rfl,rfl⟩
 rw[h3] at hV
 by_cases h4:w.props.length<220
 rotate_left
 ·rw[hno (by simp[fg,h4])]
  (repeat' first|refine st ?_|refine sa fun xe hxe=>?_|refine sb (fun hq=>?_) fun hq=>?_|refine cr (hV) ?_|exact True.intro)
  exact⟨rfl,rfl⟩
 have hB:fg w v= !w.props.any fun p=>gm p.v v:=by
  have:(0:Int)≤w.bad:=by omega
  simp[fg,this,h2,h3,h4]
 (repeat' first|refine st ?_|refine sa fun xe hxe=>?_|refine sb (fun hq=>?_) fun hq=>?_|refine cr (hV) ?_|exact True.intro)
 refine ag hK [] [2,3,4,5] (fun j:Nat=>⟨[(2,.ptr 4 0),(3,.ptr 5 0),(4,.ptr 6 0),(5,.int .i64 (j:Int))],[(4,.var 31 (aP w).cells),(5,.var 43 (bu v).cells),(6,.var 31 [.nils,.nils,.int .i64 0,.nils,.nils])],7⟩)
  (fun j=>j≤w.props.length∧∀p∈w.props.take j,gm p.v v=false) (fun j=>w.props.length-j) 0 ⟨by simp,by simp⟩ rfl ?_
 rintro j ⟨hj,hall⟩
 by_cases hlt:j<w.props.length
 ·have hxq:w.props[j]?=some w.props[j]:=List.getElem?_eq_getElem hlt
  have hsn:w.props.take (j+1)=w.props.take j++[w.props[j]]:=List.take_succ_eq_append_getElem hlt
  have hqm:w.props[j]∈w.props:=List.getElem_mem hlt
  generalize w.props[j]=q at *
  have hS:=vn q.v v
  cases h5:gm q.v v
  ·rw[h5] at hS
   (repeat' first|refine st ?_|refine sa fun xe hxe=>?_|refine sb (fun hq=>?_) fun hq=>?_|refine cr (hS) ?_|exact True.intro)
   exact⟨j+1,⟨by omega,by rw[hsn];exact aS hall h5⟩,by omega,rfl⟩
  ·rw[h5] at hS
   have:(w.props.any fun p=>gm p.v v)=true:=List.any_eq_true.2 ⟨q,hqm,h5⟩
   rw[hno (by rw[hB,this];rfl)]
   (repeat' first|refine st ?_|refine sa fun xe hxe=>?_|refine sb (fun hq=>?_) fun hq=>?_|refine cr (hS) ?_|exact True.intro)
   exact⟨rfl,rfl⟩
 ·rw[List.take_of_length_le (by omega)] at hall
  have:(w.props.any fun p=>gm p.v v)=false:=by
   rw[Bool.eq_false_iff]
   intro hh
   obtain⟨p,hp,hh⟩:=List.any_eq_true.1 hh
   rw[hall p hp] at hh
   cases hh
  rw[hyes (by rw[hB,this];rfl)]
  (repeat' first|refine st ?_|refine sa fun xe hxe=>?_|refine sb (fun hq=>?_) fun hq=>?_|refine cr (lF _ hvl) ?_|exact True.intro)
  exact⟨rfl,rfl⟩
abbrev nz (e:Evt):V:=.agg [.int .i64 e.kind,.int .i64 e.a,.int .i64 e.b,.int .i64 e.v.round,.int .i64 e.v.author,.lst (.int .i64) e.v.parents,.int .i64 e.v.digest]
theorem FX (w:Wrl)(e:Evt)(h:WOK w)(hvl:e.v.parents.length≤2000000):ai Tryz.prog 52 [aP w,nz e] [] (aP (js w e)) []:=by
 have hpl:=h.plen
 have h1:=EX w e.a e.b h
 have h2:=E0 w e.a e.b h
 have h3:=EQ w e.a e.b h
 have h4:=ER w e.v h hvl
 have hI:=lp e.b 0 ((w.props.length:Int)-1)
 refine aa ak Tryz.func52 rfl rfl true 0 4 rfl rfl rfl rfl fun K hK hb1 hb2=>?_;simp only[ae,enc,Nat.reduceAdd]
 clear hb1 hb2
 unfold js
 by_cases k1:e.kind=1
 ·rw[if_pos k1]
  generalize kD w e.a e.b=w' at *
  (repeat' first|refine st ?_|refine sa fun xe hxe=>?_|refine sb (fun hq=>?_) fun hq=>?_|refine cr (h1) ?_|exact True.intro)
  exact⟨rfl,rfl⟩
 by_cases k2:e.kind=2
 ·rw[if_neg k1,if_pos k2]
  generalize iF w e.a e.b=w' at *
  (repeat' first|refine st ?_|refine sa fun xe hxe=>?_|refine sb (fun hq=>?_) fun hq=>?_|refine cr (h2) ?_|exact True.intro)
  exact⟨rfl,rfl⟩
 by_cases k3:e.kind=3
 ·rw[if_neg k1,if_neg k2,if_pos k3]
  generalize hJ w e.a e.b=w' at *
  (repeat' first|refine st ?_|refine sa fun xe hxe=>?_|refine sb (fun hq=>?_) fun hq=>?_|refine cr (h3) ?_|exact True.intro)
  exact⟨rfl,rfl⟩
 by_cases k4:e.kind=4
 ·rw[if_neg k1,if_neg k2,if_neg k3,if_pos k4]
  generalize ml w e.v=w' at *
  (repeat' first|refine st ?_|refine sa fun xe hxe=>?_|refine sb (fun hq=>?_) fun hq=>?_|refine cr (h4) ?_|exact True.intro)
  exact⟨rfl,rfl⟩
 by_cases k5:e.kind=5
 ·rw[if_neg k1,if_neg k2,if_neg k3,if_neg k4,if_pos k5]
  by_cases h6:0≤w.bad
  ·cases h7:gU e.b 0 ((w.props.length:Int)-1)
   ·rw[h7] at hI
    have:iE w e.b=w:=by simp[iE,ig,mH,h7]
    rw[this]
    (repeat' first|refine st ?_|refine sa fun xe hxe=>?_|refine sb (fun hq=>?_) fun hq=>?_|refine cr (hI) ?_|exact True.intro)
    exact⟨rfl,rfl⟩
   ·rw[h7] at hI
    have h7':mH w e.b=true:=h7
    have:iE w e.b=jl w e.b w.bad:=by simp[iE,ig,h7',h6]
    rw[this]
    have h5:=AT w e.b w.bad h h7'
    generalize jl w e.b w.bad=w' at *
    (repeat' first|refine st ?_|refine sa fun xe hxe=>?_|refine sb (fun hq=>?_) fun hq=>?_|refine cr (hI) ?_|refine cr (h5) ?_|exact True.intro)
    exact⟨rfl,rfl⟩
  ·have:iE w e.b=w:=by simp[iE,ig,h6]
   rw[this]
   (repeat' first|refine st ?_|refine sa fun xe hxe=>?_|refine sb (fun hq=>?_) fun hq=>?_|refine cr (hI) ?_|exact True.intro)
   exact⟨rfl,rfl⟩
 ·rw[if_neg k1,if_neg k2,if_neg k3,if_neg k4,if_neg k5]
  (repeat' first|refine st ?_|refine sa fun xe hxe=>?_|refine sb (fun hq=>?_) fun hq=>?_|exact True.intro)
  exact⟨rfl,rfl⟩
theorem wx (c l:List Int)(b:Int)(tabs:List (List (Option Vtx)))(xss:List (Option (List Int)))(ms:List PplM):ai Tryz.prog 83 [.ptr 4 0] (rX 0 c l b tabs xss ms) (.tup []) (rX 1 c l b tabs xss ms):=by
 have h:=xw Aj (h:=rX 0 c l b tabs xss ms) (T:=83) (cs:=[.int .u32 0,.lst (.int .i64) c,.lst (.int .i64) l,.int .i64 b,.ref 5,.ref 6]) rfl
 exact h
set_option maxHeartbeats 1000000 in
theorem cY (c l:List Int)(b:Int)(tabs tabs':List (List (Option Vtx)))(xss xss':List (Option (List Int)))(ms ms':List PplM)(e:Evt)(r:Bool)(ht:tabs.length≤tabs'.length)(hx:xss.length≤xss'.length)
  (h1:e.kind=1→ai Tryz.prog 85 [.ptr 4 0,.int .i64 e.a,.int .i64 e.b] (rX 1 c l b tabs xss ms) (.bool r) (rX 1 c l b tabs' xss' ms'))
  (h2:e.kind=2→ai Tryz.prog 86 [.ptr 4 0,.int .i64 e.a,.int .i64 e.b] (rX 1 c l b tabs xss ms) (.bool r) (rX 1 c l b tabs' xss' ms'))
  (h3:e.kind=3→ai Tryz.prog 87 [.ptr 4 0,.int .i64 e.a,.int .i64 e.b] (rX 1 c l b tabs xss ms) (.bool r) (rX 1 c l b tabs' xss' ms'))
  (h4:e.kind=4→ai Tryz.prog 88 [.ptr 4 0,bu e.v] (rX 1 c l b tabs xss ms) (.bool r) (rX 1 c l b tabs' xss' ms'))
  (h5:e.kind=5→ai Tryz.prog 89 [.ptr 4 0,.int .i64 e.b] (rX 1 c l b tabs xss ms) (.bool r) (rX 1 c l b tabs' xss' ms'))
  (h6:¬(1≤e.kind∧e.kind≤5)→r=false∧tabs'=tabs∧xss'=xss∧ms'=ms):ai Tryz.prog 40 [.ptr 4 0,nz e] (rX 0 c l b tabs xss ms) (.bool r) (rX 0 c l b tabs' xss' ms'):=by
 refine vV Aj aX Tryz.func40 rfl rfl false 3 7 rfl rfl rfl rfl (by exact Live.of_look (am (i:=0) (x:=.var 83 [.int .i32 0,.int .u32 0,.lst (.int .i64) c,.lst (.int .i64) l,.int .i64 b,.ref 5,.ref 6]) rfl rfl)) fun K hK hK4 hb1 hb2=>?_;simp only[ae,enc,Nat.reduceAdd]
 clear hb1 hb2
 have hL:=wx c l b tabs xss ms
 have hF0:ao (VB.fvari 142 217 (.ob .vtx) tabs)≤ao (VB.fvari 142 217 (.ob .vtx) tabs'):=ht
 have hF1:ao (VB.frowx 3 (.int .i64) xss)≤ao (VB.frowx 3 (.int .i64) xss'):=hx
 refine mw ?_
 (repeat' first|refine bf ?_|refine sa fun xe hxe=>?_|refine sb (fun hq=>?_) fun hq=>?_|exact True.intro)
 refine⟨rfl,mw ?_⟩
 (repeat' first|refine bf ?_|refine sa fun xe hxe=>?_|refine sb (fun hq=>?_) fun hq=>?_|refine cr (hL) ?_|exact True.intro)
 refine⟨rfl,rL ?_⟩
 refine vS aX (l:=[_,_,_]) (od:=_) rfl ⟨rfl,rfl,rfl⟩ (by decide) ?_
 (conv=>whnf)
 (repeat' first|refine bf ?_|refine sa fun xe hxe=>?_|refine sb (fun hq=>?_) fun hq=>?_|exact True.intro)
 refine⟨rfl,hK4,rfl,?_⟩
 by_cases c1:e.kind=1
 ·have h:=h1 c1
  (repeat' first|refine bf ?_|refine sa fun xe hxe=>?_|refine sb (fun hq=>?_) fun hq=>?_|refine cr (h) ?_|exact True.intro)
  exact⟨rfl,rfl⟩
 ·by_cases c2:e.kind=2
  ·have h:=h2 c2
   (repeat' first|refine bf ?_|refine sa fun xe hxe=>?_|refine sb (fun hq=>?_) fun hq=>?_|refine cr (h) ?_|exact True.intro)
   exact⟨rfl,rfl⟩
  ·by_cases c3:e.kind=3
   ·have h:=h3 c3
    (repeat' first|refine bf ?_|refine sa fun xe hxe=>?_|refine sb (fun hq=>?_) fun hq=>?_|refine cr (h) ?_|exact True.intro)
    exact⟨rfl,rfl⟩
   ·by_cases c4:e.kind=4
    ·have h:=h4 c4
     (repeat' first|refine bf ?_|refine sa fun xe hxe=>?_|refine sb (fun hq=>?_) fun hq=>?_|refine cr (h) ?_|exact True.intro)
     exact⟨rfl,rfl⟩
    ·by_cases c5:e.kind=5
     ·have h:=h5 c5
      (repeat' first|refine bf ?_|refine sa fun xe hxe=>?_|refine sb (fun hq=>?_) fun hq=>?_|refine cr (h) ?_|exact True.intro)
      exact⟨rfl,rfl⟩
     ·obtain⟨rfl,rfl,rfl,rfl⟩:=h6 (by omega)
      (repeat' first|refine bf ?_|refine sa fun xe hxe=>?_|refine sb (fun hq=>?_) fun hq=>?_|exact True.intro)
      exact⟨rfl,rfl⟩
theorem D8 (ps:List Ppl)(xss:List (Option (List Int)))(ms:List PplM)(hR:Rel ps xss ms)(hv:∀p∈ps,p.v.parents.length≤1000000∧p.members.length≤1000000)(hl:ps.length≤1000000):ai Tryz.prog 81 [.ref 4] [(1,.frowx 3 (.int .i64) xss),(4,.row 104 (.pplm 1) ms)] (.lst .ppl ps) [(1,.frowx 3 (.int .i64) xss),(4,.row 104 (.pplm 1) ms)]:=by
 refine aa ak Tryz.func81 rfl rfl true 1 5 rfl rfl rfl rfl fun K hK hb1 hb2=>?_;simp only[ae,enc,Nat.reduceAdd]
 clear hb1 hb2
 have hpl:=hR.len
 (repeat' first|refine st ?_|refine sa fun xe hxe=>?_|refine sb (fun hq=>?_) fun hq=>?_|exact True.intro)
 refine ag hK [] [3,9,10,11] (fun i:Nat=>⟨[(3,.ref 5),(9,.ref 4),(10,.int .i64 ps.length),(11,.int .i64 (i:Int))],[(1,.frowx 3 (.int .i64) xss),(4,.row 104 (.pplm 1) ms),(5,.row 104 .ppl (ps.take i++(List.replicate ps.length p0).drop i))],6⟩) (fun i=>i≤ps.length) (fun i=>ps.length-i) 0 (by simp) (by simp only[hpl];simp;rfl) ?_
 intro i hi
 by_cases hlt:i<ps.length
 ·have hxe:ps[i]?=some ps[i]:=List.getElem?_eq_getElem hlt
  have hg:i<(ps.take i++(List.replicate ps.length p0).drop i).length:=cI _ _ (by simp;omega) (by simpa using hlt)
  have hs:(ps.take i++(List.replicate ps.length p0).drop i).set i ps[i]=ps.take (i+1)++(List.replicate ps.length p0).drop (i+1):=by
   rw[bE _ _ _ (by simp;omega) (by simpa using hlt),List.take_succ_eq_append_getElem hlt]
  obtain⟨v1,v2⟩:=hv _ (List.getElem_mem hlt)
  obtain⟨j,hx1,hx2⟩:=hR.get i _ hxe
  generalize hrow:ps.take i++(List.replicate ps.length p0).drop i=row at *
  generalize ps[i]=p at *
  (repeat' first|refine st ?_|refine sa fun xe hxe=>?_|refine sb (fun hq=>?_) fun hq=>?_|refine cr (jq _ v1) ?_|exact True.intro)
  refine⟨i+1,by omega,by omega,?_⟩
  rw[←hs]
  rfl
 ·obtain rfl:i=ps.length:=by omega
  (repeat' first|refine st ?_|refine sa fun xe hxe=>?_|refine sb (fun hq=>?_) fun hq=>?_|exact True.intro)
  simp
def rC (s:Int)(c l:List Int)(b:Int)(tabs:List (List (Option Vtx)))(xss:List (Option (List Int)))(ms:List PplM)(ps:List Ppl):Nat→VSt
 |0=>⟨[(2,.ptr 7 0),(3,.ptr 8 0),(30,.ref 5),(31,.int .i64 tabs.length),(32,.int .i64 0)],rX s c l b tabs xss ms++[(7,VB.var 31 [.nils,.nils,.int .i64 0,.nils,.nils]),(8,VB.var 31 [.lst (.int .i64) c,.ref 9,.int .i64 b,.nils,.lst .ppl ps]),(9,VB.row 3 (.int .i64) l)],10⟩
 |i+1=>⟨[(2,.ptr 7 0),(3,.ptr 8 0),(30,.ref 5),(31,.int .i64 tabs.length),(32,.int .i64 ((i+1:Nat):Int))],rX s c l b tabs xss ms++[(7,VB.var 31 [.nils,.nils,.int .i64 0,.nils,.nils]),(8,VB.var 31 [.lst (.int .i64) c,.ref 9,.int .i64 b,.ref 10,.lst .ppl ps]),(9,VB.row 3 (.int .i64) l),(10,VB.row 102 (.lst .vtx) ((tabs.take (i+1)).map aT))],11⟩
set_option maxHeartbeats 1000000 in
theorem Cb (s:Int)(c l:List Int)(b:Int)(tabs:List (List (Option Vtx)))(xss:List (Option (List Int)))(ms:List PplM)(ps:List Ppl)(hR:Rel ps xss ms)(hc:c≠[])(hcl:c.length≤1000000)(hll:l.length≤1000000)(ht:∀t∈tabs,t.length=217∧∀v,some v∈t→v.parents.length≤1000000)(htl:tabs.length≤7)(htl1:1≤tabs.length)
  (hv:∀p∈ps,p.v.parents.length≤1000000∧p.members.length≤1000000) (hpn:ps.length≤1000000):ai Tryz.prog 41 [.ptr 4 0] (rX s c l b tabs xss ms) (aP ⟨c,l,b,tabs.map aT,ps⟩) (rX s c l b tabs xss ms):=by
 have hC:=D5 c hc hcl
 have hP:=D8 ps xss ms hR hv hpn
 have hrl:((List.range tabs.length).map some).length=tabs.length:=by simp
 refine aa ak Tryz.func41 rfl rfl true 3 7 rfl rfl rfl rfl fun K hK hb1 hb2=>?_;simp only[ae,enc,Nat.reduceAdd]
 clear hb1 hb2
 (repeat' first|refine st ?_|refine sa fun xe hxe=>?_|refine sb (fun hq=>?_) fun hq=>?_|refine cr (hC) ?_|refine co (hP) ?_|exact True.intro)
 refine ag hK [] [2,3,30,31,32] (rC s c l b tabs xss ms ps) (fun i=>i≤tabs.length) (fun i=>tabs.length-i) 0 (by simp) (by simp only[hrl];(conv=>whnf);rfl) ?_
 intro i hi
 by_cases hlt:i<tabs.length
 ·have hxe:tabs[i]?=some tabs[i]:=List.getElem?_eq_getElem hlt
  have hsn:tabs.take (i+1)=tabs.take i++[tabs[i]]:=List.take_succ_eq_append_getElem hlt
  obtain⟨t1,t2⟩:=ht _ (List.getElem_mem hlt)
  have hxv:((List.range tabs.length).map some)[i]?=some (some i):=by rw[List.getElem?_map,List.getElem?_range hlt];rfl
  have hV:=Ej tabs i _ hxe t1 t2
  generalize tabs[i]=tab at *
  cases i with
  |zero=>
   have hst:rC s c l b tabs xss ms ps (0+1)=⟨[(2,.ptr 7 0),(3,.ptr 8 0),(30,.ref 5),(31,.int .i64 tabs.length),(32,.int .i64 ((0+1:Nat):Int))],rX s c l b tabs xss ms++[(7,VB.var 31 [.nils,.nils,.int .i64 0,.nils,.nils]),(8,VB.var 31 [.lst (.int .i64) c,.ref 9,.int .i64 b,.ref 10,.lst .ppl ps]),(9,VB.row 3 (.int .i64) l),(10,VB.row 102 (.lst .vtx) [aT tab])],11⟩:=by
    rw[rC,hsn]
    rfl
   have hs0:rC s c l b tabs xss ms ps 0=⟨[(2,.ptr 7 0),(3,.ptr 8 0),(30,.ref 5),(31,.int .i64 tabs.length),(32,.int .i64 0)],rX s c l b tabs xss ms++[(7,VB.var 31 [.nils,.nils,.int .i64 0,.nils,.nils]),(8,VB.var 31 [.lst (.int .i64) c,.ref 9,.int .i64 b,.nils,.lst .ppl ps]),(9,VB.row 3 (.int .i64) l)],10⟩:=rfl
   have hx0:((List.range tabs.length).map some)[(0:Int).toNat]?=some (some 0):=hxv
   rw[hs0]
   (repeat' first|refine st ?_|refine sa fun xe hxe=>?_|refine sb (fun hq=>?_) fun hq=>?_|refine co (hV) ?_|exact True.intro)
   refine⟨0+1,by omega,by omega,?_⟩
   rw[hst]
   rfl
  |succ i=>
   have hfl:((tabs.take (i+1)).map aT).length=i+1:=by rw[List.length_map,List.length_take];omega
   have hst:rC s c l b tabs xss ms ps (i+1+1)=⟨[(2,.ptr 7 0),(3,.ptr 8 0),(30,.ref 5),(31,.int .i64 tabs.length),(32,.int .i64 ((i+1+1:Nat):Int))],rX s c l b tabs xss ms++[(7,VB.var 31 [.nils,.nils,.int .i64 0,.nils,.nils]),(8,VB.var 31 [.lst (.int .i64) c,.ref 9,.int .i64 b,.ref 10,.lst .ppl ps]),(9,VB.row 3 (.int .i64) l),(10,VB.row 102 (.lst .vtx) ((tabs.take (i+1)).map aT++[aT tab]))],11⟩:=by
    rw[rC,hsn,List.map_append]
    rfl
   have hs0:rC s c l b tabs xss ms ps (i+1)=⟨[(2,.ptr 7 0),(3,.ptr 8 0),(30,.ref 5),(31,.int .i64 tabs.length),(32,.int .i64 ((i+1:Nat):Int))],rX s c l b tabs xss ms++[(7,VB.var 31 [.nils,.nils,.int .i64 0,.nils,.nils]),(8,VB.var 31 [.lst (.int .i64) c,.ref 9,.int .i64 b,.ref 10,.lst .ppl ps]),(9,VB.row 3 (.int .i64) l),(10,VB.row 102 (.lst .vtx) ((tabs.take (i+1)).map aT))],11⟩:=rfl
   rw[hs0]
   clear hs0
   generalize (tabs.take (i+1)).map aT=ts at *
   (repeat' first|refine st ?_|refine sa fun xe hxe=>?_|refine sb (fun hq=>?_) fun hq=>?_|refine co (hV) ?_|exact True.intro)
   refine⟨i+1+1,by omega,by omega,?_⟩
   rw[hst]
   rfl
 ·cases i with
  |zero=>omega
  |succ i=>
   have hs0:rC s c l b tabs xss ms ps (i+1)=⟨[(2,.ptr 7 0),(3,.ptr 8 0),(30,.ref 5),(31,.int .i64 tabs.length),(32,.int .i64 ((i+1:Nat):Int))],rX s c l b tabs xss ms++[(7,VB.var 31 [.nils,.nils,.int .i64 0,.nils,.nils]),(8,VB.var 31 [.lst (.int .i64) c,.ref 9,.int .i64 b,.ref 10,.lst .ppl ps]),(9,VB.row 3 (.int .i64) l),(10,VB.row 102 (.lst .vtx) (tabs.map aT))],11⟩:=by
    rw[rC,List.take_of_length_le (by omega)]
   rw[hs0]
   clear hs0
   (repeat' first|refine st ?_|refine sa fun xe hxe=>?_|refine sb (fun hq=>?_) fun hq=>?_|exact True.intro)
   exact⟨rfl,rfl⟩
theorem B9 (s:Int)(w:Wrl)(xss:List (Option (List Int)))(ms:List PplM)(hw:WOK w)(hR:Rel w.props xss ms):ai Tryz.prog 41 [.ptr 4 0] (rW s w xss ms) (aP w) (rW s w xss ms):=by
 have h:=(je.2 hw)
 rw[kP,Bool.and_eq_true] at h
 have h:=h.1
 obtain⟨h1,h2,h3,h4,h5,h6⟩:=jM h
 have h7:=(aw.1 h1).2
 have hll:=(fX.1 h2).2
 have hps:=mS h
 have hpl:=i4 h4
 have hne:w.com≠[]:=fun h=>by rw[h] at h7;simp at h7
 have hc:=Cb s w.com w.lead w.bad (w.views.map az) xss ms w.props hR hne (by omega) (by omega) (fun t ht=>by
  obtain⟨g,hg,rfl⟩:=List.mem_map.1 ht
  refine⟨ch g,fun v hv=>?_⟩
  have:=(kw h g hg v (tL hv)).2
  omega) (by rw[List.length_map];omega) (by rw[List.length_map];omega) (fun p hp=>by have:=(hps p hp).2.2.2;omega) (by omega)
 rw[pP h] at hc
 exact hc
theorem FT (c l:List Int)(b:Int)(tabs:List (List (Option Vtx)))(ps:List Ppl):∀k:Id,look (toH (rX 0 c l b tabs (ps.map fun p=>some p.members) (qW ps))) k=look (toH (rB c l b tabs ps)) k:=by
 rintro⟨k1,k2⟩
 rw[al,al]
 by_cases e:k1=1
 ·subst e
  simp only[look,if_true,Option.bind_some,VB.blks]
  simp[List.getElem?_map,rowX]
  rfl
 ·simp[look,e]
theorem zX (w:Wrl)(hl:∀g∈w.views,g.length≤2000000)(hp:eJ w=true):ai Tryz.prog 37 [aP w] [] (.tup [.ptr 4 0,.bool (fH w)]) (rW 0 w (w.props.map fun p=>some p.members) (qW w.props)):=by
 have h:=Dd w hl
 simp only[EA,Ez,hp,if_true] at h
 rw[EG hp] at h
 have e:fH w=lr w.bad w.props w.views:=by rw[kP,hp,Bool.true_and]
 rw[e]
 unfold ai at h⊢
 exact h.out (FT _ _ _ _ _)
def t7 (w:Wrl)(e:Evt):Bool:=(decide (e.kind=1) && fh w e.a e.b)||(decide (e.kind=4) && fg w e.v)
def xv (w:Wrl)(e:Evt):Bool:=if e.kind=2 then fj w e.a e.b && !(prop w e.b).members.contains e.a else if e.kind=3 then eI w e.a e.b else if e.kind=5 then ig w e.b && !(prop w e.b).members.contains w.bad else false
def Θy:TT:=(102,⟨.slice 43,1,24,some .nils,some (.hr 2),false⟩)::(43,⟨.struct [(3,0,1),(3,1,1),(22,2,1),(3,3,1)],4,48,some (.agg [.int .i64 0,.int .i64 0,.nils,.int .i64 0]),some (.vtxo 3),false⟩)::(104,⟨.struct [(43,0,4),(22,4,1)],5,72,some (.agg [.int .i64 0,.int .i64 0,.nils,.int .i64 0,.nils]),some (.pplo 3 3),false⟩)::Θ
theorem jQ:TT.ok Tryz.prog Θy:=TT.okB_ok (by kernel_rfl)
theorem x7 {P Q:Prop}(h:Q)(s:Hid Q→P:=by
  intro h
  (first|(with_reducible first|apply cQ|apply ca)|((first|with_reducible apply bO jQ|refine go ?_|(with_reducible first|apply ck|apply b7|apply bM|apply bP|refine bN jQ mixed (by kernel_rfl) ?_))<;>conv=>whnf))
  repeat(first|(with_reducible first|apply cQ|apply ca)|((first|with_reducible apply bO jQ|refine go ?_|(with_reducible first|apply ck|apply b7|apply bM|apply bP|refine bN jQ mixed (by kernel_rfl) ?_))<;>conv=>whnf))
  exact h.h):P:=s ⟨h⟩
theorem D6 (l:List Int)(hl:l≠[])(hb:l.length≤1000000):ai Tryz.prog 90 [.lst (.int .i64) l] [] (.ref 4) [(4,.row 3 (.int .i64) l)]:=by
 cases l with
 |nil=>exact absurd rfl hl
 |cons x l=>
  refine aa ak Tryz.func90 rfl rfl false 0 4 rfl rfl rfl rfl fun K hK hb1 hb2=>?_;simp only[ae,enc,Nat.reduceAdd]
  (repeat' first|refine st ?_|refine sa fun xe hxe=>?_|refine sb (fun hq=>?_) fun hq=>?_|exact True.intro)
  refine dD (gz (Nat.zero_le _) hb (by decide)) ?_
  (repeat' first|refine st ?_|refine sa fun xe hxe=>?_|refine sb (fun hq=>?_) fun hq=>?_|exact True.intro)
  refine b7 ?_
  (conv=>whnf)
  exact⟨rfl,rfl⟩
theorem D9 (ps:List Ppl)(xss:List (Option (List Int)))(ms:List PplM)(hR:Rel ps xss ms)(hv:∀p∈ps,p.v.parents.length≤1000000∧p.members.length≤1000000)(hl:ps.length≤1000000):ai Tryz.prog 81 [.ref 4] [(1,.frowx 3 (.int .i64) xss),(3,.frow 3 (.int .i64) []),(4,.row 104 (.pplm 1) ms)] (.ref 5) [(1,.frowx 3 (.int .i64) xss),(3,.frow 3 (.int .i64) (aF ps)),(4,.row 104 (.pplm 1) ms),(5,.row 104 (.pplo 3 3) (fJ 0 ps))]:=by
 refine aa jQ Tryz.func81 rfl rfl false 1 5 rfl rfl rfl rfl fun K hK hb1 hb2=>?_;simp only[ae,enc,Nat.reduceAdd]
 clear hb1 hb2
 have hpl:=hR.len
 (repeat' first|refine x7 ?_|refine sa fun xe hxe=>?_|refine sb (fun hq=>?_) fun hq=>?_|exact True.intro)
 refine ag hK [] [3,9,10,11] (fun i:Nat=>⟨[(3,.ref 5),(9,.ref 4),(10,.int .i64 ps.length),(11,.int .i64 (i:Int))],[(1,.frowx 3 (.int .i64) xss),(3,.frow 3 (.int .i64) (aF (ps.take i))),(4,.row 104 (.pplm 1) ms),(5,.row 104 (.pplo 3 3) (fJ 0 (ps.take i)++(List.replicate ps.length yo).drop i))],6⟩) (fun i=>i≤ps.length) (fun i=>ps.length-i) 0 (by simp) (by simp only[hpl];simp[fJ,aF];rfl) ?_
 intro i hi
 by_cases hlt:i<ps.length
 ·have hxe:ps[i]?=some ps[i]:=List.getElem?_eq_getElem hlt
  have hsn:ps.take (i+1)=ps.take i++[ps[i]]:=List.take_succ_eq_append_getElem hlt
  have hln:(fJ 0 (ps.take i)).length=i:=by rw[wT,List.length_take];omega
  have hg:i<(fJ 0 (ps.take i)++(List.replicate ps.length yo).drop i).length:=cI _ _ hln (by simpa using hlt)
  have hpq:(aF (ps.take i)).length=2*i:=by rw[og,List.length_take];omega
  have hs:(fJ 0 (ps.take i)++(List.replicate ps.length yo).drop i).set i ⟨⟨ps[i].v.round,ps[i].v.author,some (aF (ps.take i)).length,ps[i].v.digest⟩,some (aF (ps.take i)++[ps[i].v.parents]).length⟩=fJ 0 (ps.take (i+1))++(List.replicate ps.length yo).drop (i+1):=by
   rw[bE _ _ _ hln (by simpa using hlt),hsn,oe,List.length_append,hpq,List.length_take,Nat.min_eq_left (by omega),Nat.zero_add];rfl
  have hp:aF (ps.take (i+1))=(aF (ps.take i)++[ps[i].v.parents])++[ps[i].members]:=by rw[hsn,pG,List.append_assoc];rfl
  obtain⟨v1,v2⟩:=hv _ (List.getElem_mem hlt)
  obtain⟨j,hx1,hx2⟩:=hR.get i _ hxe
  clear hpq
  generalize hrow:fJ 0 (ps.take i)++(List.replicate ps.length yo).drop i=row at *
  generalize aF (ps.take i)=qs at *
  generalize ps[i]=p at *
  (repeat' first|refine x7 ?_|refine sa fun xe hxe=>?_|refine sb (fun hq=>?_) fun hq=>?_|refine cr (jq _ v1) ?_|exact True.intro)
  refine⟨i+1,by omega,by omega,?_⟩
  rw[←hs,hp]
  rfl
 ·obtain rfl:i=ps.length:=by omega
  rw[List.take_of_length_le (Nat.le_refl _),show fJ 0 ps++(List.replicate ps.length yo).drop ps.length=fJ 0 ps by simp]
  (repeat' first|refine x7 ?_|refine sa fun xe hxe=>?_|refine sb (fun hq=>?_) fun hq=>?_|exact True.intro)
  exact⟨rfl,rfl⟩
theorem ph (E:TypeId)(b:List (List Int)):ao (VB.frow E (.int .i64) [])≤ao (VB.frow E (.int .i64) b):=by simp[ao]
set_option maxHeartbeats 1000000 in
theorem Ek (tabs:List (List (Option Vtx)))(k:Nat)(tab:List (Option Vtx))(pss:List (List Int))(hk:tabs[k]?=some tab)(ht:tab.length=217)(hv:∀v,some v∈tab→v.parents.length≤1000000):ai Tryz.prog 91 [.fptr 0 k 0] [(0,.fvari 142 217 (.ob .vtx) tabs),(3,.frow 3 (.int .i64) pss)] (.ref 4) [(0,.fvari 142 217 (.ob .vtx) tabs),(3,.frow 3 (.int .i64) (pss++(aT tab).map (·.parents))),(4,.row 43 (.vtxo 3) (gV pss.length (aT tab)))]:=by
 refine aa jQ Tryz.func91 rfl rfl false 0 4 rfl rfl rfl rfl fun K hK hb1 hb2=>?_;simp only[ae,enc,Nat.reduceAdd]
 clear hb1 hb2
 have hat:∀n,n<217→tab[n]?=some (tab.getD n none):=fun n hn=>by rw[List.getD_eq_getElem?_getD,List.getElem?_eq_getElem (by omega)];rfl
 (repeat' first|refine x7 ?_|refine sa fun xe hxe=>?_|refine sb (fun hq=>?_) fun hq=>?_|exact True.intro)
 refine ag hK [] [3,9,11] (fun r:Nat=>⟨[(3,.ref 4),(9,.fptr 0 k 0),(11,.int .i64 (r:Int))],[(0,.fvari 142 217 (.ob .vtx) tabs),(3,.frow 3 (.int .i64) (pss++(aT (tab.take (r*7))).map (·.parents))),(4,.row 43 (.vtxo 3) (gV pss.length (aT (tab.take (r*7)))))],5⟩) (fun r=>r≤31) (fun r=>31-r) 0 (by omega) (by simp[aT,gV];rfl) ?_
 intro r hr
 by_cases hlt:r<31
 ·obtain⟨e,he⟩:∃e:Nat→Option Vtx,∀j,e j=tab.getD (r*7+j) none:=⟨_,fun _=>rfl⟩
  have hg:∀j,j<7→tab[r*7+j]?=some (e j):=fun j hj=>by rw[he];exact hat _ (by omega)
  (repeat' first|refine x7 ?_|refine sa fun xe hxe=>?_|refine sb (fun hq=>?_) fun hq=>?_|exact True.intro)
  rename_i e0 h0 e1 h1 e2 h2 e3 h3 e4 h4 e5 h5
  obtain rfl:e0=e 0:=Option.some.inj (h0.symm.trans (hg 0 (by omega)))
  obtain rfl:e1=e 1:=Option.some.inj (h1.symm.trans (hg 1 (by omega)))
  obtain rfl:e2=e 2:=Option.some.inj (h2.symm.trans (hg 2 (by omega)))
  obtain rfl:e3=e 3:=Option.some.inj (h3.symm.trans (hg 3 (by omega)))
  obtain rfl:e4=e 4:=Option.some.inj (h4.symm.trans (hg 4 (by omega)))
  obtain rfl:e5=e 5:=Option.some.inj (h5.symm.trans (hg 5 (by omega)))
  obtain rfl:xe=e 6:=Option.some.inj (hxe.symm.trans (hg 6 (by omega)))
  clear h0 h1 h2 h3 h4 h5 hxe
  refine ag hK [] [3,9,11,16,17] (fun j:Nat=>⟨[(3,.ref 4),(9,.fptr 0 k 0),(11,.int .i64 (r:Int)),(16,.agg [.obo .vtx (e 0),.obo .vtx (e 1),.obo .vtx (e 2),.obo .vtx (e 3),.obo .vtx (e 4),.obo .vtx (e 5),.obo .vtx (e 6)]),(17,.int .i64 (j:Int))],[(0,.fvari 142 217 (.ob .vtx) tabs),(3,.frow 3 (.int .i64) (pss++(aT (tab.take (r*7+j))).map (·.parents))),(4,.row 43 (.vtxo 3) (gV pss.length (aT (tab.take (r*7+j)))))],5⟩) (fun j=>j≤7) (fun j=>7-j) 0 (by omega) rfl ?_
  intro j hj
  by_cases hjl:j<7
  ·have hs:=tV (hg j hjl)
   have hvj:∀v,e j=some v→v.parents.length≤1000000:=fun v h=>hv v (List.mem_of_getElem? (by rw[hg j hjl,h]))
   have hll:=xh (tab.take (r*7+j))
   rw[List.length_take] at hll
   obtain⟨j1,hj1⟩:∃j1,j1=j+1:=⟨_,rfl⟩
   have hji:((j1:Nat):Int)=(j:Int)+1:=by omega
   rw[Nat.add_assoc,←hj1] at hs
   obtain⟨o,ho⟩:∃o,o=e j:=⟨_,rfl⟩
   rw[←ho] at hs hvj
   generalize aT (tab.take (r*7+j))=l at *
   have hsl:∀v,(gV pss.length l)++[⟨v.round,v.author,some (pss++l.map (·.parents)).length,v.digest⟩]=gV pss.length (l++[v]):=fun v=>by rw[tU,List.length_append,List.length_map]
   have hpl:∀v:Vtx,(pss++l.map (·.parents))++[v.parents]=pss++(l++[v]).map (·.parents):=fun v=>by rw[List.map_append,List.append_assoc];rfl
   have hlv:(gV pss.length l).length≤217:=by rw[xf];omega
   obtain rfl|rfl|rfl|rfl|rfl|rfl|rfl:j=0∨j=1∨j=2∨j=3∨j=4∨j=5∨j=6:=by omega
   all_goals
    rw[←ho]
    cases o with
    |none=>
     clear hsl hpl
     generalize hrow:gV pss.length l=row at *
     (repeat' first|refine x7 ?_|refine sa fun xe hxe=>?_|refine sb (fun hq=>?_) fun hq=>?_|exact True.intro)
     refine⟨j1,by omega,by omega,?_⟩
     rw[hs,hji,Option.toList_none,List.append_nil,hrow]
     try rfl
    |some v=>
     have hvv:=hvj v rfl
     have hsv:=hsl v
     have hpv:=hpl v
     clear hsl hpl
     generalize gV pss.length l=row at *
     generalize pss++l.map (·.parents)=ps at *
     (repeat' first|refine x7 ?_|refine sa fun xe hxe=>?_|refine sb (fun hq=>?_) fun hq=>?_|refine cr (jq _ hvv) ?_|exact True.intro)
     refine⟨j1,by omega,by omega,?_⟩
     rw[hs,hji,Option.toList_some,←hsv,←hpv]
     try rfl
  ·obtain rfl:j=7:=by omega
   (repeat' first|refine x7 ?_|refine sa fun xe hxe=>?_|refine sb (fun hq=>?_) fun hq=>?_|exact True.intro)
   exact⟨r+1,by omega,by omega,by rw[show (r+1)*7=r*7+7 by omega];rfl⟩
 ·obtain rfl:r=31:=by omega
  (repeat' first|refine x7 ?_|refine sa fun xe hxe=>?_|refine sb (fun hq=>?_) fun hq=>?_|exact True.intro)
  rw[List.take_of_length_le (by omega)]
  exact⟨rfl,rfl⟩

end Go.Proofs.YthmfppknagbkeaaGreat.Am
