/- Runs while events are applied: deliveries, what the faulty member does. The lock of a run, under the numbers of this program. The plain machine: the lock of one goroutine; a function that defers its Unlock. Runs: what the specification's functions of events give. Runs: what the specification's functions of events give, put together. Runs: an event is applied, under the lock. Runs: what has been applied is handed back. Runs: what the program hands back, in rows of one's own. -/
import Derived.Conc.MuLone
import Derived.Defers
import Derived.Test.YthmfppknagbkeaaGreatDC9
set_option linter.unusedSimpArgs false
set_option linter.unusedVariables false
set_option maxHeartbeats 1000000
namespace Go.Proofs.YthmfppknagbkeaaGreat.Am
open Go
attribute [local irreducible] Mk bN Ari fe pI km cj eC ja iB At ah
set_option maxRecDepth 10000
theorem CR (s:Int)(w:Wrl)(xss:List (Option (List Int)))(ms:List PplM)(hw:WOK w)(hR:Rel w.props xss ms)(m i:Int)(hi:nh w i=false):ah Tryz.prog 87 [.ptr 4 0,.int .i64 m,.int .i64 i] (rW s w xss ms) (.bool false) (rW s w xss ms):=by
 have hpl:=hw.plen
 have hml:=hR.len
 refine aa aR Tryz.func87 rfl rfl false 3 7 rfl rfl rfl rfl fun K hK hb1 hb2=>?_;simp only[ae,enc,Nat.reduceAdd]
 clear hb1 hb2
 have hP:=vP s w.com w.lead w.bad (w.views.map ay) xss ms i (by rw[hml];exact wd hi) (by omega)
 (repeat' first|refine aY ?_|refine sa fun xe hxe=>?_|refine sb (fun hq=>?_) fun hq=>?_|refine cr (hP) ?_|exact True.intro)
 exact⟨rfl,rfl⟩
abbrev ww (w:Wrl)(m:Int)(v:Vtx):List (List (Option Vtx)):=(w.views.map ay).set m.toNat ((ay (view w m)).set (i0 v) (some v))
theorem DC {w:Wrl}(hw:WOK w){m:Int}(hm:0≤m∧m<w.com.length){v:Vtx}(hv:fL v):(ay (view w m))[v.round.toNat * 7+v.author.toNat]?=some ((ay (view w m)).getD (v.round.toNat * 7+v.author.toNat) none)∧((ay (view w m)).getD (v.round.toNat * 7+v.author.toNat) none).isSome=cx (view w m) v.round v.author:=by
 obtain⟨⟨a1,a2⟩,a3,a4⟩:=hv
 have hG:=(gL hw hm).2
 have:=nE (fun u hu=>cN hw.com (hG.vtx u hu)) (r:=v.round) (a:=v.author) ⟨a1,a2⟩ ⟨a3,a4⟩
 rw[show (v.round*7+v.author).toNat=v.round.toNat * 7+v.author.toNat by omega] at this
 exact⟨by rw[List.getD_eq_getElem?_getD,List.getElem?_eq_getElem (by rw[cf];omega)];rfl,this⟩
set_option maxHeartbeats 1000000 in
theorem E0 (s:Int)(w:Wrl)(xss:List (Option (List Int)))(ms:List PplM)(hw:WOK w)(hR:Rel w.props xss ms)(m:Int)(i j:Nat)(hi:nh w i=true)(hj1:ms[i]?=some ⟨(prop w i).v,some j⟩)(hj2:xss[j]?=some (some (prop w i).members)):ah Tryz.prog 87 [.ptr 4 0,.int .i64 m,.int .i64 (i:Int)] (rW s w xss ms)
  (.bool (dk w m i)) (if dk w m i then rX s w.com w.lead w.bad (ww w m (prop w i).v) xss ms else rW s w xss ms):=by
 have hpl:=hw.plen
 have hml:=hR.len
 have hil:=(List.getElem?_eq_some_iff.1 hj1).1
 obtain⟨n,hn,hn1,hn2⟩:=lV hi
 obtain rfl:i=n:=by omega
 obtain⟨o1,o2⟩:=lY hw (List.mem_of_getElem? hn2)
 refine aa aR Tryz.func87 rfl rfl false 3 7 rfl rfl rfl rfl fun K hK hb1 hb2=>?_;simp only[ae,enc,Nat.reduceAdd]
 clear hb1 hb2
 have hP:=vQ s w.com w.lead w.bad (w.views.map ay) xss ms i (by omega) (by omega)
 have hC:=vM s w.com w.lead w.bad (w.views.map ay) xss ms m
 rw[show (bO w.com m && m !=w.bad)=good w m from rfl] at hC
 cases hg:good w m
 ·have hF:dk w m i=false:=by unfold dk;rw[hg];rfl
  rw[hg] at hC
  (repeat' first|refine aY ?_|refine sa fun xe hxe=>?_|refine sb (fun hq=>?_) fun hq=>?_|refine cr (hP) ?_|refine cr (hC) ?_|exact True.intro)
  rw[hF]
  exact⟨rfl,rfl⟩
 ·rw[hg] at hC
  obtain⟨hm,-⟩:=cZ.1 hg
  obtain⟨hk,hG⟩:=gL hw hm
  have hc:=hw.com
  have h7:=(aw.1 hc).2
  have hvl:(w.views.map ay).length=w.com.length:=by rw[List.length_map,hw.vlen]
  have hxv:=AD (n:=(w.views.map ay).length) (m:=m) (by rw[hvl];exact hm)
  have hrl:((List.range (w.views.map ay).length).map some).length=w.com.length:=by simp[hvl,hw.vlen]
  have hV:=zP (w.views.map ay) m.toNat _ (prop w i).v hk (cf _) (jK hc o1).1 (jK hc o1).2
  rw[zO hw hm o1] at hV
  have hD:=rp w.com (prop w i) hc o2
  obtain⟨hs1,hs2⟩:=DC hw hm (cN hc o1)
  obtain⟨⟨a1,a2⟩,a3,a4⟩:=cN hc o1
  have hpp:=lu hc o1
  have htl:=cf (view w m)
  cases hd:don w.com (prop w i)
  ·have hF:dk w m i=false:=by unfold dk;rw[hd];simp
   rw[hd] at hD
   (repeat' first|refine aY ?_|refine sa fun xe hxe=>?_|refine sb (fun hq=>?_) fun hq=>?_|refine cr (hP) ?_|refine cr (hC) ?_|((with_reducible refine gQ ?_);(conv=>whnf))|((first|with_reducible refine ax (hD) ?_);conv=>whnf)|exact True.intro)
   rw[hF]
   exact⟨rfl,rfl⟩
  ·rw[hd] at hD
   cases hp:parOK (view w m) (prop w i).v
   ·have hF:dk w m i=false:=by unfold dk;rw[hp];simp
    rw[hp] at hV
    (repeat' first|refine aY ?_|refine sa fun xe hxe=>?_|refine sb (fun hq=>?_) fun hq=>?_|refine cr (hP) ?_|refine cr (hC) ?_|refine cr (hV) ?_|((with_reducible refine ch ?_);(conv=>whnf);(first|with_reducible refine ax (jV _ (Nat.le_trans hpp (by omega))) ?_);conv=>whnf)|((with_reducible refine gQ ?_);(conv=>whnf))|((first|with_reducible refine ax (hD) ?_);conv=>whnf)|exact True.intro)
    rw[hF]
    exact⟨rfl,rfl⟩
   ·rw[hp] at hV
    have hB:dk w m i= !cx (view w m) (prop w i).v.round (prop w i).v.author:=by unfold dk;rw[hg,hi,hd,hp];simp
    cases ho:(ay (view w m)).getD ((prop w i).v.round.toNat * 7+(prop w i).v.author.toNat) none with
    |some u=>
     rw[ho] at hs1 hs2
     rw[←hs2] at hB
     (repeat' first|refine aY ?_|refine sa fun xe hxe=>?_|refine sb (fun hq=>?_) fun hq=>?_|refine cr (hP) ?_|refine cr (hC) ?_|refine cr (hV) ?_|((with_reducible refine ch ?_);(conv=>whnf);(first|with_reducible refine ax (jV _ (Nat.le_trans hpp (by omega))) ?_);conv=>whnf)|((with_reducible refine gQ ?_);(conv=>whnf))|((first|with_reducible refine ax (hD) ?_);conv=>whnf)|exact True.intro)
     rw[hB]
     exact⟨rfl,rfl⟩
    |none=>
     rw[ho] at hs1 hs2
     rw[←hs2] at hB
     (repeat' first|refine aY ?_|refine sa fun xe hxe=>?_|refine sb (fun hq=>?_) fun hq=>?_|refine cr (hP) ?_|refine cr (hC) ?_|refine cr (hV) ?_|((with_reducible refine ch ?_);(conv=>whnf);(first|with_reducible refine ax (jV _ (Nat.le_trans hpp (by omega))) ?_);conv=>whnf)|((with_reducible refine gQ ?_);(conv=>whnf))|((first|with_reducible refine ax (hD) ?_);conv=>whnf)|exact True.intro)
     rw[hB]
     refine⟨rfl,?_⟩
     have e:i0 (prop w i).v=(prop w i).v.round.toNat * 7+(prop w i).v.author.toNat:=by unfold i0;omega
     have e2:(ww w m (prop w i).v).length=(w.views.map ay).length:=List.length_set ..
     show _=rX s w.com w.lead w.bad (ww w m (prop w i).v) xss ms
     delta rX
     rw[e2]
     delta ww
     rw[e]
theorem CD {w:Wrl}{v:Vtx}(h1:v.author=w.bad)(h2:∀p∈w.props,gM p.v v=false):fD w v=(vtxS w.com v && decide (w.props.length<220)):=by
 have h3:w.props.any (fun p=>gM p.v v)=false:=by
  rw[List.any_eq_false]
  intro p hp
  rw[h2 p hp]
  simp
 unfold fD
 rw[h3,h1]
 cases h:vtxS w.com v
 ·simp
 ·have:=(bR h).2.1.1
  rw[decide_eq_true (p:=0≤w.bad) (by omega)]
  simp
set_option maxHeartbeats 1000000 in
theorem AM (s:Int)(w:Wrl)(xss:List (Option (List Int)))(ms:List PplM)(hw:WOK w)(hR:Rel w.props xss ms)(v:Vtx):ah Tryz.prog 88 [.ptr 4 0,bz v] (rW s w xss ms) (.bool (fD w v)) (if fD w v then GC s w (xss++[some []]) (ms++[⟨v,some xss.length⟩]) else rW s w xss ms):=by
 have hpl:=hw.plen
 have hml:=hR.len
 have hc:=hw.com
 refine aa aR Tryz.func88 rfl rfl false 3 7 rfl rfl rfl rfl fun K hK hb1 hb2=>?_;simp only[ae,enc,Nat.reduceAdd]
 clear hb1 hb2
 cases c1:v.author !=w.bad
 ·have ha:v.author=w.bad:=by simpa using c1
  (repeat' first|refine aY ?_|refine sa fun xe hxe=>?_|refine sb (fun hq=>?_) fun hq=>?_|exact True.intro)
  refine af hK [] [0,3,17,18,19] (fun k:Nat=>⟨[(0,.ptr 4 0),(3,.ptr 7 0),(17,.ref 6),(18,.int .i64 ms.length),(19,.int .i64 (k:Int))],rW s w xss ms++[(7,VB.var 43 (bz v).cells)],8⟩) (fun k=>k≤w.props.length∧∀p∈w.props.take k,gM p.v v=false) (fun k=>w.props.length-k) 0 (by simp) (by(conv=>whnf);rfl) ?_
  rintro k ⟨hk1,hall⟩
  by_cases hlt:k<w.props.length
  ·have hxe:w.props[k]?=some w.props[k]:=List.getElem?_eq_getElem hlt
   have hsn:w.props.take (k+1)=w.props.take k++[w.props[k]]:=List.take_succ_eq_append_getElem hlt
   obtain⟨jk,hq1,hq2⟩:=hR.get k _ hxe
   have hmem:=List.getElem_mem hlt
   generalize w.props[k]=q at *
   have hE:=j6 q.v v
   cases c3:gM q.v v
   ·rw[c3] at hE
    (repeat' first|refine aY ?_|refine sa fun xe hxe=>?_|refine sb (fun hq=>?_) fun hq=>?_|refine cr (hE) ?_|exact True.intro)
    exact⟨k+1,⟨by omega,by rw[hsn];exact aU hall c3⟩,by omega,rfl⟩
   ·have hF:fD w v=false:=by
     unfold fD
     rw[List.any_eq_true.2 ⟨q,hmem,c3⟩]
     simp
    rw[c3] at hE
    (repeat' first|refine aY ?_|refine sa fun xe hxe=>?_|refine sb (fun hq=>?_) fun hq=>?_|refine cr (hE) ?_|exact True.intro)
    rw[hF]
    exact⟨rfl,rfl⟩
  ·rw[List.take_of_length_le (by omega)] at hall
   have heq:=CD ha hall
   cases hv:(vtxS w.com v && decide (w.props.length<220))
   ·rw[hv] at heq
    have hN:=vJ s w.com w.lead w.bad (w.views.map ay) xss ms v hc (by rw[hml];exact hv) (by omega)
    (repeat' first|refine aY ?_|refine sa fun xe hxe=>?_|refine sb (fun hq=>?_) fun hq=>?_|refine cr (hN) ?_|exact True.intro)
    rw[heq]
    exact⟨rfl,rfl⟩
   ·rw[hv] at heq
    simp only[Bool.and_eq_true,decide_eq_true_eq] at hv
    have hY:=vK s w.com w.lead w.bad (w.views.map ay) xss ms v hc hv.1 (by omega)
    (repeat' first|refine aY ?_|refine sa fun xe hxe=>?_|refine sb (fun hq=>?_) fun hq=>?_|refine cr (hY) ?_|exact True.intro)
    refine dL (vw _ _ _ _) ?_
    (conv=>whnf)
    (repeat' first|refine aY ?_|refine sa fun xe hxe=>?_|refine sb (fun hq=>?_) fun hq=>?_|refine cr (hY) ?_|exact True.intro)
    rw[heq]
    exact⟨rfl,rfl⟩
 ·have hF:fD w v=false:=by
   have:(v.author==w.bad)=false:=by simpa using c1
   unfold fD
   rw[this]
   simp
  (repeat' first|refine aY ?_|refine sa fun xe hxe=>?_|refine sb (fun hq=>?_) fun hq=>?_|exact True.intro)
  rw[hF]
  exact⟨rfl,rfl⟩
theorem CM (s:Int)(w:Wrl)(xss:List (Option (List Int)))(ms:List PplM)(hw:WOK w)(hR:Rel w.props xss ms)(i:Int)(hi:nh w i=false):ah Tryz.prog 89 [.ptr 4 0,.int .i64 i] (rW s w xss ms) (.bool false) (rW s w xss ms):=by
 have hpl:=hw.plen
 have hml:=hR.len
 refine aa aR Tryz.func89 rfl rfl false 3 7 rfl rfl rfl rfl fun K hK hb1 hb2=>?_;simp only[ae,enc,Nat.reduceAdd]
 clear hb1 hb2
 have hP:=vP s w.com w.lead w.bad (w.views.map ay) xss ms i (by rw[hml];exact wd hi) (by omega)
 (repeat' first|refine aY ?_|refine sa fun xe hxe=>?_|refine sb (fun hq=>?_) fun hq=>?_|refine cr (hP) ?_|exact True.intro)
 exact⟨rfl,rfl⟩
theorem EU (s:Int)(w:Wrl)(xss:List (Option (List Int)))(ms:List PplM)(hw:WOK w)(hR:Rel w.props xss ms)(i j:Nat)(hi:nh w i=true)(hj1:ms[i]?=some ⟨(prop w i).v,some j⟩)(hj2:xss[j]?=some (some (prop w i).members)):ah Tryz.prog 89 [.ptr 4 0,.int .i64 (i:Int)] (rW s w xss ms)
  (.bool (iF w i && !(prop w i).members.contains w.bad)) (if iF w i && !(prop w i).members.contains w.bad then rW s w (xss.set j none++[some (dH (prop w i).members w.bad)]) (ms.set i ⟨(prop w i).v,some xss.length⟩) else rW s w xss ms):=by
 have hpl:=hw.plen
 have hml:=hR.len
 have hil:=(List.getElem?_eq_some_iff.1 hj1).1
 obtain⟨n,hn,hn1,hn2⟩:=lV hi
 obtain rfl:i=n:=by omega
 obtain⟨o1,o2⟩:=lY hw (List.mem_of_getElem? hn2)
 have hl:=eK o2
 have ha:=fy o2
 have h7:=(aw.1 hw.com).2
 refine aa aR Tryz.func89 rfl rfl false 3 7 rfl rfl rfl rfl fun K hK hb1 hb2=>?_;simp only[ae,enc,Nat.reduceAdd]
 clear hb1 hb2
 have hP:=vQ s w.com w.lead w.bad (w.views.map ay) xss ms i (by omega) (by omega)
 by_cases hb:0≤w.bad
 ·have hB:iF w i=true:=by unfold iF;rw[hi,decide_eq_true hb];rfl
  rw[hB]
  cases hm2:(prop w i).members.contains w.bad
  ·have hY:=AG xss ms i j _ _ w.bad hj1 hj2 ha (by omega) hm2
   rw[ma ha (by simpa using hm2)] at hY
   (repeat' first|refine aY ?_|refine sa fun xe hxe=>?_|refine sb (fun hq=>?_) fun hq=>?_|refine cr (hP) ?_|refine cr (hY) ?_|exact True.intro)
   refine dL Af ?_
   (conv=>whnf)
   (repeat' first|refine aY ?_|refine sa fun xe hxe=>?_|refine sb (fun hq=>?_) fun hq=>?_|refine cr (hP) ?_|refine cr (hY) ?_|exact True.intro)
   exact⟨rfl,rfl⟩
  ·have hY:=AF xss ms i j _ _ w.bad hj1 hj2 ha (by omega) hm2
   (repeat' first|refine aY ?_|refine sa fun xe hxe=>?_|refine sb (fun hq=>?_) fun hq=>?_|refine cr (hP) ?_|refine cr (hY) ?_|exact True.intro)
   exact⟨rfl,rfl⟩
 ·have hB:iF w i=false:=by unfold iF;rw[decide_eq_false hb];rfl
  rw[hB]
  (repeat' first|refine aY ?_|refine sa fun xe hxe=>?_|refine sb (fun hq=>?_) fun hq=>?_|refine cr (hP) ?_|exact True.intro)
  exact⟨rfl,rfl⟩
end Go.Proofs.YthmfppknagbkeaaGreat.Am
namespace Go.Proofs.YthmfppknagbkeaaGreat.Am
open Go
def Hu:Go.Conc.Locks.MuLink:={lock:=83,unlock:=84,ilock:=122,iunlock:=123,lockSlow:=150,unlockSlow:=153,disable:=146,enable:=148,acquire:=149,relMerge:=151,cas32:=147,add32:=152,tMutex:=79,tIMutex:=77,tPMutex:=143,tPIMutex:=153,tPI32:=155,tUP:=157,tNoCopy:=74,tU32:=75}
theorem A6:Go.Conc.Locks.MuLib Tryz.prog Hu:=
 ⟨Tryz.func83,Tryz.func84,Tryz.func122,Tryz.func123,Tryz.func146,Tryz.func148,Tryz.func149,Tryz.func151,Tryz.func147,Tryz.func152,Tryz.underlying77,Tryz.runUnderlying77,Tryz.sizeOf77,Tryz.isAgg77,Tryz.zeroValue77,Tryz.underlying79,Tryz.runUnderlying79,Tryz.sizeOf79,Tryz.isAgg79,Tryz.zeroValue79,Tryz.underlying143,Tryz.runUnderlying143,Tryz.sizeOf143,Tryz.isAgg143,Tryz.zeroValue143,Tryz.underlying153,Tryz.runUnderlying153,Tryz.sizeOf153,Tryz.isAgg153,Tryz.zeroValue153,Tryz.underlying155,Tryz.runUnderlying155,Tryz.sizeOf155,Tryz.isAgg155,Tryz.zeroValue155,Tryz.underlying157,Tryz.runUnderlying157,Tryz.sizeOf157,Tryz.isAgg157,Tryz.zeroValue157,Tryz.underlying74,Tryz.runUnderlying74,Tryz.sizeOf74,Tryz.isAgg74,Tryz.zeroValue74,Tryz.underlying21,Tryz.runUnderlying21,Tryz.sizeOf21,Tryz.isAgg21,Tryz.zeroValue21,(by kernel_rfl)⟩
end Go.Proofs.YthmfppknagbkeaaGreat.Am
namespace Go.Proofs.YthmfppknagbkeaaGreat.Am
open Go Go.RowKit
variable {P:Program} {w0:World} {S:SD} {A:Nat→Prop} {N:Nat} {ρ:Id→Pl} {t:List (Nat×D)} {h:HL} {a:Act} {w:World}
theorem oZ {g:Nat}{c:Array Value}{T:TypeId}{v:Value}(hg:w.heap[g]?=some (.cells c T (0,0))):w.setCell ⟨g,0,none⟩ v=w.setRow g (c.setIfInBounds 0 v):=by
 have:w.heap.modify g (fun o=>match o with
   | .cells cs E fr=>.cells (cs.setIfInBounds 0 v) E fr
   |o=>o)=w.heap.modify g (fun o=>match o with
   | .cells _ E fr=>.cells (c.setIfInBounds 0 v) E fr
   |o=>o):=by
  apply Array.ext_getElem?
  intro i
  rw[Array.getElem?_modify,Array.getElem?_modify]
  by_cases e:g=i
  ·subst e
   simp[hg]
  ·simp[e]
 simp only[World.setCell,World.setRow]
 first|exact congrArg (fun x=>{w with heap:=x}) this|simpa using this
theorem Sim.cell0 (s:Sim P w0 S A N ρ t h a w){b:Id}{T:TypeId}{x:D}{cs:List D}(hb:look h b=some (.var T (x::cs)))(k:IntKind)(n:Int):Sim P w0 S A N ρ t (put b (.var T (.int k n::cs)) h) a (w.setCell ⟨(ρ b).blk,0,none⟩ (.int k n)):=by
 obtain⟨c,g1,g2,g3⟩:=s.blk b _ hb
 rw[oZ g1]
 refine s.write hb rfl _ fun hC hR=>⟨_,setRow_heap w _ c _ T _ g1,by simpa using g2,fun j hj=>?_⟩
 have hpos:0<c.size:=by rw[g2];simp
 cases j with
 |zero=>
  have:(c.setIfInBounds 0 (.int k n)).getD 0 undef= .int k n:=by simp[Array.getD_eq_getD_getElem?,hpos]
  rw[this]
  exact C.int k n
 |succ j=>
  have:(c.setIfInBounds 0 (.int k n)).getD (j+1) undef=c.getD (j+1) undef:=by simp[Array.getD_eq_getD_getElem?,Array.getElem?_setIfInBounds_ne]
  rw[this]
  exact hC _ _ (g3 (j+1) (by simpa using hj))
theorem Sim.at0 (s:Sim P w0 S A N ρ t h a w){b:Id}{T:TypeId}{k:IntKind}{n:Int}{cs:List D}(hb:look h b=some (.var T (.int k n::cs))):w.cell? ⟨(ρ b).blk,0,none⟩=some (.int k n)∧w.frozen? ⟨(ρ b).blk,0,none⟩=false:=by
 obtain⟨c,g1,g2,g3⟩:=s.blk b _ hb
 have hpos:0<c.size:=by rw[g2];simp
 have h1:=(g3 0 (by simp)).int_inv
 rw[Array.getD_eq_getD_getElem?,Array.getElem?_eq_getElem hpos,Option.getD_some] at h1
 refine⟨?_,?_⟩
 ·simp[World.cell?,g1,Array.getElem?_eq_getElem hpos,h1]
 ·simp[World.frozen?,g1]
theorem F7 {vs:Array Value}(h:1=vs.size):∃v,vs= #[v]:=by
 refine⟨vs[0],Array.ext (by simp;omega) fun i h1 h2=>?_⟩
 match i,h2 with
 |0,_=>rfl
theorem zF {L:Go.Conc.Locks.MuLink}(H:Go.Conc.Locks.MuLib P L){h:HL}{b:Id}{T:TypeId}{cs:List D}(hb:look h b=some (.var T (.int .i32 0::cs))):
  ∀hout:HL,(∀b',look hout b'=look (put b (.var T (.int .i32 1::cs)) h) b')→Con P L.lock [.ptr b 0] h (.tup []) hout:=by
 intro hout hh
 refine⟨⟨_,H.f_lock,rfl,rfl⟩,fun w A ρ vs s hl hcv=>?_⟩
 obtain⟨v,rfl⟩:=F7 hl
 obtain⟨-,e0⟩:=(hcv 0 (by simp)).ptr_inv
 have e0:v= .pointer (some ⟨(ρ b).blk,0,none⟩):=e0
 subst e0
 obtain⟨q1,q2⟩:=s.at0 hb
 refine(Go.MuLone.lock_free H _ w q1 q2).mono ?_
 rintro e w' ⟨rfl,rfl⟩
 exact⟨_,ρ,rfl,fun b' hb'=>⟨rfl,by
  have:Live (put b (.var T (.int .i32 1::cs)) h) b':=hb'.put
  unfold Live at this⊢
  rw[hh]
  exact this⟩,(s.cell0 hb _ _).congr (fun _=>rfl) hh,.tup [] #[] rfl (fun i hi=>by simp at hi)⟩
theorem yv {L:Go.Conc.Locks.MuLink}(H:Go.Conc.Locks.MuLib P L){h:VH}{T:TypeId}{cs:List V}(hb:look h 4=some (.var T (.int .i32 0::cs))):ah P L.lock [.ptr 4 0] h (.tup []) (put 4 (.var T (.int .i32 1::cs)) h):=by
 refine zF (cs:=ag cs) H (am (i:=0) hb rfl) _ fun b'=>?_
 obtain⟨b1,b2⟩:=b'
 rw[al,ai,ai,al]
 by_cases e:b1=4
 ·subst e
  rw[if_pos rfl,hb]
  cases b2 with
  |zero=>rw[if_pos rfl];rfl
  |succ j=>rw[if_neg (by simp)];rfl
 ·rw[if_neg e,if_neg (fun h=>e (Prod.mk.inj h).1)]
def dU (fu:FuncId)(g:Nat):Deferred:={target:=.fn (.func fu) #[],args:=#[]++ #[.pointer (some ⟨g,0,none⟩)]}
theorem Sim.defs {dfs:List Deferred}(s:Sim P w0 S A N ρ t h a w):Sim P w0 ⟨S.S,dfs⟩ A N ρ t h {a with defers:=dfs} w:=
 ⟨s.base,s.inS,s.fr,rfl,s.size,s.tmp,s.blk,s.own,s.inj,s.gl⟩
theorem SimS.defs {dfs:List Deferred}{ρ0:Id→Pl}{K:Id→Prop}{σ:St}(s:SimS P w0 S A N ρ0 K σ a w):SimS P w0 ⟨S.S,dfs⟩ A N ρ0 K σ {a with defers:=dfs} w:=by
 obtain⟨h1,h2,ρ,h3,h4⟩:=s
 exact⟨h1,h2,ρ,h3,h4.defs⟩
def qw (P:Program)(N:Nat)(K:Id→Prop)(fu:FuncId)(b:Id)(c:Code)(σ:St)(e:Exit)(σ':St):Prop:=
 ∀w0 S A ρ0 a w,S.dfs=[]→SimS P w0 S A N ρ0 K σ a w→c.wp P (fun e' a' w'=>e'=e∧SimS P w0 ⟨S.S,[dU fu (ρ0 b).blk]⟩ A N ρ0 K σ' a' w') a w
def El (P:Program)(N:Nat)(K:Id→Prop)(fu:FuncId)(b:Id)(c:Code)(Q:Exit→VSt→Prop)(σ:VSt):Prop:=∃e σ',qw P N K fu b c σ.toD e σ'.toD∧(eD P N K σ'.toD→Q e σ')
variable {K:Id→Prop} {fu:FuncId} {b:Id} {Q:Exit→VSt→Prop} {σ:VSt}
theorem nS {c:Code}{σ:St}(h:¬eD P N K σ)(e:Exit)(σ':St):qw P N K fu b c σ e σ':=fun w0 S A ρ0 a w _ hs=>absurd ⟨w0,S,A,ρ0,a,w,hs⟩ h
theorem mY {x y:Code}(h:At P N K x (fun e σ=>e= .normal∧El P N K fu b y Q σ) σ):El P N K fu b (.seq x y) Q σ:=by
 obtain⟨e,σ1,h1,h2⟩:=h
 rcases Classical.em (eD P N K σ1.toD) with hr|hr
 ·obtain⟨rfl,e2,σ2,h3,h4⟩:=h2 hr
  refine⟨e2,σ2,fun w0 S A ρ0 a w hd hs=>wp_seq (wp_mono (h1 w0 S A ρ0 a w hs) ?_),h4⟩
  rintro e' a' w' ⟨rfl,hs'⟩
  exact h3 w0 S A ρ0 a' w' hd hs'
 ·rcases Classical.em (eD P N K σ.toD) with hr0|hr0
  ·refine⟨e,σ1,fun w0 S A ρ0 a w hd hs=>wp_seq (wp_mono (h1 w0 S A ρ0 a w hs) ?_),fun h=>absurd h hr⟩
   rintro e' a' w' ⟨rfl,hs'⟩
   exact absurd ⟨_,_,_,_,_,_,hs'⟩ hr
  ·exact⟨.normal,σ1,nS hr0 _ _,fun h=>absurd h hr⟩
theorem sG {x y:Code}(h:El P N K fu b x (fun e σ=>e= .normal∧At P N K y Q σ) σ):El P N K fu b (.seq x y) Q σ:=by
 obtain⟨e,σ1,h1,h2⟩:=h
 rcases Classical.em (eD P N K σ1.toD) with hr|hr
 ·obtain⟨rfl,e2,σ2,h3,h4⟩:=h2 hr
  refine⟨e2,σ2,fun w0 S A ρ0 a w hd hs=>wp_seq (wp_mono (h1 w0 S A ρ0 a w hd hs) ?_),h4⟩
  rintro e' a' w' ⟨rfl,hs'⟩
  exact h3 w0 _ A ρ0 a' w' hs'
 ·refine⟨e,σ1,fun w0 S A ρ0 a w hd hs=>wp_seq (wp_mono (h1 w0 S A ρ0 a w hd hs) ?_),fun h=>absurd h hr⟩
  rintro e' a' w' ⟨rfl,hs'⟩
  exact absurd ⟨_,_,_,_,_,_,hs'⟩ hr
theorem ua {ops:Array Oper}{ρ0:Id→Pl}{Q:Exit→Act→World→Prop}{r:List Nat}:∀(L:List (Oper×Rc)) (k:Nat) (t:List (Nat×D)) (h:HL) (n:Nat) (a:Act) (w:World) (ρ:Id→Pl),TRun P ops N t h n L→(∀b:Id,n≤b.1→look h b=none)→
  (∀b,K b→Live h b)→(∀b,K b→ρ b=ρ0 b)→(∀i,i<L.length→ops[k+i]?=(L[i]?).map (·.1))→Sim P w0 S A N ρ t h a w→
  (∀ρ a w,(∀b,K b→ρ b=ρ0 b)→Sim P w0 S A N ρ (gb (fun _=>true) k L t) (fC (fun _=>true) k L h) a w→wpOps P ops Q r a w)→wpOps P ops Q (List.range' k L.length++r) a w
 |[],k,t,h,n,a,w,ρ,_,_,_,hρ,_,s,hq=>hq ρ a w hρ s
 |(o,rc)::L,k,t,h,n,a,w,ρ,hT,hn,hK,hρ,hops,s,hq=>by
  obtain⟨⟨rfl,h1,h2,h3⟩,h4,h5⟩:=hT
  simp only[List.length_cons,List.range'_succ,List.cons_append]
  rw[wpOps_cons]
  unfold wpOp
  have ho:ops[k]?=some o:=by simpa using hops 0 (by simp)
  rw[ho]
  simp only
  have hn':∀b:Id,rc.n'≤b.1→look (puts rc.u h) b=none:=by
   intro b hb
   rw[av _ _ _ fun x hx e=>by have:=h2 x hx;rw[e] at this;omega]
   exact hn b (by omega)
  have iz:∀(ρ':Id→Pl) (v:Value) (w':World),Ext h ρ ρ'→Sim P w0 S A N ρ' (eN o.dst rc.d t) (puts rc.u h) (a.put o.dst v) w'→wpOps P ops Q (List.range' (k+1) L.length++r) (a.put o.dst v) w':=by
   intro ρ' v w' hex s'
   exact ua L (k+1) _ _ rc.n' _ w' ρ' h5 hn' (fun b hb=>jw _ _ _ (hK b hb)) (fun b hb=>(hex b (hK b hb)).trans (hρ b hb)) (fun i hi=>by rw[show k+1+i=k+(i+1) by omega];exact hops (i+1) (by simpa using hi)) s' hq
  rcases h4 with⟨g1,g2⟩|⟨g1,g2,g3,g4⟩
  ·rw[s.guard g1]
   simp only[if_true]
   left
   have hw:=g2 t h (fun x hx=>rfl) (fun b hb=>rfl) _ _ _ ρ a w s
   refine Reg.wp_exit_mono (K:=pf P w0 S A N ρ t h (puts rc.u h) a o.dst rc.d) ?_ hw
   rintro a' w' ⟨v,ρ',rfl,hex,q1,q2⟩
   exact iz ρ' v w' hex (q1.putO h3 q2)
  ·rw[s.guard g1]
   simp only[Bool.false_eq_true,if_false]
   refine iz ρ undef w (Ext.refl _ _) ?_
   rw[g2,g3]
   exact s.putO h3 (.tup [] #[] rfl fun i hi=>absurd hi (Nat.not_lt_zero i))
theorem wM {Θ:TT}(hΘ:Θ.ok P){id:Nat}{ops:Array Oper}{l:List Oper}{od:Oper}{x:Tmp}{Ts:Array TypeId}(hops:ops.toList=l++[od])(hod:od.op= .defer {callee:=.value (.func fu),args:=#[.tmp x],argTypes:=Ts}∧od.guard=none∧od.dst=none)
  (hx:x<N) (h:i7 P Θ ops (fun _=>[]) false N l 0 [] σ (fun σ=>look (dV σ.t) x=some (.ptr b 0)∧K b∧Q .normal σ)):El P N K fu b (.region id ops false) Q σ:=by
 rcases Classical.em (¬eD P N K σ.toD) with hr|hr
 ·exact⟨.normal,σ,nS hr _ _,fun h=>absurd h hr⟩
 have hr:=Classical.not_not.1 hr
 have hfr:jR σ:=by obtain⟨w0,S,A,ρ0,a,w,hs⟩:=hr;exact hs.1
 obtain⟨σ',⟨q1,q2,q3⟩,h2⟩:=ls hΘ hfr h
 obtain⟨L,l1,l2,l3,l4,l5,_⟩:=h2 [] fun h=>by cases h
 refine⟨.normal,σ',?_,fun _=>q3⟩
 rintro w0 S A ρ0 a w hd ⟨hn,hK,ρ,hρ,s⟩
 refine wp_region ?_
 have hll:L.length=l.length:=by rw[←l1,List.length_map]
 have hsz:ops.size=L.length+1:=by have:=congrArg List.length hops;simp only[Array.length_toList,List.length_append,List.length_singleton] at this;omega
 have hget:∀i:Nat,ops[i]?=(l++[od])[i]?:=fun i=>by rw[←hops];simp
 rw[hsz,List.range_eq_range',List.range'_concat]
 simp only[Nat.one_mul,Nat.zero_add]
 refine ua L 0 _ _ _ a w ρ l2 hn hK hρ (fun i hi=>?_) s fun ρ' a' w' hρ' s'=>?_
 ·rw[Nat.zero_add,hget,List.getElem?_append_left (by omega),←l1,List.getElem?_map]
 ·obtain⟨od1,od2,od3⟩:=hod
  have s2:=s'.congr (t':=dV σ'.t) (h':=toH σ'.h) (fun x=>(l3 x)) (fun b=>(l4 b))
  have hv:=(s2.tmp x _ q1).2
  obtain⟨-,hv⟩:=hv.ptr_inv
  rw[hρ' b q2] at hv
  have ho:ops[L.length]?=some od:=by rw[hget,hll,List.getElem?_append_right (Nat.le_refl _)];simp
  simp only[wpOps,ho]
  have hwant:Region.wanted od (yielded ops a'.tmps)=true:=by simp[Region.wanted,od2]
  rw[if_pos hwant]
  left
  have hex:(execOp a'.eval od).run P w'= .ok (.defer (dU fu (ρ0 b).blk)) w':=by
   have he:a'.eval (.tmp x)= .pointer (some ⟨(ρ0 b).blk,0,none⟩):=by
    rw[←hv];rfl
   obtain⟨dst,op,ty,pos,after,guard⟩:=od
   subst od1
   simp only[execOp,resolve,List.map_toArray,List.map_cons,List.map_nil,he]
   rfl
  unfold Oper.wp
  rw[hex,Oper.upon_defer,od3]
  have hdf:a'.defers=[]:=s2.defers.trans hd
  refine⟨trivial,l5,fun b hb=>?_,ρ',hρ',?_⟩
  ·have:=i4 (fun _=>true) L 0 (toH σ.h) b (hK b hb)
   show Live (toH σ'.h) b
   unfold Live at this⊢
   rw[l4]
   exact this
  ·have:=s2.defs (dfs:=[dU fu (ρ0 b).blk])
   rw[hdf]
   exact this
theorem Cz {w:World}{hin:HL}{ρ:Id→Pl}{fn:Func}{N:Nat}{σ:St}{a':Act}{w':World}{r:D}{hout:HL}{ρ1:Id→Pl}(hK:∀b,Live hin b→Live σ.h b)(hρ1:∀b,Live hin b→ρ1 b=ρ b)(s1:Sim P w (sx ρ hin) A N ρ1 σ.t σ.h a' w')
  (hr:ly P fn.results.toList (Live hin) σ r hout):∃u,(results fn a'.tmps).run P w'= .ok u w'∧∃v ρ'',Ending.returned u= .returned v∧(∀b,Live hin b→ρ'' b=ρ b∧Live hout b)∧Sim P w (sx ρ hin) A 0 ρ'' [] hout fo w'∧C ρ'' (Live hout) (okOf A ρ'' hout w') w' r v:=by
 obtain⟨ds',bs,g,hrds,hrn,hren,hkeep⟩:=hr
 obtain⟨vs',r1,r2,r3⟩:=s1.results (f:=Fy a'.tmps) (fun r=>by cases r<;>rfl) hrds
 have hone:=Bi r2 r3
 have hrun:(results fn a'.tmps).run P w'= .ok (if h:vs'.toArray.size=1 then vs'.toArray[0] else .tuple vs'.toArray) w':=by
  rw[oU,Array.mapM_eq_mapM_toList,Sem.run_bind,map_eq_pure_bind,Sem.run_bind,r1]
  rfl
 generalize (if h:vs'.toArray.size=1 then vs'.toArray[0] else Value.tuple vs'.toArray)=u at *
 obtain⟨q1,q2,q3⟩:=s1.frz_ok bs
 have hcu:C ρ1 (Live (puts (frz σ.h bs) σ.h)) (okOf A ρ1 (puts (frz σ.h bs) σ.h) w') w' (one ds') u:=hone.mono (fun b hb=>⟨iP hb,rfl⟩) (fun k hk=>⟨⟨hk.1,fun b y hy hmu=>by
  rcases q2 b with q|⟨y',z1,z2⟩
  ·rw[q] at hy;exact hk.2 b y hy hmu
  ·rw[z2] at hy
   obtain rfl:=Option.some.inj hy
   rw[(gm z1).2.1] at hmu;cases hmu⟩,rfl⟩)
 obtain⟨s3,hok3⟩:=q1.ren (N':=0) (a':=fo) (t':=[]) hren rfl rfl (fun k d' hk=>by cases hk)
 exact⟨u,hrun,u,fun b=>ρ1 (g b),rfl,fun b hb=>⟨by show ρ1 (g b)=_;rw[(hkeep b hb (hK b hb)).1];exact hρ1 b hb,(hkeep b hb (hK b hb)).2⟩,s3,q1.rn hok3 hrn hcu⟩
theorem qM {L : Go.Conc.Locks.MuLink} (H : Go.Conc.Locks.MuLib P L) {f : FuncId} {fn : Func} {c : Code} (hf : P.funcs[f]? = some fn) (hb : fn.body = some c) (hname : (fn.name == "runtime.NumGoroutine") = false) {N : Nat} {rs : List ResultVar} (hN : fn.ntmps = N) (hrs : fn.results.toList = rs) {ds : List D} {hin : HL} {n0 : Nat} {r : D} {hout : HL}
  (hl:ds.length≤N) (hn0:∀b:Id,n0≤b.1→look hin b=none) (hLb:Live hin b)
  (hF:(∀d∈ds,bnd 6 d)→(∀b x,look hin b=some x→bndB 6 x)→∃e σ,qw P N (Live hin) L.unlock b c ⟨pK ds,hin,n0⟩ e σ∧(eD P N (Live hin) σ→(e= .normal∨e= .ret)∧∃T cs h2,look σ.h b=some (.var T (.int .i32 1::cs))∧(∀b',look h2 b'=look (put b (.var T (.int .i32 0::cs)) σ.h) b')∧ly P rs (Live hin) ⟨σ.t,h2,σ.n⟩ r hout)):Con P f ds hin r hout:=by
 subst hN hrs
 refine⟨⟨fn,hf,by rw[hb];rfl,hname⟩,fun w A ρ vs s hlen hv=>?_⟩
 obtain⟨e,σ,hA,hfin⟩:=hF (fun d hd=>by
  obtain⟨i,hi,rfl⟩:=a7 hd
  exact(hv i hi).bnd 6) (fun b x hx=>s.bndB 6 hx)
 refine calls_of_wp_defers hf hb ?_
 have hs0:SimS P w (sx ρ hin) A fn.ntmps ρ (Live hin) ⟨pK ds,hin,n0⟩ {tmps:=vs++Array.replicate (fn.ntmps-vs.size) undef,defers:=[]} w:=by
  refine⟨hn0,fun b hb=>hb,ρ,fun b hb=>rfl,s.base,s.inS,s.fr,rfl,by simp;omega,fun k d hk=>?_,s.blk,s.own,s.inj,s.gl⟩
  have hk2:look ((ds.zipIdx 0).map fun x=>(x.2,x.1)) k=some d:=hk
  rw[lT] at hk2
  simp only[Nat.zero_le,if_true,Nat.sub_zero] at hk2
  have hk':k<ds.length:=(List.getElem?_eq_some_iff.1 hk2).1
  refine⟨by omega,?_⟩
  have:=hv k hk'
  rw[List.getD_eq_getElem?_getD,hk2] at this
  have hkv:k<vs.size:=by omega
  simpa[Array.getD_eq_getD_getElem?,Array.getElem?_append,hkv] using this
 refine wp_mono (hA _ _ _ ρ _ w rfl hs0) ?_
 clear hA
 rintro e' a' w' ⟨rfl,hs1⟩
 obtain⟨he,T,cs,h2,hlk,hh2,hres⟩:=hfin ⟨_,_,_,_,_,_,hs1⟩
 clear hfin
 obtain⟨hn,hK,ρ1,hρ1,s1⟩:=hs1
 have hdf:a'.defers=[dU L.unlock (ρ b).blk]:=s1.defers
 have hlv:Leaves P fn a'.tmps (fun e w'=>∃u ρ',e= .returned u∧(∀b,Live hin b→ρ' b=ρ b∧Live hout b)∧Sim P w (sx ρ hin) A 0 ρ' [] hout fo w'∧C ρ' (Live hout) (okOf A ρ' hout w') w' r u) a'.defers .returning w':=by
  obtain⟨c1,c2⟩:=s1.at0 hlk
  rw[hρ1 b hLb] at c1 c2
  rw[hdf]
  refine leaves_cons (f:=L.unlock) (args:=#[.pointer (some ⟨(ρ b).blk,0,none⟩)]) (by simp) ?_ ?_
  ·simp[invoke,callFunc,H.f_unlock,go_sem]
   rfl
  ·refine(Go.MuLone.unlock_deferred H _ .returning w' c1 c2).mono ?_
   rintro e u' w'' ⟨rfl,rfl,rfl⟩
   have s2:=(s1.cell0 hlk .i32 0).defs (dfs:=[])
   rw[hρ1 b hLb] at s2
   exact Cz (a':={a' with defers:=[]}) (σ:=⟨σ.t,h2,σ.n⟩) (fun b2 hb2=>by
    have:Live (put b (.var T (.int .i32 0::cs)) σ.h) b2:=(hK b2 hb2).put
    unfold Live at this⊢
    rw[hh2]
    exact this) hρ1 (s2.congr (fun _=>rfl) hh2) hres
 rcases he with rfl|rfl<;>exact hlv
def DL (σ:VSt)(Q:VSt→Prop):Prop:=match aA σ.h 4 with
 |some (.var T (.int .i32 1::cs))=>Q ⟨σ.t,put 4 (.var T (.int .i32 0::cs)) σ.h,σ.n⟩
 |_=>False
theorem Co {L : Go.Conc.Locks.MuLink} (H : Go.Conc.Locks.MuLib P L) {Θ : TT} (hΘ : Θ.ok P) {f : FuncId} {fn : Func} {c : Code} (hf : P.funcs[f]? = some fn) (hb : fn.body = some c) (hname : (fn.name == "runtime.NumGoroutine") = false) (pr : Bool) {vs : List V} {hin : VH} (m n0 : Nat) (hn0 : 4 + m = n0) (hlt : vY n0 hin = true) (hnd : fZ (keysV hin) = true) (hl : Nat.ble vs.length fn.ntmps = true)
  (hlb:Live (toH hin) (4,0)) {R:V→VH→Prop} {r0:V} {hout0:VH} (h0:R r0 hout0)
  (h:∀K,KB m K→K (4,0)→(∀d∈ag vs,bnd 6 d)→(∀x∈hin,∀d∈x.2.blks,bndB 6 d)→El P fn.ntmps K L.unlock (4,0) c (Cy fun σ=>DL σ fun σ=>vt Θ fn.results.toList m pr σ fun r hout=>mA (iK hin) r hout (R r)) ⟨ae vs 0,hin,n0⟩):∃r hout,R r hout∧ah P f vs hin r hout:=by
 have hlen:(ag vs).length≤fn.ntmps:=by rw[ar];exact Nat.le_of_ble_eq_true hl
 have e1:pK (ag vs)=dV (ae vs 0):=nQ vs 0
 have hfr:=pR hlt
 have hK:KB m (Live (toH hin)):=by
  intro b hb
  rcases Nat.lt_or_ge b.1 (4+m) with hlt|hge
  ·exact hlt
  ·unfold Live at hb
   rw[hfr b (by omega)] at hb
   cases hb
 have hbnd:(∀b x,look (toH hin) b=some x→bndB 6 x)→∀x∈hin,∀d∈x.2.blks,bndB 6 d:=by
  rintro hq ⟨k,x⟩ hx d hd
  obtain⟨i,hi⟩:=List.getElem?_of_mem hd
  exact hq (k,i) d (am (eJ (by rw[da];exact fh hnd) hx) hi)
 rcases Classical.em ((∀d∈ag vs,bnd 6 d)∧∀b x,look (toH hin) b=some x→bndB 6 x) with hbb|hbb
 ·obtain⟨e,σ',h1,h2⟩:=h _ hK hlb hbb.1 (hbnd hbb.2)
  rcases Classical.em (eD P fn.ntmps (Live (toH hin)) σ'.toD) with hr|hr
  ·have h3:=h2 hr
   have hfin:(e= .normal∨e= .ret)∧DL σ' fun σ=>vt Θ fn.results.toList m pr σ fun r hout=>mA (iK hin) r hout (R r):=by
    cases e with
    |normal=>exact⟨.inl rfl,h3⟩
    |ret=>exact⟨.inr rfl,h3⟩
    |_=>exact h3.elim
   obtain⟨he,hfin⟩:=hfin
   unfold DL at hfin
   split at hfin
   ·rename_i T cs hlk
    rw[az] at hlk
    obtain⟨r,hout1,q1,q2⟩:=xb hΘ hK hfin
    obtain⟨hout,q1,q2⟩:=sS (fun b hb hlt=>by
     unfold Live at hb
     rw[al] at hb
     obtain⟨d,hd⟩:=Option.isSome_iff_exists.1 hb
     obtain⟨y,hy,-⟩:=Option.bind_eq_some_iff.1 hd
     simp only[iK,List.mem_filter]
     exact⟨by rw[←da];exact List.mem_map.2 ⟨_,bE hy,rfl⟩,by simpa[Nat.blt_eq] using hlt⟩) q1 q2
    refine⟨r,hout,q2,qM H hf hb hname rfl rfl hlen hfr hlb fun _ _=>⟨e,σ'.toD,?_,fun _=>⟨he,T,ag cs,toH (put 4 (.var T (.int .i32 0::cs)) σ'.h),am (i:=0) hlk rfl,fun b'=>?_,q1⟩⟩⟩
    ·rw[e1]
     exact h1
    ·show look (toH (put 4 (.var T (.int .i32 0::cs)) σ'.h)) b'=look (put (4,0) (.var T (ag (.int .i32 0::cs))) (toH σ'.h)) b'
     obtain⟨b1,b2⟩:=b'
     rw[al,ai,ai,al]
     by_cases e:b1=4
     ·subst e
      rw[if_pos rfl,hlk]
      cases b2 with
      |zero=>rw[if_pos rfl];rfl
      |succ j=>rw[if_neg (by simp)];rfl
     ·rw[if_neg e,if_neg (fun h=>e (Prod.mk.inj h).1)]
   ·exact hfin.elim
  ·refine⟨r0,hout0,h0,qM H hf hb hname rfl rfl hlen hfr hlb fun _ _=>⟨e,σ'.toD,?_,fun h=>absurd h hr⟩⟩
   rw[e1]
   exact h1
 ·exact⟨r0,hout0,h0,qM H hf hb hname rfl rfl hlen hfr hlb fun b1 b2=>absurd ⟨b1,b2⟩ hbb⟩
theorem wQ {L : Go.Conc.Locks.MuLink} (H : Go.Conc.Locks.MuLib P L) {Θ : TT} (hΘ : Θ.ok P) {f : FuncId} {fn : Func} {c : Code} (hf : P.funcs[f]? = some fn) (hb : fn.body = some c) (hname : (fn.name == "runtime.NumGoroutine") = false) (pr : Bool) {vs : List V} {hin : VH} (m n0 : Nat) (hn0 : 4 + m = n0) (hlt : vY n0 hin = true) (hnd : fZ (keysV hin) = true) (hl : Nat.ble vs.length fn.ntmps = true) (hlb : Live (toH hin) (4, 0)) {r : V} {hout : VH}
  (h:∀K,KB m K→K (4,0)→(∀d∈ag vs,bnd 6 d)→(∀x∈hin,∀d∈x.2.blks,bndB 6 d)→El P fn.ntmps K L.unlock (4,0) c (Cy fun σ=>DL σ fun σ=>vt Θ fn.results.toList m pr σ fun r' hout'=>mA (iK hin) r' hout' fun hout'=>r'=r∧hout'=hout) ⟨ae vs 0,hin,n0⟩):ah P f vs hin r hout:=by
 obtain⟨r',hout',⟨rfl,rfl⟩,h2⟩:=Co H hΘ hf hb hname pr m n0 hn0 hlt hnd hl hlb (R:=fun r' hout'=>r'=r∧hout'=hout) ⟨rfl,rfl⟩ h
 exact h2
end Go.Proofs.YthmfppknagbkeaaGreat.Am
namespace Go.Proofs.YthmfppknagbkeaaGreat.Am
open Go
attribute [local irreducible] Mk bN Ari fe pI km cj eC ja iB At ah
set_option maxRecDepth 10000
theorem rQ (w:Wrl)(m:Int):ah Tryz.prog 65 [aG w,.int .i64 m] [] (.bool (good w m)) []:=by
 have hI:=j4 m 0 ((w.com.length:Int)-1)
 refine aa ak Tryz.func65 rfl rfl false 0 4 rfl rfl rfl rfl fun K hK hb1 hb2=>?_;simp only[ae,enc,Nat.reduceAdd]
 simp[ag,V.toD,bnd,ab,D.cells] at hb1
 cases h:iq m 0 ((w.com.length:Int)-1)
 ·rw[h] at hI
  (repeat' first|refine st ?_|refine sa fun xe hxe=>?_|refine sb (fun hq=>?_) fun hq=>?_|refine cr (hI) ?_|exact True.intro)
  exact⟨by simp[good,bO,h],rfl⟩
 ·rw[h] at hI
  (repeat' first|refine st ?_|refine sa fun xe hxe=>?_|refine sb (fun hq=>?_) fun hq=>?_|refine cr (hI) ?_|exact True.intro)
  exact⟨by simp[good,bO,h],rfl⟩
theorem Bc {ps:List Ppl}{i:Nat}{p:Ppl}(h:ps[i]?=some p)(m:Int):iz (ps.take (i+1)) m=if p.v.author=m then(if iz (ps.take i) m<p.v.round+1 then p.v.round+1 else iz (ps.take i) m) else iz (ps.take i) m:=by
 obtain⟨hl,rfl⟩:=List.getElem?_eq_some_iff.1 h
 rw[List.take_succ_eq_append_getElem hl,nt]
 split
 ·split<;>omega
 ·rfl
theorem DD (w:Wrl)(m:Int)(hp:∀p∈w.props,0≤p.v.round∧p.v.round≤30)(hl:w.props.length≤1000):ah Tryz.prog 69 [aG w,.int .i64 m] [] (.int .i64 (iz w.props m)) []:=by
 refine aa ak Tryz.func69 rfl rfl false 0 4 rfl rfl rfl rfl fun K hK hb1 hb2=>?_;simp only[ae,enc,Nat.reduceAdd]
 clear hb1 hb2
 (repeat' first|refine st ?_|refine sa fun xe hxe=>?_|refine sb (fun hq=>?_) fun hq=>?_|exact True.intro)
 refine af hK [] [1,2,5,6] (fun i:Nat=>⟨[(1,.int .i64 m),(2,.ptr 4 0),(5,.int .i64 (iz (w.props.take i) m)),(6,.int .i64 (i:Int))],[(4,.var 31 (aG w).cells)],5⟩) (fun i=>i≤w.props.length) (fun i=>w.props.length-i) 0 (by simp) rfl ?_
 intro i hi
 by_cases hlt:i<w.props.length
 ·have hxe:w.props[i]?=some w.props[i]:=List.getElem?_eq_getElem hlt
  have hs:=Bc hxe m
  have hpb:=hp _ (List.getElem_mem hlt)
  have hnb:=A9 (m:=m) fun p hpp=>hp p (List.mem_of_mem_take (i:=i) hpp)
  generalize w.props[i]=p at *
  by_cases ha:p.v.author=m
  ·rw[if_pos ha] at hs
   (repeat' first|refine st ?_|refine sa fun xe hxe=>?_|refine sb (fun hq=>?_) fun hq=>?_|exact True.intro)
   exact⟨i+1,by omega,by omega,by rw[hs];rfl⟩
  ·rw[if_neg ha] at hs
   (repeat' first|refine st ?_|refine sa fun xe hxe=>?_|refine sb (fun hq=>?_) fun hq=>?_|exact True.intro)
   exact⟨i+1,by omega,by omega,by rw[hs];rfl⟩
 ·(repeat' first|refine st ?_|refine sa fun xe hxe=>?_|refine sb (fun hq=>?_) fun hq=>?_|exact True.intro)
  rw[List.take_of_length_le (by omega)]
  exact⟨rfl,rfl⟩
theorem FD (l:List Int)(n:Int)(hl:l.length≤1000):ah Tryz.prog 132 [.lst (.int .i64) l,.int .i64 n] [] (.lst (.int .i64) (dH l n)) []:=by
 refine aa ak Tryz.func132 rfl rfl true 0 4 rfl rfl rfl rfl fun K hK hb1 hb2=>?_;simp only[ae,enc,Nat.reduceAdd]
 clear hb1 hb2
 (repeat' first|refine st ?_|refine sa fun xe hxe=>?_|refine sb (fun hq=>?_) fun hq=>?_|exact True.intro)
 refine af hK [] [0,1,5] (fun k:Nat=>⟨[(0,.lst (.int .i64) l),(1,.int .i64 n),(5,.int .i64 (k:Int))],[],4⟩) (fun k=>k≤l.length∧∀y∈l.take k,y<n) (fun k=>l.length-k) 0 ⟨by simp,by simp⟩ rfl ?_
 rintro k ⟨hk,hall⟩
 have hat:=xr (l:=l) (n:=n) (k:=k) hall hk
 have e1:lE l none (some (.int .i64 k)) 0 (k:Int).toNat=l.take k:=by simp[lE]
 have e2:lE l (some (.int .i64 k)) none (k:Int).toNat l.length=l.drop k:=by simp[lE]
 have hl1:(l.take k).length=k:=by rw[List.length_take];omega
 have hl2:(l.drop k).length=l.length-k:=List.length_drop ..
 by_cases hlt:k<l.length
 ·have hxe:l[k]?=some l[k]:=List.getElem?_eq_getElem hlt
  have hsn:l.take (k+1)=l.take k++[l[k]]:=List.take_succ_eq_append_getElem hlt
  generalize l[k]=x at *
  by_cases hx:x<n
  ·(repeat' first|refine st ?_|refine sa fun xe hxe=>?_|refine sb (fun hq=>?_) fun hq=>?_|exact True.intro)
   exact⟨k+1,⟨by omega,by rw[hsn];intro y hy;rcases List.mem_append.1 hy with h|h;exact hall y h;rw[List.mem_singleton.1 h];exact hx⟩,by omega,rfl⟩
  ·have hat:=hat fun y hy=>by rw[hxe] at hy;obtain rfl:=Option.some.inj hy;exact hx
   rw[hxe] at hat
   by_cases hxn:x=n
   ·rw[if_pos (by rw[hxn])] at hat
    rw[hat]
    (repeat' first|refine st ?_|refine sa fun xe hxe=>?_|refine sb (fun hq=>?_) fun hq=>?_|exact True.intro)
    exact⟨rfl,rfl⟩
   ·rw[if_neg (by simpa using hxn)] at hat
    rw[hat]
    (repeat' first|refine st ?_|refine sa fun xe hxe=>?_|refine sb (fun hq=>?_) fun hq=>?_|exact True.intro)
    rw[e1]
    refine dL ?_ ?_
    ·refine gW (xs:=([]:List Int)) (ys:=l.take k) (by simp) (by omega) ?_;decide
    (conv=>whnf)
    (repeat' first|refine st ?_|refine sa fun xe hxe=>?_|refine sb (fun hq=>?_) fun hq=>?_|exact True.intro)
    rw[e2]
    refine dL ?_ ?_
    ·refine gW (xs:=[]++l.take k++[n]) (ys:=l.drop k) (by rw[List.nil_append,List.length_append,List.length_singleton];omega) (by omega) ?_;decide
    (conv=>whnf)
    (repeat' first|refine st ?_|refine sa fun xe hxe=>?_|refine sb (fun hq=>?_) fun hq=>?_|exact True.intro)
    exact⟨rfl,rfl⟩
 ·obtain rfl:k=l.length:=by omega
  have hat:=hat fun y hy=>by rw[List.getElem?_eq_none (Nat.le_refl _)] at hy;cases hy
  rw[List.getElem?_eq_none (Nat.le_refl _),if_neg (by simp)] at hat
  rw[hat]
  (repeat' first|refine st ?_|refine sa fun xe hxe=>?_|refine sb (fun hq=>?_) fun hq=>?_|exact True.intro)
  rw[e1]
  refine dL ?_ ?_
  ·refine gW (xs:=([]:List Int)) (ys:=l.take l.length) (by simp) (by omega) ?_;decide
  (conv=>whnf)
  (repeat' first|refine st ?_|refine sa fun xe hxe=>?_|refine sb (fun hq=>?_) fun hq=>?_|exact True.intro)
  rw[e2]
  refine dL ?_ ?_
  ·refine gW (xs:=[]++l.take l.length++[n]) (ys:=l.drop l.length) (by rw[List.nil_append,List.length_append,List.length_singleton];omega) (by omega) ?_;decide
  (conv=>whnf)
  (repeat' first|refine st ?_|refine sa fun xe hxe=>?_|refine sb (fun hq=>?_) fun hq=>?_|exact True.intro)
  exact⟨rfl,rfl⟩
theorem C8 {n:Nat}(h:n≤1000000):n≤2000000:=by omega
theorem mc (v:Vtx)(hl:v.parents.length≤2000000):ah Tryz.prog 72 [bz v] [] (bz v) []:=by
 refine aa ak Tryz.func72 rfl rfl true 0 4 rfl rfl rfl rfl fun K hK hb1 hb2=>?_;simp only[ae,enc,Nat.reduceAdd]
 clear hb1 hb2
 (repeat' first|refine st ?_|refine sa fun xe hxe=>?_|refine sb (fun hq=>?_) fun hq=>?_|exact True.intro)
 exact⟨rfl,rfl⟩
theorem xX (g:List Vtx)(hl:g.length≤1000)(hv:∀v∈g,v.parents.length≤1000000):ah Tryz.prog 71 [.lst .vtx g] [] (.lst .vtx g) []:=by
 refine aa ak Tryz.func71 rfl rfl true 0 4 rfl rfl rfl rfl fun K hK hb1 hb2=>?_;simp only[ae,enc,Nat.reduceAdd]
 clear hb1 hb2
 (repeat' first|refine st ?_|refine sa fun xe hxe=>?_|refine sb (fun hq=>?_) fun hq=>?_|exact True.intro)
 refine af hK [] [0,3,4] (fun i:Nat=>⟨[(0,.lst .vtx g),(3,.ref 4),(4,.int .i64 (i:Int))],[(4,.row 43 .vtx (g.take i))],5⟩) (fun i=>i≤g.length) (fun i=>g.length-i) 0 (by simp) rfl ?_
 intro i hi
 by_cases hlt:i<g.length
 ·have hxe:g[i]?=some g[i]:=List.getElem?_eq_getElem hlt
  have hsn:g.take (i+1)=g.take i++[g[i]]:=List.take_succ_eq_append_getElem hlt
  have hvl:=hv _ (List.getElem_mem hlt)
  have hll:(g.take i).length=i:=by rw[List.length_take];omega
  generalize g[i]=v at *
  generalize g.take i=l at *
  (repeat' first|refine st ?_|refine sa fun xe hxe=>?_|refine sb (fun hq=>?_) fun hq=>?_|refine cr (mc _ (C8 hvl)) ?_|exact True.intro)
  exact⟨i+1,by omega,by omega,by rw[hsn];rfl⟩
 ·(repeat' first|refine st ?_|refine sa fun xe hxe=>?_|refine sb (fun hq=>?_) fun hq=>?_|exact True.intro)
  rw[List.take_of_length_le (by omega)]
  exact⟨rfl,rfl⟩
theorem EK {g:List Vtx}{r a:Int}(h:cx g r a=false):lJ g r a<0:=by
 have:=vA g r a
 simpa[h] using this
theorem FB (g:List Vtx)(v:Vtx)(hl:g.length≤400)(hv:∀u∈g,u.parents.length≤1000000)(hvp:v.parents.length≤1000000)(hr:-1000000<v.round∧v.round<1000000)(h1:cx g v.round v.author=false)(h2:parOK g v=true):ah Tryz.prog 106 [.lst .vtx g,bz v] [] (.tup [.lst .vtx (ee g v),.int .i64 0]) []:=by
 have hF:=q9 g v.round v.author
 have hF2:=EK h1
 have hP:=cR g v hr
 rw[h2] at hP
 refine aa ak Tryz.func106 rfl rfl true 0 4 rfl rfl rfl rfl fun K hK hb1 hb2=>?_;simp only[ae,enc,Nat.reduceAdd]
 clear hb1 hb2
 generalize lJ g v.round v.author=fi at *
 (repeat' first|refine st ?_|refine sa fun xe hxe=>?_|refine sb (fun hq=>?_) fun hq=>?_|refine cr (hF) ?_|refine cr (hP) ?_|exact True.intro)
 refine af hK [] [0,3,7,8] (fun k:Nat=>⟨[(0,.lst .vtx g),(3,.ptr 4 0),(7,.ref 5),(8,.int .i64 (k:Int))],[(4,.var 43 (bz v).cells),(5,.row 43 .vtx (g.take k))],6⟩) (fun k=>k≤g.length∧∀y∈g.take k,bef y v=true) (fun k=>g.length-k) 0 ⟨by simp,by simp⟩ rfl ?_
 rintro k ⟨hk,hall⟩
 have hat:=xt (g:=g) (v:=v) (k:=k) hall hk
 have hll:(g.take k).length=k:=by rw[List.length_take];omega
 have e2:lE g (some (.int .i64 k)) none (k:Int).toNat g.length=g.drop k:=by simp[lE]
 have hdl:(g.drop k).length=g.length-k:=List.length_drop ..
 have hC:=xX (g.drop k) (by omega) fun u hu=>hv u (List.mem_of_mem_drop hu)
 by_cases hlt:k<g.length
 ·have hxe:g[k]?=some g[k]:=List.getElem?_eq_getElem hlt
  have hsn:g.take (k+1)=g.take k++[g[k]]:=List.take_succ_eq_append_getElem hlt
  have hxl:=hv _ (List.getElem_mem hlt)
  generalize g[k]=x at *
  have hB:=kt x v
  cases hb:bef x v
  ·rw[hb] at hB
   have hat:=hat fun y hy=>by rw[hxe] at hy;obtain rfl:=Option.some.inj hy;exact hb
   rw[hat]
   generalize g.take k=lt at *
   (repeat' first|refine st ?_|refine sa fun xe hxe=>?_|refine sb (fun hq=>?_) fun hq=>?_|refine cr (hB) ?_|refine cr (mc _ (C8 hvp)) ?_|exact True.intro)
   have e3:lE g (some (.int .i64 (lt.length:Int))) none (lt.length:Int).toNat g.length=g.drop k:=by rw[hll];exact e2
   rw[e3]
   (repeat' first|refine st ?_|refine sa fun xe hxe=>?_|refine sb (fun hq=>?_) fun hq=>?_|refine cr (hC) ?_|exact True.intro)
   exact⟨rfl,rfl⟩
  ·rw[hb] at hB
   generalize hlt2:g.take k=lt at *
   (repeat' first|refine st ?_|refine sa fun xe hxe=>?_|refine sb (fun hq=>?_) fun hq=>?_|refine cr (hB) ?_|refine cr (mc _ (C8 hxl)) ?_|exact True.intro)
   exact⟨k+1,⟨by omega,by rw[hsn];exact aU hall hb⟩,by omega,by rw[hsn];rfl⟩
 ·have hat:=hat fun y hy=>by rw[List.getElem?_eq_none (by omega)] at hy;cases hy
  rw[hat]
  generalize g.take k=lt at *
  (repeat' first|refine st ?_|refine sa fun xe hxe=>?_|refine sb (fun hq=>?_) fun hq=>?_|refine cr (mc _ (C8 hvp)) ?_|exact True.intro)
  have e3:lE g (some (.int .i64 (lt.length:Int))) none (lt.length:Int).toNat g.length=g.drop k:=by rw[hll];exact e2
  rw[e3]
  (repeat' first|refine st ?_|refine sa fun xe hxe=>?_|refine sb (fun hq=>?_) fun hq=>?_|refine cr (hC) ?_|exact True.intro)
  exact⟨rfl,rfl⟩
theorem BN (w:Wrl)(m d:Int)(h:WOK w):ah Tryz.prog 32 [aG w,.int .i64 m,.int .i64 d] [] (aG (dp w m d)) []:=by
 have hG:=rQ w m
 have hD:=nX d
 have hN:=DD w m (fun p hp=>(bR (h.pv p hp).1).1) (by have:=h.plen;omega)
 have hpl:=h.plen
 have hno:fF w m d=false→dp w m d=w:=fun h=>by simp[dp,h]
 refine aa ak Tryz.func32 rfl rfl true 0 4 rfl rfl rfl rfl fun K hK hb1 hb2=>?_;simp only[ae,enc,Nat.reduceAdd]
 clear hb1 hb2
 cases h1:good w m
 ·rw[h1] at hG
  rw[hno (by simp[fF,h1])]
  (repeat' first|refine st ?_|refine sa fun xe hxe=>?_|refine sb (fun hq=>?_) fun hq=>?_|refine cr (hG) ?_|exact True.intro)
  exact⟨rfl,rfl⟩
 rw[h1] at hG
 cases h2:iq d 0 990
 ·rw[h2] at hD
  rw[hno (by simp[fF,h2])]
  (repeat' first|refine st ?_|refine sa fun xe hxe=>?_|refine sb (fun hq=>?_) fun hq=>?_|refine cr (hG) ?_|refine cr (hD) ?_|exact True.intro)
  exact⟨rfl,rfl⟩
 rw[h2] at hD
 by_cases h3:w.props.length<220
 rotate_left
 ·rw[hno (by simp[fF,h3])]
  (repeat' first|refine st ?_|refine sa fun xe hxe=>?_|refine sb (fun hq=>?_) fun hq=>?_|refine cr (hG) ?_|refine cr (hD) ?_|exact True.intro)
  exact⟨rfl,rfl⟩
 obtain⟨hx,hvm,hml⟩:=h.view h1
 have hgo:=kE (h.gra _ hvm)
 have hvl:=h.vl _ hvm
 have hgr:=cZ.1 h1
 have hvlen:=h.vlen
 have hH:=Gm w.com (view w m) hgo (by omega)
 have hhb:=kG w.com (view w m) 31
 have hhb:-1≤d5 w.com (view w m)∧d5 w.com (view w m)<31:=hhb
 have hnb:=A9 (ps:=w.props) (m:=m) fun p hp=>(bR (h.pv p hp).1).1
 have hB:fF w m d=(decide (iz w.props m≤(eM w m d).round) && vtxS w.com (eM w m d)):=by simp[fF,h1,h2,h3]
 by_cases h4:0<d5 w.com (view w m)+1
 ·have hA:=uY (view w m) (d5 w.com (view w m)+1-1) (by omega)
  have hv:eM w m d=⟨d5 w.com (view w m)+1,m,dj (view w m) (d5 w.com (view w m)+1-1),d⟩:=by
   rw[eM,if_pos h4,show d5 w.com (view w m)+1-1=d5 w.com (view w m) by omega]
  have hV:=jW w.com (eM w m d) h.com
  rw[hv] at hV hB
  have hadd:fF w m d=true→dp w m d=pi w ⟨d5 w.com (view w m)+1,m,dj (view w m) (d5 w.com (view w m)+1-1),d⟩:=fun hb=>by simp only[dp,hb,if_true,hv]
  generalize dj (view w m) (d5 w.com (view w m)+1-1)=au at *
  generalize d5 w.com (view w m)=hh at *
  generalize view w m=g at *
  by_cases h5:iz w.props m≤hh+1
  rotate_left
  ·rw[hno (by rw[hB];simp[h5])]
   generalize iz w.props m=nn at *
   (repeat' first|refine st ?_|refine sa fun xe hxe=>?_|refine sb (fun hq=>?_) fun hq=>?_|refine cr (hG) ?_|refine cr (hD) ?_|refine cr (hH) ?_|refine cr (hA) ?_|refine cr (hN) ?_|refine cr (hV) ?_|exact True.intro)
   exact⟨rfl,rfl⟩
  cases h6:vtxS w.com ⟨hh+1,m,au,d⟩
  ·rw[h6] at hV
   rw[hno (by rw[hB,h6,Bool.and_false])]
   generalize iz w.props m=nn at *
   (repeat' first|refine st ?_|refine sa fun xe hxe=>?_|refine sb (fun hq=>?_) fun hq=>?_|refine cr (hG) ?_|refine cr (hD) ?_|refine cr (hH) ?_|refine cr (hA) ?_|refine cr (hN) ?_|refine cr (hV) ?_|exact True.intro)
   exact⟨rfl,rfl⟩
  ·rw[h6] at hV
   rw[hadd (by rw[hB,h6];simpa using h5)]
   generalize iz w.props m=nn at *
   (repeat' first|refine st ?_|refine sa fun xe hxe=>?_|refine sb (fun hq=>?_) fun hq=>?_|refine cr (hG) ?_|refine cr (hD) ?_|refine cr (hH) ?_|refine cr (hA) ?_|refine cr (hN) ?_|refine cr (hV) ?_|exact True.intro)
   exact⟨rfl,rfl⟩
 ·have hv:eM w m d=⟨d5 w.com (view w m)+1,m,[],d⟩:=by rw[eM,if_neg h4]
  have hV:=jW w.com (eM w m d) h.com
  rw[hv] at hV hB
  have hadd:fF w m d=true→dp w m d=pi w ⟨d5 w.com (view w m)+1,m,[],d⟩:=fun hb=>by simp only[dp,hb,if_true,hv]
  generalize d5 w.com (view w m)=hh at *
  generalize view w m=g at *
  by_cases h5:iz w.props m≤hh+1
  rotate_left
  ·rw[hno (by rw[hB];simp[h5])]
   generalize iz w.props m=nn at *
   (repeat' first|refine st ?_|refine sa fun xe hxe=>?_|refine sb (fun hq=>?_) fun hq=>?_|refine cr (hG) ?_|refine cr (hD) ?_|refine cr (hH) ?_|refine cr (hN) ?_|refine cr (hV) ?_|exact True.intro)
   exact⟨rfl,rfl⟩
  cases h6:vtxS w.com ⟨hh+1,m,[],d⟩
  ·rw[h6] at hV
   rw[hno (by rw[hB,h6,Bool.and_false])]
   generalize iz w.props m=nn at *
   (repeat' first|refine st ?_|refine sa fun xe hxe=>?_|refine sb (fun hq=>?_) fun hq=>?_|refine cr (hG) ?_|refine cr (hD) ?_|refine cr (hH) ?_|refine cr (hN) ?_|refine cr (hV) ?_|exact True.intro)
   exact⟨rfl,rfl⟩
  ·rw[h6] at hV
   rw[hadd (by rw[hB,h6];simpa using h5)]
   generalize iz w.props m=nn at *
   (repeat' first|refine st ?_|refine sa fun xe hxe=>?_|refine sb (fun hq=>?_) fun hq=>?_|refine cr (hG) ?_|refine cr (hD) ?_|refine cr (hH) ?_|refine cr (hN) ?_|refine cr (hV) ?_|exact True.intro)
   exact⟨rfl,rfl⟩
theorem BG (w:Wrl)(i m:Int)(h:WOK w)(hi:nh w i=true):ah Tryz.prog 97 [aG w,.int .i64 i,.int .i64 m] [] (aG (iZ w i m)) []:=by
 obtain⟨hl,hx,hp⟩:=ic hi
 have hpl:=h.plen
 have hir:=aD.1 hi
 have hI:=FD (prop w i).members m (by have:=h.mem _ hp;omega)
 have hs:iZ w i m={w with props:=w.props.set i.toNat ⟨(prop w i).v,dH (prop w i).members m⟩}:=rfl
 rw[hs]
 refine aa ak Tryz.func97 rfl rfl true 0 4 rfl rfl rfl rfl fun K hK hb1 hb2=>?_;simp only[ae,enc,Nat.reduceAdd]
 clear hb1 hb2
 generalize prop w i=p at *
 generalize dH p.members m=ms at *
 (repeat' first|refine st ?_|refine sa fun xe hxe=>?_|refine sb (fun hq=>?_) fun hq=>?_|exact True.intro)
 obtain rfl:xe=p:=Option.some.inj (hxe.symm.trans hx)
 (repeat' first|refine st ?_|refine sa fun xe hxe=>?_|refine sb (fun hq=>?_) fun hq=>?_|refine cr (hI) ?_|exact True.intro)
 exact⟨rfl,rfl⟩
theorem BT (w:Wrl)(m i:Int)(h:WOK w):ah Tryz.prog 64 [aG w,.int .i64 m,.int .i64 i] [] (aG (fb w m i)) []:=by
 have hG:=rQ w m
 have hI:=j4 i 0 ((w.props.length:Int)-1)
 have hpl:=h.plen
 have hno:fG w m i=false→fb w m i=w:=fun h=>by simp[fb,h]
 refine aa ak Tryz.func64 rfl rfl true 0 4 rfl rfl rfl rfl fun K hK hb1 hb2=>?_;simp only[ae,enc,Nat.reduceAdd]
 clear hb1 hb2
 cases h1:good w m
 ·rw[h1] at hG
  rw[hno (by simp[fG,h1])]
  (repeat' first|refine st ?_|refine sa fun xe hxe=>?_|refine sb (fun hq=>?_) fun hq=>?_|refine cr (hG) ?_|exact True.intro)
  exact⟨rfl,rfl⟩
 rw[h1] at hG
 cases h2:iq i 0 ((w.props.length:Int)-1)
 ·rw[h2] at hI
  rw[hno (by simp[fG,nh,h2])]
  (repeat' first|refine st ?_|refine sa fun xe hxe=>?_|refine sb (fun hq=>?_) fun hq=>?_|refine cr (hG) ?_|refine cr (hI) ?_|exact True.intro)
  exact⟨rfl,rfl⟩
 rw[h2] at hI
 have h2':nh w i=true:=h2
 obtain⟨hl,hx,hp⟩:=ic h2'
 have hir:=aD.1 h2
 have hvx:=h.pv _ hp
 have hrd:=nG hvx.1
 obtain⟨hgx,hvm,hml⟩:=h.view h1
 have hgr:=cZ.1 h1
 have hvlen:=h.vlen
 have hB:fG w m i=(!Cq w m i && parOK (view w m) (prop w i).v):=by simp[fG,h1,h2']
 have hP:=cR (view w m) (prop w i).v hrd
 have hC:=BG w i m h h2'
 have hyes:fG w m i=true→fb w m i=iZ w i m:=fun h=>by simp[fb,h]
 have hdbl:Cq w m i=(List.range w.props.length).any fun j=>(j:Int) !=i && (slt (w.props.getD j p0).v (prop w i).v && (w.props.getD j p0).members.contains m):=rfl
 generalize prop w i=p at *
 (repeat' first|refine st ?_|refine sa fun xe hxe=>?_|refine sb (fun hq=>?_) fun hq=>?_|refine cr (hG) ?_|refine cr (hI) ?_|exact True.intro)
 refine af hK [] [1,2,3,6,7,8] (fun j:Nat=>⟨[(1,.int .i64 m),(2,.int .i64 i),(3,.ptr 4 0),(6,.ptr 5 0),(7,.ptr 6 0),(8,.int .i64 (j:Int))],[(4,.var 31 (aG w).cells),(5,.var 31 [.nils,.nils,.int .i64 0,.nils,.nils]),(6,.var 43 (bz p.v).cells)],7⟩)
  (fun j=>j≤w.props.length∧∀k,k<j→((k:Int) !=i && (slt (w.props.getD k p0).v p.v && (w.props.getD k p0).members.contains m))=false) (fun j=>w.props.length-j) 0 ⟨by simp,by simp⟩ rfl ?_
 rintro j ⟨hj,hall⟩
 by_cases hlt:j<w.props.length
 ·have hxq:w.props[j]?=some (w.props.getD j p0):=by rw[List.getD_eq_getElem?_getD,List.getElem?_eq_getElem hlt];rfl
  have hqm:w.props.getD j p0∈w.props:=dF hlt
  have hyes2:((j:Int) !=i && (slt (w.props.getD j p0).v p.v && (w.props.getD j p0).members.contains m))=true→Cq w m i=true:=fun hh=>by rw[hdbl];exact List.any_eq_true.2 ⟨j,List.mem_range.2 hlt,hh⟩
  have hno2:((j:Int) !=i && (slt (w.props.getD j p0).v p.v && (w.props.getD j p0).members.contains m))=false→∀k,k<j+1→((k:Int) !=i && (slt (w.props.getD k p0).v p.v && (w.props.getD k p0).members.contains m))=false:=fun hh k hk=>by
   rcases Nat.lt_or_ge k j with h5|h5
   ·exact hall k h5
   ·obtain rfl:k=j:=by omega
    exact hh
  generalize w.props.getD j p0=q at *
  have hS:=BO q.v p.v
  have hH:=AB q.members m
  by_cases h3:(j:Int)=i
  ·(repeat' first|refine st ?_|refine sa fun xe hxe=>?_|refine sb (fun hq=>?_) fun hq=>?_|refine cr (hS) ?_|refine cr (hH) ?_|exact True.intro)
   exact⟨j+1,⟨by omega,hno2 (by simp[h3])⟩,by omega,rfl⟩
  cases h4:slt q.v p.v
  ·rw[h4] at hS
   (repeat' first|refine st ?_|refine sa fun xe hxe=>?_|refine sb (fun hq=>?_) fun hq=>?_|refine cr (hS) ?_|refine cr (hH) ?_|exact True.intro)
   exact⟨j+1,⟨by omega,hno2 (by simp[h4])⟩,by omega,rfl⟩
  rw[h4] at hS
  cases h5:q.members.contains m
  ·rw[h5] at hH
   (repeat' first|refine st ?_|refine sa fun xe hxe=>?_|refine sb (fun hq=>?_) fun hq=>?_|refine cr (hS) ?_|refine cr (hH) ?_|exact True.intro)
   exact⟨j+1,⟨by omega,hno2 (by rw[h5,Bool.and_false,Bool.and_false])⟩,by omega,rfl⟩
  ·rw[h5] at hH
   rw[hno (by rw[hB,hyes2 (by rw[h4,h5];simpa using h3)];rfl)]
   (repeat' first|refine st ?_|refine sa fun xe hxe=>?_|refine sb (fun hq=>?_) fun hq=>?_|refine cr (hS) ?_|refine cr (hH) ?_|exact True.intro)
   exact⟨rfl,rfl⟩
 ·have hnd:Cq w m i=false:=by
   rw[hdbl,Bool.eq_false_iff]
   intro hh
   obtain⟨k,hk,hh⟩:=List.any_eq_true.1 hh
   rw[hall k (by have:=List.mem_range.1 hk;omega)] at hh
   cases hh
  rw[hnd] at hB
  generalize view w m=g at *
  cases h6:parOK g p.v
  ·rw[h6] at hP hB
   rw[hno hB]
   (repeat' first|refine st ?_|refine sa fun xe hxe=>?_|refine sb (fun hq=>?_) fun hq=>?_|refine cr (hP) ?_|exact True.intro)
   exact⟨rfl,rfl⟩
  ·rw[h6] at hP hB
   rw[hyes hB]
   (repeat' first|refine st ?_|refine sa fun xe hxe=>?_|refine sb (fun hq=>?_) fun hq=>?_|refine cr (hP) ?_|refine cr (hC) ?_|exact True.intro)
   exact⟨rfl,rfl⟩
theorem BI (w:Wrl)(m i:Int)(h:WOK w):ah Tryz.prog 63 [aG w,.int .i64 m,.int .i64 i] [] (aG (cz w m i)) []:=by
 have hG:=rQ w m
 have hI:=j4 i 0 ((w.props.length:Int)-1)
 have hpl:=h.plen
 have hno:dk w m i=false→cz w m i=w:=fun h=>by simp[cz,h]
 refine aa ak Tryz.func63 rfl rfl true 0 4 rfl rfl rfl rfl fun K hK hb1 hb2=>?_;simp only[ae,enc,Nat.reduceAdd]
 clear hb1 hb2
 cases h1:good w m
 ·rw[h1] at hG
  rw[hno (by simp[dk,h1])]
  (repeat' first|refine st ?_|refine sa fun xe hxe=>?_|refine sb (fun hq=>?_) fun hq=>?_|refine cr (hG) ?_|exact True.intro)
  exact⟨rfl,rfl⟩
 rw[h1] at hG
 cases h2:iq i 0 ((w.props.length:Int)-1)
 ·rw[h2] at hI
  rw[hno (by simp[dk,nh,h2])]
  (repeat' first|refine st ?_|refine sa fun xe hxe=>?_|refine sb (fun hq=>?_) fun hq=>?_|refine cr (hG) ?_|refine cr (hI) ?_|exact True.intro)
  exact⟨rfl,rfl⟩
 rw[h2] at hI
 have h2':nh w i=true:=h2
 obtain⟨hl,hx,hp⟩:=ic h2'
 have hir:=aD.1 h2
 have hvx:=h.pv _ hp
 have hrd:=nG hvx.1
 obtain⟨hgx,hvm,hml⟩:=h.view h1
 have hgr:=cZ.1 h1
 have hvlen:=h.vlen
 have h7:=h.len
 have hDn:=xY w (prop w i) h.com hvx.2
 have hB:dk w m i=(don w.com (prop w i) && (!cx (view w m) (prop w i).v.round (prop w i).v.author && parOK (view w m) (prop w i).v)):=by simp[dk,h1,h2']
 have hyes:dk w m i=true→cz w m i={w with views:=w.views.set m.toNat (ee (view w m) (prop w i).v)}:=fun h=>by simp[cz,h]
 have hF:=q9 (view w m) (prop w i).v.round (prop w i).v.author
 have hFl:=vA (view w m) (prop w i).v.round (prop w i).v.author
 have hP:=cR (view w m) (prop w i).v hrd
 have hAd:=FB (view w m) (prop w i).v (by have:=h.vl _ hvm;omega) (fun u hu=>by have:=h.par (h.vv _ hvm u hu);omega) (by have:=h.par hvx.1;omega) hrd
 cases h3:don w.com (prop w i)
 ·rw[h3] at hDn
  rw[hno (by rw[hB,h3];rfl)]
  generalize prop w i=p at *
  (repeat' first|refine st ?_|refine sa fun xe hxe=>?_|refine sb (fun hq=>?_) fun hq=>?_|refine cr (hG) ?_|refine cr (hI) ?_|refine cr (hDn) ?_|exact True.intro)
  exact⟨rfl,rfl⟩
 rw[h3] at hDn
 generalize prop w i=p at *
 generalize view w m=g at *
 cases h4:cx g p.v.round p.v.author
 rotate_left
 ·have hFl:¬lJ g p.v.round p.v.author<0:=by simpa[h4] using hFl
  rw[hno (by rw[hB,h3,h4];rfl)]
  generalize lJ g p.v.round p.v.author=fi at *
  (repeat' first|refine st ?_|refine sa fun xe hxe=>?_|refine sb (fun hq=>?_) fun hq=>?_|refine cr (hG) ?_|refine cr (hI) ?_|refine cr (hDn) ?_|refine cr (hF) ?_|exact True.intro)
  exact⟨rfl,rfl⟩
 have hFl:lJ g p.v.round p.v.author<0:=by simpa[h4] using hFl
 generalize lJ g p.v.round p.v.author=fi at *
 cases h5:parOK g p.v
 ·rw[h5] at hP
  rw[hno (by rw[hB,h3,h4,h5];rfl)]
  (repeat' first|refine st ?_|refine sa fun xe hxe=>?_|refine sb (fun hq=>?_) fun hq=>?_|refine cr (hG) ?_|refine cr (hI) ?_|refine cr (hDn) ?_|refine cr (hF) ?_|refine cr (hP) ?_|exact True.intro)
  exact⟨rfl,rfl⟩
 rw[h5] at hP
 rw[hyes (by rw[hB,h3,h4,h5];rfl)]
 have hAd:=hAd h4 h5
 generalize ee g p.v=g2 at *
 (repeat' first|refine st ?_|refine sa fun xe hxe=>?_|refine sb (fun hq=>?_) fun hq=>?_|refine cr (hG) ?_|refine cr (hI) ?_|refine cr (hDn) ?_|refine cr (hF) ?_|refine cr (hP) ?_|refine cr (hAd) ?_|exact True.intro)
 exact⟨rfl,rfl⟩
theorem FC (w:Wrl)(v:Vtx)(h:WOK w)(hvl:v.parents.length≤2000000):ah Tryz.prog 96 [aG w,bz v] [] (aG (mS w v)) []:=by
 have hpl:=h.plen
 have hno:fD w v=false→mS w v=w:=fun h=>by simp[mS,h]
 have hyes:fD w v=true→mS w v=pi w v:=fun h=>by simp[mS,h]
 have hV:=jW w.com v h.com
 refine aa ak Tryz.func96 rfl rfl true 0 4 rfl rfl rfl rfl fun K hK hb1 hb2=>?_;simp only[ae,enc,Nat.reduceAdd]
 clear hb1 hb2
 by_cases h1:w.bad<0
 ·rw[hno (by simp[fD];intro h9;omega)]
  (repeat' first|refine st ?_|refine sa fun xe hxe=>?_|refine sb (fun hq=>?_) fun hq=>?_|refine cr (hV) ?_|exact True.intro)
  exact⟨rfl,rfl⟩
 by_cases h2:v.author=w.bad
 rotate_left
 ·rw[hno (by simp[fD,h2])]
  (repeat' first|refine st ?_|refine sa fun xe hxe=>?_|refine sb (fun hq=>?_) fun hq=>?_|refine cr (hV) ?_|exact True.intro)
  exact⟨rfl,rfl⟩
 cases h3:vtxS w.com v
 ·rw[h3] at hV
  rw[hno (by simp[fD,h3])]
  (repeat' first|refine st ?_|refine sa fun xe hxe=>?_|refine sb (fun hq=>?_) fun hq=>?_|refine cr (hV) ?_|exact True.intro)
  exact⟨rfl,rfl⟩
 rw[h3] at hV
 by_cases h4:w.props.length<220
 rotate_left
 ·rw[hno (by simp[fD,h4])]
  (repeat' first|refine st ?_|refine sa fun xe hxe=>?_|refine sb (fun hq=>?_) fun hq=>?_|refine cr (hV) ?_|exact True.intro)
  exact⟨rfl,rfl⟩
 have hB:fD w v= !w.props.any fun p=>gM p.v v:=by
  have:(0:Int)≤w.bad:=by omega
  simp[fD,this,h2,h3,h4]
 (repeat' first|refine st ?_|refine sa fun xe hxe=>?_|refine sb (fun hq=>?_) fun hq=>?_|refine cr (hV) ?_|exact True.intro)
 refine af hK [] [2,3,4,5] (fun j:Nat=>⟨[(2,.ptr 4 0),(3,.ptr 5 0),(4,.ptr 6 0),(5,.int .i64 (j:Int))],[(4,.var 31 (aG w).cells),(5,.var 43 (bz v).cells),(6,.var 31 [.nils,.nils,.int .i64 0,.nils,.nils])],7⟩)
  (fun j=>j≤w.props.length∧∀p∈w.props.take j,gM p.v v=false) (fun j=>w.props.length-j) 0 ⟨by simp,by simp⟩ rfl ?_
 rintro j ⟨hj,hall⟩
 by_cases hlt:j<w.props.length
 ·have hxq:w.props[j]?=some w.props[j]:=List.getElem?_eq_getElem hlt
  have hsn:w.props.take (j+1)=w.props.take j++[w.props[j]]:=List.take_succ_eq_append_getElem hlt
  have hqm:w.props[j]∈w.props:=List.getElem_mem hlt
  generalize w.props[j]=q at *
  have hS:=wk q.v v
  cases h5:gM q.v v
  ·rw[h5] at hS
   (repeat' first|refine st ?_|refine sa fun xe hxe=>?_|refine sb (fun hq=>?_) fun hq=>?_|refine cr (hS) ?_|exact True.intro)
   exact⟨j+1,⟨by omega,by rw[hsn];exact aU hall h5⟩,by omega,rfl⟩
  ·rw[h5] at hS
   have:(w.props.any fun p=>gM p.v v)=true:=List.any_eq_true.2 ⟨q,hqm,h5⟩
   rw[hno (by rw[hB,this];rfl)]
   (repeat' first|refine st ?_|refine sa fun xe hxe=>?_|refine sb (fun hq=>?_) fun hq=>?_|refine cr (hS) ?_|exact True.intro)
   exact⟨rfl,rfl⟩
 ·rw[List.take_of_length_le (by omega)] at hall
  have:(w.props.any fun p=>gM p.v v)=false:=by
   rw[Bool.eq_false_iff]
   intro hh
   obtain⟨p,hp,hh⟩:=List.any_eq_true.1 hh
   rw[hall p hp] at hh
   cases hh
  rw[hyes (by rw[hB,this];rfl)]
  (repeat' first|refine st ?_|refine sa fun xe hxe=>?_|refine sb (fun hq=>?_) fun hq=>?_|refine cr (mc _ hvl) ?_|exact True.intro)
  exact⟨rfl,rfl⟩
abbrev jM (e:Evt):V:=.agg [.int .i64 e.kind,.int .i64 e.a,.int .i64 e.b,.int .i64 e.v.round,.int .i64 e.v.author,.lst (.int .i64) e.v.parents,.int .i64 e.v.digest]
theorem GI (w:Wrl)(e:Evt)(h:WOK w)(hvl:e.v.parents.length≤2000000):ah Tryz.prog 52 [aG w,jM e] [] (aG (dX w e)) []:=by
 have hpl:=h.plen
 have h1:=BN w e.a e.b h
 have h2:=BT w e.a e.b h
 have h3:=BI w e.a e.b h
 have h4:=FC w e.v h hvl
 have hI:=j4 e.b 0 ((w.props.length:Int)-1)
 refine aa ak Tryz.func52 rfl rfl true 0 4 rfl rfl rfl rfl fun K hK hb1 hb2=>?_;simp only[ae,enc,Nat.reduceAdd]
 clear hb1 hb2
 unfold dX
 by_cases k1:e.kind=1
 ·rw[if_pos k1]
  generalize dp w e.a e.b=w' at *
  (repeat' first|refine st ?_|refine sa fun xe hxe=>?_|refine sb (fun hq=>?_) fun hq=>?_|refine cr (h1) ?_|exact True.intro)
  exact⟨rfl,rfl⟩
 by_cases k2:e.kind=2
 ·rw[if_neg k1,if_pos k2]
  generalize fb w e.a e.b=w' at *
  (repeat' first|refine st ?_|refine sa fun xe hxe=>?_|refine sb (fun hq=>?_) fun hq=>?_|refine cr (h2) ?_|exact True.intro)
  exact⟨rfl,rfl⟩
 by_cases k3:e.kind=3
 ·rw[if_neg k1,if_neg k2,if_pos k3]
  generalize cz w e.a e.b=w' at *
  (repeat' first|refine st ?_|refine sa fun xe hxe=>?_|refine sb (fun hq=>?_) fun hq=>?_|refine cr (h3) ?_|exact True.intro)
  exact⟨rfl,rfl⟩
 by_cases k4:e.kind=4
 ·rw[if_neg k1,if_neg k2,if_neg k3,if_pos k4]
  generalize mS w e.v=w' at *
  (repeat' first|refine st ?_|refine sa fun xe hxe=>?_|refine sb (fun hq=>?_) fun hq=>?_|refine cr (h4) ?_|exact True.intro)
  exact⟨rfl,rfl⟩
 by_cases k5:e.kind=5
 ·rw[if_neg k1,if_neg k2,if_neg k3,if_neg k4,if_pos k5]
  by_cases h6:0≤w.bad
  ·cases h7:iq e.b 0 ((w.props.length:Int)-1)
   ·rw[h7] at hI
    have:iY w e.b=w:=by simp[iY,iF,nh,h7]
    rw[this]
    (repeat' first|refine st ?_|refine sa fun xe hxe=>?_|refine sb (fun hq=>?_) fun hq=>?_|refine cr (hI) ?_|exact True.intro)
    exact⟨rfl,rfl⟩
   ·rw[h7] at hI
    have h7':nh w e.b=true:=h7
    have:iY w e.b=iZ w e.b w.bad:=by simp[iY,iF,h7',h6]
    rw[this]
    have h5:=BG w e.b w.bad h h7'
    generalize iZ w e.b w.bad=w' at *
    (repeat' first|refine st ?_|refine sa fun xe hxe=>?_|refine sb (fun hq=>?_) fun hq=>?_|refine cr (hI) ?_|refine cr (h5) ?_|exact True.intro)
    exact⟨rfl,rfl⟩
  ·have:iY w e.b=w:=by simp[iY,iF,h6]
   rw[this]
   (repeat' first|refine st ?_|refine sa fun xe hxe=>?_|refine sb (fun hq=>?_) fun hq=>?_|refine cr (hI) ?_|exact True.intro)
   exact⟨rfl,rfl⟩
 ·rw[if_neg k1,if_neg k2,if_neg k3,if_neg k4,if_neg k5]
  (repeat' first|refine st ?_|refine sa fun xe hxe=>?_|refine sb (fun hq=>?_) fun hq=>?_|exact True.intro)
  exact⟨rfl,rfl⟩
theorem xq (c l:List Int)(b:Int)(tabs:List (List (Option Vtx)))(xss:List (Option (List Int)))(ms:List PplM):ah Tryz.prog 83 [.ptr 4 0] (rX 0 c l b tabs xss ms) (.tup []) (rX 1 c l b tabs xss ms):=by
 have h:=yv A6 (h:=rX 0 c l b tabs xss ms) (T:=83) (cs:=[.int .u32 0,.lst (.int .i64) c,.lst (.int .i64) l,.int .i64 b,.ref 5,.ref 6]) rfl
 exact h
set_option maxHeartbeats 1000000 in
theorem df (c l:List Int)(b:Int)(tabs tabs':List (List (Option Vtx)))(xss xss':List (Option (List Int)))(ms ms':List PplM)(e:Evt)(r:Bool)(ht:tabs.length≤tabs'.length)(hx:xss.length≤xss'.length)
  (h1:e.kind=1→ah Tryz.prog 85 [.ptr 4 0,.int .i64 e.a,.int .i64 e.b] (rX 1 c l b tabs xss ms) (.bool r) (rX 1 c l b tabs' xss' ms'))
  (h2:e.kind=2→ah Tryz.prog 86 [.ptr 4 0,.int .i64 e.a,.int .i64 e.b] (rX 1 c l b tabs xss ms) (.bool r) (rX 1 c l b tabs' xss' ms'))
  (h3:e.kind=3→ah Tryz.prog 87 [.ptr 4 0,.int .i64 e.a,.int .i64 e.b] (rX 1 c l b tabs xss ms) (.bool r) (rX 1 c l b tabs' xss' ms'))
  (h4:e.kind=4→ah Tryz.prog 88 [.ptr 4 0,bz e.v] (rX 1 c l b tabs xss ms) (.bool r) (rX 1 c l b tabs' xss' ms'))
  (h5:e.kind=5→ah Tryz.prog 89 [.ptr 4 0,.int .i64 e.b] (rX 1 c l b tabs xss ms) (.bool r) (rX 1 c l b tabs' xss' ms'))
  (h6:¬(1≤e.kind∧e.kind≤5)→r=false∧tabs'=tabs∧xss'=xss∧ms'=ms):ah Tryz.prog 40 [.ptr 4 0,jM e] (rX 0 c l b tabs xss ms) (.bool r) (rX 0 c l b tabs' xss' ms'):=by
 refine wQ A6 aR Tryz.func40 rfl rfl false 3 7 rfl rfl rfl rfl (by exact Live.of_look (am (i:=0) (x:=.var 83 [.int .i32 0,.int .u32 0,.lst (.int .i64) c,.lst (.int .i64) l,.int .i64 b,.ref 5,.ref 6]) rfl rfl)) fun K hK hK4 hb1 hb2=>?_;simp only[ae,enc,Nat.reduceAdd]
 clear hb1 hb2
 have hL:=xq c l b tabs xss ms
 have hF0:ao (VB.fvari 142 217 (.ob .vtx) tabs)≤ao (VB.fvari 142 217 (.ob .vtx) tabs'):=ht
 have hF1:ao (VB.frowx 3 (.int .i64) xss)≤ao (VB.frowx 3 (.int .i64) xss'):=hx
 refine mY ?_
 (repeat' first|refine aY ?_|refine sa fun xe hxe=>?_|refine sb (fun hq=>?_) fun hq=>?_|exact True.intro)
 refine⟨rfl,mY ?_⟩
 (repeat' first|refine aY ?_|refine sa fun xe hxe=>?_|refine sb (fun hq=>?_) fun hq=>?_|refine cr (hL) ?_|exact True.intro)
 refine⟨rfl,sG ?_⟩
 refine wM aR (l:=[_,_,_]) (od:=_) rfl ⟨rfl,rfl,rfl⟩ (by decide) ?_
 (conv=>whnf)
 (repeat' first|refine aY ?_|refine sa fun xe hxe=>?_|refine sb (fun hq=>?_) fun hq=>?_|exact True.intro)
 refine⟨rfl,hK4,rfl,?_⟩
 by_cases c1:e.kind=1
 ·have h:=h1 c1
  (repeat' first|refine aY ?_|refine sa fun xe hxe=>?_|refine sb (fun hq=>?_) fun hq=>?_|refine cr (h) ?_|exact True.intro)
  exact⟨rfl,rfl⟩
 ·by_cases c2:e.kind=2
  ·have h:=h2 c2
   (repeat' first|refine aY ?_|refine sa fun xe hxe=>?_|refine sb (fun hq=>?_) fun hq=>?_|refine cr (h) ?_|exact True.intro)
   exact⟨rfl,rfl⟩
  ·by_cases c3:e.kind=3
   ·have h:=h3 c3
    (repeat' first|refine aY ?_|refine sa fun xe hxe=>?_|refine sb (fun hq=>?_) fun hq=>?_|refine cr (h) ?_|exact True.intro)
    exact⟨rfl,rfl⟩
   ·by_cases c4:e.kind=4
    ·have h:=h4 c4
     (repeat' first|refine aY ?_|refine sa fun xe hxe=>?_|refine sb (fun hq=>?_) fun hq=>?_|refine cr (h) ?_|exact True.intro)
     exact⟨rfl,rfl⟩
    ·by_cases c5:e.kind=5
     ·have h:=h5 c5
      (repeat' first|refine aY ?_|refine sa fun xe hxe=>?_|refine sb (fun hq=>?_) fun hq=>?_|refine cr (h) ?_|exact True.intro)
      exact⟨rfl,rfl⟩
     ·obtain⟨rfl,rfl,rfl,rfl⟩:=h6 (by omega)
      (repeat' first|refine aY ?_|refine sa fun xe hxe=>?_|refine sb (fun hq=>?_) fun hq=>?_|exact True.intro)
      exact⟨rfl,rfl⟩
theorem EY (ps:List Ppl)(xss:List (Option (List Int)))(ms:List PplM)(hR:Rel ps xss ms)(hv:∀p∈ps,p.v.parents.length≤1000000∧p.members.length≤1000000)(hl:ps.length≤1000000):ah Tryz.prog 81 [.ref 4] [(1,.frowx 3 (.int .i64) xss),(4,.row 104 (.pplm 1) ms)] (.lst .ppl ps) [(1,.frowx 3 (.int .i64) xss),(4,.row 104 (.pplm 1) ms)]:=by
 refine aa ak Tryz.func81 rfl rfl true 1 5 rfl rfl rfl rfl fun K hK hb1 hb2=>?_;simp only[ae,enc,Nat.reduceAdd]
 clear hb1 hb2
 have hpl:=hR.len
 (repeat' first|refine st ?_|refine sa fun xe hxe=>?_|refine sb (fun hq=>?_) fun hq=>?_|exact True.intro)
 refine af hK [] [3,9,10,11] (fun i:Nat=>⟨[(3,.ref 5),(9,.ref 4),(10,.int .i64 ps.length),(11,.int .i64 (i:Int))],[(1,.frowx 3 (.int .i64) xss),(4,.row 104 (.pplm 1) ms),(5,.row 104 .ppl (ps.take i++(List.replicate ps.length p0).drop i))],6⟩) (fun i=>i≤ps.length) (fun i=>ps.length-i) 0 (by simp) (by simp only[hpl];simp;rfl) ?_
 intro i hi
 by_cases hlt:i<ps.length
 ·have hxe:ps[i]?=some ps[i]:=List.getElem?_eq_getElem hlt
  have hg:i<(ps.take i++(List.replicate ps.length p0).drop i).length:=dO _ _ (by simp;omega) (by simpa using hlt)
  have hs:(ps.take i++(List.replicate ps.length p0).drop i).set i ps[i]=ps.take (i+1)++(List.replicate ps.length p0).drop (i+1):=by
   rw[ce _ _ _ (by simp;omega) (by simpa using hlt),List.take_succ_eq_append_getElem hlt]
  obtain⟨v1,v2⟩:=hv _ (List.getElem_mem hlt)
  obtain⟨j,hx1,hx2⟩:=hR.get i _ hxe
  generalize hrow:ps.take i++(List.replicate ps.length p0).drop i=row at *
  generalize ps[i]=p at *
  (repeat' first|refine st ?_|refine sa fun xe hxe=>?_|refine sb (fun hq=>?_) fun hq=>?_|refine cr (jV _ v1) ?_|exact True.intro)
  refine⟨i+1,by omega,by omega,?_⟩
  rw[←hs]
  rfl
 ·obtain rfl:i=ps.length:=by omega
  (repeat' first|refine st ?_|refine sa fun xe hxe=>?_|refine sb (fun hq=>?_) fun hq=>?_|exact True.intro)
  simp
def ss (s:Int)(c l:List Int)(b:Int)(tabs:List (List (Option Vtx)))(xss:List (Option (List Int)))(ms:List PplM)(ps:List Ppl):Nat→VSt
 |0=>⟨[(2,.ptr 7 0),(3,.ptr 8 0),(30,.ref 5),(31,.int .i64 tabs.length),(32,.int .i64 0)],rX s c l b tabs xss ms++[(7,VB.var 31 [.nils,.nils,.int .i64 0,.nils,.nils]),(8,VB.var 31 [.lst (.int .i64) c,.ref 9,.int .i64 b,.nils,.lst .ppl ps]),(9,VB.row 3 (.int .i64) l)],10⟩
 |i+1=>⟨[(2,.ptr 7 0),(3,.ptr 8 0),(30,.ref 5),(31,.int .i64 tabs.length),(32,.int .i64 ((i+1:Nat):Int))],rX s c l b tabs xss ms++[(7,VB.var 31 [.nils,.nils,.int .i64 0,.nils,.nils]),(8,VB.var 31 [.lst (.int .i64) c,.ref 9,.int .i64 b,.ref 10,.lst .ppl ps]),(9,VB.row 3 (.int .i64) l),(10,VB.row 102 (.lst .vtx) ((tabs.take (i+1)).map aV))],11⟩
set_option maxHeartbeats 1000000 in
theorem C4 (s:Int)(c l:List Int)(b:Int)(tabs:List (List (Option Vtx)))(xss:List (Option (List Int)))(ms:List PplM)(ps:List Ppl)(hR:Rel ps xss ms)(hc:c≠[])(hcl:c.length≤1000000)(hll:l.length≤1000000)(ht:∀t∈tabs,t.length=217∧∀v,some v∈t→v.parents.length≤1000000)(htl:tabs.length≤7)(htl1:1≤tabs.length)
  (hv:∀p∈ps,p.v.parents.length≤1000000∧p.members.length≤1000000) (hpn:ps.length≤1000000):ah Tryz.prog 41 [.ptr 4 0] (rX s c l b tabs xss ms) (aG ⟨c,l,b,tabs.map aV,ps⟩) (rX s c l b tabs xss ms):=by
 have hC:=EV c hc hcl
 have hP:=EY ps xss ms hR hv hpn
 have hrl:((List.range tabs.length).map some).length=tabs.length:=by simp
 refine aa ak Tryz.func41 rfl rfl true 3 7 rfl rfl rfl rfl fun K hK hb1 hb2=>?_;simp only[ae,enc,Nat.reduceAdd]
 clear hb1 hb2
 (repeat' first|refine st ?_|refine sa fun xe hxe=>?_|refine sb (fun hq=>?_) fun hq=>?_|refine cr (hC) ?_|refine co (hP) ?_|exact True.intro)
 refine af hK [] [2,3,30,31,32] (ss s c l b tabs xss ms ps) (fun i=>i≤tabs.length) (fun i=>tabs.length-i) 0 (by simp) (by simp only[hrl];(conv=>whnf);rfl) ?_
 intro i hi
 by_cases hlt:i<tabs.length
 ·have hxe:tabs[i]?=some tabs[i]:=List.getElem?_eq_getElem hlt
  have hsn:tabs.take (i+1)=tabs.take i++[tabs[i]]:=List.take_succ_eq_append_getElem hlt
  obtain⟨t1,t2⟩:=ht _ (List.getElem_mem hlt)
  have hxv:((List.range tabs.length).map some)[i]?=some (some i):=by rw[List.getElem?_map,List.getElem?_range hlt];rfl
  have hV:=E8 tabs i _ hxe t1 t2
  generalize tabs[i]=tab at *
  cases i with
  |zero=>
   have hst:ss s c l b tabs xss ms ps (0+1)=⟨[(2,.ptr 7 0),(3,.ptr 8 0),(30,.ref 5),(31,.int .i64 tabs.length),(32,.int .i64 ((0+1:Nat):Int))],rX s c l b tabs xss ms++[(7,VB.var 31 [.nils,.nils,.int .i64 0,.nils,.nils]),(8,VB.var 31 [.lst (.int .i64) c,.ref 9,.int .i64 b,.ref 10,.lst .ppl ps]),(9,VB.row 3 (.int .i64) l),(10,VB.row 102 (.lst .vtx) [aV tab])],11⟩:=by
    rw[ss,hsn]
    rfl
   have hs0:ss s c l b tabs xss ms ps 0=⟨[(2,.ptr 7 0),(3,.ptr 8 0),(30,.ref 5),(31,.int .i64 tabs.length),(32,.int .i64 0)],rX s c l b tabs xss ms++[(7,VB.var 31 [.nils,.nils,.int .i64 0,.nils,.nils]),(8,VB.var 31 [.lst (.int .i64) c,.ref 9,.int .i64 b,.nils,.lst .ppl ps]),(9,VB.row 3 (.int .i64) l)],10⟩:=rfl
   have hx0:((List.range tabs.length).map some)[(0:Int).toNat]?=some (some 0):=hxv
   rw[hs0]
   (repeat' first|refine st ?_|refine sa fun xe hxe=>?_|refine sb (fun hq=>?_) fun hq=>?_|refine co (hV) ?_|exact True.intro)
   refine⟨0+1,by omega,by omega,?_⟩
   rw[hst]
   rfl
  |succ i=>
   have hfl:((tabs.take (i+1)).map aV).length=i+1:=by rw[List.length_map,List.length_take];omega
   have hst:ss s c l b tabs xss ms ps (i+1+1)=⟨[(2,.ptr 7 0),(3,.ptr 8 0),(30,.ref 5),(31,.int .i64 tabs.length),(32,.int .i64 ((i+1+1:Nat):Int))],rX s c l b tabs xss ms++[(7,VB.var 31 [.nils,.nils,.int .i64 0,.nils,.nils]),(8,VB.var 31 [.lst (.int .i64) c,.ref 9,.int .i64 b,.ref 10,.lst .ppl ps]),(9,VB.row 3 (.int .i64) l),(10,VB.row 102 (.lst .vtx) ((tabs.take (i+1)).map aV++[aV tab]))],11⟩:=by
    rw[ss,hsn,List.map_append]
    rfl
   have hs0:ss s c l b tabs xss ms ps (i+1)=⟨[(2,.ptr 7 0),(3,.ptr 8 0),(30,.ref 5),(31,.int .i64 tabs.length),(32,.int .i64 ((i+1:Nat):Int))],rX s c l b tabs xss ms++[(7,VB.var 31 [.nils,.nils,.int .i64 0,.nils,.nils]),(8,VB.var 31 [.lst (.int .i64) c,.ref 9,.int .i64 b,.ref 10,.lst .ppl ps]),(9,VB.row 3 (.int .i64) l),(10,VB.row 102 (.lst .vtx) ((tabs.take (i+1)).map aV))],11⟩:=rfl
   rw[hs0]
   clear hs0
   generalize (tabs.take (i+1)).map aV=ts at *
   (repeat' first|refine st ?_|refine sa fun xe hxe=>?_|refine sb (fun hq=>?_) fun hq=>?_|refine co (hV) ?_|exact True.intro)
   refine⟨i+1+1,by omega,by omega,?_⟩
   rw[hst]
   rfl
 ·cases i with
  |zero=>omega
  |succ i=>
   have hs0:ss s c l b tabs xss ms ps (i+1)=⟨[(2,.ptr 7 0),(3,.ptr 8 0),(30,.ref 5),(31,.int .i64 tabs.length),(32,.int .i64 ((i+1:Nat):Int))],rX s c l b tabs xss ms++[(7,VB.var 31 [.nils,.nils,.int .i64 0,.nils,.nils]),(8,VB.var 31 [.lst (.int .i64) c,.ref 9,.int .i64 b,.ref 10,.lst .ppl ps]),(9,VB.row 3 (.int .i64) l),(10,VB.row 102 (.lst .vtx) (tabs.map aV))],11⟩:=by
    rw[ss,List.take_of_length_le (by omega)]
   rw[hs0]
   clear hs0
   (repeat' first|refine st ?_|refine sa fun xe hxe=>?_|refine sb (fun hq=>?_) fun hq=>?_|exact True.intro)
   exact⟨rfl,rfl⟩
theorem rv (s:Int)(w:Wrl)(xss:List (Option (List Int)))(ms:List PplM)(hw:WOK w)(hR:Rel w.props xss ms):ah Tryz.prog 41 [.ptr 4 0] (rW s w xss ms) (aG w) (rW s w xss ms):=by
 have h:=(dS.2 hw)
 rw[jL,Bool.and_eq_true] at h
 have h:=h.1
 obtain⟨h1,h2,h3,h4,h5,h6⟩:=kf h
 have h7:=(aw.1 h1).2
 have hll:=(gw.1 h2).2
 have hps:=nv h
 have hpl:=ju h4
 have hne:w.com≠[]:=fun h=>by rw[h] at h7;simp at h7
 have hc:=C4 s w.com w.lead w.bad (w.views.map ay) xss ms w.props hR hne (by omega) (by omega) (fun t ht=>by
  obtain⟨g,hg,rfl⟩:=List.mem_map.1 ht
  refine⟨cf g,fun v hv=>?_⟩
  have:=(lb h g hg v (uF hv)).2
  omega) (by rw[List.length_map];omega) (by rw[List.length_map];omega) (fun p hp=>by have:=(hps p hp).2.2.2;omega) (by omega)
 rw[qu h] at hc
 exact hc
theorem GD (c l:List Int)(b:Int)(tabs:List (List (Option Vtx)))(ps:List Ppl):∀k:Id,look (toH (rX 0 c l b tabs (ps.map fun p=>some p.members) (rK ps))) k=look (toH (rB c l b tabs ps)) k:=by
 rintro⟨k1,k2⟩
 rw[al,al]
 by_cases e:k1=1
 ·subst e
  simp only[look,if_true,Option.bind_some,VB.blks]
  simp[List.getElem?_map,rowX]
  rfl
 ·simp[look,e]
theorem rq (w:Wrl)(hl:∀g∈w.views,g.length≤2000000)(hp:eX w=true):ah Tryz.prog 37 [aG w] [] (.tup [.ptr 4 0,.bool (eS w)]) (rW 0 w (w.props.map fun p=>some p.members) (rK w.props)):=by
 have h:=D6 w hl
 simp only[Fn,Fm,hp,if_true] at h
 rw[Ft hp] at h
 have e:eS w=lS w.bad w.props w.views:=by rw[jL,hp,Bool.true_and]
 rw[e]
 unfold ah at h⊢
 exact h.out (GD _ _ _ _ _)
def pj (w:Wrl)(e:Evt):Bool:=(decide (e.kind=1) && fF w e.a e.b)||(decide (e.kind=4) && fD w e.v)
def pc (w:Wrl)(e:Evt):Bool:=if e.kind=2 then fG w e.a e.b && !(prop w e.b).members.contains e.a else if e.kind=3 then dk w e.a e.b else if e.kind=5 then iF w e.b && !(prop w e.b).members.contains w.bad else false
def Θy:TT:=(102,⟨.slice 43,1,24,some .nils,some (.hr 2),false⟩)::(43,⟨.struct [(3,0,1),(3,1,1),(22,2,1),(3,3,1)],4,48,some (.agg [.int .i64 0,.int .i64 0,.nils,.int .i64 0]),some (.vtxo 3),false⟩)::(104,⟨.struct [(43,0,4),(22,4,1)],5,72,some (.agg [.int .i64 0,.int .i64 0,.nils,.int .i64 0,.nils]),some (.pplo 3 3),false⟩)::Θ
theorem kl:TT.ok Tryz.prog Θy:=TT.okB_ok (by kernel_rfl)
theorem y6 {P Q:Prop}(h:Q)(s:Hid Q→P:=by
  intro h
  (first|(with_reducible first|apply dC|apply cY)|((first|with_reducible apply cq kl|refine go ?_|(with_reducible first|apply dd|apply cE|apply ck|apply ct|refine cm kl mixed (by kernel_rfl) ?_))<;>conv=>whnf))
  repeat(first|(with_reducible first|apply dC|apply cY)|((first|with_reducible apply cq kl|refine go ?_|(with_reducible first|apply dd|apply cE|apply ck|apply ct|refine cm kl mixed (by kernel_rfl) ?_))<;>conv=>whnf))
  exact h.h):P:=s ⟨h⟩
theorem EW (l:List Int)(hl:l≠[])(hb:l.length≤1000000):ah Tryz.prog 90 [.lst (.int .i64) l] [] (.ref 4) [(4,.row 3 (.int .i64) l)]:=by
 cases l with
 |nil=>exact absurd rfl hl
 |cons x l=>
  refine aa ak Tryz.func90 rfl rfl false 0 4 rfl rfl rfl rfl fun K hK hb1 hb2=>?_;simp only[ae,enc,Nat.reduceAdd]
  (repeat' first|refine st ?_|refine sa fun xe hxe=>?_|refine sb (fun hq=>?_) fun hq=>?_|exact True.intro)
  refine dL (gW (Nat.zero_le _) hb (by decide)) ?_
  (repeat' first|refine st ?_|refine sa fun xe hxe=>?_|refine sb (fun hq=>?_) fun hq=>?_|exact True.intro)
  refine cE ?_
  (conv=>whnf)
  exact⟨rfl,rfl⟩
theorem EZ (ps:List Ppl)(xss:List (Option (List Int)))(ms:List PplM)(hR:Rel ps xss ms)(hv:∀p∈ps,p.v.parents.length≤1000000∧p.members.length≤1000000)(hl:ps.length≤1000000):ah Tryz.prog 81 [.ref 4] [(1,.frowx 3 (.int .i64) xss),(3,.frow 3 (.int .i64) []),(4,.row 104 (.pplm 1) ms)] (.ref 5) [(1,.frowx 3 (.int .i64) xss),(3,.frow 3 (.int .i64) (aI ps)),(4,.row 104 (.pplm 1) ms),(5,.row 104 (.pplo 3 3) (fN 0 ps))]:=by
 refine aa kl Tryz.func81 rfl rfl false 1 5 rfl rfl rfl rfl fun K hK hb1 hb2=>?_;simp only[ae,enc,Nat.reduceAdd]
 clear hb1 hb2
 have hpl:=hR.len
 (repeat' first|refine y6 ?_|refine sa fun xe hxe=>?_|refine sb (fun hq=>?_) fun hq=>?_|exact True.intro)
 refine af hK [] [3,9,10,11] (fun i:Nat=>⟨[(3,.ref 5),(9,.ref 4),(10,.int .i64 ps.length),(11,.int .i64 (i:Int))],[(1,.frowx 3 (.int .i64) xss),(3,.frow 3 (.int .i64) (aI (ps.take i))),(4,.row 104 (.pplm 1) ms),(5,.row 104 (.pplo 3 3) (fN 0 (ps.take i)++(List.replicate ps.length zj).drop i))],6⟩) (fun i=>i≤ps.length) (fun i=>ps.length-i) 0 (by simp) (by simp only[hpl];simp[fN,aI];rfl) ?_
 intro i hi
 by_cases hlt:i<ps.length
 ·have hxe:ps[i]?=some ps[i]:=List.getElem?_eq_getElem hlt
  have hsn:ps.take (i+1)=ps.take i++[ps[i]]:=List.take_succ_eq_append_getElem hlt
  have hln:(fN 0 (ps.take i)).length=i:=by rw[xN,List.length_take];omega
  have hg:i<(fN 0 (ps.take i)++(List.replicate ps.length zj).drop i).length:=dO _ _ hln (by simpa using hlt)
  have hpq:(aI (ps.take i)).length=2*i:=by rw[oQ,List.length_take];omega
  have hs:(fN 0 (ps.take i)++(List.replicate ps.length zj).drop i).set i ⟨⟨ps[i].v.round,ps[i].v.author,some (aI (ps.take i)).length,ps[i].v.digest⟩,some (aI (ps.take i)++[ps[i].v.parents]).length⟩=fN 0 (ps.take (i+1))++(List.replicate ps.length zj).drop (i+1):=by
   rw[ce _ _ _ hln (by simpa using hlt),hsn,oP,List.length_append,hpq,List.length_take,Nat.min_eq_left (by omega),Nat.zero_add];rfl
  have hp:aI (ps.take (i+1))=(aI (ps.take i)++[ps[i].v.parents])++[ps[i].members]:=by rw[hsn,qh,List.append_assoc];rfl
  obtain⟨v1,v2⟩:=hv _ (List.getElem_mem hlt)
  obtain⟨j,hx1,hx2⟩:=hR.get i _ hxe
  clear hpq
  generalize hrow:fN 0 (ps.take i)++(List.replicate ps.length zj).drop i=row at *
  generalize aI (ps.take i)=qs at *
  generalize ps[i]=p at *
  (repeat' first|refine y6 ?_|refine sa fun xe hxe=>?_|refine sb (fun hq=>?_) fun hq=>?_|refine cr (jV _ v1) ?_|exact True.intro)
  refine⟨i+1,by omega,by omega,?_⟩
  rw[←hs,hp]
  rfl
 ·obtain rfl:i=ps.length:=by omega
  rw[List.take_of_length_le (Nat.le_refl _),show fN 0 ps++(List.replicate ps.length zj).drop ps.length=fN 0 ps by simp]
  (repeat' first|refine y6 ?_|refine sa fun xe hxe=>?_|refine sb (fun hq=>?_) fun hq=>?_|exact True.intro)
  exact⟨rfl,rfl⟩
theorem lG (E:TypeId)(b:List (List Int)):ao (VB.frow E (.int .i64) [])≤ao (VB.frow E (.int .i64) b):=by simp[ao]
set_option maxHeartbeats 1000000 in
theorem E9 (tabs:List (List (Option Vtx)))(k:Nat)(tab:List (Option Vtx))(pss:List (List Int))(hk:tabs[k]?=some tab)(ht:tab.length=217)(hv:∀v,some v∈tab→v.parents.length≤1000000):ah Tryz.prog 91 [.fptr 0 k 0] [(0,.fvari 142 217 (.ob .vtx) tabs),(3,.frow 3 (.int .i64) pss)] (.ref 4) [(0,.fvari 142 217 (.ob .vtx) tabs),(3,.frow 3 (.int .i64) (pss++(aV tab).map (·.parents))),(4,.row 43 (.vtxo 3) (iw pss.length (aV tab)))]:=by
 refine aa kl Tryz.func91 rfl rfl false 0 4 rfl rfl rfl rfl fun K hK hb1 hb2=>?_;simp only[ae,enc,Nat.reduceAdd]
 clear hb1 hb2
 have hat:∀n,n<217→tab[n]?=some (tab.getD n none):=fun n hn=>by rw[List.getD_eq_getElem?_getD,List.getElem?_eq_getElem (by omega)];rfl
 (repeat' first|refine y6 ?_|refine sa fun xe hxe=>?_|refine sb (fun hq=>?_) fun hq=>?_|exact True.intro)
 refine af hK [] [3,9,11] (fun r:Nat=>⟨[(3,.ref 4),(9,.fptr 0 k 0),(11,.int .i64 (r:Int))],[(0,.fvari 142 217 (.ob .vtx) tabs),(3,.frow 3 (.int .i64) (pss++(aV (tab.take (r*7))).map (·.parents))),(4,.row 43 (.vtxo 3) (iw pss.length (aV (tab.take (r*7)))))],5⟩) (fun r=>r≤31) (fun r=>31-r) 0 (by omega) (by simp[aV,iw];rfl) ?_
 intro r hr
 by_cases hlt:r<31
 ·obtain⟨e,he⟩:∃e:Nat→Option Vtx,∀j,e j=tab.getD (r*7+j) none:=⟨_,fun _=>rfl⟩
  have hg:∀j,j<7→tab[r*7+j]?=some (e j):=fun j hj=>by rw[he];exact hat _ (by omega)
  (repeat' first|refine y6 ?_|refine sa fun xe hxe=>?_|refine sb (fun hq=>?_) fun hq=>?_|exact True.intro)
  rename_i e0 h0 e1 h1 e2 h2 e3 h3 e4 h4 e5 h5
  obtain rfl:e0=e 0:=Option.some.inj (h0.symm.trans (hg 0 (by omega)))
  obtain rfl:e1=e 1:=Option.some.inj (h1.symm.trans (hg 1 (by omega)))
  obtain rfl:e2=e 2:=Option.some.inj (h2.symm.trans (hg 2 (by omega)))
  obtain rfl:e3=e 3:=Option.some.inj (h3.symm.trans (hg 3 (by omega)))
  obtain rfl:e4=e 4:=Option.some.inj (h4.symm.trans (hg 4 (by omega)))
  obtain rfl:e5=e 5:=Option.some.inj (h5.symm.trans (hg 5 (by omega)))
  obtain rfl:xe=e 6:=Option.some.inj (hxe.symm.trans (hg 6 (by omega)))
  clear h0 h1 h2 h3 h4 h5 hxe
  refine af hK [] [3,9,11,16,17] (fun j:Nat=>⟨[(3,.ref 4),(9,.fptr 0 k 0),(11,.int .i64 (r:Int)),(16,.agg [.obo .vtx (e 0),.obo .vtx (e 1),.obo .vtx (e 2),.obo .vtx (e 3),.obo .vtx (e 4),.obo .vtx (e 5),.obo .vtx (e 6)]),(17,.int .i64 (j:Int))],[(0,.fvari 142 217 (.ob .vtx) tabs),(3,.frow 3 (.int .i64) (pss++(aV (tab.take (r*7+j))).map (·.parents))),(4,.row 43 (.vtxo 3) (iw pss.length (aV (tab.take (r*7+j)))))],5⟩) (fun j=>j≤7) (fun j=>7-j) 0 (by omega) rfl ?_
  intro j hj
  by_cases hjl:j<7
  ·have hs:=uP (hg j hjl)
   have hvj:∀v,e j=some v→v.parents.length≤1000000:=fun v h=>hv v (List.mem_of_getElem? (by rw[hg j hjl,h]))
   have hll:=yh (tab.take (r*7+j))
   rw[List.length_take] at hll
   obtain⟨j1,hj1⟩:∃j1,j1=j+1:=⟨_,rfl⟩
   have hji:((j1:Nat):Int)=(j:Int)+1:=by omega
   rw[Nat.add_assoc,←hj1] at hs
   obtain⟨o,ho⟩:∃o,o=e j:=⟨_,rfl⟩
   rw[←ho] at hs hvj
   generalize aV (tab.take (r*7+j))=l at *
   have hsl:∀v,(iw pss.length l)++[⟨v.round,v.author,some (pss++l.map (·.parents)).length,v.digest⟩]=iw pss.length (l++[v]):=fun v=>by rw[uO,List.length_append,List.length_map]
   have hpl:∀v:Vtx,(pss++l.map (·.parents))++[v.parents]=pss++(l++[v]).map (·.parents):=fun v=>by rw[List.map_append,List.append_assoc];rfl
   have hlv:(iw pss.length l).length≤217:=by rw[yf];omega
   obtain rfl|rfl|rfl|rfl|rfl|rfl|rfl:j=0∨j=1∨j=2∨j=3∨j=4∨j=5∨j=6:=by omega
   all_goals
    rw[←ho]
    cases o with
    |none=>
     clear hsl hpl
     generalize hrow:iw pss.length l=row at *
     (repeat' first|refine y6 ?_|refine sa fun xe hxe=>?_|refine sb (fun hq=>?_) fun hq=>?_|exact True.intro)
     refine⟨j1,by omega,by omega,?_⟩
     rw[hs,hji,Option.toList_none,List.append_nil,hrow]
     try rfl
    |some v=>
     have hvv:=hvj v rfl
     have hsv:=hsl v
     have hpv:=hpl v
     clear hsl hpl
     generalize iw pss.length l=row at *
     generalize pss++l.map (·.parents)=ps at *
     (repeat' first|refine y6 ?_|refine sa fun xe hxe=>?_|refine sb (fun hq=>?_) fun hq=>?_|refine cr (jV _ hvv) ?_|exact True.intro)
     refine⟨j1,by omega,by omega,?_⟩
     rw[hs,hji,Option.toList_some,←hsv,←hpv]
     try rfl
  ·obtain rfl:j=7:=by omega
   (repeat' first|refine y6 ?_|refine sa fun xe hxe=>?_|refine sb (fun hq=>?_) fun hq=>?_|exact True.intro)
   exact⟨r+1,by omega,by omega,by rw[show (r+1)*7=r*7+7 by omega];rfl⟩
 ·obtain rfl:r=31:=by omega
  (repeat' first|refine y6 ?_|refine sa fun xe hxe=>?_|refine sb (fun hq=>?_) fun hq=>?_|exact True.intro)
  rw[List.take_of_length_le (by omega)]
  exact⟨rfl,rfl⟩

end Go.Proofs.YthmfppknagbkeaaGreat.Am
