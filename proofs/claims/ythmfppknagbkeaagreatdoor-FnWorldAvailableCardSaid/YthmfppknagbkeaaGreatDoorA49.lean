/- Runs: what the specification's functions of events give. Runs: what the specification's functions of events give, put together. Runs: an event is applied, under the lock. Runs: what has been applied is handed back. Runs: what an event does to a run. Runs: impl's WorldDo and WorldPlay. Runs: quiet rounds, copies, whole events: what the specification gives. What is drawn for new runs; the law FnWorldNew. -/
import Derived.Test.YthmfppknagbkeaaGreatDoorA48
set_option linter.unusedSimpArgs false
set_option linter.unusedVariables false
set_option maxHeartbeats 1000000
namespace Go.Proofs.YthmfppknagbkeaaGreatDoor.Am
open Go
attribute [local irreducible] Mk bk Ari eD ky iB br b8 fY er At af
set_option maxRecDepth 10000
theorem su (w:Wrl)(m:Int):af Tryz.prog 132 [ap w,.int .i64 m] [] (.bool (good w m)) []:=by
 have hI:=kG m 0 ((w.com.length:Int)-1)
 refine aa al Tryz.func132 rfl rfl false 0 4 rfl rfl rfl rfl fun K hK hb1 hb2=>?_;simp only[ae,enc,Nat.reduceAdd]
 simp[ah,V.toD,bnd,ag,D.cells] at hb1
 cases h:gM m 0 ((w.com.length:Int)-1)
 ·rw[h] at hI
  (repeat' first|refine st ?_|refine sa fun xe hxe=>?_|refine sb (fun hq=>?_) fun hq=>?_|refine cr (hI) ?_|exact True.intro)
  exact⟨by simp[good,bY,h],rfl⟩
 ·rw[h] at hI
  (repeat' first|refine st ?_|refine sa fun xe hxe=>?_|refine sb (fun hq=>?_) fun hq=>?_|refine cr (hI) ?_|exact True.intro)
  exact⟨by simp[good,bY,h],rfl⟩
theorem Bx {ps:List Ppl}{i:Nat}{p:Ppl}(h:ps[i]?=some p)(m:Int):jd (ps.take (i+1)) m=if p.v.author=m then(if jd (ps.take i) m<p.v.round+1 then p.v.round+1 else jd (ps.take i) m) else jd (ps.take i) m:=by
 obtain⟨hl,rfl⟩:=List.getElem?_eq_some_iff.1 h
 rw[List.take_succ_eq_append_getElem hl,nP]
 split
 ·split<;>omega
 ·rfl
theorem EL (w:Wrl)(m:Int)(hp:∀p∈w.props,0≤p.v.round∧p.v.round≤30)(hl:w.props.length≤1000):af Tryz.prog 136 [ap w,.int .i64 m] [] (.int .i64 (jd w.props m)) []:=by
 refine aa al Tryz.func136 rfl rfl false 0 4 rfl rfl rfl rfl fun K hK hb1 hb2=>?_;simp only[ae,enc,Nat.reduceAdd]
 clear hb1 hb2
 (repeat' first|refine st ?_|refine sa fun xe hxe=>?_|refine sb (fun hq=>?_) fun hq=>?_|exact True.intro)
 refine ab hK [] [1,2,5,6] (fun i:Nat=>⟨[(1,.int .i64 m),(2,.ptr 4 0),(5,.int .i64 (jd (w.props.take i) m)),(6,.int .i64 (i:Int))],[(4,.var 33 (ap w).cells)],5⟩) (fun i=>i≤w.props.length) (fun i=>w.props.length-i) 0 (by simp) rfl ?_
 intro i hi
 by_cases hlt:i<w.props.length
 ·have hxe:w.props[i]?=some w.props[i]:=List.getElem?_eq_getElem hlt
  have hs:=Bx hxe m
  have hpb:=hp _ (List.getElem_mem hlt)
  have hnb:=Bu (m:=m) fun p hpp=>hp p (List.mem_of_mem_take (i:=i) hpp)
  generalize w.props[i]=p at *
  by_cases ha:p.v.author=m
  ·rw[if_pos ha] at hs
   (repeat' first|refine st ?_|refine sa fun xe hxe=>?_|refine sb (fun hq=>?_) fun hq=>?_|exact True.intro)
   exact⟨i+1,by omega,by omega,by rw[hs];rfl⟩
  ·rw[if_neg ha] at hs
   (repeat' first|refine st ?_|refine sa fun xe hxe=>?_|refine sb (fun hq=>?_) fun hq=>?_|exact True.intro)
   exact⟨i+1,by omega,by omega,by rw[hs];rfl⟩
 ·(repeat' first|refine st ?_|refine sa fun xe hxe=>?_|refine sb (fun hq=>?_) fun hq=>?_|exact True.intro)
  rw[List.take_of_length_le (by omega)]
  exact⟨rfl,rfl⟩
theorem Hb (l:List Int)(n:Int)(hl:l.length≤1000):af Tryz.prog 151 [.lst (.int .i64) l,.int .i64 n] [] (.lst (.int .i64) (cH l n)) []:=by
 refine aa al Tryz.func151 rfl rfl true 0 4 rfl rfl rfl rfl fun K hK hb1 hb2=>?_;simp only[ae,enc,Nat.reduceAdd]
 clear hb1 hb2
 (repeat' first|refine st ?_|refine sa fun xe hxe=>?_|refine sb (fun hq=>?_) fun hq=>?_|exact True.intro)
 refine ab hK [] [0,1,5] (fun k:Nat=>⟨[(0,.lst (.int .i64) l),(1,.int .i64 n),(5,.int .i64 (k:Int))],[],4⟩) (fun k=>k≤l.length∧∀y∈l.take k,y<n) (fun k=>l.length-k) 0 ⟨by simp,by simp⟩ rfl ?_
 rintro k ⟨hk,hall⟩
 have hat:=xA (l:=l) (n:=n) (k:=k) hall hk
 have e1:fF l none (some (.int .i64 k)) 0 (k:Int).toNat=l.take k:=by simp[fF]
 have e2:fF l (some (.int .i64 k)) none (k:Int).toNat l.length=l.drop k:=by simp[fF]
 have hl1:(l.take k).length=k:=by rw[List.length_take];omega
 have hl2:(l.drop k).length=l.length-k:=List.length_drop ..
 by_cases hlt:k<l.length
 ·have hxe:l[k]?=some l[k]:=List.getElem?_eq_getElem hlt
  have hsn:l.take (k+1)=l.take k++[l[k]]:=List.take_succ_eq_append_getElem hlt
  generalize l[k]=x at *
  by_cases hx:x<n
  ·(repeat' first|refine st ?_|refine sa fun xe hxe=>?_|refine sb (fun hq=>?_) fun hq=>?_|exact True.intro)
   exact⟨k+1,⟨by omega,by rw[hsn];intro y hy;rcases List.mem_append.1 hy with h|h;exact hall y h;rw[List.mem_singleton.1 h];exact hx⟩,by omega,rfl⟩
  ·have hat:=hat fun y hy=>by rw[hxe] at hy;obtain rfl:=Option.some.inj hy;exact hx
   rw[hxe] at hat
   by_cases hxn:x=n
   ·rw[if_pos (by rw[hxn])] at hat
    rw[hat]
    (repeat' first|refine st ?_|refine sa fun xe hxe=>?_|refine sb (fun hq=>?_) fun hq=>?_|exact True.intro)
    exact⟨rfl,rfl⟩
   ·rw[if_neg (by simpa using hxn)] at hat
    rw[hat]
    (repeat' first|refine st ?_|refine sa fun xe hxe=>?_|refine sb (fun hq=>?_) fun hq=>?_|exact True.intro)
    rw[e1]
    refine eK ?_ ?_
    ·refine jZ (xs:=([]:List Int)) (ys:=l.take k) (by simp) (by omega) ?_;decide
    (conv=>whnf)
    (repeat' first|refine st ?_|refine sa fun xe hxe=>?_|refine sb (fun hq=>?_) fun hq=>?_|exact True.intro)
    rw[e2]
    refine eK ?_ ?_
    ·refine jZ (xs:=[]++l.take k++[n]) (ys:=l.drop k) (by rw[List.nil_append,List.length_append,List.length_singleton];omega) (by omega) ?_;decide
    (conv=>whnf)
    (repeat' first|refine st ?_|refine sa fun xe hxe=>?_|refine sb (fun hq=>?_) fun hq=>?_|exact True.intro)
    exact⟨rfl,rfl⟩
 ·obtain rfl:k=l.length:=by omega
  have hat:=hat fun y hy=>by rw[List.getElem?_eq_none (Nat.le_refl _)] at hy;cases hy
  rw[List.getElem?_eq_none (Nat.le_refl _),if_neg (by simp)] at hat
  rw[hat]
  (repeat' first|refine st ?_|refine sa fun xe hxe=>?_|refine sb (fun hq=>?_) fun hq=>?_|exact True.intro)
  rw[e1]
  refine eK ?_ ?_
  ·refine jZ (xs:=([]:List Int)) (ys:=l.take l.length) (by simp) (by omega) ?_;decide
  (conv=>whnf)
  (repeat' first|refine st ?_|refine sa fun xe hxe=>?_|refine sb (fun hq=>?_) fun hq=>?_|exact True.intro)
  rw[e2]
  refine eK ?_ ?_
  ·refine jZ (xs:=[]++l.take l.length++[n]) (ys:=l.drop l.length) (by rw[List.nil_append,List.length_append,List.length_singleton];omega) (by omega) ?_;decide
  (conv=>whnf)
  (repeat' first|refine st ?_|refine sa fun xe hxe=>?_|refine sb (fun hq=>?_) fun hq=>?_|exact True.intro)
  exact⟨rfl,rfl⟩
theorem kO (v:Vtx)(hl:v.parents.length≤1000000):af Tryz.prog 119 [bA v] [] (bA v) []:=by
 refine aa al Tryz.func119 rfl rfl true 0 4 rfl rfl rfl rfl fun K hK hb1 hb2=>?_;simp only[ae,enc,Nat.reduceAdd]
 clear hb1 hb2
 (repeat' first|refine st ?_|refine sa fun xe hxe=>?_|refine sb (fun hq=>?_) fun hq=>?_|exact True.intro)
 exact⟨rfl,rfl⟩
theorem ss (g:List Vtx)(hl:g.length≤1000)(hv:∀v∈g,v.parents.length≤1000000):af Tryz.prog 118 [.lst .vtx g] [] (.lst .vtx g) []:=by
 refine aa al Tryz.func118 rfl rfl true 0 4 rfl rfl rfl rfl fun K hK hb1 hb2=>?_;simp only[ae,enc,Nat.reduceAdd]
 clear hb1 hb2
 (repeat' first|refine st ?_|refine sa fun xe hxe=>?_|refine sb (fun hq=>?_) fun hq=>?_|exact True.intro)
 refine ab hK [] [0,3,4] (fun i:Nat=>⟨[(0,.lst .vtx g),(3,.ref 4),(4,.int .i64 (i:Int))],[(4,.row 48 .vtx (g.take i))],5⟩) (fun i=>i≤g.length) (fun i=>g.length-i) 0 (by simp) rfl ?_
 intro i hi
 by_cases hlt:i<g.length
 ·have hxe:g[i]?=some g[i]:=List.getElem?_eq_getElem hlt
  have hsn:g.take (i+1)=g.take i++[g[i]]:=List.take_succ_eq_append_getElem hlt
  have hvl:=hv _ (List.getElem_mem hlt)
  have hll:(g.take i).length=i:=by rw[List.length_take];omega
  generalize g[i]=v at *
  generalize g.take i=l at *
  (repeat' first|refine st ?_|refine sa fun xe hxe=>?_|refine sb (fun hq=>?_) fun hq=>?_|refine cr (kO _ hvl) ?_|exact True.intro)
  exact⟨i+1,by omega,by omega,by rw[hsn];rfl⟩
 ·(repeat' first|refine st ?_|refine sa fun xe hxe=>?_|refine sb (fun hq=>?_) fun hq=>?_|exact True.intro)
  rw[List.take_of_length_le (by omega)]
  exact⟨rfl,rfl⟩
theorem FY {g:List Vtx}{r a:Int}(h:cA g r a=false):mm g r a<0:=by
 have:=vz g r a
 simpa[h] using this
theorem G5 (g:List Vtx)(v:Vtx)(hl:g.length≤400)(hv:∀u∈g,u.parents.length≤1000000)(hvp:v.parents.length≤1000000)(hr:-1000000<v.round∧v.round<1000000)(h1:cA g v.round v.author=false)(h2:parOK g v=true):af Tryz.prog 150 [.lst .vtx g,bA v] [] (.tup [.lst .vtx (eu g v),.int .i64 0]) []:=by
 have hF:=rv g v.round v.author
 have hF2:=FY h1
 have hP:=dm g v hr
 rw[h2] at hP
 refine aa al Tryz.func150 rfl rfl true 0 4 rfl rfl rfl rfl fun K hK hb1 hb2=>?_;simp only[ae,enc,Nat.reduceAdd]
 clear hb1 hb2
 generalize mm g v.round v.author=fi at *
 (repeat' first|refine st ?_|refine sa fun xe hxe=>?_|refine sb (fun hq=>?_) fun hq=>?_|refine cr (hF) ?_|refine cr (hP) ?_|exact True.intro)
 refine ab hK [] [0,3,7,8] (fun k:Nat=>⟨[(0,.lst .vtx g),(3,.ptr 4 0),(7,.ref 5),(8,.int .i64 (k:Int))],[(4,.var 48 (bA v).cells),(5,.row 48 .vtx (g.take k))],6⟩) (fun k=>k≤g.length∧∀y∈g.take k,bef y v=true) (fun k=>g.length-k) 0 ⟨by simp,by simp⟩ rfl ?_
 rintro k ⟨hk,hall⟩
 have hat:=xB (g:=g) (v:=v) (k:=k) hall hk
 have hll:(g.take k).length=k:=by rw[List.length_take];omega
 have e2:fF g (some (.int .i64 k)) none (k:Int).toNat g.length=g.drop k:=by simp[fF]
 have hdl:(g.drop k).length=g.length-k:=List.length_drop ..
 have hC:=ss (g.drop k) (by omega) fun u hu=>hv u (List.mem_of_mem_drop hu)
 by_cases hlt:k<g.length
 ·have hxe:g[k]?=some g[k]:=List.getElem?_eq_getElem hlt
  have hsn:g.take (k+1)=g.take k++[g[k]]:=List.take_succ_eq_append_getElem hlt
  have hxl:=hv _ (List.getElem_mem hlt)
  generalize g[k]=x at *
  have hB:=kW x v
  cases hb:bef x v
  ·rw[hb] at hB
   have hat:=hat fun y hy=>by rw[hxe] at hy;obtain rfl:=Option.some.inj hy;exact hb
   rw[hat]
   generalize g.take k=lt at *
   (repeat' first|refine st ?_|refine sa fun xe hxe=>?_|refine sb (fun hq=>?_) fun hq=>?_|refine cr (hB) ?_|refine cr (kO _ hvp) ?_|exact True.intro)
   have e3:fF g (some (.int .i64 (lt.length:Int))) none (lt.length:Int).toNat g.length=g.drop k:=by rw[hll];exact e2
   rw[e3]
   (repeat' first|refine st ?_|refine sa fun xe hxe=>?_|refine sb (fun hq=>?_) fun hq=>?_|refine cr (hC) ?_|exact True.intro)
   exact⟨rfl,rfl⟩
  ·rw[hb] at hB
   generalize hlt2:g.take k=lt at *
   (repeat' first|refine st ?_|refine sa fun xe hxe=>?_|refine sb (fun hq=>?_) fun hq=>?_|refine cr (hB) ?_|refine cr (kO _ hxl) ?_|exact True.intro)
   exact⟨k+1,⟨by omega,by rw[hsn];exact aP hall hb⟩,by omega,by rw[hsn];rfl⟩
 ·have hat:=hat fun y hy=>by rw[List.getElem?_eq_none (by omega)] at hy;cases hy
  rw[hat]
  generalize g.take k=lt at *
  (repeat' first|refine st ?_|refine sa fun xe hxe=>?_|refine sb (fun hq=>?_) fun hq=>?_|refine cr (kO _ hvp) ?_|exact True.intro)
  have e3:fF g (some (.int .i64 (lt.length:Int))) none (lt.length:Int).toNat g.length=g.drop k:=by rw[hll];exact e2
  rw[e3]
  (repeat' first|refine st ?_|refine sa fun xe hxe=>?_|refine sb (fun hq=>?_) fun hq=>?_|refine cr (hC) ?_|exact True.intro)
  exact⟨rfl,rfl⟩
theorem Cf (w:Wrl)(m d:Int)(h:WOK w):af Tryz.prog 80 [ap w,.int .i64 m,.int .i64 d] [] (ap (ew w m d)) []:=by
 have hG:=su w m
 have hD:=ov d
 have hN:=EL w m (fun p hp=>(bc (h.pv p hp).1).1) (by have:=h.plen;omega)
 have hpl:=h.plen
 have hno:ga w m d=false→ew w m d=w:=fun h=>by simp[ew,h]
 refine aa al Tryz.func80 rfl rfl true 0 4 rfl rfl rfl rfl fun K hK hb1 hb2=>?_;simp only[ae,enc,Nat.reduceAdd]
 clear hb1 hb2
 cases h1:good w m
 ·rw[h1] at hG
  rw[hno (by simp[ga,h1])]
  (repeat' first|refine st ?_|refine sa fun xe hxe=>?_|refine sb (fun hq=>?_) fun hq=>?_|refine cr (hG) ?_|exact True.intro)
  exact⟨rfl,rfl⟩
 rw[h1] at hG
 cases h2:gM d 0 990
 ·rw[h2] at hD
  rw[hno (by simp[ga,h2])]
  (repeat' first|refine st ?_|refine sa fun xe hxe=>?_|refine sb (fun hq=>?_) fun hq=>?_|refine cr (hG) ?_|refine cr (hD) ?_|exact True.intro)
  exact⟨rfl,rfl⟩
 rw[h2] at hD
 by_cases h3:w.props.length<220
 rotate_left
 ·rw[hno (by simp[ga,h3])]
  (repeat' first|refine st ?_|refine sa fun xe hxe=>?_|refine sb (fun hq=>?_) fun hq=>?_|refine cr (hG) ?_|refine cr (hD) ?_|exact True.intro)
  exact⟨rfl,rfl⟩
 obtain⟨hx,hvm,hml⟩:=h.view h1
 have hgo:=cP (h.gra _ hvm)
 have hvl:=h.vl _ hvm
 have hgr:=cZ.1 h1
 have hvlen:=h.vlen
 have hH:=HW w.com (view w m) hgo (by omega)
 have hhb:=lm w.com (view w m) 31
 have hhb:-1≤fv w.com (view w m)∧fv w.com (view w m)<31:=hhb
 have hnb:=Bu (ps:=w.props) (m:=m) fun p hp=>(bc (h.pv p hp).1).1
 have hB:ga w m d=(decide (jd w.props m≤(fg w m d).round) && vtxS w.com (fg w m d)):=by simp[ga,h1,h2,h3]
 by_cases h4:0<fv w.com (view w m)+1
 ·have hA:=va (view w m) (fv w.com (view w m)+1-1) (by omega)
  have hv:fg w m d=⟨fv w.com (view w m)+1,m,dJ (view w m) (fv w.com (view w m)+1-1),d⟩:=by
   rw[fg,if_pos h4,show fv w.com (view w m)+1-1=fv w.com (view w m) by omega]
  have hV:=kv w.com (fg w m d) h.com
  rw[hv] at hV hB
  have hadd:ga w m d=true→ew w m d=kT w ⟨fv w.com (view w m)+1,m,dJ (view w m) (fv w.com (view w m)+1-1),d⟩:=fun hb=>by simp only[ew,hb,if_true,hv]
  generalize dJ (view w m) (fv w.com (view w m)+1-1)=au at *
  generalize fv w.com (view w m)=hh at *
  generalize view w m=g at *
  by_cases h5:jd w.props m≤hh+1
  rotate_left
  ·rw[hno (by rw[hB];simp[h5])]
   generalize jd w.props m=nn at *
   (repeat' first|refine st ?_|refine sa fun xe hxe=>?_|refine sb (fun hq=>?_) fun hq=>?_|refine cr (hG) ?_|refine cr (hD) ?_|refine cr (hH) ?_|refine cr (hA) ?_|refine cr (hN) ?_|refine cr (hV) ?_|exact True.intro)
   exact⟨rfl,rfl⟩
  cases h6:vtxS w.com ⟨hh+1,m,au,d⟩
  ·rw[h6] at hV
   rw[hno (by rw[hB,h6,Bool.and_false])]
   generalize jd w.props m=nn at *
   (repeat' first|refine st ?_|refine sa fun xe hxe=>?_|refine sb (fun hq=>?_) fun hq=>?_|refine cr (hG) ?_|refine cr (hD) ?_|refine cr (hH) ?_|refine cr (hA) ?_|refine cr (hN) ?_|refine cr (hV) ?_|exact True.intro)
   exact⟨rfl,rfl⟩
  ·rw[h6] at hV
   rw[hadd (by rw[hB,h6];simpa using h5)]
   generalize jd w.props m=nn at *
   (repeat' first|refine st ?_|refine sa fun xe hxe=>?_|refine sb (fun hq=>?_) fun hq=>?_|refine cr (hG) ?_|refine cr (hD) ?_|refine cr (hH) ?_|refine cr (hA) ?_|refine cr (hN) ?_|refine cr (hV) ?_|exact True.intro)
   exact⟨rfl,rfl⟩
 ·have hv:fg w m d=⟨fv w.com (view w m)+1,m,[],d⟩:=by rw[fg,if_neg h4]
  have hV:=kv w.com (fg w m d) h.com
  rw[hv] at hV hB
  have hadd:ga w m d=true→ew w m d=kT w ⟨fv w.com (view w m)+1,m,[],d⟩:=fun hb=>by simp only[ew,hb,if_true,hv]
  generalize fv w.com (view w m)=hh at *
  generalize view w m=g at *
  by_cases h5:jd w.props m≤hh+1
  rotate_left
  ·rw[hno (by rw[hB];simp[h5])]
   generalize jd w.props m=nn at *
   (repeat' first|refine st ?_|refine sa fun xe hxe=>?_|refine sb (fun hq=>?_) fun hq=>?_|refine cr (hG) ?_|refine cr (hD) ?_|refine cr (hH) ?_|refine cr (hN) ?_|refine cr (hV) ?_|exact True.intro)
   exact⟨rfl,rfl⟩
  cases h6:vtxS w.com ⟨hh+1,m,[],d⟩
  ·rw[h6] at hV
   rw[hno (by rw[hB,h6,Bool.and_false])]
   generalize jd w.props m=nn at *
   (repeat' first|refine st ?_|refine sa fun xe hxe=>?_|refine sb (fun hq=>?_) fun hq=>?_|refine cr (hG) ?_|refine cr (hD) ?_|refine cr (hH) ?_|refine cr (hN) ?_|refine cr (hV) ?_|exact True.intro)
   exact⟨rfl,rfl⟩
  ·rw[h6] at hV
   rw[hadd (by rw[hB,h6];simpa using h5)]
   generalize jd w.props m=nn at *
   (repeat' first|refine st ?_|refine sa fun xe hxe=>?_|refine sb (fun hq=>?_) fun hq=>?_|refine cr (hG) ?_|refine cr (hD) ?_|refine cr (hH) ?_|refine cr (hN) ?_|refine cr (hV) ?_|exact True.intro)
   exact⟨rfl,rfl⟩
theorem B6 (w:Wrl)(i m:Int)(h:WOK w)(hi:m8 w i=true):af Tryz.prog 100 [ap w,.int .i64 i,.int .i64 m] [] (ap (gG w i m)) []:=by
 obtain⟨hl,hx,hp⟩:=gk hi
 have hpl:=h.plen
 have hir:=ar.1 hi
 have hI:=Hb (ay w i).members m (by have:=h.mem _ hp;omega)
 have hs:gG w i m={w with props:=w.props.set i.toNat ⟨(ay w i).v,cH (ay w i).members m⟩}:=rfl
 rw[hs]
 refine aa al Tryz.func100 rfl rfl true 0 4 rfl rfl rfl rfl fun K hK hb1 hb2=>?_;simp only[ae,enc,Nat.reduceAdd]
 clear hb1 hb2
 generalize ay w i=p at *
 generalize cH p.members m=ms at *
 (repeat' first|refine st ?_|refine sa fun xe hxe=>?_|refine sb (fun hq=>?_) fun hq=>?_|exact True.intro)
 obtain rfl:xe=p:=Option.some.inj (hxe.symm.trans hx)
 (repeat' first|refine st ?_|refine sa fun xe hxe=>?_|refine sb (fun hq=>?_) fun hq=>?_|refine cr (hI) ?_|exact True.intro)
 exact⟨rfl,rfl⟩
theorem Cl (w:Wrl)(m i:Int)(h:WOK w):af Tryz.prog 97 [ap w,.int .i64 m,.int .i64 i] [] (ap (eR w m i)) []:=by
 have hG:=su w m
 have hI:=kG i 0 ((w.props.length:Int)-1)
 have hpl:=h.plen
 have hno:fX w m i=false→eR w m i=w:=fun h=>by simp[eR,h]
 refine aa al Tryz.func97 rfl rfl true 0 4 rfl rfl rfl rfl fun K hK hb1 hb2=>?_;simp only[ae,enc,Nat.reduceAdd]
 clear hb1 hb2
 cases h1:good w m
 ·rw[h1] at hG
  rw[hno (by simp[fX,h1])]
  (repeat' first|refine st ?_|refine sa fun xe hxe=>?_|refine sb (fun hq=>?_) fun hq=>?_|refine cr (hG) ?_|exact True.intro)
  exact⟨rfl,rfl⟩
 rw[h1] at hG
 cases h2:gM i 0 ((w.props.length:Int)-1)
 ·rw[h2] at hI
  rw[hno (by simp[fX,m8,h2])]
  (repeat' first|refine st ?_|refine sa fun xe hxe=>?_|refine sb (fun hq=>?_) fun hq=>?_|refine cr (hG) ?_|refine cr (hI) ?_|exact True.intro)
  exact⟨rfl,rfl⟩
 rw[h2] at hI
 have h2':m8 w i=true:=h2
 obtain⟨hl,hx,hp⟩:=gk h2'
 have hir:=ar.1 h2
 have Hx:=h.pv _ hp
 have hrd:=n5 Hx.1
 obtain⟨hgx,hvm,hml⟩:=h.view h1
 have hgr:=cZ.1 h1
 have hvlen:=h.vlen
 have hB:fX w m i=(!C2 w m i && parOK (view w m) (ay w i).v):=by simp[fX,h1,h2']
 have hP:=dm (view w m) (ay w i).v hrd
 have hC:=B6 w i m h h2'
 have hyes:fX w m i=true→eR w m i=gG w i m:=fun h=>by simp[eR,h]
 have hdbl:C2 w m i=(List.range w.props.length).any fun j=>(j:Int) !=i && (slt (w.props.getD j p0).v (ay w i).v && (w.props.getD j p0).members.contains m):=rfl
 generalize ay w i=p at *
 (repeat' first|refine st ?_|refine sa fun xe hxe=>?_|refine sb (fun hq=>?_) fun hq=>?_|refine cr (hG) ?_|refine cr (hI) ?_|exact True.intro)
 refine ab hK [] [1,2,3,6,7,8] (fun j:Nat=>⟨[(1,.int .i64 m),(2,.int .i64 i),(3,.ptr 4 0),(6,.ptr 5 0),(7,.ptr 6 0),(8,.int .i64 (j:Int))],[(4,.var 33 (ap w).cells),(5,.var 33 [.nils,.nils,.int .i64 0,.nils,.nils]),(6,.var 48 (bA p.v).cells)],7⟩)
  (fun j=>j≤w.props.length∧∀k,k<j→((k:Int) !=i && (slt (w.props.getD k p0).v p.v && (w.props.getD k p0).members.contains m))=false) (fun j=>w.props.length-j) 0 ⟨by simp,by simp⟩ rfl ?_
 rintro j ⟨hj,hall⟩
 by_cases hlt:j<w.props.length
 ·have hxq:w.props[j]?=some (w.props.getD j p0):=by rw[List.getD_eq_getElem?_getD,List.getElem?_eq_getElem hlt];rfl
  have hqm:w.props.getD j p0∈w.props:=du hlt
  have hyes2:((j:Int) !=i && (slt (w.props.getD j p0).v p.v && (w.props.getD j p0).members.contains m))=true→C2 w m i=true:=fun hh=>by rw[hdbl];exact List.any_eq_true.2 ⟨j,List.mem_range.2 hlt,hh⟩
  have hno2:((j:Int) !=i && (slt (w.props.getD j p0).v p.v && (w.props.getD j p0).members.contains m))=false→∀k,k<j+1→((k:Int) !=i && (slt (w.props.getD k p0).v p.v && (w.props.getD k p0).members.contains m))=false:=fun hh k hk=>by
   rcases Nat.lt_or_ge k j with h5|h5
   ·exact hall k h5
   ·obtain rfl:k=j:=by omega
    exact hh
  generalize w.props.getD j p0=q at *
  have hS:=Cg q.v p.v
  have hH:=AO q.members m
  by_cases h3:(j:Int)=i
  ·(repeat' first|refine st ?_|refine sa fun xe hxe=>?_|refine sb (fun hq=>?_) fun hq=>?_|refine cr (hS) ?_|refine cr (hH) ?_|exact True.intro)
   exact⟨j+1,⟨by omega,hno2 (by simp[h3])⟩,by omega,rfl⟩
  cases h4:slt q.v p.v
  ·rw[h4] at hS
   (repeat' first|refine st ?_|refine sa fun xe hxe=>?_|refine sb (fun hq=>?_) fun hq=>?_|refine cr (hS) ?_|refine cr (hH) ?_|exact True.intro)
   exact⟨j+1,⟨by omega,hno2 (by simp[h4])⟩,by omega,rfl⟩
  rw[h4] at hS
  cases h5:q.members.contains m
  ·rw[h5] at hH
   (repeat' first|refine st ?_|refine sa fun xe hxe=>?_|refine sb (fun hq=>?_) fun hq=>?_|refine cr (hS) ?_|refine cr (hH) ?_|exact True.intro)
   exact⟨j+1,⟨by omega,hno2 (by rw[h5,Bool.and_false,Bool.and_false])⟩,by omega,rfl⟩
  ·rw[h5] at hH
   rw[hno (by rw[hB,hyes2 (by rw[h4,h5];simpa using h3)];rfl)]
   (repeat' first|refine st ?_|refine sa fun xe hxe=>?_|refine sb (fun hq=>?_) fun hq=>?_|refine cr (hS) ?_|refine cr (hH) ?_|exact True.intro)
   exact⟨rfl,rfl⟩
 ·have hnd:C2 w m i=false:=by
   rw[hdbl,Bool.eq_false_iff]
   intro hh
   obtain⟨k,hk,hh⟩:=List.any_eq_true.1 hh
   rw[hall k (by have:=List.mem_range.1 hk;omega)] at hh
   cases hh
  rw[hnd] at hB
  generalize view w m=g at *
  cases h6:parOK g p.v
  ·rw[h6] at hP hB
   rw[hno hB]
   (repeat' first|refine st ?_|refine sa fun xe hxe=>?_|refine sb (fun hq=>?_) fun hq=>?_|refine cr (hP) ?_|exact True.intro)
   exact⟨rfl,rfl⟩
  ·rw[h6] at hP hB
   rw[hyes hB]
   (repeat' first|refine st ?_|refine sa fun xe hxe=>?_|refine sb (fun hq=>?_) fun hq=>?_|refine cr (hP) ?_|refine cr (hC) ?_|exact True.intro)
   exact⟨rfl,rfl⟩
theorem B7 (w:Wrl)(m i:Int)(h:WOK w):af Tryz.prog 98 [ap w,.int .i64 m,.int .i64 i] [] (ap (bJ w m i)) []:=by
 have hG:=su w m
 have hI:=kG i 0 ((w.props.length:Int)-1)
 have hpl:=h.plen
 have hno:cG w m i=false→bJ w m i=w:=fun h=>by simp[bJ,h]
 refine aa al Tryz.func98 rfl rfl true 0 4 rfl rfl rfl rfl fun K hK hb1 hb2=>?_;simp only[ae,enc,Nat.reduceAdd]
 clear hb1 hb2
 cases h1:good w m
 ·rw[h1] at hG
  rw[hno (by simp[cG,h1])]
  (repeat' first|refine st ?_|refine sa fun xe hxe=>?_|refine sb (fun hq=>?_) fun hq=>?_|refine cr (hG) ?_|exact True.intro)
  exact⟨rfl,rfl⟩
 rw[h1] at hG
 cases h2:gM i 0 ((w.props.length:Int)-1)
 ·rw[h2] at hI
  rw[hno (by simp[cG,m8,h2])]
  (repeat' first|refine st ?_|refine sa fun xe hxe=>?_|refine sb (fun hq=>?_) fun hq=>?_|refine cr (hG) ?_|refine cr (hI) ?_|exact True.intro)
  exact⟨rfl,rfl⟩
 rw[h2] at hI
 have h2':m8 w i=true:=h2
 obtain⟨hl,hx,hp⟩:=gk h2'
 have hir:=ar.1 h2
 have Hx:=h.pv _ hp
 have hrd:=n5 Hx.1
 obtain⟨hgx,hvm,hml⟩:=h.view h1
 have hgr:=cZ.1 h1
 have hvlen:=h.vlen
 have h7:=h.len
 have hDn:=x8 w (ay w i) h.com Hx.2
 have hB:cG w m i=(don w.com (ay w i) && (!cA (view w m) (ay w i).v.round (ay w i).v.author && parOK (view w m) (ay w i).v)):=by simp[cG,h1,h2']
 have hyes:cG w m i=true→bJ w m i={w with views:=w.views.set m.toNat (eu (view w m) (ay w i).v)}:=fun h=>by simp[bJ,h]
 have hF:=rv (view w m) (ay w i).v.round (ay w i).v.author
 have hFl:=vz (view w m) (ay w i).v.round (ay w i).v.author
 have hP:=dm (view w m) (ay w i).v hrd
 have hAd:=G5 (view w m) (ay w i).v (by have:=h.vl _ hvm;omega) (fun u hu=>by have:=h.par (h.vv _ hvm u hu);omega) (by have:=h.par Hx.1;omega) hrd
 cases h3:don w.com (ay w i)
 ·rw[h3] at hDn
  rw[hno (by rw[hB,h3];rfl)]
  generalize ay w i=p at *
  (repeat' first|refine st ?_|refine sa fun xe hxe=>?_|refine sb (fun hq=>?_) fun hq=>?_|refine cr (hG) ?_|refine cr (hI) ?_|refine cr (hDn) ?_|exact True.intro)
  exact⟨rfl,rfl⟩
 rw[h3] at hDn
 generalize ay w i=p at *
 generalize view w m=g at *
 cases h4:cA g p.v.round p.v.author
 rotate_left
 ·have hFl:¬mm g p.v.round p.v.author<0:=by simpa[h4] using hFl
  rw[hno (by rw[hB,h3,h4];rfl)]
  generalize mm g p.v.round p.v.author=fi at *
  (repeat' first|refine st ?_|refine sa fun xe hxe=>?_|refine sb (fun hq=>?_) fun hq=>?_|refine cr (hG) ?_|refine cr (hI) ?_|refine cr (hDn) ?_|refine cr (hF) ?_|exact True.intro)
  exact⟨rfl,rfl⟩
 have hFl:mm g p.v.round p.v.author<0:=by simpa[h4] using hFl
 generalize mm g p.v.round p.v.author=fi at *
 cases h5:parOK g p.v
 ·rw[h5] at hP
  rw[hno (by rw[hB,h3,h4,h5];rfl)]
  (repeat' first|refine st ?_|refine sa fun xe hxe=>?_|refine sb (fun hq=>?_) fun hq=>?_|refine cr (hG) ?_|refine cr (hI) ?_|refine cr (hDn) ?_|refine cr (hF) ?_|refine cr (hP) ?_|exact True.intro)
  exact⟨rfl,rfl⟩
 rw[h5] at hP
 rw[hyes (by rw[hB,h3,h4,h5];rfl)]
 have hAd:=hAd h4 h5
 generalize eu g p.v=g2 at *
 (repeat' first|refine st ?_|refine sa fun xe hxe=>?_|refine sb (fun hq=>?_) fun hq=>?_|refine cr (hG) ?_|refine cr (hI) ?_|refine cr (hDn) ?_|refine cr (hF) ?_|refine cr (hP) ?_|refine cr (hAd) ?_|exact True.intro)
 exact⟨rfl,rfl⟩
theorem G8 (w:Wrl)(v:Vtx)(h:WOK w)(hvl:v.parents.length≤1000000):af Tryz.prog 99 [ap w,bA v] [] (ap (lI w v)) []:=by
 have hpl:=h.plen
 have hno:fZ w v=false→lI w v=w:=fun h=>by simp[lI,h]
 have hyes:fZ w v=true→lI w v=kT w v:=fun h=>by simp[lI,h]
 have hV:=kv w.com v h.com
 refine aa al Tryz.func99 rfl rfl true 0 4 rfl rfl rfl rfl fun K hK hb1 hb2=>?_;simp only[ae,enc,Nat.reduceAdd]
 clear hb1 hb2
 by_cases h1:w.bad<0
 ·rw[hno (by simp[fZ];intro h9;omega)]
  (repeat' first|refine st ?_|refine sa fun xe hxe=>?_|refine sb (fun hq=>?_) fun hq=>?_|refine cr (hV) ?_|exact True.intro)
  exact⟨rfl,rfl⟩
 by_cases h2:v.author=w.bad
 rotate_left
 ·rw[hno (by simp[fZ,h2])]
  (repeat' first|refine st ?_|refine sa fun xe hxe=>?_|refine sb (fun hq=>?_) fun hq=>?_|refine cr (hV) ?_|exact True.intro)
  exact⟨rfl,rfl⟩
 cases h3:vtxS w.com v
 ·rw[h3] at hV
  rw[hno (by simp[fZ,h3])]
  (repeat' first|refine st ?_|refine sa fun xe hxe=>?_|refine sb (fun hq=>?_) fun hq=>?_|refine cr (hV) ?_|exact True.intro)
  exact⟨rfl,rfl⟩
 rw[h3] at hV
 by_cases h4:w.props.length<220
 rotate_left
 ·rw[hno (by simp[fZ,h4])]
  (repeat' first|refine st ?_|refine sa fun xe hxe=>?_|refine sb (fun hq=>?_) fun hq=>?_|refine cr (hV) ?_|exact True.intro)
  exact⟨rfl,rfl⟩
 have hB:fZ w v= !w.props.any fun p=>gL p.v v:=by
  have:(0:Int)≤w.bad:=by omega
  simp[fZ,this,h2,h3,h4]
 (repeat' first|refine st ?_|refine sa fun xe hxe=>?_|refine sb (fun hq=>?_) fun hq=>?_|refine cr (hV) ?_|exact True.intro)
 refine ab hK [] [2,3,4,5] (fun j:Nat=>⟨[(2,.ptr 4 0),(3,.ptr 5 0),(4,.ptr 6 0),(5,.int .i64 (j:Int))],[(4,.var 33 (ap w).cells),(5,.var 48 (bA v).cells),(6,.var 33 [.nils,.nils,.int .i64 0,.nils,.nils])],7⟩)
  (fun j=>j≤w.props.length∧∀p∈w.props.take j,gL p.v v=false) (fun j=>w.props.length-j) 0 ⟨by simp,by simp⟩ rfl ?_
 rintro j ⟨hj,hall⟩
 by_cases hlt:j<w.props.length
 ·have hxq:w.props[j]?=some w.props[j]:=List.getElem?_eq_getElem hlt
  have hsn:w.props.take (j+1)=w.props.take j++[w.props[j]]:=List.take_succ_eq_append_getElem hlt
  have hqm:w.props[j]∈w.props:=List.getElem_mem hlt
  generalize w.props[j]=q at *
  have hS:=wm q.v v
  cases h5:gL q.v v
  ·rw[h5] at hS
   (repeat' first|refine st ?_|refine sa fun xe hxe=>?_|refine sb (fun hq=>?_) fun hq=>?_|refine cr (hS) ?_|exact True.intro)
   exact⟨j+1,⟨by omega,by rw[hsn];exact aP hall h5⟩,by omega,rfl⟩
  ·rw[h5] at hS
   have:(w.props.any fun p=>gL p.v v)=true:=List.any_eq_true.2 ⟨q,hqm,h5⟩
   rw[hno (by rw[hB,this];rfl)]
   (repeat' first|refine st ?_|refine sa fun xe hxe=>?_|refine sb (fun hq=>?_) fun hq=>?_|refine cr (hS) ?_|exact True.intro)
   exact⟨rfl,rfl⟩
 ·rw[List.take_of_length_le (by omega)] at hall
  have:(w.props.any fun p=>gL p.v v)=false:=by
   rw[Bool.eq_false_iff]
   intro hh
   obtain⟨p,hp,hh⟩:=List.any_eq_true.1 hh
   rw[hall p hp] at hh
   cases hh
  rw[hyes (by rw[hB,this];rfl)]
  (repeat' first|refine st ?_|refine sa fun xe hxe=>?_|refine sb (fun hq=>?_) fun hq=>?_|refine cr (kO _ hvl) ?_|exact True.intro)
  exact⟨rfl,rfl⟩
abbrev lh (e:Evt):V:=.agg [.int .i64 e.kind,.int .i64 e.a,.int .i64 e.b,.int .i64 e.v.round,.int .i64 e.v.author,.lst (.int .i64) e.v.parents,.int .i64 e.v.digest]
theorem B8 (w:Wrl)(e:Evt)(h:WOK w)(hvl:e.v.parents.length≤1000000):af Tryz.prog 56 [ap w,lh e] [] (ap (dG w e)) []:=by
 have hpl:=h.plen
 have h1:=Cf w e.a e.b h
 have h2:=Cl w e.a e.b h
 have h3:=B7 w e.a e.b h
 have h4:=G8 w e.v h hvl
 have hI:=kG e.b 0 ((w.props.length:Int)-1)
 refine aa al Tryz.func56 rfl rfl true 0 4 rfl rfl rfl rfl fun K hK hb1 hb2=>?_;simp only[ae,enc,Nat.reduceAdd]
 clear hb1 hb2
 unfold dG
 by_cases k1:e.kind=1
 ·rw[if_pos k1]
  generalize ew w e.a e.b=w' at *
  (repeat' first|refine st ?_|refine sa fun xe hxe=>?_|refine sb (fun hq=>?_) fun hq=>?_|refine cr (h1) ?_|exact True.intro)
  exact⟨rfl,rfl⟩
 by_cases k2:e.kind=2
 ·rw[if_neg k1,if_pos k2]
  generalize eR w e.a e.b=w' at *
  (repeat' first|refine st ?_|refine sa fun xe hxe=>?_|refine sb (fun hq=>?_) fun hq=>?_|refine cr (h2) ?_|exact True.intro)
  exact⟨rfl,rfl⟩
 by_cases k3:e.kind=3
 ·rw[if_neg k1,if_neg k2,if_pos k3]
  generalize bJ w e.a e.b=w' at *
  (repeat' first|refine st ?_|refine sa fun xe hxe=>?_|refine sb (fun hq=>?_) fun hq=>?_|refine cr (h3) ?_|exact True.intro)
  exact⟨rfl,rfl⟩
 by_cases k4:e.kind=4
 ·rw[if_neg k1,if_neg k2,if_neg k3,if_pos k4]
  generalize lI w e.v=w' at *
  (repeat' first|refine st ?_|refine sa fun xe hxe=>?_|refine sb (fun hq=>?_) fun hq=>?_|refine cr (h4) ?_|exact True.intro)
  exact⟨rfl,rfl⟩
 by_cases k5:e.kind=5
 ·rw[if_neg k1,if_neg k2,if_neg k3,if_neg k4,if_pos k5]
  by_cases h6:0≤w.bad
  ·cases h7:gM e.b 0 ((w.props.length:Int)-1)
   ·rw[h7] at hI
    have:iS w e.b=w:=by simp[iS,ja,m8,h7]
    rw[this]
    (repeat' first|refine st ?_|refine sa fun xe hxe=>?_|refine sb (fun hq=>?_) fun hq=>?_|refine cr (hI) ?_|exact True.intro)
    exact⟨rfl,rfl⟩
   ·rw[h7] at hI
    have h7':m8 w e.b=true:=h7
    have:iS w e.b=gG w e.b w.bad:=by simp[iS,ja,h7',h6]
    rw[this]
    have h5:=B6 w e.b w.bad h h7'
    generalize gG w e.b w.bad=w' at *
    (repeat' first|refine st ?_|refine sa fun xe hxe=>?_|refine sb (fun hq=>?_) fun hq=>?_|refine cr (hI) ?_|refine cr (h5) ?_|exact True.intro)
    exact⟨rfl,rfl⟩
  ·have:iS w e.b=w:=by simp[iS,ja,h6]
   rw[this]
   (repeat' first|refine st ?_|refine sa fun xe hxe=>?_|refine sb (fun hq=>?_) fun hq=>?_|refine cr (hI) ?_|exact True.intro)
   exact⟨rfl,rfl⟩
 ·rw[if_neg k1,if_neg k2,if_neg k3,if_neg k4,if_neg k5]
  (repeat' first|refine st ?_|refine sa fun xe hxe=>?_|refine sb (fun hq=>?_) fun hq=>?_|exact True.intro)
  exact⟨rfl,rfl⟩
theorem xz (c l:List Int)(b:Int)(tabs:List (List (Option Vtx)))(xss:List (Option (List Int)))(ms:List PplM):af Tryz.prog 109 [.ptr 4 0] (rX 0 c l b tabs xss ms) (.tup []) (rX 1 c l b tabs xss ms):=by
 have h:=yy Br (h:=rX 0 c l b tabs xss ms) (T:=112) (cs:=[.int .u32 0,.lst (.int .i64) c,.lst (.int .i64) l,.int .i64 b,.ref 5,.ref 6]) rfl
 exact h
set_option maxHeartbeats 1000000 in
theorem dE (c l:List Int)(b:Int)(tabs tabs':List (List (Option Vtx)))(xss xss':List (Option (List Int)))(ms ms':List PplM)(e:Evt)(r:Bool)(ht:tabs.length≤tabs'.length)(hx:xss.length≤xss'.length)
  (h1:e.kind=1→af Tryz.prog 111 [.ptr 4 0,.int .i64 e.a,.int .i64 e.b] (rX 1 c l b tabs xss ms) (.bool r) (rX 1 c l b tabs' xss' ms'))
  (h2:e.kind=2→af Tryz.prog 112 [.ptr 4 0,.int .i64 e.a,.int .i64 e.b] (rX 1 c l b tabs xss ms) (.bool r) (rX 1 c l b tabs' xss' ms'))
  (h3:e.kind=3→af Tryz.prog 113 [.ptr 4 0,.int .i64 e.a,.int .i64 e.b] (rX 1 c l b tabs xss ms) (.bool r) (rX 1 c l b tabs' xss' ms'))
  (h4:e.kind=4→af Tryz.prog 114 [.ptr 4 0,bA e.v] (rX 1 c l b tabs xss ms) (.bool r) (rX 1 c l b tabs' xss' ms'))
  (h5:e.kind=5→af Tryz.prog 115 [.ptr 4 0,.int .i64 e.b] (rX 1 c l b tabs xss ms) (.bool r) (rX 1 c l b tabs' xss' ms'))
  (h6:¬(1≤e.kind∧e.kind≤5)→r=false∧tabs'=tabs∧xss'=xss∧ms'=ms):af Tryz.prog 58 [.ptr 4 0,lh e] (rX 0 c l b tabs xss ms) (.bool r) (rX 0 c l b tabs' xss' ms'):=by
 refine w5 Br aS Tryz.func58 rfl rfl false 3 7 rfl rfl rfl rfl (by exact Live.of_look (am (i:=0) (x:=.var 112 [.int .i32 0,.int .u32 0,.lst (.int .i64) c,.lst (.int .i64) l,.int .i64 b,.ref 5,.ref 6]) rfl rfl)) fun K hK hK4 hb1 hb2=>?_;simp only[ae,enc,Nat.reduceAdd]
 clear hb1 hb2
 have hL:=xz c l b tabs xss ms
 have hF0:aF (VB.fvari 190 217 (.ob .vtx) tabs)≤aF (VB.fvari 190 217 (.ob .vtx) tabs'):=ht
 have hF1:aF (VB.frowx 3 (.int .i64) xss)≤aF (VB.frowx 3 (.int .i64) xss'):=hx
 refine nl ?_
 (repeat' first|refine a9 ?_|refine sa fun xe hxe=>?_|refine sb (fun hq=>?_) fun hq=>?_|exact True.intro)
 refine⟨rfl,nl ?_⟩
 (repeat' first|refine a9 ?_|refine sa fun xe hxe=>?_|refine sb (fun hq=>?_) fun hq=>?_|refine cr (hL) ?_|exact True.intro)
 refine⟨rfl,s0 ?_⟩
 refine wT aS (l:=[_,_,_]) (od:=_) rfl ⟨rfl,rfl,rfl⟩ (by decide) ?_
 (conv=>whnf)
 (repeat' first|refine a9 ?_|refine sa fun xe hxe=>?_|refine sb (fun hq=>?_) fun hq=>?_|exact True.intro)
 refine⟨rfl,hK4,rfl,?_⟩
 by_cases c1:e.kind=1
 ·have h:=h1 c1
  (repeat' first|refine a9 ?_|refine sa fun xe hxe=>?_|refine sb (fun hq=>?_) fun hq=>?_|refine cr (h) ?_|exact True.intro)
  exact⟨rfl,rfl⟩
 ·by_cases c2:e.kind=2
  ·have h:=h2 c2
   (repeat' first|refine a9 ?_|refine sa fun xe hxe=>?_|refine sb (fun hq=>?_) fun hq=>?_|refine cr (h) ?_|exact True.intro)
   exact⟨rfl,rfl⟩
  ·by_cases c3:e.kind=3
   ·have h:=h3 c3
    (repeat' first|refine a9 ?_|refine sa fun xe hxe=>?_|refine sb (fun hq=>?_) fun hq=>?_|refine cr (h) ?_|exact True.intro)
    exact⟨rfl,rfl⟩
   ·by_cases c4:e.kind=4
    ·have h:=h4 c4
     (repeat' first|refine a9 ?_|refine sa fun xe hxe=>?_|refine sb (fun hq=>?_) fun hq=>?_|refine cr (h) ?_|exact True.intro)
     exact⟨rfl,rfl⟩
    ·by_cases c5:e.kind=5
     ·have h:=h5 c5
      (repeat' first|refine a9 ?_|refine sa fun xe hxe=>?_|refine sb (fun hq=>?_) fun hq=>?_|refine cr (h) ?_|exact True.intro)
      exact⟨rfl,rfl⟩
     ·obtain⟨rfl,rfl,rfl,rfl⟩:=h6 (by omega)
      (repeat' first|refine a9 ?_|refine sa fun xe hxe=>?_|refine sb (fun hq=>?_) fun hq=>?_|exact True.intro)
      exact⟨rfl,rfl⟩
theorem Gg (ps:List Ppl)(xss:List (Option (List Int)))(ms:List PplM)(hR:Rel ps xss ms)(hv:∀p∈ps,p.v.parents.length≤1000000∧p.members.length≤1000000)(hl:ps.length≤1000000):af Tryz.prog 107 [.ref 4] [(1,.frowx 3 (.int .i64) xss),(4,.row 50 (.pplm 1) ms)] (.lst .ppl ps) [(1,.frowx 3 (.int .i64) xss),(4,.row 50 (.pplm 1) ms)]:=by
 refine aa al Tryz.func107 rfl rfl true 1 5 rfl rfl rfl rfl fun K hK hb1 hb2=>?_;simp only[ae,enc,Nat.reduceAdd]
 clear hb1 hb2
 have hpl:=hR.len
 (repeat' first|refine st ?_|refine sa fun xe hxe=>?_|refine sb (fun hq=>?_) fun hq=>?_|exact True.intro)
 refine ab hK [] [3,9,10,11] (fun i:Nat=>⟨[(3,.ref 5),(9,.ref 4),(10,.int .i64 ps.length),(11,.int .i64 (i:Int))],[(1,.frowx 3 (.int .i64) xss),(4,.row 50 (.pplm 1) ms),(5,.row 50 .ppl (ps.take i++(List.replicate ps.length p0).drop i))],6⟩) (fun i=>i≤ps.length) (fun i=>ps.length-i) 0 (by simp) (by simp only[hpl];simp;rfl) ?_
 intro i hi
 by_cases hlt:i<ps.length
 ·have hxe:ps[i]?=some ps[i]:=List.getElem?_eq_getElem hlt
  have hg:i<(ps.take i++(List.replicate ps.length p0).drop i).length:=BM _ _ (by simp;omega) (by simpa using hlt)
  have hs:(ps.take i++(List.replicate ps.length p0).drop i).set i ps[i]=ps.take (i+1)++(List.replicate ps.length p0).drop (i+1):=by
   rw[Cb _ _ _ (by simp;omega) (by simpa using hlt),List.take_succ_eq_append_getElem hlt]
  obtain⟨v1,v2⟩:=hv _ (List.getElem_mem hlt)
  obtain⟨j,hx1,hx2⟩:=hR.get i _ hxe
  generalize hrow:ps.take i++(List.replicate ps.length p0).drop i=row at *
  generalize ps[i]=p at *
  (repeat' first|refine st ?_|refine sa fun xe hxe=>?_|refine sb (fun hq=>?_) fun hq=>?_|refine cr (m7 _ v1) ?_|exact True.intro)
  refine⟨i+1,by omega,by omega,?_⟩
  rw[←hs]
  rfl
 ·obtain rfl:i=ps.length:=by omega
  (repeat' first|refine st ?_|refine sa fun xe hxe=>?_|refine sb (fun hq=>?_) fun hq=>?_|exact True.intro)
  simp
def sK (s:Int)(c l:List Int)(b:Int)(tabs:List (List (Option Vtx)))(xss:List (Option (List Int)))(ms:List PplM)(ps:List Ppl):Nat→VSt
 |0=>⟨[(2,.ptr 7 0),(3,.ptr 8 0),(30,.ref 5),(31,.int .i64 tabs.length),(32,.int .i64 0)],rX s c l b tabs xss ms++[(7,VB.var 33 [.nils,.nils,.int .i64 0,.nils,.nils]),(8,VB.var 33 [.lst (.int .i64) c,.ref 9,.int .i64 b,.nils,.lst .ppl ps]),(9,VB.row 3 (.int .i64) l)],10⟩
 |i+1=>⟨[(2,.ptr 7 0),(3,.ptr 8 0),(30,.ref 5),(31,.int .i64 tabs.length),(32,.int .i64 ((i+1:Nat):Int))],rX s c l b tabs xss ms++[(7,VB.var 33 [.nils,.nils,.int .i64 0,.nils,.nils]),(8,VB.var 33 [.lst (.int .i64) c,.ref 9,.int .i64 b,.ref 10,.lst .ppl ps]),(9,VB.row 3 (.int .i64) l),(10,VB.row 73 (.lst .vtx) ((tabs.take (i+1)).map gJ))],11⟩
set_option maxHeartbeats 1000000 in
theorem DV (s:Int)(c l:List Int)(b:Int)(tabs:List (List (Option Vtx)))(xss:List (Option (List Int)))(ms:List PplM)(ps:List Ppl)(hR:Rel ps xss ms)(hc:c≠[])(hcl:c.length≤1000000)(hll:l.length≤1000000)(ht:∀t∈tabs,t.length=217∧∀v,some v∈t→v.parents.length≤1000000)(htl:tabs.length≤7)(htl1:1≤tabs.length)
  (hv:∀p∈ps,p.v.parents.length≤1000000∧p.members.length≤1000000) (hpn:ps.length≤1000000):af Tryz.prog 59 [.ptr 4 0] (rX s c l b tabs xss ms) (ap ⟨c,l,b,tabs.map gJ,ps⟩) (rX s c l b tabs xss ms):=by
 have hC:=Gd c hc hcl
 have hP:=Gg ps xss ms hR hv hpn
 have hrl:((List.range tabs.length).map some).length=tabs.length:=by simp
 refine aa al Tryz.func59 rfl rfl true 3 7 rfl rfl rfl rfl fun K hK hb1 hb2=>?_;simp only[ae,enc,Nat.reduceAdd]
 clear hb1 hb2
 (repeat' first|refine st ?_|refine sa fun xe hxe=>?_|refine sb (fun hq=>?_) fun hq=>?_|refine cr (hC) ?_|refine co (hP) ?_|exact True.intro)
 refine ab hK [] [2,3,30,31,32] (sK s c l b tabs xss ms ps) (fun i=>i≤tabs.length) (fun i=>tabs.length-i) 0 (by simp) (by simp only[hrl];(conv=>whnf);rfl) ?_
 intro i hi
 by_cases hlt:i<tabs.length
 ·have hxe:tabs[i]?=some tabs[i]:=List.getElem?_eq_getElem hlt
  have hsn:tabs.take (i+1)=tabs.take i++[tabs[i]]:=List.take_succ_eq_append_getElem hlt
  obtain⟨t1,t2⟩:=ht _ (List.getElem_mem hlt)
  have hxv:((List.range tabs.length).map some)[i]?=some (some i):=by rw[List.getElem?_map,List.getElem?_range hlt];rfl
  have hV:=GA tabs i _ hxe t1 t2
  generalize tabs[i]=tab at *
  cases i with
  |zero=>
   have hst:sK s c l b tabs xss ms ps (0+1)=⟨[(2,.ptr 7 0),(3,.ptr 8 0),(30,.ref 5),(31,.int .i64 tabs.length),(32,.int .i64 ((0+1:Nat):Int))],rX s c l b tabs xss ms++[(7,VB.var 33 [.nils,.nils,.int .i64 0,.nils,.nils]),(8,VB.var 33 [.lst (.int .i64) c,.ref 9,.int .i64 b,.ref 10,.lst .ppl ps]),(9,VB.row 3 (.int .i64) l),(10,VB.row 73 (.lst .vtx) [gJ tab])],11⟩:=by
    rw[sK,hsn]
    rfl
   have hs0:sK s c l b tabs xss ms ps 0=⟨[(2,.ptr 7 0),(3,.ptr 8 0),(30,.ref 5),(31,.int .i64 tabs.length),(32,.int .i64 0)],rX s c l b tabs xss ms++[(7,VB.var 33 [.nils,.nils,.int .i64 0,.nils,.nils]),(8,VB.var 33 [.lst (.int .i64) c,.ref 9,.int .i64 b,.nils,.lst .ppl ps]),(9,VB.row 3 (.int .i64) l)],10⟩:=rfl
   have hx0:((List.range tabs.length).map some)[(0:Int).toNat]?=some (some 0):=hxv
   rw[hs0]
   (repeat' first|refine st ?_|refine sa fun xe hxe=>?_|refine sb (fun hq=>?_) fun hq=>?_|refine co (hV) ?_|exact True.intro)
   refine⟨0+1,by omega,by omega,?_⟩
   rw[hst]
   rfl
  |succ i=>
   have hfl:((tabs.take (i+1)).map gJ).length=i+1:=by rw[List.length_map,List.length_take];omega
   have hst:sK s c l b tabs xss ms ps (i+1+1)=⟨[(2,.ptr 7 0),(3,.ptr 8 0),(30,.ref 5),(31,.int .i64 tabs.length),(32,.int .i64 ((i+1+1:Nat):Int))],rX s c l b tabs xss ms++[(7,VB.var 33 [.nils,.nils,.int .i64 0,.nils,.nils]),(8,VB.var 33 [.lst (.int .i64) c,.ref 9,.int .i64 b,.ref 10,.lst .ppl ps]),(9,VB.row 3 (.int .i64) l),(10,VB.row 73 (.lst .vtx) ((tabs.take (i+1)).map gJ++[gJ tab]))],11⟩:=by
    rw[sK,hsn,List.map_append]
    rfl
   have hs0:sK s c l b tabs xss ms ps (i+1)=⟨[(2,.ptr 7 0),(3,.ptr 8 0),(30,.ref 5),(31,.int .i64 tabs.length),(32,.int .i64 ((i+1:Nat):Int))],rX s c l b tabs xss ms++[(7,VB.var 33 [.nils,.nils,.int .i64 0,.nils,.nils]),(8,VB.var 33 [.lst (.int .i64) c,.ref 9,.int .i64 b,.ref 10,.lst .ppl ps]),(9,VB.row 3 (.int .i64) l),(10,VB.row 73 (.lst .vtx) ((tabs.take (i+1)).map gJ))],11⟩:=rfl
   rw[hs0]
   clear hs0
   generalize (tabs.take (i+1)).map gJ=ts at *
   (repeat' first|refine st ?_|refine sa fun xe hxe=>?_|refine sb (fun hq=>?_) fun hq=>?_|refine co (hV) ?_|exact True.intro)
   refine⟨i+1+1,by omega,by omega,?_⟩
   rw[hst]
   rfl
 ·cases i with
  |zero=>omega
  |succ i=>
   have hs0:sK s c l b tabs xss ms ps (i+1)=⟨[(2,.ptr 7 0),(3,.ptr 8 0),(30,.ref 5),(31,.int .i64 tabs.length),(32,.int .i64 ((i+1:Nat):Int))],rX s c l b tabs xss ms++[(7,VB.var 33 [.nils,.nils,.int .i64 0,.nils,.nils]),(8,VB.var 33 [.lst (.int .i64) c,.ref 9,.int .i64 b,.ref 10,.lst .ppl ps]),(9,VB.row 3 (.int .i64) l),(10,VB.row 73 (.lst .vtx) (tabs.map gJ))],11⟩:=by
    rw[sK,List.take_of_length_le (by omega)]
   rw[hs0]
   clear hs0
   (repeat' first|refine st ?_|refine sa fun xe hxe=>?_|refine sb (fun hq=>?_) fun hq=>?_|exact True.intro)
   exact⟨rfl,rfl⟩
theorem nJ (s:Int)(w:Wrl)(xss:List (Option (List Int)))(ms:List PplM)(hw:WOK w)(hR:Rel w.props xss ms):af Tryz.prog 59 [.ptr 4 0] (rW s w xss ms) (ap w) (rW s w xss ms):=by
 have h:=(ce.2 hw)
 rw[gw,Bool.and_eq_true] at h
 have h:=h.1
 obtain⟨h1,h2,h3,h4,h5,h6⟩:=mJ h
 have h7:=(ao.1 h1).2
 have hll:=(be.1 h2).2
 have hps:=se h
 have hpl:=lE h4
 have hne:w.com≠[]:=fun h=>by rw[h] at h7;simp at h7
 have hc:=DV s w.com w.lead w.bad (w.views.map az) xss ms w.props hR hne (by omega) (by omega) (fun t ht=>by
  obtain⟨g,hg,rfl⟩:=List.mem_map.1 ht
  refine⟨dh g,fun v hv=>?_⟩
  have:=(nS h g hg v (Cr hv)).2
  omega) (by rw[List.length_map];omega) (by rw[List.length_map];omega) (fun p hp=>by have:=(hps p hp).2.2.2;omega) (by omega)
 rw[zk h] at hc
 exact hc
theorem Ih (c l:List Int)(b:Int)(tabs:List (List (Option Vtx)))(ps:List Ppl):∀k:Id,look (toH (rX 0 c l b tabs (ps.map fun p=>some p.members) (sd ps))) k=look (toH (rB c l b tabs ps)) k:=by
 rintro⟨k1,k2⟩
 rw[ak,ak]
 by_cases e:k1=1
 ·subst e
  simp only[look,if_true,Option.bind_some,VB.blks]
  simp[List.getElem?_map,rowX]
  rfl
 ·simp[look,e]
theorem vL (w:Wrl)(hl:∀g∈w.views,g.length≤2000000)(hp:eg w=true):af Tryz.prog 57 [ap w] [] (.tup [.ptr 4 0,.bool (dw w)]) (rW 0 w (w.props.map fun p=>some p.members) (sd w.props)):=by
 have h:=A5 w hl
 simp only[D5,D4,hp,if_true] at h
 rw[BP hp] at h
 have e:dw w=my w.bad w.props w.views:=by rw[gw,hp,Bool.true_and]
 rw[e]
 unfold af at h⊢
 exact h.out (Ih _ _ _ _ _)
def oa (w:Wrl)(e:Evt):Bool:=(decide (e.kind=1) && ga w e.a e.b)||(decide (e.kind=4) && fZ w e.v)
def pG (w:Wrl)(e:Evt):Bool:=if e.kind=2 then fX w e.a e.b && !(ay w e.b).members.contains e.a else if e.kind=3 then cG w e.a e.b else if e.kind=5 then ja w e.b && !(ay w e.b).members.contains w.bad else false
set_option maxHeartbeats 1000000 in
theorem DC (c l:List Int)(b:Int)(tabs:List (List (Option Vtx)))(xss xss':List (Option (List Int)))(ms ms':List PplM)(e:Evt)(hx:xss.length≤xss'.length)(hk:e.kind=1∨e.kind=4)
  (h1:e.kind=1→af Tryz.prog 111 [.ptr 4 0,.int .i64 e.a,.int .i64 e.b] (rX 1 c l b tabs xss ms) (.bool true) (Ii 1 c l b tabs xss' ms'))
  (h4:e.kind=4→af Tryz.prog 114 [.ptr 4 0,bA e.v] (rX 1 c l b tabs xss ms) (.bool true) (Ii 1 c l b tabs xss' ms')):af Tryz.prog 58 [.ptr 4 0,lh e] (rX 0 c l b tabs xss ms) (.bool true) (Ii 0 c l b tabs xss' ms'):=by
 refine w5 Br aS Tryz.func58 rfl rfl false 3 7 rfl rfl rfl rfl (by exact Live.of_look (am (i:=0) (x:=.var 112 [.int .i32 0,.int .u32 0,.lst (.int .i64) c,.lst (.int .i64) l,.int .i64 b,.ref 5,.ref 6]) rfl rfl)) fun K hK hK4 hb1 hb2=>?_;simp only[ae,enc,Nat.reduceAdd]
 clear hb1 hb2
 have hL:=xz c l b tabs xss ms
 have hF1:aF (VB.frowx 3 (.int .i64) xss)≤aF (VB.frowx 3 (.int .i64) xss'):=hx
 refine nl ?_
 (repeat' first|refine a9 ?_|refine sa fun xe hxe=>?_|refine sb (fun hq=>?_) fun hq=>?_|exact True.intro)
 refine⟨rfl,nl ?_⟩
 (repeat' first|refine a9 ?_|refine sa fun xe hxe=>?_|refine sb (fun hq=>?_) fun hq=>?_|refine cr (hL) ?_|exact True.intro)
 refine⟨rfl,s0 ?_⟩
 refine wT aS (l:=[_,_,_]) (od:=_) rfl ⟨rfl,rfl,rfl⟩ (by decide) ?_
 (conv=>whnf)
 (repeat' first|refine a9 ?_|refine sa fun xe hxe=>?_|refine sb (fun hq=>?_) fun hq=>?_|exact True.intro)
 refine⟨rfl,hK4,rfl,?_⟩
 by_cases c1:e.kind=1
 ·have h:=h1 c1
  (repeat' first|refine a9 ?_|refine sa fun xe hxe=>?_|refine sb (fun hq=>?_) fun hq=>?_|refine cr (h) ?_|exact True.intro)
  exact⟨rfl,rfl⟩
 ·have c4:e.kind=4:=hk.resolve_left c1
  have h:=h4 c4
  (repeat' first|refine a9 ?_|refine sa fun xe hxe=>?_|refine sb (fun hq=>?_) fun hq=>?_|refine cr (h) ?_|exact True.intro)
  exact⟨rfl,rfl⟩
theorem rK (w:Wrl)(xss:List (Option (List Int)))(ms:List PplM)(hw:WOK w)(hR:Rel w.props xss ms)(e:Evt)(h:oa w e=true):∃x:List (Option (List Int))×List PplM,(Rel (dG w e).props x.1 x.2∧xss.length≤x.1.length)∧af Tryz.prog 58 [.ptr 4 0,lh e] (rW 0 w xss ms) (.bool true) (IA 0 (dG w e) x.1 x.2):=by
 have key:∃v,dG w e=kT w v∧(e.kind=1→ga w e.a e.b=true∧v=fg w e.a e.b)∧(e.kind=4→fZ w e.v=true∧v=e.v)∧(e.kind=1∨e.kind=4):=by
  unfold oa at h
  by_cases c1:e.kind=1
  ·have hp:ga w e.a e.b=true:=by simpa[c1] using h
   exact⟨fg w e.a e.b,by unfold dG ew;rw[if_pos c1,if_pos hp],fun _=>⟨hp,rfl⟩,fun c=>by omega,.inl c1⟩
  ·have hp:e.kind=4∧fZ w e.v=true:=by simpa[c1] using h
   exact⟨e.v,by unfold dG lI;rw[if_neg c1,if_neg (by omega),if_neg (by omega),if_pos hp.1,if_pos hp.2],fun c=>absurd c c1,fun _=>⟨hp.2,rfl⟩,.inr hp.1⟩
 obtain⟨v,k1,k2,k3,k4⟩:=key
 rw[k1]
 refine⟨(xss++[some []],ms++[(⟨v,some xss.length⟩:PplM)]),⟨hR.add v,by simp⟩,?_⟩
 refine DC w.com w.lead w.bad (w.views.map az) xss _ ms _ e (by simp) k4 (fun c=>?_) fun c=>?_
 ·obtain⟨a1,rfl⟩:=k2 c
  have hC:=A7 1 w xss ms hw hR e.a e.b
  rw[a1] at hC
  exact hC
 ·obtain⟨a1,rfl⟩:=k3 c
  have hC:=A0 1 w xss ms hw hR e.v
  rw[a1] at hC
  exact hC
theorem zi {w:Wrl}(hw:WOK w){m:Int}(hm:0≤m∧m<w.com.length){v:Vtx}(hv:fK v)(hn:cA (view w m) v.round v.author=false):(w.views.set m.toNat (eu (view w m) v)).map az=wD w m v:=by
 have hG:=(iz hw hm).2
 rw[List.map_set,Cq (fun u hu=>bW hw.com (hG.vtx u hu)) hv hn]
theorem nF (w:Wrl)(xss:List (Option (List Int)))(ms:List PplM)(hw:WOK w)(hR:Rel w.props xss ms)(e:Evt)(h:oa w e=false):∃x:List (Option (List Int))×List PplM,(Rel (dG w e).props x.1 x.2∧xss.length≤x.1.length)∧af Tryz.prog 58 [.ptr 4 0,lh e] (rW 0 w xss ms) (.bool (pG w e)) (rW 0 (dG w e) x.1 x.2):=by
 have no:∀{k:Int},e.kind=k→∀{j:Int},k≠j→¬e.kind=j:=fun h1 _ h2 h3=>h2 (h1.symm.trans h3)
 by_cases c1:e.kind=1
 ·have hp:ga w e.a e.b=false:=by simpa[oa,c1] using h
  have hd:dG w e=w:=by unfold dG ew;rw[if_pos c1,hp];rfl
  have hg:pG w e=false:=by unfold pG;rw[if_neg (by omega),if_neg (by omega),if_neg (by omega)]
  have hC:=A7 1 w xss ms hw hR e.a e.b
  rw[hp] at hC
  rw[hd,hg]
  exact⟨(xss,ms),⟨hR,Nat.le_refl _⟩,dE w.com w.lead w.bad _ _ xss xss ms ms e false (Nat.le_refl _) (Nat.le_refl _) (fun _=>hC) (fun c=>by omega) (fun c=>by omega) (fun c=>by omega) (fun c=>by omega) (fun c=>by omega)⟩
 by_cases c2:e.kind=2
 ·have hd:dG w e=eR w e.a e.b:=by unfold dG;rw[if_neg c1,if_pos c2]
  have hg:pG w e=(fX w e.a e.b && !(ay w e.b).members.contains e.a):=by unfold pG;rw[if_pos c2]
  rw[hd,hg]
  cases hi:m8 w e.b
  ·have hv:fX w e.a e.b=false:=by unfold fX;rw[hi];simp
   have hs:eR w e.a e.b=w:=by unfold eR;rw[hv];rfl
   rw[hs,hv]
   exact⟨(xss,ms),⟨hR,Nat.le_refl _⟩,dE w.com w.lead w.bad _ _ xss xss ms ms e false (Nat.le_refl _) (Nat.le_refl _) (fun c=>absurd c c1) (fun _=>DU 1 w xss ms hw hR e.a e.b hi) (fun c=>by omega) (fun c=>by omega) (fun c=>by omega) (fun c=>by omega)⟩
  ·obtain⟨n,hn,hn1,hn2⟩:=mC hi
   obtain⟨j,hj1,hj2⟩:=hR.get n _ hn2
   have hC:=Gv 1 w xss ms hw hR e.a n j (by rw[←hn];exact hi) (by rw[←hn];exact hj1) (by rw[←hn];exact hj2)
   rw[←hn] at hC
   have ha:=bG (fp hw (List.mem_of_getElem? hn2)).2
   cases hf:(fX w e.a e.b && !(ay w e.b).members.contains e.a)
   ·have hs:eR w e.a e.b=w:=by
     unfold eR
     split
     ·rename_i hv
      rw[hv,Bool.true_and] at hf
      exact tc hi ha (by simpa using hf)
     ·rfl
    rw[hf] at hC
    rw[hs]
    exact⟨(xss,ms),⟨hR,Nat.le_refl _⟩,dE w.com w.lead w.bad _ _ xss xss ms ms e false (Nat.le_refl _) (Nat.le_refl _) (fun c=>absurd c c1) (fun _=>hC) (fun c=>by omega) (fun c=>by omega) (fun c=>by omega) (fun c=>by omega)⟩
   ·have hv:fX w e.a e.b=true:=(Bool.and_eq_true .. ▸hf:_∧_).1
    have hs:eR w e.a e.b=gG w e.b e.a:=by unfold eR;rw[hv];rfl
    rw[hf] at hC
    rw[hs]
    have hR2:=hR.cast hj1 (cH (ay w e.b).members e.a)
    refine⟨(_,_),?_,dE w.com w.lead w.bad _ _ xss _ ms _ e true (Nat.le_refl _) (by simp) (fun c=>absurd c c1) (fun _=>hC) (fun c=>by omega) (fun c=>by omega) (fun c=>by omega) (fun c=>by omega)⟩
    refine⟨?_,by simp⟩
    have:e.b.toNat=n:=by omega
    show Rel (w.props.set e.b.toNat _) _ _
    rw[this]
    exact hR2
 by_cases c3:e.kind=3
 ·have hd:dG w e=bJ w e.a e.b:=by unfold dG;rw[if_neg c1,if_neg c2,if_pos c3]
  have hg:pG w e=cG w e.a e.b:=by unfold pG;rw[if_neg c2,if_pos c3]
  rw[hd,hg]
  cases hi:m8 w e.b
  ·have hv:cG w e.a e.b=false:=by unfold cG;rw[hi];simp
   have hs:bJ w e.a e.b=w:=by unfold bJ;rw[hv];rfl
   rw[hs,hv]
   exact⟨(xss,ms),⟨hR,Nat.le_refl _⟩,dE w.com w.lead w.bad _ _ xss xss ms ms e false (Nat.le_refl _) (Nat.le_refl _) (fun c=>absurd c c1) (fun c=>absurd c c2) (fun _=>DJ 1 w xss ms hw hR e.a e.b hi) (fun c=>by omega) (fun c=>by omega) (fun c=>by omega)⟩
  ·obtain⟨n,hn,hn1,hn2⟩:=mC hi
   obtain⟨j,hj1,hj2⟩:=hR.get n _ hn2
   have hC:=Gh 1 w xss ms hw hR e.a n j (by rw[←hn];exact hi) (by rw[←hn];exact hj1) (by rw[←hn];exact hj2)
   rw[←hn] at hC
   cases hf:cG w e.a e.b
   ·have hs:bJ w e.a e.b=w:=by unfold bJ;rw[hf];rfl
    rw[hf] at hC
    rw[hs]
    exact⟨(xss,ms),⟨hR,Nat.le_refl _⟩,dE w.com w.lead w.bad _ _ xss xss ms ms e false (Nat.le_refl _) (Nat.le_refl _) (fun c=>absurd c c1) (fun c=>absurd c c2) (fun _=>hC) (fun c=>by omega) (fun c=>by omega) (fun c=>by omega)⟩
   ·have hs:bJ w e.a e.b={w with views:=w.views.set e.a.toNat (eu (view w e.a) (ay w e.b).v)}:=by unfold bJ;rw[hf];rfl
    rw[hf] at hC
    rw[hs]
    unfold cG at hf
    simp only[Bool.and_eq_true,Bool.not_eq_true'] at hf
    have hvw:=zi hw (cZ.1 hf.1).1 (bW hw.com (fp hw (List.mem_of_getElem? hn2)).1) hf.2.2.2.1
    refine⟨(xss,ms),⟨hR,Nat.le_refl _⟩,?_⟩
    show af _ _ _ _ _ (rX 0 w.com w.lead w.bad ((w.views.set e.a.toNat (eu (view w e.a) (ay w e.b).v)).map az) xss ms)
    rw[hvw]
    exact dE w.com w.lead w.bad _ (wD w e.a (ay w e.b).v) xss xss ms ms e true (by simp[wD]) (Nat.le_refl _) (fun c=>absurd c c1) (fun c=>absurd c c2) (fun _=>hC) (fun c=>by omega) (fun c=>by omega) (fun c=>by omega)
 by_cases c4:e.kind=4
 ·have hp:fZ w e.v=false:=by simpa[oa,c4] using h
  have hd:dG w e=w:=by unfold dG lI;rw[if_neg c1,if_neg c2,if_neg c3,if_pos c4,hp];rfl
  have hg:pG w e=false:=by unfold pG;rw[if_neg (by omega),if_neg (by omega),if_neg (by omega)]
  have hC:=A0 1 w xss ms hw hR e.v
  rw[hp] at hC
  rw[hd,hg]
  exact⟨(xss,ms),⟨hR,Nat.le_refl _⟩,dE w.com w.lead w.bad _ _ xss xss ms ms e false (Nat.le_refl _) (Nat.le_refl _) (fun c=>absurd c c1) (fun c=>absurd c c2) (fun c=>absurd c c3) (fun _=>hC) (fun c=>by omega) (fun c=>by omega)⟩
 by_cases c5:e.kind=5
 ·have hd:dG w e=iS w e.b:=by unfold dG;rw[if_neg c1,if_neg c2,if_neg c3,if_neg c4,if_pos c5]
  have hg:pG w e=(ja w e.b && !(ay w e.b).members.contains w.bad):=by unfold pG;rw[if_neg c2,if_neg c3,if_pos c5]
  rw[hd,hg]
  cases hi:m8 w e.b
  ·have hv:ja w e.b=false:=by unfold ja;rw[hi];simp
   have hs:iS w e.b=w:=by unfold iS;rw[hv];rfl
   rw[hs,hv]
   exact⟨(xss,ms),⟨hR,Nat.le_refl _⟩,dE w.com w.lead w.bad _ _ xss xss ms ms e false (Nat.le_refl _) (Nat.le_refl _) (fun c=>absurd c c1) (fun c=>absurd c c2) (fun c=>absurd c c3) (fun c=>absurd c c4) (fun _=>DD 1 w xss ms hw hR e.b hi) (fun c=>by omega)⟩
  ·obtain⟨n,hn,hn1,hn2⟩:=mC hi
   obtain⟨j,hj1,hj2⟩:=hR.get n _ hn2
   have hC:=Gb 1 w xss ms hw hR n j (by rw[←hn];exact hi) (by rw[←hn];exact hj1) (by rw[←hn];exact hj2)
   rw[←hn] at hC
   have ha:=bG (fp hw (List.mem_of_getElem? hn2)).2
   cases hf:(ja w e.b && !(ay w e.b).members.contains w.bad)
   ·have hs:iS w e.b=w:=by
     unfold iS
     split
     ·rename_i hv
      rw[hv,Bool.true_and] at hf
      exact tc hi ha (by simpa using hf)
     ·rfl
    rw[hf] at hC
    rw[hs]
    exact⟨(xss,ms),⟨hR,Nat.le_refl _⟩,dE w.com w.lead w.bad _ _ xss xss ms ms e false (Nat.le_refl _) (Nat.le_refl _) (fun c=>absurd c c1) (fun c=>absurd c c2) (fun c=>absurd c c3) (fun c=>absurd c c4) (fun _=>hC) (fun c=>by omega)⟩
   ·have hv:ja w e.b=true:=(Bool.and_eq_true .. ▸hf:_∧_).1
    have hs:iS w e.b=gG w e.b w.bad:=by unfold iS;rw[hv];rfl
    rw[hf] at hC
    rw[hs]
    have hR2:=hR.cast hj1 (cH (ay w e.b).members w.bad)
    refine⟨(_,_),?_,dE w.com w.lead w.bad _ _ xss _ ms _ e true (Nat.le_refl _) (by simp) (fun c=>absurd c c1) (fun c=>absurd c c2) (fun c=>absurd c c3) (fun c=>absurd c c4) (fun _=>hC) (fun c=>by omega)⟩
    refine⟨?_,by simp⟩
    have:e.b.toNat=n:=by omega
    show Rel (w.props.set e.b.toNat _) _ _
    rw[this]
    exact hR2
 have hd:dG w e=w:=by unfold dG;rw[if_neg c1,if_neg c2,if_neg c3,if_neg c4,if_neg c5]
 have hg:pG w e=false:=by unfold pG;rw[if_neg c2,if_neg c3,if_neg c5]
 rw[hd,hg]
 exact⟨(xss,ms),⟨hR,Nat.le_refl _⟩,dE w.com w.lead w.bad _ _ xss xss ms ms e false (Nat.le_refl _) (Nat.le_refl _) (fun c=>absurd c c1) (fun c=>absurd c c2) (fun c=>absurd c c3) (fun c=>absurd c c4) (fun c=>absurd c c5) (fun _=>⟨rfl,rfl,rfl,rfl⟩)⟩
theorem uA (w:Wrl)(e:Evt):(dG w e).com=w.com∧(dG w e).lead=w.lead∧(dG w e).bad=w.bad∧(dG w e).views.length=w.views.length:=by
 simp only[dG,ew,eR,bJ,lI,iS,gG,kT]
 (repeat' split)<;>simp
theorem Av {w:Wrl}{e:Evt}:aF (VB.fvari 190 217 (.ob .vtx) (w.views.map az))≤aF (VB.fvari 190 217 (.ob .vtx) ((dG w e).views.map az)):=by
 show (w.views.map az).length≤((dG w e).views.map az).length
 rw[List.length_map,List.length_map,(uA w e).2.2.2]
 exact Nat.le_refl _
theorem vK (w:Wrl)(hl:∀g∈w.views,g.length≤2000000)(hp:eg w=false):af Tryz.prog 57 [ap w] [] (.tup [.nilp,.bool false]) []:=by
 have h:=A5 w hl
 simp only[D5,D4,hp,Bool.false_eq_true,if_false] at h
 exact h
theorem H1 (w:Wrl)(e:Evt)(hl:∀g∈w.views,g.length≤2000000):af Tryz.prog 27 [ap w,lh e] [] (if dw w then ap (dG w e) else sM) []:=by
 have he:=gw w
 refine aa aS Tryz.func27 rfl rfl true 0 4 rfl rfl rfl rfl fun K hK hb1 hb2=>?_;simp only[ae,enc,Nat.reduceAdd]
 clear hb1 hb2
 cases hp:eg w
 ·have hO:=vK w hl hp
  rw[hp,Bool.false_and] at he
  (repeat' first|refine a9 ?_|refine sa fun xe hxe=>?_|refine sb (fun hq=>?_) fun hq=>?_|refine cr (hO) ?_|exact True.intro)
  rw[he]
  exact⟨rfl,rfl⟩
 ·have hO:=vL w hl hp
  cases hs:dw w
  ·rw[hs] at hO
   (repeat' first|refine a9 ?_|refine sa fun xe hxe=>?_|refine sb (fun hq=>?_) fun hq=>?_|refine cr (hO) ?_|exact True.intro)
   exact⟨rfl,rfl⟩
  ·rw[hs] at hO
   have hw:=ce.1 hs
   cases ha:oa w e
   ·obtain⟨⟨xs,ms⟩,⟨hR,hx⟩,hC⟩:=nF w _ _ hw (Ev _) e ha
    have hW:=nJ 0 (dG w e) xs ms (iT hw e) hR
    have hF0:=Av (w:=w) (e:=e)
    have hF1:aF (VB.frowx 3 (.int .i64) (w.props.map fun p=>some p.members))≤aF (VB.frowx 3 (.int .i64) xs):=hx
    (repeat' first|refine a9 ?_|refine sa fun xe hxe=>?_|refine sb (fun hq=>?_) fun hq=>?_|refine cr (hO) ?_|refine cr (hC) ?_|refine cr (hW) ?_|exact True.intro)
    exact⟨rfl,rfl⟩
   ·obtain⟨⟨xs,ms⟩,⟨hR,hx⟩,hC⟩:=rK w _ _ hw (Ev _) e ha
    have hW:=nJ 0 (dG w e) xs ms (iT hw e) hR
    have hF0:=Av (w:=w) (e:=e)
    have hF1:aF (VB.frowx 3 (.int .i64) (w.props.map fun p=>some p.members))≤aF (VB.frowx 3 (.int .i64) xs):=hx
    (repeat' first|refine a9 ?_|refine sa fun xe hxe=>?_|refine sb (fun hq=>?_) fun hq=>?_|refine cr (hO) ?_|refine cr (hC) ?_|refine cr (hW) ?_|exact True.intro)
    exact⟨rfl,rfl⟩
abbrev rP (c l:List Int)(b:Int)(tabs:List (List (Option Vtx)))(xss:List (Option (List Int)))(ms:List PplM):VH:=[(0,.fvari 190 217 (.ob .vtx) tabs),(1,.frowx 3 (.int .i64) xss),(4,.var 33 [.nils,.nils,.int .i64 0,.nils,.nils]),(5,.var 112 [.int .i32 0,.int .u32 0,.lst (.int .i64) c,.lst (.int .i64) l,.int .i64 b,.ref 6,.ref 7]),(6,.row 144 (.hp 0) ((List.range tabs.length).map some)),(7,.row 50 (.pplm 1) ms)]
theorem A6 (w:Wrl)(es:List Evt)(hl:∀g∈w.views,g.length≤2000000)(hel:es.length≤1000000):af Tryz.prog 18 [ap w,.lst .evt es] [] (if decide (es.length≤80) && dw w then .tup [ap (eC w es),.bool true] else .tup [sM,.bool false]) []:=by
 have he:=gw w
 refine aa aS Tryz.func18 rfl rfl true 0 4 rfl rfl rfl rfl fun K hK hb1 hb2=>?_;simp only[ae,enc,Nat.reduceAdd]
 clear hb1 hb2
 by_cases h80:80<(es.length:Int)
 ·(repeat' first|refine a9 ?_|refine sa fun xe hxe=>?_|refine sb (fun hq=>?_) fun hq=>?_|exact True.intro)
  rw[decide_eq_false (p:=es.length≤80) (by omega)]
  exact⟨rfl,rfl⟩
 ·rw[decide_eq_true (p:=es.length≤80) (by omega),Bool.true_and]
  cases hp:eg w
  ·have hO:=vK w hl hp
   rw[hp,Bool.false_and] at he
   (repeat' first|refine a9 ?_|refine sa fun xe hxe=>?_|refine sb (fun hq=>?_) fun hq=>?_|refine cr (hO) ?_|exact True.intro)
   rw[he]
   exact⟨rfl,rfl⟩
  ·have hO:=vL w hl hp
   cases hs:dw w
   ·rw[hs] at hO
    (repeat' first|refine a9 ?_|refine sa fun xe hxe=>?_|refine sb (fun hq=>?_) fun hq=>?_|refine cr (hO) ?_|exact True.intro)
    exact⟨rfl,rfl⟩
   ·rw[hs] at hO
    have hw:=ce.1 hs
    (repeat' first|refine a9 ?_|refine sa fun xe hxe=>?_|refine sb (fun hq=>?_) fun hq=>?_|refine cr (hO) ?_|exact True.intro)
    refine ab hK [] [4,6,22,23,24] (fun x:Nat×List (Option (List Int))×List PplM=>⟨[(4,.ptr 4 0),(6,.ptr 5 0),(22,.lst .evt es),(23,.int .i64 es.length),(24,.int .i64 (x.1:Int))],rP (eC w (es.take x.1)).com (eC w (es.take x.1)).lead (eC w (es.take x.1)).bad ((eC w (es.take x.1)).views.map az) x.2.1 x.2.2,8⟩) (fun x=>x.1≤es.length∧Rel (eC w (es.take x.1)).props x.2.1 x.2.2) (fun x=>es.length-x.1) (0,w.props.map fun p=>some p.members,sd w.props) ⟨by simp,Ev _⟩ (by(conv=>whnf);rfl) ?_
    rintro⟨i,xs,ms⟩ ⟨hi,hR⟩
    dsimp only at hi hR⊢
    have hwi:=lJ hw (es.take i)
    by_cases hlt:i<es.length
    ·have hxe:es[i]?=some es[i]:=List.getElem?_eq_getElem hlt
     have hsn:=kN w (es.take i) es[i]
     rw[←List.take_succ_eq_append_getElem hlt] at hsn
     have hF0:=Av (w:=eC w (es.take i)) (e:=es[i])
     generalize es[i]=e at *
     generalize eC w (es.take i)=u at *
     cases ha:oa u e
     ·obtain⟨⟨xs',ms'⟩,⟨hR',hx⟩,hC⟩:=nF u _ _ hwi hR e ha
      have hF1:aF (VB.frowx 3 (.int .i64) xs)≤aF (VB.frowx 3 (.int .i64) xs'):=hx
      (repeat' first|refine a9 ?_|refine sa fun xe hxe=>?_|refine sb (fun hq=>?_) fun hq=>?_|refine cr (hC) ?_|exact True.intro)
      refine⟨(i+1,xs',ms'),⟨by dsimp only;omega,by dsimp only;rw[hsn];exact hR'⟩,by dsimp only;omega,?_⟩
      dsimp only
      rw[hsn]
      rfl
     ·obtain⟨⟨xs',ms'⟩,⟨hR',hx⟩,hC⟩:=rK u _ _ hwi hR e ha
      have hF1:aF (VB.frowx 3 (.int .i64) xs)≤aF (VB.frowx 3 (.int .i64) xs'):=hx
      (repeat' first|refine a9 ?_|refine sa fun xe hxe=>?_|refine sb (fun hq=>?_) fun hq=>?_|refine cr (hC) ?_|exact True.intro)
      refine⟨(i+1,xs',ms'),⟨by dsimp only;omega,by dsimp only;rw[hsn];exact hR'⟩,by dsimp only;omega,?_⟩
      dsimp only
      rw[hsn]
      rfl
    ·rw[List.take_of_length_le (by omega)] at hR hwi⊢
     have hW:=nJ 0 (eC w es) xs ms hwi hR
     (repeat' first|refine a9 ?_|refine sa fun xe hxe=>?_|refine sb (fun hq=>?_) fun hq=>?_|refine cr (hW) ?_|exact True.intro)
     exact⟨rfl,rfl⟩
theorem lb {w:Wrl}(h:WOK w)(i:Int):∀n,cI w≤cI (bS w i n)
 |0=>Nat.le_refl _
 |n+1=>by
  have h1:=lb h i n
  rcases eQ (fG h i n) n i with⟨-,h2⟩|⟨-,h2⟩
  ·simp only[bS,h2];exact h1
  ·simp only[bS,h2];omega
theorem qu {w:Wrl}(h:WOK w):∀k,cI w≤cI (aT w k)
 |0=>Nat.le_refl _
 |k+1=>Nat.le_trans (qu h k) (lb (eN h k) _ _)
theorem y6 {w:Wrl}(h:WOK w){m i:Int}(hb:cG w m i=true):(bJ w m i).views[m.toNat]?=some (eu (view w m) (ay w i).v):=by
 have hg:good w m=true:=by
  simp only[cG,Bool.and_eq_true] at hb
  exact hb.1
 have hl:=(h.view hg).2.2
 simp[bJ,hb,List.getElem?_set,hl]
abbrev sR:List V:=[.nils,.nils,.int .i64 0,.nils,.nils]
set_option maxHeartbeats 1000000 in
theorem wz (w:Wrl)(h:WOK w):af Tryz.prog 78 [ap w] [] (ap (bK w)) []:=by
 refine aa al Tryz.func78 rfl rfl true 0 4 rfl rfl rfl rfl fun K hK hb1 hb2=>?_;simp only[ae,enc,Nat.reduceAdd]
 clear hb1 hb2
 (repeat' first|refine st ?_|refine sa fun xe hxe=>?_|refine sb (fun hq=>?_) fun hq=>?_|exact True.intro)
 refine ab hK [] [1,2,3] (fun x:Bool×Wrl=>⟨[(1,.ptr 4 0),(2,.ptr 5 0),(3,.bool x.1)],[(4,.var 33 (ap x.2).cells),(5,.var 33 sR)],6⟩) (fun x=>WOK x.2∧(x.1=true→bK x.2=bK w)∧(x.1=false→x.2=bK w)) (fun x=>if x.1=true then 1520-cI x.2 else 0) (true,w) ⟨h,fun _=>rfl,fun h=>by cases h⟩ rfl ?_
 rintro⟨b,x⟩ ⟨hx,hbt,hbf⟩
 dsimp only at hx hbt hbf⊢
 cases b
 ·have:=hbf rfl
  rw[←this]
  (repeat' first|refine st ?_|refine sa fun xe hxe=>?_|refine sb (fun hq=>?_) fun hq=>?_|exact True.intro)
  exact⟨rfl,rfl⟩
 have hbt:=hbt rfl
 have hx7:=hx.len
 have hxp:=hx.plen
 (repeat' first|refine st ?_|refine sa fun xe hxe=>?_|refine sb (fun hq=>?_) fun hq=>?_|exact True.intro)
 refine ab hK [] [1,2,3,4] (fun k:Nat=>⟨[(1,.ptr 4 0),(2,.ptr 5 0),(3,.bool (decide (cI x<cI (aT x k)))),(4,.int .i64 (k:Int))],[(4,.var 33 (ap (aT x k)).cells),(5,.var 33 sR)],6⟩) (fun k=>k≤x.props.length) (fun k=>x.props.length-k) 0 (by omega) (by simp only[aT,Nat.lt_irrefl,decide_false];rfl) ?_
 intro k hk
 have hpc:=de x k
 have hpo:=eN hx k
 have hple:=qu hx k
 have hps:aT x (k+1)=bS (aT x k) k (aT x k).com.length:=rfl
 by_cases hlt:k<x.props.length
 ·generalize aT x k=y at *
  have hyl:y.props.length=x.props.length:=by rw[hpc.2]
  have hyc:y.com.length=x.com.length:=by rw[hpc.1]
  (repeat' first|refine st ?_|refine sa fun xe hxe=>?_|refine sb (fun hq=>?_) fun hq=>?_|exact True.intro)
  refine ab hK [] [1,2,3,4,5] (fun m:Nat=>⟨[(1,.ptr 4 0),(2,.ptr 5 0),(3,.bool (decide (cI x<cI (bS y k m)))),(4,.int .i64 (k:Int)),(5,.int .i64 (m:Int))],[(4,.var 33 (ap (bS y k m)).cells),(5,.var 33 sR)],6⟩) (fun m=>m≤y.com.length) (fun m=>y.com.length-m) 0 (by omega) rfl ?_
  intro m hm
  have hdc:=gT y k m
  have hdo:=fG hpo k m
  have hdle:=lb hpo k m
  have hds:bS y k (m+1)=bJ (bS y k m) m k:=rfl
  by_cases hml:m<y.com.length
  ·generalize bS y k m=z at *
   have hzc:z.com.length=y.com.length:=by rw[hdc.1]
   have hzv:=hdo.vlen
   have hS:=B7 z m k hdo
   have hxv:z.views[m]?=some (view z m):=by
    unfold view
    rw[Int.toNat_natCast,List.getD_eq_getElem?_getD,List.getElem?_eq_getElem (show m<z.views.length by omega)]
    rfl
   have hgl:=hdo.vl _ (List.mem_of_getElem? hxv)
   have hso:=sq hdo m k
   have hsc:=uz z m k
   have hsv:=hso.vlen
   rcases eQ hdo m k with⟨e1,e2⟩|⟨e1,e2⟩
   ·rw[e2] at hS hds
    generalize view z m=g at *
    by_cases hmo:cI x<cI z
    ·rw[decide_eq_true hmo]
     (repeat' first|refine st ?_|refine sa fun xe hxe=>?_|refine sb (fun hq=>?_) fun hq=>?_|refine cr (hS) ?_|exact True.intro)
     exact⟨m+1,by omega,by omega,by rw[hds,decide_eq_true hmo];rfl⟩
    ·rw[decide_eq_false hmo]
     (repeat' first|refine st ?_|refine sa fun xe hxe=>?_|refine sb (fun hq=>?_) fun hq=>?_|refine cr (hS) ?_|exact True.intro)
     exact⟨m+1,by omega,by omega,by rw[hds,decide_eq_false hmo,decide_eq_false (Int.lt_irrefl _)];rfl⟩
   ·have hxv2:=y6 hdo e1
    rw[Int.toNat_natCast] at hxv2
    have hil:=tS (view z m) (ay z k).v
    have hmo2:cI x<cI (bJ z m k):=by omega
    generalize bJ z m k=z2 at *
    generalize eu (view z m) (ay z k).v=g2 at *
    generalize view z m=g at *
    by_cases hmo:cI x<cI z
    ·rw[decide_eq_true hmo]
     (repeat' first|refine st ?_|refine sa fun xe hxe=>?_|refine sb (fun hq=>?_) fun hq=>?_|refine cr (hS) ?_|exact True.intro)
     exact⟨m+1,by omega,by omega,by rw[hds,decide_eq_true hmo2];rfl⟩
    ·rw[decide_eq_false hmo]
     have hlt2:(g.length:Int)<g2.length:=by omega
     (repeat' first|refine st ?_|refine sa fun xe hxe=>?_|refine sb (fun hq=>?_) fun hq=>?_|refine cr (hS) ?_|exact True.intro)
     exact⟨m+1,by omega,by omega,by rw[hds,decide_eq_true hmo2,decide_eq_true hlt2];rfl⟩
  ·obtain rfl:m=y.com.length:=by omega
   rw[←hps]
   have hc2:(aT x (k+1)).com.length=y.com.length:=by rw[hps,hdc.1]
   generalize hz:aT x (k+1)=z at *
   (repeat' first|refine st ?_|refine sa fun xe hxe=>?_|refine sb (fun hq=>?_) fun hq=>?_|exact True.intro)
   exact⟨k+1,by omega,by omega,by rw[hz];rfl⟩
 ·obtain rfl:k=x.props.length:=by omega
  have hpa:aT x x.props.length=pass x:=rfl
  rw[hpa] at hpc hpo hple
  rw[hpa]
  clear hpa hps
  have hyl:(pass x).props.length=x.props.length:=by rw[hpc.2]
  have htl:=pB hpo
  have htx:=pB hx
  have e1:cI x<cI (pass x)→bK x=bK (pass x):=fun hh=>by
   rw[bK]
   exact dif_pos ⟨hh,htl⟩
  have e2:¬cI x<cI (pass x)→bK x=pass x:=fun hh=>by
   rw[bK]
   exact dif_neg fun h9=>hh h9.1
  generalize pass x=z at *
  (repeat' first|refine st ?_|refine sa fun xe hxe=>?_|refine sb (fun hq=>?_) fun hq=>?_|exact True.intro)
  refine⟨(decide (cI x<cI z),z),⟨hpo,fun hh=>?_,fun hh=>?_⟩,?_,rfl⟩
  ·rw[←hbt,e1 (of_decide_eq_true hh)]
  ·rw[←hbt,e2 (of_decide_eq_false hh)]
  ·dsimp only
   split
   ·rename_i hh
    have:=of_decide_eq_true hh
    simp only[if_true]
    omega
   ·simp only[if_true]
    omega
theorem Cm (w:Wrl)(h:WOK w):af Tryz.prog 79 [ap w] [] (ap (fx w)) []:=by
 have h7:=h.len
 have hpl:=h.plen
 refine aa al Tryz.func79 rfl rfl true 0 4 rfl rfl rfl rfl fun K hK hb1 hb2=>?_;simp only[ae,enc,Nat.reduceAdd]
 clear hb1 hb2
 (repeat' first|refine st ?_|refine sa fun xe hxe=>?_|refine sb (fun hq=>?_) fun hq=>?_|exact True.intro)
 refine ab hK [] [1,2,3] (fun k:Nat=>⟨[(1,.ptr 4 0),(2,.ptr 5 0),(3,.int .i64 (k:Int))],[(4,.var 33 (ap (cJ w k)).cells),(5,.var 33 sR)],6⟩) (fun k=>k≤w.props.length) (fun k=>w.props.length-k) 0 (by omega) rfl ?_
 intro k hk
 have hpc:=dR w k
 have hpo:=cF h k
 have hps:cJ w (k+1)=iA (cJ w k) k (cJ w k).com.length:=rfl
 by_cases hlt:k<w.props.length
 ·generalize cJ w k=y at *
  have hyc:y.com.length=w.com.length:=by rw[hpc.1]
  (repeat' first|refine st ?_|refine sa fun xe hxe=>?_|refine sb (fun hq=>?_) fun hq=>?_|exact True.intro)
  refine ab hK [] [1,2,3,4] (fun m:Nat=>⟨[(1,.ptr 4 0),(2,.ptr 5 0),(3,.int .i64 (k:Int)),(4,.int .i64 (m:Int))],[(4,.var 33 (ap (iA y k m)).cells),(5,.var 33 sR)],6⟩) (fun m=>m≤y.com.length) (fun m=>y.com.length-m) 0 (by omega) rfl ?_
  intro m hm
  have hdc:=kl y k m
  have hdo:=lX hpo k m
  have hds:iA y k (m+1)=eR (iA y k m) m k:=rfl
  by_cases hml:m<y.com.length
  ·generalize iA y k m=z at *
   have hzc:z.com.length=y.com.length:=by rw[hdc.1]
   have hS:=Cl z m k hdo
   generalize eR z m k=z2 at *
   (repeat' first|refine st ?_|refine sa fun xe hxe=>?_|refine sb (fun hq=>?_) fun hq=>?_|refine cr (hS) ?_|exact True.intro)
   exact⟨m+1,by omega,by omega,by rw[hds];rfl⟩
  ·obtain rfl:m=y.com.length:=by omega
   rw[←hps]
   have hc2:(cJ w (k+1)).com.length=y.com.length:=by rw[hps,hdc.1]
   generalize hz:cJ w (k+1)=z at *
   (repeat' first|refine st ?_|refine sa fun xe hxe=>?_|refine sb (fun hq=>?_) fun hq=>?_|exact True.intro)
   exact⟨k+1,by omega,by omega,by rw[hz];rfl⟩
 ·obtain rfl:k=w.props.length:=by omega
  have hpa:cJ w w.props.length=fx w:=rfl
  rw[hpa] at hpc hpo
  rw[hpa]
  clear hpa hps
  have hyl:=hpc.2
  generalize fx w=z at *
  (repeat' first|refine st ?_|refine sa fun xe hxe=>?_|refine sb (fun hq=>?_) fun hq=>?_|exact True.intro)
  exact⟨rfl,rfl⟩
theorem wq (w:Wrl)(h:WOK w):af Tryz.prog 60 [ap w] [] (ap w) []:=by
 have h7:=h.len
 have hvl:=h.vlen
 have hpl:=h.plen
 have hll:=(be.1 h.lead).2
 refine aa al Tryz.func60 rfl rfl true 0 4 rfl rfl rfl rfl fun K hK hb1 hb2=>?_;simp only[ae,enc,Nat.reduceAdd]
 clear hb1 hb2
 (repeat' first|refine st ?_|refine sa fun xe hxe=>?_|refine sb (fun hq=>?_) fun hq=>?_|exact True.intro)
 refine ab hK [] [1,2,3,4] (fun i:Nat=>⟨[(1,.ptr 4 0),(2,.ptr 5 0),(3,.ptr 6 0),(4,.int .i64 (i:Int))],[(4,.var 33 (ap w).cells),(5,.var 33 sR),(6,.var 33 [.ref 7,.ref 8,.int .i64 w.bad,.ref 9,.ref 10]),(7,.row 3 (.int .i64) w.com),(8,.row 3 (.int .i64) w.lead),(9,.row 73 (.lst .vtx) (w.views.take i)),(10,.row 50 .ppl [])],11⟩) (fun i=>i≤w.views.length) (fun i=>w.views.length-i) 0 (by omega) rfl ?_
 intro i hi
 by_cases hlt:i<w.views.length
 ·have hxe:w.views[i]?=some w.views[i]:=List.getElem?_eq_getElem hlt
  have hsn:w.views.take (i+1)=w.views.take i++[w.views[i]]:=List.take_succ_eq_append_getElem hlt
  have hgm:=List.getElem_mem hlt
  have hC:=ss w.views[i] (by have:=h.vl _ hgm;omega) fun v hv=>by have:=h.par (h.vv _ hgm v hv);omega
  have hl1:(w.views.take i).length=i:=by rw[List.length_take];omega
  generalize w.views[i]=g at *
  generalize w.views.take i=l at *
  (repeat' first|refine st ?_|refine sa fun xe hxe=>?_|refine sb (fun hq=>?_) fun hq=>?_|refine cr (hC) ?_|exact True.intro)
  exact⟨i+1,by omega,by omega,by rw[hsn];rfl⟩
 rw[List.take_of_length_le (by omega)]
 (repeat' first|refine st ?_|refine sa fun xe hxe=>?_|refine sb (fun hq=>?_) fun hq=>?_|exact True.intro)
 refine ab hK [] [1,2,3,5] (fun i:Nat=>⟨[(1,.ptr 4 0),(2,.ptr 5 0),(3,.ptr 6 0),(5,.int .i64 (i:Int))],[(4,.var 33 (ap w).cells),(5,.var 33 sR),(6,.var 33 [.ref 7,.ref 8,.int .i64 w.bad,.ref 9,.ref 10]),(7,.row 3 (.int .i64) w.com),(8,.row 3 (.int .i64) w.lead),(9,.row 73 (.lst .vtx) w.views),(10,.row 50 .ppl (w.props.take i))],11⟩) (fun i=>i≤w.props.length) (fun i=>w.props.length-i) 0 (by omega) rfl ?_
 intro k hk
 by_cases hkl:k<w.props.length
 ·have hxe:w.props[k]?=some w.props[k]:=List.getElem?_eq_getElem hkl
  have hsn:w.props.take (k+1)=w.props.take k++[w.props[k]]:=List.take_succ_eq_append_getElem hkl
  have hpm:=List.getElem_mem hkl
  have hC:=kO w.props[k].v (by have:=h.par (h.pv _ hpm).1;omega)
  have hm:=h.mem _ hpm
  have hl1:(w.props.take k).length=k:=by rw[List.length_take];omega
  generalize w.props[k]=p at *
  generalize w.props.take k=l at *
  (repeat' first|refine st ?_|refine sa fun xe hxe=>?_|refine sb (fun hq=>?_) fun hq=>?_|refine cr (hC) ?_|exact True.intro)
  exact⟨k+1,by omega,by omega,by rw[hsn];rfl⟩
 ·(repeat' first|refine st ?_|refine sa fun xe hxe=>?_|refine sb (fun hq=>?_) fun hq=>?_|exact True.intro)
  rw[List.take_of_length_le (by omega)]
  exact⟨rfl,rfl⟩
theorem EZ {w:Wrl}(h:WOK w):w.com.length≤2000000:=by have:=h.len;omega
theorem sr (w:Wrl)(r:Nat)(h:WOK w)(hr:r≤12):af Tryz.prog 32 [ap w,.int .i64 (r:Int)] [] (ap (aX w r)) []:=by
 have hV:=uG w (EZ h)
 rw[ce.2 h] at hV
 have hI:=kG (r:Int) 0 12
 rw[ar.2 (by omega)] at hI
 have hS:=wz w h
 refine aa al Tryz.func32 rfl rfl true 0 4 rfl rfl rfl rfl fun K hK hb1 hb2=>?_;simp only[ae,enc,Nat.reduceAdd]
 clear hb1 hb2
 (repeat' first|refine st ?_|refine sa fun xe hxe=>?_|refine sb (fun hq=>?_) fun hq=>?_|refine cr (hV) ?_|refine cr (hI) ?_|refine cr (hS) ?_|exact True.intro)
 refine ab hK [] [1,2,4,5] (fun k:Nat=>⟨[(1,.int .i64 (r:Int)),(2,.ptr 4 0),(4,.ptr 5 0),(5,.int .i64 (k:Int))],[(4,.var 33 (ap (aX w k)).cells),(5,.var 33 sR)],6⟩) (fun k=>k≤r) (fun k=>r-k) 0 (by omega) rfl ?_
 intro k hk
 have hco:=cD h k
 have hcs:aX w (k+1)=gb (df (gb (aX w k)) k (gb (aX w k)).com.length):=rfl
 by_cases hlt:k<r
 ·generalize aX w k=x at *
  have h1:=Cm x hco
  have h2:=wz (fx x) (cF hco _)
  have hr1:bK (fx x)=gb x:=rfl
  have hro:=gm hco
  rw[hr1] at h2
  generalize fx x=x1 at *
  generalize gb x=y at *
  (repeat' first|refine st ?_|refine sa fun xe hxe=>?_|refine sb (fun hq=>?_) fun hq=>?_|refine cr (h1) ?_|refine cr (h2) ?_|exact True.intro)
  refine ab hK [] [1,2,4,5,6] (fun m:Nat=>⟨[(1,.int .i64 (r:Int)),(2,.ptr 4 0),(4,.ptr 5 0),(5,.int .i64 (k:Int)),(6,.int .i64 (m:Int))],[(4,.var 33 (ap (df y k m)).cells),(5,.var 33 sR)],6⟩) (fun m=>m≤y.com.length) (fun m=>y.com.length-m) 0 (by omega) rfl ?_
  intro m hm
  have hdc:=ka y k m
  have hdo:=fU hro k m
  have hyl:=hro.len
  have hds:df y k (m+1)=ew (df y k m) m (7*k+m):=rfl
  by_cases hml:m<y.com.length
  ·generalize df y k m=z at *
   have hzc:z.com.length=y.com.length:=by rw[hdc]
   have hP:=Cf z m (7*k+m) hdo
   generalize ew z m (7*k+m)=z2 at *
   (repeat' first|refine st ?_|refine sa fun xe hxe=>?_|refine sb (fun hq=>?_) fun hq=>?_|refine cr (hP) ?_|exact True.intro)
   exact⟨m+1,by omega,by omega,by rw[hds];rfl⟩
  ·obtain rfl:m=y.com.length:=by omega
   have hzc:(df y k y.com.length).com.length=y.com.length:=by rw[hdc]
   generalize df y k y.com.length=z at *
   have h3:=Cm z hdo
   have h4:=wz (fx z) (cF hdo _)
   have hr2:bK (fx z)=gb z:=rfl
   rw[hr2] at h4
   generalize fx z=z1 at *
   generalize gb z=z2 at *
   (repeat' first|refine st ?_|refine sa fun xe hxe=>?_|refine sb (fun hq=>?_) fun hq=>?_|refine cr (h3) ?_|refine cr (h4) ?_|exact True.intro)
   exact⟨k+1,by omega,by omega,by rw[hcs];rfl⟩
 ·obtain rfl:k=r:=by omega
  have hC:=wq (aX w k) hco
  generalize aX w k=x at *
  (repeat' first|refine st ?_|refine sa fun xe hxe=>?_|refine sb (fun hq=>?_) fun hq=>?_|refine cr (hC) ?_|exact True.intro)
  exact⟨rfl,rfl⟩
theorem GZ {c:List Int}(h:∀x∈c,0≤x∧x≤255):o7 (c.take 2000) 0:=⟨by rw[List.length_take];omega,fun x hx=>h x (List.mem_of_mem_take hx),by omega,by omega⟩

end Go.Proofs.YthmfppknagbkeaaGreatDoor.Am
