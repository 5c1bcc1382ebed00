/- Lanes: what the specification's functions give. Lanes: what the specification's LanesRun gives. Ledgers: what the program's functions give. Lanes: how the program divides transactions into lanes. Lanes: what a lane does on its own. The library's functions of the WaitGroup under this program's numbers. sync.WaitGroup's Add(-1) and Done, beside others. sync.WaitGroup's Add(+1), beside others. -/
import Derived.Test.YtbmnihglaokhmaaChecked
import Derived.Conc.WgGenN3
import Derived.Test.YtbmnihglaokhmaaLN7
set_option linter.unusedSimpArgs false
set_option linter.unusedVariables false
set_option maxHeartbeats 1000000
namespace Go.Proofs.Ytbmnihglaokhmaa.Am
open Go
set_option linter.unusedSectionVars false
variable [PhC Try.prog]
attribute [local irreducible] Mk ct Ari fF nD j7 cO dR jv gP At bt
set_option maxRecDepth 10000
theorem Dh (a b s e a' b' s' e':Int):bt Try.prog 78 [.agg [.int .i64 a,.int .i64 b,.int .i64 s,.int .i64 e],.agg [.int .i64 a',.int .i64 b',.int .i64 s',.int .i64 e']] [] (.bool (dT ⟨a,b,s,e⟩ ⟨a',b',s',e'⟩)) []:=by
 refine bg bf Try.func78 rfl rfl false 0 4 rfl rfl rfl rfl fun K hK hb1 hb2=>?_;simp only[bD,enc,Nat.reduceAdd]
 clear hb1 hb2
 (repeat' first|refine st ?_|refine sa fun xe hxe=>?_|refine sb (fun hq=>?_) fun hq=>?_|exact aC)
 all_goals (refine⟨congrArg V.bool ?_,rfl⟩;(first|rfl|(simp[dT];done)|(simp_all[dT];done)|(rw[Bool.eq_iff_iff];(try simp[dT] at *);omega)|(simp_all[dT];omega)))
def fZ (ts:List Txn):Bool:=decide (ts.length≤16) && ts.all bZ
theorem BS (ts:List Txn):bt Try.prog 39 [.lst .txn ts] [] (.bool (fZ ts)) []:=by
 refine bg bf Try.func39 rfl rfl false 0 4 rfl rfl rfl rfl fun K hK hb1 hb2=>?_;simp only[bD,enc,Nat.reduceAdd]
 simp[aB,V.toD,bnd,aj,D.cells] at hb1
 clear hb2
 (repeat' first|refine st ?_|refine sa fun xe hxe=>?_|refine sb (fun hq=>?_) fun hq=>?_|exact aC)
 refine bw hK [] [0,2,3] (fun i:Nat=>⟨[(0,.lst .txn ts),(2,.bool false),(3,.int .i64 i)],[],4⟩) (fun i=>i≤ts.length∧∀x∈ts.take i,bZ x=true) (fun i=>ts.length-i) 0 ⟨by simp,by simp⟩ rfl ?_
 rintro i ⟨hi,hall⟩
 by_cases hlt:i<ts.length
 ·have hx:ts[i]?=some (ts[i]):=a6 hlt
  have hm:ts[i]∈ts:=fh hlt
  have ht:ts.take (i+1)=ts.take i++[ts[i]]:=pW hlt
  generalize ts[i]=x at *
  obtain⟨x1,x2,x3,x4⟩:=x
  cases hv:bZ ⟨x1,x2,x3,x4⟩
  ·have hal:fZ ts=false:=by
    simp only[fZ,mi]
    right
    rw[List.all_eq_false]
    exact⟨_,hm,by simp[hv]⟩
   have hc:=jj x1 x2 x3 x4
   rw[hv] at hc
   rw[hal]
   (repeat' first|refine st ?_|refine sa fun xe hxe=>?_|refine sb (fun hq=>?_) fun hq=>?_|refine cr (hc) ?_|exact aC)
   all_goals exact⟨rfl,rfl⟩
  ·have hc:=jj x1 x2 x3 x4
   rw[hv] at hc
   (repeat' first|refine st ?_|refine sa fun xe hxe=>?_|refine sb (fun hq=>?_) fun hq=>?_|refine cr (hc) ?_|exact aC)
   refine⟨i+1,⟨hlt,?_⟩,by omega,rfl⟩
   rw[ht]
   intro y hy
   rcases cm.1 hy with hy|hy
   ·exact hall y hy
   ·rw[bd.1 hy];exact hv
 ·have hal:ts.all bZ=true:=by
   rw[bc]
   rw[ii (by omega)] at hall
   exact hall
  (repeat' first|refine st ?_|refine sa fun xe hxe=>?_|refine sb (fun hq=>?_) fun hq=>?_|exact aC)
  all_goals (refine⟨?_,rfl⟩;simp only[fZ,hal,Bool.and_true];(first|rfl|(congr 1;simp;omega)|(simp;omega)))
def wz (lab:List Int)(n f:Nat):List Int:=(fV lab n f).map fun i:Nat=>(i:Int)
def ft (lab:List Int)(n k:Nat):List (List Int):=(cK lab n k).map fun L=>L.map fun i:Nat=>(i:Int)
theorem za (i:Nat):kT (i+1)=kT i++[(i:Int)]:=by simp[kT,gO]
theorem o4 (i:Nat):(kT i).length=i:=by simp[kT]
theorem Az (i n:Nat)(h:i≤n):(kT i++List.replicate (n-i) (0:Int)).length=n:=by simp[o4];omega
theorem AA (i n:Nat)(h:i<n):(kT i++List.replicate (n-i) (0:Int)).set i (i:Int)=kT (i+1)++List.replicate (n-(i+1)) 0:=by
 rw[List.set_append_right _ _ (by rw[o4];omega),o4,Nat.sub_self,za,show n-i=(n-(i+1))+1 by omega,List.replicate_succ,List.set_cons_zero]
 simp
theorem jI {l:List Int}{i:Nat}(h:i<l.length):l[i]?=some (l.getD i 0):=by rw[aX,a6 h];rfl
theorem qR (lab:List Int)(i f:Nat):(fV lab (i+1) f).map (fun i:Nat=>(i:Int))=if lab.getD i 0=(f:Int) then(fV lab i f).map (fun i:Nat=>(i:Int))++[(i:Int)] else(fV lab i f).map fun i:Nat=>(i:Int):=by
 simp only[fV,gO,List.filter_append,List.filter_cons,List.filter_nil]
 by_cases h:lab.getD i 0=(f:Int)
 ·rw[if_pos h,if_pos (by simpa using h)];simp
 ·rw[if_neg h,if_neg (by simpa using h)];simp
theorem jN (lab:List Int)(n f:Nat):ft lab n (f+1)=ft lab n f++(if(wz lab n f).length=0 then[] else[wz lab n f]):=by
 unfold ft wz
 simp only[cK,jr,bH]
 by_cases h:fV lab n f=[]
 ·rw[if_pos h,if_pos (by simp[h])];rfl
 ·rw[if_neg h,if_neg (by simpa using h)];rfl
theorem tz {ts:List Txn}{i k:Nat}{t u:Txn}(hi:ts[i]?=some t)(hk:ts[k]?=some u):confI ts i k=dT t u:=by simp only[confI,hi,hk]
theorem BR (ts:List Txn)(hl:ts.length≤16):bt Try.prog 41 [.lst .txn ts] [] (.lst (.lst (.int .i64)) (ft (cu ts ts.length) ts.length ts.length)) []:=by
 refine bg bf Try.func41 rfl rfl true 0 4 rfl rfl rfl rfl fun K hK hb1 hb2=>?_;simp only[bD,enc,Nat.reduceAdd]
 clear hb1 hb2
 (repeat' first|refine st ?_|refine sa fun xe hxe=>?_|refine sb (fun hq=>?_) fun hq=>?_|exact aC)
 refine bw hK [] [0,2,3,4] (fun i:Nat=>⟨[(0,.lst .txn ts),(2,.nils),(3,.ref 4),(4,.int .i64 i)],[(4,.row 3 (.int .i64) (kT i++List.replicate (ts.length-i) 0))],5⟩) (fun i=>i≤ts.length) (fun i=>ts.length-i) 0 (by simp) (by rfl) ?_
 intro i hi
 have hlen:=Az i ts.length hi
 by_cases hlt:i<ts.length
 ·have hset:=AA i ts.length hlt
  generalize kT i++List.replicate (ts.length-i) 0=L at *
  (repeat' first|refine st ?_|refine sa fun xe hxe=>?_|refine sb (fun hq=>?_) fun hq=>?_|exact aC)
  refine⟨i+1,hlt,by omega,?_⟩
  rw[←hset]
  rfl
 have:i=ts.length:=by omega
 subst this
 have e0:kT ts.length++List.replicate (ts.length-ts.length) 0=cu ts 0:=by simp[cu]
 rw[e0]
 clear hlt hi hlen e0
 (repeat' first|refine st ?_|refine sa fun xe hxe=>?_|refine sb (fun hq=>?_) fun hq=>?_|exact aC)
 refine bw hK [] [0,2,3,5] (fun r:Nat=>⟨[(0,.lst .txn ts),(2,.nils),(3,.ref 4),(5,.int .i64 r)],[(4,.row 3 (.int .i64) (cu ts r))],5⟩) (fun r=>r≤ts.length) (fun r=>ts.length-r) 0 (by simp) (by rfl) ?_
 intro r hr
 by_cases hlt:r<ts.length
 ·have hlab:=da ts r
  have hrd:cu ts (r+1)=fW ts (cu ts r):=rfl
  generalize cu ts r=lab at *
  (repeat' first|refine st ?_|refine sa fun xe hxe=>?_|refine sb (fun hq=>?_) fun hq=>?_|exact aC)
  refine bw hK [] [0,2,3,5,6] (fun i:Nat=>⟨[(0,.lst .txn ts),(2,.nils),(3,.ref 4),(5,.int .i64 r),(6,.int .i64 i)],[(4,.row 3 (.int .i64) ((List.range i).foldl (rowS ts) lab))],5⟩) (fun i=>i≤ts.length) (fun i=>ts.length-i) 0 (by simp) (by rfl) ?_
  intro i hi
  have hl1:((List.range i).foldl (rowS ts) lab).length=ts.length:=(dk (ts:=ts) (n:=ts.length) (fun lab k hk hl=>rowS_keeps hk hl) _ _ (fun k hk=>by have:=gL.1 hk;omega) hlab).len.trans hlab
  by_cases hlt2:i<ts.length
  ·have hstep:(List.range (i+1)).foldl (rowS ts) lab=rowS ts ((List.range i).foldl (rowS ts) lab) i:=by rw[gO,List.foldl_append];rfl
   generalize (List.range i).foldl (rowS ts) lab=lab1 at *
   have hxi:ts[i]?=some ts[i]:=a6 hlt2
   generalize ts[i]=ti at *
   obtain⟨x1,x2,x3,x4⟩:=ti
   (repeat' first|refine st ?_|refine sa fun xe hxe=>?_|refine sb (fun hq=>?_) fun hq=>?_|exact aC)
   refine bw hK [] [0,2,3,5,6,7] (fun k:Nat=>⟨[(0,.lst .txn ts),(2,.nils),(3,.ref 4),(5,.int .i64 r),(6,.int .i64 i),(7,.int .i64 k)],[(4,.row 3 (.int .i64) ((List.range k).foldl (dX ts i) lab1))],5⟩) (fun k=>k≤i) (fun k=>i-k) 0 (by simp) (by rfl) ?_
   intro k hk
   have hl2:((List.range k).foldl (dX ts i) lab1).length=ts.length:=(dk (ts:=ts) (n:=i) (fun lab k hk hl=>fM (by omega) (by omega)) _ _ (fun j hj=>by have:=gL.1 hj;omega) hl1).len.trans hl1
   by_cases hlt3:k<i
   ·have hstep2:(List.range (k+1)).foldl (dX ts i) lab1=dX ts i ((List.range k).foldl (dX ts i) lab1) k:=by rw[gO,List.foldl_append];rfl
    generalize (List.range k).foldl (dX ts i) lab1=lab2 at *
    have hk':k<ts.length:=by omega
    have hxk:ts[k]?=some ts[k]:=a6 hk'
    generalize ts[k]=tk at *
    obtain⟨y1,y2,y3,y4⟩:=tk
    have hcf:=tz hxi hxk
    have hg1:lab2[i]?=some (lab2.getD i 0):=jI (by omega)
    have hg2:lab2[k]?=some (lab2.getD k 0):=jI (by omega)
    have hc:=Dh x1 x2 x3 x4 y1 y2 y3 y4
    cases hcb:dT ⟨x1,x2,x3,x4⟩ ⟨y1,y2,y3,y4⟩
    ·rw[hcb] at hc hcf
     have he:dX ts i lab2 k=lab2:=by unfold dX;rw[hcf];rfl
     (repeat' first|refine st ?_|refine sa fun xe hxe=>?_|refine sb (fun hq=>?_) fun hq=>?_|refine cr (hc) ?_|exact aC)
     refine⟨k+1,by omega,by omega,?_⟩
     rw[hstep2,he]
     rfl
    ·rw[hcb] at hc hcf
     have he:dX ts i lab2 k=wJ lab2 i k:=by unfold dX;rw[hcf];rfl
     (repeat' first|refine st ?_|refine sa fun xe hxe=>?_|refine sb (fun hq=>?_) fun hq=>?_|refine cr (hc) ?_|exact aC)
     refine⟨k+1,by omega,by omega,?_⟩
     have hmin:(if lab2.getD k 0<lab2.getD i 0 then lab2.getD k 0 else lab2.getD i 0)=min (lab2.getD i 0) (lab2.getD k 0):=by split<;>omega
     rw[hstep2,he,wJ,←hmin]
     rfl
   ·have:k=i:=by omega
    subst this
    have he:(List.range k).foldl (dX ts k) lab1=rowS ts lab1 k:=rfl
    rw[he] at *
    (repeat' first|refine st ?_|refine sa fun xe hxe=>?_|refine sb (fun hq=>?_) fun hq=>?_|exact aC)
    refine⟨k+1,by omega,by omega,?_⟩
    rw[hstep]
    rfl
  ·have:i=ts.length:=by omega
   subst this
   have he:(List.range ts.length).foldl (rowS ts) lab=fW ts lab:=rfl
   rw[he] at *
   (repeat' first|refine st ?_|refine sa fun xe hxe=>?_|refine sb (fun hq=>?_) fun hq=>?_|exact aC)
   refine⟨r+1,by omega,by omega,?_⟩
   rw[hrd]
   rfl
 have:r=ts.length:=by omega
 subst this
 have hlab:=da ts ts.length
 clear hlt hr
 generalize cu ts ts.length=lab at *
 have hN:ts.length=ts.length:=rfl
 (repeat' first|refine st ?_|refine sa fun xe hxe=>?_|refine sb (fun hq=>?_) fun hq=>?_|exact aC)
 refine bw hK [] [0,2,3,9,10] (fun f:Nat=>⟨[(0,.lst .txn ts),(2,.nils),(3,.ref 4),(9,.ref 5),(10,.int .i64 f)],[(4,.row 3 (.int .i64) lab),(5,.row 23 (.lst (.int .i64)) (ft lab ts.length f))],6⟩) (fun f=>f≤ts.length) (fun f=>ts.length-f) 0 (by simp) (by rfl) ?_
 intro f hf
 have hzl:(ft lab ts.length f).length≤f:=by
  clear hf
  induction f with
  |zero=>simp[ft,cK]
  |succ f ih=>rw[jN,ck];split<;>simp<;>omega
 by_cases hlt:f<ts.length
 ·have hstep:=jN lab ts.length f
  generalize ft lab ts.length f=Z at *
  (repeat' first|refine st ?_|refine sa fun xe hxe=>?_|refine sb (fun hq=>?_) fun hq=>?_|exact aC)
  refine bw hK [] [0,2,3,9,10,11,12] (fun i:Nat=>⟨[(0,.lst .txn ts),(2,.nils),(3,.ref 4),(9,.ref 5),(10,.int .i64 f),(11,.ref 6),(12,.int .i64 i)],[(4,.row 3 (.int .i64) lab),(5,.row 23 (.lst (.int .i64)) Z),(6,.row 3 (.int .i64) ((fV lab i f).map fun i:Nat=>(i:Int)))],7⟩) (fun i=>i≤ts.length) (fun i=>ts.length-i) 0 (by simp) (by rfl) ?_
  intro i hi
  have hgl:((fV lab i f).map fun i:Nat=>(i:Int)).length≤i:=by rw[bH];exact gK (List.length_filter_le _ _) (by simp)
  by_cases hlt2:i<ts.length
  ·have hs2:=qR lab i f
   have hg:lab[i]?=some (lab.getD i 0):=jI (by omega)
   generalize (fV lab i f).map (fun i:Nat=>(i:Int))=G at *
   by_cases hc:lab.getD i 0=(f:Int)
   ·rw[if_pos hc] at hs2
    (repeat' first|refine st ?_|refine sa fun xe hxe=>?_|refine sb (fun hq=>?_) fun hq=>?_|exact aC)
    refine⟨i+1,by omega,by omega,?_⟩
    rw[hs2]
    rfl
   ·rw[if_neg hc] at hs2
    (repeat' first|refine st ?_|refine sa fun xe hxe=>?_|refine sb (fun hq=>?_) fun hq=>?_|exact aC)
    refine⟨i+1,by omega,by omega,?_⟩
    rw[hs2]
    rfl
  ·have:i=ts.length:=by omega
   subst this
   have he:(fV lab ts.length f).map (fun i:Nat=>(i:Int))=wz lab ts.length f:=rfl
   rw[he] at *
   generalize wz lab ts.length f=G at *
   by_cases hc:G.length=0
   ·rw[if_pos hc] at hstep
    (repeat' first|refine st ?_|refine sa fun xe hxe=>?_|refine sb (fun hq=>?_) fun hq=>?_|exact aC)
    refine⟨f+1,by omega,by omega,?_⟩
    rw[hstep,il]
    rfl
   ·rw[if_neg hc] at hstep
    (repeat' first|refine st ?_|refine sa fun xe hxe=>?_|refine sb (fun hq=>?_) fun hq=>?_|exact aC)
    refine⟨f+1,by omega,by omega,?_⟩
    rw[hstep]
    rfl
 ·have:f=ts.length:=by omega
  subst this
  (repeat' first|refine st ?_|refine sa fun xe hxe=>?_|refine sb (fun hq=>?_) fun hq=>?_|exact aC)
  exact⟨rfl,rfl⟩
end Go.Proofs.Ytbmnihglaokhmaa.Am
namespace Go.Proofs.Ytbmnihglaokhmaa.Am
open Go
set_option linter.unusedSectionVars false
variable [PhC Try.prog]
attribute [local irreducible] Mk ct Ari fF nD j7 cO dR jv gP At bt
set_option maxRecDepth 10000
def iv (lanes:List (List Nat))(p k:Nat):List Nat:=(lanes.take p).flatten++(lanes.getD p []).take k
theorem rg (lanes:List (List Nat))(p:Nat):iv lanes p 0=(lanes.take p).flatten:=by simp[iv]
theorem zy {lanes:List (List Nat)}{p k i:Nat}{L:List Nat}(hp:lanes[p]?=some L)(hk:L[k]?=some i):iv lanes p (k+1)=iv lanes p k++[i]:=by
 have hg:lanes.getD p []=L:=by rw[aX,hp];rfl
 obtain⟨hlt,rfl⟩:=cz.1 hk
 simp only[iv,hg,pW hlt,cV]
theorem zx {lanes:List (List Nat)}{p:Nat}{L:List Nat}(hp:lanes[p]?=some L):iv lanes p L.length=(lanes.take (p+1)).flatten:=by
 have hg:lanes.getD p []=L:=by rw[aX,hp];rfl
 obtain⟨hlt,rfl⟩:=cz.1 hp
 unfold iv
 rw[hg,pW hlt,List.flatten_append,List.take_length,List.flatten_cons,List.flatten_nil,il]
theorem BC (lanes:List (List Nat))(p k:Nat):(iv lanes p k).Sublist lanes.flatten:=by
 have h1:lanes.flatten=(lanes.take p).flatten++(lanes.drop p).flatten:=by rw[←List.flatten_append,List.take_append_drop]
 rw[h1]
 refine List.Sublist.append (List.Sublist.refl _) ?_
 rcases cY p lanes.length with hp|hp
 ·rw[nB hp,List.flatten_cons,aX,a6 hp]
  exact(List.take_sublist _ _).trans (List.sublist_append_left _ _)
 ·rw[aX,js hp]
  simp
theorem LanesOK.len {ts:List Txn}{lanes:List (List Nat)}(h:LanesOK ts lanes):lanes.flatten.length=ts.length:=by
 have:lanes.flatten.Perm (List.range ts.length):=(List.perm_ext_iff_of_nodup h.nodup List.nodup_range).2 fun a=>by rw[h.mem,gL]
 rw[this.length_eq,List.length_range]
theorem BD {ts:List Txn}{lanes:List (List Nat)}(h:LanesOK ts lanes){l:Led}(hok:mV l)(hf:l.f+9*ts.length≤99000)(o:List Bool)(p k:Nat):mV (df ts (l,o) (iv lanes p k)).1∧(df ts (l,o) (iv lanes p k)).1.f≤l.f+9*ts.length∧(df ts (l,o) (iv lanes p k)).2.length=o.length:=by
 have hs:=BC lanes p k
 have hl:(iv lanes p k).length≤ts.length:=by rw[←h.len];exact hs.length_le
 have hm:∀i∈iv lanes p k,i<ts.length:=fun i hi=>(h.mem i).1 (hs.subset hi)
 rw[pC ts _ l o hm]
 have:=nZ l ((iv lanes p k).map fun i=>ts.getD i ⟨0,0,0,0⟩) hok (by rw[bH];omega)
 rw[bH] at this
 exact⟨this.1,by omega,jg ..⟩
theorem i6 {ts:List Txn}{lanes:List (List Nat)}(h:LanesOK ts lanes){p k i:Nat}{L:List Nat}(hp:lanes[p]?=some L)(hk:L[k]?=some i):i<ts.length:=
 (h.mem i).1 (List.mem_flatten.2 ⟨L,dm hp,dm hk⟩)
theorem pc {ts:List Txn}{lanes:List (List Nat)}(h:LanesOK ts lanes){p:Nat}{L:List Nat}(hp:lanes[p]?=some L):L.length≤ts.length:=by
 rw[←h.len]
 exact(List.sublist_flatten_of_mem (dm hp)).length_le
theorem yl {ts:List Txn}(hv:∀t∈ts,bZ t=true){lanes:List (List Nat)}(h:LanesOK ts lanes)(l:Led):df ts (l,List.replicate ts.length false) (lanes.take lanes.length).flatten=(bR l ts,dx l ts):=by
 rw[List.take_length,h.run hv,pD ts l _ (by simp) ts.length (aN _),List.take_length]
 simp
theorem mP (lab:List Int)(n k:Nat):ft lab n k=(cK lab n k).map fun L=>L.map fun i:Nat=>(i:Int):=rfl
theorem i7 (lab:List Int)(n:Nat):∀k,(cK lab n k).length≤k
 |0=>aN _
 |k+1=>by
  have:=i7 lab n k
  simp only[cK,ck]
  split<;>simp<;>omega
def pb (l:Led)(ts:List Txn):Bool:=gd l 16 && fZ ts
theorem sx {b:List Int}{f:Int}{ts:List Txn}(h:pb ⟨b,f⟩ ts=true):gd ⟨b,f⟩ 16=true∧fZ ts=true∧ts.length≤16∧(∀t∈ts,bZ t=true)∧mV ⟨b,f⟩∧f+9*ts.length≤99000:=by
 simp only[pb,b6] at h
 obtain⟨h1,h2⟩:=ut (by omega) h.1
 have h3:=h.2
 simp only[fZ,b6,decide_eq_true_eq,bc] at h3
 exact⟨h.1,h.2,h3.1,h3.2,h1,by omega⟩
theorem nv (b:List Int)(f:Int)(ts:List Txn):bt Try.prog 9 [.agg [.lst (.int .i64) b,.int .i64 f],.lst .txn ts] []
  (if pb ⟨b,f⟩ ts then .tup [.agg [.lst (.int .i64) (bR ⟨b,f⟩ ts).b,.int .i64 (bR ⟨b,f⟩ ts).f],.lst .bool (dx ⟨b,f⟩ ts)] else .tup [.agg [.nils,.int .i64 0],.lst .bool []]) []:=by
 refine bg bf Try.func9 rfl rfl true 0 4 rfl rfl rfl rfl fun K hK hb1 hb2=>?_;simp only[bD,enc,Nat.reduceAdd]
 simp[aB,V.toD,bnd,aj,D.cells] at hb1
 clear hb2
 have hroom:=EO b f 16 (by omega)
 have hval:=BS ts
 cases hv:pb ⟨b,f⟩ ts
 ·cases hr:gd ⟨b,f⟩ 16
  ·rw[hr] at hroom
   (repeat' first|refine st ?_|refine sa fun xe hxe=>?_|refine sb (fun hq=>?_) fun hq=>?_|refine cr (hroom) ?_|exact aC)
   exact⟨rfl,rfl⟩
  ·have hl:fZ ts=false:=by simpa[pb,hr] using hv
   rw[hr] at hroom
   rw[hl] at hval
   (repeat' first|refine st ?_|refine sa fun xe hxe=>?_|refine sb (fun hq=>?_) fun hq=>?_|refine cr (hroom) ?_|refine cr (hval) ?_|exact aC)
   exact⟨rfl,rfl⟩
 ·obtain⟨h1,h2,h3,h4,h5,h6⟩:=sx hv
  have hlen:b.length=6:=h5.1
  rw[h1] at hroom
  rw[h2] at hval
  have hlo:LanesOK ts (cK (cu ts ts.length) ts.length ts.length):=pe (CO ts)
  have hfin:=yl h4 hlo ⟨b,f⟩
  have hll:=i7 (cu ts ts.length) ts.length ts.length
  have hlc:=BR ts h3
  rw[mP] at hlc
  generalize cK (cu ts ts.length) ts.length ts.length=lanes at *
  (repeat' first|refine st ?_|refine sa fun xe hxe=>?_|refine sb (fun hq=>?_) fun hq=>?_|refine cr (hroom) ?_|refine cr (hval) ?_|refine cr (hlc) ?_|((with_reducible refine kS ?_);(conv=>whnf);(first|with_reducible refine dE (wd _ _ (by omega)) ?_);conv=>whnf)|exact aC)
  refine bw hK [6] [1,4,5,6,7,8,9] (fun p:Nat=>⟨[(1,.lst .txn ts),(4,.ptr 4 0),(5,.nils),(6,.ptr 5 0),(7,.ref 6),(8,.lst (.lst (.int .i64)) (lanes.map fun L=>L.map fun i:Nat=>(i:Int))),(9,.int .i64 p)],
   [(4,.var 25 [.nils,.int .i64 0]),(5,.var 25 [.lst (.int .i64) (df ts (⟨b,f⟩,List.replicate ts.length false) (lanes.take p).flatten).1.b,.int .i64 (df ts (⟨b,f⟩,List.replicate ts.length false) (lanes.take p).flatten).1.f]),(6,.row 4 .bool (df ts (⟨b,f⟩,List.replicate ts.length false) (lanes.take p).flatten).2)],7⟩)
   (fun p=>p≤lanes.length) (fun p=>lanes.length-p) 0 (by simp) (by rfl) ?_
  intro p hp
  have hzl:(lanes.map fun L=>L.map fun i:Nat=>(i:Int)).length=lanes.length:=bH ..
  by_cases hlt:p<lanes.length
  ·have hL:lanes[p]?=some lanes[p]:=a6 hlt
   generalize lanes[p]=L at *
   have hZ:(lanes.map fun L=>L.map fun i:Nat=>(i:Int))[p]?=some (L.map fun i:Nat=>(i:Int)):=by rw[cd,hL];rfl
   have hLl:=pc hlo hL
   have hml:(L.map fun i:Nat=>(i:Int)).length=L.length:=bH ..
   rw[←rg]
   (repeat' first|refine st ?_|refine sa fun xe hxe=>?_|refine sb (fun hq=>?_) fun hq=>?_|exact aC)
   refine bw hK [6] [1,4,5,6,7,8,9,10] (fun k:Nat=>⟨[(1,.lst .txn ts),(4,.ptr 4 0),(5,.nils),(6,.ptr 5 0),(7,.ref 6),(8,.lst (.lst (.int .i64)) (lanes.map fun L=>L.map fun i:Nat=>(i:Int))),(9,.int .i64 p),(10,.int .i64 k)],
    [(4,.var 25 [.nils,.int .i64 0]),(5,.var 25 [.lst (.int .i64) (df ts (⟨b,f⟩,List.replicate ts.length false) (iv lanes p k)).1.b,.int .i64 (df ts (⟨b,f⟩,List.replicate ts.length false) (iv lanes p k)).1.f]),(6,.row 4 .bool (df ts (⟨b,f⟩,List.replicate ts.length false) (iv lanes p k)).2)],7⟩)
    (fun k=>k≤L.length) (fun k=>L.length-k) 0 (by simp) (by rfl) ?_
   intro k hk
   obtain⟨o1,o2,o3⟩:=BD hlo h5 h6 (List.replicate ts.length false) p k
   rw[ij] at o3
   by_cases hlt2:k<L.length
   ·have hi:L[k]?=some L[k]:=a6 hlt2
    generalize L[k]=i at *
    have hiZ:(L.map fun i:Nat=>(i:Int))[k]?=some (i:Int):=by rw[cd,hi];rfl
    have hin:=i6 hlo hL hi
    have hx:ts[i]?=some ts[i]:=a6 hin
    generalize ts[i]=tc at *
    have hst:df ts (⟨b,f⟩,List.replicate ts.length false) (iv lanes p (k+1))=dV ts (df ts (⟨b,f⟩,List.replicate ts.length false) (iv lanes p k)) i:=by rw[zy hL hi,iS];rfl
    generalize df ts (⟨b,f⟩,List.replicate ts.length false) (iv lanes p k)=s at *
    obtain⟨⟨cb,cf⟩,co⟩:=s
    obtain⟨x,y,s,e⟩:=tc
    simp only[dV,hx] at hst
    have hcl:cb.length=6:=o1.1
    have ho3:co.length=ts.length:=o3
    generalize lanes.map (fun L=>L.map fun i:Nat=>(i:Int))=Z at *
    generalize L.map (fun i:Nat=>(i:Int))=LZ at *
    (repeat' first|refine st ?_|refine sa fun xe hxe=>?_|refine sb (fun hq=>?_) fun hq=>?_|refine cr (Cq _ _ _ _ _ _ o1) ?_|exact aC)
    refine⟨k+1,by omega,by omega,?_⟩
    rw[hst]
    rfl
   ·have:k=L.length:=by omega
    subst this
    have hfl:=zx hL
    have hst:df ts (⟨b,f⟩,List.replicate ts.length false) (iv lanes p L.length)=df ts (⟨b,f⟩,List.replicate ts.length false) (lanes.take (p+1)).flatten:=by rw[hfl]
    generalize hZZ:lanes.map (fun L=>L.map fun i:Nat=>(i:Int))=Z at *
    generalize L.map (fun i:Nat=>(i:Int))=LZ at *
    (repeat' first|refine st ?_|refine sa fun xe hxe=>?_|refine sb (fun hq=>?_) fun hq=>?_|exact aC)
    refine⟨p+1,by omega,by omega,?_⟩
    rw[←hst]
    rfl
  ·have:p=lanes.length:=by omega
   subst this
   rw[hfin]
   (repeat' first|refine st ?_|refine sa fun xe hxe=>?_|refine sb (fun hq=>?_) fun hq=>?_|exact aC)
   exact⟨rfl,rfl⟩
end Go.Proofs.Ytbmnihglaokhmaa.Am
namespace Go.Proofs.Ytbmnihglaokhmaa.Am
open Go
set_option linter.unusedSectionVars false
variable [PhC Try.prog]
attribute [local irreducible] Mk ct Ari fF nD j7 cO dR jv gP At bt
set_option maxRecDepth 10000
theorem tZ (n:Int):bt Try.prog 83 [.int .i64 n] [] (.bool (mm n 0 5)) []:=by
 refine bg bf Try.func83 rfl rfl false 0 4 rfl rfl rfl rfl fun K hK hb1 hb2=>?_;simp only[bD,enc,Nat.reduceAdd]
 (repeat' first|refine st ?_|refine sa fun xe hxe=>?_|refine sb (fun hq=>?_) fun hq=>?_|exact aC)
 all_goals (refine⟨congrArg V.bool ?_,rfl⟩;(first|rfl|(simp[mm];done)|(simp_all[mm];done)|(rw[Bool.eq_iff_iff];(try simp[mm] at *);omega)|(simp_all[mm];omega)))
theorem gW (a b s e:Int):bt Try.prog 56 [.agg [.int .i64 a,.int .i64 b,.int .i64 s,.int .i64 e]] [] (.bool (bZ ⟨a,b,s,e⟩)) []:=by
 refine bg bf Try.func56 rfl rfl false 0 4 rfl rfl rfl rfl fun K hK hb1 hb2=>?_;simp only[bD,enc,Nat.reduceAdd]
 clear hb1 hb2
 (repeat' first|refine st ?_|refine sa fun xe hxe=>?_|refine sb (fun hq=>?_) fun hq=>?_|refine cr (tZ _) ?_|exact aC)
 all_goals (refine⟨congrArg V.bool ?_,rfl⟩;(first|rfl|(simp[bZ,mm];done)|(simp_all[bZ,mm];done)|(rw[Bool.eq_iff_iff];(try simp[bZ,mm] at *);omega)|(simp_all[bZ,mm];omega)))
theorem jK (b:List Int)(f:Int):bt Try.prog 55 [.agg [.lst (.int .i64) b,.int .i64 f]] [] (.bool (kV ⟨b,f⟩)) []:=by
 refine bg bf Try.func55 rfl rfl false 0 4 rfl rfl rfl rfl fun K hK hb1 hb2=>?_;simp only[bD,enc,Nat.reduceAdd]
 simp[aB,V.toD,bnd,aj,D.cells] at hb1
 clear hb2
 by_cases hc:b.length=6∧0≤f∧f≤5994
 ·(repeat' first|refine st ?_|refine sa fun xe hxe=>?_|refine sb (fun hq=>?_) fun hq=>?_|exact aC)
  refine bw hK [] [2,20,21,22] (fun i:Nat=>⟨[(2,.bool false),(20,.lst (.int .i64) b),(21,.int .i64 b.length),(22,.int .i64 i)],[],4⟩) (fun i=>i≤b.length∧∀x∈b.take i,mm x 0 999=true) (fun i=>b.length-i) 0 ⟨by simp,by simp⟩ rfl ?_
  rintro i ⟨hi,hall⟩
  by_cases hlt:i<b.length
  ·have hx:b[i]?=some (b[i]):=a6 hlt
   have hm:b[i]∈b:=fh hlt
   have ht:b.take (i+1)=b.take i++[b[i]]:=pW hlt
   generalize b[i]=x at *
   by_cases hv:0≤x∧x≤999
   ·(repeat' first|refine st ?_|refine sa fun xe hxe=>?_|refine sb (fun hq=>?_) fun hq=>?_|exact aC)
    refine⟨i+1,⟨hlt,?_⟩,by omega,rfl⟩
    rw[ht]
    intro y hy
    rcases cm.1 hy with hy|hy
    ·exact hall y hy
    ·rw[bd.1 hy];simp only[mm,b6,decide_eq_true_eq];exact hv
   ·have hal:kV ⟨b,f⟩=false:=by
     simp only[kV,mi]
     left
     rw[List.all_eq_false]
     exact⟨x,hm,by simp only[mm,b6,decide_eq_true_eq];exact hv⟩
    rw[hal]
    (repeat' first|refine st ?_|refine sa fun xe hxe=>?_|refine sb (fun hq=>?_) fun hq=>?_|exact aC)
    all_goals exact⟨rfl,rfl⟩
  ·have hal:(b.all fun x=>mm x 0 999)=true:=by
    rw[bc]
    rw[ii (by omega)] at hall
    exact hall
   have hl:kV ⟨b,f⟩=true:=by
    unfold kV
    rw[hal]
    simp only[mm,Bool.true_and,b6,decide_eq_true_eq,beq_iff_eq]
    exact hc
   rw[hl]
   (repeat' first|refine st ?_|refine sa fun xe hxe=>?_|refine sb (fun hq=>?_) fun hq=>?_|exact aC)
   all_goals exact⟨rfl,rfl⟩
 ·have hl:kV ⟨b,f⟩=false:=by
   simp only[kV,mi]
   right
   simp only[mm,beq_eq_false_iff_ne,mi,decide_eq_false_iff_not]
   omega
  rw[hl]
  (repeat' first|refine st ?_|refine sa fun xe hxe=>?_|refine sb (fun hq=>?_) fun hq=>?_|exact aC)
  all_goals exact⟨rfl,rfl⟩
theorem wO (b:List Int)(f:Int)(h:b.length=6):bt Try.prog 30 [.agg [.lst (.int .i64) b,.int .i64 f]] [] (.ptr 4 0) [(4,.vari 60 [] 6 (.int .i64) b [.int .i64 f])]:=by
 refine bg bf Try.func30 rfl rfl false 0 4 rfl rfl rfl rfl fun K hK hb1 hb2=>?_;simp only[bD,enc,Nat.reduceAdd]
 (repeat' first|refine st ?_|refine sa fun xe hxe=>?_|refine sb (fun hq=>?_) fun hq=>?_|exact aC)
 exact⟨rfl,rfl⟩
theorem Aj (b:List Int)(f a s:Int)(T:TypeId)(h:mV ⟨b,f⟩)(ha:0≤a∧a≤5):bt Try.prog 79 [.ptr 4 0,.int .i64 a,.int .i64 s] [(4,.vari T [] 6 (.int .i64) b [.int .i64 f])]
  (.bool (decide (s≤b.getD a.toNat 0))) [(4,.vari T [] 6 (.int .i64) b [.int .i64 f])]:=by
 refine bg bf Try.func79 rfl rfl false 1 5 rfl rfl rfl rfl fun K hK hb1 hb2=>?_;simp only[bD,enc,Nat.reduceAdd]
 obtain⟨hx1,hx2⟩:=eq h ha.1 ha.2
 generalize b.getD a.toNat 0=bx at *
 (repeat' first|refine st ?_|refine sa fun xe hxe=>?_|refine sb (fun hq=>?_) fun hq=>?_|exact aC)
 exact⟨rfl,rfl⟩
theorem yE (b:List Int)(f a s:Int)(T:TypeId)(h:mV ⟨b,f⟩)(ha:0≤a∧a≤5)(hs:0≤s∧s≤10000):bt Try.prog 80 [.ptr 4 0,.int .i64 a,.int .i64 s] [(4,.vari T [] 6 (.int .i64) b [.int .i64 f])]
  (.bool (decide (b.getD a.toNat 0+s≤999))) [(4,.vari T [] 6 (.int .i64) b [.int .i64 f])]:=by
 refine bg bf Try.func80 rfl rfl false 1 5 rfl rfl rfl rfl fun K hK hb1 hb2=>?_;simp only[bD,enc,Nat.reduceAdd]
 obtain⟨hx1,hx2⟩:=eq h ha.1 ha.2
 generalize b.getD a.toNat 0=bx at *
 (repeat' first|refine st ?_|refine sa fun xe hxe=>?_|refine sb (fun hq=>?_) fun hq=>?_|exact aC)
 exact⟨rfl,rfl⟩
theorem z4 (b:List Int)(f x y s e:Int)(T:TypeId)(hok:mV ⟨b,f⟩)(hf:f+9≤100000):bt Try.prog 44 [.ptr 4 0,.agg [.int .i64 x,.int .i64 y,.int .i64 s,.int .i64 e]] [(4,.vari T [] 6 (.int .i64) b [.int .i64 f])]
  (.bool (cM ⟨b,f⟩ ⟨x,y,s,e⟩)) [(4,.vari T [] 6 (.int .i64) (bP ⟨b,f⟩ ⟨x,y,s,e⟩).b [.int .i64 (bP ⟨b,f⟩ ⟨x,y,s,e⟩).f])]:=by
 have hlen:b.length=6:=hok.1
 have h3:0≤f∧f≤100000:=hok.2.2
 refine bg bf Try.func44 rfl rfl false 1 5 rfl rfl rfl rfl fun K hK hb1 hb2=>?_;simp only[bD,enc,Nat.reduceAdd]
 clear hb1 hb2
 cases hv:bZ ⟨x,y,s,e⟩
 ·(repeat' first|refine st ?_|refine sa fun xe hxe=>?_|refine sb (fun hq=>?_) fun hq=>?_|refine cr (gW _ _ _ _) ?_|exact aC)
  exact⟨by simp[cM,hv],by simp[bP,cM,hv]⟩
 ·obtain⟨hx,hy,hxy,hs,he⟩:=dQ hv
  obtain⟨hx1,hx2⟩:=eq hok hx.1 hx.2
  obtain⟨hy1,hy2⟩:=eq hok hy.1 hy.2
  have hyset:(b.set x.toNat (b.getD x.toNat 0-(s+e)))[y.toNat]?=some (b.getD y.toNat 0):=by rw[List.getElem?_set_ne (by omega)];exact hy1
  (repeat' first|refine st ?_|refine sa fun xe hxe=>?_|refine sb (fun hq=>?_) fun hq=>?_|refine cr (gW _ _ _ _) ?_|((with_reducible refine kS ?_);(conv=>whnf);(first|with_reducible refine dE (Aj _ _ _ _ _ hok (by omega)) ?_|with_reducible refine dE (yE _ _ _ _ _ hok (by omega) (by omega)) ?_);conv=>whnf)|exact aC)
  ·have hn:cM ⟨b,f⟩ ⟨x,y,s,e⟩=false:=by simp only[cM,hv];simp only[Bool.true_and,mi,Bool.not_eq_false',decide_eq_true_eq];omega
   exact⟨by rw[hn],by simp only[bP,hn,eZ,if_false]⟩
  ·have hn:cM ⟨b,f⟩ ⟨x,y,s,e⟩=false:=by simp only[cM,hv];simp only[Bool.true_and,mi,Bool.not_eq_false',decide_eq_true_eq];omega
   exact⟨by rw[hn],by simp only[bP,hn,eZ,if_false]⟩
  ·have hn:cM ⟨b,f⟩ ⟨x,y,s,e⟩=true:=by simp only[cM,hv];simp only[Bool.true_and,b6,iZ,decide_eq_false_iff_not];omega
   exact⟨by rw[hn],by simp only[bP,hn,if_true,Int.sub_sub]⟩
theorem yH (b:List Int)(f:Int)(T:TypeId)(h:b.length=6):bt Try.prog 37 [.ptr 4 0] [(4,.vari T [] 6 (.int .i64) b [.int .i64 f])] (.agg [.ref 5,.int .i64 f]) [(4,.vari T [] 6 (.int .i64) b [.int .i64 f]),(5,.row 3 (.int .i64) b)]:=by
 refine bg bf Try.func37 rfl rfl false 1 5 rfl rfl rfl rfl fun K hK hb1 hb2=>?_;simp only[bD,enc,Nat.reduceAdd]
 (repeat' first|refine st ?_|refine sa fun xe hxe=>?_|refine sb (fun hq=>?_) fun hq=>?_|exact aC)
 exact⟨rfl,rfl⟩
theorem lS (b:List Int)(f:Int)(ts:List Txn):bt Try.prog 28 [.agg [.lst (.int .i64) b,.int .i64 f],.lst .txn ts] [] (.bool (m6 ⟨b,f⟩ ts)) []:=by
 refine bg bf Try.func28 rfl rfl false 0 4 rfl rfl rfl rfl fun K hK hb1 hb2=>?_;simp only[bD,enc,Nat.reduceAdd]
 clear hb1 hb2
 cases hv:kV ⟨b,f⟩
 ·(repeat' first|refine st ?_|refine sa fun xe hxe=>?_|refine sb (fun hq=>?_) fun hq=>?_|refine cr (jK _ _) ?_|exact aC)
  all_goals (refine⟨congrArg V.bool ?_,rfl⟩;(first|rfl|(simp[m6,gd,hv];done)|(simp_all[m6,gd,hv];done)|(rw[Bool.eq_iff_iff];(try simp[m6,gd,hv] at *);omega)|(simp_all[m6,gd,hv];omega)))
 ·have hf:0≤f∧f≤5994:=by simp[kV,mm] at hv;omega
  (repeat' first|refine st ?_|refine sa fun xe hxe=>?_|refine sb (fun hq=>?_) fun hq=>?_|refine cr (jK _ _) ?_|exact aC)
  all_goals (refine⟨congrArg V.bool ?_,rfl⟩;(first|rfl|(simp[m6,gd,hv];done)|(simp_all[m6,gd,hv];done)|(rw[Bool.eq_iff_iff];(try simp[m6,gd,hv] at *);omega)|(simp_all[m6,gd,hv];omega)))
theorem BT (o:List Bool)(m:Nat)(v:Bool)(h:o.length<m):(o++List.replicate (m-o.length) false).set o.length v=(o++[v])++List.replicate (m-(o.length+1)) false:=by
 rw[List.set_append_right _ _ (aN _),Nat.sub_self]
 rw[show m-o.length=(m-(o.length+1))+1 by omega,List.replicate_succ]
 simp
theorem G8 (b:List Int)(f:Int)(ts:List Txn):bt Try.prog 12 [.agg [.lst (.int .i64) b,.int .i64 f],.lst .txn ts] []
  (if m6 ⟨b,f⟩ ts then .tup [.agg [.ref 4,.int .i64 (bR ⟨b,f⟩ ts).f],.ref 5] else .tup [.agg [.nils,.int .i64 0],.ref 4])
  (if m6 ⟨b,f⟩ ts then[(4,.row 3 (.int .i64) (bR ⟨b,f⟩ ts).b),(5,.row 4 .bool (dx ⟨b,f⟩ ts))] else[(4,.row 4 .bool [])]):=by
 refine bg bf Try.func12 rfl rfl false 0 4 rfl rfl rfl rfl fun K hK hb1 hb2=>?_;simp only[bD,enc,Nat.reduceAdd]
 clear hb1 hb2
 cases hv:m6 ⟨b,f⟩ ts
 ·(repeat' first|refine st ?_|refine sa fun xe hxe=>?_|refine sb (fun hq=>?_) fun hq=>?_|refine cr (lS _ _ _) ?_|exact aC)
  exact⟨rfl,rfl⟩
 ·obtain⟨h1,h2,h3,h4⟩:=Hj hv
  have hlen:b.length=6:=h3.1
  (repeat' first|refine st ?_|refine sa fun xe hxe=>?_|refine sb (fun hq=>?_) fun hq=>?_|refine cr (lS _ _ _) ?_|refine cr (wO _ _ hlen) ?_|exact aC)
  refine bw hK [] [4,5,6,7,21,22,23] (fun i:Nat=>⟨[(4,.ptr 4 0),(5,.nils),(6,.ptr 5 0),(7,.ref 6),(21,.lst .txn ts),(22,.int .i64 ts.length),(23,.int .i64 i)],
   [(4,.var 25 [.nils,.int .i64 0]),(5,.vari 60 [] 6 (.int .i64) (bR ⟨b,f⟩ (ts.take i)).b [.int .i64 (bR ⟨b,f⟩ (ts.take i)).f]),(6,.row 4 .bool (dx ⟨b,f⟩ (ts.take i)++List.replicate (ts.length-i) false))],7⟩)
   (fun i=>i≤ts.length) (fun i=>ts.length-i) 0 (by simp) rfl ?_
  intro i hi
  have hok2:=nZ ⟨b,f⟩ (ts.take i) h3 (by simp only[nz];omega)
  have hlo:(dx ⟨b,f⟩ (ts.take i)).length=i:=by rw[fP,nz];omega
  by_cases hlt:i<ts.length
  ·have hx:ts[i]?=some ts[i]:=a6 hlt
   have hs1:bR ⟨b,f⟩ (ts.take (i+1))=bP (bR ⟨b,f⟩ (ts.take i)) ts[i]:=by rw[pW hlt,m4]
   have hs2:dx ⟨b,f⟩ (ts.take (i+1))=dx ⟨b,f⟩ (ts.take i)++[cM (bR ⟨b,f⟩ (ts.take i)) ts[i]]:=by rw[pW hlt,m5]
   have hfl:=BT (dx ⟨b,f⟩ (ts.take i)) ts.length (cM (bR ⟨b,f⟩ (ts.take i)) ts[i]) (by omega)
   rw[hlo] at hfl
   have hll:(dx ⟨b,f⟩ (ts.take i)++List.replicate (ts.length-i) false).length=ts.length:=by rw[ck,ij,hlo];omega
   generalize hrow:dx ⟨b,f⟩ (ts.take i)++List.replicate (ts.length-i) false=row at *
   have hlf:(bR ⟨b,f⟩ (ts.take i)).f+9≤100000:=by
    have:=hok2.2
    simp only[nz] at this
    omega
   generalize bR ⟨b,f⟩ (ts.take i)=lc at *
   generalize ts[i]=tc at *
   obtain⟨cb,cf⟩:=lc
   obtain⟨x,y,s,e⟩:=tc
   have hcf:cf+9≤100000:=hlf
   (repeat' first|refine st ?_|refine sa fun xe hxe=>?_|refine sb (fun hq=>?_) fun hq=>?_|refine cr (z4 _ _ _ _ _ _ _ hok2.1 hcf) ?_|exact aC)
   refine⟨i+1,by omega,by omega,?_⟩
   rw[hs1,hs2,←hfl]
   rfl
  ·have:i=ts.length:=by omega
   subst this
   have hl6:(bR ⟨b,f⟩ (ts.take ts.length)).b.length=6:=hok2.1.1
   (repeat' first|refine st ?_|refine sa fun xe hxe=>?_|refine sb (fun hq=>?_) fun hq=>?_|refine cr (yH _ _ _ hl6) ?_|exact aC)
   rw[List.take_length]
   simp
end Go.Proofs.Ytbmnihglaokhmaa.Am
namespace Go.Proofs.Ytbmnihglaokhmaa.Am
open Go
set_option linter.unusedSectionVars false
variable [PhC Try.prog]
attribute [local irreducible] Mk ct Ari fF nD j7 cO dR jv gP At bt
set_option maxRecDepth 10000
theorem CJ (a b s e a' b' s' e':Int):bt Try.prog 57 [.agg [.int .i64 a,.int .i64 b,.int .i64 s,.int .i64 e],.agg [.int .i64 a',.int .i64 b',.int .i64 s',.int .i64 e']] [] (.bool (dT ⟨a,b,s,e⟩ ⟨a',b',s',e'⟩)) []:=by
 refine bg bf Try.func57 rfl rfl false 0 4 rfl rfl rfl rfl fun K hK hb1 hb2=>?_;simp only[bD,enc,Nat.reduceAdd]
 clear hb1 hb2
 (repeat' first|refine st ?_|refine sa fun xe hxe=>?_|refine sb (fun hq=>?_) fun hq=>?_|exact aC)
 all_goals (refine⟨congrArg V.bool ?_,rfl⟩;(first|rfl|(simp[dT];done)|(simp_all[dT];done)|(rw[Bool.eq_iff_iff];(try simp[dT] at *);omega)|(simp_all[dT];omega)))
theorem tY (ts:List Txn):bt Try.prog 29 [.lst .txn ts] [] (.bool (fZ ts)) []:=by
 refine bg bf Try.func29 rfl rfl false 0 4 rfl rfl rfl rfl fun K hK hb1 hb2=>?_;simp only[bD,enc,Nat.reduceAdd]
 simp[aB,V.toD,bnd,aj,D.cells] at hb1
 clear hb2
 by_cases hc:ts.length≤16
 ·(repeat' first|refine st ?_|refine sa fun xe hxe=>?_|refine sb (fun hq=>?_) fun hq=>?_|exact aC)
  refine bw hK [] [2,8,9,10] (fun i:Nat=>⟨[(2,.bool false),(8,.lst .txn ts),(9,.int .i64 ts.length),(10,.int .i64 i)],[],4⟩) (fun i=>i≤ts.length∧∀x∈ts.take i,bZ x=true) (fun i=>ts.length-i) 0 ⟨by simp,by simp⟩ (by rfl) ?_
  rintro i ⟨hi,hall⟩
  by_cases hlt:i<ts.length
  ·have hx:ts[i]?=some (ts[i]):=a6 hlt
   have hm:ts[i]∈ts:=fh hlt
   have ht:ts.take (i+1)=ts.take i++[ts[i]]:=pW hlt
   generalize ts[i]=x at *
   obtain⟨x1,x2,x3,x4⟩:=x
   cases hv:bZ ⟨x1,x2,x3,x4⟩
   ·have hal:fZ ts=false:=by
     simp only[fZ,mi]
     right
     rw[List.all_eq_false]
     exact⟨_,hm,by simp[hv]⟩
    have hc:=gW x1 x2 x3 x4
    rw[hv] at hc
    rw[hal]
    (repeat' first|refine st ?_|refine sa fun xe hxe=>?_|refine sb (fun hq=>?_) fun hq=>?_|refine cr (hc) ?_|exact aC)
    all_goals exact⟨rfl,rfl⟩
   ·have hc:=gW x1 x2 x3 x4
    rw[hv] at hc
    (repeat' first|refine st ?_|refine sa fun xe hxe=>?_|refine sb (fun hq=>?_) fun hq=>?_|refine cr (hc) ?_|exact aC)
    refine⟨i+1,⟨hlt,?_⟩,by omega,rfl⟩
    rw[ht]
    intro y hy
    rcases cm.1 hy with hy|hy
    ·exact hall y hy
    ·rw[bd.1 hy];exact hv
  ·have hal:fZ ts=true:=by
    simp only[fZ,b6,decide_eq_true_eq,bc]
    rw[ii (by omega)] at hall
    exact⟨hc,hall⟩
   rw[hal]
   (repeat' first|refine st ?_|refine sa fun xe hxe=>?_|refine sb (fun hq=>?_) fun hq=>?_|exact aC)
   all_goals exact⟨rfl,rfl⟩
 ·have hal:fZ ts=false:=by simp[fZ,hc]
  rw[hal]
  (repeat' first|refine st ?_|refine sa fun xe hxe=>?_|refine sb (fun hq=>?_) fun hq=>?_|exact aC)
  all_goals exact⟨rfl,rfl⟩
theorem AU (ts:List Txn)(hl:ts.length≤16):bt Try.prog 31 [.lst .txn ts] [] (.lst (.lst (.int .i64)) (ft (iM ts ts.length) ts.length ts.length)) []:=by
 refine bg bf Try.func31 rfl rfl true 0 4 rfl rfl rfl rfl fun K hK hb1 hb2=>?_;simp only[bD,enc,Nat.reduceAdd]
 clear hb1 hb2
 (repeat' first|refine st ?_|refine sa fun xe hxe=>?_|refine sb (fun hq=>?_) fun hq=>?_|exact aC)
 rw[ij]
 refine bw hK [] [0,2,3,19,20] (fun i:Nat=>⟨[(0,.lst .txn ts),(2,.nils),(3,.ref 4),(19,.int .i64 ts.length),(20,.int .i64 i)],[(4,.row 3 (.int .i64) (iM ts i))],5⟩) (fun i=>i≤ts.length) (fun i=>ts.length-i) 0 (by simp) (by rfl) ?_
 intro i hi
 obtain⟨hlen,hrg,hcf⟩:=o5 ts i hi
 by_cases hlt:i<ts.length
 ·have hstep:iM ts (i+1)=rowI ts (iM ts i) i:=by simp[iM,gO,List.foldl_append]
  generalize iM ts i=lab at *
  have hxi:ts[i]?=some ts[i]:=a6 hlt
  generalize ts[i]=ti at *
  obtain⟨x1,x2,x3,x4⟩:=ti
  (repeat' first|refine st ?_|refine sa fun xe hxe=>?_|refine sb (fun hq=>?_) fun hq=>?_|exact aC)
  refine bw hK [] [0,2,3,19,20,4,27,28] (fun j:Nat=>⟨[(0,.lst .txn ts),(2,.nils),(3,.ref 4),(19,.int .i64 ts.length),(20,.int .i64 i),(4,.int .i64 i),(27,.int .i64 i),(28,.int .i64 j)],[(4,.row 3 (.int .i64) ((List.range j).foldl (f7 ts i) (lab.set i (i:Int))))],5⟩) (fun j=>j≤i) (fun j=>i-j) 0 (by simp) (by rfl) ?_
  intro j hj
  have hinv:=rowI_inv hlt hlen hrg hcf j hj
  have hl1:=hinv.len
  by_cases hlt2:j<i
  ·have hstep2:(List.range (j+1)).foldl (f7 ts i) (lab.set i (i:Int))=f7 ts i ((List.range j).foldl (f7 ts i) (lab.set i (i:Int))) j:=by rw[gO,List.foldl_append];rfl
   generalize (List.range j).foldl (f7 ts i) (lab.set i (i:Int))=lab1 at *
   have hj':j<ts.length:=by omega
   have hxj:ts[j]?=some ts[j]:=a6 hj'
   generalize ts[j]=tj at *
   obtain⟨y1,y2,y3,y4⟩:=tj
   have hce:=tz hxi hxj
   have hg1:lab1[i]?=some (lab1.getD i 0):=jI (by omega)
   have hg2:lab1[j]?=some (lab1.getD j 0):=jI (by omega)
   have hc:=CJ x1 x2 x3 x4 y1 y2 y3 y4
   have hne:(lab1.getD i 0≠lab1.getD j 0∧confI ts i j=true)∨¬(lab1.getD i 0≠lab1.getD j 0∧confI ts i j=true):=fa _
   by_cases heq:lab1.getD i 0=lab1.getD j 0
   ·have he:f7 ts i lab1 j=lab1:=by unfold f7;rw[if_neg (fun h=>h.1 heq)]
    (repeat' first|refine st ?_|refine sa fun xe hxe=>?_|refine sb (fun hq=>?_) fun hq=>?_|refine cr (hc) ?_|exact aC)
    refine⟨j+1,by omega,by omega,?_⟩
    rw[hstep2,he]
    rfl
   ·cases hcb:dT ⟨x1,x2,x3,x4⟩ ⟨y1,y2,y3,y4⟩
    ·rw[hcb] at hc hce
     have he:f7 ts i lab1 j=lab1:=by unfold f7;rw[if_neg (fun h=>by rw[hce] at h;cases h.2)]
     (repeat' first|refine st ?_|refine sa fun xe hxe=>?_|refine sb (fun hq=>?_) fun hq=>?_|refine cr (hc) ?_|exact aC)
     refine⟨j+1,by omega,by omega,?_⟩
     rw[hstep2,he]
     rfl
    ·rw[hcb] at hc hce
     have he:f7 ts i lab1 j=eW lab1 (max (lab1.getD i 0) (lab1.getD j 0)) (min (lab1.getD i 0) (lab1.getD j 0)) (i+1):=by unfold f7;rw[if_pos ⟨heq,hce⟩]
     (repeat' first|refine st ?_|refine sa fun xe hxe=>?_|refine sb (fun hq=>?_) fun hq=>?_|refine cr (hc) ?_|exact aC)
     have e1:(if lab1.getD j 0<lab1.getD i 0 then lab1.getD j 0 else lab1.getD i 0)=min (lab1.getD i 0) (lab1.getD j 0):=by split<;>omega
     have e2:(if lab1.getD i 0<lab1.getD j 0 then lab1.getD j 0 else lab1.getD i 0)=max (lab1.getD i 0) (lab1.getD j 0):=by split<;>omega
     rw[e1,e2]
     have hlh:min (lab1.getD i 0) (lab1.getD j 0)≠max (lab1.getD i 0) (lab1.getD j 0):=by omega
     clear e1 e2 hq
     generalize min (lab1.getD i 0) (lab1.getD j 0)=lo at *
     generalize max (lab1.getD i 0) (lab1.getD j 0)=hi at *
     refine bw hK [] [0,2,3,19,20,4,27,28,8,9,60,61] (fun k:Nat=>⟨[(0,.lst .txn ts),(2,.nils),(3,.ref 4),(19,.int .i64 ts.length),(20,.int .i64 i),(4,.int .i64 i),(27,.int .i64 i),(28,.int .i64 j),(8,.int .i64 lo),(9,.int .i64 hi),(60,.int .i64 ((i:Int)+1)),(61,.int .i64 k)],[(4,.row 3 (.int .i64) (eW lab1 hi lo k))],5⟩) (fun k=>k≤i+1) (fun k=>i+1-k) 0 (by simp) (by rfl) ?_
     intro k hk
     obtain⟨r1,r2⟩:=m3 (lab:=lab1) hlh k (by omega)
     by_cases hlt3:k<i+1
     ·have hstep3:eW lab1 hi lo (k+1)=uU hi lo (eW lab1 hi lo k) k:=by simp[eW,gO,List.foldl_append]
      generalize eW lab1 hi lo k=lab2 at *
      have hg:lab2[k]?=some (lab2.getD k 0):=jI (by omega)
      by_cases hc4:lab2.getD k 0=hi
      ·have he4:uU hi lo lab2 k=lab2.set k lo:=by unfold uU;rw[if_pos hc4]
       (repeat' first|refine st ?_|refine sa fun xe hxe=>?_|refine sb (fun hq=>?_) fun hq=>?_|exact aC)
       refine⟨k+1,by omega,by omega,?_⟩
       rw[hstep3,he4]
       rfl
      ·have he4:uU hi lo lab2 k=lab2:=by unfold uU;rw[if_neg hc4]
       (repeat' first|refine st ?_|refine sa fun xe hxe=>?_|refine sb (fun hq=>?_) fun hq=>?_|exact aC)
       refine⟨k+1,by omega,by omega,?_⟩
       rw[hstep3,he4]
       rfl
     ·have hki:k=i+1:=by omega
      subst hki
      rw[←he] at *
      (repeat' first|refine st ?_|refine sa fun xe hxe=>?_|refine sb (fun hq=>?_) fun hq=>?_|exact aC)
      refine⟨j+1,by omega,by omega,?_⟩
      rw[hstep2]
      rfl
  ·have:j=i:=by omega
   subst this
   have he:(List.range j).foldl (f7 ts j) (lab.set j (j:Int))=rowI ts lab j:=rfl
   rw[he] at *
   (repeat' first|refine st ?_|refine sa fun xe hxe=>?_|refine sb (fun hq=>?_) fun hq=>?_|exact aC)
   refine⟨j+1,by omega,by omega,?_⟩
   rw[hstep]
   rfl
 have:i=ts.length:=by omega
 subst this
 clear hlt hi hrg hcf
 generalize iM ts ts.length=lab at *
 (repeat' first|refine st ?_|refine sa fun xe hxe=>?_|refine sb (fun hq=>?_) fun hq=>?_|exact aC)
 refine bw hK [] [0,2,3,11,79,80] (fun f:Nat=>⟨[(0,.lst .txn ts),(2,.nils),(3,.ref 4),(11,.ref 5),(79,.int .i64 ts.length),(80,.int .i64 f)],[(4,.row 3 (.int .i64) lab),(5,.row 23 (.lst (.int .i64)) (ft lab ts.length f))],6⟩) (fun f=>f≤ts.length) (fun f=>ts.length-f) 0 (by simp) (by rfl) ?_
 intro f hf
 have hzl:(ft lab ts.length f).length≤f:=by rw[mP,bH];exact i7 ..
 by_cases hlt:f<ts.length
 ·have hstep:=jN lab ts.length f
  generalize ft lab ts.length f=Z at *
  (repeat' first|refine st ?_|refine sa fun xe hxe=>?_|refine sb (fun hq=>?_) fun hq=>?_|exact aC)
  refine bw hK [] [0,2,3,11,79,80,12,13,85,86] (fun i:Nat=>⟨[(0,.lst .txn ts),(2,.nils),(3,.ref 4),(11,.ref 5),(79,.int .i64 ts.length),(80,.int .i64 f),(12,.int .i64 f),(13,.ref 6),(85,.int .i64 ts.length),(86,.int .i64 i)],[(4,.row 3 (.int .i64) lab),(5,.row 23 (.lst (.int .i64)) Z),(6,.row 3 (.int .i64) ((fV lab i f).map fun i:Nat=>(i:Int)))],7⟩) (fun i=>i≤ts.length) (fun i=>ts.length-i) 0 (by simp) (by rfl) ?_
  intro i hi
  have hgl:((fV lab i f).map fun i:Nat=>(i:Int)).length≤i:=by rw[bH];exact gK (List.length_filter_le _ _) (by simp)
  by_cases hlt2:i<ts.length
  ·have hs2:=qR lab i f
   have hg:lab[i]?=some (lab.getD i 0):=jI (by omega)
   generalize (fV lab i f).map (fun i:Nat=>(i:Int))=G at *
   by_cases hc:lab.getD i 0=(f:Int)
   ·rw[if_pos hc] at hs2
    (repeat' first|refine st ?_|refine sa fun xe hxe=>?_|refine sb (fun hq=>?_) fun hq=>?_|exact aC)
    refine⟨i+1,by omega,by omega,?_⟩
    rw[hs2]
    rfl
   ·rw[if_neg hc] at hs2
    (repeat' first|refine st ?_|refine sa fun xe hxe=>?_|refine sb (fun hq=>?_) fun hq=>?_|exact aC)
    refine⟨i+1,by omega,by omega,?_⟩
    rw[hs2]
    rfl
  ·have:i=ts.length:=by omega
   subst this
   have he:(fV lab ts.length f).map (fun i:Nat=>(i:Int))=wz lab ts.length f:=rfl
   rw[he] at *
   generalize wz lab ts.length f=G at *
   by_cases hc:G.length=0
   ·rw[if_pos hc] at hstep
    (repeat' first|refine st ?_|refine sa fun xe hxe=>?_|refine sb (fun hq=>?_) fun hq=>?_|exact aC)
    refine⟨f+1,by omega,by omega,?_⟩
    rw[hstep,il]
    rfl
   ·rw[if_neg hc] at hstep
    (repeat' first|refine st ?_|refine sa fun xe hxe=>?_|refine sb (fun hq=>?_) fun hq=>?_|exact aC)
    refine⟨f+1,by omega,by omega,?_⟩
    rw[hstep]
    rfl
 ·have:f=ts.length:=by omega
  subst this
  (repeat' first|refine st ?_|refine sa fun xe hxe=>?_|refine sb (fun hq=>?_) fun hq=>?_|exact aC)
  exact⟨rfl,rfl⟩
end Go.Proofs.Ytbmnihglaokhmaa.Am
namespace Go.Proofs.Ytbmnihglaokhmaa.Am
open Go
set_option linter.unusedSectionVars false
variable [PhC Try.prog]
attribute [local irreducible] Mk ct Ari fF nD j7 cO dR jv gP At bt
set_option maxRecDepth 10000
def gU (B K:List Int)(t:Txn):List Int:=(K.set t.a.toNat (B.getD t.a.toNat 0)).set t.b.toNat (B.getD t.b.toNat 0)
def jG (B:List Int)(M:List (Int×Int))(t:Txn):List (Int×Int):=dY (dY M t.a (B.getD t.a.toNat 0)) t.b (B.getD t.b.toNat 0)
def b7 (B:List Int)(us:List Txn):List Int:=us.foldl (gU B) [0,0,0,0,0,0]
def dS (B:List Int)(us:List Txn):List (Int×Int):=us.foldl (jG B) []
theorem vO (B:List Int)(us:List Txn)(t:Txn):b7 B (us++[t])=gU B (b7 B us) t:=by simp[b7,List.foldl_append]
theorem vP (B:List Int)(us:List Txn)(t:Txn):dS B (us++[t])=jG B (dS B us) t:=by simp[dS,List.foldl_append]
theorem qJ (B K:List Int)(t:Txn):(gU B K t).length=K.length:=by simp[gU]
theorem mC (B:List Int):∀us:List Txn,(b7 B us).length=6:=by
 intro us
 unfold b7
 have key:∀(us:List Txn) (K:List Int),K.length=6→(us.foldl (gU B) K).length=6:=by
  intro us
  induction us with
  |nil=>intro K h;exact h
  |cons t us ih=>intro K h;exact ih _ (by rw[qJ];exact h)
 exact key us _ rfl
theorem yL {B:List Int}(hb:mV ⟨B,0⟩):∀us:List Txn,(∀t∈us,bZ t=true)→mV ⟨b7 B us,0⟩:=by
 intro us hv
 refine⟨mC B us,?_,by simp,by simp⟩
 unfold b7
 have key:∀(us:List Txn) (K:List Int),(∀t∈us,bZ t=true)→(∀x∈K,0≤x∧x≤999)→∀x∈us.foldl (gU B) K,0≤x∧x≤999:=by
  intro us
  induction us with
  |nil=>intro K _ h;exact h
  |cons t us ih=>
   intro K hv h
   refine ih _ (fun u hu=>hv u (bl _ hu)) fun x hx=>?_
   obtain⟨h1,h2,-⟩:=dQ (x:=t.a) (y:=t.b) (s:=t.s) (e:=t.e) (hv t (bh ..))
   have ga:=(eq hb h1.1 h1.2).2
   have gb:=(eq hb h2.1 h2.2).2
   rcases List.mem_or_eq_of_mem_set hx with hx|rfl
   ·rcases List.mem_or_eq_of_mem_set hx with hx|rfl
    ·exact h x hx
    ·exact ga
   ·exact gb
 exact key us _ hv (by simp)
def iw (B K:List Int)(t:Txn):Nat→List Int
 |0=>K
 |1=>K.set t.a.toNat (B.getD t.a.toNat 0)
 |_=>gU B K t
def j2 (B:List Int)(M:List (Int×Int))(t:Txn):Nat→List (Int×Int)
 |0=>M
 |1=>dY M t.a (B.getD t.a.toNat 0)
 |_=>jG B M t
theorem ER {ts:List Txn}{L:List Nat}{k i:Nat}{t:Txn}(hk:L[k]?=some i)(ht:ts[i]?=some t):(di ts L)[k]?=some t:=by
 simp only[di,cd,hk,aM,aX,ht]
 rfl
theorem pP {α:Type}{l:List α}{k:Nat}{x:α}(h:l[k]?=some x):l.take (k+1)=l.take k++[x]:=by
 obtain⟨hlt,rfl⟩:=cz.1 h
 exact pW hlt
def kX (M:List (Int×Int))(R:List Int)(left:List Nat):List (Int×Int):=M.zipIdx.map fun p=>if p.2∈left then p.1 else(p.1.1,R.getD p.1.1.toNat 0)
theorem eP (M:List (Int×Int))(R:List Int)(left:List Nat):(kX M R left).length=M.length:=by simp[kX]
theorem fL {M:List (Int×Int)}{R:List Int}{left:List Nat}{j:Nat}{q:Int×Int}(h:M[j]?=some q):(kX M R left)[j]?=some (if j∈left then q else(q.1,R.getD q.1.toNat 0)):=by
 simp[kX,List.getElem?_zipIdx,h]
theorem Bg (M:List (Int×Int))(R:List Int):kX M R (List.range M.length)=M:=by
 apply pZ
 intro j
 cases h:M[j]? with
 |none=>
  have:M.length≤j:=List.getElem?_eq_none_iff.1 h
  rw[List.getElem?_eq_none_iff,eP];exact this
 |some q=>
  have:=(cz.1 h).1
  rw[fL h,if_pos (gL.2 this)]
theorem zg {M:List (Int×Int)}{R:List Int}{left:List Nat}(h:∀j,j∉left):kX M R left=M.map fun p=>(p.1,R.getD p.1.toNat 0):=by
 apply pZ
 intro j
 rw[cd]
 cases hq:M[j]? with
 |none=>
  have:M.length≤j:=List.getElem?_eq_none_iff.1 hq
  rw[js (by rw[eP];exact this)];rfl
 |some q=>rw[fL hq,if_neg (h j)];rfl
def fY (M:List (Int×Int)):Prop:=(M.map (·.1)).Nodup
theorem kC:∀(M:List (Int×Int)) (a c:Int),(a∈M.map (·.1)∧(dY M a c).map (·.1)=M.map (·.1))∨(a∉M.map (·.1)∧(dY M a c).map (·.1)=M.map (·.1)++[a])
 |[],a,c=>.inr ⟨by simp,rfl⟩
 |p::M,a,c=>by
  unfold dY
  by_cases h:a=p.1
  ·rw[if_pos h];exact .inl ⟨by simp[h],by simp[h]⟩
  ·rw[if_neg h]
   rcases kC M a c with⟨h1,h2⟩|⟨h1,h2⟩
   ·exact .inl ⟨by simp only[bI,a9];exact .inr h1,by simp[h2]⟩
   ·exact .inr ⟨by simp only[bI,a9,not_or];exact⟨h,h1⟩,by simp[h2]⟩
theorem pS {M:List (Int×Int)}(h:fY M)(a c:Int):fY (dY M a c):=by
 unfold fY at *
 rcases kC M a c with⟨_,h2⟩|⟨h1,h2⟩
 ·rw[h2];exact h
 ·rw[h2,List.nodup_append]
  refine⟨h,by simp,fun x hx y hy he=>?_⟩
  rw[bd] at hy
  exact h1 (hy▸he▸hx)
theorem yu:∀{M:List (Int×Int)} {j:Nat} {q:Int×Int} (c:Int),fY M→M[j]?=some q→dY M q.1 c=M.set j (q.1,c)
 |[],j,q,c,_,h=>by simp at h
 |p::M,0,q,c,_,h=>by
  simp only[fi,aK] at h
  subst h
  simp[dY]
 |p::M,j+1,q,c,hn,h=>by
  simp only[List.getElem?_cons_succ] at h
  unfold fY at hn
  rw[bI,List.nodup_cons] at hn
  have hne:q.1≠p.1:=fun e=>hn.1 (e▸aP.2 ⟨q,dm h,rfl⟩)
  unfold dY
  rw[if_neg hne,yu c hn.2 h]
  rfl
theorem nh (B:List Int)(us:List Txn):fY (dS B us):=by
 unfold dS
 have key:∀(us:List Txn) (M:List (Int×Int)),fY M→fY (us.foldl (jG B) M):=by
  intro us
  induction us with
  |nil=>intro M h;exact h
  |cons t us ih=>intro M h;exact ih _ (pS (pS h _ _) _ _)
 exact key us _ (by simp[fY])
theorem Bh {M:List (Int×Int)}{R:List Int}{left:List Nat}{j:Nat}{q:Int×Int}(hn:fY M)(hq:M[j]?=some q):dY (kX M R left) q.1 (R.getD q.1.toNat 0)=kX M R (left.filter fun i=>i !=j):=by
 have hn2:fY (kX M R left):=by
  unfold fY at *
  have:(kX M R left).map (·.1)=M.map (·.1):=by
   apply pZ
   intro i
   rw[cd,cd]
   cases h:M[i]? with
   |none=>rw[js (by rw[eP];exact List.getElem?_eq_none_iff.1 h)]
   |some z=>rw[fL h];simp only[aM];split<;>rfl
  rw[this];exact hn
 have hg:=fL (R:=R) (left:=left) hq
 have hlt:j<M.length:=(cz.1 hq).1
 have e:dY (kX M R left) q.1 (R.getD q.1.toNat 0)=(kX M R left).set j (q.1,R.getD q.1.toNat 0):=by
  have:=yu (R.getD (if j∈left then q else(q.1,R.getD q.1.toNat 0)).1.toNat 0) hn2 hg
  have e2:(if j∈left then q else(q.1,R.getD q.1.toNat 0)).1=q.1:=by split<;>rfl
  rw[e2] at this
  exact this
 rw[e]
 apply pZ
 intro i
 rw[List.getElem?_set,eP]
 by_cases c:j=i
 ·subst c
  rw[if_pos rfl,if_pos hlt,fL hq,if_neg (by simp)]
 ·rw[if_neg c]
  cases h:M[i]? with
  |none=>
   have:=List.getElem?_eq_none_iff.1 h
   rw[js (by rw[eP];exact this),js (by rw[eP];exact this)]
  |some z=>
   rw[fL h,fL h]
   have:i∈left.filter (fun i=>i !=j)↔i∈left:=by simp[cq c]
   by_cases c2:i∈left
   ·rw[if_pos c2,if_pos (this.2 c2)]
   ·rw[if_neg c2,if_neg (fun h=>c2 (this.1 h))]
theorem qE (B:List Int){us:List Txn}(hv:∀t∈us,bZ t=true):∀p∈dS B us,0≤p.1∧p.1≤5:=by
 unfold dS
 have hu:∀{M:List (Int×Int)} {a c:Int},(∀p∈M,0≤p.1∧p.1≤5)→(0≤a∧a≤5)→∀p∈dY M a c,0≤p.1∧p.1≤5:=by
  intro M a c h ha p hp
  have hk:p.1∈(dY M a c).map (·.1):=aP.2 ⟨p,hp,rfl⟩
  have hm:∀x∈M.map (·.1),0≤x∧x≤5:=fun x hx=>by obtain⟨z,hz,rfl⟩:=aP.1 hx;exact h z hz
  rcases kC M a c with⟨_,h2⟩|⟨_,h2⟩
  ·rw[h2] at hk;exact hm _ hk
  ·rw[h2,cm,bd] at hk
   rcases hk with hk|hk
   ·exact hm _ hk
   ·rw[hk];exact ha
 have key:∀(us:List Txn) (M:List (Int×Int)),(∀t∈us,bZ t=true)→(∀p∈M,0≤p.1∧p.1≤5)→∀p∈us.foldl (jG B) M,0≤p.1∧p.1≤5:=by
  intro us
  induction us with
  |nil=>intro M _ h;exact h
  |cons t us ih=>
   intro M hv h
   obtain⟨h1,h2,-⟩:=dQ (x:=t.a) (y:=t.b) (s:=t.s) (e:=t.e) (hv t (bh ..))
   exact ih _ (fun u hu=>hv u (bl _ hu)) (hu (hu h h1) h2)
 exact key us _ hv (by simp)
theorem zE (b0 b1 b2 b3 b4 b5:Int)(ts:List Txn)(L:List Nat)(hb:mV ⟨[b0,b1,b2,b3,b4,b5],0⟩)(hv:∀t∈ts,bZ t=true)(hL:∀i∈L,i<ts.length)(hl:L.length≤16):
  bt Try.prog 35 [.agg [.int .i64 b0,.int .i64 b1,.int .i64 b2,.int .i64 b3,.int .i64 b4,.int .i64 b5],.lst .txn ts,.lst (.int .i64) (L.map fun i:Nat=>(i:Int))] []
   (.agg [.mp 4,.int .i64 (bR ⟨b7 [b0,b1,b2,b3,b4,b5] (di ts L),0⟩ (di ts L)).f,.ref 5])
   [(4,.map ((dS [b0,b1,b2,b3,b4,b5] (di ts L)).map fun p=>(p.1,(bR ⟨b7 [b0,b1,b2,b3,b4,b5] (di ts L),0⟩ (di ts L)).b.getD p.1.toNat 0))),(5,.row 4 .bool (dx ⟨b7 [b0,b1,b2,b3,b4,b5] (di ts L),0⟩ (di ts L)))]:=by
 refine bg bf Try.func35 rfl rfl false 0 4 rfl rfl rfl rfl fun K hK hb1 hb2=>?_;simp only[bD,enc,Nat.reduceAdd]
 simp[aB,V.toD,bnd,aj,D.cells] at hb1
 clear hb2
 (repeat' first|refine st ?_|refine sa fun xe hxe=>?_|refine sb (fun hq=>?_) fun hq=>?_|exact aC)
 refine vL 4 0 6 ?_
 conv=>whnf
 refine vL 6 0 6 ?_
 conv=>whnf
 rw[bH]
 have hus:∀(k i:Nat) (t:Txn),L[k]?=some i→ts[i]?=some t→(di ts L)[k]?=some t:=fun k i t=>ER
 have hul:(di ts L).length=L.length:=bH ..
 have huv:∀t∈di ts L,bZ t=true:=by
  intro t ht
  obtain⟨i,hi,rfl⟩:=aP.1 ht
  have:=hL i hi
  rw[aX,a6 this]
  exact hv _ (fh this)
 have hLZ:∀k i:Nat,L[k]?=some i→(L.map fun i:Nat=>(i:Int))[k]?=some (i:Int):=fun k i h=>by rw[cd,h];rfl
 have hLn:(L.map fun i:Nat=>(i:Int)).length=L.length:=bH ..
 have hB6:[b0,b1,b2,b3,b4,b5].length=6:=rfl
 generalize [b0,b1,b2,b3,b4,b5]=B at *
 generalize di ts L=us at *
 generalize L.map (fun i:Nat=>(i:Int))=LZ at *
 refine bw hK [] [1,2,3,6,7,8,20,21,22] (fun k:Nat=>⟨[(1,.lst .txn ts),(2,.lst (.int .i64) LZ),(3,.ptr 4 0),(6,.ptr 5 0),(7,.ptr 6 0),(8,.mp 7),(20,.lst (.int .i64) LZ),(21,.int .i64 L.length),(22,.int .i64 k)],
  [(4,.vari 58 [] 6 (.int .i64) B []),(5,.var 74 [.nilm,.int .i64 0,.nils]),(6,.vari 60 [] 6 (.int .i64) (b7 B (us.take k)) [.int .i64 0]),(7,.map (dS B (us.take k)))],8⟩)
  (fun k=>k≤L.length) (fun k=>L.length-k) 0 (by simp) (by rfl) ?_
 intro k hk
 have hKl:=mC B (us.take k)
 by_cases hlt:k<L.length
 ·have hi:L[k]?=some L[k]:=a6 hlt
  generalize L[k]=i at *
  have hiZ:=hLZ k i hi
  have hin:=hL i (dm hi)
  have hx:ts[i]?=some ts[i]:=a6 hin
  generalize ts[i]=tc at *
  have hxv:=hv tc (dm hx)
  have hsn:=pP (hus k i tc hi hx)
  have hk1:b7 B (us.take (k+1))=gU B (b7 B (us.take k)) tc:=by rw[hsn,vO]
  have hm1:dS B (us.take (k+1))=jG B (dS B (us.take k)) tc:=by rw[hsn,vP]
  generalize b7 B (us.take k)=K0 at *
  generalize dS B (us.take k)=M0 at *
  obtain⟨x,y,s,e⟩:=tc
  obtain⟨v1,v2,v3,-⟩:=dQ hxv
  obtain⟨g1,-⟩:=eq hb v1.1 v1.2
  obtain⟨g2,-⟩:=eq hb v2.1 v2.2
  have hlx:[x,y].length=2:=rfl
  (repeat' first|refine st ?_|refine sa fun xe hxe=>?_|refine sb (fun hq=>?_) fun hq=>?_|exact aC)
  refine bw hK [36] [1,2,3,6,7,8,20,21,22,36,37,38] (fun q:Nat=>⟨[(1,.lst .txn ts),(2,.lst (.int .i64) LZ),(3,.ptr 4 0),(6,.ptr 5 0),(7,.ptr 6 0),(8,.mp 7),(20,.lst (.int .i64) LZ),(21,.int .i64 L.length),(22,.int .i64 k),(36,.lst (.int .i64) [x,y]),(37,.int .i64 2),(38,.int .i64 q)],
   [(4,.vari 58 [] 6 (.int .i64) B []),(5,.var 74 [.nilm,.int .i64 0,.nils]),(6,.vari 60 [] 6 (.int .i64) (iw B K0 ⟨x,y,s,e⟩ q) [.int .i64 0]),(7,.map (j2 B M0 ⟨x,y,s,e⟩ q))],8⟩)
   (fun q=>q≤2) (fun q=>2-q) 0 (by simp) (by rfl) ?_
  intro q hq
  have hkl:(iw B K0 ⟨x,y,s,e⟩ q).length=6:=by unfold iw;split<;>simp[gU,hKl]
  rcases cY q 1 with hq0|hq0
  ·obtain rfl:q=0:=by omega
   have ek:iw B K0 ⟨x,y,s,e⟩ 1=(iw B K0 ⟨x,y,s,e⟩ 0).set x.toNat (B.getD x.toNat 0):=rfl
   have em:j2 B M0 ⟨x,y,s,e⟩ 1=dY (j2 B M0 ⟨x,y,s,e⟩ 0) x (B.getD x.toNat 0):=rfl
   generalize iw B K0 ⟨x,y,s,e⟩ 0=K1 at *
   generalize j2 B M0 ⟨x,y,s,e⟩ 0=M1 at *
   have hxx:[x,y][0]?=some x:=rfl
   (repeat' first|refine st ?_|refine sa fun xe hxe=>?_|refine sb (fun hq=>?_) fun hq=>?_|exact aC)
   refine⟨1,by omega,by omega,?_⟩
   rw[ek,em]
   rfl
  rcases cY q 2 with hq1|hq1
  ·obtain rfl:q=1:=by omega
   have ek:iw B K0 ⟨x,y,s,e⟩ 2=(iw B K0 ⟨x,y,s,e⟩ 1).set y.toNat (B.getD y.toNat 0):=rfl
   have em:j2 B M0 ⟨x,y,s,e⟩ 2=dY (j2 B M0 ⟨x,y,s,e⟩ 1) y (B.getD y.toNat 0):=rfl
   generalize iw B K0 ⟨x,y,s,e⟩ 1=K1 at *
   generalize j2 B M0 ⟨x,y,s,e⟩ 1=M1 at *
   have hxx:[x,y][1]?=some y:=rfl
   (repeat' first|refine st ?_|refine sa fun xe hxe=>?_|refine sb (fun hq=>?_) fun hq=>?_|exact aC)
   refine⟨2,by omega,by omega,?_⟩
   rw[ek,em]
   rfl
  ·obtain rfl:q=2:=by omega
   have ek:iw B K0 ⟨x,y,s,e⟩ 2=gU B K0 ⟨x,y,s,e⟩:=rfl
   have em:j2 B M0 ⟨x,y,s,e⟩ 2=jG B M0 ⟨x,y,s,e⟩:=rfl
   (repeat' first|refine st ?_|refine sa fun xe hxe=>?_|refine sb (fun hq=>?_) fun hq=>?_|exact aC)
   refine⟨k+1,by omega,by omega,?_⟩
   rw[hk1,hm1,←ek,←em]
   rfl
 ·have:k=L.length:=by omega
  subst this
  rw[ii (by omega)]
  have hKok:=yL hb us huv
  have hMn:=nh B us
  have hMr:=qE B huv
  clear hlt hk
  generalize b7 B us=K0 at *
  generalize dS B us=M0 at *
  (repeat' first|refine st ?_|refine sa fun xe hxe=>?_|refine sb (fun hq=>?_) fun hq=>?_|exact aC)
  rw[hLn]
  refine bw hK [] [1,6,7,8,13,60,61,62] (fun k:Nat=>⟨[(1,.lst .txn ts),(6,.ptr 4 0),(7,.ptr 5 0),(8,.mp 6),(13,.ref 7),(60,.lst (.int .i64) LZ),(61,.int .i64 L.length),(62,.int .i64 k)],
   [(4,.var 74 [.nilm,.int .i64 0,.nils]),(5,.vari 60 [] 6 (.int .i64) (bR ⟨K0,0⟩ (us.take k)).b [.int .i64 (bR ⟨K0,0⟩ (us.take k)).f]),(6,.map M0),(7,.row 4 .bool (dx ⟨K0,0⟩ (us.take k)++List.replicate (L.length-k) false))],8⟩)
   (fun k=>k≤L.length) (fun k=>L.length-k) 0 (by simp) (by rfl) ?_
  intro k hk
  have hok2:=nZ ⟨K0,0⟩ (us.take k) hKok (by simp only[nz];omega)
  have hlo:(dx ⟨K0,0⟩ (us.take k)).length=k:=by rw[fP,nz];omega
  by_cases hlt:k<L.length
  ·have hi:L[k]?=some L[k]:=a6 hlt
   generalize L[k]=i at *
   have hiZ:=hLZ k i hi
   have hin:=hL i (dm hi)
   have hx:ts[i]?=some ts[i]:=a6 hin
   generalize ts[i]=tc at *
   have hsn:=pP (hus k i tc hi hx)
   have hs1:bR ⟨K0,0⟩ (us.take (k+1))=bP (bR ⟨K0,0⟩ (us.take k)) tc:=by rw[hsn,m4]
   have hs2:dx ⟨K0,0⟩ (us.take (k+1))=dx ⟨K0,0⟩ (us.take k)++[cM (bR ⟨K0,0⟩ (us.take k)) tc]:=by rw[hsn,m5]
   have hfl:=BT (dx ⟨K0,0⟩ (us.take k)) L.length (cM (bR ⟨K0,0⟩ (us.take k)) tc) (by omega)
   rw[hlo] at hfl
   have hll:(dx ⟨K0,0⟩ (us.take k)++List.replicate (L.length-k) false).length=L.length:=by rw[ck,ij,hlo];omega
   generalize hrow:dx ⟨K0,0⟩ (us.take k)++List.replicate (L.length-k) false=row at *
   have hlf:(bR ⟨K0,0⟩ (us.take k)).f+9≤100000:=by
    have:=hok2.2
    simp only[nz] at this
    omega
   generalize bR ⟨K0,0⟩ (us.take k)=lc at *
   obtain⟨cb,cf⟩:=lc
   obtain⟨x,y,s,e⟩:=tc
   have hcf:cf+9≤100000:=hlf
   (repeat' first|refine st ?_|refine sa fun xe hxe=>?_|refine sb (fun hq=>?_) fun hq=>?_|refine cr (z4 _ _ _ _ _ _ _ hok2.1 hcf) ?_|exact aC)
   refine⟨k+1,by omega,by omega,?_⟩
   rw[hs1,hs2,←hfl]
   rfl
  ·have:k=L.length:=by omega
   subst this
   rw[ii (show us.length≤L.length by omega)] at hok2 hlo⊢
   have hR6:(bR ⟨K0,0⟩ us).b.length=6:=hok2.1.1
   rw[Nat.sub_self,List.replicate_zero,il]
   generalize bR ⟨K0,0⟩ us=R at *
   generalize dx ⟨K0,0⟩ us=O at *
   obtain⟨Rb,Rf⟩:=R
   simp only at hR6
   (repeat' first|refine st ?_|refine sa fun xe hxe=>?_|refine sb (fun hq=>?_) fun hq=>?_|exact aC)
   refine ov (α:=List Nat×Option Nat) hK rfl rfl rfl rfl rfl rfl (by decide) (by decide) [] [6,7,8,13,78]
    (fun a=>⟨[(6,.ptr 4 0),(7,.ptr 5 0),(8,.mp 6),(13,.ref 7),(78,.ptr 8 0)],[(4,.var 74 [.nilm,.int .i64 0,.nils]),(5,.vari 60 [] 6 (.int .i64) Rb [.int .i64 Rf]),(6,.map (kX M0 Rb a.1)),(7,.row 4 .bool O),(8,.it 6 0 M0.length a.1 a.2)],9⟩)
    (fun _=>True) (fun a=>a.1) (fun a=>a.2) (fun a=>kX M0 Rb a.1) (List.range M0.length,none) trivial ?_ (fun a _=>⟨rfl,rfl,aI (x:=.map _) rfl rfl,eP ..⟩) 6 [] [6,7,8,13]
    ⟨[(6,.ptr 4 0),(7,.ptr 5 0),(8,.mp 6),(13,.ref 7)],[(4,.var 74 [.nilm,.int .i64 0,.nils]),(5,.vari 60 [] 6 (.int .i64) Rb [.int .i64 Rf]),(6,.map (M0.map fun p=>(p.1,Rb.getD p.1.toNat 0))),(7,.row 4 .bool O)],8⟩ ?_ ?_ ?_
   ·simp only[Bg]
    rfl
   ·rintro⟨left,cur⟩-hn
    simp only[la]
    rw[zg hn]
    (repeat' first|refine st ?_|refine sa fun xe hxe=>?_|refine sb (fun hq=>?_) fun hq=>?_|exact aC)
    exact⟨rfl,rfl⟩
   ·rintro⟨left,cur⟩ j q-hj hq
    simp only[ji,put,Nat.reduceEqDiff,if_false,if_true,reduceIte]
    simp only at hj hq
    obtain⟨q0,hq0⟩:∃q0,M0[j]?=some q0:=by
     have:=(cz.1 hq).1
     rw[eP] at this
     exact⟨_,a6 this⟩
    have hqq:q=q0:=by
     have:=fL (R:=Rb) (left:=left) hq0
     rw[this,if_pos hj] at hq
     exact(bm hq).symm
    subst hqq
    have hupd:=Bh (R:=Rb) (left:=left) hMn hq0
    have hrg:=hMr q (dm hq0)
    have hml:=eP M0 Rb left
    obtain⟨qk,qv⟩:=q
    simp only at hrg hupd
    have hgk:Rb[qk.toNat]?=some (Rb.getD qk.toNat 0):=jI (by omega)
    generalize kX M0 Rb left=M1 at *
    (repeat' first|refine st ?_|refine sa fun xe hxe=>?_|refine sb (fun hq=>?_) fun hq=>?_|exact aC)
    refine⟨(left.filter fun q=>q !=j,some j),trivial,qK hj,?_⟩
    simp only
    rw[←hupd]
   ·conv=>whnf
    (repeat' first|refine st ?_|refine sa fun xe hxe=>?_|refine sb (fun hq=>?_) fun hq=>?_|exact aC)
    exact⟨rfl,rfl⟩
end Go.Proofs.Ytbmnihglaokhmaa.Am
namespace Go.Proofs.Ytbmnihglaokhmaa
open Go
abbrev zb:Go.Conc.Lib.WgLink:={add:=32,done:=34,wait:=36,relMerge:=58,disable:=59,enable:=60,inBubble:=61,associate:=62,fatal:=63,uOr:=64,uAdd:=65,raceRead:=66,uLoad:=67,uStore:=68,disassociate:=69,semrelease:=70,acquire:=71,isAssociated:=72,uCas:=73,raceWrite:=74,semacquire:=75,orU64:=84,addU64:=85,loadU64:=86,storeU64:=87,casU64:=88,tWgP:=93,tUP:=95,tAssoc:=97,tWg:=70,tAU:=67,tU64:=65,tUint:=101,tU32:=68,tPU32:=102,tPAU:=116,tPU64:=118,tNoCopy:=62,tANoCopy:=63,tAlign64:=64}
theorem iY:Go.Conc.Lib.WgLib Try.prog zb:=
 ⟨Try.func32,Try.func34,Try.func36,Try.func58,Try.func59,Try.func60,Try.func61,Try.func62,Try.func63,Try.func64,Try.func65,Try.func66,Try.func67,Try.func68,Try.func69,Try.func70,Try.func71,Try.func72,Try.func73,Try.func74,Try.func75,Try.func84,Try.func85,Try.func86,Try.func87,Try.func88,Try.underlying93,Try.runUnderlying93,Try.sizeOf93,Try.isAgg93,Try.zeroValue93,Try.underlying95,Try.runUnderlying95,Try.sizeOf95,Try.isAgg95,Try.zeroValue95,Try.underlying97,Try.runUnderlying97,Try.sizeOf97,Try.isAgg97,Try.zeroValue97,Try.underlying70,Try.runUnderlying70,Try.sizeOf70,Try.isAgg70,Try.zeroValue70,Try.underlying67,Try.runUnderlying67,Try.sizeOf67,Try.isAgg67,Try.zeroValue67,Try.underlying65,Try.runUnderlying65,Try.sizeOf65,Try.isAgg65,Try.zeroValue65,Try.underlying101,Try.runUnderlying101,Try.sizeOf101,Try.isAgg101,Try.zeroValue101,Try.underlying68,Try.runUnderlying68,Try.sizeOf68,Try.isAgg68,Try.zeroValue68,Try.underlying102,Try.runUnderlying102,Try.sizeOf102,Try.isAgg102,Try.zeroValue102,Try.underlying116,Try.runUnderlying116,Try.sizeOf116,Try.isAgg116,Try.zeroValue116,Try.underlying118,Try.runUnderlying118,Try.sizeOf118,Try.isAgg118,Try.zeroValue118,Try.underlying0,Try.runUnderlying0,Try.sizeOf0,Try.isAgg0,Try.zeroValue0,Try.underlying3,Try.runUnderlying3,Try.sizeOf3,Try.isAgg3,Try.zeroValue3,Try.underlying4,Try.runUnderlying4,Try.sizeOf4,Try.isAgg4,Try.zeroValue4,Try.underlying9,Try.runUnderlying9,Try.sizeOf9,Try.isAgg9,Try.zeroValue9,Try.underlying20,Try.runUnderlying20,Try.sizeOf20,Try.isAgg20,Try.zeroValue20,Try.underlying21,Try.runUnderlying21,Try.sizeOf21,Try.isAgg21,Try.zeroValue21,(by kernel_rfl),(by kernel_rfl)⟩
end Go.Proofs.Ytbmnihglaokhmaa
namespace Go.Proofs.Ytbmnihglaokhmaa.Am
open Go Go.RowKit Go.Conc Go.ConcN Go.Conc.Lib Go.ConcR.Gen Go.ConcN.Gen
open Go.ConcR (KK wgBlock WgAt stA smA rd wr mk DC0)
theorem aa {ty:TypeId}{Wg:Nat}{γ:Gh}{w w1:World}(h:WgLive ty Wg w)(r:RG ty Wg γ w w1):WgLive ty Wg w1:=r.live h
theorem ks {P:Program}{main:Bool}{R:World→World→Prop}{D:World→World→Array Event→Prop}{Stop:Goroutine→World→Prop}{n m:Nat}{g:Goroutine}{w:World}(h:Goes P main R D Stop n g w)(hm:n≤m):Goes P main R D Stop m g w:=by
 induction m generalizing n g w with
 |zero=>
  obtain rfl:n=0:=by omega
  exact h
 |succ m ih=>
  cases n with
  |zero=>exact .inl h
  |succ n=>exact h.imp id fun⟨h1,h2⟩=>⟨h1,fun w1 hr=>by
    obtain⟨g',w',es,e1,e2,e3⟩:=goes_elim (h2 w1 hr)
    rw[e1]
    exact⟨e2,ih e3 (by omega)⟩⟩
theorem QuitsD.more {P:Program}{n m d:Nat}{g:Goroutine}(h:QuitsD P n d g)(hm:n≤m):QuitsD P m d g:=by
 induction m generalizing n d g with
 |zero=>
  obtain rfl:n=0:=by omega
  exact h
 |succ m ih=>
  cases n with
  |zero=>exact .inl h
  |succ n=>exact h.imp id fun⟨h1,g',es,h2,h3,h4⟩=>⟨h1,g',es,h2,h3,ih h4 (by omega)⟩
section
variable {L:WgLink} {P:Program} {Wg:Nat} {γ:Gh} {b₀:Frame} {a₀:Act} {ops₀:Array Oper} {i₀:Nat} {rest₀:List Nat} {k₀:List Item} {cs:List Frame} {qt:Nat}
set_option maxRecDepth 100000 in
set_option maxHeartbeats 8000000 in
theorem Cn (H:WgLib P L)(hT:QuitsD P qt 0 (G (b₀.at (a₀.put ((ops₀[i₀]?).bind (·.dst)) (.tuple #[])) (.inRegion ops₀ rest₀::k₀)) cs))(w:World)(hK:WgLive L.tWg Wg w):
  Goes P false (RG L.tWg Wg γ) DC0 (WR0 P L.tWg Wg γ) 20 (G ((base L.add).at ⟨#[.pointer (some ⟨Wg,0,none⟩),.int .i64 (-1)]++Array.replicate ((addFn L).ntmps-2) undef,[]⟩ [.code (body_add L)]) (b₀.at a₀ (.inRegion ops₀ (i₀::rest₀)::k₀)::cs)) w:=by
 lib_facts
 simp only[body_add,addFn,e9]
 walk_nrm
 u_c stepG_seq aa hK
 u_cond true aa hK
 u_c stepG_seq aa hK
 u_c stepG_seq aa hK
 u_reg aa hK
 u_op aa hK
 u_op aa hK
 u_c stepG_region_end aa hK
 u_cond true aa hK
 u_reg aa hK
 u_op aa hK
 u_conv H.underlying_tWgP H.room_tWg (WgLive.cell0 hK).choose_spec aa hK
 refine Goes.stop (fun w₁ h₁=>?_)
 replace hK:=aa hK h₁
 clear h₁
 refine⟨rfl,_,stepG_markAt .releaseMerge (by simp) rfl rfl (by k_ne) rfl H.f_relMerge (x_relMerge_n L) (x_relMerge_b L) (x_relMerge_x L) (x_relMerge_f L) (by simp[Act.eval,stA]),10,?_⟩
 walk_nrm
 u_c stepG_region_end aa hK
 u_c stepG_seq aa hK
 u_reg aa hK
 refine Goes.stop (fun w₁ h₁=>?_)
 replace hK:=aa hK h₁
 clear h₁
 refine⟨rfl,_,stepG_mark0 .disable (by simp) rfl rfl (by k_ne) rfl H.f_disable (x_disable_n L) (x_disable_b L) (x_disable_x L) (x_disable_f L),50,?_⟩
 walk_nrm
 u_c stepG_region_end aa hK
 u_reg aa hK
 u_defer aa hK
 u_c stepG_region_end aa hK
 u_c stepG_seq aa hK
 u_reg aa hK
 u_op aa hK
 u_c stepG_region_end aa hK
 u_c stepG_seq aa hK
 u_c stepG_seq aa hK
 u_reg aa hK
 u_bub aa hK
 u_c stepG_region_end aa hK
 u_cond false aa hK
 u_c stepG_skip aa hK
 u_c stepG_seq aa hK
 u_reg aa hK
 u_op aa hK
 u_op aa hK
 u_op aa hK
 u_op aa hK
 u_op aa hK
 u_op aa hK
 u_call H.f_uAdd (nm_uAdd L) uAddFn aa hK
 u_c stepG_seq aa hK
 u_reg aa hK
 u_op aa hK
 u_c stepG_region_end aa hK
 u_c stepG_seq aa hK
 u_reg aa hK
 u_op aa hK
 u_op aa hK
 u_op aa hK
 u_op aa hK
 refine Goes.stop (fun w₁ h₁=>?_)
 clear h₁ hK
 refine⟨rfl,fun v wt hwt hv hw=>?_⟩
 have e0:IntKind.u64.wrap (KK+18446744069414584320)=0:=by decide
 have e1:IntKind.u64.wrap (KK+1+18446744069414584320)=1:=by decide
 rcases Nat.eq_zero_or_pos v with rfl|hvp
 ·obtain rfl|rfl:wt=0∨wt=1:=by omega
  ·replace hw:WgAt L.tWg Wg w₁ KK 0:=by simpa using hw
   have z:((0:Nat):Int)*KK+((0:Nat):Int)=0:=by simp
   rw[z]
   refine⟨_,(stepG_add_atomic rfl rfl (by k_ne) rfl H.f_addU64 (x_addU64_n L) (x_addU64_b L) (x_addU64_x L) .u64 (x_addU64_f L) rfl rfl hw.cellSt (hw.thaw 0)).trans (by rw[e0];rfl),fun hl=>absurd hl.2 (by decide),fun _=>⟨qt+120,?_⟩⟩
   clear hw
   walk_nrm
   (refine QuitsD.value _ rfl rfl (by k_ne) (fun _=>by go_simp;(try w_num);exact rfl) (fun _=>by simp[go_sem, *]) ?_;walk_nrm)
   q_c stepG_region_end
   q_c stepG_ret'
   q_leave1 H.f_uAdd
   (refine QuitsD.value _ rfl rfl (by k_ne) (fun _=>by go_simp;(try w_num);exact rfl) (fun _=>by simp[go_sem, *]) ?_;walk_nrm)
   q_c stepG_region_end
   q_c stepG_seq
   q_c stepG_seq
   q_reg
   (refine QuitsD.value _ rfl rfl (by k_ne) (fun _=>by go_simp;(try w_num);exact rfl) (fun _=>by simp[go_sem, *]) ?_;walk_nrm)
   (refine QuitsD.value _ rfl rfl (by k_ne) (fun _=>by go_simp;(try w_num);exact rfl) (fun _=>by simp[go_sem, *]) ?_;walk_nrm)
   (refine QuitsD.value _ rfl rfl (by k_ne) (fun _=>by go_simp;(try w_num);exact rfl) (fun _=>by simp[go_sem, *]) ?_;walk_nrm)
   (refine QuitsD.value _ rfl rfl (by k_ne) (fun _=>by go_simp;(try w_num);exact rfl) (fun _=>by simp[go_sem, *]) ?_;walk_nrm)
   q_skip
   q_skip
   (refine QuitsD.value _ rfl rfl (by k_ne) (fun _=>by go_simp;(try w_num);exact rfl) (fun _=>by simp[go_sem, *]) ?_;walk_nrm)
   q_c stepG_region_end
   q_cond false
   q_c stepG_skip
   q_c stepG_seq
   q_reg
   (refine QuitsD.value _ rfl rfl (by k_ne) (fun _=>by go_simp;(try w_num);exact rfl) (fun _=>by simp[go_sem, *]) ?_;walk_nrm)
   (refine QuitsD.value _ rfl rfl (by k_ne) (fun _=>by go_simp;(try w_num);exact rfl) (fun _=>by simp[go_sem, *]) ?_;walk_nrm)
   (refine QuitsD.value _ rfl rfl (by k_ne) (fun _=>by go_simp;(try w_num);exact rfl) (fun _=>by simp[go_sem, *]) ?_;walk_nrm)
   (refine QuitsD.value _ rfl rfl (by k_ne) (fun _=>by go_simp;(try w_num);exact rfl) (fun _=>by simp[go_sem, *]) ?_;walk_nrm)
   q_c stepG_region_end
   q_c stepG_seq
   q_reg
   (refine QuitsD.value _ rfl rfl (by k_ne) (fun _=>by go_simp;(try w_num);exact rfl) (fun _=>by simp[go_sem, *]) ?_;walk_nrm)
   (refine QuitsD.value _ rfl rfl (by k_ne) (fun _=>by go_simp;(try w_num);exact rfl) (fun _=>by simp[go_sem, *]) ?_;walk_nrm)
   (refine QuitsD.value _ rfl rfl (by k_ne) (fun _=>by go_simp;(try w_num);exact rfl) (fun _=>by simp[go_sem, *]) ?_;walk_nrm)
   (refine QuitsD.value _ rfl rfl (by k_ne) (fun _=>by go_simp;(try w_num);exact rfl) (fun _=>by simp[go_sem, *]) ?_;walk_nrm)
   q_c stepG_region_end
   q_c stepG_seq
   q_c stepG_seq
   q_reg
   (refine QuitsD.value _ rfl rfl (by k_ne) (fun _=>by go_simp;(try w_num);exact rfl) (fun _=>by simp[go_sem, *]) ?_;walk_nrm)
   (refine QuitsD.value _ rfl rfl (by k_ne) (fun _=>by go_simp;(try w_num);exact rfl) (fun _=>by simp[go_sem, *]) ?_;walk_nrm)
   (refine QuitsD.value _ rfl rfl (by k_ne) (fun _=>by go_simp;(try w_num);exact rfl) (fun _=>by simp[go_sem, *]) ?_;walk_nrm)
   (refine QuitsD.value _ rfl rfl (by k_ne) (fun _=>by go_simp;(try w_num);exact rfl) (fun _=>by simp[go_sem, *]) ?_;walk_nrm)
   (refine QuitsD.value _ rfl rfl (by k_ne) (fun _=>by go_simp;(try w_num);exact rfl) (fun _=>by simp[go_sem, *]) ?_;walk_nrm)
   q_skip
   q_skip
   q_skip
   q_skip
   (refine QuitsD.value _ rfl rfl (by k_ne) (fun _=>by go_simp;(try w_num);exact rfl) (fun _=>by simp[go_sem, *]) ?_;walk_nrm)
   q_c stepG_region_end
   q_cond false
   q_c stepG_skip
   q_c stepG_seq
   q_c stepG_seq
   q_reg
   (refine QuitsD.value _ rfl rfl (by k_ne) (fun _=>by go_simp;(try w_num);exact rfl) (fun _=>by simp[go_sem, *]) ?_;walk_nrm)
   (refine QuitsD.value _ rfl rfl (by k_ne) (fun _=>by go_simp;(try w_num);exact rfl) (fun _=>by simp[go_sem, *]) ?_;walk_nrm)
   q_c stepG_region_end
   q_cond false
   q_c stepG_skip
   q_c stepG_seq
   q_c stepG_seq
   q_reg
   (refine QuitsD.value _ rfl rfl (by k_ne) (fun _=>by go_simp;(try w_num);exact rfl) (fun _=>by simp[go_sem, *]) ?_;walk_nrm)
   (refine QuitsD.value _ rfl rfl (by k_ne) (fun _=>by go_simp;(try w_num);exact rfl) (fun _=>by simp[go_sem, *]) ?_;walk_nrm)
   (refine QuitsD.value _ rfl rfl (by k_ne) (fun _=>by go_simp;(try w_num);exact rfl) (fun _=>by simp[go_sem, *]) ?_;walk_nrm)
   q_skip
   q_skip
   (refine QuitsD.value _ rfl rfl (by k_ne) (fun _=>by go_simp;(try w_num);exact rfl) (fun _=>by simp[go_sem, *]) ?_;walk_nrm)
   (refine QuitsD.value _ rfl rfl (by k_ne) (fun _=>by go_simp;(try w_num);exact rfl) (fun _=>by simp[go_sem, *]) ?_;walk_nrm)
   q_skip
   q_skip
   q_skip
   q_skip
   (refine QuitsD.value _ rfl rfl (by k_ne) (fun _=>by go_simp;(try w_num);exact rfl) (fun _=>by simp[go_sem, *]) ?_;walk_nrm)
   q_c stepG_region_end
   q_cond false
   q_c stepG_skip
   q_c stepG_seq
   q_c stepG_seq
   q_reg
   (refine QuitsD.value _ rfl rfl (by k_ne) (fun _=>by go_simp;(try w_num);exact rfl) (fun _=>by simp[go_sem, *]) ?_;walk_nrm)
   (refine QuitsD.value _ rfl rfl (by k_ne) (fun _=>by go_simp;(try w_num);exact rfl) (fun _=>by simp[go_sem, *]) ?_;walk_nrm)
   (refine QuitsD.value _ rfl rfl (by k_ne) (fun _=>by go_simp;(try w_num);exact rfl) (fun _=>by simp[go_sem, *]) ?_;walk_nrm)
   (refine QuitsD.value _ rfl rfl (by k_ne) (fun _=>by go_simp;(try w_num);exact rfl) (fun _=>by simp[go_sem, *]) ?_;walk_nrm)
   (refine QuitsD.value _ rfl rfl (by k_ne) (fun _=>by go_simp;(try w_num);exact rfl) (fun _=>by simp[go_sem, *]) ?_;walk_nrm)
   (refine QuitsD.value _ rfl rfl (by k_ne) (fun _=>by go_simp;(try w_num);exact rfl) (fun _=>by simp[go_sem, *]) ?_;walk_nrm)
   q_c stepG_region_end
   q_cond true
   q_c stepG_ret'
   q_enable
   q_leave0 H.f_add
   exact QuitsD.more hT (by omega)
  ·replace hw:WgAt L.tWg Wg w₁ (KK+1) 0:=by simpa using hw
   have z:((0:Nat):Int)*KK+((1:Nat):Int)=1:=by simp
   rw[z]
   refine⟨_,(stepG_add_atomic rfl rfl (by k_ne) rfl H.f_addU64 (x_addU64_n L) (x_addU64_b L) (x_addU64_x L) .u64 (x_addU64_f L) rfl rfl hw.cellSt (hw.thaw 0)).trans (by rw[e1];rfl),fun _=>⟨160,?_⟩,fun hl=>absurd ⟨rfl,rfl⟩ hl⟩
   have hF:WgLive L.tWg Wg (w₁.setCell (stA Wg) (.int .u64 1)):=⟨_,_,hw.setSt 1⟩
   clear hw
   walk_nrm
   u_op aa hF
   u_c stepG_region_end aa hF
   u_c stepG_ret' aa hF
   u_leave1 H.f_uAdd aa hF
   u_op aa hF
   u_c stepG_region_end aa hF
   u_c stepG_seq aa hF
   u_c stepG_seq aa hF
   u_reg aa hF
   u_op aa hF
   u_op aa hF
   u_op aa hF
   u_op aa hF
   u_skip aa hF
   u_skip aa hF
   u_op aa hF
   u_c stepG_region_end aa hF
   u_cond false aa hF
   u_c stepG_skip aa hF
   u_c stepG_seq aa hF
   u_reg aa hF
   u_op aa hF
   u_op aa hF
   u_op aa hF
   u_op aa hF
   u_c stepG_region_end aa hF
   u_c stepG_seq aa hF
   u_reg aa hF
   u_op aa hF
   u_op aa hF
   u_op aa hF
   u_op aa hF
   u_c stepG_region_end aa hF
   u_c stepG_seq aa hF
   u_c stepG_seq aa hF
   u_reg aa hF
   u_op aa hF
   u_op aa hF
   u_op aa hF
   u_op aa hF
   u_op aa hF
   u_skip aa hF
   u_skip aa hF
   u_skip aa hF
   u_skip aa hF
   u_op aa hF
   u_c stepG_region_end aa hF
   u_cond false aa hF
   u_c stepG_skip aa hF
   u_c stepG_seq aa hF
   u_c stepG_seq aa hF
   u_reg aa hF
   u_op aa hF
   u_op aa hF
   u_c stepG_region_end aa hF
   u_cond false aa hF
   u_c stepG_skip aa hF
   u_c stepG_seq aa hF
   u_c stepG_seq aa hF
   u_reg aa hF
   u_op aa hF
   u_op aa hF
   u_op aa hF
   u_op aa hF
   u_op aa hF
   u_op aa hF
   u_op aa hF
   u_skip aa hF
   u_skip aa hF
   u_skip aa hF
   u_skip aa hF
   u_op aa hF
   u_c stepG_region_end aa hF
   u_cond false aa hF
   u_c stepG_skip aa hF
   u_c stepG_seq aa hF
   u_c stepG_seq aa hF
   u_reg aa hF
   u_op aa hF
   u_op aa hF
   u_op aa hF
   u_op aa hF
   u_op aa hF
   u_op aa hF
   u_c stepG_region_end aa hF
   u_cond false aa hF
   u_c stepG_skip aa hF
   u_c stepG_seq aa hF
   u_c stepG_seq aa hF
   u_reg aa hF
   u_op aa hF
   u_op aa hF
   u_op aa hF
   u_call H.f_uLoad (nm_uLoad L) uLoadFn aa hF
   u_c stepG_seq aa hF
   u_reg aa hF
   u_op aa hF
   u_c stepG_region_end aa hF
   u_c stepG_seq aa hF
   u_reg aa hF
   u_op aa hF
   u_op aa hF
   u_op aa hF
   refine Goes.stop (fun w₂ h₂=>?_)
   clear h₂ hF
   refine⟨rfl,fun hw=>⟨_,stepG_load_atomic rfl rfl (by k_ne) rfl H.f_loadU64 (x_loadU64_n L) (x_loadU64_b L) (x_loadU64_x L) .u64 (x_loadU64_f L) rfl hw.cellSt,60,?_⟩⟩
   have hF:WgLive L.tWg Wg w₂:=⟨_,_,hw⟩
   clear hw
   walk_nrm
   u_op aa hF
   u_c stepG_region_end aa hF
   u_c stepG_ret' aa hF
   u_leave1 H.f_uLoad aa hF
   u_op aa hF
   u_op aa hF
   u_c stepG_region_end aa hF
   u_cond false aa hF
   u_c stepG_skip aa hF
   u_c stepG_seq aa hF
   u_reg aa hF
   u_op aa hF
   u_op aa hF
   u_op aa hF
   u_call H.f_uStore (nm_uStore L) uStoreFn aa hF
   u_reg aa hF
   u_op aa hF
   u_op aa hF
   u_op aa hF
   u_op aa hF
   refine Goes.stop (fun w₃ h₃=>?_)
   clear h₃ hF
   refine⟨rfl,fun hw=>⟨_,stepG_store_atomic rfl rfl (by k_ne) rfl H.f_storeU64 (x_storeU64_n L) (x_storeU64_b L) (x_storeU64_x L) (x_storeU64_f L) rfl rfl hw.cellSt (hw.thaw 0),60,?_⟩⟩
   have hF:WgLive L.tWg Wg (w₃.setCell (stA Wg) (.int .u64 0)):=⟨_,_,hw.setSt 0⟩
   clear hw
   walk_nrm
   u_c stepG_region_end aa hF
   u_c stepG_end aa hF
   u_leave0 H.f_uStore aa hF
   u_c stepG_region_end aa hF
   u_c stepG_seq aa hF
   u_c stepG_seq aa hF
   u_reg aa hF
   u_op aa hF
   u_c stepG_region_end aa hF
   u_cond false aa hF
   u_c stepG_skip aa hF
   u_c stepG_block aa hF
   u_c stepG_loop aa hF
   u_c stepG_seq aa hF
   u_c stepG_seq aa hF
   u_reg aa hF
   u_op aa hF
   u_op aa hF
   u_c stepG_region_end aa hF
   u_cond true aa hF
   u_c stepG_skip aa hF
   u_c stepG_seq aa hF
   u_c stepG_block aa hF
   u_reg aa hF
   u_op aa hF
   u_op aa hF
   u_op aa hF
   refine Goes.stop (fun w₄ h₄=>?_)
   clear h₄ hF
   refine⟨rfl,mayWake_entry rfl rfl H.f_semrelease (x_semrelease_b L),fun hw=>⟨_,(stepG_semrelease rfl rfl (by k_ne) rfl H.f_semrelease (x_semrelease_n L) (x_semrelease_b L) (x_semrelease_x L) (x_semrelease_f L) (by simp[Act.eval,smA]) hw.cellSm (hw.thaw 1)).trans (by rfl),qt+40,?_⟩⟩
   clear hw
   walk_nrm
   q_c stepG_region_end
   q_c stepG_inBlock
   q_reg
   (refine QuitsD.value _ rfl rfl (by k_ne) (fun _=>by go_simp;(try w_num);exact rfl) (fun _=>by simp[go_sem, *]) ?_;walk_nrm)
   (refine QuitsD.value _ rfl rfl (by k_ne) (fun _=>by go_simp;(try w_num);exact rfl) (fun _=>by simp[go_sem, *]) ?_;walk_nrm)
   (refine QuitsD.value _ rfl rfl (by k_ne) (fun _=>by go_simp;(try w_num);exact rfl) (fun _=>by simp[go_sem, *]) ?_;walk_nrm)
   q_c stepG_region_end
   q_c stepG_inLoop
   q_c stepG_seq
   q_c stepG_seq
   q_reg
   (refine QuitsD.value _ rfl rfl (by k_ne) (fun _=>by go_simp;(try w_num);exact rfl) (fun _=>by simp[go_sem, *]) ?_;walk_nrm)
   (refine QuitsD.value _ rfl rfl (by k_ne) (fun _=>by go_simp;(try w_num);exact rfl) (fun _=>by simp[go_sem, *]) ?_;walk_nrm)
   q_c stepG_region_end
   q_cond false
   q_exit
   q_c stepG_end
   q_enable
   q_leave0 H.f_add
   exact QuitsD.more hT (by omega)
 ·have hv0:0<v:=by omega
  obtain rfl|rfl:wt=0∨wt=1:=by omega
  ·replace hw:WgAt L.tWg Wg w₁ (((v:Nat)+1)*KK+0) 0:=by simpa using hw
   have z:((v:Nat):Int)*KK+((0:Nat):Int)=(v:Int)*KK+0:=by simp
   rw[z]
   have eS:IntKind.u64.wrap (((v:Nat)+1)*KK+0+18446744069414584320)=(v:Int)*KK+0:=by rw[IntKind.wrap_u64];simp only[KK];omega
   obtain⟨S,hS⟩:∃S:Int,S=(v:Int)*KK+0:=⟨_,rfl⟩
   rw[←hS] at eS⊢
   have a1:S/4294967296=(v:Int):=by rw[hS];simp only[KK];omega
   have a3:IntKind.u64.wrap (v:Int)=(v:Int):=by rw[IntKind.wrap_u64];omega
   have a4:IntKind.u32.wrap (0:Int)=0:=by decide
   have a5:IntKind.i32.wrap (v:Int)=(v:Int):=by rw[IntKind.wrap_i32];omega
   have b1:bits .and .u64 S 2147483648=0:=by rw[hS];have:=st_flag v 0 (by omega) (by omega);simpa[KK] using this
   have b2:bits .and .u64 S 2147483647=0:=by rw[hS];have:=st_waiters v 0 (by omega) (by omega);simpa[KK] using this
   have q3:decide ((v:Int)<0)=false:=decide_eq_false (by omega)
   have q4:decide (0<(v:Int))=true:=decide_eq_true (by omega)
   have q5:((v:Int)==0)=false:=by simp;omega
   clear hS z
   refine⟨_,(stepG_add_atomic rfl rfl (by k_ne) rfl H.f_addU64 (x_addU64_n L) (x_addU64_b L) (x_addU64_x L) .u64 (x_addU64_f L) rfl rfl hw.cellSt (hw.thaw 0)).trans (by rw[eS];rfl),fun hl=>absurd hl.1 (by omega),fun _=>⟨qt+120,?_⟩⟩
   clear hw
   walk_nrm
   (refine QuitsD.value _ rfl rfl (by k_ne) (fun _=>by go_simp;(try w_num);exact rfl) (fun _=>by simp[go_sem, *]) ?_;walk_nrm)
   q_c stepG_region_end
   q_c stepG_ret'
   q_leave1 H.f_uAdd
   (refine QuitsD.value _ rfl rfl (by k_ne) (fun _=>by go_simp;(try w_num);exact rfl) (fun _=>by simp[go_sem, *]) ?_;walk_nrm)
   q_c stepG_region_end
   q_c stepG_seq
   q_c stepG_seq
   q_reg
   (refine QuitsD.value _ rfl rfl (by k_ne) (fun _=>by go_simp;(try w_num);exact rfl) (fun _=>by simp[go_sem, *]) ?_;walk_nrm)
   (refine QuitsD.value _ rfl rfl (by k_ne) (fun _=>by go_simp;(try w_num);exact rfl) (fun _=>by simp[go_sem, *]) ?_;walk_nrm)
   (refine QuitsD.value _ rfl rfl (by k_ne) (fun _=>by go_simp;(try w_num);exact rfl) (fun _=>by simp[go_sem, *]) ?_;walk_nrm)
   (refine QuitsD.value _ rfl rfl (by k_ne) (fun _=>by go_simp;(try w_num);exact rfl) (fun _=>by simp[go_sem, *]) ?_;walk_nrm)
   q_skip
   q_skip
   (refine QuitsD.value _ rfl rfl (by k_ne) (fun _=>by go_simp;(try w_num);exact rfl) (fun _=>by simp[go_sem, *]) ?_;walk_nrm)
   q_c stepG_region_end
   q_cond false
   q_c stepG_skip
   q_c stepG_seq
   q_reg
   (refine QuitsD.value _ rfl rfl (by k_ne) (fun _=>by go_simp;(try w_num);exact rfl) (fun _=>by simp[go_sem, *]) ?_;walk_nrm)
   (refine QuitsD.value _ rfl rfl (by k_ne) (fun _=>by go_simp;(try w_num);exact rfl) (fun _=>by simp[go_sem, *]) ?_;walk_nrm)
   (refine QuitsD.value _ rfl rfl (by k_ne) (fun _=>by go_simp;(try w_num);exact rfl) (fun _=>by simp[go_sem, *]) ?_;walk_nrm)
   (refine QuitsD.value _ rfl rfl (by k_ne) (fun _=>by go_simp;(try w_num);exact rfl) (fun _=>by simp[go_sem, *]) ?_;walk_nrm)
   q_c stepG_region_end
   q_c stepG_seq
   q_reg
   (refine QuitsD.value _ rfl rfl (by k_ne) (fun _=>by go_simp;(try w_num);exact rfl) (fun _=>by simp[go_sem, *]) ?_;walk_nrm)
   (refine QuitsD.value _ rfl rfl (by k_ne) (fun _=>by go_simp;(try w_num);exact rfl) (fun _=>by simp[go_sem, *]) ?_;walk_nrm)
   (refine QuitsD.value _ rfl rfl (by k_ne) (fun _=>by go_simp;(try w_num);exact rfl) (fun _=>by simp[go_sem, *]) ?_;walk_nrm)
   (refine QuitsD.value _ rfl rfl (by k_ne) (fun _=>by go_simp;(try w_num);exact rfl) (fun _=>by simp[go_sem, *]) ?_;walk_nrm)
   q_c stepG_region_end
   q_c stepG_seq
   q_c stepG_seq
   q_reg
   (refine QuitsD.value _ rfl rfl (by k_ne) (fun _=>by go_simp;(try w_num);exact rfl) (fun _=>by simp[go_sem, *]) ?_;walk_nrm)
   (refine QuitsD.value _ rfl rfl (by k_ne) (fun _=>by go_simp;(try w_num);exact rfl) (fun _=>by simp[go_sem, *]) ?_;walk_nrm)
   (refine QuitsD.value _ rfl rfl (by k_ne) (fun _=>by go_simp;(try w_num);exact rfl) (fun _=>by simp[go_sem, *]) ?_;walk_nrm)
   (refine QuitsD.value _ rfl rfl (by k_ne) (fun _=>by go_simp;(try w_num);exact rfl) (fun _=>by simp[go_sem, *]) ?_;walk_nrm)
   (refine QuitsD.value _ rfl rfl (by k_ne) (fun _=>by go_simp;(try w_num);exact rfl) (fun _=>by simp[go_sem, *]) ?_;walk_nrm)
   q_skip
   q_skip
   q_skip
   q_skip
   (refine QuitsD.value _ rfl rfl (by k_ne) (fun _=>by go_simp;(try w_num);exact rfl) (fun _=>by simp[go_sem, *]) ?_;walk_nrm)
   q_c stepG_region_end
   q_cond false
   q_c stepG_skip
   q_c stepG_seq
   q_c stepG_seq
   q_reg
   (refine QuitsD.value _ rfl rfl (by k_ne) (fun _=>by go_simp;(try w_num);exact rfl) (fun _=>by simp[go_sem, *]) ?_;walk_nrm)
   (refine QuitsD.value _ rfl rfl (by k_ne) (fun _=>by go_simp;(try w_num);exact rfl) (fun _=>by simp[go_sem, *]) ?_;walk_nrm)
   q_c stepG_region_end
   q_cond false
   q_c stepG_skip
   q_c stepG_seq
   q_c stepG_seq
   q_reg
   (refine QuitsD.value _ rfl rfl (by k_ne) (fun _=>by go_simp;(try w_num);exact rfl) (fun _=>by simp[go_sem, *]) ?_;walk_nrm)
   (refine QuitsD.value _ rfl rfl (by k_ne) (fun _=>by go_simp;(try w_num);exact rfl) (fun _=>by simp[go_sem, *]) ?_;walk_nrm)
   (refine QuitsD.value _ rfl rfl (by k_ne) (fun _=>by go_simp;(try w_num);exact rfl) (fun _=>by simp[go_sem, *]) ?_;walk_nrm)
   q_skip
   q_skip
   (refine QuitsD.value _ rfl rfl (by k_ne) (fun _=>by go_simp;(try w_num);exact rfl) (fun _=>by simp[go_sem, *]) ?_;walk_nrm)
   (refine QuitsD.value _ rfl rfl (by k_ne) (fun _=>by go_simp;(try w_num);exact rfl) (fun _=>by simp[go_sem, *]) ?_;walk_nrm)
   q_skip
   q_skip
   q_skip
   q_skip
   (refine QuitsD.value _ rfl rfl (by k_ne) (fun _=>by go_simp;(try w_num);exact rfl) (fun _=>by simp[go_sem, *]) ?_;walk_nrm)
   q_c stepG_region_end
   q_cond false
   q_c stepG_skip
   q_c stepG_seq
   q_c stepG_seq
   q_reg
   (refine QuitsD.value _ rfl rfl (by k_ne) (fun _=>by go_simp;(try w_num);exact rfl) (fun _=>by simp[go_sem, *]) ?_;walk_nrm)
   (refine QuitsD.value _ rfl rfl (by k_ne) (fun _=>by go_simp;(try w_num);exact rfl) (fun _=>by simp[go_sem, *]) ?_;walk_nrm)
   (refine QuitsD.value _ rfl rfl (by k_ne) (fun _=>by go_simp;(try w_num);exact rfl) (fun _=>by simp[go_sem, *]) ?_;walk_nrm)
   q_skip
   q_skip
   (refine QuitsD.value _ rfl rfl (by k_ne) (fun _=>by go_simp;(try w_num);exact rfl) (fun _=>by simp[go_sem, *]) ?_;walk_nrm)
   q_c stepG_region_end
   q_cond true
   q_c stepG_ret'
   q_enable
   q_leave0 H.f_add
   exact QuitsD.more hT (by omega)
  ·replace hw:WgAt L.tWg Wg w₁ (((v:Nat)+1)*KK+1) 0:=by simpa using hw
   have z:((v:Nat):Int)*KK+((1:Nat):Int)=(v:Int)*KK+1:=by simp
   rw[z]
   have eS:IntKind.u64.wrap (((v:Nat)+1)*KK+1+18446744069414584320)=(v:Int)*KK+1:=by rw[IntKind.wrap_u64];simp only[KK];omega
   obtain⟨S,hS⟩:∃S:Int,S=(v:Int)*KK+1:=⟨_,rfl⟩
   rw[←hS] at eS⊢
   have a1:S/4294967296=(v:Int):=by rw[hS];simp only[KK];omega
   have a3:IntKind.u64.wrap (v:Int)=(v:Int):=by rw[IntKind.wrap_u64];omega
   have a4:IntKind.u32.wrap (1:Int)=1:=by decide
   have a5:IntKind.i32.wrap (v:Int)=(v:Int):=by rw[IntKind.wrap_i32];omega
   have b1:bits .and .u64 S 2147483648=0:=by rw[hS];have:=st_flag v 1 (by omega) (by omega);simpa[KK] using this
   have b2:bits .and .u64 S 2147483647=1:=by rw[hS];have:=st_waiters v 1 (by omega) (by omega);simpa[KK] using this
   have q3:decide ((v:Int)<0)=false:=decide_eq_false (by omega)
   have q4:decide (0<(v:Int))=true:=decide_eq_true (by omega)
   have q5:((v:Int)==0)=false:=by simp;omega
   clear hS z
   refine⟨_,(stepG_add_atomic rfl rfl (by k_ne) rfl H.f_addU64 (x_addU64_n L) (x_addU64_b L) (x_addU64_x L) .u64 (x_addU64_f L) rfl rfl hw.cellSt (hw.thaw 0)).trans (by rw[eS];rfl),fun hl=>absurd hl.1 (by omega),fun _=>⟨qt+120,?_⟩⟩
   clear hw
   walk_nrm
   (refine QuitsD.value _ rfl rfl (by k_ne) (fun _=>by go_simp;(try w_num);exact rfl) (fun _=>by simp[go_sem, *]) ?_;walk_nrm)
   q_c stepG_region_end
   q_c stepG_ret'
   q_leave1 H.f_uAdd
   (refine QuitsD.value _ rfl rfl (by k_ne) (fun _=>by go_simp;(try w_num);exact rfl) (fun _=>by simp[go_sem, *]) ?_;walk_nrm)
   q_c stepG_region_end
   q_c stepG_seq
   q_c stepG_seq
   q_reg
   (refine QuitsD.value _ rfl rfl (by k_ne) (fun _=>by go_simp;(try w_num);exact rfl) (fun _=>by simp[go_sem, *]) ?_;walk_nrm)
   (refine QuitsD.value _ rfl rfl (by k_ne) (fun _=>by go_simp;(try w_num);exact rfl) (fun _=>by simp[go_sem, *]) ?_;walk_nrm)
   (refine QuitsD.value _ rfl rfl (by k_ne) (fun _=>by go_simp;(try w_num);exact rfl) (fun _=>by simp[go_sem, *]) ?_;walk_nrm)
   (refine QuitsD.value _ rfl rfl (by k_ne) (fun _=>by go_simp;(try w_num);exact rfl) (fun _=>by simp[go_sem, *]) ?_;walk_nrm)
   q_skip
   q_skip
   (refine QuitsD.value _ rfl rfl (by k_ne) (fun _=>by go_simp;(try w_num);exact rfl) (fun _=>by simp[go_sem, *]) ?_;walk_nrm)
   q_c stepG_region_end
   q_cond false
   q_c stepG_skip
   q_c stepG_seq
   q_reg
   (refine QuitsD.value _ rfl rfl (by k_ne) (fun _=>by go_simp;(try w_num);exact rfl) (fun _=>by simp[go_sem, *]) ?_;walk_nrm)
   (refine QuitsD.value _ rfl rfl (by k_ne) (fun _=>by go_simp;(try w_num);exact rfl) (fun _=>by simp[go_sem, *]) ?_;walk_nrm)
   (refine QuitsD.value _ rfl rfl (by k_ne) (fun _=>by go_simp;(try w_num);exact rfl) (fun _=>by simp[go_sem, *]) ?_;walk_nrm)
   (refine QuitsD.value _ rfl rfl (by k_ne) (fun _=>by go_simp;(try w_num);exact rfl) (fun _=>by simp[go_sem, *]) ?_;walk_nrm)
   q_c stepG_region_end
   q_c stepG_seq
   q_reg
   (refine QuitsD.value _ rfl rfl (by k_ne) (fun _=>by go_simp;(try w_num);exact rfl) (fun _=>by simp[go_sem, *]) ?_;walk_nrm)
   (refine QuitsD.value _ rfl rfl (by k_ne) (fun _=>by go_simp;(try w_num);exact rfl) (fun _=>by simp[go_sem, *]) ?_;walk_nrm)
   (refine QuitsD.value _ rfl rfl (by k_ne) (fun _=>by go_simp;(try w_num);exact rfl) (fun _=>by simp[go_sem, *]) ?_;walk_nrm)
   (refine QuitsD.value _ rfl rfl (by k_ne) (fun _=>by go_simp;(try w_num);exact rfl) (fun _=>by simp[go_sem, *]) ?_;walk_nrm)
   q_c stepG_region_end
   q_c stepG_seq
   q_c stepG_seq
   q_reg
   (refine QuitsD.value _ rfl rfl (by k_ne) (fun _=>by go_simp;(try w_num);exact rfl) (fun _=>by simp[go_sem, *]) ?_;walk_nrm)
   (refine QuitsD.value _ rfl rfl (by k_ne) (fun _=>by go_simp;(try w_num);exact rfl) (fun _=>by simp[go_sem, *]) ?_;walk_nrm)
   (refine QuitsD.value _ rfl rfl (by k_ne) (fun _=>by go_simp;(try w_num);exact rfl) (fun _=>by simp[go_sem, *]) ?_;walk_nrm)
   (refine QuitsD.value _ rfl rfl (by k_ne) (fun _=>by go_simp;(try w_num);exact rfl) (fun _=>by simp[go_sem, *]) ?_;walk_nrm)
   (refine QuitsD.value _ rfl rfl (by k_ne) (fun _=>by go_simp;(try w_num);exact rfl) (fun _=>by simp[go_sem, *]) ?_;walk_nrm)
   q_skip
   q_skip
   q_skip
   q_skip
   (refine QuitsD.value _ rfl rfl (by k_ne) (fun _=>by go_simp;(try w_num);exact rfl) (fun _=>by simp[go_sem, *]) ?_;walk_nrm)
   q_c stepG_region_end
   q_cond false
   q_c stepG_skip
   q_c stepG_seq
   q_c stepG_seq
   q_reg
   (refine QuitsD.value _ rfl rfl (by k_ne) (fun _=>by go_simp;(try w_num);exact rfl) (fun _=>by simp[go_sem, *]) ?_;walk_nrm)
   (refine QuitsD.value _ rfl rfl (by k_ne) (fun _=>by go_simp;(try w_num);exact rfl) (fun _=>by simp[go_sem, *]) ?_;walk_nrm)
   q_c stepG_region_end
   q_cond false
   q_c stepG_skip
   q_c stepG_seq
   q_c stepG_seq
   q_reg
   (refine QuitsD.value _ rfl rfl (by k_ne) (fun _=>by go_simp;(try w_num);exact rfl) (fun _=>by simp[go_sem, *]) ?_;walk_nrm)
   (refine QuitsD.value _ rfl rfl (by k_ne) (fun _=>by go_simp;(try w_num);exact rfl) (fun _=>by simp[go_sem, *]) ?_;walk_nrm)
   (refine QuitsD.value _ rfl rfl (by k_ne) (fun _=>by go_simp;(try w_num);exact rfl) (fun _=>by simp[go_sem, *]) ?_;walk_nrm)
   (refine QuitsD.value _ rfl rfl (by k_ne) (fun _=>by go_simp;(try w_num);exact rfl) (fun _=>by simp[go_sem, *]) ?_;walk_nrm)
   (refine QuitsD.value _ rfl rfl (by k_ne) (fun _=>by go_simp;(try w_num);exact rfl) (fun _=>by simp[go_sem, *]) ?_;walk_nrm)
   (refine QuitsD.value _ rfl rfl (by k_ne) (fun _=>by go_simp;(try w_num);exact rfl) (fun _=>by simp[go_sem, *]) ?_;walk_nrm)
   (refine QuitsD.value _ rfl rfl (by k_ne) (fun _=>by go_simp;(try w_num);exact rfl) (fun _=>by simp[go_sem, *]) ?_;walk_nrm)
   q_skip
   q_skip
   q_skip
   q_skip
   (refine QuitsD.value _ rfl rfl (by k_ne) (fun _=>by go_simp;(try w_num);exact rfl) (fun _=>by simp[go_sem, *]) ?_;walk_nrm)
   q_c stepG_region_end
   q_cond false
   q_c stepG_skip
   q_c stepG_seq
   q_c stepG_seq
   q_reg
   (refine QuitsD.value _ rfl rfl (by k_ne) (fun _=>by go_simp;(try w_num);exact rfl) (fun _=>by simp[go_sem, *]) ?_;walk_nrm)
   (refine QuitsD.value _ rfl rfl (by k_ne) (fun _=>by go_simp;(try w_num);exact rfl) (fun _=>by simp[go_sem, *]) ?_;walk_nrm)
   (refine QuitsD.value _ rfl rfl (by k_ne) (fun _=>by go_simp;(try w_num);exact rfl) (fun _=>by simp[go_sem, *]) ?_;walk_nrm)
   q_skip
   q_skip
   (refine QuitsD.value _ rfl rfl (by k_ne) (fun _=>by go_simp;(try w_num);exact rfl) (fun _=>by simp[go_sem, *]) ?_;walk_nrm)
   q_c stepG_region_end
   q_cond true
   q_c stepG_ret'
   q_enable
   q_leave0 H.f_add
   exact QuitsD.more hT (by omega)
set_option maxRecDepth 100000 in
theorem Fd {c:Frame}(H:WgLib P L)(hcm:c.mode= .returning)(hT:QuitsD P qt 0 (G c cs))(w:World)(hK:WgLive L.tWg Wg w):
  Goes P false (RG L.tWg Wg γ) DC0 (WR0 P L.tWg Wg γ) 40 (G ((baseD L.done).at ⟨#[.pointer (some ⟨Wg,0,none⟩)]++Array.replicate ((doneFn L).ntmps-1) undef,[]⟩ [.code (body_done L)]) (c::cs)) w:=by
 lib_facts
 have hA:=@Cn L P Wg γ
 simp only[body_done,body_add,doneFn,addFn,e9] at hA⊢
 walk_nrm
 u_reg aa hK
 u_op aa hK
 u_in aa hK
 refine goes_call rfl rfl (by k_ne) rfl H.f_add (nm_add L) rfl ⟨by u_nil,?_⟩
 walk_nrmf addFn
 simp only[List.append_toArray,Array.replicate_succ,Array.replicate_zero,List.push_toArray,d5,fR,Nat.reduceSub] at hA
 refine ks (hA (qt:=qt+3) H ?_ _ hK) (by omega)
 q_c stepG_region_end
 q_c stepG_end
 exact QuitsD.leaveD rfl rfl H.f_done rfl hcm hT
end
end Go.Proofs.Ytbmnihglaokhmaa.Am
namespace Go.Proofs.Ytbmnihglaokhmaa.Am
open Go Go.RowKit Go.Conc Go.ConcN Go.Conc.Lib Go.ConcR.Gen Go.ConcN.Gen
open Go.ConcR (KK wgBlock WgAt stA smA rd wr mk DC0)
section
variable {P:Program} {main:Bool} {R:World→World→Prop} {Stop:Goroutine→World→Prop} {Wg n m:Nat} {g:Goroutine} {w:World}
theorem cI (h:Goes P main R DC0 Stop n g w):Goes P main R (DS Wg) Stop n g w:=by
 induction n generalizing g w with
 |zero=>exact h
 |succ n ih=>exact h.imp id fun⟨h1,h2⟩=>⟨h1,fun w1 hr=>by
   obtain⟨g',w',es,e1,⟨rfl,rfl⟩,e3⟩:=goes_elim (h2 w1 hr)
   rw[e1]
   exact⟨⟨rfl,by simp⟩,ih e3⟩⟩
def FN (P:Program)(main:Bool)(R:World→World→Prop)(Wg:Nat)(Stop:Goroutine→World→Prop)(m:Nat)(g:Goroutine)(w:World):Prop:=
 g.status= .running∧∃g' e,mo Wg e∧stepG P main g w= .go g' w #[e]∧Goes P main R DC0 Stop m g' w
theorem xE (h:Goes P main R DC0 (FN P main R Wg Stop m) n g w)(hR:∀w,R w w):Goes P main R (DS Wg) Stop (m+1+n) g w:=by
 induction n generalizing g w with
 |zero=>
  have hrun:g.status= .running:=(h w (hR w)).1
  refine .inr ⟨hrun,fun w1 hr=>?_⟩
  obtain⟨_,g',e,h1,h2,h3⟩:=h w1 hr
  rw[h2]
  refine⟨⟨rfl,fun x hx=>?_⟩,cI h3⟩
  simp only[List.mem_toArray,a9,d6,or_false] at hx
  subst hx;exact h1
 |succ n ih=>
  rcases h with h|⟨h1,h2⟩
  ·exact ks (ih (Goes.stop h)) (by omega)
  ·exact .inr ⟨h1,fun w1 hr=>by
    obtain⟨g',w',es,e1,⟨rfl,rfl⟩,e3⟩:=goes_elim (h2 w1 hr)
    rw[e1]
    exact⟨⟨rfl,by simp⟩,ih e3⟩⟩
theorem zH {a:Addr}(h:a.block=Wg):mo Wg ⟨.mark (.read a),false,true⟩:=⟨a,h,.inl rfl⟩
theorem wY {a:Addr}(h:a.block=Wg):mo Wg ⟨.mark (.write a),false,true⟩:=⟨a,h,.inr rfl⟩
theorem rl {γ:Gh}{w w':World}(hA:¬γ.A Wg)(hX:∀o,¬γ.X Wg o)(h:Aside Wg w w'):Rel γ w w':=
 ⟨⟨h.os,h.tape,h.output,Nat.le_of_eq h.size.symm,fun k hk hn=>h.block k fun e=>hn fun hk=>hA (e▸hk)⟩,fun b o hx=>World.cell?_of_block (h.block b fun e=>hX o (e▸hx)),fun b o hx=>ShpB.of (h.block b fun e=>hX o (e▸hx))⟩
theorem aU {ty:TypeId}{γ:Gh}{F:World→Prop}(hF:∀w w',Rel γ w w'→F w→F w'){w w1:World}(h:F w∧WgLive ty Wg w)(r:RG ty Wg γ w w1):F w1∧WgLive ty Wg w1:=⟨hF _ _ r.rel h.1,r.live h.2⟩
end
section
variable {L:WgLink} {P:Program} {Wg:Nat} {γ:Gh} {b₀:Frame} {a₀:Act} {ops₀:Array Oper} {i₀:Nat} {rest₀:List Nat} {k₀:List Item} {cs:List Frame}
 {n j:Nat} {Xs:Nat→Nat→Nat→Prop} {Res:Nat→Gh→World→Prop} {Nx:Gh→Goroutine→World→Prop} {F:World→Prop}
set_option maxRecDepth 100000 in
set_option maxHeartbeats 8000000 in
theorem Co (H:WgLib P L)(hF0:∀w w',Rel γ w w'→F w→F w')(hWA:¬γ.A Wg)(hWX:∀o,¬γ.X Wg o)
  (hT:∀w,F w→SLib P L.tWg Wg n Xs Res j Nx γ (G (b₀.at (a₀.put ((ops₀[i₀]?).bind (·.dst)) (.tuple #[])) (.inRegion ops₀ rest₀::k₀)) cs) w) (w:World) (hF:F w∧WgLive L.tWg Wg w):
  Goes P true (RG L.tWg Wg γ) (DS Wg) (SKdS P L.tWg Wg n Xs Res j Nx γ) 60 (G ((base L.add).at ⟨#[.pointer (some ⟨Wg,0,none⟩),.int .i64 1]++Array.replicate ((addFn L).ntmps-2) undef,[]⟩ [.code (body_add L)]) (b₀.at a₀ (.inRegion ops₀ (i₀::rest₀)::k₀)::cs)) w:=by
 lib_facts
 have hRr:∀w,RG L.tWg Wg γ w w:=fun w=>RG.refl w
 simp only[body_add,addFn,e9]
 walk_nrm
 refine cI ?_
 u_c stepG_seq (aU hF0) hF
 u_cond true (aU hF0) hF
 u_c stepG_seq (aU hF0) hF
 u_c stepG_seq (aU hF0) hF
 u_reg (aU hF0) hF
 u_op (aU hF0) hF
 u_op (aU hF0) hF
 u_c stepG_region_end (aU hF0) hF
 u_cond false (aU hF0) hF
 u_c stepG_skip (aU hF0) hF
 u_c stepG_seq (aU hF0) hF
 u_reg (aU hF0) hF
 refine Goes.stop (fun w₁ h₁=>?_)
 replace hF:=aU hF0 hF h₁
 clear h₁
 refine⟨rfl,_,stepG_mark0 .disable (by simp) rfl rfl (by k_ne) rfl H.f_disable (x_disable_n L) (x_disable_b L) (x_disable_x L) (x_disable_f L),60,cI ?_⟩
 walk_nrm
 u_c stepG_region_end (aU hF0) hF
 u_reg (aU hF0) hF
 u_defer (aU hF0) hF
 u_c stepG_region_end (aU hF0) hF
 u_c stepG_seq (aU hF0) hF
 u_reg (aU hF0) hF
 u_op (aU hF0) hF
 u_c stepG_region_end (aU hF0) hF
 u_c stepG_seq (aU hF0) hF
 u_c stepG_seq (aU hF0) hF
 u_reg (aU hF0) hF
 u_bub (aU hF0) hF
 u_c stepG_region_end (aU hF0) hF
 u_cond false (aU hF0) hF
 u_c stepG_skip (aU hF0) hF
 u_c stepG_seq (aU hF0) hF
 u_reg (aU hF0) hF
 u_op (aU hF0) hF
 u_op (aU hF0) hF
 u_op (aU hF0) hF
 u_op (aU hF0) hF
 u_op (aU hF0) hF
 u_op (aU hF0) hF
 u_call H.f_uAdd (nm_uAdd L) uAddFn (aU hF0) hF
 u_c stepG_seq (aU hF0) hF
 u_reg (aU hF0) hF
 u_op (aU hF0) hF
 u_c stepG_region_end (aU hF0) hF
 u_c stepG_seq (aU hF0) hF
 u_reg (aU hF0) hF
 u_op (aU hF0) hF
 u_op (aU hF0) hF
 u_op (aU hF0) hF
 u_op (aU hF0) hF
 refine Goes.stop (fun w₂ h₂=>?_)
 replace hF:=aU hF0 hF h₂
 clear h₂
 refine⟨rfl,fun v hv hw=>?_⟩
 have end_:∀{T:Array Value} {todo:List Item} {w:World},F w∧WgLive L.tWg Wg w→Goes P true (RG L.tWg Wg γ) DC0 (SKeS P L.tWg Wg n Xs Res j Nx γ) 0 (G {(base L.add).at ⟨T,[dcall L.enable #[]]⟩ todo with mode:=.returning} (b₀.at a₀ (.inRegion ops₀ (i₀::rest₀)::k₀)::cs)) w:=by
  intro T todo w hF
  refine Goes.stop (fun w₃ h₃=>?_)
  replace hF:=aU hF0 hF h₃
  clear h₃
  refine⟨rfl,_,stepG_unwind_entry (v:=.tuple #[]) (evs:=#[mk .enable]) rfl H.f_enable (x_enable_n L) (x_enable_b L) (x_enable_x L) (x_enable_f L) (by simp[Extern.Race.none_]) (by simp[mk]) (by simp[mk]),1,cI ?_⟩
  u_leave0 H.f_add (aU hF0) hF
  exact Goes.stop fun w₄ h₄=>hT _ (aU hF0 hF h₄).1
 rcases Nat.eq_zero_or_pos v with rfl|hvp
 ·replace hw:WgAt L.tWg Wg w₂ 0 0:=by simpa using hw
  have z:(((0:Nat):Int)+1)*KK=KK:=by simp
  rw[z]
  have e0:IntKind.u64.wrap (0+4294967296)=KK:=by decide
  refine⟨_,(stepG_add_atomic rfl rfl (by k_ne) rfl H.f_addU64 (x_addU64_n L) (x_addU64_b L) (x_addU64_x L) .u64 (x_addU64_f L) rfl rfl hw.cellSt (hw.thaw 0)).trans (by rw[e0];rfl),251,xE (m:=120) (n:=130) ?_ hRr⟩
  replace hF:F (w₂.setCell (stA Wg) (.int .u64 KK))∧WgLive L.tWg Wg (w₂.setCell (stA Wg) (.int .u64 KK)):=⟨hF0 _ _ (rl hWA hWX (aside_setCell w₂ (stA Wg) _)) hF.1,⟨_,_,hw.setSt _⟩⟩
  clear hw
  simp only[KK] at hF⊢
  walk_nrm
  u_op (aU hF0) hF
  u_c stepG_region_end (aU hF0) hF
  u_c stepG_ret' (aU hF0) hF
  u_leave1 H.f_uAdd (aU hF0) hF
  u_op (aU hF0) hF
  u_c stepG_region_end (aU hF0) hF
  u_c stepG_seq (aU hF0) hF
  u_c stepG_seq (aU hF0) hF
  u_reg (aU hF0) hF
  u_op (aU hF0) hF
  u_op (aU hF0) hF
  u_op (aU hF0) hF
  u_op (aU hF0) hF
  u_skip (aU hF0) hF
  u_skip (aU hF0) hF
  u_op (aU hF0) hF
  u_c stepG_region_end (aU hF0) hF
  u_cond false (aU hF0) hF
  u_c stepG_skip (aU hF0) hF
  u_c stepG_seq (aU hF0) hF
  u_reg (aU hF0) hF
  u_op (aU hF0) hF
  u_op (aU hF0) hF
  u_op (aU hF0) hF
  u_op (aU hF0) hF
  u_c stepG_region_end (aU hF0) hF
  u_c stepG_seq (aU hF0) hF
  u_reg (aU hF0) hF
  u_op (aU hF0) hF
  u_op (aU hF0) hF
  u_op (aU hF0) hF
  u_op (aU hF0) hF
  u_c stepG_region_end (aU hF0) hF
  u_c stepG_seq (aU hF0) hF
  u_c stepG_seq (aU hF0) hF
  u_reg (aU hF0) hF
  u_op (aU hF0) hF
  u_op (aU hF0) hF
  u_op (aU hF0) hF
  u_op (aU hF0) hF
  u_op (aU hF0) hF
  u_op (aU hF0) hF
  u_op (aU hF0) hF
  u_op (aU hF0) hF
  u_op (aU hF0) hF
  u_op (aU hF0) hF
  u_c stepG_region_end (aU hF0) hF
  u_cond true (aU hF0) hF
  u_reg (aU hF0) hF
  u_op (aU hF0) hF
  u_op (aU hF0) hF
  u_op (aU hF0) hF
  u_conv H.underlying_tPU32 H.room_tU32 (WgLive.cell1 hF.2).choose_spec (aU hF0) hF
  refine Goes.stop (fun w₃ h₃=>?_)
  replace hF:=aU hF0 hF h₃
  clear h₃
  refine⟨rfl,_,_,zH (a:=⟨Wg,1,none⟩) rfl,stepG_markAt .read (by simp) rfl rfl (by k_ne) rfl H.f_raceRead (x_raceRead_n L) (x_raceRead_b L) (x_raceRead_x L) (x_raceRead_f L) (ad:=⟨Wg,1,none⟩) (by simp[Act.eval]),?_⟩
  walk_nrm
  u_c stepG_region_end (aU hF0) hF
  u_c stepG_seq (aU hF0) hF
  u_c stepG_seq (aU hF0) hF
  u_reg (aU hF0) hF
  u_op (aU hF0) hF
  u_op (aU hF0) hF
  u_c stepG_region_end (aU hF0) hF
  u_cond false (aU hF0) hF
  u_c stepG_skip (aU hF0) hF
  u_c stepG_seq (aU hF0) hF
  u_c stepG_seq (aU hF0) hF
  u_reg (aU hF0) hF
  u_op (aU hF0) hF
  u_op (aU hF0) hF
  u_op (aU hF0) hF
  u_skip (aU hF0) hF
  u_skip (aU hF0) hF
  u_op (aU hF0) hF
  u_op (aU hF0) hF
  u_skip (aU hF0) hF
  u_skip (aU hF0) hF
  u_skip (aU hF0) hF
  u_skip (aU hF0) hF
  u_op (aU hF0) hF
  u_c stepG_region_end (aU hF0) hF
  u_cond false (aU hF0) hF
  u_c stepG_skip (aU hF0) hF
  u_c stepG_seq (aU hF0) hF
  u_c stepG_seq (aU hF0) hF
  u_reg (aU hF0) hF
  u_op (aU hF0) hF
  u_op (aU hF0) hF
  u_op (aU hF0) hF
  u_skip (aU hF0) hF
  u_skip (aU hF0) hF
  u_op (aU hF0) hF
  u_c stepG_region_end (aU hF0) hF
  u_cond true (aU hF0) hF
  u_c stepG_ret' (aU hF0) hF
  exact ks (end_ hF) (by omega)
 ·obtain⟨V,hV⟩:∃V:Int,V=(v:Int)+1:=⟨_,rfl⟩
  obtain⟨S,hS⟩:∃S:Int,S=V*KK:=⟨_,rfl⟩
  have eS:IntKind.u64.wrap ((v:Int)*KK+4294967296)=S:=by rw[IntKind.wrap_u64,hS,hV];simp only[KK];omega
  rw[←hV,←hS]
  have a1:S/4294967296=V:=by rw[hS];simp only[KK];omega
  have b1:bits .and .u64 S 2147483648=0:=by rw[hS,hV];have:=st_flag (v+1) 0 (by omega) (by omega);simpa[KK] using this
  have b2:bits .and .u64 S 2147483647=0:=by rw[hS,hV];have:=st_waiters (v+1) 0 (by omega) (by omega);simpa[KK] using this
  have c1:IntKind.i32.wrap V=V:=by rw[IntKind.wrap_i32];omega
  have hV1:1<V:=by omega
  have hV2:V<2147483648:=by omega
  have q1:(V==1)=false:=by simp;omega
  have q2:decide (V=1)=false:=decide_eq_false (by omega)
  have q3:decide (V<0)=false:=decide_eq_false (by omega)
  have q4:decide (0<V)=true:=decide_eq_true (by omega)
  have q5:(V==0)=false:=by simp;omega
  have q6:decide (V=0)=false:=decide_eq_false (by omega)
  refine⟨_,(stepG_add_atomic rfl rfl (by k_ne) rfl H.f_addU64 (x_addU64_n L) (x_addU64_b L) (x_addU64_x L) .u64 (x_addU64_f L) rfl rfl hw.cellSt (hw.thaw 0)).trans (by rw[eS];rfl),130,cI ?_⟩
  replace hF:F (w₂.setCell (stA Wg) (.int .u64 S))∧WgLive L.tWg Wg (w₂.setCell (stA Wg) (.int .u64 S)):=⟨hF0 _ _ (rl hWA hWX (aside_setCell w₂ (stA Wg) _)) hF.1,⟨_,_,hw.setSt _⟩⟩
  clear hw hS hV eS
  walk_nrm
  u_op (aU hF0) hF
  u_c stepG_region_end (aU hF0) hF
  u_c stepG_ret' (aU hF0) hF
  u_leave1 H.f_uAdd (aU hF0) hF
  u_op (aU hF0) hF
  u_c stepG_region_end (aU hF0) hF
  u_c stepG_seq (aU hF0) hF
  u_c stepG_seq (aU hF0) hF
  u_reg (aU hF0) hF
  u_op (aU hF0) hF
  u_op (aU hF0) hF
  u_op (aU hF0) hF
  u_op (aU hF0) hF
  u_skip (aU hF0) hF
  u_skip (aU hF0) hF
  u_op (aU hF0) hF
  u_c stepG_region_end (aU hF0) hF
  u_cond false (aU hF0) hF
  u_c stepG_skip (aU hF0) hF
  u_c stepG_seq (aU hF0) hF
  u_reg (aU hF0) hF
  u_op (aU hF0) hF
  u_op (aU hF0) hF
  u_op (aU hF0) hF
  u_op (aU hF0) hF
  u_c stepG_region_end (aU hF0) hF
  u_c stepG_seq (aU hF0) hF
  u_reg (aU hF0) hF
  u_op (aU hF0) hF
  u_op (aU hF0) hF
  u_op (aU hF0) hF
  u_op (aU hF0) hF
  u_c stepG_region_end (aU hF0) hF
  u_c stepG_seq (aU hF0) hF
  u_c stepG_seq (aU hF0) hF
  u_reg (aU hF0) hF
  u_op (aU hF0) hF
  u_op (aU hF0) hF
  u_op (aU hF0) hF
  u_op (aU hF0) hF
  u_op (aU hF0) hF
  u_op (aU hF0) hF
  u_op (aU hF0) hF
  u_op (aU hF0) hF
  u_op (aU hF0) hF
  u_op (aU hF0) hF
  u_c stepG_region_end (aU hF0) hF
  u_cond false (aU hF0) hF
  u_c stepG_skip (aU hF0) hF
  u_c stepG_seq (aU hF0) hF
  u_c stepG_seq (aU hF0) hF
  u_reg (aU hF0) hF
  u_op (aU hF0) hF
  u_op (aU hF0) hF
  u_c stepG_region_end (aU hF0) hF
  u_cond false (aU hF0) hF
  u_c stepG_skip (aU hF0) hF
  u_c stepG_seq (aU hF0) hF
  u_c stepG_seq (aU hF0) hF
  u_reg (aU hF0) hF
  u_op (aU hF0) hF
  u_op (aU hF0) hF
  u_op (aU hF0) hF
  u_skip (aU hF0) hF
  u_skip (aU hF0) hF
  u_op (aU hF0) hF
  u_op (aU hF0) hF
  u_skip (aU hF0) hF
  u_skip (aU hF0) hF
  u_skip (aU hF0) hF
  u_skip (aU hF0) hF
  u_op (aU hF0) hF
  u_c stepG_region_end (aU hF0) hF
  u_cond false (aU hF0) hF
  u_c stepG_skip (aU hF0) hF
  u_c stepG_seq (aU hF0) hF
  u_c stepG_seq (aU hF0) hF
  u_reg (aU hF0) hF
  u_op (aU hF0) hF
  u_op (aU hF0) hF
  u_op (aU hF0) hF
  u_skip (aU hF0) hF
  u_skip (aU hF0) hF
  u_op (aU hF0) hF
  u_c stepG_region_end (aU hF0) hF
  u_cond true (aU hF0) hF
  u_c stepG_ret' (aU hF0) hF
  exact ks (end_ hF) (by omega)
end

end Go.Proofs.Ytbmnihglaokhmaa.Am
