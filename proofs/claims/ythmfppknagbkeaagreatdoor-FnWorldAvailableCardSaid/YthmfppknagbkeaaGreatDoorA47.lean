/- Runs: a run is opened. The exact laws' own functions on lists of numbers and vertices. Runs: the vertices of a graph's table; copies of proposals; a run as it is handed back. Runs: what is handed back; new runs, valid runs. Runs: what the specification's functions give. Runs: new runs, and the specification's checks. What is drawn: the reader of bytes. What is drawn for graphs. New runs: what the program gives; equal runs; the law FnWorldNew. Runs: what events do, and what they keep: plain laws. Runs: more plain laws: bounds, what is put into lists in order, quiet rounds. The plain machine wit -/
import Derived.Test.YthmfppknagbkeaaGreatDoorA46
set_option linter.unusedSimpArgs false
set_option linter.unusedVariables false
set_option maxHeartbeats 1000000
namespace Go.Proofs.YthmfppknagbkeaaGreatDoor.Am
open Go
attribute [local irreducible] Mk bk Ari eD ky iB br b8 fY er At af
set_option maxRecDepth 10000
def D5 (w:Wrl):V:=if eg w then .tup [.ptr 4 0,.bool (vT w.bad (w.views.map az) w.props)] else .tup [.nilp,.bool false]
def D4 (w:Wrl):VH:=if eg w then rB w.com w.lead w.bad (w.views.map az) w.props else[]
def D6 (w:Wrl):Nat→VSt
 |0=>⟨[(1,.ptr 4 0),(4,.ptr 5 0),(42,.lst (.lst .vtx) w.views),(43,.int .i64 w.views.length),(44,.int .i64 0)],[(0,.fvari 190 217 (.ob .vtx) []),(4,.var 33 (ap w).cells),(5,.var 112 [.int .i32 0,.int .u32 0,.lst (.int .i64) w.com,.lst (.int .i64) w.lead,.int .i64 w.bad,.nils,.nils])],6⟩
 |i+1=>⟨[(1,.ptr 4 0),(4,.ptr 5 0),(42,.lst (.lst .vtx) w.views),(43,.int .i64 w.views.length),(44,.int .i64 ((i+1:Nat):Int))],[(0,.fvari 190 217 (.ob .vtx) ((w.views.take (i+1)).map az)),(4,.var 33 (ap w).cells),(5,.var 112 [.int .i32 0,.int .u32 0,.lst (.int .i64) w.com,.lst (.int .i64) w.lead,.int .i64 w.bad,.ref 6,.nils]),(6,.row 144 (.hp 0) ((List.range (i+1)).map some))],7⟩
set_option maxHeartbeats 1000000 in
theorem A5 (w:Wrl)(hl:∀g∈w.views,g.length≤2000000):af Tryz.prog 57 [ap w] [] (D5 w) (D4 w):=by
 have hno:eg w=false→V.tup [.nilp,.bool false]=D5 w∧([]:VH)=D4 w:=fun h=>by simp[D5,D4,h]
 refine aa aS Tryz.func57 rfl rfl false 0 4 rfl rfl rfl rfl fun K hK hb1 hb2=>?_;simp only[ae,enc,Nat.reduceAdd]
 clear hb1 hb2
 have hL:=nG w.com w.lead
 cases h1:comV w.com && leaS w.com w.lead
 ·rw[h1] at hL
  (repeat' first|refine a9 ?_|refine sa fun xe hxe=>?_|refine sb (fun hq=>?_) fun hq=>?_|refine cr (hL) ?_|exact True.intro)
  exact hno (by
   rw[Bool.and_eq_false_iff] at h1
   rcases h1 with h1|h1<;>simp[eg,fo,h1])
 rw[h1] at hL
 have hc:comV w.com=true:=(Bool.and_eq_true_iff.1 h1).1
 have hle:leaS w.com w.lead=true:=(Bool.and_eq_true_iff.1 h1).2
 have hB:=DQ w.com w.bad hc
 cases h2:badS w.com w.bad
 ·rw[h2] at hB
  (repeat' first|refine a9 ?_|refine sa fun xe hxe=>?_|refine sb (fun hq=>?_) fun hq=>?_|refine cr (hL) ?_|refine cr (hB) ?_|exact True.intro)
  exact hno (by simp[eg,fo,h2])
 rw[h2] at hB
 have hP:=DP w hc
 cases h3:eO w.com w.bad w.props
 ·rw[h3] at hP
  (repeat' first|refine a9 ?_|refine sa fun xe hxe=>?_|refine sb (fun hq=>?_) fun hq=>?_|refine cr (hL) ?_|refine cr (hB) ?_|refine cr (hP) ?_|exact True.intro)
  exact hno (by simp[eg,fo,h3])
 rw[h3] at hP
 have hV:=DT w hc h3 hl
 cases h4:(w.views.length==w.com.length) && eo w.com w.bad w.props w.views
 ·rw[h4] at hV
  (repeat' first|refine a9 ?_|refine sa fun xe hxe=>?_|refine sb (fun hq=>?_) fun hq=>?_|refine cr (hL) ?_|refine cr (hB) ?_|refine cr (hP) ?_|refine cr (hV) ?_|exact True.intro)
  exact hno (by simp only[eg,h4];simp)
 rw[h4] at hV
 have hpre:eg w=true:=by simp[eg,fo,hc,hle,h2,h3];simpa using h4
 have hR:D5 w= .tup [.ptr 4 0,.bool (vT w.bad (w.views.map az) w.props)]:=by simp[D5,hpre]
 have hO:D4 w=rB w.com w.lead w.bad (w.views.map az) w.props:=by simp[D4,hpre]
 rw[hR,hO]
 have h7:=(ao.1 hc).2
 have hll:=(be.1 hle).2
 have hvl:w.views.length=w.com.length:=(mJ hpre).2.2.2.2.1
 have hne:w.com≠[]:=fun h=>by rw[h] at h7;simp at h7
 have hCm:=AV w.com (by omega)
 have hCl:=AV w.lead (by omega)
 (repeat' first|refine a9 ?_|refine sa fun xe hxe=>?_|refine sb (fun hq=>?_) fun hq=>?_|refine cr (hL) ?_|refine cr (hB) ?_|refine cr (hP) ?_|refine cr (hV) ?_|refine cr (hCm) ?_|refine cr (hCl) ?_|exact True.intro)
 refine qP 0 (.fvari 190 217 (.ob .vtx) []) rfl ?_
 refine ab hK [] [1,4,42,43,44] (D6 w) (fun i=>i≤w.views.length) (fun i=>w.views.length-i) 0 (by simp) (by(conv=>whnf);rfl) ?_
 intro i hi
 have hps:=se hpre
 have hpl:=lE h3
 have ht7:∀t∈w.views.map az,t.length=217:=fun t h=>by
  obtain⟨g,_,rfl⟩:=List.mem_map.1 h
  exact dh g
 have hml:(w.views.map az).length=w.views.length:=List.length_map ..
 by_cases hlt:i<w.views.length
 ·have hgm:w.views[i]∈w.views:=List.getElem_mem hlt
  have hxe:w.views[i]?=some w.views[i]:=List.getElem?_eq_getElem hlt
  have hsn:w.views.take (i+1)=w.views.take i++[w.views[i]]:=List.take_succ_eq_append_getElem hlt
  have hg:=nS hpre _ hgm
  generalize w.views[i]=g at *
  cases i with
  |zero=>
   have hx0:w.views[(0:Int).toNat]?=some g:=hxe
   have hst:D6 w (0+1)=⟨[(1,.ptr 4 0),(4,.ptr 5 0),(42,.lst (.lst .vtx) w.views),(43,.int .i64 w.views.length),(44,.int .i64 ((0+1:Nat):Int))],[(0,.fvari 190 217 (.ob .vtx) [az g]),(4,.var 33 (ap w).cells),(5,.var 112 [.int .i32 0,.int .u32 0,.lst (.int .i64) w.com,.lst (.int .i64) w.lead,.int .i64 w.bad,.ref 6,.nils]),(6,.row 144 (.hp 0) [some 0])],7⟩:=by
    rw[D6,hsn]
    rfl
   have hs0:D6 w 0=⟨[(1,.ptr 4 0),(4,.ptr 5 0),(42,.lst (.lst .vtx) w.views),(43,.int .i64 w.views.length),(44,.int .i64 0)],[(0,.fvari 190 217 (.ob .vtx) []),(4,.var 33 (ap w).cells),(5,.var 112 [.int .i32 0,.int .u32 0,.lst (.int .i64) w.com,.lst (.int .i64) w.lead,.int .i64 w.bad,.nils,.nils])],6⟩:=rfl
   rw[hs0]
   (repeat' first|refine a9 ?_|refine sa fun xe hxe=>?_|refine sb (fun hq=>?_) fun hq=>?_|refine cr (Fv g hg) ?_|exact True.intro)
   refine⟨0+1,by omega,by omega,?_⟩
   rw[hst]
   rfl
  |succ i=>
   have hfl:((w.views.take (i+1)).map az).length=i+1:=by rw[List.length_map,List.length_take];omega
   have hrl:((List.range (i+1)).map some).length=i+1:=by simp
   have hst:D6 w (i+1+1)=⟨[(1,.ptr 4 0),(4,.ptr 5 0),(42,.lst (.lst .vtx) w.views),(43,.int .i64 w.views.length),(44,.int .i64 ((i+1+1:Nat):Int))],[(0,.fvari 190 217 (.ob .vtx) ((w.views.take (i+1)).map az++[az g])),(4,.var 33 (ap w).cells),(5,.var 112 [.int .i32 0,.int .u32 0,.lst (.int .i64) w.com,.lst (.int .i64) w.lead,.int .i64 w.bad,.ref 6,.nils]),(6,.row 144 (.hp 0) ((List.range (i+1)).map some++[some (i+1)]))],7⟩:=by
    rw[D6,hsn,List.map_append,List.range_succ,List.map_append]
    rfl
   have hs0:D6 w (i+1)=⟨[(1,.ptr 4 0),(4,.ptr 5 0),(42,.lst (.lst .vtx) w.views),(43,.int .i64 w.views.length),(44,.int .i64 ((i+1:Nat):Int))],[(0,.fvari 190 217 (.ob .vtx) ((w.views.take (i+1)).map az)),(4,.var 33 (ap w).cells),(5,.var 112 [.int .i32 0,.int .u32 0,.lst (.int .i64) w.com,.lst (.int .i64) w.lead,.int .i64 w.bad,.ref 6,.nils]),(6,.row 144 (.hp 0) ((List.range (i+1)).map some))],7⟩:=rfl
   rw[hs0]
   clear hs0
   generalize (w.views.take (i+1)).map az=ts at *
   generalize (List.range (i+1)).map some=rs at *
   (repeat' first|refine a9 ?_|refine sa fun xe hxe=>?_|refine sb (fun hq=>?_) fun hq=>?_|refine cr (Fv g hg) ?_|exact True.intro)
   refine⟨i+1+1,by omega,by omega,?_⟩
   rw[hst,hfl]
   rfl
 ·have hi':i=w.views.length:=by omega
  have hK:=H5 w.com w.lead w.bad (w.views.map az) w.props ht7 (by omega) (by omega) (by rw[hml];exact hps)
  have hCp:=Gf w.props (fun p hp=>⟨by have:=(hps p hp).2.2.2.2;omega,by have:=(hps p hp).2.2.2.1;omega⟩) (by omega)
  cases i with
  |zero=>omega
  |succ i=>
   have hs0:D6 w (i+1)=⟨[(1,.ptr 4 0),(4,.ptr 5 0),(42,.lst (.lst .vtx) w.views),(43,.int .i64 w.views.length),(44,.int .i64 ((i+1:Nat):Int))],[(0,.fvari 190 217 (.ob .vtx) (w.views.map az)),(4,.var 33 (ap w).cells),(5,.var 112 [.int .i32 0,.int .u32 0,.lst (.int .i64) w.com,.lst (.int .i64) w.lead,.int .i64 w.bad,.ref 6,.nils]),(6,.row 144 (.hp 0) ((List.range (w.views.map az).length).map some))],7⟩:=by
    rw[D6,List.take_of_length_le (by omega),hml,←hi']
   rw[hs0]
   clear hs0
   generalize hts:w.views.map az=ts at *
   (repeat' first|refine a9 ?_|refine sa fun xe hxe=>?_|refine sb (fun hq=>?_) fun hq=>?_|refine cr (hCp) ?_|refine co (hK) ?_|exact True.intro)
   exact⟨rfl,rfl⟩
theorem sF {α:Type}{a b:List α}{i:Nat}{x:α}(h:a.take i=b.take i)(ha:a[i]?=some x)(hb:b[i]?=some x):a.take (i+1)=b.take (i+1):=by
 rw[List.take_add_one,List.take_add_one,h,ha,hb]
theorem iU (a b:List Int):af Tryz.prog 61 [.lst (.int .i64) a,.lst (.int .i64) b] [] (.bool (decide (a=b))) []:=by
 refine aa al Tryz.func61 rfl rfl false 0 4 rfl rfl rfl rfl fun K hK hb1 hb2=>?_;simp only[ae,enc,Nat.reduceAdd]
 simp[ah,V.toD,bnd,ag,D.cells] at hb1
 by_cases hl:a.length=b.length
 ·(repeat' first|refine st ?_|refine sa fun xe hxe=>?_|refine sb (fun hq=>?_) fun hq=>?_|exact True.intro)
  refine ab hK [] [0,1,4,5] (fun i:Nat=>⟨[(0,.lst (.int .i64) a),(1,.lst (.int .i64) b),(4,.bool false),(5,.int .i64 i)],[],4⟩) (fun i=>i≤a.length∧a.take i=b.take i) (fun i=>a.length-i) 0 ⟨by simp,by simp⟩ rfl ?_
  rintro i ⟨hi,hall⟩
  by_cases hlt:i<a.length
  ·obtain⟨x,hx⟩:∃x,a[i]?=some x:=⟨_,List.getElem?_eq_getElem hlt⟩
   obtain⟨y,hy⟩:∃y,b[i]?=some y:=⟨_,List.getElem?_eq_getElem (by omega)⟩
   (repeat' first|refine st ?_|refine sa fun xe hxe=>?_|refine sb (fun hq=>?_) fun hq=>?_|exact True.intro)
   ·have hne:¬x=y:=hq
    exact⟨by rw[decide_eq_false];rintro rfl;rw[hx] at hy;exact hne (Option.some.inj hy),rfl⟩
   ·subst hq
    exact⟨i+1,⟨by omega,sF hall hx hy⟩,by omega,rfl⟩
  ·(repeat' first|refine st ?_|refine sa fun xe hxe=>?_|refine sb (fun hq=>?_) fun hq=>?_|exact True.intro)
   have hab:a=b:=by rwa [List.take_of_length_le (by omega),List.take_of_length_le (by omega)] at hall
   exact⟨by rw[decide_eq_true hab],rfl⟩
 ·(repeat' first|refine st ?_|refine sa fun xe hxe=>?_|refine sb (fun hq=>?_) fun hq=>?_|exact True.intro)
  exact⟨by rw[decide_eq_false];rintro rfl;exact hl rfl,rfl⟩
theorem Cb {α:Type}(c:List α)(a:List α)(x:α){i:Nat}(hc:c.length=i)(hi:i<a.length):(c++a.drop i).set i x=(c++[x])++a.drop (i+1):=by
 rw[List.set_append_right _ _ (by omega),hc,Nat.sub_self,List.drop_eq_getElem_cons hi]
 simp only[List.set_cons_zero,List.append_assoc,List.singleton_append]
theorem BM {α:Type}(c:List α)(a:List α){i:Nat}(hc:c.length=i)(hi:i<a.length):i<(c++a.drop i).length:=by simp;omega
theorem CG {tab:List (Option Vtx)}{n:Nat}{o:Option Vtx}(h:tab[n]?=some o):gJ (tab.take (n+1))=gJ (tab.take n)++o.toList:=by
 obtain⟨hl,rfl⟩:=List.getElem?_eq_some_iff.1 h
 rw[List.take_succ_eq_append_getElem hl]
 simp only[gJ,List.filterMap_append]
 cases tab[n]<;>rfl
theorem EW (tab:List (Option Vtx)):(gJ tab).length≤tab.length:=List.length_filterMap_le ..
set_option maxHeartbeats 1000000 in
theorem Gz (tabs:List (List (Option Vtx)))(k:Nat)(tab:List (Option Vtx))(hk:tabs[k]?=some tab)(ht:tab.length=217)(hv:∀v,some v∈tab→v.parents.length≤1000000):af Tryz.prog 117 [.fptr 0 k 0] [(0,.fvari 190 217 (.ob .vtx) tabs)] (.lst .vtx (gJ tab)) [(0,.fvari 190 217 (.ob .vtx) tabs)]:=by
 refine aa al Tryz.func117 rfl rfl true 0 4 rfl rfl rfl rfl fun K hK hb1 hb2=>?_;simp only[ae,enc,Nat.reduceAdd]
 clear hb1 hb2
 have hat:∀n,n<217→tab[n]?=some (tab.getD n none):=fun n hn=>by rw[List.getD_eq_getElem?_getD,List.getElem?_eq_getElem (by omega)];rfl
 (repeat' first|refine st ?_|refine sa fun xe hxe=>?_|refine sb (fun hq=>?_) fun hq=>?_|exact True.intro)
 refine ab hK [] [3,9,11] (fun r:Nat=>⟨[(3,.ref 4),(9,.fptr 0 k 0),(11,.int .i64 (r:Int))],[(0,.fvari 190 217 (.ob .vtx) tabs),(4,.row 48 .vtx (gJ (tab.take (r*7))))],5⟩) (fun r=>r≤31) (fun r=>31-r) 0 (by omega) rfl ?_
 intro r hr
 by_cases hlt:r<31
 ·obtain⟨e,he⟩:∃e:Nat→Option Vtx,∀j,e j=tab.getD (r*7+j) none:=⟨_,fun _=>rfl⟩
  have hg:∀j,j<7→tab[r*7+j]?=some (e j):=fun j hj=>by rw[he];exact hat _ (by omega)
  (repeat' first|refine st ?_|refine sa fun xe hxe=>?_|refine sb (fun hq=>?_) fun hq=>?_|exact True.intro)
  rename_i e0 h0 e1 h1 e2 h2 e3 h3 e4 h4 e5 h5
  obtain rfl:e0=e 0:=Option.some.inj (h0.symm.trans (hg 0 (by omega)))
  obtain rfl:e1=e 1:=Option.some.inj (h1.symm.trans (hg 1 (by omega)))
  obtain rfl:e2=e 2:=Option.some.inj (h2.symm.trans (hg 2 (by omega)))
  obtain rfl:e3=e 3:=Option.some.inj (h3.symm.trans (hg 3 (by omega)))
  obtain rfl:e4=e 4:=Option.some.inj (h4.symm.trans (hg 4 (by omega)))
  obtain rfl:e5=e 5:=Option.some.inj (h5.symm.trans (hg 5 (by omega)))
  obtain rfl:xe=e 6:=Option.some.inj (hxe.symm.trans (hg 6 (by omega)))
  clear h0 h1 h2 h3 h4 h5 hxe
  refine ab hK [] [3,9,11,16,17] (fun j:Nat=>⟨[(3,.ref 4),(9,.fptr 0 k 0),(11,.int .i64 (r:Int)),(16,.agg [.obo .vtx (e 0),.obo .vtx (e 1),.obo .vtx (e 2),.obo .vtx (e 3),.obo .vtx (e 4),.obo .vtx (e 5),.obo .vtx (e 6)]),(17,.int .i64 (j:Int))],[(0,.fvari 190 217 (.ob .vtx) tabs),(4,.row 48 .vtx (gJ (tab.take (r*7+j))))],5⟩) (fun j=>j≤7) (fun j=>7-j) 0 (by omega) rfl ?_
  intro j hj
  by_cases hjl:j<7
  ·have hs:=CG (hg j hjl)
   have hvj:∀v,e j=some v→v.parents.length≤1000000:=fun v h=>hv v (List.mem_of_getElem? (by rw[hg j hjl,h]))
   have hll:=EW (tab.take (r*7+j))
   rw[List.length_take] at hll
   obtain⟨j1,hj1⟩:∃j1,j1=j+1:=⟨_,rfl⟩
   have hji:((j1:Nat):Int)=(j:Int)+1:=by omega
   rw[Nat.add_assoc,←hj1] at hs
   obtain⟨o,ho⟩:∃o,o=e j:=⟨_,rfl⟩
   rw[←ho] at hs hvj
   generalize gJ (tab.take (r*7+j))=l at *
   obtain rfl|rfl|rfl|rfl|rfl|rfl|rfl:j=0∨j=1∨j=2∨j=3∨j=4∨j=5∨j=6:=by omega
   all_goals
    rw[←ho]
    cases o with
    |none=>
     (repeat' first|refine st ?_|refine sa fun xe hxe=>?_|refine sb (fun hq=>?_) fun hq=>?_|exact True.intro)
     refine⟨j1,by omega,by omega,?_⟩
     rw[hs,hji,Option.toList_none,List.append_nil]
     try rfl
    |some v=>
     have hvv:=hvj v rfl
     (repeat' first|refine st ?_|refine sa fun xe hxe=>?_|refine sb (fun hq=>?_) fun hq=>?_|refine cr (m7 _ hvv) ?_|exact True.intro)
     refine⟨j1,by omega,by omega,?_⟩
     rw[hs,hji]
     rfl
  ·obtain rfl:j=7:=by omega
   (repeat' first|refine st ?_|refine sa fun xe hxe=>?_|refine sb (fun hq=>?_) fun hq=>?_|exact True.intro)
   exact⟨r+1,by omega,by omega,by rw[show (r+1)*7=r*7+7 by omega];rfl⟩
 ·obtain rfl:r=31:=by omega
  (repeat' first|refine st ?_|refine sa fun xe hxe=>?_|refine sb (fun hq=>?_) fun hq=>?_|exact True.intro)
  rw[List.take_of_length_le (by omega)]
  exact⟨rfl,rfl⟩
theorem GA (tabs:List (List (Option Vtx)))(k:Nat)(tab:List (Option Vtx))(hk:tabs[k]?=some tab)(ht:tab.length=217)(hv:∀v,some v∈tab→v.parents.length≤1000000):af Tryz.prog 117 [.hpo 0 (some k)] [(0,.fvari 190 217 (.ob .vtx) tabs)] (.lst .vtx (gJ tab)) [(0,.fvari 190 217 (.ob .vtx) tabs)]:=by
 have h:=Gz tabs k tab hk ht hv
 unfold af at h⊢
 exact h
theorem Fi (w:Wrl)(hl:∀g∈w.views,g.length≤2000000):af Tryz.prog 35 [ap w] [] (.bool (dw w)) []:=by
 have h:=A5 w hl
 have he:=gw w
 refine aa al Tryz.func35 rfl rfl false 0 4 rfl rfl rfl rfl fun K hK hb1 hb2=>?_;simp only[ae,enc,Nat.reduceAdd]
 clear hb1 hb2
 cases hp:eg w
 ·simp only[D5,D4,hp,Bool.false_eq_true,if_false] at h
  (repeat' first|refine st ?_|refine sa fun xe hxe=>?_|refine sb (fun hq=>?_) fun hq=>?_|refine cr (h) ?_|exact True.intro)
  exact⟨by rw[he,hp,Bool.false_and],rfl⟩
 ·simp only[D5,D4,hp,if_true] at h
  have hk:=BP hp
  rw[hk] at h
  (repeat' first|refine st ?_|refine sa fun xe hxe=>?_|refine sb (fun hq=>?_) fun hq=>?_|refine cr (h) ?_|exact True.intro)
  exact⟨by rw[he,hp,Bool.true_and],rfl⟩
theorem AO (l:List Int)(n:Int):af Tryz.prog 74 [.lst (.int .i64) l,.int .i64 n] [] (.bool (l.contains n)) []:=by
 refine aa al Tryz.func74 rfl rfl false 0 4 rfl rfl rfl rfl fun K hK hb1 hb2=>?_;simp only[ae,enc,Nat.reduceAdd]
 simp[ah,V.toD,bnd,ag,D.cells] at hb1
 (repeat' first|refine st ?_|refine sa fun xe hxe=>?_|refine sb (fun hq=>?_) fun hq=>?_|exact True.intro)
 refine ab hK [] [0,1,5] (fun i:Nat=>⟨[(0,.lst (.int .i64) l),(1,.int .i64 n),(5,.int .i64 i)],[],4⟩) (fun i=>i≤l.length∧∀y∈l.take i,(y==n)=false) (fun i=>l.length-i) 0 ⟨by simp,by simp⟩ rfl ?_
 rintro i ⟨hi,hall⟩
 by_cases hlt:i<l.length
 ·have hxe:l[i]?=some l[i]:=List.getElem?_eq_getElem hlt
  have hsn:l.take (i+1)=l.take i++[l[i]]:=List.take_succ_eq_append_getElem hlt
  have hm:l[i]∈l:=List.getElem_mem hlt
  generalize l[i]=x at *
  by_cases h:x=n
  ·subst h
   (repeat' first|refine st ?_|refine sa fun xe hxe=>?_|refine sb (fun hq=>?_) fun hq=>?_|exact True.intro)
   ·rw[List.contains_iff_mem.2 hm]
    exact⟨rfl,rfl⟩
   ·exact absurd trivial hq
  ·(repeat' first|refine st ?_|refine sa fun xe hxe=>?_|refine sb (fun hq=>?_) fun hq=>?_|exact True.intro)
   exact⟨i+1,⟨by omega,by rw[hsn];exact aP hall (by simpa using h)⟩,by omega,rfl⟩
 ·(repeat' first|refine st ?_|refine sa fun xe hxe=>?_|refine sb (fun hq=>?_) fun hq=>?_|exact True.intro)
  rw[List.take_of_length_le (by omega)] at hall
  have:l.contains n=false:=by
   rw[Bool.eq_false_iff]
   intro h
   have:=hall _ (List.contains_iff_mem.1 h)
   simp at this
  rw[this]
  exact⟨rfl,rfl⟩
theorem GC {a b:List Int}{i:Nat}{x y:Int}(hx:a[i]?=some x)(hy:b[i]?=some y)(h:x≠y):(a==b)=false:=by
 rw[beq_eq_false_iff_ne]
 rintro rfl
 rw[hx] at hy
 exact h (Option.some.inj hy)
theorem wm (v u:Vtx):af Tryz.prog 128 [bA v,bA u] [] (.bool (gL v u)) []:=by
 have hno:∀b,gL v u=b→V.bool b=V.bool (gL v u)∧([]:VH)=[]:=fun b h=>⟨by rw[h],rfl⟩
 refine aa al Tryz.func128 rfl rfl false 0 4 rfl rfl rfl rfl fun K hK hb1 hb2=>?_;simp only[ae,enc,Nat.reduceAdd]
 simp[ah,V.toD,bnd,ag,D.cells,ey] at hb1
 by_cases h1:v.round=u.round
 rotate_left
 ·(repeat' first|refine st ?_|refine sa fun xe hxe=>?_|refine sb (fun hq=>?_) fun hq=>?_|exact True.intro)
  exact hno _ (by simp[gL,h1])
 by_cases h2:v.author=u.author
 rotate_left
 ·(repeat' first|refine st ?_|refine sa fun xe hxe=>?_|refine sb (fun hq=>?_) fun hq=>?_|exact True.intro)
  exact hno _ (by simp[gL,h2])
 by_cases h3:v.digest=u.digest
 rotate_left
 ·(repeat' first|refine st ?_|refine sa fun xe hxe=>?_|refine sb (fun hq=>?_) fun hq=>?_|exact True.intro)
  exact hno _ (by simp[gL,h3])
 have he:gL v u=(v.parents==u.parents):=by simp[gL,h1,h2,h3]
 by_cases h4:v.parents.length=u.parents.length
 rotate_left
 ·(repeat' first|refine st ?_|refine sa fun xe hxe=>?_|refine sb (fun hq=>?_) fun hq=>?_|exact True.intro)
  exact hno _ (by rw[he,beq_eq_false_iff_ne];intro h;exact h4 (by rw[h]))
 (repeat' first|refine st ?_|refine sa fun xe hxe=>?_|refine sb (fun hq=>?_) fun hq=>?_|exact True.intro)
 refine ab hK [] [2,3,5] (fun i:Nat=>⟨[(2,.ptr 4 0),(3,.ptr 5 0),(5,.int .i64 i)],[(4,.var 48 (bA v).cells),(5,.var 48 (bA u).cells)],6⟩) (fun i=>i≤v.parents.length∧v.parents.take i=u.parents.take i) (fun i=>v.parents.length-i) 0 ⟨by simp,by simp⟩ rfl ?_
 rintro i ⟨hi,hall⟩
 by_cases hlt:i<v.parents.length
 ·have hxe:v.parents[i]?=some v.parents[i]:=List.getElem?_eq_getElem hlt
  have hye:u.parents[i]?=some (u.parents[i]'(by omega)):=List.getElem?_eq_getElem (by omega)
  have hsn:v.parents.take (i+1)=v.parents.take i++[v.parents[i]]:=List.take_succ_eq_append_getElem hlt
  have hsu:u.parents.take (i+1)=u.parents.take i++[u.parents[i]'(by omega)]:=List.take_succ_eq_append_getElem (by omega)
  generalize v.parents[i]=x at *
  generalize u.parents[i]'(by omega)=y at *
  by_cases h:x=y
  ·subst h
   (repeat' first|refine st ?_|refine sa fun xe hxe=>?_|refine sb (fun hq=>?_) fun hq=>?_|exact True.intro)
   ·exact absurd trivial hq
   ·exact⟨i+1,⟨by omega,by rw[hsn,hsu,hall]⟩,by omega,rfl⟩
  ·(repeat' first|refine st ?_|refine sa fun xe hxe=>?_|refine sb (fun hq=>?_) fun hq=>?_|exact True.intro)
   exact hno _ (by rw[he];exact GC hxe hye h)
 ·(repeat' first|refine st ?_|refine sa fun xe hxe=>?_|refine sb (fun hq=>?_) fun hq=>?_|exact True.intro)
  rw[List.take_of_length_le (by omega),List.take_of_length_le (by omega)] at hall
  exact hno _ (by rw[he,hall];simp)
theorem Cg (v u:Vtx):af Tryz.prog 127 [bA v,bA u] [] (.bool (slt v u)) []:=by
 refine aa al Tryz.func127 rfl rfl false 0 4 rfl rfl rfl rfl fun K hK hb1 hb2=>?_;simp only[ae,enc,Nat.reduceAdd]
 (repeat' first|refine st ?_|refine sa fun xe hxe=>?_|refine sb (fun hq=>?_) fun hq=>?_|exact True.intro)
 all_goals (refine⟨?_,rfl⟩;simp_all[slt])
theorem x8 (w:Wrl)(p:Ppl)(hc:comV w.com=true)(hm:cd w.com p.members=true):af Tryz.prog 129 [ap w,pN p] [] (.bool (don w.com p)) []:=by
 have h1:=bf hm
 have h2:=il hm
 have h3:=(ao.1 hc).2
 refine aa al Tryz.func129 rfl rfl false 0 4 rfl rfl rfl rfl fun K hK hb1 hb2=>?_;simp only[ae,enc,Nat.reduceAdd]
 (repeat' first|refine st ?_|refine sa fun xe hxe=>?_|refine sb (fun hq=>?_) fun hq=>?_|refine cr (uv _ hc) ?_|((with_reducible refine bl ?_);(conv=>whnf);(first|with_reducible refine bF (yk _ _ hc h1 (by omega)) ?_);conv=>whnf)|exact True.intro)
 exact⟨rfl,rfl⟩
theorem Hf (w:Wrl)(hc:comV w.com=true):af Tryz.prog 72 [ap w] [] (.bool (eO w.com w.bad w.props)) []:=by
 refine aa al Tryz.func72 rfl rfl false 0 4 rfl rfl rfl rfl fun K hK hb1 hb2=>?_;simp only[ae,enc,Nat.reduceAdd]
 simp[ah,V.toD,bnd,ag,D.cells] at hb1
 (repeat' first|refine st ?_|refine sa fun xe hxe=>?_|refine sb (fun hq=>?_) fun hq=>?_|exact True.intro)
 refine ab hK [] [1,3] (fun i:Nat=>⟨[(1,.ptr 4 0),(3,.int .i64 i)],[(4,.var 33 (ap w).cells)],5⟩) (fun i=>i≤w.props.length∧∀j,j<i→eB w.com w.bad w.props j=true) (fun i=>w.props.length-i) 0 ⟨by simp,by simp⟩ rfl ?_
 rintro i ⟨hi,hall⟩
 by_cases hlt:i<w.props.length
 ·have hxe:w.props[i]?=some w.props[i]:=List.getElem?_eq_getElem hlt
  have hno:eB w.com w.bad w.props i=false→V.bool false=V.bool (eO w.com w.bad w.props)∧([]:VH)=[]:=fun h=>⟨by rw[eO,cy hlt h,Bool.false_and],rfl⟩
  have hA:eB w.com w.bad w.props i=(oneP w.com w.props[i] && cX i (fun k=>fitP w.bad w.props[i] (w.props.getD k p0))):=by simp only[eB,aU hxe]
  generalize w.props[i]=p at *
  have hvc:=kv w.com p.v hc
  have hmc:=v7 w.com p.members
  cases h1:vtxS w.com p.v
  ·rw[h1] at hvc
   (repeat' first|refine st ?_|refine sa fun xe hxe=>?_|refine sb (fun hq=>?_) fun hq=>?_|refine cr (hvc) ?_|refine cr (hmc) ?_|exact True.intro)
   exact hno (by simp[hA,oneP,h1])
  rw[h1] at hvc
  cases h2:cd w.com p.members
  ·rw[h2] at hmc
   (repeat' first|refine st ?_|refine sa fun xe hxe=>?_|refine sb (fun hq=>?_) fun hq=>?_|refine cr (hvc) ?_|refine cr (hmc) ?_|exact True.intro)
   exact hno (by simp[hA,oneP,h2])
  rw[h2] at hmc
  (repeat' first|refine st ?_|refine sa fun xe hxe=>?_|refine sb (fun hq=>?_) fun hq=>?_|refine cr (hvc) ?_|refine cr (hmc) ?_|exact True.intro)
  refine ab hK [] [1,3,4,5] (fun k:Nat=>⟨[(1,.ptr 4 0),(3,.int .i64 i),(4,.ptr 5 0),(5,.int .i64 k)],[(4,.var 33 (ap w).cells),(5,.var 50 (pN p).cells)],6⟩) (fun k=>k≤i∧∀j,j<k→fitP w.bad p (w.props.getD j p0)=true) (fun k=>i-k) 0 ⟨by simp,by simp⟩ rfl ?_
  rintro k ⟨hk,hkall⟩
  by_cases hkl:k<i
  ·have hxk:w.props[k]?=some (w.props.getD k p0):=by rw[List.getD_eq_getElem?_getD,List.getElem?_eq_getElem (show k<w.props.length by omega)];rfl
   have hyes:=bt hkall (p:=fun j=>fitP w.bad p (w.props.getD j p0)) (i:=k)
   have hnk:fitP w.bad p (w.props.getD k p0)=false→V.bool false=V.bool (eO w.com w.bad w.props)∧([]:VH)=[]:=fun h=>hno (by rw[hA,cy hkl h,Bool.and_false])
   generalize w.props.getD k p0=q at *
   have hsc:=Cg p.v q.v
   have hqc:=wm p.v q.v
   cases h3:slt p.v q.v
   ·rw[h3] at hsc
    (repeat' first|refine st ?_|refine sa fun xe hxe=>?_|refine sb (fun hq=>?_) fun hq=>?_|refine cr (hsc) ?_|refine cr (hqc) ?_|exact True.intro)
    exact⟨k+1,⟨by omega,hyes (by simp[fitP,h3])⟩,by omega,rfl⟩
   rw[h3] at hsc
   cases h4:gL p.v q.v
   rotate_left
   ·rw[h4] at hqc
    (repeat' first|refine st ?_|refine sa fun xe hxe=>?_|refine sb (fun hq=>?_) fun hq=>?_|refine cr (hsc) ?_|refine cr (hqc) ?_|exact True.intro)
    exact hnk (by simp[fitP,h3,h4])
   rw[h4] at hqc
   by_cases h5:p.v.author=w.bad
   rotate_left
   ·(repeat' first|refine st ?_|refine sa fun xe hxe=>?_|refine sb (fun hq=>?_) fun hq=>?_|refine cr (hsc) ?_|refine cr (hqc) ?_|exact True.intro)
    exact hnk (by simp[fitP,h3,h5])
   have hfe:fitP w.bad p q= !jb w.bad p.members q.members:=by simp[fitP,h3,h4,h5]
   (repeat' first|refine st ?_|refine sa fun xe hxe=>?_|refine sb (fun hq=>?_) fun hq=>?_|refine cr (hsc) ?_|refine cr (hqc) ?_|exact True.intro)
   refine ab hK [] [1,3,4,5,6,7] (fun n:Nat=>⟨[(1,.ptr 4 0),(3,.int .i64 i),(4,.ptr 5 0),(5,.int .i64 k),(6,.ptr 6 0),(7,.int .i64 n)],[(4,.var 33 (ap w).cells),(5,.var 50 (pN p).cells),(6,.var 50 (pN q).cells)],7⟩) (fun n=>n≤p.members.length∧∀m∈p.members.take n,(m !=w.bad && q.members.contains m)=false) (fun n=>p.members.length-n) 0 ⟨by simp,by simp⟩ rfl ?_
   rintro n ⟨hn,hnall⟩
   by_cases hnl:n<p.members.length
   ·have hxm:p.members[n]?=some p.members[n]:=List.getElem?_eq_getElem hnl
    have hsn:p.members.take (n+1)=p.members.take n++[p.members[n]]:=List.take_succ_eq_append_getElem hnl
    have hmm:p.members[n]∈p.members:=List.getElem_mem hnl
    have hml:p.members.length≤7:=by have:=il h2;have:=(ao.1 hc).2;omega
    generalize p.members[n]=m at *
    have hhc:=AO q.members m
    by_cases h6:m=w.bad
    ·(repeat' first|refine st ?_|refine sa fun xe hxe=>?_|refine sb (fun hq=>?_) fun hq=>?_|refine cr (hhc) ?_|exact True.intro)
     exact⟨n+1,⟨by omega,by rw[hsn];exact aP hnall (by simp[h6])⟩,by omega,rfl⟩
    ·cases h7:q.members.contains m
     ·rw[h7] at hhc
      (repeat' first|refine st ?_|refine sa fun xe hxe=>?_|refine sb (fun hq=>?_) fun hq=>?_|refine cr (hhc) ?_|exact True.intro)
      exact⟨n+1,⟨by omega,by rw[hsn];exact aP hnall (by rw[h7,Bool.and_false])⟩,by omega,rfl⟩
     ·rw[h7] at hhc
      (repeat' first|refine st ?_|refine sa fun xe hxe=>?_|refine sb (fun hq=>?_) fun hq=>?_|refine cr (hhc) ?_|exact True.intro)
      refine hnk ?_
      have:jb w.bad p.members q.members=true:=List.any_eq_true.2 ⟨m,hmm,by rw[h7];simpa using h6⟩
      rw[hfe,this]
      rfl
   ·(repeat' first|refine st ?_|refine sa fun xe hxe=>?_|refine sb (fun hq=>?_) fun hq=>?_|exact True.intro)
    rw[List.take_of_length_le (by omega)] at hnall
    have:jb w.bad p.members q.members=false:=by
     rw[Bool.eq_false_iff]
     intro h
     obtain⟨m,hm,h⟩:=List.any_eq_true.1 h
     rw[hnall m hm] at h
     cases h
    exact⟨k+1,⟨by omega,hyes (by rw[hfe,this];rfl)⟩,by omega,rfl⟩
  ·have hAt:eB w.com w.bad w.props i=true:=by
    rw[hA,bO (fun j hj=>hkall j (by omega)),oneP,h1,h2]
    rfl
   (repeat' first|refine st ?_|refine sa fun xe hxe=>?_|refine sb (fun hq=>?_) fun hq=>?_|exact True.intro)
   exact⟨i+1,⟨by omega,bt hall hAt⟩,by omega,rfl⟩
 ·(repeat' first|refine st ?_|refine sa fun xe hxe=>?_|refine sb (fun hq=>?_) fun hq=>?_|exact True.intro)
  rw[eO,bO (fun j hj=>hall j (by omega)),Bool.true_and]
  exact⟨rfl,rfl⟩
theorem EO (w:Wrl)(g:List Vtx)(hc:comV w.com=true)(hp:eO w.com w.bad w.props=true):af Tryz.prog 73 [ap w,.lst .vtx g] [] (.bool (lV w.com w.props g)) []:=by
 have hpl:=lE hp
 have hv:lV w.com w.props g=(g.all (knw w.com w.props) && graS w.com g):=rfl
 refine aa al Tryz.func73 rfl rfl false 0 4 rfl rfl rfl rfl fun K hK hb1 hb2=>?_;simp only[ae,enc,Nat.reduceAdd]
 simp[ah,V.toD,bnd,ag,D.cells] at hb1
 (repeat' first|refine st ?_|refine sa fun xe hxe=>?_|refine sb (fun hq=>?_) fun hq=>?_|exact True.intro)
 refine ab hK [] [1,2,5] (fun i:Nat=>⟨[(1,.lst .vtx g),(2,.ptr 4 0),(5,.int .i64 i)],[(4,.var 33 (ap w).cells)],5⟩) (fun i=>i≤g.length∧∀v∈g.take i,knw w.com w.props v=true) (fun i=>g.length-i) 0 ⟨by simp,by simp⟩ rfl ?_
 rintro i ⟨hi,hall⟩
 by_cases hlt:i<g.length
 ·have hxe:g[i]?=some g[i]:=List.getElem?_eq_getElem hlt
  have hsn:g.take (i+1)=g.take i++[g[i]]:=List.take_succ_eq_append_getElem hlt
  have hvm:g[i]∈g:=List.getElem_mem hlt
  generalize g[i]=v at *
  (repeat' first|refine st ?_|refine sa fun xe hxe=>?_|refine sb (fun hq=>?_) fun hq=>?_|exact True.intro)
  refine ab hK [] [1,2,5,6,7] (fun k:Nat=>⟨[(1,.lst .vtx g),(2,.ptr 4 0),(5,.int .i64 i),(6,.bool (knw w.com (w.props.take k) v)),(7,.int .i64 k)],[(4,.var 33 (ap w).cells)],5⟩) (fun k=>k≤w.props.length) (fun k=>w.props.length-k) 0 (by simp) rfl ?_
  intro k hk
  by_cases hkl:k<w.props.length
  ·have hxk:w.props[k]?=some w.props[k]:=List.getElem?_eq_getElem hkl
   have hks:w.props.take (k+1)=w.props.take k++[w.props[k]]:=List.take_succ_eq_append_getElem hkl
   have hom:=nT hp _ (List.getElem_mem hkl)
   generalize w.props[k]=p at *
   simp only[oneP,Bool.and_eq_true] at hom
   have hks2:knw w.com (w.props.take (k+1)) v=(knw w.com (w.props.take k) v||(don w.com p && gL p.v v)):=by rw[hks];simp[knw]
   have hdc:=x8 w p hc hom.2
   have hqc:=wm p.v v
   cases h1:knw w.com (w.props.take k) v
   ·cases h2:don w.com p
    ·rw[h2] at hdc
     (repeat' first|refine st ?_|refine sa fun xe hxe=>?_|refine sb (fun hq=>?_) fun hq=>?_|refine cr (hdc) ?_|refine cr (hqc) ?_|exact True.intro)
     exact⟨k+1,by omega,by omega,by rw[hks2,h1,h2];rfl⟩
    ·rw[h2] at hdc
     (repeat' first|refine st ?_|refine sa fun xe hxe=>?_|refine sb (fun hq=>?_) fun hq=>?_|refine cr (hdc) ?_|refine cr (hqc) ?_|exact True.intro)
     exact⟨k+1,by omega,by omega,by rw[hks2,h1,h2];rfl⟩
   ·(repeat' first|refine st ?_|refine sa fun xe hxe=>?_|refine sb (fun hq=>?_) fun hq=>?_|refine cr (hdc) ?_|refine cr (hqc) ?_|exact True.intro)
    exact⟨k+1,by omega,by omega,by rw[hks2,h1];rfl⟩
  ·rw[List.take_of_length_le (by omega)]
   cases h1:knw w.com w.props v
   ·(repeat' first|refine st ?_|refine sa fun xe hxe=>?_|refine sb (fun hq=>?_) fun hq=>?_|exact True.intro)
    have:g.all (knw w.com w.props)=false:=by
     rw[Bool.eq_false_iff]
     intro h
     rw[List.all_eq_true.1 h v hvm] at h1
     cases h1
    exact⟨by rw[hv,this,Bool.false_and],rfl⟩
   ·(repeat' first|refine st ?_|refine sa fun xe hxe=>?_|refine sb (fun hq=>?_) fun hq=>?_|exact True.intro)
    exact⟨i+1,⟨by omega,by rw[hsn];exact aP hall h1⟩,by omega,rfl⟩
 ·rw[List.take_of_length_le (by omega)] at hall
  (repeat' first|refine st ?_|refine sa fun xe hxe=>?_|refine sb (fun hq=>?_) fun hq=>?_|refine cr (F7 _ _) ?_|exact True.intro)
  exact⟨by rw[hv,List.all_eq_true.2 hall,Bool.true_and],rfl⟩
abbrev sM:V:=.agg [.nils,.nils,.int .i64 0,.nils,.nils]
theorem wv (c l:List Int)(b:Int)(hl:c.length≤2000000):af Tryz.prog 71 [.lst (.int .i64) c,.lst (.int .i64) l,.int .i64 b] [] (if fo c l b then .tup [ap (rY c l b),.bool true] else .tup [sM,.bool false]) []:=by
 have hL:=GF c l
 refine aa al Tryz.func71 rfl rfl true 0 4 rfl rfl rfl rfl fun K hK hb1 hb2=>?_;simp only[ae,enc,Nat.reduceAdd]
 simp[ah,V.toD,bnd,ag,D.cells] at hb1
 cases h1:comV c && leaS c l
 ·rw[h1] at hL
  have hn:fo c l b=false:=by
   rw[Bool.and_eq_false_iff] at h1
   rcases h1 with h1|h1<;>simp[fo,h1]
  rw[hn]
  (repeat' first|refine st ?_|refine sa fun xe hxe=>?_|refine sb (fun hq=>?_) fun hq=>?_|refine cr (hL) ?_|exact True.intro)
  exact⟨rfl,rfl⟩
 rw[h1] at hL
 have hc:comV c=true:=(Bool.and_eq_true_iff.1 h1).1
 have hle:leaS c l=true:=(Bool.and_eq_true_iff.1 h1).2
 have hns:fo c l b=badS c b:=by simp[fo,hc,hle]
 rw[hns]
 have h7:=(ao.1 hc).2
 have hll:=(be.1 hle).2
 have hI:=kG b (-1) ((c.length:Int)-1)
 cases h2:gM b (-1) ((c.length:Int)-1)
 ·rw[h2] at hI
  have hb:badS c b=false:=by simp[badS,h2]
  rw[hb]
  (repeat' first|refine st ?_|refine sa fun xe hxe=>?_|refine sb (fun hq=>?_) fun hq=>?_|refine cr (hL) ?_|refine cr (hI) ?_|exact True.intro)
  exact⟨rfl,rfl⟩
 rw[h2] at hI
 have hbr:=ar.1 h2
 have hT:=Ft c hc
 have hfd:=kF hc
 have htb:=en hc
 have hfau:(jf c-1).tdiv 3=pD c:=rfl
 have hst:∀i:Nat,(⟨[(0,.lst (.int .i64) c),(6,.ptr 4 0),(8,.ptr 5 0),(9,.int .i64 ((i:Int)+1))],[(4,.var 33 [.nils,.nils,.int .i64 0,.nils,.nils]),(5,.var 33 [.ref 6,.ref 7,.int .i64 b,.ref 8,.ref 9]),(6,.row 3 (.int .i64) c),(7,.row 3 (.int .i64) l),(8,.row 73 (.lst .vtx) (List.replicate i []++[[]])),(9,.row 50 .ppl [])],10⟩:VSt)=
   ⟨[(0,.lst (.int .i64) c),(6,.ptr 4 0),(8,.ptr 5 0),(9,.int .i64 ((i+1:Nat):Int))],[(4,.var 33 [.nils,.nils,.int .i64 0,.nils,.nils]),(5,.var 33 [.ref 6,.ref 7,.int .i64 b,.ref 8,.ref 9]),(6,.row 3 (.int .i64) c),(7,.row 3 (.int .i64) l),(8,.row 73 (.lst .vtx) (List.replicate (i+1) [])),(9,.row 50 .ppl [])],10⟩:=fun i=>by
  rw[List.replicate_succ']
  rfl
 have hfin:∀x:Int,pD c<x→(jf c-1).tdiv 3<x:=fun x h=>h
 have hfin2:∀x:Int,x≤pD c→¬(jf c-1).tdiv 3<x:=fun x h=>by rw[hfau];omega
 by_cases h3:b<0
 ·have hb:badS c b=true:=by simp[badS,h2,h3]
  rw[hb]
  (repeat' first|refine st ?_|refine sa fun xe hxe=>?_|refine sb (fun hq=>?_) fun hq=>?_|refine cr (hL) ?_|refine cr (hI) ?_|refine cr (hT) ?_|exact True.intro)
  refine ab hK [] [0,6,8,9] (fun i:Nat=>⟨[(0,.lst (.int .i64) c),(6,.ptr 4 0),(8,.ptr 5 0),(9,.int .i64 (i:Int))],[(4,.var 33 [.nils,.nils,.int .i64 0,.nils,.nils]),(5,.var 33 [.ref 6,.ref 7,.int .i64 b,.ref 8,.ref 9]),(6,.row 3 (.int .i64) c),(7,.row 3 (.int .i64) l),(8,.row 73 (.lst .vtx) (List.replicate i [])),(9,.row 50 .ppl [])],10⟩) (fun i=>i≤c.length) (fun i=>c.length-i) 0 (by simp) rfl ?_
  intro i hi
  have hrl:(List.replicate i ([]:List Vtx)).length=i:=by simp
  have hst:=hst i
  generalize hrs:List.replicate i ([]:List Vtx)=rs at *
  by_cases hlt:i<c.length
  ·(repeat' first|refine st ?_|refine sa fun xe hxe=>?_|refine sb (fun hq=>?_) fun hq=>?_|exact True.intro)
   refine⟨i+1,by omega,by omega,?_⟩
   rw[←hst]
   try rfl
  ·obtain rfl:i=c.length:=by omega
   (repeat' first|refine st ?_|refine sa fun xe hxe=>?_|refine sb (fun hq=>?_) fun hq=>?_|exact True.intro)
   rw[←hrs]
   exact⟨rfl,rfl⟩
 ·have hxe:c[b.toNat]?=some (c.getD b.toNat 0):=by rw[List.getD_eq_getElem?_getD,List.getElem?_eq_getElem (show b.toNat<c.length by omega)];rfl
  have hb:badS c b=decide (c.getD b.toNat 0≤pD c):=by simp[badS,h2,h3]
  rw[hb]
  generalize c.getD b.toNat 0=x at *
  by_cases hxf:x≤pD c
  ·rw[decide_eq_true hxf]
   have hxf:=hfin2 x hxf
   (repeat' first|refine st ?_|refine sa fun xe hxe=>?_|refine sb (fun hq=>?_) fun hq=>?_|refine cr (hL) ?_|refine cr (hI) ?_|refine cr (hT) ?_|exact True.intro)
   refine ab hK [] [0,6,8,9] (fun i:Nat=>⟨[(0,.lst (.int .i64) c),(6,.ptr 4 0),(8,.ptr 5 0),(9,.int .i64 (i:Int))],[(4,.var 33 [.nils,.nils,.int .i64 0,.nils,.nils]),(5,.var 33 [.ref 6,.ref 7,.int .i64 b,.ref 8,.ref 9]),(6,.row 3 (.int .i64) c),(7,.row 3 (.int .i64) l),(8,.row 73 (.lst .vtx) (List.replicate i [])),(9,.row 50 .ppl [])],10⟩) (fun i=>i≤c.length) (fun i=>c.length-i) 0 (by simp) rfl ?_
   intro i hi
   have hrl:(List.replicate i ([]:List Vtx)).length=i:=by simp
   have hst:=hst i
   generalize hrs:List.replicate i ([]:List Vtx)=rs at *
   by_cases hlt:i<c.length
   ·(repeat' first|refine st ?_|refine sa fun xe hxe=>?_|refine sb (fun hq=>?_) fun hq=>?_|exact True.intro)
    refine⟨i+1,by omega,by omega,?_⟩
    rw[←hst]
    try rfl
   ·obtain rfl:i=c.length:=by omega
    (repeat' first|refine st ?_|refine sa fun xe hxe=>?_|refine sb (fun hq=>?_) fun hq=>?_|exact True.intro)
    rw[←hrs]
    exact⟨rfl,rfl⟩
  ·rw[decide_eq_false hxf]
   have hxf:=hfin x (by omega)
   (repeat' first|refine st ?_|refine sa fun xe hxe=>?_|refine sb (fun hq=>?_) fun hq=>?_|refine cr (hL) ?_|refine cr (hI) ?_|refine cr (hT) ?_|exact True.intro)
   exact⟨rfl,rfl⟩
set_option maxHeartbeats 1000000 in
theorem uG (w:Wrl)(hcl:w.com.length≤2000000):af Tryz.prog 29 [ap w] [] (.bool (dw w)) []:=by
 have hN:=wv w.com w.lead w.bad hcl
 refine aa al Tryz.func29 rfl rfl false 0 4 rfl rfl rfl rfl fun K hK hb1 hb2=>?_;simp only[ae,enc,Nat.reduceAdd]
 simp[ah,V.toD,bnd,ag,D.cells] at hb1
 cases h1:fo w.com w.lead w.bad
 ·rw[h1] at hN
  simp only[Bool.false_eq_true,if_false] at hN
  (repeat' first|refine st ?_|refine sa fun xe hxe=>?_|refine sb (fun hq=>?_) fun hq=>?_|refine cr (hN) ?_|exact True.intro)
  exact⟨by simp[dw,h1],rfl⟩
 rw[h1] at hN
 simp only[if_true] at hN
 have hc:comV w.com=true:=by
  simp only[fo,Bool.and_eq_true] at h1
  exact h1.1
 have h7:=(ao.1 hc).2
 by_cases h2:w.views.length=w.com.length
 rotate_left
 ·have hf:dw w=false:=by
   have:(w.views.length==w.com.length)=false:=by simpa using h2
   simp[dw,this]
  rw[hf]
  (repeat' first|refine st ?_|refine sa fun xe hxe=>?_|refine sb (fun hq=>?_) fun hq=>?_|refine cr (hN) ?_|exact True.intro)
  exact⟨rfl,rfl⟩
 have hP:=Hf w hc
 cases h3:eO w.com w.bad w.props
 ·rw[h3] at hP
  have hf:dw w=false:=by simp[dw,h3]
  rw[hf]
  (repeat' first|refine st ?_|refine sa fun xe hxe=>?_|refine sb (fun hq=>?_) fun hq=>?_|refine cr (hN) ?_|refine cr (hP) ?_|exact True.intro)
  exact⟨rfl,rfl⟩
 rw[h3] at hP
 have hpl:=lE h3
 have he:dw w=(eo w.com w.bad w.props w.views && my w.bad w.props w.views):=by simp[dw,h1,h2,h3]
 rw[he]
 (repeat' first|refine st ?_|refine sa fun xe hxe=>?_|refine sb (fun hq=>?_) fun hq=>?_|refine cr (hN) ?_|refine cr (hP) ?_|exact True.intro)
 refine ab hK [] [1,5] (fun i:Nat=>⟨[(1,.ptr 4 0),(5,.int .i64 i)],[(4,.var 33 (ap w).cells)],5⟩)
  (fun i=>i≤w.views.length∧∀j,j<i→(lV w.com w.props (w.views.getD j []) && (!((j:Int)==w.bad)||(w.views.getD j []).isEmpty))=true) (fun i=>w.views.length-i) 0 ⟨by simp,by simp⟩ rfl ?_
 rintro i ⟨hi,hall⟩
 by_cases hlt:i<w.views.length
 ·have hxe:w.views[i]?=some (w.views.getD i []):=by rw[List.getD_eq_getElem?_getD,List.getElem?_eq_getElem hlt];rfl
  have hno:(lV w.com w.props (w.views.getD i []) && (!((i:Int)==w.bad)||(w.views.getD i []).isEmpty))=false→V.bool false=V.bool (eo w.com w.bad w.props w.views && my w.bad w.props w.views)∧([]:VH)=[]:=fun h=>⟨by unfold eo;rw[cy hlt h,Bool.false_and],rfl⟩
  have hyes:=bt hall (p:=fun j=>lV w.com w.props (w.views.getD j []) && (!((j:Int)==w.bad)||(w.views.getD j []).isEmpty)) (i:=i)
  generalize w.views.getD i []=g at *
  have hV:=EO w g hc h3
  cases h4:lV w.com w.props g
  ·rw[h4] at hV
   (repeat' first|refine st ?_|refine sa fun xe hxe=>?_|refine sb (fun hq=>?_) fun hq=>?_|refine cr (hV) ?_|exact True.intro)
   exact hno (by rw[h4,Bool.false_and])
  rw[h4] at hV
  have hem:g.isEmpty=decide ((g.length:Int)=0):=by cases g<;>simp;omega
  by_cases h5:(i:Int)=w.bad
  ·have hb1:((i:Int)==w.bad)=true:=by simpa using h5
   by_cases h6:0<(g.length:Int)
   ·(repeat' first|refine st ?_|refine sa fun xe hxe=>?_|refine sb (fun hq=>?_) fun hq=>?_|refine cr (hV) ?_|exact True.intro)
    exact hno (by rw[hb1,hem,decide_eq_false (by omega)];simp)
   ·(repeat' first|refine st ?_|refine sa fun xe hxe=>?_|refine sb (fun hq=>?_) fun hq=>?_|refine cr (hV) ?_|exact True.intro)
    exact⟨i+1,⟨by omega,hyes (by rw[h4,hb1,hem,decide_eq_true (by omega)];simp)⟩,by omega,rfl⟩
  ·have hb1:((i:Int)==w.bad)=false:=by simpa using h5
   (repeat' first|refine st ?_|refine sa fun xe hxe=>?_|refine sb (fun hq=>?_) fun hq=>?_|refine cr (hV) ?_|exact True.intro)
   exact⟨i+1,⟨by omega,hyes (by rw[h4,hb1];rfl)⟩,by omega,rfl⟩
 have hvs:eo w.com w.bad w.props w.views=true:=by
  unfold eo
  exact bO (fun j hj=>hall j (by omega))
 rw[hvs,Bool.true_and]
 (repeat' first|refine st ?_|refine sa fun xe hxe=>?_|refine sb (fun hq=>?_) fun hq=>?_|exact True.intro)
 refine ab hK [] [1,6] (fun i:Nat=>⟨[(1,.ptr 4 0),(6,.int .i64 i)],[(4,.var 33 (ap w).cells)],5⟩)
  (fun i=>i≤w.props.length∧∀p∈w.props.take i,cX w.views.length (gB w.bad w.views p)=true) (fun i=>w.props.length-i) 0 ⟨by simp,by simp⟩ rfl ?_
 rintro k ⟨hk,hkall⟩
 by_cases hkl:k<w.props.length
 ·have hxp:w.props[k]?=some w.props[k]:=List.getElem?_eq_getElem hkl
  have hsn:w.props.take (k+1)=w.props.take k++[w.props[k]]:=List.take_succ_eq_append_getElem hkl
  have hpm:w.props[k]∈w.props:=List.getElem_mem hkl
  have hone:=nT h3 _ hpm
  have hno:cX w.views.length (gB w.bad w.views w.props[k])=false→V.bool false=V.bool (my w.bad w.props w.views)∧([]:VH)=[]:=fun h=>⟨by
   have:my w.bad w.props w.views=false:=by
    rw[Bool.eq_false_iff]
    intro h2
    rw[List.all_eq_true.1 h2 _ hpm] at h
    cases h
   rw[this],rfl⟩
  generalize w.props[k]=p at *
  simp only[oneP,Bool.and_eq_true] at hone
  have hrd:=n5 hone.1
  (repeat' first|refine st ?_|refine sa fun xe hxe=>?_|refine sb (fun hq=>?_) fun hq=>?_|exact True.intro)
  refine ab hK [] [1,6,7,8] (fun m:Nat=>⟨[(1,.ptr 4 0),(6,.int .i64 k),(7,.ptr 5 0),(8,.int .i64 m)],[(4,.var 33 (ap w).cells),(5,.var 48 (bA p.v).cells)],6⟩)
   (fun m=>m≤w.views.length∧∀j,j<m→gB w.bad w.views p j=true) (fun m=>w.views.length-m) 0 ⟨by simp,by simp⟩ rfl ?_
  rintro m ⟨hm,hmall⟩
  by_cases hml:m<w.views.length
  ·have hxv:w.views[m]?=some (w.views.getD m []):=by rw[List.getD_eq_getElem?_getD,List.getElem?_eq_getElem hml];rfl
   have hyes:=bt hmall (p:=gB w.bad w.views p) (i:=m)
   have hno2:gB w.bad w.views p m=false→V.bool false=V.bool (my w.bad w.props w.views)∧([]:VH)=[]:=fun h=>hno (cy hml h)
   have hA:gB w.bad w.views p m=(!((m:Int) !=w.bad && ((m:Int)==p.v.author||p.members.contains (m:Int)))||parOK (w.views.getD m []) p.v):=rfl
   generalize w.views.getD m []=g at *
   have hH:=AO p.members m
   have hG:=dm g p.v hrd
   by_cases c1:(m:Int)=w.bad
   ·(repeat' first|refine st ?_|refine sa fun xe hxe=>?_|refine sb (fun hq=>?_) fun hq=>?_|refine cr (hH) ?_|refine cr (hG) ?_|exact True.intro)
    exact⟨m+1,⟨by omega,hyes (by simp[hA,c1])⟩,by omega,rfl⟩
   cases c2:(m:Int)==p.v.author||p.members.contains (m:Int)
   ·rw[Bool.or_eq_false_iff] at c2
    have c3:¬(m:Int)=p.v.author:=by simpa using c2.1
    rw[c2.2] at hH
    (repeat' first|refine st ?_|refine sa fun xe hxe=>?_|refine sb (fun hq=>?_) fun hq=>?_|refine cr (hH) ?_|refine cr (hG) ?_|exact True.intro)
    exact⟨m+1,⟨by omega,hyes (by rw[hA,c2.1,c2.2];simp)⟩,by omega,rfl⟩
   ·cases c4:parOK g p.v
    ·rw[c4] at hG
     have hn:=hno2 (by rw[hA,c2,c4];simpa using c1)
     by_cases c3:(m:Int)=p.v.author
     ·(repeat' first|refine st ?_|refine sa fun xe hxe=>?_|refine sb (fun hq=>?_) fun hq=>?_|refine cr (hH) ?_|refine cr (hG) ?_|exact True.intro)
      exact hn
     ·have c5:p.members.contains (m:Int)=true:=by simpa[c3] using c2
      rw[c5] at hH
      (repeat' first|refine st ?_|refine sa fun xe hxe=>?_|refine sb (fun hq=>?_) fun hq=>?_|refine cr (hH) ?_|refine cr (hG) ?_|exact True.intro)
      exact hn
    ·rw[c4] at hG
     have hn:=hyes (by rw[hA,c4,Bool.or_true])
     by_cases c3:(m:Int)=p.v.author
     ·(repeat' first|refine st ?_|refine sa fun xe hxe=>?_|refine sb (fun hq=>?_) fun hq=>?_|refine cr (hH) ?_|refine cr (hG) ?_|exact True.intro)
      exact⟨m+1,⟨by omega,hn⟩,by omega,rfl⟩
     ·have c5:p.members.contains (m:Int)=true:=by simpa[c3] using c2
      rw[c5] at hH
      (repeat' first|refine st ?_|refine sa fun xe hxe=>?_|refine sb (fun hq=>?_) fun hq=>?_|refine cr (hH) ?_|refine cr (hG) ?_|exact True.intro)
      exact⟨m+1,⟨by omega,hn⟩,by omega,rfl⟩
  ·(repeat' first|refine st ?_|refine sa fun xe hxe=>?_|refine sb (fun hq=>?_) fun hq=>?_|exact True.intro)
   exact⟨k+1,⟨by omega,by rw[hsn];exact aP hkall (bO fun j hj=>hmall j (by omega))⟩,by omega,rfl⟩
 ·(repeat' first|refine st ?_|refine sa fun xe hxe=>?_|refine sb (fun hq=>?_) fun hq=>?_|exact True.intro)
  rw[List.take_of_length_le (by omega)] at hkall
  have:my w.bad w.props w.views=true:=List.all_eq_true.2 hkall
  rw[this]
  exact⟨rfl,rfl⟩
def o7 (c:List Int)(p:Int):Prop:=c.length≤2000∧(∀x∈c,0≤x∧x≤255)∧0≤p∧p≤1000000000
theorem kK (c:List Int):af Tryz.prog 52 [.lst (.int .u8) c] [] (.ptr 4 0) [(4,.var 139 [.lst (.int .u8) (c.take 2000),.int .i64 0])]:=by
 refine aa al Tryz.func52 rfl rfl false 0 4 rfl rfl rfl rfl fun K hK hb1 hb2=>?_;simp only[ae,enc,Nat.reduceAdd]
 (repeat' first|refine st ?_|refine sa fun xe hxe=>?_|refine sb (fun hq=>?_) fun hq=>?_|exact True.intro)
 ·exact⟨rfl,rfl⟩
 ·exact⟨rfl,by rw[List.take_of_length_le (by omega)]⟩
theorem GP (c:List Int)(p n:Int)(T:TypeId)(h:o7 c p)(hn:1≤n∧n≤1000000):∃v,(0≤v∧v<n)∧af Tryz.prog 54 [.ptr 4 0,.int .i64 n] [(4,.var T [.lst (.int .u8) c,.int .i64 p])] (.int .i64 v) [(4,.var T [.lst (.int .u8) c,.int .i64 (p+1)])]:=by
 obtain⟨h1,h2,h3,h4⟩:=h
 suffices hs:∃r hout,(∃v,(0≤v∧v<n)∧r= .int .i64 v∧hout=[(4,VB.var T [.lst (.int .u8) c,.int .i64 (p+1)])])∧af Tryz.prog 54 [.ptr 4 0,.int .i64 n] [(4,.var T [.lst (.int .u8) c,.int .i64 p])] r hout by
  obtain⟨r,hout,⟨v,hv,rfl,rfl⟩,h⟩:=hs
  exact⟨v,hv,h⟩
 refine dM al Tryz.func54 rfl rfl false 1 5 rfl rfl rfl rfl (R:=fun r hout=>∃v,(0≤v∧v<n)∧r= .int .i64 v∧hout=[(4,VB.var T [.lst (.int .u8) c,.int .i64 (p+1)])]) (r0:=.int .i64 0) (hout0:=[(4,VB.var T [.lst (.int .u8) c,.int .i64 (p+1)])]) (⟨0,by omega,rfl,rfl⟩) fun K hK hb1 hb2=>?_;simp only[ae,enc,Nat.reduceAdd]
 clear hb1 hb2
 have hat:∀k:Int,0≤k→k<c.length→∃v,c[k.toNat]?=some v∧0≤v∧v≤255:=fun k ha hb=>by
  have hl:k.toNat<c.length:=by omega
  exact⟨c[k.toNat],List.getElem?_eq_getElem hl,h2 _ (List.getElem_mem hl)⟩
 by_cases h0:c.length=0
 ·(repeat' first|refine st ?_|refine sa fun xe hxe=>?_|refine sb (fun hq=>?_) fun hq=>?_|exact True.intro)
  exact⟨0,by omega,rfl,rfl⟩
 have hcl:0≤p.tmod c.length∧p.tmod c.length<c.length:=⟨Int.tmod_nonneg _ h3,Int.tmod_lt_of_pos _ (by omega)⟩
 have hcl2:0≤(p*7+3).tmod c.length∧(p*7+3).tmod c.length<c.length:=⟨Int.tmod_nonneg _ (by omega),Int.tmod_lt_of_pos _ (by omega)⟩
 have hdv:0≤p.tdiv c.length∧p.tdiv c.length≤p:=⟨Int.tdiv_nonneg h3 (by omega),by rw[Int.tdiv_eq_ediv_of_nonneg h3];exact Int.ediv_le_self _ h3⟩
 have hp:p+1-1=p:=by omega
 by_cases h6:p<c.length
 ·obtain⟨v,hv,hv1,hv2⟩:=hat p h3 h6
  rw[←hp] at hv
  have hm:0≤v.tmod n∧v.tmod n<n:=⟨Int.tmod_nonneg _ hv1,Int.tmod_lt_of_pos _ (by omega)⟩
  (repeat' first|refine st ?_|refine sa fun xe hxe=>?_|refine sb (fun hq=>?_) fun hq=>?_|exact True.intro)
  exact⟨_,hm,rfl,rfl⟩
 ·obtain⟨v,hv,hv1,hv2⟩:=hat _ hcl.1 hcl.2
  obtain⟨w,hw,hw1,hw2⟩:=hat _ hcl2.1 hcl2.2
  rw[←hp] at hv hw hdv hcl hcl2
  have hS:0≤v*131+w*1117+(p+1-1)*29+(p+1-1).tdiv ↑c.length*53∧v*131+w*1117+(p+1-1)*29+(p+1-1).tdiv ↑c.length*53<4611686018427387904:=by omega
  have hD:0≤(v*131+w*1117+(p+1-1)*29+(p+1-1).tdiv ↑c.length*53).tdiv 64∧(v*131+w*1117+(p+1-1)*29+(p+1-1).tdiv ↑c.length*53).tdiv 64<4611686018427387904:=
   ⟨Int.tdiv_nonneg hS.1 (by omega),by rw[Int.tdiv_eq_ediv_of_nonneg hS.1];omega⟩
  have hX:=Ht hS hD
  (repeat' first|refine st ?_|refine sa fun xe hxe=>?_|refine sb (fun hq=>?_) fun hq=>?_|exact True.intro)
  refine⟨_,⟨Int.tmod_nonneg _ hX,Int.tmod_lt_of_pos _ (by omega)⟩,rfl,rfl⟩
abbrev bV (b:List Int)(p:Int):VB:=.var 139 [.lst (.int .u8) b,.int .i64 p]
theorem dP (b:List Int)(p n:Int)(h:o7 b 0)(hp:0≤p∧p≤100000000)(hn:1≤n∧n≤1000000):∃v,(0≤v∧v<n)∧af Tryz.prog 54 [.ptr 4 0,.int .i64 n] [(4,bV b p)] (.int .i64 v) [(4,bV b (p+1))]:=
 GP b p n _ ⟨h.1,h.2.1,by omega,by omega⟩ hn
theorem CO {l:List Int}{P:Int→Prop}{i:Nat}{x:Int}(hx:l[i]?=some x)(h:∀y∈l,P y):P x:=h x (List.mem_of_getElem? hx)
theorem FK (b:List Int)(p:Int)(h:o7 b 0)(hp:0≤p∧p≤1000000):∃x:List Int×Int,(p≤x.2∧x.2≤p+20∧x.1.length≤11)∧af Tryz.prog 148 [.ptr 4 0] [(4,bV b p)] (.lst (.int .i64) x.1) [(4,bV b x.2)]:=by
 suffices hs:∃r hout,(∃x:List Int×Int,(p≤x.2∧x.2≤p+20∧x.1.length≤11)∧r= .lst (.int .i64) x.1∧hout=[(4,bV b x.2)])∧af Tryz.prog 148 [.ptr 4 0] [(4,bV b p)] r hout by
  obtain⟨r,hout,⟨v,hv,rfl,rfl⟩,h⟩:=hs
  exact⟨v,hv,h⟩
 refine dM al Tryz.func148 rfl rfl true 1 5 rfl rfl rfl rfl (R:=fun r hout=>∃x:List Int×Int,(p≤x.2∧x.2≤p+20∧x.1.length≤11)∧r= .lst (.int .i64) x.1∧hout=[(4,bV b x.2)]) (r0:=.lst (.int .i64) []) (hout0:=[(4,bV b p)]) (⟨([],p),by simp;omega,rfl,rfl⟩) fun K hK hb1 hb2=>?_;simp only[ae,enc,Nat.reduceAdd]
 clear hb1 hb2
 (repeat' first|refine st ?_|refine sa fun xe hxe=>?_|refine sb (fun hq=>?_) fun hq=>?_|((with_reducible refine bl ?_);(conv=>whnf);(first|refine bP (dP b _ _ h (by omega) (by omega)) fun xv hxv=>?_);conv=>whnf)|exact True.intro)
 obtain⟨n,hn,hnx⟩:∃n:Int,(1≤n∧n≤7)∧n=xe:=⟨xe,CO (P:=fun y=>1≤y∧y≤7) hxe (by decide),rfl⟩
 clear hxe
 subst hnx
 refine ab hK [] [0,3,4,5] (fun i:Nat×List Int×Int=>⟨[(0,.ptr 4 0),(3,.ref 5),(4,.int .i64 n),(5,.int .i64 i.1)],[(4,bV b i.2.2),(5,.row 3 (.int .i64) i.2.1)],6⟩)
  (fun i=>(i.1:Int)≤n∧i.2.1.length=i.1∧p+1≤i.2.2∧i.2.2≤p+1+2*i.1) (fun i=>8-i.1) (0,[],p+1) (by simp;omega) rfl ?_
 rintro⟨i,l,q⟩ ⟨hi1,hi2,hi3,hi4⟩
 dsimp only at hi1 hi2 hi3 hi4⊢
 by_cases hlt:(i:Int)<n
 ·(repeat' first|refine st ?_|refine sa fun xe hxe=>?_|refine sb (fun hq=>?_) fun hq=>?_|((with_reducible refine bl ?_);(conv=>whnf);(first|refine bP (dP b _ _ h (by omega) (by omega)) fun xv hxv=>?_);conv=>whnf)|exact True.intro)
  rename_i y hy
  have hm:0≤y*xv∧y*xv≤3*2:=⟨Int.mul_nonneg (by omega) (by omega),Int.mul_le_mul (by omega) (by omega) (by omega) (by omega)⟩
  generalize y*xv=z at *
  have hd:0≤z.tdiv 2∧z.tdiv 2≤3:=by rw[Int.tdiv_eq_ediv_of_nonneg (by omega)];omega
  (repeat' first|refine st ?_|refine sa fun xe hxe=>?_|refine sb (fun hq=>?_) fun hq=>?_|exact True.intro)
  refine⟨(i+1,l++[1+z.tdiv 2],q+1+1),⟨by omega,by simp;omega,by dsimp only;omega,by dsimp only;omega⟩,by dsimp only;omega,rfl⟩
 ·(repeat' first|refine st ?_|refine sa fun xe hxe=>?_|refine sb (fun hq=>?_) fun hq=>?_|((with_reducible refine bl ?_);(conv=>whnf);(first|refine bP (dP b _ _ h (by omega) (by omega)) fun xv hxv=>?_);conv=>whnf)|exact True.intro)
  ·exact⟨(l++[1,1,1,1],q+1),⟨by dsimp only;omega,by dsimp only;omega,by simp;omega⟩,rfl,rfl⟩
  ·exact⟨(l.set _ _,q+1+1+1),⟨by dsimp only;omega,by dsimp only;omega,by simp;omega⟩,rfl,rfl⟩
  ·exact⟨([],q+1),⟨by dsimp only;omega,by dsimp only;omega,by simp⟩,rfl,rfl⟩
  ·exact⟨(l,q+1),⟨by dsimp only;omega,by dsimp only;omega,by dsimp only;omega⟩,rfl,rfl⟩
theorem C8 (b:List Int)(p:Int)(h:o7 b 0)(hp:0≤p∧p≤1000000):∃x:List Int×Int,(p≤x.2∧x.2≤p+20∧comV x.1=true)∧af Tryz.prog 94 [.ptr 4 0] [(4,bV b p)] (.lst (.int .i64) x.1) [(4,bV b x.2)]:=by
 suffices hs:∃r hout,(∃x:List Int×Int,(p≤x.2∧x.2≤p+20∧comV x.1=true)∧r= .lst (.int .i64) x.1∧hout=[(4,bV b x.2)])∧af Tryz.prog 94 [.ptr 4 0] [(4,bV b p)] r hout by
  obtain⟨r,hout,⟨v,hv,rfl,rfl⟩,h⟩:=hs
  exact⟨v,hv,h⟩
 refine dM al Tryz.func94 rfl rfl true 1 5 rfl rfl rfl rfl (R:=fun r hout=>∃x:List Int×Int,(p≤x.2∧x.2≤p+20∧comV x.1=true)∧r= .lst (.int .i64) x.1∧hout=[(4,bV b x.2)]) (r0:=.lst (.int .i64) [1,1,1,1]) (hout0:=[(4,bV b p)]) (⟨([1,1,1,1],p),⟨by dsimp only;omega,by dsimp only;omega,rfl⟩,rfl,rfl⟩) fun K hK hb1 hb2=>?_;simp only[ae,enc,Nat.reduceAdd]
 clear hb1 hb2
 obtain⟨⟨c,q⟩,⟨h1,h2,h3⟩,hc⟩:=FK b p h hp
 dsimp only at h1 h2 h3 hc
 cases hv:comV c
 ·(repeat' first|refine st ?_|refine sa fun xe hxe=>?_|refine sb (fun hq=>?_) fun hq=>?_|refine cr (ou _) ?_|refine co (hc) ?_|exact True.intro)
  exact⟨([1,1,1,1],q),⟨h1,h2,rfl⟩,rfl,rfl⟩
 ·(repeat' first|refine st ?_|refine sa fun xe hxe=>?_|refine sb (fun hq=>?_) fun hq=>?_|refine cr (ou _) ?_|refine co (hc) ?_|exact True.intro)
  exact⟨(c,q),⟨h1,h2,hv⟩,rfl,rfl⟩
theorem zY (b:List Int)(p:Int)(h:o7 b 0)(hp:0≤p∧p≤1000000):∃x:Int×Int,(p≤x.2∧x.2≤p+3)∧af Tryz.prog 95 [.ptr 4 0] [(4,bV b p)] (.int .i64 x.1) [(4,bV b x.2)]:=by
 suffices hs:∃r hout,(∃x:Int×Int,(p≤x.2∧x.2≤p+3)∧r= .int .i64 x.1∧hout=[(4,bV b x.2)])∧af Tryz.prog 95 [.ptr 4 0] [(4,bV b p)] r hout by
  obtain⟨r,hout,⟨v,hv,rfl,rfl⟩,h⟩:=hs
  exact⟨v,hv,h⟩
 refine dM al Tryz.func95 rfl rfl true 1 5 rfl rfl rfl rfl (R:=fun r hout=>∃x:Int×Int,(p≤x.2∧x.2≤p+3)∧r= .int .i64 x.1∧hout=[(4,bV b x.2)]) (r0:=.int .i64 0) (hout0:=[(4,bV b p)]) (⟨(0,p),by simp;omega,rfl,rfl⟩) fun K hK hb1 hb2=>?_;simp only[ae,enc,Nat.reduceAdd]
 clear hb1 hb2
 (repeat' first|refine st ?_|refine sa fun xe hxe=>?_|refine sb (fun hq=>?_) fun hq=>?_|((with_reducible refine bl ?_);(conv=>whnf);(first|refine bP (dP b _ _ h (by omega) (by omega)) fun xv hxv=>?_);conv=>whnf)|exact True.intro)
 all_goals exact⟨(_,_),by dsimp only;omega,rfl,rfl⟩
theorem z8 (b:List Int)(p:Int)(n:Int)(h:o7 b 0)(hp:0≤p∧p≤1000000)(hn:n≤20):∃x:List Int×Int,(p≤x.2∧x.2≤p+30∧x.1.length≤30)∧af Tryz.prog 96 [.ptr 4 0,.int .i64 n] [(4,bV b p)] (.lst (.int .i64) x.1) [(4,bV b x.2)]:=by
 suffices hs:∃r hout,(∃x:List Int×Int,(p≤x.2∧x.2≤p+30∧x.1.length≤30)∧r= .lst (.int .i64) x.1∧hout=[(4,bV b x.2)])∧af Tryz.prog 96 [.ptr 4 0,.int .i64 n] [(4,bV b p)] r hout by
  obtain⟨r,hout,⟨v,hv,rfl,rfl⟩,h⟩:=hs
  exact⟨v,hv,h⟩
 refine dM al Tryz.func96 rfl rfl true 1 5 rfl rfl rfl rfl (R:=fun r hout=>∃x:List Int×Int,(p≤x.2∧x.2≤p+30∧x.1.length≤30)∧r= .lst (.int .i64) x.1∧hout=[(4,bV b x.2)]) (r0:=.lst (.int .i64) []) (hout0:=[(4,bV b p)]) (⟨([],p),by simp;omega,rfl,rfl⟩) fun K hK hb1 hb2=>?_;simp only[ae,enc,Nat.reduceAdd]
 clear hb1 hb2
 (repeat' first|refine st ?_|refine sa fun xe hxe=>?_|refine sb (fun hq=>?_) fun hq=>?_|exact True.intro)
 refine ab hK [] [0,1,5,6] (fun i:Nat×List Int×Int=>⟨[(0,.ptr 4 0),(1,.int .i64 n),(5,.ref 5),(6,.int .i64 i.1)],[(4,bV b i.2.2),(5,.row 3 (.int .i64) i.2.1)],6⟩)
  (fun i=>(i.1:Int)≤max n 0∧i.2.1.length≤i.1∧i.2.2=p+i.1) (fun i=>20-i.1) (0,[],p) (by simp;omega) rfl ?_
 rintro⟨i,l,q⟩ ⟨hi1,hi2,hi3⟩
 dsimp only at hi1 hi2 hi3⊢
 by_cases hlt:(i:Int)<n
 ·(repeat' first|refine st ?_|refine sa fun xe hxe=>?_|refine sb (fun hq=>?_) fun hq=>?_|((with_reducible refine bl ?_);(conv=>whnf);(first|refine bP (dP b _ _ h (by omega) (by omega)) fun xv hxv=>?_);conv=>whnf)|exact True.intro)
  ·exact⟨(i+1,l++[(i:Int)],q+1),⟨by dsimp only;omega,by simp;omega,by dsimp only;omega⟩,by dsimp only;omega,rfl⟩
  ·exact⟨(i+1,l,q+1),⟨by dsimp only;omega,by simp;omega,by dsimp only;omega⟩,by dsimp only;omega,rfl⟩
 ·(repeat' first|refine st ?_|refine sa fun xe hxe=>?_|refine sb (fun hq=>?_) fun hq=>?_|((with_reducible refine bl ?_);(conv=>whnf);(first|refine bP (dP b _ _ h (by omega) (by omega)) fun xv hxv=>?_);conv=>whnf)|exact True.intro)
  ·exact⟨(l++[n],q+1),⟨by dsimp only;omega,by dsimp only;omega,by simp;omega⟩,rfl,rfl⟩
  ·exact⟨(l++[_],q+1+1),⟨by dsimp only;omega,by dsimp only;omega,by simp;omega⟩,rfl,rfl⟩
  ·exact⟨(l,q+1),⟨by dsimp only;omega,by dsimp only;omega,by dsimp only;omega⟩,rfl,rfl⟩
theorem Cr {g:List Vtx}{v:Vtx}(h:some v∈az g):v∈g:=by
 induction g using ci with
 |h0=>
  have:=List.eq_of_mem_replicate h
  cases this
 |h l x ih=>
  rw[fC] at h
  rcases List.mem_or_eq_of_mem_set h with h|h
  ·exact List.mem_append.2 (.inl (ih h))
  ·obtain rfl:=Option.some.inj h
   simp
theorem zk {w:Wrl}(h:eg w=true):(w.views.map az).map gJ=w.views:=by
 rw[List.map_map]
 conv=>rhs;rw[←List.map_id w.views]
 refine List.map_congr_left fun g hg=>?_
 have hok:=cP (xS h g hg)
 exact EX (fun v hv=>(nS h g hg v hv).1) hok.pw
theorem Eg (c l:List Int)(b:Int):eg ⟨c,l,b,List.replicate (min c.length 7) [],[]⟩=fo c l b:=by
 cases h:fo c l b
 ·simp[eg,h]
 ·have hc:comV c=true:=by
   simp only[fo,Bool.and_eq_true] at h
   exact h.1
  have h7:=(ao.1 hc).2
  have hn:min c.length 7=c.length:=by omega
  rw[hn]
  have h1:eO c b []=true:=proS_nil c b
  have h2:eo c b [] (List.replicate c.length [])=true:=by
   refine viws_nil hc
  simp[eg,h,h1,h2]
where
 proS_nil (c:List Int) (b:Int):eO c b []=true:=rfl
 viws_nil {c:List Int} {b:Int} (hc:comV c=true):eo c b [] (List.replicate c.length [])=true:=by
  refine bO fun j hj=>?_
  rw[List.length_replicate] at hj
  have:(List.replicate c.length ([]:List Vtx)).getD j []=[]:=by simp[List.getD_eq_getElem?_getD,List.getElem?_replicate,hj]
  rw[this]
  simp[lV,graS,hc,cX]
theorem wk (v:Vtx):af Tryz.prog 33 [bA v,bA v] [] (.bool true) []:=by
 have hi:=iU v.parents v.parents
 rw[decide_eq_true rfl] at hi
 refine aa al Tryz.func33 rfl rfl false 0 4 rfl rfl rfl rfl fun K hK hb1 hb2=>?_;simp only[ae,enc,Nat.reduceAdd]
 clear hb1 hb2
 (repeat' first|refine st ?_|refine sa fun xe hxe=>?_|refine sb (fun hq=>?_) fun hq=>?_|refine cr (hi) ?_|exact True.intro)
 all_goals first|(exact⟨rfl,rfl⟩)|exact absurd rfl hq|exact absurd trivial hq|cases hq
theorem G4 (g:List Vtx):af Tryz.prog 62 [.lst .vtx g,.lst .vtx g] [] (.bool true) []:=by
 refine aa al Tryz.func62 rfl rfl false 0 4 rfl rfl rfl rfl fun K hK hb1 hb2=>?_;simp only[ae,enc,Nat.reduceAdd]
 simp[ah,V.toD,bnd,ag,D.cells] at hb1
 (repeat' first|refine st ?_|refine sa fun xe hxe=>?_|refine sb (fun hq=>?_) fun hq=>?_|exact True.intro)
 ·exact absurd trivial hq
 refine ab hK [] [0,1,5] (fun i:Nat=>⟨[(0,.lst .vtx g),(1,.lst .vtx g),(5,.int .i64 i)],[],4⟩) (fun i=>i≤g.length) (fun i=>g.length-i) 0 (by simp) rfl ?_
 intro i hi
 by_cases hlt:i<g.length
 ·have hx:g[i]?=some g[i]:=List.getElem?_eq_getElem hlt
  generalize g[i]=x at *
  (repeat' first|refine st ?_|refine sa fun xe hxe=>?_|refine sb (fun hq=>?_) fun hq=>?_|refine cr (wk _) ?_|exact True.intro)
  exact⟨i+1,by omega,by omega,rfl⟩
 ·(repeat' first|refine st ?_|refine sa fun xe hxe=>?_|refine sb (fun hq=>?_) fun hq=>?_|exact True.intro)
  exact⟨rfl,rfl⟩
theorem pf (w:Wrl):af Tryz.prog 20 [ap w,ap w] [] (.bool true) []:=by
 have hi1:=iU w.com w.com
 have hi2:=iU w.lead w.lead
 rw[decide_eq_true rfl] at hi1 hi2
 refine aa al Tryz.func20 rfl rfl false 0 4 rfl rfl rfl rfl fun K hK hb1 hb2=>?_;simp only[ae,enc,Nat.reduceAdd]
 simp[ah,V.toD,bnd,ag,D.cells] at hb1
 (repeat' first|refine st ?_|refine sa fun xe hxe=>?_|refine sb (fun hq=>?_) fun hq=>?_|refine cr (hi1) ?_|refine cr (hi2) ?_|exact True.intro)
 all_goals try exact absurd trivial hq
 all_goals try exact absurd rfl hq
 refine ab hK [] [2,3,5] (fun i:Nat=>⟨[(2,.ptr 4 0),(3,.ptr 5 0),(5,.int .i64 i)],[(4,.var 33 (ap w).cells),(5,.var 33 (ap w).cells)],6⟩) (fun i=>i≤w.views.length) (fun i=>w.views.length-i) 0 (by simp) rfl ?_
 intro i hi
 by_cases hlt:i<w.views.length
 ·have hx:w.views[i]?=some w.views[i]:=List.getElem?_eq_getElem hlt
  generalize w.views[i]=x at *
  (repeat' first|refine st ?_|refine sa fun xe hxe=>?_|refine sb (fun hq=>?_) fun hq=>?_|refine cr (G4 _) ?_|exact True.intro)
  exact⟨i+1,by omega,by omega,rfl⟩
 (repeat' first|refine st ?_|refine sa fun xe hxe=>?_|refine sb (fun hq=>?_) fun hq=>?_|exact True.intro)
 refine ab hK [] [2,3,6] (fun i:Nat=>⟨[(2,.ptr 4 0),(3,.ptr 5 0),(6,.int .i64 i)],[(4,.var 33 (ap w).cells),(5,.var 33 (ap w).cells)],6⟩) (fun i=>i≤w.props.length) (fun i=>w.props.length-i) 0 (by simp) rfl ?_
 intro k hk
 by_cases hkl:k<w.props.length
 ·have hx:w.props[k]?=some w.props[k]:=List.getElem?_eq_getElem hkl
  generalize w.props[k]=p at *
  have hi3:=iU p.members p.members
  rw[decide_eq_true rfl] at hi3
  (repeat' first|refine st ?_|refine sa fun xe hxe=>?_|refine sb (fun hq=>?_) fun hq=>?_|refine cr (wk _) ?_|refine cr (hi3) ?_|exact True.intro)
  exact⟨k+1,by omega,by omega,rfl⟩
 (repeat' first|refine st ?_|refine sa fun xe hxe=>?_|refine sb (fun hq=>?_) fun hq=>?_|exact True.intro)
 exact⟨rfl,rfl⟩
theorem pg:af Tryz.prog 20 [.agg [.lst (.int .i64) [],.lst (.int .i64) [],.int .i64 0,.lst (.int .i64) [],.lst (.int .i64) []],.agg [.lst (.int .i64) [],.lst (.int .i64) [],.int .i64 0,.lst (.int .i64) [],.lst (.int .i64) []]] [] (.bool true) []:=by
 have h:=pf w0
 unfold af at h⊢
 exact h
theorem E0 {c l:List Int}{b:Int}(h:fo c l b=true):dw (rY c l b)=true:=by
 have hc:comV c=true:=by
  simp only[fo,Bool.and_eq_true] at h
  exact h.1
 have h7:=(ao.1 hc).2
 have hp:=Eg c l b
 rw[show min c.length 7=c.length by omega,h] at hp
 rw[gw]
 have:eg (rY c l b)=true:=hp
 rw[this]
 rfl
end Go.Proofs.YthmfppknagbkeaaGreatDoor.Am
namespace Go.Proofs.YthmfppknagbkeaaGreatDoor.Am
open Go
structure WOK (w:Wrl):Prop where
 com:comV w.com=true
 lead:leaS w.com w.lead=true
 bad:badS w.com w.bad=true
 one:∀p∈w.props,oneP w.com p=true
 fit:w.props.Pairwise fun q p=>fitP w.bad p q=true
 plen:w.props.length≤220
 vlen:w.views.length=w.com.length
 gra:∀g∈w.views,graS w.com g=true
 knw:∀g∈w.views,∀v∈g,∃p∈w.props,don w.com p=true∧p.v=v
 bv:∀i:Nat,i<w.views.length→(i:Int)=w.bad→w.views.getD i []=[]
 kp:∀p∈w.props,∀m:Nat,m<w.views.length→(m:Int)≠w.bad→((m:Int)=p.v.author∨(m:Int)∈p.members)→parOK (w.views.getD m []) p.v=true
theorem xD {c:List Int}{ps:List Ppl}{v:Vtx}:knw c ps v=true↔∃p∈ps,don c p=true∧p.v=v:=by
 simp only[knw,List.any_eq_true,Bool.and_eq_true,lT]
theorem t9 {b:Int}{ps:List Ppl}{gs:List (List Vtx)}:my b ps gs=true↔∀p∈ps,∀m:Nat,m<gs.length→(m:Int)≠b→((m:Int)=p.v.author∨(m:Int)∈p.members)→parOK (gs.getD m []) p.v=true:=by
 simp only[my,List.all_eq_true,aM,gB,Bool.or_eq_true,Bool.not_eq_true',Bool.and_eq_false_iff,bne_eq_false_iff_eq,Bool.or_eq_false_iff,beq_eq_false_iff_ne]
 constructor
 ·intro h p hp m hm hb hv
  rcases h p hp m hm with(h1|h1)|h1
  ·exact absurd h1 hb
  ·rcases hv with hv|hv
   ·exact absurd hv h1.1
   ·have:=h1.2
    rw[List.contains_iff_mem.2 hv] at this
    cases this
  ·exact h1
 ·intro h p hp m hm
  by_cases hb:(m:Int)=b
  ·exact .inl (.inl hb)
  by_cases hv:(m:Int)=p.v.author∨(m:Int)∈p.members
  ·exact .inr (h p hp m hm hb hv)
  ·refine .inl (.inr ⟨fun h=>hv (.inl h),?_⟩)
   rw[Bool.eq_false_iff]
   exact fun h=>hv (.inr (List.contains_iff_mem.1 h))
theorem up {c:List Int}{b:Int}{ps:List Ppl}:eO c b ps=true↔(∀p∈ps,oneP c p=true)∧(ps.Pairwise fun q p=>fitP b p q=true)∧ps.length≤220:=by
 constructor
 ·intro h
  refine⟨nT h,?_,lE h⟩
  simp only[eO,Bool.and_eq_true,aM] at h
  rw[List.pairwise_iff_getElem]
  intro i j hi hj hij
  have:=h.1 j hj
  simp only[eB,Bool.and_eq_true,aM] at this
  have:=this.2 i hij
  simpa[List.getD_eq_getElem?_getD,List.getElem?_eq_getElem hi,List.getElem?_eq_getElem hj] using this
 ·rintro⟨h1,h2,h3⟩
  simp only[eO,Bool.and_eq_true,aM,decide_eq_true_eq]
  refine⟨fun j hj=>?_,by omega⟩
  simp only[eB,Bool.and_eq_true,aM]
  refine⟨h1 _ (du hj),fun i hi=>?_⟩
  have:=List.pairwise_iff_getElem.1 h2 i j (by omega) hj hi
  simpa[List.getD_eq_getElem?_getD,List.getElem?_eq_getElem hj,List.getElem?_eq_getElem (show i<ps.length by omega)] using this
theorem uR {c:List Int}{b:Int}{ps:List Ppl}{gs:List (List Vtx)}:eo c b ps gs=true↔(∀g∈gs,graS c g=true)∧(∀g∈gs,∀v∈g,knw c ps v=true)∧∀i:Nat,i<gs.length→(i:Int)=b→gs.getD i []=[]:=by
 simp only[eo,aM,lV,Bool.and_eq_true,List.all_eq_true,Bool.or_eq_true,Bool.not_eq_true',beq_eq_false_iff_ne,List.isEmpty_iff]
 constructor
 ·intro h
  refine⟨fun g hg=>?_,fun g hg=>?_,fun i hi hb=>?_⟩
  ·obtain⟨j,hj,rfl⟩:=cC (d:=[]) hg
   exact(h j hj).1.2
  ·obtain⟨j,hj,rfl⟩:=cC (d:=[]) hg
   exact(h j hj).1.1
  ·rcases (h i hi).2 with h1|h1
   ·exact absurd hb h1
   ·exact h1
 ·rintro⟨h1,h2,h3⟩ i hi
  have hm:gs.getD i []∈gs:=du hi
  refine⟨⟨h2 _ hm,h1 _ hm⟩,?_⟩
  by_cases hb:(i:Int)=b
  ·exact .inr (h3 i hi hb)
  ·exact .inl hb
theorem ce {w:Wrl}:dw w=true↔WOK w:=by
 rw[gw,Bool.and_eq_true]
 constructor
 ·rintro⟨h1,h2⟩
  obtain⟨p1,p2,p3,p4,p5,p6⟩:=mJ h1
  obtain⟨q1,q2,q3⟩:=up.1 p4
  obtain⟨r1,r2,r3⟩:=uR.1 p6
  exact⟨p1,p2,p3,q1,q2,q3,p5,r1,fun g hg v hv=>xD.1 (r2 g hg v hv),r3,t9.1 h2⟩
 ·intro h
  refine⟨?_,t9.2 h.kp⟩
  have h1:=up.2 ⟨h.one,h.fit,h.plen⟩
  have h2:=uR.2 ⟨h.gra,fun g hg v hv=>xD.2 (h.knw g hg v hv),h.bv⟩
  simp[eg,fo,h.com,h.lead,h.bad,h1,h2,h.vlen]
def good (w:Wrl)(m:Int):Bool:=bY w.com m && m !=w.bad
def view (w:Wrl)(m:Int):List Vtx:=w.views.getD m.toNat []
def jd (ps:List Ppl)(m:Int):Int:=ps.foldl (fun n p=>if p.v.author=m then max n (p.v.round+1) else n) 0
def kT (w:Wrl)(v:Vtx):Wrl:={w with props:=w.props++[⟨v,[]⟩]}
def fg (w:Wrl)(m d:Int):Vtx:=⟨fv w.com (view w m)+1,m,if 0<fv w.com (view w m)+1 then dJ (view w m) (fv w.com (view w m)) else[],d⟩
def ga (w:Wrl)(m d:Int):Bool:=good w m && (gM d 0 990 && (decide (w.props.length<220) && (decide (jd w.props m≤(fg w m d).round) && vtxS w.com (fg w m d))))
def ew (w:Wrl)(m d:Int):Wrl:=if ga w m d then kT w (fg w m d) else w
def cH:List Int→Int→List Int
 |[],n=>[n]
 |x::l,n=>if x<n then x::cH l n else if x=n then x::l else n::x::l
def ay (w:Wrl)(i:Int):Ppl:=w.props.getD i.toNat p0
def gG (w:Wrl)(i m:Int):Wrl:={w with props:=w.props.set i.toNat ⟨(ay w i).v,cH (ay w i).members m⟩}
def m8 (w:Wrl)(i:Int):Bool:=gM i 0 (w.props.length-1)
def C2 (w:Wrl)(m i:Int):Bool:=(List.range w.props.length).any fun j=>(j:Int) !=i && (slt (w.props.getD j p0).v (ay w i).v && (w.props.getD j p0).members.contains m)
def fX (w:Wrl)(m i:Int):Bool:=good w m && (m8 w i && (!C2 w m i && parOK (view w m) (ay w i).v))
def eR (w:Wrl)(m i:Int):Wrl:=if fX w m i then gG w i m else w
def eu:List Vtx→Vtx→List Vtx
 |[],v=>[v]
 |x::g,v=>if bef x v then x::eu g v else v::x::g
def cG (w:Wrl)(m i:Int):Bool:=good w m && (m8 w i && (don w.com (ay w i) && (!cA (view w m) (ay w i).v.round (ay w i).v.author && parOK (view w m) (ay w i).v)))
def bJ (w:Wrl)(m i:Int):Wrl:=if cG w m i then {w with views:=w.views.set m.toNat (eu (view w m) (ay w i).v)} else w
def fZ (w:Wrl)(v:Vtx):Bool:=decide (0≤w.bad) && (v.author==w.bad && (vtxS w.com v && (decide (w.props.length<220) && !w.props.any fun p=>gL p.v v)))
def lI (w:Wrl)(v:Vtx):Wrl:=if fZ w v then kT w v else w
def ja (w:Wrl)(i:Int):Bool:=decide (0≤w.bad) && m8 w i
def iS (w:Wrl)(i:Int):Wrl:=if ja w i then gG w i w.bad else w
def dG (w:Wrl)(e:Evt):Wrl:=
 if e.kind=1 then ew w e.a e.b else if e.kind=2 then eR w e.a e.b else if e.kind=3 then bJ w e.a e.b else if e.kind=4 then lI w e.v else if e.kind=5 then iS w e.b else w
theorem nP (ps:List Ppl)(p:Ppl)(m:Int):jd (ps++[p]) m=if p.v.author=m then max (jd ps m) (p.v.round+1) else jd ps m:=by simp only[jd,List.foldl_append,List.foldl_cons,List.foldl_nil]
theorem Bv {ps:List Ppl}{m:Int}:∀p∈ps,p.v.author=m→p.v.round+1≤jd ps m:=by
 induction ps using ci with
 |h0=>intro p hp;cases hp
 |h l x ih=>
  intro p hp ha
  rw[nP]
  rcases List.mem_append.1 hp with h|h
  ·have:=ih p h ha
   split<;>omega
  ·obtain rfl:=List.mem_singleton.1 h
   rw[if_pos ha]
   omega
theorem Bo (c:List Int):cd c []=true:=rfl
theorem CN {ps:List Ppl}{b:Int}{p:Ppl}(h:ps.Pairwise fun q p=>fitP b p q=true)(hn:∀q∈ps,fitP b p q=true):(ps++[p]).Pairwise fun q p=>fitP b p q=true:=
 List.pairwise_append.2 ⟨h,by simp,fun q hq p' hp'=>by obtain rfl:=List.mem_singleton.1 hp';exact hn q hq⟩
theorem As {b:Int}{p q:Ppl}(h:¬(p.v.round=q.v.round∧p.v.author=q.v.author)):fitP b p q=true:=by
 have:slt p.v q.v=false:=by rw[Bool.eq_false_iff];exact fun h2=>h (lM.1 h2)
 simp[fitP,this]
theorem wQ {w:Wrl}(h:WOK w){v:Vtx}(h1:vtxS w.com v=true)(h2:w.props.length<220)(h3:∀q∈w.props,fitP w.bad ⟨v,[]⟩ q=true)
  (h4:∀m:Nat,m<w.views.length→(m:Int)≠w.bad→(m:Int)=v.author→parOK (w.views.getD m []) v=true):WOK (kT w v) where
 com:=h.com
 lead:=h.lead
 bad:=h.bad
 one p hp:=by
  rcases List.mem_append.1 hp with hp|hp
  ·exact h.one p hp
  ·obtain rfl:=List.mem_singleton.1 hp
   simp only[kT,oneP,h1,Bo,Bool.and_self]
 fit:=CN h.fit h3
 plen:=by simp only[kT,List.length_append,List.length_singleton];omega
 vlen:=h.vlen
 gra:=h.gra
 knw g hg u hu:=by
  obtain⟨p,hp,h5⟩:=h.knw g hg u hu
  exact⟨p,List.mem_append.2 (.inl hp),h5⟩
 bv:=h.bv
 kp p hp m hm hb hv:=by
  rcases List.mem_append.1 hp with hp|hp
  ·exact h.kp p hp m hm hb hv
  ·obtain rfl:=List.mem_singleton.1 hp
   rcases hv with hv|hv
   ·exact h4 m hm hb hv
   ·cases hv
theorem x5 {w:Wrl}(h:WOK w)(m d:Int):WOK (ew w m d):=by
 unfold ew
 split
 rotate_left
 ·exact h
 rename_i hb
 simp only[ga,Bool.and_eq_true,decide_eq_true_eq] at hb
 obtain⟨-,-,h1,h2,h3⟩:=hb
 refine wQ h h3 h1 (fun q hq=>As fun hs=>?_) fun k hk _ hka=>?_
 ·have:=Bv q hq (m:=m) hs.2.symm
  have:=hs.1
  dsimp only at this
  omega
 ·have hka:(k:Int)=m:=hka
  have hv:w.views.getD k []=view w m:=by unfold view;rw[←hka];rfl
  rw[hv,bN]
  intro p hp
  have hp:p∈if 0<fv w.com (view w m)+1 then dJ (view w m) (fv w.com (view w m)) else[]:=hp
  split at hp
  ·have hr:(fg w m d).round-1=fv w.com (view w m):=by simp only[fg];omega
   rw[hr]
   exact om.1 hp
  ·cases hp
theorem EF {w:Wrl}(h:WOK w)(v:Vtx):WOK (lI w v):=by
 unfold lI
 split
 rotate_left
 ·exact h
 rename_i hb
 simp only[fZ,Bool.and_eq_true,decide_eq_true_eq,beq_iff_eq,Bool.not_eq_true'] at hb
 obtain⟨h0,h1,h2,h3,h4⟩:=hb
 refine wQ h h2 h3 (fun q hq=>?_) fun k _ hk hka=>absurd (hka.trans h1) hk
 have hne:gL v q.v=false:=by
  rw[Bool.eq_false_iff]
  intro he
  rw[lT] at he
  have:(w.props.any fun p=>gL p.v v)=true:=List.any_eq_true.2 ⟨q,hq,by rw[he];exact Cx _⟩
  rw[h4] at this
  cases this
 have ha:(v.author==w.bad)=true:=by simpa using h1
 simp[fitP,hne,ha,jb]
theorem fL {l:List Int}{n x:Int}:x∈cH l n↔x=n∨x∈l:=by
 induction l with
 |nil=>simp[cH]
 |cons y l ih=>
  unfold cH
  split
  ·simp only[List.mem_cons,ih]
   constructor
   ·rintro(h|h|h)
    ·exact .inr (.inl h)
    ·exact .inl h
    ·exact .inr (.inr h)
   ·rintro(h|h|h)
    ·exact .inr (.inl h)
    ·exact .inl h
    ·exact .inr (.inr h)
  ·split
   ·rename_i h1 h2
    simp only[List.mem_cons,h2]
    constructor
    ·intro h;exact .inr h
    ·rintro(h|h)
     ·exact .inl h
     ·exact h
   ·simp only[List.mem_cons]
theorem tP {l:List Int}{n:Int}(h:l.Pairwise (· < ·)):(cH l n).Pairwise (· < ·):=by
 induction l with
 |nil=>simp[cH]
 |cons y l ih=>
  rw[List.pairwise_cons] at h
  unfold cH
  split
  ·rw[List.pairwise_cons]
   refine⟨fun x hx=>?_,ih h.2⟩
   rcases fL.1 hx with rfl|hx
   ·assumption
   ·exact h.1 x hx
  ·split
   ·exact List.pairwise_cons.2 h
   ·rw[List.pairwise_cons,List.pairwise_cons]
    refine⟨fun x hx=>?_,h⟩
    rcases List.mem_cons.1 hx with rfl|hx
    ·omega
    ·have:=h.1 x hx
     omega
theorem yK {c ms:List Int}{m:Int}(h:cd c ms=true)(hm:0≤m∧m<c.length):cd c (cH ms m)=true:=by
 refine rV (fun x hx=>?_) (tP (bG h))
 rcases fL.1 hx with rfl|hx
 ·exact hm
 ·exact bf h x hx
theorem tR {c:List Int}(hc:comV c=true)(m:Int):∀ms:List Int,cR c ms≤cR c (cH ms m)
 |[]=>by
  have:0≤c.getD m.toNat 0:=by
   by_cases h:m.toNat<c.length
   ·have:=(ao.1 hc).1 _ (du (d:=0) h);omega
   ·rw[List.getD_eq_getElem?_getD,List.getElem?_eq_none (by omega)];simp
  simpa[cR,cH] using this
 |y::ms=>by
  have ih:=tR hc m ms
  have:0≤c.getD m.toNat 0:=by
   by_cases h:m.toNat<c.length
   ·have:=(ao.1 hc).1 _ (du (d:=0) h);omega
   ·rw[List.getD_eq_getElem?_getD,List.getElem?_eq_none (by omega)];simp
  unfold cH
  simp only[cR] at ih⊢
  split
  ·simp only[List.map_cons,List.sum_cons];omega
  ·split
   ·simp
   ·simp only[List.map_cons,List.sum_cons];omega
theorem zG {b m:Int}{a c:List Int}(h:m=b∨m∉c):jb b (cH a m) c=jb b a c:=by
 rw[Bool.eq_iff_iff,jj,jj]
 constructor
 ·rintro⟨x,h1,h2,h3⟩
  rcases fL.1 h2 with rfl|h2
  ·rcases h with h|h
   ·exact absurd h h1
   ·exact absurd h3 h
  ·exact⟨x,h1,h2,h3⟩
 ·rintro⟨x,h1,h2,h3⟩
  exact⟨x,h1,fL.2 (.inr h2),h3⟩
theorem GX {α:Type}{R:α→α→Prop}{l:List α}{i:Nat}{x:α}(h:l.Pairwise R)(h1:∀j y,j<i→l[j]?=some y→R y x)(h2:∀j y,i<j→l[j]?=some y→R x y):(l.set i x).Pairwise R:=by
 rw[List.pairwise_iff_getElem] at h⊢
 intro a b ha hb hab
 rw[List.length_set] at ha hb
 rw[List.getElem_set,List.getElem_set]
 split
 ·rename_i e
  rw[if_neg (by omega)]
  exact h2 b _ (by omega) (List.getElem?_eq_getElem hb)
 ·split
  ·exact h1 a _ (by omega) (List.getElem?_eq_getElem ha)
  ·exact h a b ha hb hab
theorem mem_set {α:Type}{l:List α}{i:Nat}{x y:α}(h:y∈l.set i x):y=x∨y∈l:=by
 rcases List.mem_or_eq_of_mem_set h with h|h
 ·exact .inr h
 ·exact .inl h
theorem gk {w:Wrl}{i:Int}(hi:m8 w i=true):i.toNat<w.props.length∧w.props[i.toNat]?=some (ay w i)∧ay w i∈w.props:=by
 have:=ar.1 hi
 have hl:i.toNat<w.props.length:=by omega
 refine⟨hl,?_,du hl⟩
 unfold ay
 rw[List.getD_eq_getElem?_getD,List.getElem?_eq_getElem hl]
 rfl
theorem xZ {w:Wrl}(h:WOK w){i m:Int}(hi:m8 w i=true)(hm:0≤m∧m<w.com.length)
  (h1:m=w.bad∨(∀j:Nat,j<w.props.length→(j:Int)≠i→slt (w.props.getD j p0).v (ay w i).v=true→m∉(w.props.getD j p0).members))
  (h2:m=w.bad∨parOK (view w m) (ay w i).v=true):WOK (gG w i m):=by
 obtain⟨hl,hx,hp⟩:=gk hi
 have hir:=ar.1 hi
 have hone:=h.one _ hp
 have key:∀j:Nat,∀q,j≠i.toNat→w.props[j]?=some q→fitP w.bad (ay w i) q=true→fitP w.bad ⟨(ay w i).v,cH (ay w i).members m⟩ q=true:=fun j q hj hq hf=>by
  unfold fitP at hf⊢
  dsimp only
  cases hs:slt (ay w i).v q.v
  ·simp
  ·rw[hs] at hf
   rw[zG]
   ·exact hf
   ·rcases h1 with h1|h1
    ·exact .inl h1
    ·right
     have:=h1 j (List.getElem?_eq_some_iff.1 hq).1 (by omega) (by rw[aU hq,uD];exact hs)
     rwa [aU hq] at this
 have hset:∀y∈w.props,∃z∈(gG w i m).props,z.v=y.v∧(don w.com y=true→don w.com z=true):=fun y hy=>by
  obtain⟨j,hj⟩:=List.getElem?_of_mem hy
  by_cases hji:j=i.toNat
  ·subst hji
   rw[hx] at hj
   obtain rfl:=Option.some.inj hj
   refine⟨_,List.mem_set hl ..,rfl,fun hd=>?_⟩
   simp only[don,decide_eq_true_eq] at hd⊢
   have:=tR h.com m (ay w i).members
   omega
  ·refine⟨y,List.mem_of_getElem? (i:=j) ?_,rfl,id⟩
   simp only[gG]
   rw[List.getElem?_set_ne (by omega)]
   exact hj
 refine⟨h.com,h.lead,h.bad,fun p hp'=>?_,GX h.fit (fun j y hj hy=>?_) (fun j y hj hy=>?_),by simp only[gG,List.length_set];exact h.plen,h.vlen,h.gra,fun g hg v hv=>?_,h.bv,fun p hp' k hk hb hv=>?_⟩
 ·rcases mem_set hp' with rfl|hp'
  ·simp only[oneP,Bool.and_eq_true] at hone⊢
   exact⟨hone.1,yK hone.2 hm⟩
  ·exact h.one p hp'
 ·refine key j y (by omega) hy ?_
  exact fq h.fit hj hy hx
 ·rw[ml]
  refine key j y (by omega) hy ?_
  rw[ml]
  exact fq h.fit hj hx hy
 ·obtain⟨p,hp,hd,rfl⟩:=h.knw g hg v hv
  obtain⟨z,hz,hzv,hzd⟩:=hset p hp
  exact⟨z,hz,hzd hd,hzv⟩
 ·rcases mem_set hp' with rfl|hp'
  ·dsimp only at hv⊢
   by_cases hkm:(k:Int)=m
   ·rcases h2 with h2|h2
    ·exact absurd (hkm.trans h2) hb
    ·unfold view at h2
     rw[←hkm] at h2
     exact h2
   ·refine h.kp _ hp k hk hb ?_
    rcases hv with hv|hv
    ·exact .inl hv
    ·rcases fL.1 hv with hv|hv
     ·exact absurd hv hkm
     ·exact .inr hv
  ·exact h.kp p hp' k hk hb hv
theorem cZ {w:Wrl}{m:Int}:good w m=true↔(0≤m∧m<w.com.length)∧m≠w.bad:=by
 simp only[good,bY,Bool.and_eq_true,ar,bne_iff_ne]
 omega
theorem x7 {w:Wrl}(h:WOK w)(m i:Int):WOK (eR w m i):=by
 unfold eR
 split
 rotate_left
 ·exact h
 rename_i hb
 simp only[fX,Bool.and_eq_true,Bool.not_eq_true'] at hb
 obtain⟨h1,h2,h3,h4⟩:=hb
 refine xZ h h2 (cZ.1 h1).1 (.inr fun j hj hji hs hm=>?_) (.inr h4)
 have:C2 w m i=true:=by
  refine List.any_eq_true.2 ⟨j,List.mem_range.2 hj,?_⟩
  rw[hs,List.contains_iff_mem.2 hm]
  simpa using hji
 rw[h3] at this
 cases this
theorem ED {w:Wrl}(h:WOK w)(i:Int):WOK (iS w i):=by
 unfold iS
 split
 rotate_left
 ·exact h
 rename_i hb
 simp only[ja,Bool.and_eq_true,decide_eq_true_eq] at hb
 have:=dy.1 h.bad
 exact xZ h hb.2 (by omega) (.inl rfl) (.inl rfl)
theorem fM {g:List Vtx}{v x:Vtx}:x∈eu g v↔x=v∨x∈g:=by
 induction g with
 |nil=>simp[eu]
 |cons y g ih=>
  unfold eu
  split
  ·simp only[List.mem_cons,ih]
   constructor
   ·rintro(h|h|h)
    ·exact .inr (.inl h)
    ·exact .inl h
    ·exact .inr (.inr h)
   ·rintro(h|h|h)
    ·exact .inr (.inl h)
    ·exact .inl h
    ·exact .inr (.inr h)
  ·simp only[List.mem_cons]
theorem CR {a b:Vtx}(h:¬(a.round=b.round∧a.author=b.author))(h2:bef a b=false):bef b a=true:=by
 simp only[bef,Bool.or_eq_true,Bool.and_eq_true,decide_eq_true_eq,Bool.or_eq_false_iff,Bool.and_eq_false_iff,decide_eq_false_iff_not] at *
 omega
theorem DN {g:List Vtx}{v:Vtx}(h:g.Pairwise fun a b=>bef a b=true)(hn:cA g v.round v.author=false):(eu g v).Pairwise fun a b=>bef a b=true:=by
 induction g with
 |nil=>simp[eu]
 |cons y g ih=>
  rw[List.pairwise_cons] at h
  have hn2:dO v.round v.author y=false∧cA g v.round v.author=false:=by simpa[cA] using hn
  unfold eu
  split
  ·rw[List.pairwise_cons]
   refine⟨fun x hx=>?_,ih h.2 hn2.2⟩
   rcases fM.1 hx with rfl|hx
   ·assumption
   ·exact h.1 x hx
  ·rename_i hb
   have hvy:bef v y=true:=CR (fun he=>by
    rw[ed.2 he] at hn2
    cases hn2.1) (by simpa using hb)
   rw[List.pairwise_cons,List.pairwise_cons]
   refine⟨fun x hx=>?_,h⟩
   rcases List.mem_cons.1 hx with rfl|hx
   ·exact hvy
   ·exact mf hvy (h.1 x hx)
theorem yH {g g':List Vtx}{r a:Int}(h:∀x∈g,x∈g')(hh:cA g r a=true):cA g' r a=true:=by
 obtain⟨v,hv,e⟩:=aY.1 hh
 exact aY.2 ⟨v,h v hv,e⟩
theorem kL {g g':List Vtx}{v:Vtx}(h:∀x∈g,x∈g')(hh:parOK g v=true):parOK g' v=true:=
 bN.2 fun p hp=>yH h (bN.1 hh p hp)
theorem Ds {c:List Int}{g:List Vtx}(h:GraOK c g):graS c g=true:=by
 simp only[graS,Bool.and_eq_true,aM,gg,Bool.or_eq_true,beq_iff_eq]
 refine⟨h.com,fun i hi=>⟨h.vtx _ (du hi),?_,h.par _ (du hi)⟩⟩
 cases i with
 |zero=>exact .inl rfl
 |succ i=>
  right
  exact fq h.pw (show i<i+1 by omega) (by rw[Nat.add_sub_cancel,List.getD_eq_getElem?_getD,List.getElem?_eq_getElem (show i<g.length by omega)];rfl) (by rw[List.getD_eq_getElem?_getD,List.getElem?_eq_getElem hi];rfl)
theorem A4 {c:List Int}{g:List Vtx}{v:Vtx}(h:graS c g=true)(h1:vtxS c v=true)(h2:cA g v.round v.author=false)(h3:parOK g v=true):graS c (eu g v)=true:=by
 have hg:=cP h
 have hs:∀x∈g,x∈eu g v:=fun x hx=>fM.2 (.inr hx)
 refine Ds ⟨hg.com,fun x hx=>?_,DN hg.pw h2,fun x hx=>?_⟩
 ·rcases fM.1 hx with rfl|hx
  ·exact h1
  ·exact hg.vtx x hx
 ·rcases fM.1 hx with rfl|hx
  ·exact kL hs h3
  ·exact kL hs (hg.par x hx)
theorem tJ {α:Type}{l:List α}{i j:Nat}{x d:α}(hi:i<l.length):(l.set i x).getD j d=if i=j then x else l.getD j d:=by
 simp only[List.getD_eq_getElem?_getD,List.getElem?_set]
 split
 ·subst_vars;simp[hi]
 ·rfl
theorem sq {w:Wrl}(h:WOK w)(m i:Int):WOK (bJ w m i):=by
 unfold bJ
 split
 rotate_left
 ·exact h
 rename_i hb
 simp only[cG,Bool.and_eq_true,Bool.not_eq_true'] at hb
 obtain⟨h1,h2,h3,h4,h5⟩:=hb
 have hg:=cZ.1 h1
 obtain⟨hl,hx,hp⟩:=gk h2
 have hone:=h.one _ hp
 simp only[oneP,Bool.and_eq_true] at hone
 have hml:m.toNat<w.views.length:=by rw[h.vlen];omega
 have hvm:view w m∈w.views:=du hml
 refine⟨h.com,h.lead,h.bad,h.one,h.fit,h.plen,by simp only[List.length_set];exact h.vlen,fun g hg'=>?_,fun g hg' v hv=>?_,fun k hk hkb=>?_,fun p hp' k hk hb hv=>?_⟩
 ·rcases mem_set hg' with rfl|hg'
  ·exact A4 (h.gra _ hvm) hone.1 h4 h5
  ·exact h.gra g hg'
 ·rcases mem_set hg' with rfl|hg'
  ·rcases fM.1 hv with rfl|hv
   ·exact⟨ay w i,hp,h3,rfl⟩
   ·exact h.knw _ hvm v hv
  ·exact h.knw g hg' v hv
 ·simp only[List.length_set] at hk
  have hkb:(k:Int)=w.bad:=hkb
  dsimp only
  rw[tJ hml,if_neg (by intro e;apply hg.2;omega)]
  exact h.bv k hk hkb
 ·simp only[List.length_set] at hk
  have:=h.kp p hp' k hk hb hv
  dsimp only
  rw[tJ hml]
  split
  ·rename_i e
   subst e
   exact kL (fun x hx=>fM.2 (.inr hx)) this
  ·exact this
theorem iT {w:Wrl}(h:WOK w)(e:Evt):WOK (dG w e):=by
 unfold dG
 split
 ·exact x5 h _ _
 split
 ·exact x7 h _ _
 split
 ·exact sq h _ _
 split
 ·exact EF h _
 split
 ·exact ED h _
 ·exact h
theorem Dt {c:List Int}{g:List Vtx}(h:graS c g=true):g.length≤217:=by
 have hg:=cP h
 have ht:∀v∈g,fK v:=fun v hv=>bW hg.com (hg.vtx v hv)
 have h1:((g.map fun v=>(v.round*7+v.author).toNat)).Nodup:=by
  rw[List.Nodup,List.pairwise_map]
  refine hg.pw.imp_of_mem fun {a b} ha hb hab=>?_
  obtain⟨⟨a1,a2⟩,a3,a4⟩:=ht a ha
  obtain⟨⟨b1,b2⟩,b3,b4⟩:=ht b hb
  simp only[bef,Bool.or_eq_true,Bool.and_eq_true,decide_eq_true_eq] at hab
  omega
 have h2:=kJ h1 (b:=List.range 217) fun k hk=>by
  obtain⟨v,hv,rfl⟩:=List.mem_map.1 hk
  obtain⟨⟨a1,a2⟩,a3,a4⟩:=ht v hv
  rw[List.mem_range]
  omega
 simpa using h2
theorem xA:∀{l:List Int} {n:Int} {k:Nat},(∀y∈l.take k,y<n)→k≤l.length→(∀y,l[k]?=some y→¬y<n)→cH l n=if l[k]?=some n then l else l.take k++[n]++l.drop k
 |[],n,k,_,hk,_=>by
  obtain rfl:k=0:=by simpa using hk
  simp[cH]
 |x::l,n,0,_,_,h=>by
  have hx:=h x rfl
  unfold cH
  rw[if_neg hx]
  simp
 |x::l,n,k+1,h1,hk,h=>by
  have hx:x<n:=h1 x (by simp)
  unfold cH
  rw[if_pos hx,xA (l:=l) (k:=k) (fun y hy=>h1 y (by simp[hy])) (by simpa using hk) (fun y hy=>h y (by simpa using hy))]
  simp only[List.getElem?_cons_succ]
  split<;>simp
theorem xB:∀{g:List Vtx} {v:Vtx} {k:Nat},(∀y∈g.take k,bef y v=true)→k≤g.length→(∀y,g[k]?=some y→bef y v=false)→eu g v=g.take k++[v]++g.drop k
 |[],v,k,_,hk,_=>by
  obtain rfl:k=0:=by simpa using hk
  simp[eu]
 |x::g,v,0,_,_,h=>by
  have hx:=h x rfl
  unfold eu
  rw[if_neg (by rw[hx];simp)]
  simp
 |x::g,v,k+1,h1,hk,h=>by
  have hx:bef x v=true:=h1 x (by simp)
  unfold eu
  rw[if_pos hx,xB (g:=g) (k:=k) (fun y hy=>h1 y (by simp[hy])) (by simpa using hk) (fun y hy=>h y (by simpa using hy))]
  simp
theorem tS (g:List Vtx)(v:Vtx):(eu g v).length=g.length+1:=by
 induction g with
 |nil=>rfl
 |cons x g ih=>unfold eu;split<;>simp[ih]
theorem Bu {ps:List Ppl}{m:Int}(h:∀p∈ps,0≤p.v.round∧p.v.round≤30):0≤jd ps m∧jd ps m≤31:=by
 induction ps using ci with
 |h0=>simp[jd]
 |h l x ih=>
  have ih:=ih fun p hp=>h p (List.mem_append.2 (.inl hp))
  have hx:=h x (by simp)
  rw[nP]
  split<;>omega
theorem WOK.len {w:Wrl}(h:WOK w):1≤w.com.length∧w.com.length≤7:=(ao.1 h.com).2
theorem WOK.vl {w:Wrl}(h:WOK w):∀g∈w.views,g.length≤217:=fun g hg=>Dt (h.gra g hg)
theorem WOK.vv {w:Wrl}(h:WOK w):∀g∈w.views,∀v∈g,vtxS w.com v=true:=fun g hg=>xt (h.gra g hg)
theorem WOK.pv {w:Wrl}(h:WOK w):∀p∈w.props,vtxS w.com p.v=true∧cd w.com p.members=true:=fun p hp=>by
 have:=h.one p hp
 simpa only[oneP,Bool.and_eq_true] using this
theorem WOK.par {w:Wrl}(h:WOK w){v:Vtx}(hv:vtxS w.com v=true):v.parents.length≤7:=lZ h.com hv
theorem WOK.mem {w:Wrl}(h:WOK w):∀p∈w.props,p.members.length≤7:=fun p hp=>by
 have:=il (h.pv p hp).2
 have:=h.len
 omega
theorem WOK.view {w:Wrl}(h:WOK w){m:Int}(hm:good w m=true):w.views[m.toNat]?=some (view w m)∧view w m∈w.views∧m.toNat<w.views.length:=by
 have hg:=cZ.1 hm
 have hl:m.toNat<w.views.length:=by rw[h.vlen];omega
 refine⟨?_,du hl,hl⟩
 unfold Am.view
 rw[List.getD_eq_getElem?_getD,List.getElem?_eq_getElem hl]
 rfl
def cI (w:Wrl):Nat:=(w.views.map List.length).sum
theorem EN {l:List (List Vtx)}{i:Nat}{g x:List Vtx}(h:l[i]?=some g)(hx:x.length=g.length+1):((l.set i x).map List.length).sum=(l.map List.length).sum+1:=by
 induction l generalizing i with
 |nil=>simp at h
 |cons y l ih=>
  cases i with
  |zero=>
   simp only[List.getElem?_cons_zero,Option.some.injEq] at h
   subst h
   simp only[List.set_cons_zero,List.map_cons,List.sum_cons,hx]
   omega
  |succ i=>
   simp only[List.set_cons_succ,List.map_cons,List.sum_cons]
   rw[ih (by simpa using h)]
   omega
theorem eQ {w:Wrl}(h:WOK w)(m i:Int):(cG w m i=false∧bJ w m i=w)∨(cG w m i=true∧cI (bJ w m i)=cI w+1):=by
 cases hb:cG w m i
 ·exact .inl ⟨rfl,by simp[bJ,hb]⟩
 ·refine .inr ⟨rfl,?_⟩
  have hg:good w m=true:=by
   simp only[cG,Bool.and_eq_true] at hb
   exact hb.1
  have:=EN (h.view hg).1 (tS (view w m) (ay w i).v)
  simpa[bJ,hb,cI] using this
theorem uz (w:Wrl)(m i:Int):(bJ w m i).com=w.com∧(bJ w m i).props=w.props∧(bJ w m i).bad=w.bad∧(bJ w m i).lead=w.lead:=by
 unfold bJ
 split<;>exact⟨rfl,rfl,rfl,rfl⟩
theorem pB {w:Wrl}(h:WOK w):cI w≤1519:=by
 have h1:∀l:List (List Vtx),(∀g∈l,g.length≤217)→(l.map List.length).sum≤217*l.length:=by
  intro l
  induction l with
  |nil=>intro _;simp
  |cons x l ih=>
   intro hl
   have:=ih fun g hg=>hl g (List.mem_cons_of_mem _ hg)
   have:=hl x (List.mem_cons_self ..)
   simp only[List.map_cons,List.sum_cons,List.length_cons]
   omega
 have:=h1 w.views h.vl
 have:=h.vlen
 have:=h.len
 unfold cI
 omega
def bS (w:Wrl)(i:Int):Nat→Wrl
 |0=>w
 |n+1=>bJ (bS w i n) n i
theorem fG {w:Wrl}(h:WOK w)(i:Int):∀n,WOK (bS w i n)
 |0=>h
 |n+1=>sq (fG h i n) _ _
theorem gT (w:Wrl)(i:Int):∀n,(bS w i n).com=w.com∧(bS w i n).props=w.props
 |0=>⟨rfl,rfl⟩
 |n+1=>by
  have h1:=uz (bS w i n) n i
  have h2:=gT w i n
  exact⟨h1.1.trans h2.1,h1.2.1.trans h2.2⟩
def aT (w:Wrl):Nat→Wrl
 |0=>w
 |k+1=>bS (aT w k) k (aT w k).com.length
theorem eN {w:Wrl}(h:WOK w):∀k,WOK (aT w k)
 |0=>h
 |k+1=>fG (eN h k) _ _
theorem de (w:Wrl):∀k,(aT w k).com=w.com∧(aT w k).props=w.props
 |0=>⟨rfl,rfl⟩
 |k+1=>by
  have h1:=gT (aT w k) k (aT w k).com.length
  have h2:=de w k
  exact⟨h1.1.trans h2.1,h1.2.trans h2.2⟩
def pass (w:Wrl):Wrl:=aT w w.props.length
theorem gj {w:Wrl}(h:WOK w):WOK (pass w):=eN h _
def bK (w:Wrl):Wrl:=if h:cI w<cI (pass w)∧cI (pass w)≤1519 then bK (pass w) else pass w
termination_by 1519-cI w
decreasing_by omega
theorem x6:∀(n:Nat) {w:Wrl},1519-cI w≤n→WOK w→WOK (bK w):=by
 intro n
 induction n with
 |zero=>
  intro w hn h
  rw[bK]
  split
  ·omega
  ·exact gj h
 |succ n ih=>
  intro w hn h
  rw[bK]
  split
  ·exact ih (by omega) (gj h)
  ·exact gj h
def iA (w:Wrl)(i:Int):Nat→Wrl
 |0=>w
 |n+1=>eR (iA w i n) n i
theorem lX {w:Wrl}(h:WOK w)(i:Int):∀n,WOK (iA w i n)
 |0=>h
 |n+1=>x7 (lX h i n) _ _
theorem B5 (w:Wrl)(m i:Int):(eR w m i).com=w.com∧(eR w m i).props.length=w.props.length:=by
 unfold eR
 split
 ·exact⟨rfl,by simp[gG]⟩
 ·exact⟨rfl,rfl⟩
theorem kl (w:Wrl)(i:Int):∀n,(iA w i n).com=w.com∧(iA w i n).props.length=w.props.length
 |0=>⟨rfl,rfl⟩
 |n+1=>by
  have h1:=B5 (iA w i n) n i
  have h2:=kl w i n
  exact⟨h1.1.trans h2.1,h1.2.trans h2.2⟩
def cJ (w:Wrl):Nat→Wrl
 |0=>w
 |k+1=>iA (cJ w k) k (cJ w k).com.length
theorem cF {w:Wrl}(h:WOK w):∀k,WOK (cJ w k)
 |0=>h
 |k+1=>lX (cF h k) _ _
theorem dR (w:Wrl):∀k,(cJ w k).com=w.com∧(cJ w k).props.length=w.props.length
 |0=>⟨rfl,rfl⟩
 |k+1=>by
  have h1:=kl (cJ w k) k (cJ w k).com.length
  have h2:=dR w k
  exact⟨h1.1.trans h2.1,h1.2.trans h2.2⟩
def fx (w:Wrl):Wrl:=cJ w w.props.length
def df (w:Wrl)(r:Nat):Nat→Wrl
 |0=>w
 |n+1=>ew (df w r n) n (7*r+n)
theorem fU {w:Wrl}(h:WOK w)(r:Nat):∀n,WOK (df w r n)
 |0=>h
 |n+1=>x5 (fU h r n) _ _
theorem B4 (w:Wrl)(m d:Int):(ew w m d).com=w.com:=by
 unfold ew
 split<;>rfl
theorem ka (w:Wrl)(r:Nat):∀n,(df w r n).com=w.com
 |0=>rfl
 |n+1=>(B4 _ _ _).trans (ka w r n)
def gb (w:Wrl):Wrl:=bK (fx w)
def I0 (w:Wrl)(r:Nat):Wrl:=gb (df (gb w) r (gb w).com.length)
def aX (w:Wrl):Nat→Wrl
 |0=>bK w
 |r+1=>I0 (aX w r) r
theorem gm {w:Wrl}(h:WOK w):WOK (gb w):=x6 _ (Nat.le_refl _) (cF h _)
theorem G2 {w:Wrl}(h:WOK w)(r:Nat):WOK (I0 w r):=gm (fU (gm h) _ _)
theorem cD {w:Wrl}(h:WOK w):∀r,WOK (aX w r)
 |0=>x6 _ (Nat.le_refl _) h
 |r+1=>G2 (cD h r) r
def eC (w:Wrl)(es:List Evt):Wrl:=es.foldl dG w
theorem kN (w:Wrl)(es:List Evt)(e:Evt):eC w (es++[e])=dG (eC w es) e:=by simp[eC]
theorem lJ {w:Wrl}(h:WOK w):∀es,WOK (eC w es):=by
 intro es
 induction es using ci with
 |h0=>exact h
 |h l x ih=>rw[kN];exact iT ih x
end Go.Proofs.YthmfppknagbkeaaGreatDoor.Am
namespace Go.Proofs.YthmfppknagbkeaaGreatDoor.Am
open Go Go.RowKit
variable {P:Program} {N:Nat} {K:Id→Prop} {σ:VSt} {Q:Exit→VSt→Prop}
def II {α:Type}(m:Nat)(fs ts:List Nat)(st:α→VSt)(p:α→Prop)(e:Exit)(σ:VSt):Prop:=
 match e with
 | .normal=>E3 m fs ts σ fun σ2=>∃a,p a∧σ2=st a
 |_=>False
theorem qQ {α:Type}{x y:Code}{m:Nat}(hK:KB m K)(fs ts:List Nat)(st:α→VSt)(p:α→Prop)(h:At P N K x (II m fs ts st p) σ)(k:∀a,p a→At P N K y Q (st a)):At P N K x (Fs (At P N K y Q) Q) σ:=by
 obtain⟨e,σ1,h1,h2⟩:=h
 refine⟨e,σ1,h1,fun hr=>?_⟩
 have h3:=h2 hr
 cases e with
 |normal=>
  obtain⟨σ2,hw,a,ha,rfl⟩:=sN hK h3
  exact qR hw (k a ha)
 |_=>exact h3.elim

end Go.Proofs.YthmfppknagbkeaaGreatDoor.Am
