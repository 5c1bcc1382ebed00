/- Runs: a run as the program hands it back, in rows of one's own. Runs: WorldNew in rows of one's own; the law FnExactWorldNew. The exact laws' own functions: marks on own rows within own rows, in families 2 and 3 (as XEB has them for 0 and 1). The law FnExactWorldNew. From a contract to a row: what a law's call leaves; how an argument reads. Arguments of the exact laws on graphs: how they read. Arguments of the exact laws on runs: how they read. -/
import Derived.WalkKit
import Derived.ProofKit
import Derived.OpenShut
import Derived.Carry
import Derived.ChangeSlices
import Derived.ChangeSame
import Derived.Test.YtgfcmhjebbncpaaRows
import Derived.Test.YtgfcmhjebbncpaaNE7
set_option linter.unusedSimpArgs false
set_option linter.unusedVariables false
set_option maxHeartbeats 1000000
namespace Go.Proofs.Ytgfcmhjebbncpaa.Am
open Go
attribute [local irreducible] Mk bC Ari d8 pN jt cf ee gx iI At am
set_option maxRecDepth 10000
theorem xf (tabs:List (List (Option Vtx)))(k:Nat)(tab:List (Option Vtx))(pss:List (List Int))(hk:tabs[k]?=some tab)(ht:tab.length=217)(hv:∀v,some v∈tab→v.parents.length≤1000000):am Try.prog 49 [.hpo 0 (some k)] [(0,.fvari 108 217 (.ob .vtx) tabs),(3,.frow 3 (.int .i64) pss)] (.ref 4) [(0,.fvari 108 217 (.ob .vtx) tabs),(3,.frow 3 (.int .i64) (pss++(aL tab).map (·.parents))),(4,.row 59 (.vtxo 3) (iG pss.length (aL tab)))]:=by
 have h:=yn tabs k tab pss hk ht hv
 unfold am at h⊢
 exact h
abbrev u5 (s:Int)(c l:List Int)(b:Int)(tabs:List (List (Option Vtx)))(xss:List (Option (List Int)))(ms:List PplM)(vss:List (List VtxO))(pss:List (List Int)):VH:=[(0,.fvari 108 217 (.ob .vtx) tabs),(1,.frowx 3 (.int .i64) xss),(2,.frow 59 (.vtxo 3) vss),(3,.frow 3 (.int .i64) pss),(4,.var 76 [.int .i32 s,.int .u32 0,.lst (.int .i64) c,.lst (.int .i64) l,.int .i64 b,.ref 5,.ref 6]),(5,.row 77 (.hp 0) ((List.range tabs.length).map some)),(6,.row 61 (.pplm 1) ms)]
abbrev AZ (c l:List Int)(b:Int)(ps:List Ppl):VH:=[(7,VB.var 26 [.nils,.nils,.int .i64 0,.nils,.nils]),(8,VB.var 26 [.ref 9,.ref 10,.int .i64 b,.nils,.ref 11]),(9,VB.row 3 (.int .i64) c),(10,VB.row 3 (.int .i64) l),(11,VB.row 61 (.pplo 3 3) (i9 0 ps))]
abbrev zN (c l:List Int)(b:Int)(ps:List Ppl)(hs:List (Option Nat)):VH:=[(7,VB.var 26 [.nils,.nils,.int .i64 0,.nils,.nils]),(8,VB.var 26 [.ref 9,.ref 10,.int .i64 b,.ref 11,.ref 12]),(9,VB.row 3 (.int .i64) c),(10,VB.row 3 (.int .i64) l),(11,VB.row 45 (.hr 2) hs),(12,VB.row 61 (.pplo 3 3) (i9 0 ps))]
def mg (s:Int)(c l:List Int)(b:Int)(tabs:List (List (Option Vtx)))(xss:List (Option (List Int)))(ms:List PplM)(ps:List Ppl):Nat→VSt
 |0=>⟨[(2,.ptr 7 0),(3,.ptr 8 0),(30,.ref 5),(31,.int .i64 tabs.length),(32,.int .i64 0)],u5 s c l b tabs xss ms [] (aS ps)++AZ c l b ps,12⟩
 |i+1=>⟨[(2,.ptr 7 0),(3,.ptr 8 0),(30,.ref 5),(31,.int .i64 tabs.length),(32,.int .i64 ((i+1:Nat):Int))],u5 s c l b tabs xss ms (iA (aS ps).length ((tabs.take (i+1)).map aL)) (aS ps++bP ((tabs.take (i+1)).map aL))++zN c l b ps ((List.range (i+1)).map some),13⟩
set_option maxHeartbeats 1000000 in
theorem wW (s:Int)(c l:List Int)(b:Int)(tabs:List (List (Option Vtx)))(xss:List (Option (List Int)))(ms:List PplM)(ps:List Ppl)(hR:Rel ps xss ms)(hc:c≠[])(hcl:c.length≤1000000)(hll:l.length≤1000000)(ht:∀t∈tabs,t.length=217∧∀v,some v∈t→v.parents.length≤1000000)(htl:tabs.length≤7)(htl1:1≤tabs.length)
  (hv:∀p∈ps,p.v.parents.length≤1000000∧p.members.length≤1000000) (hpn:ps.length≤1000000):am Try.prog 22 [.ptr 4 0] (u5 s c l b tabs xss ms [] []) (.agg [.ref 7,.ref 8,.int .i64 b,.ref 9,.ref 10])
   (u5 s c l b tabs xss ms (iA (aS ps).length (tabs.map aL)) (aS ps++bP (tabs.map aL))++[(7,.row 3 (.int .i64) c),(8,.row 3 (.int .i64) l),(9,.row 45 (.hr 2) ((List.range tabs.length).map some)),(10,.row 61 (.pplo 3 3) (i9 0 ps))]):=by
 have hC:=x9 c hc hcl
 have hP:=yQ ps xss ms hR hv hpn
 have hrl:((List.range tabs.length).map some).length=tabs.length:=by simp
 have hF:=lS 3 (aS ps)
 refine ah gk Try.func22 rfl rfl false 3 7 rfl rfl rfl rfl fun K hK hb1 hb2=>?_;simp only[aj,enc,Nat.reduceAdd]
 clear hb1 hb2
 (repeat' first|refine su ?_|refine sa fun xe hxe=>?_|refine sb (fun hq=>?_) fun hq=>?_|exact True.intro|refine cr (hC) ?_|((with_reducible refine nk [1,3] ?_);(conv=>whnf);(with_reducible refine bn (hP) ?_);conv=>whnf))
 refine al hK [] [2,3,30,31,32] (mg s c l b tabs xss ms ps) (fun i=>i≤tabs.length) (fun i=>tabs.length-i) 0 (by simp) (by simp only[hrl];(conv=>whnf);rfl) ?_
 intro i hi
 by_cases hlt:i<tabs.length
 ·have hxe:tabs[i]?=some tabs[i]:=List.getElem?_eq_getElem hlt
  have hsn:(tabs.take (i+1)).map aL=(tabs.take i).map aL++[aL tabs[i]]:=by rw[List.take_succ_eq_append_getElem hlt,List.map_append];rfl
  obtain⟨t1,t2⟩:=ht _ (List.getElem_mem hlt)
  have hxv:((List.range tabs.length).map some)[i]?=some (some i):=by rw[List.getElem?_map,List.getElem?_range hlt];rfl
  have hg1:iA (aS ps).length ((tabs.take (i+1)).map aL)=iA (aS ps).length ((tabs.take i).map aL)++[iG (aS ps++bP ((tabs.take i).map aL)).length (aL tabs[i])]:=by rw[hsn,nS,List.length_append]
  have hg2:aS ps++bP ((tabs.take (i+1)).map aL)=(aS ps++bP ((tabs.take i).map aL))++(aL tabs[i]).map (·.parents):=by rw[hsn,s7,List.append_assoc]
  have hgl:(iA (aS ps).length ((tabs.take i).map aL)).length=i:=by rw[xm,List.length_map,List.length_take];omega
  have hV:=xf tabs i _ (aS ps++bP ((tabs.take i).map aL)) hxe t1 t2
  have hF:=t8 3 (aS ps++bP ((tabs.take i).map aL)) ((aL tabs[i]).map (·.parents))
  cases i with
  |zero=>
   have hst:mg s c l b tabs xss ms ps (0+1)=⟨[(2,.ptr 7 0),(3,.ptr 8 0),(30,.ref 5),(31,.int .i64 tabs.length),(32,.int .i64 ((0+1:Nat):Int))],u5 s c l b tabs xss ms ([]++[iG (aS ps).length (aL tabs[0])]) (aS ps++(aL tabs[0]).map (·.parents))++zN c l b ps [some 0],13⟩:=by
    rw[mg,hg1,hg2]
    simp[bP,iA]
   have hs0:mg s c l b tabs xss ms ps 0=⟨[(2,.ptr 7 0),(3,.ptr 8 0),(30,.ref 5),(31,.int .i64 tabs.length),(32,.int .i64 0)],u5 s c l b tabs xss ms [] (aS ps)++AZ c l b ps,12⟩:=rfl
   have hx0:((List.range tabs.length).map some)[(0:Int).toNat]?=some (some 0):=hxv
   have e0:aS ps++bP ((tabs.take 0).map aL)=aS ps:=by simp[bP]
   rw[e0] at hV hF
   rw[hs0]
   (repeat' first|refine su ?_|refine sa fun xe hxe=>?_|refine sb (fun hq=>?_) fun hq=>?_|exact True.intro|((with_reducible refine nk [0,3] ?_);(conv=>whnf);(with_reducible refine bn (hV) ?_);conv=>whnf))
   refine⟨0+1,by omega,by omega,?_⟩
   rw[hst]
   rfl
  |succ i=>
   have hrg:(List.range (i+1+1)).map some=(List.range (i+1)).map some++[some (i+1)]:=by rw[List.range_succ,List.map_append];rfl
   have hst:mg s c l b tabs xss ms ps (i+1+1)=⟨[(2,.ptr 7 0),(3,.ptr 8 0),(30,.ref 5),(31,.int .i64 tabs.length),(32,.int .i64 ((i+1+1:Nat):Int))],u5 s c l b tabs xss ms (iA (aS ps).length ((tabs.take (i+1)).map aL)++[iG (aS ps++bP ((tabs.take (i+1)).map aL)).length (aL tabs[i+1])]) ((aS ps++bP ((tabs.take (i+1)).map aL))++(aL tabs[i+1]).map (·.parents))++zN c l b ps ((List.range (i+1)).map some++[some (iA (aS ps).length ((tabs.take (i+1)).map aL)).length]),13⟩:=by
    rw[mg,hg1,hg2,hrg,hgl]
   have hs0:mg s c l b tabs xss ms ps (i+1)=⟨[(2,.ptr 7 0),(3,.ptr 8 0),(30,.ref 5),(31,.int .i64 tabs.length),(32,.int .i64 ((i+1:Nat):Int))],u5 s c l b tabs xss ms (iA (aS ps).length ((tabs.take (i+1)).map aL)) (aS ps++bP ((tabs.take (i+1)).map aL))++zN c l b ps ((List.range (i+1)).map some),13⟩:=rfl
   have hrl2:((List.range (i+1)).map some).length=i+1:=by simp
   rw[hs0]
   clear hs0 hg1 hg2
   generalize tabs[i+1]=tab at *
   generalize hvss:iA (aS ps).length ((tabs.take (i+1)).map aL)=vss at *
   generalize aS ps++bP ((tabs.take (i+1)).map aL)=pss at *
   generalize (List.range (i+1)).map some=hs at *
   (repeat' first|refine su ?_|refine sa fun xe hxe=>?_|refine sb (fun hq=>?_) fun hq=>?_|exact True.intro|((with_reducible refine nk [0,3] ?_);(conv=>whnf);(with_reducible refine bn (hV) ?_);conv=>whnf))
   refine⟨i+1+1,by omega,by omega,?_⟩
   rw[hst]
   rfl
 ·cases i with
  |zero=>omega
  |succ i=>
   obtain hn:i+1=tabs.length:=by omega
   have hs0:mg s c l b tabs xss ms ps (i+1)=⟨[(2,.ptr 7 0),(3,.ptr 8 0),(30,.ref 5),(31,.int .i64 tabs.length),(32,.int .i64 ((i+1:Nat):Int))],u5 s c l b tabs xss ms (iA (aS ps).length (tabs.map aL)) (aS ps++bP (tabs.map aL))++zN c l b ps ((List.range tabs.length).map some),13⟩:=by
    rw[mg,List.take_of_length_le (by omega),hn]
   rw[hs0]
   clear hs0
   generalize iA (aS ps).length (tabs.map aL)=vss at *
   generalize aS ps++bP (tabs.map aL)=pss at *
   (repeat' first|refine su ?_|refine sa fun xe hxe=>?_|refine sb (fun hq=>?_) fun hq=>?_|exact True.intro)
   exact⟨rfl,rfl⟩
theorem wm (s:Int)(w:Wrl)(xss:List (Option (List Int)))(ms:List PplM)(h:ey w=true)(hR:Rel w.props xss ms):am Try.prog 22 [.ptr 4 0] (u5 s w.com w.lead w.bad (w.views.map bw) xss ms [] []) (.agg [.ref 7,.ref 8,.int .i64 w.bad,.ref 9,.ref 10])
  (u5 s w.com w.lead w.bad (w.views.map bw) xss ms (iA (aS w.props).length w.views) (aS w.props++bP w.views)++[(7,.row 3 (.int .i64) w.com),(8,.row 3 (.int .i64) w.lead),(9,.row 45 (.hr 2) ((List.range w.views.length).map some)),(10,.row 61 (.pplo 3 3) (i9 0 w.props))]):=by
 obtain⟨h1,h2,h3,h4,h5,h6⟩:=ja h
 have h7:=(aE.1 h1).2
 have hll:=(gY.1 h2).2
 have hps:=nJ h
 have hpl:=mt h4
 have hne:w.com≠[]:=fun h=>by rw[h] at h7;simp at h7
 have hc:=wW s w.com w.lead w.bad (w.views.map bw) xss ms w.props hR hne (by omega) (by omega) (fun t ht=>by
  obtain⟨g,hg,rfl⟩:=List.mem_map.1 ht
  refine⟨fx g,fun v hv=>?_⟩
  have:=(jT h g hg v (ph hv)).2
  omega) (by rw[List.length_map];omega) (by rw[List.length_map];omega) (fun p hp=>by have:=(hps p hp).2.2.2;omega) (by omega)
 rw[lY h,List.length_map] at hc
 exact hc
abbrev Ak (w:Wrl):VH:=[(2,.frow 59 (.vtxo 3) (iA (aS w.props).length w.views)),(3,.frow 3 (.int .i64) (aS w.props++bP w.views)),(4,.row 3 (.int .i64) w.com),(5,.row 3 (.int .i64) w.lead),(6,.row 45 (.hr 2) ((List.range w.views.length).map some)),(7,.row 61 (.pplo 3 3) (i9 0 w.props))]
theorem yw (c l:List Int)(b:Int)(tabs:List (List (Option Vtx))):∀k:Id,look (toH (rX 0 c l b tabs [] [])) k=look (toH (rB c l b tabs [])) k:=Ag c l b tabs []
theorem tK (c l:List Int)(b:Int)(n:Nat)(hn:n=min c.length 7)(h:dD c l b=true):am Try.prog 21 [.agg [.lst (.int .i64) c,.lst (.int .i64) l,.int .i64 b,.lst (.lst .vtx) (List.replicate n []),.lst (.int .i64) []]] [] (.tup [.ptr 4 0,.bool true]) (rX 0 c l b ((List.replicate n []).map bw) [] []):=by
 have hO:=tw c l b n hn
 simp only[h,if_true] at hO
 unfold am at hO⊢
 exact hO.out (yw _ _ _ _)
theorem y9 (c l:List Int)(b:Int)(h:dD c l b=true):am Try.prog 7 [.lst (.int .i64) c,.lst (.int .i64) l,.int .i64 b] [] (.tup [zT b,.bool true]) (Ak (cF c l b)):=by
 have hO:=tK c l b
 have hp:=mI c l b
 rw[h] at hp
 have hc:comV c=true:=by
  simp only[dD,Bool.and_eq_true] at h
  exact h.1
 have h7:=(aE.1 hc).2
 have hn:min c.length 7=(c.length:Int).toNat:=by omega
 have hW:=wm 0 _ [] [] hp (Ay [])
 dsimp only at hW
 rw[hn] at hW
 have hO:=hO (c.length:Int).toNat (by omega) h
 have hF:=lS 3 (aS []++bP (List.replicate (c.length:Int).toNat []))
 have hF2:az (VB.frow 59 (.vtxo 3) [])≤az (VB.frow 59 (.vtxo 3) (iA (aS []).length (List.replicate (c.length:Int).toNat []))):=by simp[az]
 refine ah ao Try.func7 rfl rfl false 0 4 rfl rfl rfl rfl fun K hK hb1 hb2=>?_;simp only[aj,enc,Nat.reduceAdd]
 clear hb1 hb2
 refine iC 2 (.frow 59 (.vtxo 3) []) rfl ?_
 refine iC 3 (.frow 3 (.int .i64) []) rfl ?_
 (repeat' first|refine st ?_|refine sa fun xe hxe=>?_|refine sb (fun hq=>?_) fun hq=>?_|exact True.intro)
 rw[if_neg (by omega)]
 (repeat' first|refine st ?_|refine sa fun xe hxe=>?_|refine sb (fun hq=>?_) fun hq=>?_|exact True.intro|refine cr (hO) ?_|((with_reducible refine nk [0,1,2,3] ?_);(conv=>whnf);(with_reducible refine bn (hW) ?_);conv=>whnf))
 rw[Int.toNat_natCast]
 exact⟨rfl,rfl⟩
theorem gf (pss:List (List Int))(j:Nat)(a:List Int)(k:Int)(hj:pss[j]?=some a)(hk:0≤k∧k+a.length≤1000000000):am Try.prog 10 [.hro 3 (some j),.int .i64 k] [(3,.frow 3 (.int .i64) pss)] (.int .i64 (k+a.length)) [(3,.frow 3 (.int .i64) (pss.set j (mk k a.length)))]:=by
 have hjl:j<pss.length:=(List.getElem?_eq_some_iff.1 hj).1
 refine ah ao Try.func10 rfl rfl false 0 4 rfl rfl rfl rfl fun K hK hb1 hb2=>?_;simp only[aj,enc,Nat.reduceAdd]
 clear hb1 hb2
 have h0:pss.set j (mk k 0++a.drop 0)=pss:=by
  apply List.ext_getElem?
  intro x
  rw[List.getElem?_set]
  split
  ·rename_i e
   subst e
   first|rw[if_pos hjl,hj]|rw[hj]
   simp[mk]
  ·rfl
 (repeat' first|refine st ?_|refine sa fun xe hxe=>?_|refine sb (fun hq=>?_) fun hq=>?_|exact True.intro)
 refine al hK [] [0,1,4,5] (fun i:Nat=>⟨[(0,.hro 3 (some j)),(1,.int .i64 (k+i)),(4,.int .i64 0),(5,.int .i64 i)],[(3,.frow 3 (.int .i64) (pss.set j (mk k i++a.drop i)))],4⟩) (fun i=>i≤a.length) (fun i=>a.length-i) 0 (by simp) (by rw[h0];simp;rfl) ?_
 intro i hi
 have hlen:(mk k i++a.drop i).length=a.length:=by simp[dH];omega
 have hjr:(pss.set j (mk k i++a.drop i))[j]?=some (mk k i++a.drop i):=List.getElem?_set_self hjl
 by_cases hlt:i<a.length
 ·have hs:(pss.set j (mk k i++a.drop i)).set j ((mk k i++a.drop i).set i (k+i))=pss.set j (mk k (i+1)++a.drop (i+1)):=by
   rw[fg _ _ _ (dH k i) hlt,rO,List.set_set]
  generalize mk k i++a.drop i=row at *
  generalize pss.set j row=ps at *
  (repeat' first|refine st ?_|refine sa fun xe hxe=>?_|refine sb (fun hq=>?_) fun hq=>?_|exact True.intro)
  refine⟨i+1,by omega,by omega,?_⟩
  rw[←hs,show k+((i+1:Nat):Int)=k+i+1 by omega]
  rfl
 ·obtain rfl:i=a.length:=by omega
  rw[show mk k a.length++a.drop a.length=mk k a.length by simp] at *
  generalize pss.set j (mk k a.length)=ps at *
  (repeat' first|refine st ?_|refine sa fun xe hxe=>?_|refine sb (fun hq=>?_) fun hq=>?_|exact True.intro)
  exact⟨rfl,rfl⟩
theorem vU (E:TypeId)(a:List (List VtxO))(j:Nat)(b:List VtxO):az (VB.frow E (.vtxo 3) a)≤az (VB.frow E (.vtxo 3) (a.set j b)):=by simp[az]
theorem lw (vss:List (List VtxO))(w:Nat)(vs:List VtxO)(hw:vss[w]?=some vs)(pss:List (List Int))(g:List Vtx)(k:Int)(hr:VsR pss vs g)(hk:0≤k∧k+cV g≤1000000000):am Try.prog 52 [.hro 2 (some w),.int .i64 k] [(2,.frow 59 (.vtxo 3) vss),(3,.frow 3 (.int .i64) pss)] (.int .i64 (dA vs k pss).1) [(2,.frow 59 (.vtxo 3) (vss.set w (dA vs k pss).2.2)),(3,.frow 3 (.int .i64) (dA vs k pss).2.1)]:=by
 have hwl:w<vss.length:=(List.getElem?_eq_some_iff.1 hw).1
 refine ah ao Try.func52 rfl rfl false 0 4 rfl rfl rfl rfl fun K hK hb1 hb2=>?_;simp only[aj,enc,Nat.reduceAdd]
 clear hb1 hb2
 have h0:vss.set w ((dA (vs.take 0) k pss).2.2++vs.drop 0)=vss:=by
  apply List.ext_getElem?
  intro x
  rw[List.getElem?_set]
  split
  ·rename_i e
   subst e
   first|rw[if_pos hwl,hw]|rw[hw]
   simp[dA]
  ·rfl
 (repeat' first|refine st ?_|refine sa fun xe hxe=>?_|refine sb (fun hq=>?_) fun hq=>?_|exact True.intro)
 refine al hK [] [0,1,5] (fun i:Nat=>⟨[(0,.hro 2 (some w)),(1,.int .i64 (dA (vs.take i) k pss).1),(5,.int .i64 i)],[(2,.frow 59 (.vtxo 3) (vss.set w ((dA (vs.take i) k pss).2.2++vs.drop i))),(3,.frow 3 (.int .i64) (dA (vs.take i) k pss).2.1)],4⟩) (fun i=>i≤vs.length) (fun i=>vs.length-i) 0 (by simp) (by rw[h0];simp[dA];rfl) ?_
 intro i hi
 have hgl:=hr.len
 have hcl:=tL g
 by_cases hlt:i<vs.length
 ·have hv:g[i]?=some g[i]:=List.getElem?_eq_getElem (by omega)
  obtain⟨j,y,h1,h2,h3,h4,h5,h6,h7,h8⟩:=uB (k:=k) hr hv rfl
  have hc:=sg hv
  have hc2:=xr g (i+1)
  have hll:((dA (vs.take i) k pss).2.2++vs.drop i).length=vs.length:=by simp[jV];omega
  have hgw:(vss.set w ((dA (vs.take i) k pss).2.2++vs.drop i))[w]?=some ((dA (vs.take i) k pss).2.2++vs.drop i):=List.getElem?_set_self hwl
  have hss:∀b,(vss.set w ((dA (vs.take i) k pss).2.2++vs.drop i)).set w b=vss.set w b:=fun b=>List.set_set ..
  have hpl:(vss.set w ((dA (vs.take i) k pss).2.2++vs.drop i)).length=vss.length:=List.length_set
  generalize hr':dA (vs.take (i+1)) k pss=r' at *
  generalize dA (vs.take i) k pss=r at *
  obtain⟨r1,r2,r3⟩:=r
  simp only at h1 h2 h4 h5 h6 h7 h8 hll hgw hss hpl⊢
  generalize r3++vs.drop i=row at *
  generalize g[i]=v at *
  generalize vss.set w row=ps at *
  have hti:(i:Int).toNat<row.length:=by simp;omega
  have hwp:w<ps.length:=by omega
  (repeat' first|refine st ?_|refine sa fun xe hxe=>?_|refine sb (fun hq=>?_) fun hq=>?_|exact True.intro)
  obtain rfl:=Option.some.inj ((List.getElem?_set_self hwp).symm.trans hxe)
  clear hxe
  dsimp only
  have hl1:(row.set (i:Int).toNat (⟨r1,v.author,some j,v.digest⟩:VtxO)).length=row.length:=List.length_set
  have hx1:(row.set (i:Int).toNat (⟨r1,v.author,some j,v.digest⟩:VtxO))[(i:Int).toNat]?=some ⟨r1,v.author,some j,v.digest⟩:=List.getElem?_set_self hti
  have hs1:∀x:VtxO,(row.set (i:Int).toNat (⟨r1,v.author,some j,v.digest⟩:VtxO)).set (i:Int).toNat x=row.set i x:=fun x=>by rw[List.set_set,Int.toNat_natCast]
  generalize row.set (i:Int).toNat (⟨r1,v.author,some j,v.digest⟩:VtxO)=row1 at *
  have hw1:(ps.set w row1)[w]?=some row1:=List.getElem?_set_self hwp
  have hp1:∀b,(ps.set w row1).set w b=vss.set w b:=fun b=>by rw[List.set_set,hss]
  have hwp1:w<(ps.set w row1).length:=by rw[List.length_set];exact hwp
  generalize ps.set w row1=ps1 at *
  (repeat' first|refine st ?_|refine sa fun xe hxe=>?_|refine sb (fun hq=>?_) fun hq=>?_|exact True.intro)
  obtain rfl:=Option.some.inj ((List.getElem?_set_self hwp1).symm.trans hxe)
  clear hxe
  dsimp only
  have hl2:(row1.set (i:Int).toNat (⟨r1,r1+1,some j,v.digest⟩:VtxO)).length=row.length:=by rw[List.length_set,hl1]
  have hx2:(row1.set (i:Int).toNat (⟨r1,r1+1,some j,v.digest⟩:VtxO))[(i:Int).toNat]?=some ⟨r1,r1+1,some j,v.digest⟩:=List.getElem?_set_self (by omega)
  have hs2:∀x:VtxO,(row1.set (i:Int).toNat (⟨r1,r1+1,some j,v.digest⟩:VtxO)).set (i:Int).toNat x=row.set i x:=fun x=>by rw[List.set_set,hs1]
  generalize row1.set (i:Int).toNat (⟨r1,r1+1,some j,v.digest⟩:VtxO)=row2 at *
  have hw2:(ps1.set w row2)[w]?=some row2:=List.getElem?_set_self hwp1
  have hp2:∀b,(ps1.set w row2).set w b=vss.set w b:=fun b=>by rw[List.set_set,hp1]
  generalize ps1.set w row2=ps2 at *
  have hM:=gf r2 j y (r1+1+1) h2 (by omega)
  rw[show r1+1+1=r1+2 by omega] at *
  have hF:=nj 3 r2 j (mk (r1+2) y.length)
  (repeat' first|refine st ?_|refine sa fun xe hxe=>?_|refine sb (fun hq=>?_) fun hq=>?_|exact True.intro|refine co (hM) ?_)
  refine⟨i+1,by omega,by omega,?_⟩
  rw[hr',h6,h7,h8,←hp2,show r1+3+(y.length:Int)=r1+2+y.length+1 by omega,←hs2]
  rfl
 ·obtain rfl:i=vs.length:=by omega
  rw[List.take_of_length_le (Nat.le_refl _),List.drop_eq_nil_of_le (Nat.le_refl _),List.append_nil] at *
  have hlm:=jV vs k pss
  have hgw:(vss.set w (dA vs k pss).2.2)[w]?=some (dA vs k pss).2.2:=List.getElem?_set_self hwl
  generalize dA vs k pss=r at *
  (repeat' first|refine st ?_|refine sa fun xe hxe=>?_|refine sb (fun hq=>?_) fun hq=>?_|exact True.intro)
  exact⟨rfl,rfl⟩
theorem kG (hs:List (Option Nat))(pss:List (List Int))(vss:List (List VtxO))(gs:List (List Vtx))(k:Int)(hr:GsR pss vss hs gs)(hn:(hs.map (·.getD 0)).Nodup)(hk:0≤k∧k+cG gs≤1000000000)(hl:hs.length≤1048576):am Try.prog 25 [.ref 4,.int .i64 k] [(2,.frow 59 (.vtxo 3) vss),(3,.frow 3 (.int .i64) pss),(4,.row 45 (.hr 2) hs)] (.int .i64 (cI hs k pss vss).1) [(2,.frow 59 (.vtxo 3) (cI hs k pss vss).2.2),(3,.frow 3 (.int .i64) (cI hs k pss vss).2.1),(4,.row 45 (.hr 2) hs)]:=by
 refine ah ao Try.func25 rfl rfl false 1 5 rfl rfl rfl rfl fun K hK hb1 hb2=>?_;simp only[aj,enc,Nat.reduceAdd]
 clear hb1 hb2
 (repeat' first|refine st ?_|refine sa fun xe hxe=>?_|refine sb (fun hq=>?_) fun hq=>?_|exact True.intro)
 refine al hK [] [0,1,5] (fun i:Nat=>⟨[(0,.ref 4),(1,.int .i64 (cI (hs.take i) k pss vss).1),(5,.int .i64 i)],[(2,.frow 59 (.vtxo 3) (cI (hs.take i) k pss vss).2.2),(3,.frow 3 (.int .i64) (cI (hs.take i) k pss vss).2.1),(4,.row 45 (.hr 2) hs)],5⟩) (fun i=>i≤hs.length) (fun i=>hs.length-i) 0 (by simp) rfl ?_
 intro i hi
 have hgl:=hr.len
 by_cases hlt:i<hs.length
 ·have hv:gs[i]?=some gs[i]:=List.getElem?_eq_getElem (by omega)
  obtain⟨j,vs,g',h1,h2,h3,h4,h5,h6,h7,h8⟩:=t9 (k:=k) hr hn hv rfl
  have hc:=sk hv
  have hc2:=xA gs (i+1)
  generalize hr':cI (hs.take (i+1)) k pss vss=r' at *
  generalize cI (hs.take i) k pss vss=r at *
  obtain⟨r1,r2,r3⟩:=r
  simp only at h2 h3 h5 h6 h7 h8⊢
  have hM:=lw r3 j vs h2 r2 g' r1 h3 (by omega)
  have hF0:=vU 59 r3 j (dA vs r1 r2).2.2
  have hF1:=gU 3 (fp vs r1 r2)
  generalize dA vs r1 r2=m at *
  (repeat' first|refine st ?_|refine sa fun xe hxe=>?_|refine sb (fun hq=>?_) fun hq=>?_|exact True.intro|refine co (hM) ?_)
  refine⟨i+1,by omega,by omega,?_⟩
  rw[hr',h6,h7,h8]
  rfl
 ·obtain rfl:i=hs.length:=by omega
  rw[List.take_of_length_le (Nat.le_refl _)] at *
  generalize cI hs k pss vss=r at *
  (repeat' first|refine st ?_|refine sa fun xe hxe=>?_|refine sb (fun hq=>?_) fun hq=>?_|exact True.intro)
  exact⟨rfl,rfl⟩
theorem ju (vs:List PplO)(pss:List (List Int))(g:List Ppl)(k:Int)(hr:PsR pss vs g)(hk:0≤k∧k+cP g≤1000000000):am Try.prog 26 [.ref 4,.int .i64 k] [(3,.frow 3 (.int .i64) pss),(4,.row 61 (.pplo 3 3) vs)] (.int .i64 (fb vs k pss).1) [(3,.frow 3 (.int .i64) (fb vs k pss).2.1),(4,.row 61 (.pplo 3 3) (fb vs k pss).2.2)]:=by
 refine ah ao Try.func26 rfl rfl false 1 5 rfl rfl rfl rfl fun K hK hb1 hb2=>?_;simp only[aj,enc,Nat.reduceAdd]
 clear hb1 hb2
 (repeat' first|refine st ?_|refine sa fun xe hxe=>?_|refine sb (fun hq=>?_) fun hq=>?_|exact True.intro)
 refine al hK [] [0,1,5] (fun i:Nat=>⟨[(0,.ref 4),(1,.int .i64 (fb (vs.take i) k pss).1),(5,.int .i64 i)],[(3,.frow 3 (.int .i64) (fb (vs.take i) k pss).2.1),(4,.row 61 (.pplo 3 3) ((fb (vs.take i) k pss).2.2++vs.drop i))],5⟩) (fun i=>i≤vs.length) (fun i=>vs.length-i) 0 (by simp) (by simp[fb];rfl) ?_
 intro i hi
 have hgl:=hr.len
 have hcl:=tp g
 by_cases hlt:i<vs.length
 ·have hv:g[i]?=some g[i]:=List.getElem?_eq_getElem (by omega)
  obtain⟨j,y,j2,y2,h1,h2,h2',h3,h3',h4,h5,h6,h7,h8⟩:=uY (k:=k) hr hv rfl
  have hc:=re hv
  have hc2:=xw g (i+1)
  have hll:((fb (vs.take i) k pss).2.2++vs.drop i).length=vs.length:=by simp[jK];omega
  generalize hr':fb (vs.take (i+1)) k pss=r' at *
  generalize fb (vs.take i) k pss=r at *
  obtain⟨r1,r2,r3⟩:=r
  simp only at h1 h2 h2' h4 h5 h6 h7 h8 hll⊢
  generalize r3++vs.drop i=row at *
  generalize g[i]=v at *
  have hti:(i:Int).toNat<row.length:=by simp;omega
  (repeat' first|refine st ?_|refine sa fun xe hxe=>?_|refine sb (fun hq=>?_) fun hq=>?_|exact True.intro)
  rename_i ya hya
  obtain rfl:=Option.some.inj ((List.getElem?_set_self hti).symm.trans hya)
  obtain rfl:=Option.some.inj ((List.getElem?_set_self (by rw[List.length_set];exact hti)).symm.trans hxe)
  clear hya hxe
  dsimp only
  rw[List.set_set]
  have hg2:(i:Int).toNat<(row.set (i:Int).toNat (⟨⟨r1,r1+1,some j,v.v.digest⟩,some j2⟩:PplO)).length:=by rw[List.length_set];exact hti
  have hg3:(row.set (i:Int).toNat (⟨⟨r1,r1+1,some j,v.v.digest⟩,some j2⟩:PplO))[(i:Int).toNat]?=some ⟨⟨r1,r1+1,some j,v.v.digest⟩,some j2⟩:=List.getElem?_set_self hti
  have hg4:∀x:PplO,(row.set (i:Int).toNat (⟨⟨r1,r1+1,some j,v.v.digest⟩,some j2⟩:PplO)).set (i:Int).toNat x=row.set i x:=fun x=>by rw[List.set_set,Int.toNat_natCast]
  generalize row.set (i:Int).toNat (⟨⟨r1,r1+1,some j,v.v.digest⟩,some j2⟩:PplO)=row2 at *
  have hM:=gf r2 j y (r1+1+1) h2 (by omega)
  rw[show r1+1+1=r1+2 by omega] at *
  have hF:=nj 3 r2 j (mk (r1+2) y.length)
  (repeat(any_goals(first|refine st ?_|refine sa fun xe hxe=>?_|refine sb (fun hq=>?_) fun hq=>?_|refine co (hM) ?_|exact True.intro)))
  obtain rfl:=Option.some.inj ((List.getElem?_set_self hg2).symm.trans hxe)
  clear hxe hM hF
  dsimp only
  rw[hg4]
  have hM:=gf (r2.set j (mk (r1+2) y.length)) j2 y2 (r1+2+y.length+1) h2' (by omega)
  rw[show r1+3+(y.length:Int)=r1+2+y.length+1 by omega] at *
  have hF:=nj 3 (r2.set j (mk (r1+2) y.length)) j2 (mk (r1+2+y.length+1) y2.length)
  generalize r2.set j (mk (r1+2) y.length)=r4 at *
  (repeat' first|refine st ?_|refine sa fun xe hxe=>?_|refine sb (fun hq=>?_) fun hq=>?_|exact True.intro|refine co (hM) ?_)
  refine⟨i+1,by omega,by omega,?_⟩
  rw[hr',h6,h7,h8]
  rfl
 ·obtain rfl:i=vs.length:=by omega
  rw[List.take_of_length_le (Nat.le_refl _),List.drop_eq_nil_of_le (Nat.le_refl _),List.append_nil] at *
  have hlm:=jK vs k pss
  generalize fb vs k pss=r at *
  (repeat' first|refine st ?_|refine sa fun xe hxe=>?_|refine sb (fun hq=>?_) fun hq=>?_|exact True.intro)
  exact⟨rfl,rfl⟩
theorem pL (a b:List Int)(bad:Int)(vss:List (List VtxO))(pss:List (List Int))(hs:List (Option Nat))(ps:List PplO)(gs:List (List Vtx))(qs:List Ppl)(k:Int)(h:WO vss pss hs ps gs qs)(hl:hs.length≤1048576)(hk:0≤k∧k+(a.length+b.length+cG gs+cP qs:Nat)≤1000000000):
  ∃x:(Int×List (List Int)×List (List VtxO))×(Int×List (List Int)×List PplO),(x.1=cI hs (k+a.length+b.length) pss vss∧x.2=fb ps x.1.1 x.1.2.1)∧am Try.prog 11 [zT bad,.int .i64 k] [(2,.frow 59 (.vtxo 3) vss),(3,.frow 3 (.int .i64) pss),(4,.row 3 (.int .i64) a),(5,.row 3 (.int .i64) b),(6,.row 45 (.hr 2) hs),(7,.row 61 (.pplo 3 3) ps)]
   (.int .i64 x.2.1) [(2,.frow 59 (.vtxo 3) x.1.2.2),(3,.frow 3 (.int .i64) x.2.2.1),(4,.row 3 (.int .i64) (mk k a.length)),(5,.row 3 (.int .i64) (mk (k+a.length) b.length)),(6,.row 45 (.hr 2) hs),(7,.row 61 (.pplo 3 3) x.2.2.2)]:=by
 refine⟨(cI hs (k+a.length+b.length) pss vss,fb ps (cI hs (k+a.length+b.length) pss vss).1 (cI hs (k+a.length+b.length) pss vss).2.1),⟨rfl,rfl⟩,?_⟩
 obtain⟨h1,h2,h3,-,-⟩:=h.mark (k+a.length+b.length)
 have hG:=kG hs pss vss gs (k+a.length+b.length) h.g h.hn (by omega) hl
 have hP:=ju ps (cI hs (k+a.length+b.length) pss vss).2.1 qs (cI hs (k+a.length+b.length) pss vss).1 h1 (by omega)
 have hF0:az (VB.frow 59 (.vtxo 3) vss)≤az (VB.frow 59 (.vtxo 3) (cI hs (k+a.length+b.length) pss vss).2.2):=by
  have key:∀(hs:List (Option Nat)) (k:Int) (pss:List (List Int)) (vss:List (List VtxO)),(cI hs k pss vss).2.2.length=vss.length:=by
   intro hs
   induction hs with
   |nil=>intros;rfl
   |cons x l ih=>intro k pss vss;simp only[cI];rw[ih,List.length_set]
  simp[az,key]
 have hF1:=gU 3 (ic hs (k+a.length+b.length) pss vss)
 have hF2:=gU 3 (fC ps (cI hs (k+a.length+b.length) pss vss).1 (cI hs (k+a.length+b.length) pss vss).2.1)
 generalize cI hs (k+a.length+b.length) pss vss=x at *
 generalize fb ps x.1 x.2.1=y at *
 refine ah ao Try.func11 rfl rfl false 4 8 rfl rfl rfl rfl fun K hK hb1 hb2=>?_;simp only[aj,enc,Nat.reduceAdd]
 clear hb1 hb2
 (repeat' first|refine st ?_|refine sa fun xe hxe=>?_|refine sb (fun hq=>?_) fun hq=>?_|exact True.intro|refine co (hG) ?_|refine co (hP) ?_|((with_reducible refine m7 ?_);(conv=>whnf);(first|with_reducible refine bn (gm _ _ (by omega)) ?_);conv=>whnf))
 exact⟨rfl,rfl⟩
theorem qm (k:Int):am Try.prog 10 [.lst (.int .i64) [],.int .i64 k] [] (.int .i64 k) []:=by
 refine ah ao Try.func10 rfl rfl false 0 4 rfl rfl rfl rfl fun K hK hb1 hb2=>?_;simp only[aj,enc,Nat.reduceAdd]
 (repeat' first|refine st ?_|refine sa fun xe hxe=>?_|refine sb (fun hq=>?_) fun hq=>?_|exact True.intro)
 refine al hK [] [0,1,4,5] (fun _:Unit=>⟨[(0,.lst (.int .i64) []),(1,.int .i64 k),(4,.int .i64 0),(5,.int .i64 0)],[],4⟩) (fun _=>True) (fun _=>0) () trivial rfl ?_
 rintro⟨⟩ _
 (repeat' first|refine st ?_|refine sa fun xe hxe=>?_|refine sb (fun hq=>?_) fun hq=>?_|exact True.intro)
 ·simp at hq
 ·exact⟨rfl,rfl⟩
theorem kw (k:Int):am Try.prog 25 [.lst (.int .i64) [],.int .i64 k] [] (.int .i64 k) []:=by
 refine ah ao Try.func25 rfl rfl false 0 4 rfl rfl rfl rfl fun K hK hb1 hb2=>?_;simp only[aj,enc,Nat.reduceAdd]
 (repeat' first|refine st ?_|refine sa fun xe hxe=>?_|refine sb (fun hq=>?_) fun hq=>?_|exact True.intro)
 refine al hK [] [0,1,5] (fun _:Unit=>⟨[(0,.lst (.int .i64) []),(1,.int .i64 k),(5,.int .i64 0)],[],4⟩) (fun _=>True) (fun _=>0) () trivial rfl ?_
 rintro⟨⟩ _
 (repeat' first|refine st ?_|refine sa fun xe hxe=>?_|refine sb (fun hq=>?_) fun hq=>?_|exact True.intro)
 ·simp at hq
 ·exact⟨rfl,rfl⟩
theorem jx (k:Int):am Try.prog 26 [.lst (.int .i64) [],.int .i64 k] [] (.int .i64 k) []:=by
 refine ah ao Try.func26 rfl rfl false 0 4 rfl rfl rfl rfl fun K hK hb1 hb2=>?_;simp only[aj,enc,Nat.reduceAdd]
 (repeat' first|refine st ?_|refine sa fun xe hxe=>?_|refine sb (fun hq=>?_) fun hq=>?_|exact True.intro)
 refine al hK [] [0,1,5] (fun _:Unit=>⟨[(0,.lst (.int .i64) []),(1,.int .i64 k),(5,.int .i64 0)],[],4⟩) (fun _=>True) (fun _=>0) () trivial rfl ?_
 rintro⟨⟩ _
 (repeat' first|refine st ?_|refine sa fun xe hxe=>?_|refine sb (fun hq=>?_) fun hq=>?_|exact True.intro)
 ·simp at hq
 ·exact⟨rfl,rfl⟩
abbrev xl:V:=.agg [.lst (.int .i64) [],.lst (.int .i64) [],.int .i64 0,.lst (.int .i64) [],.lst (.int .i64) []]
theorem oc (k:Int):am Try.prog 11 [xl,.int .i64 k] [] (.int .i64 k) []:=by
 refine ah ao Try.func11 rfl rfl false 0 4 rfl rfl rfl rfl fun K hK hb1 hb2=>?_;simp only[aj,enc,Nat.reduceAdd]
 clear hb1 hb2
 (repeat' first|refine st ?_|refine sa fun xe hxe=>?_|refine sb (fun hq=>?_) fun hq=>?_|exact True.intro|refine cr (qm _) ?_|refine cr (kw _) ?_|refine cr (jx _) ?_)
 exact⟨rfl,rfl⟩
theorem sC:am Try.prog 8 [xl,xl] [] (.bool true) []:=by
 have h:=lP ⟨[],[],0,[],[]⟩
 unfold am at h⊢
 exact h
theorem oG (k:Int)(hk:0≤k∧k≤1000000000):am Try.prog 12 [xl,.int .i64 k] [] (.int .i64 k) []:=by
 have h:=jl ⟨[],[],0,[],[]⟩ k (by simp) (by simp[cW,cG,cP];omega)
 have e:cW ⟨[],[],0,[],[]⟩=0:=rfl
 have e2:AS k ⟨[],[],0,[],[]⟩=⟨[],[],0,[],[]⟩:=rfl
 rw[e,e2,show k+((0:Nat):Int)=k by omega] at h
 unfold am at h⊢
 exact h
set_option maxHeartbeats 16000000 in
theorem qi (c l:List Int)(b:Int):am Try.prog 3 [.lst (.int .i64) c,.lst (.int .i64) l,.int .i64 b] [] (.bool true) []:=by
 have hS:=yF c l b
 have hI:=zm c l b
 refine ah ao Try.func3 rfl rfl false 0 4 rfl rfl rfl rfl fun K hK hb1 hb2=>?_;simp only[aj,enc,Nat.reduceAdd]
 clear hb1 hb2
 by_cases hc:1048576<(c.length:Int)
 ·(repeat' first|refine st ?_|refine sa fun xe hxe=>?_|refine sb (fun hq=>?_) fun hq=>?_|exact True.intro)
  exact⟨rfl,rfl⟩
 by_cases hl:1048576<(l.length:Int)
 ·(repeat' first|refine st ?_|refine sa fun xe hxe=>?_|refine sb (fun hq=>?_) fun hq=>?_|exact True.intro)
  exact⟨rfl,rfl⟩
 have hS:=hS (by omega)
 cases hn:dD c l b
 ·rw[hn] at hS hI
  simp only[Bool.false_eq_true,if_false] at hS hI
  (repeat' first|refine st ?_|refine sa fun xe hxe=>?_|refine sb (fun hq=>?_) fun hq=>?_|exact True.intro|refine cr (hS) ?_|refine cr (hI) ?_|refine cr (fo _) ?_|refine cr (sC) ?_|refine cr (oc _) ?_|((with_reducible refine eK ?_);(conv=>whnf);(first|with_reducible refine bn (lg _ (by omega)) ?_|with_reducible refine bn (oG _ (by omega)) ?_);conv=>whnf)|((with_reducible refine m7 ?_);(conv=>whnf);(first|with_reducible refine bn (gm _ _ (by omega)) ?_);conv=>whnf))
  all_goals first|(exact⟨rfl,rfl⟩)|exact absurd rfl hq|exact absurd trivial hq|cases hq
 ·rw[hn] at hS hI
  simp only[if_true] at hS hI
  have hO:=y9 c l b hn
  have hc7:c.length≤7:=by
   simp only[dD,Bool.and_eq_true] at hn
   exact(aE.1 hn.1).2.2
  have hE:=lP (cF c l b)
  have hW:=xZ (cF c l b).views (cF c l b).props
  have hd1:=hW.readG
  have hd2:=hW.readP
  have hcG:cG (cF c l b).views=0:=by
   show cG (List.replicate c.length [])=0
   generalize c.length=n
   induction n with
   |zero=>rfl
   |succ n ih=>simp only[List.replicate_succ,cG,List.map_cons,List.sum_cons] at ih⊢;rw[ih];rfl
  have hcP:cP (cF c l b).props=0:=rfl
  obtain⟨⟨x,y⟩,⟨hx,hy⟩,hM⟩:=pL c l b _ _ _ _ _ _ 1 hW (by simp[cF];omega) (by rw[hcG,hcP];omega)
  obtain⟨m1,m2,m3,m4,m5⟩:=hW.mark (1+c.length+l.length)
  dsimp only at hx hy hM m3
  rw[←hx,←hy] at m3 m4
  rw[←hx,←hy] at m5
  have hH:=jl (cF c l b) 1 (by simp[cF];omega) (by unfold cW;rw[hcG,hcP];simp[cF];omega)
  have hH:am Try.prog 12 [.agg [.lst (.int .i64) (mk 1 c.length),.lst (.int .i64) (mk (1+c.length) l.length),.int .i64 b,.lst (.lst .vtx) (e8 (1+c.length+l.length) (cF c l b).views),.lst .ppl (fm (1+c.length+l.length+cG (cF c l b).views) (cF c l b).props)],.int .i64 1] [] (.int .i64 (1+cW (cF c l b))) []:=hH
  have hy2:y.1=1+cW (cF c l b):=by
   rw[m3,cW]
   show _=1+((c.length+l.length+cG (cF c l b).views+cP (cF c l b).props:Nat):Int)
   omega
  have hF1:az (VB.frow 3 (.int .i64) (aS (cF c l b).props++bP (cF c l b).views))≤az (VB.frow 3 (.int .i64) y.2.1):=by
   refine gU _ ?_
   rw[hy,fC,hx,ic]
  have hF0:az (VB.frow 59 (.vtxo 3) (iA (aS (cF c l b).props).length (cF c l b).views))≤az (VB.frow 59 (.vtxo 3) x.2.2):=by
   rw[hx]
   have key:∀(hs:List (Option Nat)) (k:Int) (pss:List (List Int)) (vss:List (List VtxO)),(cI hs k pss vss).2.2.length=vss.length:=by
    intro hs
    induction hs with
    |nil=>intros;rfl
    |cons x l ih=>intro k pss vss;simp only[cI];rw[ih,List.length_set]
   simp[az,key]
  rw[hy2] at hM
  have e1:(cF c l b).com=c:=rfl
  have e2:(cF c l b).lead=l:=rfl
  have e3:(cF c l b).bad=b:=rfl
  simp only[Ak,dT,e1,e2,e3] at hO hS hI hE
  generalize cW (cF c l b)=cw at *
  generalize hvs:(cF c l b).views=vs at *
  generalize hps:(cF c l b).props=ps at *
  generalize e8 (1+c.length+l.length) vs=vs' at *
  generalize fm (1+c.length+l.length+cG vs) ps=ps' at *
  generalize iA (aS ps).length vs=vss at *
  generalize aS ps++bP vs=pss at *
  generalize (List.range vs.length).map some=hh at *
  generalize i9 0 ps=pso at *
  clear hx hy m1 m2 hW hvs hps e1 e2 e3
  (repeat' first|refine st ?_|refine sa fun xe hxe=>?_|refine sb (fun hq=>?_) fun hq=>?_|exact True.intro|refine cr (hS) ?_|((with_reducible refine eK ?_);(conv=>whnf);(first|with_reducible refine bn (lg _ (by omega)) ?_);conv=>whnf))
  refine cr hO ?_
  (repeat' first|refine st ?_|refine sa fun xe hxe=>?_|refine sb (fun hq=>?_) fun hq=>?_|exact True.intro|refine cr (hI) ?_|refine cr (hE) ?_|refine cr (fo _) ?_|((with_reducible refine eK ?_);(conv=>whnf);(first|with_reducible refine bn (lg _ (by omega)) ?_);conv=>whnf)|refine co (hM) ?_|((with_reducible refine m7 ?_);(conv=>whnf);(first|with_reducible refine bn (gm _ _ (by omega)) ?_);conv=>whnf)|((with_reducible refine yR ?_);(conv=>whnf))|((first|with_reducible refine bn (hE) ?_|with_reducible refine bn (hH) ?_);conv=>whnf))
  all_goals first|(exact⟨rfl,rfl⟩)|exact absurd rfl hq|exact absurd trivial hq|cases hq
end Go.Proofs.Ytgfcmhjebbncpaa.Am
namespace Go.Proofs.Ytgfcmhjebbncpaa.Am
open Go Go.RowKit Go.ChangeShapes Go.WideShapes Go.ChangeAt
section
variable {H:Type} {enc:TypeId×Value→H} {P:Program}
theorem qk {f:Func}{s:ChangeSpec}{apart fresh handsOn again:Bool}{W W':World}{args:Array Value}{v:Value}{ds gs:List (DataW H)}{before pa pv:List MemPlace}
  (hW:DataW.Whole enc P f.params.toList s.vars apart W args.toList ds gs before)
  (hres:∀(b:Nat) (sp:Nat→Bool) (hd:Bool),DataW.TrodAll enc P W' b sp hd f.resultTypes.toList (v.resultList f.resultTypes.size) (s.fn H (ds++gs)).results [])
  (hargs:∀sp:Nat→Bool,(∀p∈before,sp p.block=true)→DataW.TrodAll enc P W' 0 sp true f.params.toList args.toList (s.fn H (ds++gs)).args pa)
  (hvars:∀sp:Nat→Bool,(∀p∈before,sp p.block=true)→DataW.TrodVars enc P W' sp s.vars (s.fn H (ds++gs)).vars pv)
  (hps:before=pa++pv) (hb:Below W.heap.size W W')
  (hok:∀(j:Nat) (t:TypeId) (r:Value),f.resultTypes[j]?=some t→(v.resultList f.resultTypes.size)[j]?=some r→Value.okWide P W' .any 0 t r):
  s.post enc P f apart fresh handsOn again W args v W':=by
 have hlt:∀p∈before,p.block<W.heap.size:=fun p hp=>hW.lt p hp
 have hold:∀p∈before,(fun b=>decide (b<W.heap.size)) p.block=true:=fun p hp=>by simpa using hlt p hp
 refine⟨ds,gs,before,[],pa,pv,hW,hres _ _ _,hargs _ hold,hvars _ hold,World.keptBut_mono (fun p hp=>⟨hp,?_⟩) (hb.frame (· ∈before)),fun _=>?_⟩
 ·rw[hps,List.mem_append] at hp
  exact Or.inr hp
 ·obtain⟨_,_,_,_,_,hz,hn⟩:=hW
  refine⟨hok,_,_,([]++pa)++pv,⟨[]++pa,pv,trodAll_append (hargs _ (fun _ _=>rfl)) (hres _ _ _),hvars _ (fun _ _=>rfl),rfl,?_,?_⟩,?_⟩
  ·intro b off hp
   have hin:MemPlace.cell b off∈before:=by rw[hps];simpa using hp
   rw[hb.frozen (hlt _ hin)]
   exact hz b off hin
  ·intro ha
   have:=hn ha
   rw[hps] at this
   simpa using this
  ·intro p hp _
   rw[hps]
   simpa using hp
end
theorem sB {P:Program}{f:FuncId}{vs:List V}(h:am P f vs [] (.bool true) []){w:World}{args:Array Value}(hl:(ab vs).length=args.size)
  (hr:∀i,i<(ab vs).length→Rep (fun k=>k<w.heap.size) w ((ab vs).getD i .undef) (args.getD i undef))
  (hg:∀g x,look Gl g=some x→g<w.heap.size∧∃ad,w.cell? ⟨g,0,none⟩=some (.iface x.1 (.pointer (some ad))):=by intro g x h;cases h):
  Calls P f args w fun e w'=>e= .returned (.bool true)∧Below w.heap.size w w':=by
 have hno:∀k,¬sM (fun _=>⟨0,0,0,0⟩) (toH []) k:=by
  rintro k ⟨b,x,hb,-⟩
  cases hb
 have hs:Sim P w (sM (fun _=>⟨0,0,0,0⟩) (toH [])) (fun _=>True) 0 (fun _=>⟨0,0,0,0⟩) [] (toH []) gj w:=by
  refine⟨fun _ _=>trivial,fun _ _=>trivial,Fr.refl _ _,rfl,rfl,?_,?_,?_,?_,?_⟩
  ·intro k d hk;cases hk
  ·intro b x hx;cases hx
  ·intro b x hx;cases hx
  ·intro b b' x x' hx;cases hx
  ·intro g x hx
   exact⟨⟨trivial,hno g,(hg g x hx).1⟩,(hg g x hx).2⟩
 refine(h.2 w (fun _=>True) (fun _=>⟨0,0,0,0⟩) args hs hl fun i hi=>.pure ((hr i hi).mono fun b hb=>⟨⟨⟨hb,trivial⟩,fun b x hx=>by cases hx⟩,rfl⟩)).mono fun e w' he=>?_
 obtain⟨u,ρ',rfl,-,hs',hc⟩:=he
 refine⟨by rw[hc.bool_inv],⟨hs'.fr.os,hs'.fr.tape,hs'.fr.output,hs'.fr.size,fun k hk=>hs'.fr.block k hk (hno k)⟩⟩
theorem se {w:World}{a:Addr}{v:Value}(h:w.cell? a=some v):a.block<w.heap.size:=by
 rcases Nat.lt_or_ge a.block w.heap.size with hl|hl
 ·exact hl
 ·have:w.heap[a.block]?=none:=by simp[hl]
  simp[World.cell?,this] at h
theorem wB {w:World}{l:List D}{a:Addr}{n cap:Nat}{g:Nat→Value}(hn:l.length=n)(hcap:n≤cap)(hmax:cap≤maxLen)(hl:∀e∈l,e.cells=[e]∧e.pure0=true)
  (hc:∀i,i<n→w.cell? (a.add i)=some (g i)) (hr:∀i,i<n→Rep (fun k=>k<w.heap.size) w (l.getD i .undef) (g i)):Rep (fun k=>k<w.heap.size) w (.lst l) (.slice (some a) n cap):=by
 cases l with
 |nil=>
  simp only[List.length_nil] at hn
  subst hn
  exact .none _ _ (fun h=>by cases h) hmax
 |cons x l=>
  have hp:0<n:=by rw[←hn];simp
  have hsz:szl (x::l)=1:=by show x.cells.length=1;rw[(hl x (List.mem_cons_self ..)).1];rfl
  obtain⟨b,off,spot⟩:=a
  have hspot:spot=none:=by simpa[Addr.add] using World.cell?_spot (hc 0 hp)
  subst hspot
  have h0:=se (hc 0 hp)
  refine .lst _ n b off cap (fun i _=>g i) hn hcap hmax h0 ?_ (by rw[hsz];omega) ?_ ?_
  ·intro e he
   rw[hsz]
   exact⟨by rw[(hl e he).1];rfl,by rw[(hl e he).1];simp[(hl e he).2]⟩
  ·intro i j hi hj
   rw[hsz] at hj⊢
   obtain rfl:j=0:=by omega
   have:=hc i hi
   rw[Go.WideShapes.add_plain] at this
   rw[Nat.mul_one,Nat.add_zero]
   exact this
  ·intro i j hi hj
   rw[hsz] at hj
   obtain rfl:j=0:=by omega
   have hi':i<(x::l).length:=by omega
   have e:(x::l).getD i .undef=(x::l)[i]:=by simp[List.getD_eq_getElem?_getD,List.getElem?_eq_getElem hi']
   have h1:=(hl _ (List.getElem_mem hi')).1
   have h2:=hr i hi
   rw[e] at h2⊢
   rw[h1]
   exact h2
theorem qj {H:Type}{enc:TypeId×Value→H}{P:Program}{W:World}{sp:Nat→Bool}{hd:Bool}{t e:TypeId}{k:IntKind}{cs:List Value}{fuel:Nat}{x:DataW H×List MemPlace}(ht:P.underlying t=some (.slice e))(he:P.underlying e=some (.int k))(hc:P.cellsOf e=1)
  (h:DataW.trod enc P W 0 sp hd fuel t cs=some x):∃(c:List Int) (v:Value),cs=[v]∧Rep (fun b=>b<W.heap.size) W (.lst (c.map (.int k))) v:=by
 rcases open_ints ht he hc h with⟨h1,-⟩|⟨a,len,cap,zs,h1,h2,h3,h4,h5,-,h6,h7⟩
 ·exact⟨[],_,h1,.none _ _ (fun _=>rfl) (Nat.zero_le _)⟩
 ·have hle:len≤zs.length:=by rw[h5];split<;>omega
  have hlen:(zs.take len).length=len:=by rw[List.length_take];omega
  refine⟨zs.take len,_,h1,?_⟩
  refine wB (g:=fun i=>.int k (zs.getD i 0)) (by rw[List.length_map,hlen]) h3 h4 ?_ (fun i hi=>h6 i (by omega)) ?_
  ·intro e he
   obtain⟨z,_,rfl⟩:=List.mem_map.1 he
   exact⟨rfl,rfl⟩
  ·intro i hi
   have e1:((zs.take len).map (D.int k)).getD i .undef= .int k (zs.getD i 0):=by
    have hi2:i<zs.length:=by omega
    simp[List.getD_eq_getElem?_getD,List.getElem?_map,List.getElem?_take,hi,List.getElem?_eq_getElem hi2]
   rw[e1]
   exact .int _ _
def xD (W:World)(T:Ty)(x:T.den)(cs:List Value):Prop:=cs.length=T.sz∧∀j,j<T.sz→Rep (fun k=>k<W.heap.size) W ((aa T x).cells.getD j .undef) (cs.getD j undef)
theorem rL {α:Type}{p:Nat→α→Prop}:∀n,(∀i,i<n→∃d,p i d)→∃l:List α,l.length=n∧∀i (h:i<l.length),p i l[i]
 |0,_=>⟨[],rfl,fun i h=>absurd h (Nat.not_lt_zero i)⟩
 |n+1,h=>by
  obtain⟨l,hl,hp⟩:=rL n fun i hi=>h i (by omega)
  obtain⟨d,hd⟩:=h n (by omega)
  refine⟨l++[d],by simp[hl],fun i hi=>?_⟩
  rcases Nat.lt_or_ge i l.length with hlt|hge
  ·rw[List.getElem_append_left hlt]
   exact hp i hlt
  ·obtain rfl:i=l.length:=by simp at hi;omega
   rw[List.getElem_append_right (Nat.le_refl _)]
   simpa[hl] using hd
theorem row_cells {H:Type}{enc:TypeId×Value→H}{P:Program}{W:World}{sp:Nat→Bool}{hd:Bool}{t e:TypeId}{T:Ty}{cs:List Value}{fuel:Nat}{x:DataW H×List MemPlace}(hp:T.pure=true)(ht:P.underlying t=some (.slice e))(hc:P.cellsOf e=T.sz)
  (hel:∀fuel cs x,DataW.trod enc P W 0 sp hd fuel e cs=some x→∃d,xD W T d cs) (h:DataW.trod enc P W 0 sp hd fuel t cs=some x):∃(l:List T.den) (v:Value),cs=[v]∧Rep (fun b=>b<W.heap.size) W (V.lst T l).toD v:=by
 rcases DataW.trod_slice ht h with⟨h1,-⟩|⟨a,len,cap,elems,rest,n,-,h1,-,-,hl,hm,hlen,hel2,-,-⟩
 ·exact⟨[],_,h1,.none _ _ (fun _=>rfl) (Nat.zero_le _)⟩
 ·have each:∀i,i<len→∃d:T.den,∃cs',W.cells? 0 (a.add (i*T.sz)) T.sz=some cs'∧xD W T d cs':=by
   intro i hi
   have h2:=hel2 i hi
   rw[List.getElem?_eq_getElem (by omega),hc,Option.bind_eq_some_iff] at h2
   obtain⟨cs',h3,h4⟩:=h2
   obtain⟨d,hd⟩:=hel _ _ _ h4
   exact⟨d,cs',h3,hd⟩
  obtain⟨l,hll,hlp⟩:=rL len each
  refine⟨l,_,h1,?_⟩
  show Rep _ W (.lst (l.map (aa T))) _
  by_cases hz:l=[]
  ·subst hz
   subst hll
   exact .none _ _ (fun h=>by cases h) hm
  ·have hpos:0<l.length:=List.length_pos_iff.2 hz
   have hsz:szl (l.map (aa T))=T.sz:=by
    cases l with
    |nil=>exact absurd rfl hz
    |cons y l=>exact(cE T y).1
   have cell:∀i j,i<l.length→j<T.sz→∃v,W.cell? ((a.add (i*T.sz)).add j)=some v∧Rep (fun k=>k<W.heap.size) W ((aa T (l[i]?.getD (l[0]'hpos))).cells.getD j .undef) v:=by
    intro i j hi hj
    obtain⟨cs',h3,h4,h5⟩:=hlp i hi
    have h6:=(World.cells?_some h3).2.2 j hj
    have hj':j<cs'.length:=by omega
    refine⟨cs'[j],by rw[h6,List.getElem?_eq_getElem hj'],?_⟩
    have:=h5 j hj
    rw[List.getElem?_eq_getElem hi]
    simp only[List.getD_eq_getElem?_getD (l:=cs'),List.getElem?_eq_getElem hj',Option.getD_some] at this
    exact this
   obtain⟨b,off,spot⟩:=a
   obtain⟨v0,hv0,-⟩:=cell 0 0 hpos T.sz_pos
   have hspot:spot=none:=by simpa[Addr.add] using World.cell?_spot hv0
   subst hspot
   have hb:=se hv0
   refine .lst _ len b off cap (fun i j=>(W.cell? ⟨b,off+i*T.sz+j,none⟩).getD undef) (by simpa using hll) hl hm (by simpa[Addr.add] using hb) ?_ (by rw[hsz];exact T.sz_pos) ?_ ?_
   ·intro e he
    obtain⟨y,-,rfl⟩:=List.mem_map.1 he
    rw[hsz]
    exact eE hp y
   ·intro i j hi hj
    rw[hsz] at hj⊢
    obtain⟨v,hv,-⟩:=cell i j (by omega) hj
    rw[Go.WideShapes.add_plain,Go.WideShapes.add_plain] at hv
    rw[hv]
    rfl
   ·intro i j hi hj
    rw[hsz] at hj
    obtain⟨v,hv,hr⟩:=cell i j (by omega) hj
    rw[Go.WideShapes.add_plain,Go.WideShapes.add_plain] at hv
    rw[hv]
    have e:(l.map (aa T)).getD i .undef=aa T (l[i]?.getD (l[0]'hpos)):=by
     have:i<l.length:=by omega
     simp[List.getD_eq_getElem?_getD,List.getElem?_eq_getElem this]
    rw[e]
    exact hr
end Go.Proofs.Ytgfcmhjebbncpaa.Am
namespace Go.Proofs.Ytgfcmhjebbncpaa.Am
open Go Go.RowKit Go.ChangeShapes Go.WideShapes Go.ChangeAt
theorem AN:ownKnob Try.prog.godebug=none:=by kernel_rfl
theorem yZ:laidOutB Try.prog=true:=by kernel_rfl
theorem sZ:Try.prog.cellsOf 3=1:=by kernel_rfl
set_option maxRecDepth 100000 in
theorem oV {H:Type}{enc:TypeId×Value→H}{W:World}{sp:Nat→Bool}{hd:Bool}{v:Value}{d:DataW H}{p:List MemPlace}{base:Nat}(hv:Value.okWide Try.prog W .any base 22 v)(h:DataW.Trod enc Try.prog W 0 sp hd 22 v d p):
  ∃l:List Int,Rep (fun k=>k<W.heap.size) W (V.lst (.int .i64) l).toD v:=by
 obtain⟨a0,l0,c0,rfl⟩:=okWide_slice Try.underlying22 hv
 obtain⟨fuel,h⟩:=h
 obtain⟨l,v',e,hr⟩:=qj Try.underlying22 Try.underlying3 sZ h
 have e:[Value.slice a0 l0 c0]=[v']:=e
 cases e
 exact⟨l,hr⟩
set_option maxRecDepth 100000 in
theorem wh {H:Type}{enc:TypeId×Value→H}{W:World}{sp:Nat→Bool}{hd:Bool}{v:Value}{d:DataW H}{p:List MemPlace}{base:Nat}(hv:Value.okWide Try.prog W .any base 3 v)(h:DataW.Trod enc Try.prog W 0 sp hd 3 v d p):
  ∃n:Int,v= .int .i64 n:=by
 obtain⟨n,rfl⟩:=okWide_int Try.underlying3 hv
 exact⟨n,rfl⟩

end Go.Proofs.Ytgfcmhjebbncpaa.Am
