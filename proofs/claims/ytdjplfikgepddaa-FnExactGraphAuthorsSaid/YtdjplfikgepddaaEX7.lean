/- The exact laws' own functions, on own rows within own rows. The exact laws' own functions: marks on own rows within own rows. The law FnExactGraphAuthors. From a contract to a row: what a law's call leaves; how an argument reads. Arguments of the exact laws on graphs: how they read. -/
import Derived.WalkKit
import Derived.ProofKit
import Derived.OpenShut
import Derived.Carry
import Derived.ChangeSlices
import Derived.ChangeSame
import Derived.Test.YtdjplfikgepddaaRows
import Derived.Test.YtdjplfikgepddaaEX6
set_option linter.unusedSimpArgs false
set_option linter.unusedVariables false
namespace Go.Proofs.Ytdjplfikgepddaa.Am
open Go
attribute [local irreducible] Mk bJ Ari eC tI l8 dz km iR oZ At aE
set_option maxRecDepth 10000
def Θx:TT:=(27,⟨.slice 85,1,24,some .nils,some (.hr 0),false⟩)::(85,⟨.struct [(3,0,1),(3,1,1),(22,2,1),(3,3,1)],4,48,some (.agg [.int .i64 0,.int .i64 0,.nils,.int .i64 0]),some (.vtxo 1),false⟩)::(107,⟨.struct [(85,0,4),(22,4,1)],5,72,some (.agg [.int .i64 0,.int .i64 0,.nils,.int .i64 0,.nils]),some (.pplo 1 1),false⟩)::Θ
theorem jQ:TT.ok Try.prog Θx:=TT.okB_ok (by kernel_rfl)
theorem xM {P Q:Prop}(h:Q)(s:Hid Q→P:=by
  intro h
  (first|(with_reducible first|apply cT|apply cL)|((first|with_reducible apply bO jQ|refine go ?_|(with_reducible first|apply cE|apply cX|apply bQ|apply bM|refine bL jQ eB (by kernel_rfl) ?_))<;>conv=>whnf))
  repeat(first|(with_reducible first|apply cT|apply cL)|((first|with_reducible apply bO jQ|refine go ?_|(with_reducible first|apply cE|apply cX|apply bQ|apply bM|refine bL jQ eB (by kernel_rfl) ?_))<;>conv=>whnf))
  exact h.h):P:=s ⟨h⟩
def wS:VtxO:=⟨0,0,none,0⟩
theorem nU (v:Vtx)(hv:v.parents.length≤1048576):aE Try.prog 52 [eF v] [] (.agg [.int .i64 v.round,.int .i64 v.author,.ref 4,.int .i64 v.digest]) [(4,.row 3 (.int .i64) v.parents)]:=by
 refine am az Try.func52 rfl rfl false 0 4 rfl rfl rfl rfl fun K hK hb1 hb2=>?_;simp only[av,enc,Nat.reduceAdd]
 (repeat' first|refine st ?_|refine sa fun xe hxe=>?_|refine sb (fun hq=>?_) fun hq=>?_|exact True.intro|refine cr (e9 _ hv) ?_)
 exact⟨rfl,rfl⟩
theorem mH (g:List Vtx)(pss:List (List Int))(hg:g.length≤1048576)(hv:∀v∈g,v.parents.length≤1048576):aE Try.prog 13 [.lst .vtx g] [(1,.frow 3 (.int .i64) pss)] (.ref 4) [(1,.frow 3 (.int .i64) (pss++g.map (·.parents))),(4,.row 85 (.vtxo 1) (kp pss.length g))]:=by
 refine am jQ Try.func13 rfl rfl false 0 4 rfl rfl rfl rfl fun K hK hb1 hb2=>?_;simp only[av,enc,Nat.reduceAdd]
 clear hb1 hb2
 (repeat' first|refine xM ?_|refine sa fun xe hxe=>?_|refine sb (fun hq=>?_) fun hq=>?_|exact True.intro)
 refine aG hK [] [0,3,4] (fun i:Nat=>⟨[(0,.lst .vtx g),(3,.ref 4),(4,.int .i64 i)],[(1,.frow 3 (.int .i64) (pss++(g.take i).map (·.parents))),(4,.row 85 (.vtxo 1) (kp pss.length (g.take i)++(List.replicate g.length wS).drop i))],5⟩) (fun i=>i≤g.length) (fun i=>g.length-i) 0 (by simp) (by simp[kp];rfl) ?_
 intro i hi
 by_cases hlt:i<g.length
 ·have hx:g[i]?=some g[i]:=List.getElem?_eq_getElem hlt
  have hsn:g.take (i+1)=g.take i++[g[i]]:=List.take_succ_eq_append_getElem hlt
  have hvl:=hv _ (List.getElem_mem hlt)
  have hln:(kp pss.length (g.take i)).length=i:=by rw[ux,List.length_take];omega
  have x6:i<(kp pss.length (g.take i)++(List.replicate g.length wS).drop i).length:=jZ _ _ hln (by simpa using hlt)
  have hs:(kp pss.length (g.take i)++(List.replicate g.length wS).drop i).set i ⟨g[i].round,g[i].author,some (pss++(g.take i).map (·.parents)).length,g[i].digest⟩=kp pss.length (g.take (i+1))++(List.replicate g.length wS).drop (i+1):=by
   rw[e8 _ _ _ hln (by simpa using hlt),hsn,rB,List.length_append,List.length_map]
  have hp:pss++(g.take (i+1)).map (·.parents)=(pss++(g.take i).map (·.parents))++[g[i].parents]:=by rw[hsn,List.map_append,List.append_assoc];rfl
  generalize hrow:kp pss.length (g.take i)++(List.replicate g.length wS).drop i=row at *
  generalize pss++(g.take i).map (·.parents)=ps at *
  generalize g[i]=x at *
  (repeat' first|refine xM ?_|refine sa fun xe hxe=>?_|refine sb (fun hq=>?_) fun hq=>?_|exact True.intro|refine cr (nU _ hvl) ?_)
  refine⟨i+1,by omega,by omega,?_⟩
  rw[←hs,hp]
  rfl
 ·obtain rfl:i=g.length:=by omega
  rw[List.take_of_length_le (Nat.le_refl _),show kp pss.length g++(List.replicate g.length wS).drop g.length=kp pss.length g by simp]
  (repeat' first|refine xM ?_|refine sa fun xe hxe=>?_|refine sb (fun hq=>?_) fun hq=>?_|exact True.intro)
  exact⟨rfl,rfl⟩
theorem oJ (a:List Int)(k:Int)(hk:0≤k∧k+a.length≤1000000000):aE Try.prog 17 [.ref 4,.int .i64 k] [(4,.row 3 (.int .i64) a)] (.int .i64 (k+a.length)) [(4,.row 3 (.int .i64) (mk k a.length))]:=by
 refine am az Try.func17 rfl rfl false 1 5 rfl rfl rfl rfl fun K hK hb1 hb2=>?_;simp only[av,enc,Nat.reduceAdd]
 (repeat' first|refine st ?_|refine sa fun xe hxe=>?_|refine sb (fun hq=>?_) fun hq=>?_|exact True.intro)
 refine aG hK [] [0,1,4,5] (fun i:Nat=>⟨[(0,.ref 4),(1,.int .i64 (k+i)),(4,.int .i64 0),(5,.int .i64 i)],[(4,.row 3 (.int .i64) (mk k i++a.drop i))],5⟩) (fun i=>i≤a.length) (fun i=>a.length-i) 0 (by simp) (by simp[mk];rfl) ?_
 intro i hi
 have hlen:(mk k i++a.drop i).length=a.length:=by simp[dd];omega
 by_cases hlt:i<a.length
 ·have hs:(mk k i++a.drop i).set i (k+i)=mk k (i+1)++a.drop (i+1):=by
   rw[e8 _ _ _ (dd k i) hlt,p8]
  generalize mk k i++a.drop i=row at *
  (repeat' first|refine st ?_|refine sa fun xe hxe=>?_|refine sb (fun hq=>?_) fun hq=>?_|exact True.intro)
  refine⟨i+1,by omega,by omega,?_⟩
  rw[←hs,show k+((i+1:Nat):Int)=k+i+1 by omega]
  rfl
 ·obtain rfl:i=a.length:=by omega
  generalize hrow:mk k a.length++a.drop a.length=row at *
  (repeat' first|refine st ?_|refine sa fun xe hxe=>?_|refine sb (fun hq=>?_) fun hq=>?_|exact True.intro)
  subst hrow
  simp
theorem nN (n:Nat)(k:Int)(hk:0≤k∧k+n≤1000000000):aE Try.prog 19 [.lst (.int .i64) (mk k n),.int .i64 k] [] (.int .i64 (k+n)) []:=by
 refine am az Try.func19 rfl rfl false 0 4 rfl rfl rfl rfl fun K hK hb1 hb2=>?_;simp only[av,enc,Nat.reduceAdd]
 clear hb1 hb2
 have hl:=dd k n
 (repeat' first|refine st ?_|refine sa fun xe hxe=>?_|refine sb (fun hq=>?_) fun hq=>?_|exact True.intro)
 refine aG hK [] [0,1,4,5] (fun i:Nat=>⟨[(0,.lst (.int .i64) (mk k n)),(1,.int .i64 (k+i)),(4,.int .i64 0),(5,.int .i64 i)],[],4⟩) (fun i=>i≤n) (fun i=>n-i) 0 (by simp) (by simp;rfl) ?_
 intro i hi
 by_cases hlt:i<n
 ·have hx:=vZ k hlt
  generalize mk k n=row at *
  (repeat' first|refine st ?_|refine sa fun xe hxe=>?_|refine sb (fun hq=>?_) fun hq=>?_|exact True.intro)
  ·exact absurd trivial hq
  ·refine⟨i+1,by omega,by omega,?_⟩
   rw[show k+((i+1:Nat):Int)=k+i+1 by omega]
   rfl
 ·obtain rfl:i=n:=by omega
  generalize mk k i=row at *
  (repeat' first|refine st ?_|refine sa fun xe hxe=>?_|refine sb (fun hq=>?_) fun hq=>?_|exact True.intro)
  exact⟨rfl,rfl⟩
theorem uB (E:TypeId)(a:List (List Int))(j:Nat)(b:List Int):aR (VB.frow E (.int .i64) a)≤aR (VB.frow E (.int .i64) (a.set j b)):=by simp[aR]
theorem n5 (pss:List (List Int))(j:Nat)(a:List Int)(k:Int)(hj:pss[j]?=some a)(hk:0≤k∧k+a.length≤1000000000):aE Try.prog 17 [.hro 1 (some j),.int .i64 k] [(1,.frow 3 (.int .i64) pss)] (.int .i64 (k+a.length)) [(1,.frow 3 (.int .i64) (pss.set j (mk k a.length)))]:=by
 have hjl:j<pss.length:=(List.getElem?_eq_some_iff.1 hj).1
 refine am az Try.func17 rfl rfl false 0 4 rfl rfl rfl rfl fun K hK hb1 hb2=>?_;simp only[av,enc,Nat.reduceAdd]
 clear hb1 hb2
 have h0:pss.set j (mk k 0++a.drop 0)=pss:=by
  apply List.ext_getElem?
  intro x
  rw[List.getElem?_set]
  split
  ·rename_i e
   subst e
   first|rw[if_pos hjl,hj]|rw[hj]
   simp[mk]
  ·rfl
 (repeat' first|refine st ?_|refine sa fun xe hxe=>?_|refine sb (fun hq=>?_) fun hq=>?_|exact True.intro)
 refine aG hK [] [0,1,4,5] (fun i:Nat=>⟨[(0,.hro 1 (some j)),(1,.int .i64 (k+i)),(4,.int .i64 0),(5,.int .i64 i)],[(1,.frow 3 (.int .i64) (pss.set j (mk k i++a.drop i)))],4⟩) (fun i=>i≤a.length) (fun i=>a.length-i) 0 (by simp) (by rw[h0];simp;rfl) ?_
 intro i hi
 have hlen:(mk k i++a.drop i).length=a.length:=by simp[dd];omega
 have hjr:(pss.set j (mk k i++a.drop i))[j]?=some (mk k i++a.drop i):=List.getElem?_set_self hjl
 by_cases hlt:i<a.length
 ·have hs:(pss.set j (mk k i++a.drop i)).set j ((mk k i++a.drop i).set i (k+i))=pss.set j (mk k (i+1)++a.drop (i+1)):=by
   rw[e8 _ _ _ (dd k i) hlt,p8,List.set_set]
  generalize mk k i++a.drop i=row at *
  generalize pss.set j row=ps at *
  (repeat' first|refine st ?_|refine sa fun xe hxe=>?_|refine sb (fun hq=>?_) fun hq=>?_|exact True.intro)
  refine⟨i+1,by omega,by omega,?_⟩
  rw[←hs,show k+((i+1:Nat):Int)=k+i+1 by omega]
  rfl
 ·obtain rfl:i=a.length:=by omega
  rw[show mk k a.length++a.drop a.length=mk k a.length by simp] at *
  generalize pss.set j (mk k a.length)=ps at *
  (repeat' first|refine st ?_|refine sa fun xe hxe=>?_|refine sb (fun hq=>?_) fun hq=>?_|exact True.intro)
  exact⟨rfl,rfl⟩
theorem kw (vs:List VtxO)(pss:List (List Int))(g:List Vtx)(k:Int)(hr:VsR pss vs g)(hk:0≤k∧k+cV g≤1000000000):aE Try.prog 18 [.ref 4,.int .i64 k] [(1,.frow 3 (.int .i64) pss),(4,.row 85 (.vtxo 1) vs)] (.int .i64 (ey vs k pss).1) [(1,.frow 3 (.int .i64) (ey vs k pss).2.1),(4,.row 85 (.vtxo 1) (ey vs k pss).2.2)]:=by
 refine am az Try.func18 rfl rfl false 1 5 rfl rfl rfl rfl fun K hK hb1 hb2=>?_;simp only[av,enc,Nat.reduceAdd]
 clear hb1 hb2
 (repeat' first|refine st ?_|refine sa fun xe hxe=>?_|refine sb (fun hq=>?_) fun hq=>?_|exact True.intro)
 refine aG hK [] [0,1,5] (fun i:Nat=>⟨[(0,.ref 4),(1,.int .i64 (ey (vs.take i) k pss).1),(5,.int .i64 i)],[(1,.frow 3 (.int .i64) (ey (vs.take i) k pss).2.1),(4,.row 85 (.vtxo 1) ((ey (vs.take i) k pss).2.2++vs.drop i))],5⟩) (fun i=>i≤vs.length) (fun i=>vs.length-i) 0 (by simp) (by simp[ey];rfl) ?_
 intro i hi
 have hgl:=hr.len
 have hcl:=we g
 by_cases hlt:i<vs.length
 ·have hv:g[i]?=some g[i]:=List.getElem?_eq_getElem (by omega)
  obtain⟨j,y,h1,h2,h3,h4,h5,h6,h7,h8⟩:=s7 (k:=k) hr hv rfl
  have hc:=un hv
  have hc2:=xb g (i+1)
  have hll:((ey (vs.take i) k pss).2.2++vs.drop i).length=vs.length:=by simp[iQ];omega
  generalize hr':ey (vs.take (i+1)) k pss=r' at *
  generalize ey (vs.take i) k pss=r at *
  obtain⟨r1,r2,r3⟩:=r
  simp only at h1 h2 h4 h5 h6 h7 h8 hll⊢
  generalize r3++vs.drop i=row at *
  generalize g[i]=v at *
  (repeat' first|refine st ?_|refine sa fun xe hxe=>?_|refine sb (fun hq=>?_) fun hq=>?_|exact True.intro)
  rename_i ya hya
  have hti:(i:Int).toNat<row.length:=by simp;omega
  obtain rfl:=Option.some.inj ((List.getElem?_set_self hti).symm.trans hya)
  obtain rfl:=Option.some.inj ((List.getElem?_set_self (by rw[List.length_set];exact hti)).symm.trans hxe)
  clear hya hxe
  dsimp only
  rw[List.set_set]
  have hg2:(i:Int).toNat<(row.set (i:Int).toNat (⟨r1,r1+1,some j,v.digest⟩:VtxO)).length:=by rw[List.length_set];exact hti
  have hg3:(row.set (i:Int).toNat (⟨r1,r1+1,some j,v.digest⟩:VtxO))[(i:Int).toNat]?=some ⟨r1,r1+1,some j,v.digest⟩:=List.getElem?_set_self hti
  have hg4:(row.set (i:Int).toNat (⟨r1,r1+1,some j,v.digest⟩:VtxO)).set (i:Int).toNat ⟨r1,r1+1,some j,r1+1+1+y.length⟩=(r'.2.2++vs.drop (i+1)):=by
   rw[h8,List.set_set,Int.toNat_natCast,show r1+1+1+(y.length:Int)=r1+2+y.length by omega]
  generalize row.set (i:Int).toNat (⟨r1,r1+1,some j,v.digest⟩:VtxO)=row2 at *
  have hM:=n5 r2 j y (r1+1+1) h2 (by omega)
  rw[show r1+1+1=r1+2 by omega] at *
  have hF:=uB 3 r2 j (mk (r1+2) y.length)
  (repeat' first|refine st ?_|refine sa fun xe hxe=>?_|refine sb (fun hq=>?_) fun hq=>?_|exact True.intro|refine co (hM) ?_)
  refine⟨i+1,by omega,by omega,?_⟩
  rw[hr',h6,h7,←hg4,show r1+3+(y.length:Int)=r1+2+y.length+1 by omega]
  rfl
 ·obtain rfl:i=vs.length:=by omega
  rw[List.take_of_length_le (Nat.le_refl _),List.drop_eq_nil_of_le (Nat.le_refl _),List.append_nil] at *
  have hlm:=iQ vs k pss
  generalize ey vs k pss=r at *
  (repeat' first|refine st ?_|refine sa fun xe hxe=>?_|refine sb (fun hq=>?_) fun hq=>?_|exact True.intro)
  exact⟨rfl,rfl⟩
theorem uy {c:List Int}{g:List Vtx}(r:Int)(h:c.length≤1048576):(tH c g r).length≤1048576:=by
 unfold tH
 split
 ·rename_i hg
  have:=gz (qB (pj hg) r)
  omega
 ·simp
set_option maxHeartbeats 16000000 in
theorem oe (c:List Int)(g:List Vtx)(r:Int):aE Try.prog 3 [.lst (.int .i64) c,.lst .vtx g,.int .i64 r] [] (.bool true) []:=by
 have hsz:=mY g 1048576 (by omega)
 unfold u7 at hsz
 refine am az Try.func3 rfl rfl false 0 4 rfl rfl rfl rfl fun K hK hb1 hb2=>?_;simp only[av,enc,Nat.reduceAdd]
 clear hb1 hb2
 by_cases hc:1048576<(c.length:Int)
 ·(repeat' first|refine st ?_|refine sa fun xe hxe=>?_|refine sb (fun hq=>?_) fun hq=>?_|exact True.intro)
  exact⟨rfl,rfl⟩
 by_cases hl:(1048576:Int)-(g.length+da g:Nat)<0
 ·rw[if_pos hl] at hsz
  (repeat' first|refine st ?_|refine sa fun xe hxe=>?_|refine sb (fun hq=>?_) fun hq=>?_|exact True.intro|refine cr (hsz) ?_)
  exact⟨rfl,rfl⟩
 rw[if_neg hl] at hsz
 have hgl:g.length≤1048576:=by omega
 have hv:∀v∈g,v.parents.length≤1048576:=fun v hv=>by have:=wl hv;omega
 have hS:=xr c g r (by omega)
 have hI:=w5 c g r (by omega)
 have hO:=mH g [] hgl hv
 simp only[List.nil_append,List.length_nil] at hO
 have hR:VsR (g.map (·.parents)) (kp 0 g) g:=p6 fun i v hx=>by rw[Nat.zero_add];simp[hx]
 have hd:(wx (g.map (·.parents)) (kp 0 g))[0]?=some g:=by rw[wx,hR.read];rfl
 have hcv:cV g=3*g.length+da g:=by
  unfold cV da
  clear hsz hO hR hd hl hv hS hI hgl
  induction g with
  |nil=>rfl
  |cons v g ih=>simp only[List.map_cons,List.sum_cons,List.length_cons,ih];omega
 have hM:=kw (kp 0 g) (g.map (·.parents)) g (1+c.length) hR (by omega)
 have hM1:=ge (1+c.length) (g.map (·.parents)) rfl hR
 have hgv:=uy (g:=g) r (show c.length≤1048576 by omega)
 have hF:aR (VB.frow 3 (.int .i64) [])≤aR (VB.frow 3 (.int .i64) (g.map (·.parents))):=by simp[aR]
 have hF2:aR (VB.frow 3 (.int .i64) (g.map (·.parents)))≤aR (VB.frow 3 (.int .i64) (ey (kp 0 g) (1+c.length) (g.map (·.parents))).2.1):=by
  have:=congrArg List.length (gh (kp 0 g) (1+c.length) (g.map (·.parents)))
  simp only[List.length_map] at this
  simp[aR,this]
 generalize tH c g r=a at *
 generalize kp 0 g=vs at *
 generalize g.map (·.parents)=pss at *
 generalize ey vs (1+c.length) pss=m at *
 refine n7 1 (.frow 3 (.int .i64) []) rfl ?_
 (repeat' first|refine st ?_|refine sa fun xe hxe=>?_|refine sb (fun hq=>?_) fun hq=>?_|exact True.intro|refine cr (hsz) ?_|((with_reducible refine ig ?_);(conv=>whnf);(first|with_reducible refine ce (e9 _ (by omega)) ?_);conv=>whnf))
 refine cr (iE _ hgl hv) ?_
 (repeat' first|refine st ?_|refine sa fun xe hxe=>?_|refine sb (fun hq=>?_) fun hq=>?_|exact True.intro|refine cr (hS) ?_|((with_reducible refine ig ?_);(conv=>whnf);(first|with_reducible refine ce (e9 _ (by omega)) ?_);conv=>whnf))
 (repeat' first|refine st ?_|refine sa fun xe hxe=>?_|refine sb (fun hq=>?_) fun hq=>?_|exact True.intro|((with_reducible refine wh [1] ?_);(conv=>whnf);(with_reducible refine ce (hO) ?_);conv=>whnf))
 (repeat' first|refine st ?_|refine sa fun xe hxe=>?_|refine sb (fun hq=>?_) fun hq=>?_|exact True.intro|refine cr (hI) ?_|refine cr (iE _ hgl hv) ?_|refine cr (nI _) ?_|((with_reducible refine ig ?_);(conv=>whnf);(first|with_reducible refine ce (e9 _ (by omega)) ?_|with_reducible refine ce (nN _ _ (by omega)) ?_);conv=>whnf)|refine co (hM) ?_|((with_reducible refine ld ?_);(conv=>whnf);(first|with_reducible refine ce (oJ _ _ (by omega)) ?_);conv=>whnf)|((with_reducible refine vN ?_);(conv=>whnf))|((first|with_reducible refine ce (hI) ?_|with_reducible refine ce (np _) ?_);conv=>whnf))
 all_goals first|(exact⟨rfl,rfl⟩)|exact absurd rfl hq|exact absurd trivial hq|cases hq
end Go.Proofs.Ytdjplfikgepddaa.Am
namespace Go.Proofs.Ytdjplfikgepddaa.Am
open Go Go.RowKit Go.ChangeShapes Go.WideShapes Go.ChangeAt
section
variable {H:Type} {enc:TypeId×Value→H} {P:Program}
theorem n4 {f:Func}{s:ChangeSpec}{apart fresh handsOn again:Bool}{W W':World}{args:Array Value}{v:Value}{ds gs:List (DataW H)}{before pa pv:List MemPlace}
  (hW:DataW.Whole enc P f.params.toList s.vars apart W args.toList ds gs before)
  (hres:∀(b:Nat) (sp:Nat→Bool) (hd:Bool),DataW.TrodAll enc P W' b sp hd f.resultTypes.toList (v.resultList f.resultTypes.size) (s.fn H (ds++gs)).results [])
  (hargs:∀sp:Nat→Bool,(∀p∈before,sp p.block=true)→DataW.TrodAll enc P W' 0 sp true f.params.toList args.toList (s.fn H (ds++gs)).args pa)
  (hvars:∀sp:Nat→Bool,(∀p∈before,sp p.block=true)→DataW.TrodVars enc P W' sp s.vars (s.fn H (ds++gs)).vars pv)
  (hps:before=pa++pv) (hb:Below W.heap.size W W')
  (hok:∀(j:Nat) (t:TypeId) (r:Value),f.resultTypes[j]?=some t→(v.resultList f.resultTypes.size)[j]?=some r→Value.okWide P W' .any 0 t r):
  s.post enc P f apart fresh handsOn again W args v W':=by
 have hlt:∀p∈before,p.block<W.heap.size:=fun p hp=>hW.lt p hp
 have hold:∀p∈before,(fun b=>decide (b<W.heap.size)) p.block=true:=fun p hp=>by simpa using hlt p hp
 refine⟨ds,gs,before,[],pa,pv,hW,hres _ _ _,hargs _ hold,hvars _ hold,World.keptBut_mono (fun p hp=>⟨hp,?_⟩) (hb.frame (· ∈before)),fun _=>?_⟩
 ·rw[hps,List.mem_append] at hp
  exact Or.inr hp
 ·obtain⟨_,_,_,_,_,hz,hn⟩:=hW
  refine⟨hok,_,_,([]++pa)++pv,⟨[]++pa,pv,trodAll_append (hargs _ (fun _ _=>rfl)) (hres _ _ _),hvars _ (fun _ _=>rfl),rfl,?_,?_⟩,?_⟩
  ·intro b off hp
   have hin:MemPlace.cell b off∈before:=by rw[hps];simpa using hp
   rw[hb.frozen (hlt _ hin)]
   exact hz b off hin
  ·intro ha
   have:=hn ha
   rw[hps] at this
   simpa using this
  ·intro p hp _
   rw[hps]
   simpa using hp
end
theorem qD {P:Program}{f:FuncId}{vs:List V}(h:aE P f vs [] (.bool true) []){w:World}{args:Array Value}(hl:(ab vs).length=args.size)
  (hr:∀i,i<(ab vs).length→Rep (fun k=>k<w.heap.size) w ((ab vs).getD i .undef) (args.getD i undef))
  (hg:∀g x,look Gl g=some x→g<w.heap.size∧∃ad,w.cell? ⟨g,0,none⟩=some (.iface x.1 (.pointer (some ad))):=by intro g x h;cases h):
  Calls P f args w fun e w'=>e= .returned (.bool true)∧Below w.heap.size w w':=by
 have hno:∀k,¬qw (fun _=>⟨0,0,0,0⟩) (toH []) k:=by
  rintro k ⟨b,x,hb,-⟩
  cases hb
 have hs:Sim P w (qw (fun _=>⟨0,0,0,0⟩) (toH [])) (fun _=>True) 0 (fun _=>⟨0,0,0,0⟩) [] (toH []) fL w:=by
  refine⟨fun _ _=>trivial,fun _ _=>trivial,Fr.refl _ _,rfl,rfl,?_,?_,?_,?_,?_⟩
  ·intro k d hk;cases hk
  ·intro b x hx;cases hx
  ·intro b x hx;cases hx
  ·intro b b' x x' hx;cases hx
  ·intro g x hx
   exact⟨⟨trivial,hno g,(hg g x hx).1⟩,(hg g x hx).2⟩
 refine(h.2 w (fun _=>True) (fun _=>⟨0,0,0,0⟩) args hs hl fun i hi=>.pure ((hr i hi).mono fun b hb=>⟨⟨⟨hb,trivial⟩,fun b x hx=>by cases hx⟩,rfl⟩)).mono fun e w' he=>?_
 obtain⟨u,ρ',rfl,-,hs',hc⟩:=he
 refine⟨by rw[hc.bool_inv],⟨hs'.fr.os,hs'.fr.tape,hs'.fr.output,hs'.fr.size,fun k hk=>hs'.fr.block k hk (hno k)⟩⟩
theorem pu {w:World}{a:Addr}{v:Value}(h:w.cell? a=some v):a.block<w.heap.size:=by
 rcases Nat.lt_or_ge a.block w.heap.size with hl|hl
 ·exact hl
 ·have:w.heap[a.block]?=none:=by simp[hl]
  simp[World.cell?,this] at h
theorem tL {w:World}{l:List D}{a:Addr}{n cap:Nat}{g:Nat→Value}(hn:l.length=n)(hcap:n≤cap)(hmax:cap≤maxLen)(hl:∀e∈l,e.cells=[e]∧e.pure0=true)
  (hc:∀i,i<n→w.cell? (a.add i)=some (g i)) (hr:∀i,i<n→Rep (fun k=>k<w.heap.size) w (l.getD i .undef) (g i)):Rep (fun k=>k<w.heap.size) w (.lst l) (.slice (some a) n cap):=by
 cases l with
 |nil=>
  simp only[List.length_nil] at hn
  subst hn
  exact .none _ _ (fun h=>by cases h) hmax
 |cons x l=>
  have hp:0<n:=by rw[←hn];simp
  have hsz:szl (x::l)=1:=by show x.cells.length=1;rw[(hl x (List.mem_cons_self ..)).1];rfl
  obtain⟨b,off,spot⟩:=a
  have hspot:spot=none:=by simpa[Addr.add] using World.cell?_spot (hc 0 hp)
  subst hspot
  have h0:=pu (hc 0 hp)
  refine .lst _ n b off cap (fun i _=>g i) hn hcap hmax h0 ?_ (by rw[hsz];omega) ?_ ?_
  ·intro e he
   rw[hsz]
   exact⟨by rw[(hl e he).1];rfl,by rw[(hl e he).1];simp[(hl e he).2]⟩
  ·intro i j hi hj
   rw[hsz] at hj⊢
   obtain rfl:j=0:=by omega
   have:=hc i hi
   rw[Go.WideShapes.add_plain] at this
   rw[Nat.mul_one,Nat.add_zero]
   exact this
  ·intro i j hi hj
   rw[hsz] at hj
   obtain rfl:j=0:=by omega
   have hi':i<(x::l).length:=by omega
   have e:(x::l).getD i .undef=(x::l)[i]:=by simp[List.getD_eq_getElem?_getD,List.getElem?_eq_getElem hi']
   have h1:=(hl _ (List.getElem_mem hi')).1
   have h2:=hr i hi
   rw[e] at h2⊢
   rw[h1]
   exact h2
theorem jV {H:Type}{enc:TypeId×Value→H}{P:Program}{W:World}{sp:Nat→Bool}{hd:Bool}{t e:TypeId}{k:IntKind}{cs:List Value}{fuel:Nat}{x:DataW H×List MemPlace}(ht:P.underlying t=some (.slice e))(he:P.underlying e=some (.int k))(hc:P.cellsOf e=1)
  (h:DataW.trod enc P W 0 sp hd fuel t cs=some x):∃(c:List Int) (v:Value),cs=[v]∧Rep (fun b=>b<W.heap.size) W (.lst (c.map (.int k))) v:=by
 rcases open_ints ht he hc h with⟨h1,-⟩|⟨a,len,cap,zs,h1,h2,h3,h4,h5,-,h6,h7⟩
 ·exact⟨[],_,h1,.none _ _ (fun _=>rfl) (Nat.zero_le _)⟩
 ·have hle:len≤zs.length:=by rw[h5];split<;>omega
  have hlen:(zs.take len).length=len:=by rw[List.length_take];omega
  refine⟨zs.take len,_,h1,?_⟩
  refine tL (g:=fun i=>.int k (zs.getD i 0)) (by rw[List.length_map,hlen]) h3 h4 ?_ (fun i hi=>h6 i (by omega)) ?_
  ·intro e he
   obtain⟨z,_,rfl⟩:=List.mem_map.1 he
   exact⟨rfl,rfl⟩
  ·intro i hi
   have e1:((zs.take len).map (D.int k)).getD i .undef= .int k (zs.getD i 0):=by
    have hi2:i<zs.length:=by omega
    simp[List.getD_eq_getElem?_getD,List.getElem?_map,List.getElem?_take,hi,List.getElem?_eq_getElem hi2]
   rw[e1]
   exact .int _ _
theorem il {H:Type}{enc:TypeId×Value→H}{P:Program}{W:World}{sp:Nat→Bool}{hd:Bool}{t:TypeId}{k:IntKind}{v:Value}{fuel:Nat}{x:DataW H×List MemPlace}(ht:P.underlying t=some (.int k))(h:DataW.trod enc P W 0 sp hd fuel t [v]=some x):∃n,v= .int k n:=by
 obtain⟨n,h1,-,-⟩:=DataW.trod_int ht h
 simp only[List.cons.injEq,and_true] at h1
 exact⟨n,h1⟩
def rq (W:World)(T:Ty)(x:T.den)(cs:List Value):Prop:=cs.length=T.sz∧∀j,j<T.sz→Rep (fun k=>k<W.heap.size) W ((aa T x).cells.getD j .undef) (cs.getD j undef)
theorem qb {α:Type}{p:Nat→α→Prop}:∀n,(∀i,i<n→∃d,p i d)→∃l:List α,l.length=n∧∀i (h:i<l.length),p i l[i]
 |0,_=>⟨[],rfl,fun i h=>absurd h (Nat.not_lt_zero i)⟩
 |n+1,h=>by
  obtain⟨l,hl,hp⟩:=qb n fun i hi=>h i (by omega)
  obtain⟨d,hd⟩:=h n (by omega)
  refine⟨l++[d],by simp[hl],fun i hi=>?_⟩
  rcases Nat.lt_or_ge i l.length with hlt|hge
  ·rw[List.getElem_append_left hlt]
   exact hp i hlt
  ·obtain rfl:i=l.length:=by simp at hi;omega
   rw[List.getElem_append_right (Nat.le_refl _)]
   simpa[hl] using hd
theorem row_cells {H:Type}{enc:TypeId×Value→H}{P:Program}{W:World}{sp:Nat→Bool}{hd:Bool}{t e:TypeId}{T:Ty}{cs:List Value}{fuel:Nat}{x:DataW H×List MemPlace}(hp:T.pure=true)(ht:P.underlying t=some (.slice e))(hc:P.cellsOf e=T.sz)
  (hel:∀fuel cs x,DataW.trod enc P W 0 sp hd fuel e cs=some x→∃d,rq W T d cs) (h:DataW.trod enc P W 0 sp hd fuel t cs=some x):∃(l:List T.den) (v:Value),cs=[v]∧Rep (fun b=>b<W.heap.size) W (V.lst T l).toD v:=by
 rcases DataW.trod_slice ht h with⟨h1,-⟩|⟨a,len,cap,elems,rest,n,-,h1,-,-,hl,hm,hlen,hel2,-,-⟩
 ·exact⟨[],_,h1,.none _ _ (fun _=>rfl) (Nat.zero_le _)⟩
 ·have each:∀i,i<len→∃d:T.den,∃cs',W.cells? 0 (a.add (i*T.sz)) T.sz=some cs'∧rq W T d cs':=by
   intro i hi
   have h2:=hel2 i hi
   rw[List.getElem?_eq_getElem (by omega),hc,Option.bind_eq_some_iff] at h2
   obtain⟨cs',h3,h4⟩:=h2
   obtain⟨d,hd⟩:=hel _ _ _ h4
   exact⟨d,cs',h3,hd⟩
  obtain⟨l,hll,hlp⟩:=qb len each
  refine⟨l,_,h1,?_⟩
  show Rep _ W (.lst (l.map (aa T))) _
  by_cases hz:l=[]
  ·subst hz
   subst hll
   exact .none _ _ (fun h=>by cases h) hm
  ·have hpos:0<l.length:=List.length_pos_iff.2 hz
   have hsz:szl (l.map (aa T))=T.sz:=by
    cases l with
    |nil=>exact absurd rfl hz
    |cons y l=>exact(cb T y).1
   have cell:∀i j,i<l.length→j<T.sz→∃v,W.cell? ((a.add (i*T.sz)).add j)=some v∧Rep (fun k=>k<W.heap.size) W ((aa T (l[i]?.getD (l[0]'hpos))).cells.getD j .undef) v:=by
    intro i j hi hj
    obtain⟨cs',h3,h4,h5⟩:=hlp i hi
    have h6:=(World.cells?_some h3).2.2 j hj
    have hj':j<cs'.length:=by omega
    refine⟨cs'[j],by rw[h6,List.getElem?_eq_getElem hj'],?_⟩
    have:=h5 j hj
    rw[List.getElem?_eq_getElem hi]
    simp only[List.getD_eq_getElem?_getD (l:=cs'),List.getElem?_eq_getElem hj',Option.getD_some] at this
    exact this
   obtain⟨b,off,spot⟩:=a
   obtain⟨v0,hv0,-⟩:=cell 0 0 hpos T.sz_pos
   have hspot:spot=none:=by simpa[Addr.add] using World.cell?_spot hv0
   subst hspot
   have hb:=pu hv0
   refine .lst _ len b off cap (fun i j=>(W.cell? ⟨b,off+i*T.sz+j,none⟩).getD undef) (by simpa using hll) hl hm (by simpa[Addr.add] using hb) ?_ (by rw[hsz];exact T.sz_pos) ?_ ?_
   ·intro e he
    obtain⟨y,-,rfl⟩:=List.mem_map.1 he
    rw[hsz]
    exact d5 hp y
   ·intro i j hi hj
    rw[hsz] at hj⊢
    obtain⟨v,hv,-⟩:=cell i j (by omega) hj
    rw[Go.WideShapes.add_plain,Go.WideShapes.add_plain] at hv
    rw[hv]
    rfl
   ·intro i j hi hj
    rw[hsz] at hj
    obtain⟨v,hv,hr⟩:=cell i j (by omega) hj
    rw[Go.WideShapes.add_plain,Go.WideShapes.add_plain] at hv
    rw[hv]
    have e:(l.map (aa T)).getD i .undef=aa T (l[i]?.getD (l[0]'hpos)):=by
     have:i<l.length:=by omega
     simp[List.getD_eq_getElem?_getD,List.getElem?_eq_getElem this]
    rw[e]
    exact hr
theorem l7 {H:Type}{enc:TypeId×Value→H}{P:Program}{W:World}{sp:Nat→Bool}{hd:Bool}{t:TypeId}{fs:Array Field}{cs:List Value}{fuel:Nat}{x:DataW H×List MemPlace}(ht:P.underlying t=some (.struct fs))(hs:P.cellsOf t=fs.size)(hf:(fs.toList.zipIdx.all fun q=>q.1.offset==q.2 && P.cellsOf q.1.type==1)=true)
  (h:DataW.trod enc P W 0 sp hd fuel t cs=some x):cs.length=fs.size∧∀(i:Nat) (f:Field),fs[i]?=some f→∃fuel y,DataW.trod enc P W 0 sp hd fuel f.type [cs.getD i undef]=some y:=by
 obtain⟨xs,n,-,-,hlc,hl,hx⟩:=DataW.trod_struct ht h
 refine⟨by omega,fun i f hi=>?_⟩
 have hi':=(Array.getElem?_eq_some_iff.1 hi).1
 have h1:=hx i f hi
 rw[List.all_eq_true] at hf
 have h2:=hf (f,i) (List.mem_zipIdx_iff_getElem?.2 (by simpa using hi))
 simp only[Bool.and_eq_true,beq_iff_eq] at h2
 have hci:i<cs.length:=by omega
 refine⟨n,xs[i],?_⟩
 have e:(cs.drop f.offset).take (P.cellsOf f.type)=[cs.getD i undef]:=by
  have e2:(cs.drop i).take 1=[cs[i]]:=by rw[List.drop_eq_getElem_cons hci];rfl
  rw[h2.1,h2.2,e2]
  simp[List.getD_eq_getElem?_getD,hci]
 rw[←e,h1,List.getElem?_eq_getElem (by omega)]
end Go.Proofs.Ytdjplfikgepddaa.Am
namespace Go.Proofs.Ytdjplfikgepddaa.Am
open Go Go.RowKit Go.ChangeShapes Go.WideShapes Go.ChangeAt
theorem xL:ownKnob Try.prog.godebug=none:=by kernel_rfl
theorem wH:laidOutB Try.prog=true:=by kernel_rfl
theorem kH:Try.prog.cellsOf 3=1:=by kernel_rfl
set_option maxRecDepth 100000 in
theorem tE {H:Type}{enc:TypeId×Value→H}{W:World}{sp:Nat→Bool}{hd:Bool}{v:Value}{d:DataW H}{p:List MemPlace}{base:Nat}(hv:Value.okWide Try.prog W .any base 22 v)(h:DataW.Trod enc Try.prog W 0 sp hd 22 v d p):
  ∃l:List Int,Rep (fun k=>k<W.heap.size) W (V.lst (.int .i64) l).toD v:=by
 obtain⟨a0,l0,c0,rfl⟩:=okWide_slice Try.underlying22 hv
 obtain⟨fuel,h⟩:=h
 obtain⟨l,v',e,hr⟩:=jV Try.underlying22 Try.underlying3 kH h
 have e:[Value.slice a0 l0 c0]=[v']:=e
 cases e
 exact⟨l,hr⟩
set_option maxRecDepth 100000 in
theorem ug {H:Type}{enc:TypeId×Value→H}{W:World}{sp:Nat→Bool}{hd:Bool}{v:Value}{d:DataW H}{p:List MemPlace}{base:Nat}(hv:Value.okWide Try.prog W .any base 3 v)(h:DataW.Trod enc Try.prog W 0 sp hd 3 v d p):
  ∃n:Int,v= .int .i64 n:=by
 obtain⟨n,rfl⟩:=okWide_int Try.underlying3 hv
 exact⟨n,rfl⟩
set_option maxRecDepth 100000 in
theorem qA {H:Type}{enc:TypeId×Value→H}{W:World}{sp:Nat→Bool}{hd:Bool}{cs:List Value}{fuel:Nat}{x:DataW H×List MemPlace}(h:DataW.trod enc Try.prog W 0 sp hd fuel 82 cs=some x):∃d:Vtx,rq W .vtx d cs:=by
 obtain⟨hl,hf⟩:=l7 Try.underlying82 (by kernel_rfl) (by kernel_rfl) h
 obtain⟨n0,y0,h0⟩:=hf 0 _ rfl
 obtain⟨n1,y1,h1⟩:=hf 1 _ rfl
 obtain⟨n2,y2,h2⟩:=hf 2 _ rfl
 obtain⟨n3,y3,h3⟩:=hf 3 _ rfl
 obtain⟨r,e0⟩:=il Try.underlying3 h0
 obtain⟨a,e1⟩:=il Try.underlying3 h1
 obtain⟨ps,v2,e2,r2⟩:=jV Try.underlying22 Try.underlying3 kH h2
 obtain⟨d,e3⟩:=il Try.underlying3 h3
 simp only[List.cons.injEq,and_true] at e2
 refine⟨⟨r,a,ps,d⟩,hl,fun j hj=>?_⟩
 match j,hj with
 |0,_=>rw[e0];exact .int _ _
 |1,_=>rw[e1];exact .int _ _
 |2,_=>rw[e2];exact r2
 |3,_=>rw[e3];exact .int _ _
set_option maxRecDepth 100000 in
theorem tF {H:Type}{enc:TypeId×Value→H}{W:World}{sp:Nat→Bool}{hd:Bool}{v:Value}{d:DataW H}{p:List MemPlace}{base:Nat}(hv:Value.okWide Try.prog W .any base 23 v)(h:DataW.Trod enc Try.prog W 0 sp hd 23 v d p):
  ∃l:List Vtx,Rep (fun k=>k<W.heap.size) W (V.lst .vtx l).toD v:=by
 obtain⟨a0,l0,c0,rfl⟩:=okWide_slice Try.underlying23 hv
 obtain⟨fuel,h⟩:=h
 obtain⟨l,v',e,hr⟩:=row_cells (T:=.vtx) rfl Try.underlying23 (by kernel_rfl) (fun fuel cs x hx=>qA hx) h
 have e:[Value.slice a0 l0 c0]=[v']:=e
 cases e
 exact⟨l,hr⟩

end Go.Proofs.Ytdjplfikgepddaa.Am
