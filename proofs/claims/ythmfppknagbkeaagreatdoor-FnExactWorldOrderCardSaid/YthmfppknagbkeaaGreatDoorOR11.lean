/- The exact laws' own functions: marks on own rows within own rows. The law FnExactWorldCertified. Orders: slots held against each other. Orders: FnWorldOrder. The law FnExactWorldOrder. Arguments of the exact laws on graphs: how they read. Arguments of the exact laws on runs: how they read. -/
import Derived.Test.YthmfppknagbkeaaGreatDoorRows
import Derived.Test.YthmfppknagbkeaaGreatDoorOR10
set_option linter.unusedSimpArgs false
set_option linter.unusedVariables false
set_option maxHeartbeats 1000000
namespace Go.Proofs.YthmfppknagbkeaaGreatDoor.Am
open Go
attribute [local irreducible] Mk ba Ari di jQ f4 bh bV eY d6 At aj
set_option maxRecDepth 10000
theorem sV (a:List Int)(k:Int)(hk:0≤k∧k+a.length≤1000000000):aj Tryz.prog 49 [.ref 4,.int .i64 k] [(4,.row 3 (.int .i64) a)] (.int .i64 (k+a.length)) [(4,.row 3 (.int .i64) (mk k a.length))]:=by
 refine ab ak Tryz.func49 rfl rfl false 1 5 rfl rfl rfl rfl fun K hK hb1 hb2=>?_;simp only[af,enc,Nat.reduceAdd]
 (repeat' first|refine st ?_|refine sa fun xe hxe=>?_|refine sb (fun hq=>?_) fun hq=>?_|exact True.intro)
 refine ah hK [] [0,1,4,5] (fun i:Nat=>⟨[(0,.ref 4),(1,.int .i64 (k+i)),(4,.int .i64 0),(5,.int .i64 i)],[(4,.row 3 (.int .i64) (mk k i++a.drop i))],5⟩) (fun i=>i≤a.length) (fun i=>a.length-i) 0 (by simp) (by simp[mk];rfl) ?_
 intro i hi
 have hlen:(mk k i++a.drop i).length=a.length:=by simp[fm];omega
 by_cases hlt:i<a.length
 ·have hs:(mk k i++a.drop i).set i (k+i)=mk k (i+1)++a.drop (i+1):=by
   rw[cZ _ _ _ (fm k i) hlt,uA]
  generalize mk k i++a.drop i=row at *
  (repeat' first|refine st ?_|refine sa fun xe hxe=>?_|refine sb (fun hq=>?_) fun hq=>?_|exact True.intro)
  refine⟨i+1,by omega,by omega,?_⟩
  rw[←hs,show k+((i+1:Nat):Int)=k+i+1 by omega]
  rfl
 ·obtain rfl:i=a.length:=by omega
  generalize hrow:mk k a.length++a.drop a.length=row at *
  (repeat' first|refine st ?_|refine sa fun xe hxe=>?_|refine sb (fun hq=>?_) fun hq=>?_|exact True.intro)
  subst hrow
  simp
theorem oJ (E:TypeId)(a:List (List Int))(j:Nat)(b:List Int):aG (VB.frow E (.int .i64) a)≤aG (VB.frow E (.int .i64) (a.set j b)):=by simp[aG]
theorem iK (pss:List (List Int))(j:Nat)(a:List Int)(k:Int)(hj:pss[j]?=some a)(hk:0≤k∧k+a.length≤1000000000):aj Tryz.prog 49 [.hro 1 (some j),.int .i64 k] [(1,.frow 3 (.int .i64) pss)] (.int .i64 (k+a.length)) [(1,.frow 3 (.int .i64) (pss.set j (mk k a.length)))]:=by
 have hjl:j<pss.length:=(List.getElem?_eq_some_iff.1 hj).1
 refine ab ak Tryz.func49 rfl rfl false 0 4 rfl rfl rfl rfl fun K hK hb1 hb2=>?_;simp only[af,enc,Nat.reduceAdd]
 clear hb1 hb2
 have h0:pss.set j (mk k 0++a.drop 0)=pss:=by
  apply List.ext_getElem?
  intro x
  rw[List.getElem?_set]
  split
  ·rename_i e
   subst e
   first|rw[if_pos hjl,hj]|rw[hj]
   simp[mk]
  ·rfl
 (repeat' first|refine st ?_|refine sa fun xe hxe=>?_|refine sb (fun hq=>?_) fun hq=>?_|exact True.intro)
 refine ah hK [] [0,1,4,5] (fun i:Nat=>⟨[(0,.hro 1 (some j)),(1,.int .i64 (k+i)),(4,.int .i64 0),(5,.int .i64 i)],[(1,.frow 3 (.int .i64) (pss.set j (mk k i++a.drop i)))],4⟩) (fun i=>i≤a.length) (fun i=>a.length-i) 0 (by simp) (by rw[h0];simp;rfl) ?_
 intro i hi
 have hlen:(mk k i++a.drop i).length=a.length:=by simp[fm];omega
 have hjr:(pss.set j (mk k i++a.drop i))[j]?=some (mk k i++a.drop i):=List.getElem?_set_self hjl
 by_cases hlt:i<a.length
 ·have hs:(pss.set j (mk k i++a.drop i)).set j ((mk k i++a.drop i).set i (k+i))=pss.set j (mk k (i+1)++a.drop (i+1)):=by
   rw[cZ _ _ _ (fm k i) hlt,uA,List.set_set]
  generalize mk k i++a.drop i=row at *
  generalize pss.set j row=ps at *
  (repeat' first|refine st ?_|refine sa fun xe hxe=>?_|refine sb (fun hq=>?_) fun hq=>?_|exact True.intro)
  refine⟨i+1,by omega,by omega,?_⟩
  rw[←hs,show k+((i+1:Nat):Int)=k+i+1 by omega]
  rfl
 ·obtain rfl:i=a.length:=by omega
  rw[show mk k a.length++a.drop a.length=mk k a.length by simp] at *
  generalize pss.set j (mk k a.length)=ps at *
  (repeat' first|refine st ?_|refine sa fun xe hxe=>?_|refine sb (fun hq=>?_) fun hq=>?_|exact True.intro)
  exact⟨rfl,rfl⟩
theorem xr (E:TypeId)(a:List (List VtxO))(j:Nat)(b:List VtxO):aG (VB.frow E (.vtxo 1) a)≤aG (VB.frow E (.vtxo 1) (a.set j b)):=by simp[aG]
theorem ng (vss:List (List VtxO))(w:Nat)(vs:List VtxO)(hw:vss[w]?=some vs)(pss:List (List Int))(g:List Vtx)(k:Int)(hr:VsR pss vs g)(hk:0≤k∧k+cV g≤1000000000):aj Tryz.prog 93 [.hro 0 (some w),.int .i64 k] [(0,.frow 48 (.vtxo 1) vss),(1,.frow 3 (.int .i64) pss)] (.int .i64 (d5 vs k pss).1) [(0,.frow 48 (.vtxo 1) (vss.set w (d5 vs k pss).2.2)),(1,.frow 3 (.int .i64) (d5 vs k pss).2.1)]:=by
 have hwl:w<vss.length:=(List.getElem?_eq_some_iff.1 hw).1
 refine ab ak Tryz.func93 rfl rfl false 0 4 rfl rfl rfl rfl fun K hK hb1 hb2=>?_;simp only[af,enc,Nat.reduceAdd]
 clear hb1 hb2
 have h0:vss.set w ((d5 (vs.take 0) k pss).2.2++vs.drop 0)=vss:=by
  apply List.ext_getElem?
  intro x
  rw[List.getElem?_set]
  split
  ·rename_i e
   subst e
   first|rw[if_pos hwl,hw]|rw[hw]
   simp[d5]
  ·rfl
 (repeat' first|refine st ?_|refine sa fun xe hxe=>?_|refine sb (fun hq=>?_) fun hq=>?_|exact True.intro)
 refine ah hK [] [0,1,5] (fun i:Nat=>⟨[(0,.hro 0 (some w)),(1,.int .i64 (d5 (vs.take i) k pss).1),(5,.int .i64 i)],[(0,.frow 48 (.vtxo 1) (vss.set w ((d5 (vs.take i) k pss).2.2++vs.drop i))),(1,.frow 3 (.int .i64) (d5 (vs.take i) k pss).2.1)],4⟩) (fun i=>i≤vs.length) (fun i=>vs.length-i) 0 (by simp) (by rw[h0];simp[d5];rfl) ?_
 intro i hi
 have hgl:=hr.len
 have hcl:=Cl g
 by_cases hlt:i<vs.length
 ·have hv:g[i]?=some g[i]:=List.getElem?_eq_getElem (by omega)
  obtain⟨j,y,h1,h2,h3,h4,h5,h6,h7,h8⟩:=yu (k:=k) hr hv rfl
  have hc:=zT hv
  have hc2:=Ei g (i+1)
  have hll:((d5 (vs.take i) k pss).2.2++vs.drop i).length=vs.length:=by simp[lj];omega
  have hgw:(vss.set w ((d5 (vs.take i) k pss).2.2++vs.drop i))[w]?=some ((d5 (vs.take i) k pss).2.2++vs.drop i):=List.getElem?_set_self hwl
  have hss:∀b,(vss.set w ((d5 (vs.take i) k pss).2.2++vs.drop i)).set w b=vss.set w b:=fun b=>List.set_set ..
  have hpl:(vss.set w ((d5 (vs.take i) k pss).2.2++vs.drop i)).length=vss.length:=List.length_set
  generalize hr':d5 (vs.take (i+1)) k pss=r' at *
  generalize d5 (vs.take i) k pss=r at *
  obtain⟨r1,r2,r3⟩:=r
  simp only at h1 h2 h4 h5 h6 h7 h8 hll hgw hss hpl⊢
  generalize r3++vs.drop i=row at *
  generalize g[i]=v at *
  generalize vss.set w row=ps at *
  have hti:(i:Int).toNat<row.length:=by simp;omega
  have hwp:w<ps.length:=by omega
  (repeat' first|refine st ?_|refine sa fun xe hxe=>?_|refine sb (fun hq=>?_) fun hq=>?_|exact True.intro)
  obtain rfl:=Option.some.inj ((List.getElem?_set_self hwp).symm.trans hxe)
  clear hxe
  dsimp only
  have hl1:(row.set (i:Int).toNat (⟨r1,v.author,some j,v.digest⟩:VtxO)).length=row.length:=List.length_set
  have hx1:(row.set (i:Int).toNat (⟨r1,v.author,some j,v.digest⟩:VtxO))[(i:Int).toNat]?=some ⟨r1,v.author,some j,v.digest⟩:=List.getElem?_set_self hti
  have hs1:∀x:VtxO,(row.set (i:Int).toNat (⟨r1,v.author,some j,v.digest⟩:VtxO)).set (i:Int).toNat x=row.set i x:=fun x=>by rw[List.set_set,Int.toNat_natCast]
  generalize row.set (i:Int).toNat (⟨r1,v.author,some j,v.digest⟩:VtxO)=row1 at *
  have hw1:(ps.set w row1)[w]?=some row1:=List.getElem?_set_self hwp
  have hp1:∀b,(ps.set w row1).set w b=vss.set w b:=fun b=>by rw[List.set_set,hss]
  have hwp1:w<(ps.set w row1).length:=by rw[List.length_set];exact hwp
  generalize ps.set w row1=ps1 at *
  (repeat' first|refine st ?_|refine sa fun xe hxe=>?_|refine sb (fun hq=>?_) fun hq=>?_|exact True.intro)
  obtain rfl:=Option.some.inj ((List.getElem?_set_self hwp1).symm.trans hxe)
  clear hxe
  dsimp only
  have hl2:(row1.set (i:Int).toNat (⟨r1,r1+1,some j,v.digest⟩:VtxO)).length=row.length:=by rw[List.length_set,hl1]
  have hx2:(row1.set (i:Int).toNat (⟨r1,r1+1,some j,v.digest⟩:VtxO))[(i:Int).toNat]?=some ⟨r1,r1+1,some j,v.digest⟩:=List.getElem?_set_self (by omega)
  have hs2:∀x:VtxO,(row1.set (i:Int).toNat (⟨r1,r1+1,some j,v.digest⟩:VtxO)).set (i:Int).toNat x=row.set i x:=fun x=>by rw[List.set_set,hs1]
  generalize row1.set (i:Int).toNat (⟨r1,r1+1,some j,v.digest⟩:VtxO)=row2 at *
  have hw2:(ps1.set w row2)[w]?=some row2:=List.getElem?_set_self hwp1
  have hp2:∀b,(ps1.set w row2).set w b=vss.set w b:=fun b=>by rw[List.set_set,hp1]
  generalize ps1.set w row2=ps2 at *
  have hM:=iK r2 j y (r1+1+1) h2 (by omega)
  rw[show r1+1+1=r1+2 by omega] at *
  have hF:=oJ 3 r2 j (mk (r1+2) y.length)
  (repeat' first|refine st ?_|refine sa fun xe hxe=>?_|refine sb (fun hq=>?_) fun hq=>?_|refine co (hM) ?_|exact True.intro)
  refine⟨i+1,by omega,by omega,?_⟩
  rw[hr',h6,h7,h8,←hp2,show r1+3+(y.length:Int)=r1+2+y.length+1 by omega,←hs2]
  rfl
 ·obtain rfl:i=vs.length:=by omega
  rw[List.take_of_length_le (Nat.le_refl _),List.drop_eq_nil_of_le (Nat.le_refl _),List.append_nil] at *
  have hlm:=lj vs k pss
  have hgw:(vss.set w (d5 vs k pss).2.2)[w]?=some (d5 vs k pss).2.2:=List.getElem?_set_self hwl
  generalize d5 vs k pss=r at *
  (repeat' first|refine st ?_|refine sa fun xe hxe=>?_|refine sb (fun hq=>?_) fun hq=>?_|exact True.intro)
  exact⟨rfl,rfl⟩
theorem i4 (E:TypeId){a b:List (List Int)}(h:b.map List.length=a.map List.length):aG (VB.frow E (.int .i64) a)≤aG (VB.frow E (.int .i64) b):=by
 have:=congrArg List.length h
 simp only[List.length_map] at this
 simp[aG,this]
theorem mm (hs:List (Option Nat))(pss:List (List Int))(vss:List (List VtxO))(gs:List (List Vtx))(k:Int)(hr:GsR pss vss hs gs)(hn:(hs.map (·.getD 0)).Nodup)(hk:0≤k∧k+cG gs≤1000000000)(hl:hs.length≤1048576):aj Tryz.prog 50 [.ref 4,.int .i64 k] [(0,.frow 48 (.vtxo 1) vss),(1,.frow 3 (.int .i64) pss),(4,.row 73 (.hr 0) hs)] (.int .i64 (dg hs k pss vss).1) [(0,.frow 48 (.vtxo 1) (dg hs k pss vss).2.2),(1,.frow 3 (.int .i64) (dg hs k pss vss).2.1),(4,.row 73 (.hr 0) hs)]:=by
 refine ab ak Tryz.func50 rfl rfl false 1 5 rfl rfl rfl rfl fun K hK hb1 hb2=>?_;simp only[af,enc,Nat.reduceAdd]
 clear hb1 hb2
 (repeat' first|refine st ?_|refine sa fun xe hxe=>?_|refine sb (fun hq=>?_) fun hq=>?_|exact True.intro)
 refine ah hK [] [0,1,5] (fun i:Nat=>⟨[(0,.ref 4),(1,.int .i64 (dg (hs.take i) k pss vss).1),(5,.int .i64 i)],[(0,.frow 48 (.vtxo 1) (dg (hs.take i) k pss vss).2.2),(1,.frow 3 (.int .i64) (dg (hs.take i) k pss vss).2.1),(4,.row 73 (.hr 0) hs)],5⟩) (fun i=>i≤hs.length) (fun i=>hs.length-i) 0 (by simp) rfl ?_
 intro i hi
 have hgl:=hr.len
 by_cases hlt:i<hs.length
 ·have hv:gs[i]?=some gs[i]:=List.getElem?_eq_getElem (by omega)
  obtain⟨j,vs,g',h1,h2,h3,h4,h5,h6,h7,h8⟩:=yn (k:=k) hr hn hv rfl
  have hc:=zR hv
  have hc2:=Ef gs (i+1)
  generalize hr':dg (hs.take (i+1)) k pss vss=r' at *
  generalize dg (hs.take i) k pss vss=r at *
  obtain⟨r1,r2,r3⟩:=r
  simp only at h2 h3 h5 h6 h7 h8⊢
  have hM:=ng r3 j vs h2 r2 g' r1 h3 (by omega)
  have hF0:=xr 48 r3 j (d5 vs r1 r2).2.2
  have hF1:=i4 3 (gj vs r1 r2)
  generalize d5 vs r1 r2=m at *
  (repeat' first|refine st ?_|refine sa fun xe hxe=>?_|refine sb (fun hq=>?_) fun hq=>?_|refine co (hM) ?_|exact True.intro)
  refine⟨i+1,by omega,by omega,?_⟩
  rw[hr',h6,h7,h8]
  rfl
 ·obtain rfl:i=hs.length:=by omega
  rw[List.take_of_length_le (Nat.le_refl _)] at *
  generalize dg hs k pss vss=r at *
  (repeat' first|refine st ?_|refine sa fun xe hxe=>?_|refine sb (fun hq=>?_) fun hq=>?_|exact True.intro)
  exact⟨rfl,rfl⟩
theorem kO (vs:List PplO)(pss:List (List Int))(g:List Ppl)(k:Int)(hr:PsR pss vs g)(hk:0≤k∧k+cP g≤1000000000):aj Tryz.prog 51 [.ref 4,.int .i64 k] [(1,.frow 3 (.int .i64) pss),(4,.row 50 (.pplo 1 1) vs)] (.int .i64 (f5 vs k pss).1) [(1,.frow 3 (.int .i64) (f5 vs k pss).2.1),(4,.row 50 (.pplo 1 1) (f5 vs k pss).2.2)]:=by
 refine ab ak Tryz.func51 rfl rfl false 1 5 rfl rfl rfl rfl fun K hK hb1 hb2=>?_;simp only[af,enc,Nat.reduceAdd]
 clear hb1 hb2
 (repeat' first|refine st ?_|refine sa fun xe hxe=>?_|refine sb (fun hq=>?_) fun hq=>?_|exact True.intro)
 refine ah hK [] [0,1,5] (fun i:Nat=>⟨[(0,.ref 4),(1,.int .i64 (f5 (vs.take i) k pss).1),(5,.int .i64 i)],[(1,.frow 3 (.int .i64) (f5 (vs.take i) k pss).2.1),(4,.row 50 (.pplo 1 1) ((f5 (vs.take i) k pss).2.2++vs.drop i))],5⟩) (fun i=>i≤vs.length) (fun i=>vs.length-i) 0 (by simp) (by simp[f5];rfl) ?_
 intro i hi
 have hgl:=hr.len
 have hcl:=Ck g
 by_cases hlt:i<vs.length
 ·have hv:g[i]?=some g[i]:=List.getElem?_eq_getElem (by omega)
  obtain⟨j,y,j2,y2,h1,h2,h2',h3,h3',h4,h5,h6,h7,h8⟩:=yt (k:=k) hr hv rfl
  have hc:=zS hv
  have hc2:=Eh g (i+1)
  have hll:((f5 (vs.take i) k pss).2.2++vs.drop i).length=vs.length:=by simp[le];omega
  generalize hr':f5 (vs.take (i+1)) k pss=r' at *
  generalize f5 (vs.take i) k pss=r at *
  obtain⟨r1,r2,r3⟩:=r
  simp only at h1 h2 h2' h4 h5 h6 h7 h8 hll⊢
  generalize r3++vs.drop i=row at *
  generalize g[i]=v at *
  have hti:(i:Int).toNat<row.length:=by simp;omega
  (repeat' first|refine st ?_|refine sa fun xe hxe=>?_|refine sb (fun hq=>?_) fun hq=>?_|exact True.intro)
  rename_i ya hya
  obtain rfl:=Option.some.inj ((List.getElem?_set_self hti).symm.trans hya)
  obtain rfl:=Option.some.inj ((List.getElem?_set_self (by rw[List.length_set];exact hti)).symm.trans hxe)
  clear hya hxe
  dsimp only
  rw[List.set_set]
  have hg2:(i:Int).toNat<(row.set (i:Int).toNat (⟨⟨r1,r1+1,some j,v.v.digest⟩,some j2⟩:PplO)).length:=by rw[List.length_set];exact hti
  have hg3:(row.set (i:Int).toNat (⟨⟨r1,r1+1,some j,v.v.digest⟩,some j2⟩:PplO))[(i:Int).toNat]?=some ⟨⟨r1,r1+1,some j,v.v.digest⟩,some j2⟩:=List.getElem?_set_self hti
  have hg4:∀x:PplO,(row.set (i:Int).toNat (⟨⟨r1,r1+1,some j,v.v.digest⟩,some j2⟩:PplO)).set (i:Int).toNat x=row.set i x:=fun x=>by rw[List.set_set,Int.toNat_natCast]
  generalize row.set (i:Int).toNat (⟨⟨r1,r1+1,some j,v.v.digest⟩,some j2⟩:PplO)=row2 at *
  have hM:=iK r2 j y (r1+1+1) h2 (by omega)
  rw[show r1+1+1=r1+2 by omega] at *
  have hF:=oJ 3 r2 j (mk (r1+2) y.length)
  (repeat(any_goals(first|refine st ?_|refine sa fun xe hxe=>?_|refine sb (fun hq=>?_) fun hq=>?_|refine co (hM) ?_|exact True.intro)))
  obtain rfl:=Option.some.inj ((List.getElem?_set_self hg2).symm.trans hxe)
  clear hxe hM hF
  dsimp only
  rw[hg4]
  have hM:=iK (r2.set j (mk (r1+2) y.length)) j2 y2 (r1+2+y.length+1) h2' (by omega)
  rw[show r1+3+(y.length:Int)=r1+2+y.length+1 by omega] at *
  have hF:=oJ 3 (r2.set j (mk (r1+2) y.length)) j2 (mk (r1+2+y.length+1) y2.length)
  generalize r2.set j (mk (r1+2) y.length)=r4 at *
  (repeat' first|refine st ?_|refine sa fun xe hxe=>?_|refine sb (fun hq=>?_) fun hq=>?_|refine co (hM) ?_|exact True.intro)
  refine⟨i+1,by omega,by omega,?_⟩
  rw[hr',h6,h7,h8]
  rfl
 ·obtain rfl:i=vs.length:=by omega
  rw[List.take_of_length_le (Nat.le_refl _),List.drop_eq_nil_of_le (Nat.le_refl _),List.append_nil] at *
  have hlm:=le vs k pss
  generalize f5 vs k pss=r at *
  (repeat' first|refine st ?_|refine sa fun xe hxe=>?_|refine sb (fun hq=>?_) fun hq=>?_|exact True.intro)
  exact⟨rfl,rfl⟩
theorem qZ (a b:List Int)(bad:Int)(vss:List (List VtxO))(pss:List (List Int))(hs:List (Option Nat))(ps:List PplO)(gs:List (List Vtx))(qs:List Ppl)(k:Int)(h:WO vss pss hs ps gs qs)(hl:hs.length≤1048576)(hk:0≤k∧k+(a.length+b.length+cG gs+cP qs:Nat)≤1000000000):
  ∃x:(Int×List (List Int)×List (List VtxO))×(Int×List (List Int)×List PplO),(x.1=dg hs (k+a.length+b.length) pss vss∧x.2=f5 ps x.1.1 x.1.2.1)∧aj Tryz.prog 14 [DW bad,.int .i64 k] [(0,.frow 48 (.vtxo 1) vss),(1,.frow 3 (.int .i64) pss),(4,.row 3 (.int .i64) a),(5,.row 3 (.int .i64) b),(6,.row 73 (.hr 0) hs),(7,.row 50 (.pplo 1 1) ps)]
   (.int .i64 x.2.1) [(0,.frow 48 (.vtxo 1) x.1.2.2),(1,.frow 3 (.int .i64) x.2.2.1),(4,.row 3 (.int .i64) (mk k a.length)),(5,.row 3 (.int .i64) (mk (k+a.length) b.length)),(6,.row 73 (.hr 0) hs),(7,.row 50 (.pplo 1 1) x.2.2.2)]:=by
 refine⟨(dg hs (k+a.length+b.length) pss vss,f5 ps (dg hs (k+a.length+b.length) pss vss).1 (dg hs (k+a.length+b.length) pss vss).2.1),⟨rfl,rfl⟩,?_⟩
 obtain⟨h1,h2,h3,-,-⟩:=h.mark (k+a.length+b.length)
 have hG:=mm hs pss vss gs (k+a.length+b.length) h.g h.hn (by omega) hl
 have hP:=kO ps (dg hs (k+a.length+b.length) pss vss).2.1 qs (dg hs (k+a.length+b.length) pss vss).1 h1 (by omega)
 have hF0:aG (VB.frow 48 (.vtxo 1) vss)≤aG (VB.frow 48 (.vtxo 1) (dg hs (k+a.length+b.length) pss vss).2.2):=by
  have key:∀(hs:List (Option Nat)) (k:Int) (pss:List (List Int)) (vss:List (List VtxO)),(dg hs k pss vss).2.2.length=vss.length:=by
   intro hs
   induction hs with
   |nil=>intros;rfl
   |cons x l ih=>intro k pss vss;simp only[dg];rw[ih,List.length_set]
  simp[aG,key]
 have hF1:=i4 3 (jf hs (k+a.length+b.length) pss vss)
 have hF2:=i4 3 (gh ps (dg hs (k+a.length+b.length) pss vss).1 (dg hs (k+a.length+b.length) pss vss).2.1)
 generalize dg hs (k+a.length+b.length) pss vss=x at *
 generalize f5 ps x.1 x.2.1=y at *
 refine ab ak Tryz.func14 rfl rfl false 4 8 rfl rfl rfl rfl fun K hK hb1 hb2=>?_;simp only[af,enc,Nat.reduceAdd]
 clear hb1 hb2
 (repeat' first|refine st ?_|refine sa fun xe hxe=>?_|refine sb (fun hq=>?_) fun hq=>?_|refine co (hG) ?_|refine co (hP) ?_|((with_reducible refine wU ?_);(conv=>whnf);(first|with_reducible refine dp (sV _ _ (by omega)) ?_);conv=>whnf)|exact True.intro)
 exact⟨rfl,rfl⟩
theorem Ee (gs:List (List Vtx)):cG gs≤3*mZ gs:=by
 have hv:∀g:List Vtx,cV g≤3*sK g:=fun g=>by
  unfold cV sK dN
  induction g with
  |nil=>simp
  |cons v g ih=>simp only[List.map_cons,List.sum_cons,List.length_cons] at ih⊢;omega
 unfold cG mZ
 induction gs with
 |nil=>simp
 |cons g l ih=>have:=hv g;simp only[List.map_cons,List.sum_cons] at ih⊢;omega
theorem Eg (ps:List Ppl):cP ps=3*ps.length+nS ps:=by
 unfold cP nS nh
 induction ps with
 |nil=>rfl
 |cons p l ih=>simp only[List.map_cons,List.sum_cons,List.length_cons] at ih⊢;omega
theorem Cq {w:Wrl}(h:Cd w≤1048576):w.com.length+w.lead.length+cG w.views+cP w.props≤10000000:=by
 have h1:=Ee w.views
 have h2:=Eg w.props
 unfold Cd at h
 omega
end Go.Proofs.YthmfppknagbkeaaGreatDoor.Am
namespace Go.Proofs.YthmfppknagbkeaaGreatDoor.Am
open Go
attribute [local irreducible] Mk ba Ari di jQ f4 bh bV eY d6 At aj nv
set_option maxRecDepth 10000
theorem yH (c:List Int)(g:List Vtx)(l:List Int)(hgl:g.length≤1000):(ordS c g l).length≤1000000:=by
 cases hw:wB c g l
 ·rw[ordS,hw];simp
 ·obtain⟨hg,hl⟩:graS c g=true∧leaS c l=true:=by simpa[wB] using hw
  have hok:=gU hg
  have hll:=(aW.1 hl).2
  have hol:=ij g l (cmt c g l l.length).1 []
  have hcl:=gK c g l hok.com l.length
  rw[←uG l hw,List.length_map]
  refine Nat.le_trans hol ?_
  simp only[List.length_nil,Nat.zero_add]
  exact Nat.le_trans (Nat.mul_le_mul (show (cmt c g l l.length).1.length≤15 by omega) hgl) (by omega)
theorem DV {w:Wrl}(hw:WOK w)(m:Int):(wo w m).length≤1000000:=by
 rw[wo]
 split
 ·rename_i h
  simp only[Bool.and_eq_true] at h
  have hb:=av.1 h.2
  refine yH _ _ _ ?_
  have:=hw.vl _ (Bz hw (m:=m.toNat) (by omega))
  omega
 ·simp
theorem BH (w:Wrl)(m:Int):(wo w m).length≤1000000:=by
 cases h:iy w
 ·rw[wo,h]
  simp
 ·exact DV (pQ.1 h) m
theorem xo (s:Slt):aj Tryz.prog 45 [.agg [.int .i64 s.round,.int .i64 s.author],.agg [.int .i64 s.round,.int .i64 s.author]] [] (.bool true) []:=by
 refine ab ak Tryz.func45 rfl rfl false 0 4 rfl rfl rfl rfl fun K hK hb1 hb2=>?_;simp only[af,enc,Nat.reduceAdd]
 clear hb1 hb2
 (repeat' first|refine st ?_|refine sa fun xe hxe=>?_|refine sb (fun hq=>?_) fun hq=>?_|exact True.intro)
 all_goals first|(exact⟨rfl,rfl⟩)|exact absurd rfl hq|exact absurd trivial hq|cases hq
theorem vA (g:List Slt):aj Tryz.prog 12 [.lst .slt g,.lst .slt g] [] (.bool true) []:=by
 refine ab ak Tryz.func12 rfl rfl false 0 4 rfl rfl rfl rfl fun K hK hb1 hb2=>?_;simp only[af,enc,Nat.reduceAdd]
 simp[ae,V.toD,bnd,aa,D.cells] at hb1
 (repeat' first|refine st ?_|refine sa fun xe hxe=>?_|refine sb (fun hq=>?_) fun hq=>?_|exact True.intro)
 ·exact absurd trivial hq
 refine ah hK [] [0,1,5] (fun i:Nat=>⟨[(0,.lst .slt g),(1,.lst .slt g),(5,.int .i64 i)],[],4⟩) (fun i=>i≤g.length) (fun i=>g.length-i) 0 (by simp) rfl ?_
 intro i hi
 by_cases hlt:i<g.length
 ·have hx:g[i]?=some g[i]:=List.getElem?_eq_getElem hlt
  generalize g[i]=x at *
  (repeat' first|refine st ?_|refine sa fun xe hxe=>?_|refine sb (fun hq=>?_) fun hq=>?_|refine cr (xo _) ?_|exact True.intro)
  exact⟨i+1,by omega,by omega,rfl⟩
 ·(repeat' first|refine st ?_|refine sa fun xe hxe=>?_|refine sb (fun hq=>?_) fun hq=>?_|exact True.intro)
  exact⟨rfl,rfl⟩
def eV (k:Int)(n:Nat):List Slt:=(List.range n).map fun i:Nat=>⟨k+2*i,k+2*i+1⟩
theorem fl (k:Int)(n:Nat):(eV k n).length=n:=by simp[eV]
theorem yp (k:Int){n i:Nat}(h:i<n):(eV k n)[i]?=some ⟨k+2*i,k+2*i+1⟩:=by simp[eV,h]
theorem vU (k:Int)(n:Nat):eV k (n+1)=eV k n++[⟨k+2*n,k+2*n+1⟩]:=by simp[eV,List.range_succ]
theorem qY (a:List Slt)(k:Int)(hk:0≤k∧k+2*a.length≤1000000000):aj Tryz.prog 15 [.ref 4,.int .i64 k] [(4,.row 54 .slt a)] (.int .i64 (k+2*a.length)) [(4,.row 54 .slt (eV k a.length))]:=by
 refine ab ak Tryz.func15 rfl rfl false 1 5 rfl rfl rfl rfl fun K hK hb1 hb2=>?_;simp only[af,enc,Nat.reduceAdd]
 clear hb1 hb2
 (repeat' first|refine st ?_|refine sa fun xe hxe=>?_|refine sb (fun hq=>?_) fun hq=>?_|exact True.intro)
 refine ah hK [] [0,1,5] (fun i:Nat=>⟨[(0,.ref 4),(1,.int .i64 (k+2*i)),(5,.int .i64 i)],[(4,.row 54 .slt (eV k i++a.drop i))],5⟩) (fun i=>i≤a.length) (fun i=>a.length-i) 0 (by simp) (by simp[eV];rfl) ?_
 intro i hi
 by_cases hlt:i<a.length
 ·have h1:(eV k i++a.drop i)[i]?=some a[i]:=by rw[pf _ _ (fl k i),List.getElem?_eq_getElem hlt]
  have h5:i<(eV k i++a.drop i).length:=by simp[fl];omega
  have hs:(eV k i++a.drop i).set i ⟨k+2*i,k+2*i+1⟩=eV k (i+1)++a.drop (i+1):=by rw[my _ _ _ (fl k i) hlt,vU]
  have hll:(eV k i++a.drop i).length=a.length:=by simp[fl];omega
  generalize eV k i++a.drop i=row at *
  generalize a[i]=v at *
  (repeat' first|refine st ?_|refine sa fun xe hxe=>?_|refine sb (fun hq=>?_) fun hq=>?_|exact True.intro)
  have hti:(i:Int).toNat<row.length:=by simp;omega
  obtain rfl:=Option.some.inj ((List.getElem?_set_self hti).symm.trans hxe)
  clear hxe
  dsimp only
  simp only[List.set_set]
  refine⟨i+1,by omega,by omega,?_⟩
  rw[←hs,Int.toNat_natCast,show k+2*((i+1:Nat):Int)=k+2*i+1+1 by omega]
  rfl
 ·obtain rfl:i=a.length:=by omega
  rw[List.drop_eq_nil_of_le (Nat.le_refl _),List.append_nil]
  have hlm:=fl k a.length
  generalize eV k a.length=r at *
  (repeat' first|refine st ?_|refine sa fun xe hxe=>?_|refine sb (fun hq=>?_) fun hq=>?_|exact True.intro)
  exact⟨rfl,rfl⟩
theorem qK (n:Nat)(k:Int)(hk:0≤k∧k+2*n≤1000000000):aj Tryz.prog 16 [.lst .slt (eV k n),.int .i64 k] [] (.int .i64 (k+2*n)) []:=by
 have hl:=fl k n
 refine ab ak Tryz.func16 rfl rfl false 0 4 rfl rfl rfl rfl fun K hK hb1 hb2=>?_;simp only[af,enc,Nat.reduceAdd]
 clear hb1 hb2
 (repeat' first|refine st ?_|refine sa fun xe hxe=>?_|refine sb (fun hq=>?_) fun hq=>?_|exact True.intro)
 refine ah hK [] [0,1,5] (fun i:Nat=>⟨[(0,.lst .slt (eV k n)),(1,.int .i64 (k+2*i)),(5,.int .i64 i)],[],4⟩) (fun i=>i≤n) (fun i=>n-i) 0 (by simp) (by simp;rfl) ?_
 intro i hi
 by_cases hlt:i<n
 ·have hxe:=yp k hlt
  generalize eV k n=row at *
  (repeat' first|refine st ?_|refine sa fun xe hxe=>?_|refine sb (fun hq=>?_) fun hq=>?_|exact True.intro)
  all_goals first|(exfalso;simp at hq;done)|(exfalso;omega)|skip
  refine⟨i+1,by omega,by omega,?_⟩
  rw[show k+2*((i+1:Nat):Int)=k+2*i+1+1 by omega]
  rfl
 ·obtain rfl:i=n:=by omega
  generalize eV k i=row at *
  (repeat' first|refine st ?_|refine sa fun xe hxe=>?_|refine sb (fun hq=>?_) fun hq=>?_|exact True.intro)
  exact⟨rfl,rfl⟩
def cQ (w:Wrl):Nat:=w.com.length+w.lead.length+cG w.views+cP w.props
theorem vO (w:Wrl)(h:Cd w≤1048576)(hs:Small w):
  ∃(a:List (List VtxO)) (b:List (List Int)) (c:List PplO),aG (VB.frow 48 (.vtxo 1) (mY 0 w.views))≤aG (VB.frow 48 (.vtxo 1) a)∧aG (VB.frow 3 (.int .i64) (cI w.views++eD w.props))≤aG (VB.frow 3 (.int .i64) b)∧
   aj Tryz.prog 14 [DW w.bad,.int .i64 1] [(0,.frow 48 (.vtxo 1) (mY 0 w.views)),(1,.frow 3 (.int .i64) (cI w.views++eD w.props)),(4,.row 3 (.int .i64) w.com),(5,.row 3 (.int .i64) w.lead),(6,.row 73 (.hr 0) ((List.range w.views.length).map some)),(7,.row 50 (.pplo 1 1) (lr (cI w.views).length w.props))] (.int .i64 (1+cQ w))
    [(0,.frow 48 (.vtxo 1) a),(1,.frow 3 (.int .i64) b),(4,.row 3 (.int .i64) (mk 1 w.com.length)),(5,.row 3 (.int .i64) (mk (1+w.com.length) w.lead.length)),(6,.row 73 (.hr 0) ((List.range w.views.length).map some)),(7,.row 50 (.pplo 1 1) c)]:=by
 have hW:=vb w.views w.props
 have hc:(w.com.length+w.lead.length+cG w.views+cP w.props:Nat)=cQ w:=rfl
 have hcn:=Cq h
 obtain⟨⟨x,y⟩,⟨hx,hy⟩,hM⟩:=qZ w.com w.lead w.bad _ _ _ _ _ _ 1 hW (by simpa using hs.vlen) (by omega)
 obtain⟨m1,m2,m3,-,-⟩:=hW.mark (1+w.com.length+w.lead.length)
 dsimp only at hx hy hM m3
 rw[←hx,←hy] at m3
 have hy2:y.1=1+cQ w:=by rw[m3];omega
 rw[hy2] at hM
 have key:∀(hs:List (Option Nat)) (k:Int) (pss:List (List Int)) (vss:List (List VtxO)),(dg hs k pss vss).2.2.length=vss.length:=by
  intro hs
  induction hs with
  |nil=>intros;rfl
  |cons x l ih=>intro k pss vss;simp only[dg];rw[ih,List.length_set]
 refine⟨_,_,_,?_,?_,hM⟩
 ·rw[hx]
  simp[aG,key]
 ·refine i4 _ ?_
  rw[hy,gh,hx,jf]
set_option maxHeartbeats 16000000 in
theorem sQ (w:Wrl)(m:Int):aj Tryz.prog 3 [bU w,.int .i64 m] [] (.bool true) []:=by
 have hsz:=wk w 1048576 (by omega)
 unfold ld at hsz
 refine ab ak Tryz.func3 rfl rfl false 0 4 rfl rfl rfl rfl fun K hK hb1 hb2=>?_;simp only[af,enc,Nat.reduceAdd]
 clear hb1 hb2
 by_cases hl:(1048576:Int)-(Cd w:Nat)<0
 ·rw[if_pos hl] at hsz
  (repeat' first|refine st ?_|refine sa fun xe hxe=>?_|refine sb (fun hq=>?_) fun hq=>?_|refine cr (hsz) ?_|exact True.intro)
  exact⟨rfl,rfl⟩
 rw[if_neg hl] at hsz
 have hs:Small w:=zh (by omega)
 have hvw:∀g∈w.views,g.length≤2000000:=fun g hg=>by have:=(hs.view g hg).1;omega
 obtain⟨a0,b0,c0,hF0,hF1,hM0⟩:=vO w (by omega) hs
 have hI:=C9 w m hvw
 have hS:=EZ w m (by have:=hs.com;omega)
 have hO:=wn w hs
 have hT:=wm w hs
 have hEw:=vC w
 have hW:=vb w.views w.props
 have hd1:=hW.readG
 have hd2:=hW.readP
 have hwl:=BH w m
 generalize wo w m=s at *
 generalize mY 0 w.views=vss at *
 generalize lr (cI w.views).length w.props=pso at *
 generalize cI w.views++eD w.props=pss at *
 generalize (List.range w.views.length).map some=hh at *
 clear hW
 have hE:=vA s
 have hH:=qK s.length 1 (by omega)
 have hMs:=qY s 1 (by omega)
 (repeat' first|refine st ?_|refine sa fun xe hxe=>?_|refine sb (fun hq=>?_) fun hq=>?_|refine cr (hsz) ?_|exact True.intro)
 refine cr hT ?_
 (repeat' first|refine st ?_|refine sa fun xe hxe=>?_|refine sb (fun hq=>?_) fun hq=>?_|refine cr (hS) ?_|refine cr (hO) ?_|exact True.intro)
 (repeat' first|refine st ?_|refine sa fun xe hxe=>?_|refine sb (fun hq=>?_) fun hq=>?_|((with_reducible refine wT ?_);(conv=>whnf))|((first|with_reducible refine dp (hI) ?_);conv=>whnf)|exact True.intro)
 (repeat' first|refine st ?_|refine sa fun xe hxe=>?_|refine sb (fun hq=>?_) fun hq=>?_|refine cr (hT) ?_|refine cr (hI) ?_|refine cr (hE) ?_|refine cr (hH) ?_|refine co (hM0) ?_|refine co (hMs) ?_|((with_reducible refine wT ?_);(conv=>whnf))|((first|with_reducible refine dp (hE) ?_|with_reducible refine dp (hEw) ?_|with_reducible refine dp (hH) ?_);conv=>whnf)|exact True.intro)
 all_goals first|(exact⟨rfl,rfl⟩)|exact absurd rfl hq|exact absurd trivial hq|cases hq
end Go.Proofs.YthmfppknagbkeaaGreatDoor.Am
namespace Go.Proofs.YthmfppknagbkeaaGreatDoor.Am
open Go Go.RowKit Go.ChangeShapes Go.WideShapes Go.ChangeAt
theorem gH:Tryz.prog.cellsOf 3=1:=by kernel_rfl
set_option maxRecDepth 100000 in
theorem Ay {H:Type}{enc:TypeId×Value→H}{W:World}{sp:Nat→Bool}{hd:Bool}{v:Value}{d:DataW H}{p:List MemPlace}{base:Nat}(hv:Value.okWide Tryz.prog W .any base 3 v)(h:DataW.Trod enc Tryz.prog W 0 sp hd 3 v d p):
  ∃n:Int,v= .int .i64 n:=by
 obtain⟨n,rfl⟩:=okWide_int Tryz.underlying3 hv
 exact⟨n,rfl⟩
set_option maxRecDepth 100000 in
theorem n6 {H:Type}{enc:TypeId×Value→H}{W:World}{sp:Nat→Bool}{hd:Bool}{cs:List Value}{fuel:Nat}{x:DataW H×List MemPlace}(h:DataW.trod enc Tryz.prog W 0 sp hd fuel 117 cs=some x):∃d:Vtx,tG W .vtx d cs:=by
 obtain⟨hl,hf⟩:=pu Tryz.underlying117 (by kernel_rfl) (by kernel_rfl) h
 obtain⟨n0,y0,h0⟩:=hf 0 _ rfl
 obtain⟨n1,y1,h1⟩:=hf 1 _ rfl
 obtain⟨n2,y2,h2⟩:=hf 2 _ rfl
 obtain⟨n3,y3,h3⟩:=hf 3 _ rfl
 obtain⟨r,e0⟩:=hX Tryz.underlying3 h0
 obtain⟨a,e1⟩:=hX Tryz.underlying3 h1
 obtain⟨ps,v2,e2,r2⟩:=fJ Tryz.underlying22 Tryz.underlying3 gH h2
 obtain⟨d,e3⟩:=hX Tryz.underlying3 h3
 simp only[List.cons.injEq,and_true] at e2
 refine⟨⟨r,a,ps,d⟩,hl,fun j hj=>?_⟩
 match j,hj with
 |0,_=>rw[e0];exact .int _ _
 |1,_=>rw[e1];exact .int _ _
 |2,_=>rw[e2];exact r2
 |3,_=>rw[e3];exact .int _ _
theorem rH {H:Type}{enc:TypeId×Value→H}{P:Program}{W:World}{sp:Nat→Bool}{hd:Bool}{t:TypeId}{fs:Array Field}{cs:List Value}{fuel:Nat}{x:DataW H×List MemPlace}(ht:P.underlying t=some (.struct fs))
  (h:DataW.trod enc P W 0 sp hd fuel t cs=some x):cs.length=P.cellsOf t∧∀(i:Nat) (f:Field),fs[i]?=some f→∃fuel y,DataW.trod enc P W 0 sp hd fuel f.type ((cs.drop f.offset).take (P.cellsOf f.type))=some y:=by
 obtain⟨xs,n,-,-,hlc,hl,hx⟩:=DataW.trod_struct ht h
 refine⟨by omega,fun i f hi=>?_⟩
 have hi':=(Array.getElem?_eq_some_iff.1 hi).1
 have h1:=hx i f hi
 exact⟨n,xs[i],by rw[h1,List.getElem?_eq_getElem (by omega)]⟩
theorem nE (cs:List Value){o n j:Nat}(hj:j<n):((cs.drop o).take n).getD j undef=cs.getD (o+j) undef:=by
 simp[List.getD_eq_getElem?_getD,List.getElem?_take,List.getElem?_drop,hj]
set_option maxRecDepth 100000 in
theorem vw:Tryz.prog.cellsOf 117=4:=by kernel_rfl
theorem sm:Tryz.prog.cellsOf 22=1:=by kernel_rfl
set_option maxRecDepth 100000 in
theorem wb {H:Type}{enc:TypeId×Value→H}{W:World}{sp:Nat→Bool}{hd:Bool}{cs:List Value}{fuel:Nat}{x:DataW H×List MemPlace}(h:DataW.trod enc Tryz.prog W 0 sp hd fuel 119 cs=some x):∃d:Ppl,tG W .ppl d cs:=by
 obtain⟨hl,hf⟩:=rH Tryz.underlying119 h
 have hl5:cs.length=5:=hl.trans (by kernel_rfl)
 obtain⟨n0,y0,h0⟩:=hf 0 _ rfl
 obtain⟨n1,y1,h1⟩:=hf 1 _ rfl
 obtain⟨v,hv1,hv2⟩:=n6 h0
 obtain⟨ms,v2,e2,r2⟩:=fJ Tryz.underlying22 Tryz.underlying3 gH h1
 have e3:cs.getD 4 undef=v2:=by
  have:=nE cs (o:=4) (n:=1) (j:=0) (by omega)
  rw[Nat.add_zero] at this
  rw[←this]
  have e4:(cs.drop 4).take 1=[v2]:=by
   have this:(cs.drop 4).take (Tryz.prog.cellsOf 22)=[v2]:=e2
   rw[sm] at this
   exact this
  rw[e4]
  rfl
 have hvv:∀j,j<4→Rep (fun k=>k<W.heap.size) W ((aa .vtx v).cells.getD j .undef) (cs.getD j undef):=fun j hj=>by
  have h5:Rep (fun k=>k<W.heap.size) W ((aa .vtx v).cells.getD j .undef) (((cs.drop 0).take (Tryz.prog.cellsOf 117)).getD j undef):=hv2 j hj
  rw[vw,nE cs hj,Nat.zero_add] at h5
  exact h5
 refine⟨⟨v,ms⟩,hl5,fun j hj=>?_⟩
 match j,hj with
 |0,_=>exact hvv 0 (by omega)
 |1,_=>exact hvv 1 (by omega)
 |2,_=>exact hvv 2 (by omega)
 |3,_=>exact hvv 3 (by omega)
 |4,_=>rw[e3];exact r2
set_option maxRecDepth 100000 in
theorem BI {H:Type}{enc:TypeId×Value→H}{W:World}{sp:Nat→Bool}{hd:Bool}{v:Value}{d:DataW H}{p:List MemPlace}{base:Nat}(hv:Value.okWide Tryz.prog W .any base 26 v)(h:DataW.Trod enc Tryz.prog W 0 sp hd 26 v d p):
  ∃w:Wrl,Rep (fun k=>k<W.heap.size) W (V.agg [.lst (.int .i64) w.com,.lst (.int .i64) w.lead,.int .i64 w.bad,.lst (.lst .vtx) w.views,.lst .ppl w.props]).toD v:=by
 obtain⟨vs,rfl,hs,hf⟩:=Br Tryz.underlying26 (by kernel_rfl) (by kernel_rfl) hv h
 obtain⟨n0,y0,h0⟩:=hf 0 _ rfl
 obtain⟨n1,y1,h1⟩:=hf 1 _ rfl
 obtain⟨n2,y2,h2⟩:=hf 2 _ rfl
 obtain⟨n3,y3,h3⟩:=hf 3 _ rfl
 obtain⟨n4,y4,h4⟩:=hf 4 _ rfl
 obtain⟨c,v0,e0,r0⟩:=fJ Tryz.underlying22 Tryz.underlying3 gH h0
 obtain⟨l,v1,e1,r1⟩:=fJ Tryz.underlying22 Tryz.underlying3 gH h1
 obtain⟨b,e2⟩:=hX Tryz.underlying3 h2
 obtain⟨gs,v3,e3,r3⟩:=row_cells (T:=.lst .vtx) rfl Tryz.underlying23 (by kernel_rfl) (fun fuel cs x hx=>by
  obtain⟨g,u,rfl,hr⟩:=row_cells (T:=.vtx) rfl Tryz.underlying115 (by kernel_rfl) (fun fuel cs x hx=>n6 hx) hx
  refine⟨g,rfl,fun j hj=>?_⟩
  obtain rfl:j=0:=by have:j<1:=hj;omega
  exact hr) h3
 obtain⟨ps,v4,e4,r4⟩:=row_cells (T:=.ppl) rfl Tryz.underlying24 (by kernel_rfl) (fun fuel cs x hx=>wb hx) h4
 simp only[List.cons.injEq,and_true] at e0 e1 e3 e4
 refine⟨⟨c,l,b,gs,ps⟩,Bb hs.symm fun i hi=>?_⟩
 match i,hi with
 |0,_=>rw[e0];exact r0
 |1,_=>rw[e1];exact r1
 |2,_=>rw[e2];exact .int _ _
 |3,_=>rw[e3];exact r3
 |4,_=>rw[e4];exact r4

end Go.Proofs.YthmfppknagbkeaaGreatDoor.Am
