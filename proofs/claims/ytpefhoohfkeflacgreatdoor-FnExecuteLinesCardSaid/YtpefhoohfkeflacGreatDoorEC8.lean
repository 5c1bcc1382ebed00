/- Runs: what the specification's functions give. Runs: new runs, and the specification's checks. What is drawn: the reader of bytes. What is drawn for graphs. New runs: what the program gives; equal runs; the law FnWorldNew. The plain machine with types: a cut between two parts. The plain machine: a row into which an element is put, by the shelf's contract of slices.Insert. Runs: a member is searched and put among the voters (by the shelf's contracts of slices.BinarySearch and slices.Insert). Runs while events are applied: what is asked of a run, what is added. Runs while events are applied: pla -/
import Derived.Shelf.Spec.SlicesInsertGrow
import Derived.Shelf.Slices.SearchI
import Derived.Shelf.Slices.Empties
import Derived.Test.YtpefhoohfkeflacGreatDoorEC7
set_option linter.unusedSimpArgs false
set_option linter.unusedVariables false
set_option maxHeartbeats 1000000
namespace Go.Proofs.YtpefhoohfkeflacGreatDoor.Am
open Go
attribute [local irreducible] Mk ci Ari fB mA ju b9 cR iT fo At ag
set_option maxRecDepth 10000
theorem Bl (l:List Int)(n:Int):ag Tryz.prog 79 [.lst (.int .i64) l,.int .i64 n] [] (.bool (l.contains n)) []:=by
 refine ab aj Tryz.func79 rfl rfl false 0 4 rfl rfl rfl rfl fun K hK hb1 hb2=>?_;simp only[ae,enc,Nat.reduceAdd]
 simp[ak,V.toD,bnd,ai,D.cells] at hb1
 (repeat' first|refine st ?_|refine sa fun xe hxe=>?_|refine sb (fun hq=>?_) fun hq=>?_|exact aa)
 refine ah hK [] [0,1,5] (fun i:Nat=>⟨[(0,.lst (.int .i64) l),(1,.int .i64 n),(5,.int .i64 i)],[],4⟩) (fun i=>i≤l.length∧∀y∈l.take i,(y==n)=false) (fun i=>l.length-i) 0 ⟨by simp,by simp⟩ rfl ?_
 rintro i ⟨hi,hall⟩
 by_cases hlt:i<l.length
 ·have hxe:l[i]?=some l[i]:=am hlt
  have hsn:l.take (i+1)=l.take i++[l[i]]:=b8 hlt
  have hm:l[i]∈l:=bd hlt
  generalize l[i]=x at *
  by_cases h:x=n
  ·subst h
   (repeat' first|refine st ?_|refine sa fun xe hxe=>?_|refine sb (fun hq=>?_) fun hq=>?_|exact aa)
   ·rw[ir.2 hm]
    exact⟨rfl,rfl⟩
   ·exact absurd trivial hq
  ·(repeat' first|refine st ?_|refine sa fun xe hxe=>?_|refine sb (fun hq=>?_) fun hq=>?_|exact aa)
   exact⟨i+1,⟨by omega,by rw[hsn];exact bL hall (by simpa using h)⟩,by omega,rfl⟩
 ·(repeat' first|refine st ?_|refine sa fun xe hxe=>?_|refine sb (fun hq=>?_) fun hq=>?_|exact aa)
  rw[bp (by omega)] at hall
  have:l.contains n=false:=by
   rw[ck]
   intro h
   have:=hall _ (ir.1 h)
   simp at this
  rw[this]
  exact⟨rfl,rfl⟩
theorem Lz {a b:List Int}{i:Nat}{x y:Int}(hx:a[i]?=some x)(hy:b[i]?=some y)(h:x≠y):(a==b)=false:=by
 rw[beq_eq_false_iff_ne]
 rintro rfl
 rw[hx] at hy
 exact h (ar hy)
theorem Ab (v u:Vtx):ag Tryz.prog 85 [cY v,cY u] [] (.bool (kR v u)) []:=by
 have hno:∀b,kR v u=b→V.bool b=V.bool (kR v u)∧([]:VH)=[]:=fun b h=>⟨by rw[h],rfl⟩
 refine ab aj Tryz.func85 rfl rfl false 0 4 rfl rfl rfl rfl fun K hK hb1 hb2=>?_;simp only[ae,enc,Nat.reduceAdd]
 simp[ak,V.toD,bnd,ai,D.cells,fW] at hb1
 by_cases h1:v.round=u.round
 rotate_left
 ·(repeat' first|refine st ?_|refine sa fun xe hxe=>?_|refine sb (fun hq=>?_) fun hq=>?_|exact aa)
  exact hno _ (by simp[kR,h1])
 by_cases h2:v.author=u.author
 rotate_left
 ·(repeat' first|refine st ?_|refine sa fun xe hxe=>?_|refine sb (fun hq=>?_) fun hq=>?_|exact aa)
  exact hno _ (by simp[kR,h2])
 by_cases h3:v.digest=u.digest
 rotate_left
 ·(repeat' first|refine st ?_|refine sa fun xe hxe=>?_|refine sb (fun hq=>?_) fun hq=>?_|exact aa)
  exact hno _ (by simp[kR,h3])
 have he:kR v u=(v.parents==u.parents):=by simp[kR,h1,h2,h3]
 by_cases h4:v.parents.length=u.parents.length
 rotate_left
 ·(repeat' first|refine st ?_|refine sa fun xe hxe=>?_|refine sb (fun hq=>?_) fun hq=>?_|exact aa)
  exact hno _ (by rw[he,beq_eq_false_iff_ne];intro h;exact h4 (by rw[h]))
 (repeat' first|refine st ?_|refine sa fun xe hxe=>?_|refine sb (fun hq=>?_) fun hq=>?_|exact aa)
 refine ah hK [] [2,3,5] (fun i:Nat=>⟨[(2,.ptr 4 0),(3,.ptr 5 0),(5,.int .i64 i)],[(4,.var 73 (cY v).cells),(5,.var 73 (cY u).cells)],6⟩) (fun i=>i≤v.parents.length∧v.parents.take i=u.parents.take i) (fun i=>v.parents.length-i) 0 ⟨by simp,by simp⟩ rfl ?_
 rintro i ⟨hi,hall⟩
 by_cases hlt:i<v.parents.length
 ·have hxe:v.parents[i]?=some v.parents[i]:=am hlt
  have hye:u.parents[i]?=some (u.parents[i]'(by omega)):=am (by omega)
  have hsn:v.parents.take (i+1)=v.parents.take i++[v.parents[i]]:=b8 hlt
  have hsu:u.parents.take (i+1)=u.parents.take i++[u.parents[i]'(by omega)]:=b8 (by omega)
  generalize v.parents[i]=x at *
  generalize u.parents[i]'(by omega)=y at *
  by_cases h:x=y
  ·subst h
   (repeat' first|refine st ?_|refine sa fun xe hxe=>?_|refine sb (fun hq=>?_) fun hq=>?_|exact aa)
   ·exact absurd trivial hq
   ·exact⟨i+1,⟨by omega,by rw[hsn,hsu,hall]⟩,by omega,rfl⟩
  ·(repeat' first|refine st ?_|refine sa fun xe hxe=>?_|refine sb (fun hq=>?_) fun hq=>?_|exact aa)
   exact hno _ (by rw[he];exact Lz hxe hye h)
 ·(repeat' first|refine st ?_|refine sa fun xe hxe=>?_|refine sb (fun hq=>?_) fun hq=>?_|exact aa)
  rw[bp (by omega),bp (by omega)] at hall
  exact hno _ (by rw[he,hall];simp)
theorem Gz (v u:Vtx):ag Tryz.prog 78 [cY v,cY u] [] (.bool (slt v u)) []:=by
 refine ab aj Tryz.func78 rfl rfl false 0 4 rfl rfl rfl rfl fun K hK hb1 hb2=>?_;simp only[ae,enc,Nat.reduceAdd]
 (repeat' first|refine st ?_|refine sa fun xe hxe=>?_|refine sb (fun hq=>?_) fun hq=>?_|exact aa)
 all_goals (refine⟨?_,rfl⟩;simp_all[slt])
theorem B5 (w:Wrl)(p:Ppl)(hc:comV w.com=true)(hm:ee w.com p.members=true):ag Tryz.prog 82 [bc w,tU p] [] (.bool (don w.com p)) []:=by
 have h1:=dC hm
 have h2:=kw hm
 have h3:=(ay.1 hc).2
 refine ab aj Tryz.func82 rfl rfl false 0 4 rfl rfl rfl rfl fun K hK hb1 hb2=>?_;simp only[ae,enc,Nat.reduceAdd]
 (repeat' first|refine st ?_|refine sa fun xe hxe=>?_|refine sb (fun hq=>?_) fun hq=>?_|refine cr (yl _ hc) ?_|((with_reducible refine ft ?_);(conv=>whnf);(first|with_reducible refine bf (Ci _ _ hc h1 (by omega)) ?_);conv=>whnf)|exact aa)
 exact⟨rfl,rfl⟩
theorem Mn (w:Wrl)(hc:comV w.com=true):ag Tryz.prog 125 [bc w] [] (.bool (gJ w.com w.bad w.props)) []:=by
 refine ab aj Tryz.func125 rfl rfl false 0 4 rfl rfl rfl rfl fun K hK hb1 hb2=>?_;simp only[ae,enc,Nat.reduceAdd]
 simp[ak,V.toD,bnd,ai,D.cells] at hb1
 (repeat' first|refine st ?_|refine sa fun xe hxe=>?_|refine sb (fun hq=>?_) fun hq=>?_|exact aa)
 refine ah hK [] [1,3] (fun i:Nat=>⟨[(1,.ptr 4 0),(3,.int .i64 i)],[(4,.var 36 (bc w).cells)],5⟩) (fun i=>i≤w.props.length∧∀j,j<i→gr w.com w.bad w.props j=true) (fun i=>w.props.length-i) 0 ⟨by simp,by simp⟩ rfl ?_
 rintro i ⟨hi,hall⟩
 by_cases hlt:i<w.props.length
 ·have hxe:w.props[i]?=some w.props[i]:=am hlt
  have hno:gr w.com w.bad w.props i=false→V.bool false=V.bool (gJ w.com w.bad w.props)∧([]:VH)=[]:=fun h=>⟨by rw[gJ,dP hlt h,iy],rfl⟩
  have hA:gr w.com w.bad w.props i=(oneP w.com w.props[i] && ey i (fun k=>fitP w.bad w.props[i] (w.props.getD k p0))):=by simp only[gr,bZ hxe]
  generalize w.props[i]=p at *
  have hvc:=nu w.com p.v hc
  have hmc:=zP w.com p.members
  cases h1:vtxS w.com p.v
  ·rw[h1] at hvc
   (repeat' first|refine st ?_|refine sa fun xe hxe=>?_|refine sb (fun hq=>?_) fun hq=>?_|refine cr (hvc) ?_|refine cr (hmc) ?_|exact aa)
   exact hno (by simp[hA,oneP,h1])
  rw[h1] at hvc
  cases h2:ee w.com p.members
  ·rw[h2] at hmc
   (repeat' first|refine st ?_|refine sa fun xe hxe=>?_|refine sb (fun hq=>?_) fun hq=>?_|refine cr (hvc) ?_|refine cr (hmc) ?_|exact aa)
   exact hno (by simp[hA,oneP,h2])
  rw[h2] at hmc
  (repeat' first|refine st ?_|refine sa fun xe hxe=>?_|refine sb (fun hq=>?_) fun hq=>?_|refine cr (hvc) ?_|refine cr (hmc) ?_|exact aa)
  refine ah hK [] [1,3,4,5] (fun k:Nat=>⟨[(1,.ptr 4 0),(3,.int .i64 i),(4,.ptr 5 0),(5,.int .i64 k)],[(4,.var 36 (bc w).cells),(5,.var 123 (tU p).cells)],6⟩) (fun k=>k≤i∧∀j,j<k→fitP w.bad p (w.props.getD j p0)=true) (fun k=>i-k) 0 ⟨by simp,by simp⟩ rfl ?_
  rintro k ⟨hk,hkall⟩
  by_cases hkl:k<i
  ·have hxk:w.props[k]?=some (w.props.getD k p0):=by rw[aq,am (show k<w.props.length by omega)];rfl
   have hyes:=cD hkall (p:=fun j=>fitP w.bad p (w.props.getD j p0)) (i:=k)
   have hnk:fitP w.bad p (w.props.getD k p0)=false→V.bool false=V.bool (gJ w.com w.bad w.props)∧([]:VH)=[]:=fun h=>hno (by rw[hA,dP hkl h,lz])
   generalize w.props.getD k p0=q at *
   have hsc:=Gz p.v q.v
   have hqc:=Ab p.v q.v
   cases h3:slt p.v q.v
   ·rw[h3] at hsc
    (repeat' first|refine st ?_|refine sa fun xe hxe=>?_|refine sb (fun hq=>?_) fun hq=>?_|refine cr (hsc) ?_|refine cr (hqc) ?_|exact aa)
    exact⟨k+1,⟨by omega,hyes (by simp[fitP,h3])⟩,by omega,rfl⟩
   rw[h3] at hsc
   cases h4:kR p.v q.v
   rotate_left
   ·rw[h4] at hqc
    (repeat' first|refine st ?_|refine sa fun xe hxe=>?_|refine sb (fun hq=>?_) fun hq=>?_|refine cr (hsc) ?_|refine cr (hqc) ?_|exact aa)
    exact hnk (by simp[fitP,h3,h4])
   rw[h4] at hqc
   by_cases h5:p.v.author=w.bad
   rotate_left
   ·(repeat' first|refine st ?_|refine sa fun xe hxe=>?_|refine sb (fun hq=>?_) fun hq=>?_|refine cr (hsc) ?_|refine cr (hqc) ?_|exact aa)
    exact hnk (by simp[fitP,h3,h5])
   have hfe:fitP w.bad p q= !nD w.bad p.members q.members:=by simp[fitP,h3,h4,h5]
   (repeat' first|refine st ?_|refine sa fun xe hxe=>?_|refine sb (fun hq=>?_) fun hq=>?_|refine cr (hsc) ?_|refine cr (hqc) ?_|exact aa)
   refine ah hK [] [1,3,4,5,6,7] (fun n:Nat=>⟨[(1,.ptr 4 0),(3,.int .i64 i),(4,.ptr 5 0),(5,.int .i64 k),(6,.ptr 6 0),(7,.int .i64 n)],[(4,.var 36 (bc w).cells),(5,.var 123 (tU p).cells),(6,.var 123 (tU q).cells)],7⟩) (fun n=>n≤p.members.length∧∀m∈p.members.take n,(m !=w.bad && q.members.contains m)=false) (fun n=>p.members.length-n) 0 ⟨by simp,by simp⟩ rfl ?_
   rintro n ⟨hn,hnall⟩
   by_cases hnl:n<p.members.length
   ·have hxm:p.members[n]?=some p.members[n]:=am hnl
    have hsn:p.members.take (n+1)=p.members.take n++[p.members[n]]:=b8 hnl
    have hmm:p.members[n]∈p.members:=bd hnl
    have hml:p.members.length≤7:=by have:=kw h2;have:=(ay.1 hc).2;omega
    generalize p.members[n]=m at *
    have hhc:=Bl q.members m
    by_cases h6:m=w.bad
    ·(repeat' first|refine st ?_|refine sa fun xe hxe=>?_|refine sb (fun hq=>?_) fun hq=>?_|refine cr (hhc) ?_|exact aa)
     exact⟨n+1,⟨by omega,by rw[hsn];exact bL hnall (by simp[h6])⟩,by omega,rfl⟩
    ·cases h7:q.members.contains m
     ·rw[h7] at hhc
      (repeat' first|refine st ?_|refine sa fun xe hxe=>?_|refine sb (fun hq=>?_) fun hq=>?_|refine cr (hhc) ?_|exact aa)
      exact⟨n+1,⟨by omega,by rw[hsn];exact bL hnall (by rw[h7,lz])⟩,by omega,rfl⟩
     ·rw[h7] at hhc
      (repeat' first|refine st ?_|refine sa fun xe hxe=>?_|refine sb (fun hq=>?_) fun hq=>?_|refine cr (hhc) ?_|exact aa)
      refine hnk ?_
      have:nD w.bad p.members q.members=true:=fJ.2 ⟨m,hmm,by rw[h7];simpa using h6⟩
      rw[hfe,this]
      rfl
   ·(repeat' first|refine st ?_|refine sa fun xe hxe=>?_|refine sb (fun hq=>?_) fun hq=>?_|exact aa)
    rw[bp (by omega)] at hnall
    have:nD w.bad p.members q.members=false:=by
     rw[ck]
     intro h
     obtain⟨m,hm,h⟩:=fJ.1 h
     rw[hnall m hm] at h
     cases h
    exact⟨k+1,⟨by omega,hyes (by rw[hfe,this];rfl)⟩,by omega,rfl⟩
  ·have hAt:gr w.com w.bad w.props i=true:=by
    rw[hA,de (fun j hj=>hkall j (by omega)),oneP,h1,h2]
    rfl
   (repeat' first|refine st ?_|refine sa fun xe hxe=>?_|refine sb (fun hq=>?_) fun hq=>?_|exact aa)
   exact⟨i+1,⟨by omega,cD hall hAt⟩,by omega,rfl⟩
 ·(repeat' first|refine st ?_|refine sa fun xe hxe=>?_|refine sb (fun hq=>?_) fun hq=>?_|exact aa)
  rw[gJ,de (fun j hj=>hall j (by omega)),d7]
  exact⟨rfl,rfl⟩
theorem Jh (w:Wrl)(g:List Vtx)(hc:comV w.com=true)(hp:gJ w.com w.bad w.props=true):ag Tryz.prog 126 [bc w,.lst .vtx g] [] (.bool (o8 w.com w.props g)) []:=by
 have hpl:=mY hp
 have hv:o8 w.com w.props g=(g.all (knw w.com w.props) && graS w.com g):=rfl
 refine ab aj Tryz.func126 rfl rfl false 0 4 rfl rfl rfl rfl fun K hK hb1 hb2=>?_;simp only[ae,enc,Nat.reduceAdd]
 simp[ak,V.toD,bnd,ai,D.cells] at hb1
 (repeat' first|refine st ?_|refine sa fun xe hxe=>?_|refine sb (fun hq=>?_) fun hq=>?_|exact aa)
 refine ah hK [] [1,2,5] (fun i:Nat=>⟨[(1,.lst .vtx g),(2,.ptr 4 0),(5,.int .i64 i)],[(4,.var 36 (bc w).cells)],5⟩) (fun i=>i≤g.length∧∀v∈g.take i,knw w.com w.props v=true) (fun i=>g.length-i) 0 ⟨by simp,by simp⟩ rfl ?_
 rintro i ⟨hi,hall⟩
 by_cases hlt:i<g.length
 ·have hxe:g[i]?=some g[i]:=am hlt
  have hsn:g.take (i+1)=g.take i++[g[i]]:=b8 hlt
  have hvm:g[i]∈g:=bd hlt
  generalize g[i]=v at *
  (repeat' first|refine st ?_|refine sa fun xe hxe=>?_|refine sb (fun hq=>?_) fun hq=>?_|exact aa)
  refine ah hK [] [1,2,5,6,7] (fun k:Nat=>⟨[(1,.lst .vtx g),(2,.ptr 4 0),(5,.int .i64 i),(6,.bool (knw w.com (w.props.take k) v)),(7,.int .i64 k)],[(4,.var 36 (bc w).cells)],5⟩) (fun k=>k≤w.props.length) (fun k=>w.props.length-k) 0 (by simp) rfl ?_
  intro k hk
  by_cases hkl:k<w.props.length
  ·have hxk:w.props[k]?=some w.props[k]:=am hkl
   have hks:w.props.take (k+1)=w.props.take k++[w.props[k]]:=b8 hkl
   have hom:=ry hp _ (bd hkl)
   generalize w.props[k]=p at *
   simp only[oneP,aA] at hom
   have hks2:knw w.com (w.props.take (k+1)) v=(knw w.com (w.props.take k) v||(don w.com p && kR p.v v)):=by rw[hks];simp[knw]
   have hdc:=B5 w p hc hom.2
   have hqc:=Ab p.v v
   cases h1:knw w.com (w.props.take k) v
   ·cases h2:don w.com p
    ·rw[h2] at hdc
     (repeat' first|refine st ?_|refine sa fun xe hxe=>?_|refine sb (fun hq=>?_) fun hq=>?_|refine cr (hdc) ?_|refine cr (hqc) ?_|exact aa)
     exact⟨k+1,by omega,by omega,by rw[hks2,h1,h2];rfl⟩
    ·rw[h2] at hdc
     (repeat' first|refine st ?_|refine sa fun xe hxe=>?_|refine sb (fun hq=>?_) fun hq=>?_|refine cr (hdc) ?_|refine cr (hqc) ?_|exact aa)
     exact⟨k+1,by omega,by omega,by rw[hks2,h1,h2];rfl⟩
   ·(repeat' first|refine st ?_|refine sa fun xe hxe=>?_|refine sb (fun hq=>?_) fun hq=>?_|refine cr (hdc) ?_|refine cr (hqc) ?_|exact aa)
    exact⟨k+1,by omega,by omega,by rw[hks2,h1];rfl⟩
  ·rw[bp (by omega)]
   cases h1:knw w.com w.props v
   ·(repeat' first|refine st ?_|refine sa fun xe hxe=>?_|refine sb (fun hq=>?_) fun hq=>?_|exact aa)
    have:g.all (knw w.com w.props)=false:=by
     rw[ck]
     intro h
     rw[aM.1 h v hvm] at h1
     cases h1
    exact⟨by rw[hv,this,iy],rfl⟩
   ·(repeat' first|refine st ?_|refine sa fun xe hxe=>?_|refine sb (fun hq=>?_) fun hq=>?_|exact aa)
    exact⟨i+1,⟨by omega,by rw[hsn];exact bL hall h1⟩,by omega,rfl⟩
 ·rw[bp (by omega)] at hall
  (repeat' first|refine st ?_|refine sa fun xe hxe=>?_|refine sb (fun hq=>?_) fun hq=>?_|refine cr (EL _ _) ?_|exact aa)
  exact⟨by rw[hv,aM.2 hall,d7],rfl⟩
abbrev Jx:V:=.agg [.nils,.nils,.int .i64 0,.nils,.nils]
theorem Gv (c l:List Int)(b:Int)(hl:c.length≤2000000):ag Tryz.prog 33 [.lst (.int .i64) c,.lst (.int .i64) l,.int .i64 b] [] (if iE c l b then .tup [bc (LF c l b),.bool true] else .tup [Jx,.bool false]) []:=by
 have hL:=LB c l
 refine ab aj Tryz.func33 rfl rfl true 0 4 rfl rfl rfl rfl fun K hK hb1 hb2=>?_;simp only[ae,enc,Nat.reduceAdd]
 simp[ak,V.toD,bnd,ai,D.cells] at hb1
 cases h1:comV c && leaS c l
 ·rw[h1] at hL
  have hn:iE c l b=false:=by
   rw[nw] at h1
   rcases h1 with h1|h1<;>simp[iE,h1]
  rw[hn]
  (repeat' first|refine st ?_|refine sa fun xe hxe=>?_|refine sb (fun hq=>?_) fun hq=>?_|refine cr (hL) ?_|exact aa)
  exact⟨rfl,rfl⟩
 rw[h1] at hL
 have hc:comV c=true:=(Bool.and_eq_true_iff.1 h1).1
 have hle:leaS c l=true:=(Bool.and_eq_true_iff.1 h1).2
 have hns:iE c l b=badS c b:=by simp[iE,hc,hle]
 rw[hns]
 have h7:=(ay.1 hc).2
 have hll:=(bR.1 hle).2
 have hI:=nh b (-1) ((c.length:Int)-1)
 cases h2:jS b (-1) ((c.length:Int)-1)
 ·rw[h2] at hI
  have hb:badS c b=false:=by simp[badS,h2]
  rw[hb]
  (repeat' first|refine st ?_|refine sa fun xe hxe=>?_|refine sb (fun hq=>?_) fun hq=>?_|refine cr (hL) ?_|refine cr (hI) ?_|exact aa)
  exact⟨rfl,rfl⟩
 rw[h2] at hI
 have hbr:=aC.1 h2
 have hT:=GK c hc
 have hfd:=Em hc
 have htb:=lr hc
 have hfau:(qD c-1).tdiv 3=Bc c:=rfl
 have hst:∀i:Nat,(⟨[(0,.lst (.int .i64) c),(6,.ptr 4 0),(8,.ptr 5 0),(9,.int .i64 ((i:Int)+1))],[(4,.var 36 [.nils,.nils,.int .i64 0,.nils,.nils]),(5,.var 36 [.ref 6,.ref 7,.int .i64 b,.ref 8,.ref 9]),(6,.row 3 (.int .i64) c),(7,.row 3 (.int .i64) l),(8,.row 82 (.lst .vtx) (List.replicate i []++[[]])),(9,.row 123 .ppl [])],10⟩:VSt)=
   ⟨[(0,.lst (.int .i64) c),(6,.ptr 4 0),(8,.ptr 5 0),(9,.int .i64 ((i+1:Nat):Int))],[(4,.var 36 [.nils,.nils,.int .i64 0,.nils,.nils]),(5,.var 36 [.ref 6,.ref 7,.int .i64 b,.ref 8,.ref 9]),(6,.row 3 (.int .i64) c),(7,.row 3 (.int .i64) l),(8,.row 82 (.lst .vtx) (List.replicate (i+1) [])),(9,.row 123 .ppl [])],10⟩:=fun i=>by
  rw[List.replicate_succ']
  rfl
 have hfin:∀x:Int,Bc c<x→(qD c-1).tdiv 3<x:=fun x h=>h
 have hfin2:∀x:Int,x≤Bc c→¬(qD c-1).tdiv 3<x:=fun x h=>by rw[hfau];omega
 by_cases h3:b<0
 ·have hb:badS c b=true:=by simp[badS,h2,h3]
  rw[hb]
  (repeat' first|refine st ?_|refine sa fun xe hxe=>?_|refine sb (fun hq=>?_) fun hq=>?_|refine cr (hL) ?_|refine cr (hI) ?_|refine cr (hT) ?_|exact aa)
  refine ah hK [] [0,6,8,9] (fun i:Nat=>⟨[(0,.lst (.int .i64) c),(6,.ptr 4 0),(8,.ptr 5 0),(9,.int .i64 (i:Int))],[(4,.var 36 [.nils,.nils,.int .i64 0,.nils,.nils]),(5,.var 36 [.ref 6,.ref 7,.int .i64 b,.ref 8,.ref 9]),(6,.row 3 (.int .i64) c),(7,.row 3 (.int .i64) l),(8,.row 82 (.lst .vtx) (List.replicate i [])),(9,.row 123 .ppl [])],10⟩) (fun i=>i≤c.length) (fun i=>c.length-i) 0 (by simp) rfl ?_
  intro i hi
  have hrl:(List.replicate i ([]:List Vtx)).length=i:=by simp
  have hst:=hst i
  generalize hrs:List.replicate i ([]:List Vtx)=rs at *
  by_cases hlt:i<c.length
  ·(repeat' first|refine st ?_|refine sa fun xe hxe=>?_|refine sb (fun hq=>?_) fun hq=>?_|exact aa)
   refine⟨i+1,by omega,by omega,?_⟩
   rw[←hst]
   try rfl
  ·obtain rfl:i=c.length:=by omega
   (repeat' first|refine st ?_|refine sa fun xe hxe=>?_|refine sb (fun hq=>?_) fun hq=>?_|exact aa)
   rw[←hrs]
   exact⟨rfl,rfl⟩
 ·have hxe:c[b.toNat]?=some (c.getD b.toNat 0):=by rw[aq,am (show b.toNat<c.length by omega)];rfl
  have hb:badS c b=decide (c.getD b.toNat 0≤Bc c):=by simp[badS,h2,h3]
  rw[hb]
  generalize c.getD b.toNat 0=x at *
  by_cases hxf:x≤Bc c
  ·rw[decide_eq_true hxf]
   have hxf:=hfin2 x hxf
   (repeat' first|refine st ?_|refine sa fun xe hxe=>?_|refine sb (fun hq=>?_) fun hq=>?_|refine cr (hL) ?_|refine cr (hI) ?_|refine cr (hT) ?_|exact aa)
   refine ah hK [] [0,6,8,9] (fun i:Nat=>⟨[(0,.lst (.int .i64) c),(6,.ptr 4 0),(8,.ptr 5 0),(9,.int .i64 (i:Int))],[(4,.var 36 [.nils,.nils,.int .i64 0,.nils,.nils]),(5,.var 36 [.ref 6,.ref 7,.int .i64 b,.ref 8,.ref 9]),(6,.row 3 (.int .i64) c),(7,.row 3 (.int .i64) l),(8,.row 82 (.lst .vtx) (List.replicate i [])),(9,.row 123 .ppl [])],10⟩) (fun i=>i≤c.length) (fun i=>c.length-i) 0 (by simp) rfl ?_
   intro i hi
   have hrl:(List.replicate i ([]:List Vtx)).length=i:=by simp
   have hst:=hst i
   generalize hrs:List.replicate i ([]:List Vtx)=rs at *
   by_cases hlt:i<c.length
   ·(repeat' first|refine st ?_|refine sa fun xe hxe=>?_|refine sb (fun hq=>?_) fun hq=>?_|exact aa)
    refine⟨i+1,by omega,by omega,?_⟩
    rw[←hst]
    try rfl
   ·obtain rfl:i=c.length:=by omega
    (repeat' first|refine st ?_|refine sa fun xe hxe=>?_|refine sb (fun hq=>?_) fun hq=>?_|exact aa)
    rw[←hrs]
    exact⟨rfl,rfl⟩
  ·rw[decide_eq_false hxf]
   have hxf:=hfin x (by omega)
   (repeat' first|refine st ?_|refine sa fun xe hxe=>?_|refine sb (fun hq=>?_) fun hq=>?_|refine cr (hL) ?_|refine cr (hI) ?_|refine cr (hT) ?_|exact aa)
   exact⟨rfl,rfl⟩
set_option maxHeartbeats 1000000 in
theorem NI (w:Wrl)(hcl:w.com.length≤2000000):ag Tryz.prog 87 [bc w] [] (.bool (kP w)) []:=by
 have hN:=Gv w.com w.lead w.bad hcl
 refine ab aj Tryz.func87 rfl rfl false 0 4 rfl rfl rfl rfl fun K hK hb1 hb2=>?_;simp only[ae,enc,Nat.reduceAdd]
 simp[ak,V.toD,bnd,ai,D.cells] at hb1
 cases h1:iE w.com w.lead w.bad
 ·rw[h1] at hN
  simp only[eW,if_false] at hN
  (repeat' first|refine st ?_|refine sa fun xe hxe=>?_|refine sb (fun hq=>?_) fun hq=>?_|refine cr (hN) ?_|exact aa)
  exact⟨by simp[kP,h1],rfl⟩
 rw[h1] at hN
 simp only[if_true] at hN
 have hc:comV w.com=true:=by
  simp only[iE,aA] at h1
  exact h1.1
 have h7:=(ay.1 hc).2
 by_cases h2:w.views.length=w.com.length
 rotate_left
 ·have hf:kP w=false:=by
   have:(w.views.length==w.com.length)=false:=by simpa using h2
   simp[kP,this]
  rw[hf]
  (repeat' first|refine st ?_|refine sa fun xe hxe=>?_|refine sb (fun hq=>?_) fun hq=>?_|refine cr (hN) ?_|exact aa)
  exact⟨rfl,rfl⟩
 have hP:=Mn w hc
 cases h3:gJ w.com w.bad w.props
 ·rw[h3] at hP
  have hf:kP w=false:=by simp[kP,h3]
  rw[hf]
  (repeat' first|refine st ?_|refine sa fun xe hxe=>?_|refine sb (fun hq=>?_) fun hq=>?_|refine cr (hN) ?_|refine cr (hP) ?_|exact aa)
  exact⟨rfl,rfl⟩
 rw[h3] at hP
 have hpl:=mY h3
 have he:kP w=(gg w.com w.bad w.props w.views && pG w.bad w.props w.views):=by simp[kP,h1,h2,h3]
 rw[he]
 (repeat' first|refine st ?_|refine sa fun xe hxe=>?_|refine sb (fun hq=>?_) fun hq=>?_|refine cr (hN) ?_|refine cr (hP) ?_|exact aa)
 refine ah hK [] [1,5] (fun i:Nat=>⟨[(1,.ptr 4 0),(5,.int .i64 i)],[(4,.var 36 (bc w).cells)],5⟩)
  (fun i=>i≤w.views.length∧∀j,j<i→(o8 w.com w.props (w.views.getD j []) && (!((j:Int)==w.bad)||(w.views.getD j []).isEmpty))=true) (fun i=>w.views.length-i) 0 ⟨by simp,by simp⟩ rfl ?_
 rintro i ⟨hi,hall⟩
 by_cases hlt:i<w.views.length
 ·have hxe:w.views[i]?=some (w.views.getD i []):=by rw[aq,am hlt];rfl
  have hno:(o8 w.com w.props (w.views.getD i []) && (!((i:Int)==w.bad)||(w.views.getD i []).isEmpty))=false→V.bool false=V.bool (gg w.com w.bad w.props w.views && pG w.bad w.props w.views)∧([]:VH)=[]:=fun h=>⟨by unfold gg;rw[dP hlt h,iy],rfl⟩
  have hyes:=cD hall (p:=fun j=>o8 w.com w.props (w.views.getD j []) && (!((j:Int)==w.bad)||(w.views.getD j []).isEmpty)) (i:=i)
  generalize w.views.getD i []=g at *
  have hV:=Jh w g hc h3
  cases h4:o8 w.com w.props g
  ·rw[h4] at hV
   (repeat' first|refine st ?_|refine sa fun xe hxe=>?_|refine sb (fun hq=>?_) fun hq=>?_|refine cr (hV) ?_|exact aa)
   exact hno (by rw[h4,iy])
  rw[h4] at hV
  have hem:g.isEmpty=decide ((g.length:Int)=0):=by cases g<;>simp;omega
  by_cases h5:(i:Int)=w.bad
  ·have hb1:((i:Int)==w.bad)=true:=by simpa using h5
   by_cases h6:0<(g.length:Int)
   ·(repeat' first|refine st ?_|refine sa fun xe hxe=>?_|refine sb (fun hq=>?_) fun hq=>?_|refine cr (hV) ?_|exact aa)
    exact hno (by rw[hb1,hem,decide_eq_false (by omega)];simp)
   ·(repeat' first|refine st ?_|refine sa fun xe hxe=>?_|refine sb (fun hq=>?_) fun hq=>?_|refine cr (hV) ?_|exact aa)
    exact⟨i+1,⟨by omega,hyes (by rw[h4,hb1,hem,decide_eq_true (by omega)];simp)⟩,by omega,rfl⟩
  ·have hb1:((i:Int)==w.bad)=false:=by simpa using h5
   (repeat' first|refine st ?_|refine sa fun xe hxe=>?_|refine sb (fun hq=>?_) fun hq=>?_|refine cr (hV) ?_|exact aa)
   exact⟨i+1,⟨by omega,hyes (by rw[h4,hb1];rfl)⟩,by omega,rfl⟩
 have hvs:gg w.com w.bad w.props w.views=true:=by
  unfold gg
  exact de (fun j hj=>hall j (by omega))
 rw[hvs,d7]
 (repeat' first|refine st ?_|refine sa fun xe hxe=>?_|refine sb (fun hq=>?_) fun hq=>?_|exact aa)
 refine ah hK [] [1,6] (fun i:Nat=>⟨[(1,.ptr 4 0),(6,.int .i64 i)],[(4,.var 36 (bc w).cells)],5⟩)
  (fun i=>i≤w.props.length∧∀p∈w.props.take i,ey w.views.length (j2 w.bad w.views p)=true) (fun i=>w.props.length-i) 0 ⟨by simp,by simp⟩ rfl ?_
 rintro k ⟨hk,hkall⟩
 by_cases hkl:k<w.props.length
 ·have hxp:w.props[k]?=some w.props[k]:=am hkl
  have hsn:w.props.take (k+1)=w.props.take k++[w.props[k]]:=b8 hkl
  have hpm:w.props[k]∈w.props:=bd hkl
  have hone:=ry h3 _ hpm
  have hno:ey w.views.length (j2 w.bad w.views w.props[k])=false→V.bool false=V.bool (pG w.bad w.props w.views)∧([]:VH)=[]:=fun h=>⟨by
   have:pG w.bad w.props w.views=false:=by
    rw[ck]
    intro h2
    rw[aM.1 h2 _ hpm] at h
    cases h
   rw[this],rfl⟩
  generalize w.props[k]=p at *
  simp only[oneP,aA] at hone
  have hrd:=rL hone.1
  (repeat' first|refine st ?_|refine sa fun xe hxe=>?_|refine sb (fun hq=>?_) fun hq=>?_|exact aa)
  refine ah hK [] [1,6,7,8] (fun m:Nat=>⟨[(1,.ptr 4 0),(6,.int .i64 k),(7,.ptr 5 0),(8,.int .i64 m)],[(4,.var 36 (bc w).cells),(5,.var 73 (cY p.v).cells)],6⟩)
   (fun m=>m≤w.views.length∧∀j,j<m→j2 w.bad w.views p j=true) (fun m=>w.views.length-m) 0 ⟨by simp,by simp⟩ rfl ?_
  rintro m ⟨hm,hmall⟩
  by_cases hml:m<w.views.length
  ·have hxv:w.views[m]?=some (w.views.getD m []):=by rw[aq,am hml];rfl
   have hyes:=cD hmall (p:=j2 w.bad w.views p) (i:=m)
   have hno2:j2 w.bad w.views p m=false→V.bool false=V.bool (pG w.bad w.props w.views)∧([]:VH)=[]:=fun h=>hno (dP hml h)
   have hA:j2 w.bad w.views p m=(!((m:Int) !=w.bad && ((m:Int)==p.v.author||p.members.contains (m:Int)))||parOK (w.views.getD m []) p.v):=rfl
   generalize w.views.getD m []=g at *
   have hH:=Bl p.members m
   have hG:=eQ g p.v hrd
   by_cases c1:(m:Int)=w.bad
   ·(repeat' first|refine st ?_|refine sa fun xe hxe=>?_|refine sb (fun hq=>?_) fun hq=>?_|refine cr (hH) ?_|refine cr (hG) ?_|exact aa)
    exact⟨m+1,⟨by omega,hyes (by simp[hA,c1])⟩,by omega,rfl⟩
   cases c2:(m:Int)==p.v.author||p.members.contains (m:Int)
   ·rw[Bool.or_eq_false_iff] at c2
    have c3:¬(m:Int)=p.v.author:=by simpa using c2.1
    rw[c2.2] at hH
    (repeat' first|refine st ?_|refine sa fun xe hxe=>?_|refine sb (fun hq=>?_) fun hq=>?_|refine cr (hH) ?_|refine cr (hG) ?_|exact aa)
    exact⟨m+1,⟨by omega,hyes (by rw[hA,c2.1,c2.2];simp)⟩,by omega,rfl⟩
   ·cases c4:parOK g p.v
    ·rw[c4] at hG
     have hn:=hno2 (by rw[hA,c2,c4];simpa using c1)
     by_cases c3:(m:Int)=p.v.author
     ·(repeat' first|refine st ?_|refine sa fun xe hxe=>?_|refine sb (fun hq=>?_) fun hq=>?_|refine cr (hH) ?_|refine cr (hG) ?_|exact aa)
      exact hn
     ·have c5:p.members.contains (m:Int)=true:=by simpa[c3] using c2
      rw[c5] at hH
      (repeat' first|refine st ?_|refine sa fun xe hxe=>?_|refine sb (fun hq=>?_) fun hq=>?_|refine cr (hH) ?_|refine cr (hG) ?_|exact aa)
      exact hn
    ·rw[c4] at hG
     have hn:=hyes (by rw[hA,c4,Bool.or_true])
     by_cases c3:(m:Int)=p.v.author
     ·(repeat' first|refine st ?_|refine sa fun xe hxe=>?_|refine sb (fun hq=>?_) fun hq=>?_|refine cr (hH) ?_|refine cr (hG) ?_|exact aa)
      exact⟨m+1,⟨by omega,hn⟩,by omega,rfl⟩
     ·have c5:p.members.contains (m:Int)=true:=by simpa[c3] using c2
      rw[c5] at hH
      (repeat' first|refine st ?_|refine sa fun xe hxe=>?_|refine sb (fun hq=>?_) fun hq=>?_|refine cr (hH) ?_|refine cr (hG) ?_|exact aa)
      exact⟨m+1,⟨by omega,hn⟩,by omega,rfl⟩
  ·(repeat' first|refine st ?_|refine sa fun xe hxe=>?_|refine sb (fun hq=>?_) fun hq=>?_|exact aa)
   exact⟨k+1,⟨by omega,by rw[hsn];exact bL hkall (de fun j hj=>hmall j (by omega))⟩,by omega,rfl⟩
 ·(repeat' first|refine st ?_|refine sa fun xe hxe=>?_|refine sb (fun hq=>?_) fun hq=>?_|exact aa)
  rw[bp (by omega)] at hkall
  have:pG w.bad w.props w.views=true:=aM.2 hkall
  rw[this]
  exact⟨rfl,rfl⟩
def F4 (c:List Int)(p:Int):Prop:=c.length≤2000∧(∀x∈c,0≤x∧x≤255)∧0≤p∧p≤1000000000
theorem LK (c:List Int):ag Tryz.prog 11 [.lst (.int .u8) c] [] (.ptr 4 0) [(4,.var 54 [.lst (.int .u8) (c.take 2000),.int .i64 0])]:=by
 refine ab aj Tryz.func11 rfl rfl false 0 4 rfl rfl rfl rfl fun K hK hb1 hb2=>?_;simp only[ae,enc,Nat.reduceAdd]
 (repeat' first|refine st ?_|refine sa fun xe hxe=>?_|refine sb (fun hq=>?_) fun hq=>?_|exact aa)
 ·exact⟨rfl,rfl⟩
 ·exact⟨rfl,by rw[bp (by omega)]⟩
theorem LO (c:List Int)(p n:Int)(T:TypeId)(h:F4 c p)(hn:1≤n∧n≤1000000):∃v,(0≤v∧v<n)∧ag Tryz.prog 12 [.ptr 4 0,.int .i64 n] [(4,.var T [.lst (.int .u8) c,.int .i64 p])] (.int .i64 v) [(4,.var T [.lst (.int .u8) c,.int .i64 (p+1)])]:=by
 obtain⟨h1,h2,h3,h4⟩:=h
 suffices hs:∃r hout,(∃v,(0≤v∧v<n)∧r= .int .i64 v∧hout=[(4,VB.var T [.lst (.int .u8) c,.int .i64 (p+1)])])∧ag Tryz.prog 12 [.ptr 4 0,.int .i64 n] [(4,.var T [.lst (.int .u8) c,.int .i64 p])] r hout by
  obtain⟨r,hout,⟨v,hv,rfl,rfl⟩,h⟩:=hs
  exact⟨v,hv,h⟩
 refine lL aj Tryz.func12 rfl rfl false 1 5 rfl rfl rfl rfl (R:=fun r hout=>∃v,(0≤v∧v<n)∧r= .int .i64 v∧hout=[(4,VB.var T [.lst (.int .u8) c,.int .i64 (p+1)])]) (r0:=.int .i64 0) (hout0:=[(4,VB.var T [.lst (.int .u8) c,.int .i64 (p+1)])]) (⟨0,by omega,rfl,rfl⟩) fun K hK hb1 hb2=>?_;simp only[ae,enc,Nat.reduceAdd]
 clear hb1 hb2
 have hat:∀k:Int,0≤k→k<c.length→∃v,c[k.toNat]?=some v∧0≤v∧v≤255:=fun k ha hb=>by
  have hl:k.toNat<c.length:=by omega
  exact⟨c[k.toNat],am hl,h2 _ (bd hl)⟩
 by_cases h0:c.length=0
 ·(repeat' first|refine st ?_|refine sa fun xe hxe=>?_|refine sb (fun hq=>?_) fun hq=>?_|exact aa)
  exact⟨0,by omega,rfl,rfl⟩
 have hcl:0≤p.tmod c.length∧p.tmod c.length<c.length:=⟨Int.tmod_nonneg _ h3,Int.tmod_lt_of_pos _ (by omega)⟩
 have hcl2:0≤(p*7+3).tmod c.length∧(p*7+3).tmod c.length<c.length:=⟨Int.tmod_nonneg _ (by omega),Int.tmod_lt_of_pos _ (by omega)⟩
 have hdv:0≤p.tdiv c.length∧p.tdiv c.length≤p:=⟨Int.tdiv_nonneg h3 (by omega),by rw[ml h3];exact Int.ediv_le_self _ h3⟩
 have hp:p+1-1=p:=by omega
 by_cases h6:p<c.length
 ·obtain⟨v,hv,hv1,hv2⟩:=hat p h3 h6
  rw[←hp] at hv
  have hm:0≤v.tmod n∧v.tmod n<n:=⟨Int.tmod_nonneg _ hv1,Int.tmod_lt_of_pos _ (by omega)⟩
  (repeat' first|refine st ?_|refine sa fun xe hxe=>?_|refine sb (fun hq=>?_) fun hq=>?_|exact aa)
  exact⟨_,hm,rfl,rfl⟩
 ·obtain⟨v,hv,hv1,hv2⟩:=hat _ hcl.1 hcl.2
  obtain⟨w,hw,hw1,hw2⟩:=hat _ hcl2.1 hcl2.2
  rw[←hp] at hv hw hdv hcl hcl2
  have hS:0≤v*131+w*1117+(p+1-1)*29+(p+1-1).tdiv ↑c.length*53∧v*131+w*1117+(p+1-1)*29+(p+1-1).tdiv ↑c.length*53<4611686018427387904:=by omega
  have hD:0≤(v*131+w*1117+(p+1-1)*29+(p+1-1).tdiv ↑c.length*53).tdiv 64∧(v*131+w*1117+(p+1-1)*29+(p+1-1).tdiv ↑c.length*53).tdiv 64<4611686018427387904:=
   ⟨Int.tdiv_nonneg hS.1 (by omega),by rw[ml hS.1];omega⟩
  have hX:=MF hS hD
  (repeat' first|refine st ?_|refine sa fun xe hxe=>?_|refine sb (fun hq=>?_) fun hq=>?_|exact aa)
  refine⟨_,⟨Int.tmod_nonneg _ hX,Int.tmod_lt_of_pos _ (by omega)⟩,rfl,rfl⟩
abbrev F3 (b:List Int)(p:Int):VB:=.var 54 [.lst (.int .u8) b,.int .i64 p]
theorem LR (b:List Int)(p n:Int)(h:F4 b 0)(hp:0≤p∧p≤100000000)(hn:1≤n∧n≤1000000):∃v,(0≤v∧v<n)∧ag Tryz.prog 12 [.ptr 4 0,.int .i64 n] [(4,F3 b p)] (.int .i64 v) [(4,F3 b (p+1))]:=
 LO b p n _ ⟨h.1,h.2.1,by omega,by omega⟩ hn
theorem yA {g:List Vtx}{v:Vtx}(h:some v∈aT g):v∈g:=by
 induction g using cj with
 |h0=>
  have:=qb h
  cases this
 |h l x ih=>
  rw[i7] at h
  rcases List.mem_or_eq_of_mem_set h with h|h
  ·exact bl.2 (.inl (ih h))
  ·obtain rfl:=ar h
   simp
theorem uK {w:Wrl}(h:gk w=true):(w.views.map aT).map fM=w.views:=by
 rw[ep]
 conv=>rhs;rw[←List.map_id w.views]
 refine qJ fun g hg=>?_
 have hok:=fT (BS h g hg)
 exact Ju (fun v hv=>(oM h g hg v hv).1) hok.pw
theorem Ik (w:Wrl)(h:gk w=true):ag Tryz.prog 26 [.ptr 4 0] (rB w.com w.lead w.bad (w.views.map aT) w.props) (bc w) (rB w.com w.lead w.bad (w.views.map aT) w.props):=by
 obtain⟨h1,h2,h3,h4,h5,h6⟩:=nM h
 have h7:=(ay.1 h1).2
 have hll:=(bR.1 h2).2
 have hps:=rx h
 have hpl:=mY h4
 have hne:w.com≠[]:=fun h=>by rw[h] at h7;simp at h7
 have hc:=Li w.com w.lead w.bad (w.views.map aT) w.props hne (by omega) (by omega) (fun t ht=>by
  obtain⟨g,hg,rfl⟩:=aB.1 ht
  refine⟨dX g,fun v hv=>?_⟩
  have:=(oM h g hg v (yA hv)).2
  omega) (by rw[az];omega) (by rw[az];omega) (fun p hp=>by have:=(hps p hp).2.2.2;omega) (by omega)
 rw[uK h] at hc
 exact hc
theorem BT (c l:List Int)(b:Int):gk ⟨c,l,b,List.replicate (min c.length 7) [],[]⟩=iE c l b:=by
 cases h:iE c l b
 ·simp[gk,h]
 ·have hc:comV c=true:=by
   simp only[iE,aA] at h
   exact h.1
  have h7:=(ay.1 hc).2
  have hn:min c.length 7=c.length:=by omega
  rw[hn]
  have h1:gJ c b []=true:=proS_nil c b
  have h2:gg c b [] (List.replicate c.length [])=true:=by
   refine viws_nil hc
  simp[gk,h,h1,h2]
where
 proS_nil (c:List Int) (b:Int):gJ c b []=true:=rfl
 viws_nil {c:List Int} {b:Int} (hc:comV c=true):gg c b [] (List.replicate c.length [])=true:=by
  refine de fun j hj=>?_
  rw[iu] at hj
  have:(List.replicate c.length ([]:List Vtx)).getD j []=[]:=by simp[aq,mt,hj]
  rw[this]
  simp[o8,graS,hc,ey]
theorem K9 (c l:List Int)(b:Int)(n:Nat)(hn:n=min c.length 7):ag Tryz.prog 25 [.agg [.lst (.int .i64) c,.lst (.int .i64) l,.int .i64 b,.lst (.lst .vtx) (List.replicate n []),.lst (.int .i64) []]] []
  (if iE c l b then .tup [.ptr 4 0,.bool true] else .tup [.nilp,.bool false]) (if iE c l b then rB c l b ((List.replicate n []).map aT) [] else[]):=by
 have h:=Bt ⟨c,l,b,List.replicate n [],[]⟩ fun g hg=>by rw[qb hg];simp
 subst hn
 simp only[G9,G8,BT] at h
 have hk:xM b ((List.replicate (min c.length 7) []).map aT) []=true:=rfl
 rw[hk] at h
 unfold ag at h⊢
 exact h
theorem K5 (c l:List Int)(b:Int):ag Tryz.prog 15 [.lst (.int .i64) c,.lst (.int .i64) l,.int .i64 b] [] (if iE c l b then .tup [bc (LF c l b),.bool true] else .tup [Jx,.bool false]) []:=by
 have hO:=K9 c l b
 have hp:=BT c l b
 refine ab aj Tryz.func15 rfl rfl true 0 4 rfl rfl rfl rfl fun K hK hb1 hb2=>?_;simp only[ae,enc,Nat.reduceAdd]
 simp[ak,V.toD,bnd,ai,D.cells] at hb1
 cases h:iE c l b
 ·simp only[h,eW,if_false] at hO
  by_cases h7:7<(c.length:Int)
  ·have hO:=hO (7:Int).toNat (by omega)
   (repeat' first|refine st ?_|refine sa fun xe hxe=>?_|refine sb (fun hq=>?_) fun hq=>?_|exact aa)
   rw[if_pos h7]
   (repeat' first|refine st ?_|refine sa fun xe hxe=>?_|refine sb (fun hq=>?_) fun hq=>?_|refine cr (hO) ?_|exact aa)
   exact⟨rfl,rfl⟩
  ·have hO:=hO (c.length:Int).toNat (by omega)
   (repeat' first|refine st ?_|refine sa fun xe hxe=>?_|refine sb (fun hq=>?_) fun hq=>?_|exact aa)
   rw[if_neg h7]
   (repeat' first|refine st ?_|refine sa fun xe hxe=>?_|refine sb (fun hq=>?_) fun hq=>?_|refine cr (hO) ?_|exact aa)
   exact⟨rfl,rfl⟩
 ·simp only[h,if_true] at hO
  rw[h] at hp
  have hc:comV c=true:=by
   simp only[iE,aA] at h
   exact h.1
  have h7:=(ay.1 hc).2
  have hW:=Ik _ hp
  dsimp only at hW
  have hn:min c.length 7=(c.length:Int).toNat:=by omega
  rw[hn] at hW
  have hO:=hO (c.length:Int).toNat (by omega)
  (repeat' first|refine st ?_|refine sa fun xe hxe=>?_|refine sb (fun hq=>?_) fun hq=>?_|exact aa)
  rw[if_neg (by omega)]
  (repeat' first|refine st ?_|refine sa fun xe hxe=>?_|refine sb (fun hq=>?_) fun hq=>?_|refine cr (hO) ?_|refine co (hW) ?_|exact aa)
  rw[pf]
  exact⟨rfl,rfl⟩
end Go.Proofs.YtpefhoohfkeflacGreatDoor.Am
namespace Go.Proofs.YtpefhoohfkeflacGreatDoor.Am
open Go Go.RowKit
variable {P:Program} {N:Nat} {K:Id→Prop} {σ:VSt} {Q:Exit→VSt→Prop}
end Go.Proofs.YtpefhoohfkeflacGreatDoor.Am
namespace Go.Proofs.YtpefhoohfkeflacGreatDoor.Am
open Go Go.Shelf Go.RowKit
variable {P:Program} {w0:World} {S:SD} {A:Nat→Prop} {N:Nat} {ρ:Id→Pl} {t:List (Nat×D)} {h:HL} {a:Act} {w:World}
theorem Sim.rowAt (s:Sim P w0 S A N ρ t h a w){b n:Id}{E:TypeId}{xs zs:List D}{w':World}{p:Pl}{c':Array Value}(hb:look h b=some (.row E xs))(hn:look h n=none)
  (hfr:Fr (fun k=>k=(ρ b).blk) w w') (hp:p.blk=(ρ b).blk∨w.heap.size≤p.blk) (hpw:p.blk<w'.heap.size) (hc:w'.heap[p.blk]?=some (.cells c' E (0,0))) (hcs:c'.size=p.cap*p.sz) (hl:zs.length=p.len) (hle:p.len≤p.cap)
  (hmax:p.cap≤maxLen) (hpos:0<p.sz) (hsT:(P.info? E).map (·.size)=some p.sz) (hwf:∀e∈zs,wfC p.sz e) (hv:∀i j,i<zs.length→j<p.sz→∀ok W,Rep ok W ((zs.getD i .undef).cells.getD j .undef) (c'.getD (i*p.sz+j) undef)):
  Ext h ρ (fO ρ n p)∧Sim P w0 S A N (fO ρ n p) t (puts [(b,.gone),(n,.row E zs)] h) a w':=by
 refine⟨Ext.at hn _,?_⟩
 have hpu:puts [(b,Blk.gone),(n,.row E zs)] h=put n (.row E zs) (put b .gone h):=rfl
 rw[hpu]
 have hbn:b≠n:=by rintro rfl;rw[hn] at hb;cases hb
 have hown:=s.own b _ hb rfl
 have key:∀b' y,look (put n (.row E zs) (put b .gone h)) b'=some y→y.live=true→b'≠n→look h b'=some y∧b'≠b:=by
  intro b' y hy hl hne
  rw[af,if_neg hne,af] at hy
  by_cases e:b'=b
  ·simp only[e,if_true,aw] at hy
   subst hy
   simp[Blk.live] at hl
  ·simp only[e,if_false] at hy
   exact⟨hy,e⟩
 have hlv:∀b',Live h b'→Live (put n (.row E zs) (put b .gone h)) b'∧fO ρ n p b'=ρ b':=fun b' hb'=>⟨hb'.put.put,bw ρ _ (hb'.ne hn)⟩
 have hok:∀k,okOf A ρ h w k→okOf A (fO ρ n p) (put n (.row E zs) (put b .gone h)) w' k∧w'.heap[k]?=w.heap[k]?:=by
  rintro k ⟨hk,hm'⟩
  have hkb:=hm' b _ hb rfl
  refine⟨⟨⟨kQ hk.1 hfr.size,hk.2⟩,fun b' y hy hmu=>?_⟩,hfr.block k hk.1 (cm hkb)⟩
  by_cases e:b'=n
  ·subst e
   rw[aH]
   rcases hp with hp|hp
   ·rw[hp];exact hkb
   ·have:=hk.1;omega
  ·rw[bw ρ _ e]
   exact hm' b' y (key b' y hy (ca hmu) e).1 hmu
 have hpS:S p.blk∨w0.heap.size≤p.blk:=by
  rcases hp with hp|hp
  ·rw[hp];exact hown.2
  ·exact .inr (cu s.fr.size hp)
 refine s.step (s.fr.andThen hfr fun k _ hk=>by subst hk;exact hown.2) hlv hok (fun b' y hy=>?_) hfr.size (fun b1 b2 y1 y2 hy1 hy2 hl1 hl2 he=>?_)
 ·by_cases e:b'=n
  ·subst e
   rw[af] at hy
   simp only[if_true,aw] at hy
   subst hy
   refine .inr ⟨?_,fun _=>by rw[aH];exact⟨hpw,hpS⟩⟩
   simp only[BlkOK,aH]
   exact⟨c',hc,hcs,hl,hle,hmax,hpos,hsT,hwf,fun i j hi hj=>.pure (hv i j hi hj _ _)⟩
  ·by_cases hl:y.live=true
   ·obtain⟨q1,q2⟩:=key b' y hy hl e
    exact .inl ⟨q1,fun hmu=>hfr.block _ (s.own b' y q1 hl).1 fun he=>q2 (s.inj b' b y _ q1 hb hl rfl he)⟩
   ·by_cases e3:b'=b
    ·rw[af,if_neg e,af,if_pos e3] at hy
     obtain rfl:=ar hy
     exact .inr ⟨trivial,fun h=>absurd h hl⟩
    ·rw[af,if_neg e,af,if_neg e3] at hy
     exact .inl ⟨hy,fun hmu=>absurd (ca hmu) hl⟩
 ·have oth:∀b' y,look h b'=some y→y.live=true→b'≠b→(ρ b').blk≠p.blk:=by
   intro b' y hy hl hne he
   rcases hp with hp|hp
   ·exact hne (s.inj b' b y _ hy hb hl rfl (he.trans hp))
   ·have:=(s.own b' y hy hl).1;omega
  by_cases e1:b1=n<;>by_cases e2:b2=n
  ·rw[e1,e2]
  ·subst e1
   obtain⟨q1,q2⟩:=key b2 y2 hy2 hl2 e2
   rw[aH,bw ρ _ e2] at he
   exact absurd he.symm (oth b2 y2 q1 hl2 q2)
  ·subst e2
   obtain⟨q1,q2⟩:=key b1 y1 hy1 hl1 e1
   rw[aH,bw ρ _ e1] at he
   exact absurd he (oth b1 y1 q1 hl1 q2)
  ·rw[bw ρ _ e1,bw ρ _ e2] at he
   exact s.inj b1 b2 y1 y2 (key b1 y1 hy1 hl1 e1).1 (key b2 y2 hy2 hl2 e2).1 hl1 hl2 he
theorem dG (g:Nat):∀(vs:List Value) (o:Nat) (w:World),∃hp:Array Obj,w.setCells g o vs={w with heap:=hp}∧hp.size=w.heap.size∧(∀k,k≠g→hp[k]?=w.heap[k]?)∧∀c E fr,w.heap[g]?=some (.cells c E fr)→∃c':Array Value,hp[g]?=some (.cells c' E fr)∧c'.size=c.size
 |[],o,w=>⟨w.heap,rfl,rfl,fun _ _=>rfl,fun c E fr h=>⟨c,h,rfl⟩⟩
 |v::r,o,w=>by
  obtain⟨hp,e1,e2,e3,e4⟩:=dG g r (o+1) (w.setCell ⟨g,o,none⟩ v)
  refine⟨hp,by rw[World.setCells,e1];rfl,by rw[e2];simp[World.setCell],fun k hk=>?_,fun c E fr hc=>?_⟩
  ·rw[e3 k hk]
   simp[World.setCell,nN,cm hk]
  ·have hlt:=(G7.1 hc).1
   obtain⟨c',h1,h2⟩:=e4 (c.setIfInBounds o v) E fr (by
    simp only[World.setCell]
    rw[nN,if_pos rfl,hc]
    rfl)
   exact⟨c',h1,by rw[h2];simp⟩
theorem eP {w:World}{g j:Nat}{c:Array Value}{E:TypeId}{fr:Nat×Nat}(h:w.heap[g]?=some (.cells c E fr)):w.cell? ⟨g,j,none⟩=c[j]?:=by simp[World.cell?,h]
theorem vr {w:World}{g j:Nat}{c:Array Value}{E:TypeId}(h:w.heap[g]?=some (.cells c E (0,0))):w.frozen? ⟨g,j,none⟩=false:=by simp[World.frozen?,h]
theorem yq {w:World}{g:Nat}{c:Array Value}{E:TypeId}{fr:Nat×Nat}(h:w.heap[g]?=some (.cells c E fr)):w.shape? g=some (E,c.size):=by simp[World.shape?,h]
def dN (xs:List Int)(i:Nat)(m:Int):List Int:=xs.take i++[m]++xs.drop i
theorem kE {xs:List Int}{i:Nat}(m:Int)(h:i≤xs.length):(dN xs i m).length=xs.length+1:=by
 simp only[dN,aP,bP,mw,lw];omega
theorem pT {xs:List Int}{i j:Nat}(m:Int)(h:i≤xs.length):(dN xs i m)[j]?=if j<i then xs[j]? else if j=i then some m else xs[j-1]?:=by
 have h1:(xs.take i).length=i:=by rw[bP];omega
 unfold dN
 rw[bH]
 by_cases c1:j<i
 ·rw[if_pos c1,cW (by omega),en,if_pos c1]
 ·rw[if_neg c1,eJ (by omega),h1]
  by_cases c2:j=i
  ·subst c2
   simp
  ·rw[if_neg c2,eJ (by simp;omega),nQ]
   congr 1
   simp
   omega
set_option maxHeartbeats 1000000 in
theorem DS {ρ0 : Go.Shelf.Ren} (L : Lays2.n21 P ρ0) {f : FuncId} (hf : ρ0.f 21 = f) (hfn : ∃ fn, P.funcs[f]? = some fn ∧ fn.body.isNone = false ∧ (fn.name == "runtime.NumGoroutine") = false) {h : HL} {b c n : Id} {xs : List Int} {m : Int} {place : Nat} {E E2 : TypeId} (hE : ρ0.t 3 = E)
  (hb:look h b=some (.row E (xs.map (.int .i64)))) (hc:look h c=some (.row E2 [.int .i64 m])) (hbc:b≠c) (hn:look h n=none) (hpl:place≤xs.length) (hlen:xs.length≤1000000):
  Con P f [.ref b,.int .i64 place,.ref c] h (.ref n) (puts [(b,.gone),(n,.row E ((dN xs place m).map (.int .i64)))] h):=by
 subst hf hE
 refine⟨hfn,fun w A ρ vs s hl hcv=>?_⟩
 obtain⟨v0,v1,v2,rfl⟩:∃v0 v1 v2,vs= #[v0,v1,v2]:=by
  have h3:vs.size=3:=hl.symm
  refine⟨vs[0],vs[1],vs[2],Array.ext (by simp[h3]) fun i h1 h2=>?_⟩
  match i,h2 with
  |0,_=>rfl
  |1,_=>rfl
  |2,_=>rfl
 obtain⟨-,e0⟩:=(hcv 0 (by simp)).ref_inv
 have e1:=(hcv 1 (by simp)).int_inv
 obtain⟨-,e2⟩:=(hcv 2 (by simp)).ref_inv
 have e0:v0= .slice (some ⟨(ρ b).blk,0,none⟩) (ρ b).len (ρ b).cap:=e0
 have e1:v1= .int .i64 place:=e1
 have e2:v2= .slice (some ⟨(ρ c).blk,0,none⟩) (ρ c).len (ρ c).cap:=e2
 subst e0 e1 e2
 obtain⟨cb,g1,g2,g3,g4,g5,g6,g7,g8,g9⟩:=s.blk b _ hb
 obtain⟨cc,k1,k2,k3,k4,k5,k6,k7,k8,k9⟩:=s.blk c _ hc
 have hne:(ρ b).blk≠(ρ c).blk:=fun he=>hbc (s.inj b c _ _ hb hc rfl rfl he)
 have hsz:(ρ b).sz=1:=by
  have:=L.i3
  cases hi:P.info? (ρ0.t 3) with
  |none=>rw[hi] at this;cases this
  |some i=>
   rw[hi] at this g7
   simp only[aI,aw,aZ] at this g7
   omega
 have hsE:(P.info? (ρ0.t 3)).map (·.size)=some 1:=by rw[g7,hsz]
 have hcl:(ρ c).len=1:=by simpa using k3.symm
 rw[hsz,iP] at g2
 simp only[az] at g3
 have hmax:(ρ b).cap≤9223372036854775807:=by have:=g5;unfold maxLen at this;omega
 have hsc:(ρ c).sz=1:=by
  have:=(k8 (D.int .i64 m) (by simp)).1
  exact this.symm
 have hcell:∀(j:Nat) (x:Int),xs[j]?=some x→cb[j]?=some (Value.int .i64 x):=fun j x hx=>by
  have hj:=(aR.1 hx).1
  have h1:=g9 j 0 (by simpa using hj) (by omega)
  rw[hsz,iP,js] at h1
  have h2:((xs.map (D.int .i64)).getD j .undef).cells.getD 0 .undef= .int .i64 x:=by
   simp only[aq,be,hx,aI,dY]
   rfl
  rw[h2] at h1
  have h3:=h1.int_inv
  have hjc:j<cb.size:=by omega
  rw[bJ,eI hjc,dY] at h3
  rw[eI hjc,h3]
 have hccell:cc[0]?=some (Value.int .i64 m):=by
  have h1:=k9 0 0 (by simp) (by omega)
  have h3:=h1.int_inv
  have hjc:0<cc.size:=by rw[k2,hsc];omega
  rw[Nat.zero_mul,eX,bJ,eI hjc,dY] at h3
  rw[eI hjc,h3]
 have hcs:∀j v,(xs.map (Value.int .i64))[j]?=some v→w.cell? ⟨(ρ b).blk,0+j,none⟩=some v:=fun j v hv=>by
  rw[be] at hv
  obtain⟨x,hx,rfl⟩:=bm.1 hv
  rw[eX,eP g1]
  exact hcell j x hx
 have hvs:∀j v,[Value.int .i64 m][j]?=some v→w.cell? ⟨(ρ c).blk,0+j,none⟩=some v:=fun j v hv=>by
  cases j with
  |zero=>
   simp only[iL,aw] at hv
   subst hv
   rw[eP k1]
   exact hccell
  |succ j=>simp at hv
 have h1c:∀v∈xs.map (Value.int .i64),v.oneCell'=true:=fun v hv=>by
  obtain⟨x,-,rfl⟩:=aB.1 hv
  rfl
 have h1v:∀v∈[Value.int .i64 m],v.oneCell'=true:=fun v hv=>by
  rw[aY.1 hv]
  rfl
 have hwf:∀e∈(dN xs place m).map (D.int .i64),wfC 1 e:=fun e he=>by
  obtain⟨x,-,rfl⟩:=aB.1 he
  exact⟨rfl,rfl⟩
 have hzl:((dN xs place m).map (D.int .i64)).length=xs.length+1:=by rw[az,kE m hpl]
 have fin:∀(w':World) (p:Pl) (c':Array Value),Fr (fun k=>k=(ρ b).blk) w w'→(p.blk=(ρ b).blk∨w.heap.size≤p.blk)→p.blk<w'.heap.size→w'.heap[p.blk]?=some (.cells c' (ρ0.t 3) (0,0))→c'.size=p.cap→p.len=xs.length+1→p.len≤p.cap→p.cap≤maxLen→p.sz=1→
   (∀(j:Nat) (x:Int),(dN xs place m)[j]?=some x→c'[j]?=some (Value.int .i64 x))→∃u ρ',Ending.returned (.slice (some ⟨p.blk,0,none⟩) p.len p.cap)= .returned u∧(∀b',Live h b'→ρ' b'=ρ b'∧Live (puts [(b,.gone),(n,.row (ρ0.t 3) ((dN xs place m).map (.int .i64)))] h) b')∧
    Sim P w (qv ρ h) A 0 ρ' [] (puts [(b,.gone),(n,.row (ρ0.t 3) ((dN xs place m).map (.int .i64)))] h) ec w'∧C ρ' (Live (puts [(b,.gone),(n,.row (ρ0.t 3) ((dN xs place m).map (.int .i64)))] h)) (okOf A ρ' (puts [(b,.gone),(n,.row (ρ0.t 3) ((dN xs place m).map (.int .i64)))] h) w') w' (.ref n) u:=by
  intro w' p c' f1 f2 f3 f4 f5 f6 f7 f8 f9 f10
  obtain⟨q1,q2⟩:=s.rowAt (zs:=(dN xs place m).map (D.int .i64)) hb hn f1 f2 f3 f4 (by rw[f9,iP];exact f5) (by rw[hzl,f6]) f7 f8 (by omega) (by rw[f9];exact hsE) (by rw[f9];exact hwf) (fun i j hi hj ok W=>by
   rw[f9] at hj⊢
   obtain rfl:j=0:=by omega
   rw[az] at hi
   have hx:(dN xs place m)[i]?=some ((dN xs place m)[i]):=am hi
   have h2:(((dN xs place m).map (D.int .i64)).getD i .undef).cells.getD 0 .undef= .int .i64 ((dN xs place m)[i]):=by
    simp only[aq,be,hx,aI,dY]
    rfl
   rw[h2,iP,js,bJ,f10 i _ hx,dY]
   exact .int _ _)
  refine⟨_,fO ρ n p,rfl,fun b' hb'=>⟨q1 b' hb',hb'.put.put⟩,q2,?_⟩
  have hL:Live (puts [(b,Blk.gone),(n,.row (ρ0.t 3) ((dN xs place m).map (.int .i64)))] h) n:=by
   show Live (put n _ (put b _ h)) n
   unfold Live;rw[af];simp
  have:=C.ref (ρ:=fO ρ n p) (L:=Live (puts [(b,Blk.gone),(n,.row (ρ0.t 3) ((dN xs place m).map (.int .i64)))] h)) (ok:=okOf A (fO ρ n p) (puts [(b,Blk.gone),(n,.row (ρ0.t 3) ((dN xs place m).map (.int .i64)))] h) w') (w:=w') n hL
  simpa only[aH] using this
 have hcapb:(ρ b).blk<w.heap.size:=(s.own b _ hb rfl).1
 rw[←g3,hcl]
 by_cases hroom:xs.length+1≤(ρ b).cap
 ·by_cases hpe:place<xs.length
  ·-- shifted
   refine(Any2.slices_Insert_int_shift L (ρ b).blk 0 xs.length (ρ b).cap place (ρ c).blk 0 1 (ρ c).cap (xs.map (Value.int .i64)) [Value.int .i64 m] w hpe (by omega) hroom (by omega) (cm hne) (by simp) rfl hcs (fun j hj=>?_) (fun j _=>vr g1) hvs h1c h1v E2 (ρ0.t 3) cc.size cb.size (yq k1) (yq g1) (by omega) (vr k1) (vr k1)).mono ?_
   ·rw[eX,eP g1,eI (by omega)];rfl
   ·rintro e w' ⟨rfl,rfl⟩
    have hb0:∀j,j<cb.size→(w.drew.cell? ⟨(ρ b).blk,j,none⟩)=some cb[j]!:=fun j hj=>by
     have:w.drew.cell? ⟨(ρ b).blk,j,none⟩=w.cell? ⟨(ρ b).blk,j,none⟩:=rfl
     rw[this,eP g1,getElem!_pos cb j hj,eI hj]
    obtain⟨hp1,a1,a2,a3,a4⟩:=dG (ρ b).blk ((xs.map (Value.int .i64)).drop place) (0+(place+1)) w.drew
    obtain⟨c1,a5,a6⟩:=a4 cb _ _ g1
    obtain⟨hp2,b1,b2,b3,b4⟩:=dG (ρ b).blk [Value.int .i64 m] (0+place) (w.drew.setCells (ρ b).blk (0+(place+1)) ((xs.map (Value.int .i64)).drop place))
    obtain⟨c2,b5,b6⟩:=b4 c1 _ _ (by rw[a1];exact a5)
    have hdl:((xs.map (Value.int .i64)).drop place).length=xs.length-place:=by simp
    refine fin _ ⟨(ρ b).blk,(ρ b).cap,1,xs.length+1⟩ c2 ?_ (.inl rfl) ?_ (by rw[b1];exact b5) (by show c2.size=(ρ b).cap;rw[b6,a6,g2]) rfl hroom g5 rfl (fun j x hx=>?_)
    ·rw[b1,a1]
     exact⟨rfl,rfl,rfl,by show w.heap.size≤hp2.size;rw[b2,a1];show w.heap.size≤hp1.size;rw[a2];exact ax _,fun k hk hne2=>by
      show hp2[k]?=_
      rw[b3 k hne2,a1]
      show hp1[k]?=_
      rw[a3 k hne2];rfl⟩
    ·rw[b1];show _<hp2.size;rw[b2,a1];show _<hp1.size;rw[a2];exact hcapb
    ·have hj:j<xs.length+1:=by have:=(aR.1 hx).1;rw[kE m hpl] at this;exact this
     have e:c2[j]?=((w.drew.setCells (ρ b).blk (0+(place+1)) ((xs.map (Value.int .i64)).drop place)).setCells (ρ b).blk (0+place) [Value.int .i64 m]).cell? ⟨(ρ b).blk,j,none⟩:=by
      rw[b1];exact(eP (w:={(w.drew.setCells (ρ b).blk (0+(place+1)) ((xs.map (Value.int .i64)).drop place)) with heap:=hp2}) b5).symm
     rw[e]
     rw[pT m hpl] at hx
     by_cases q1:j=place
     ·subst q1
      rw[if_neg (by omega),if_pos rfl] at hx
      obtain rfl:=ar hx
      have:=World.cell?_setCells_in (ρ b).blk [Value.int .i64 m] (0+j) (w.drew.setCells (ρ b).blk (0+(j+1)) ((xs.map (Value.int .i64)).drop j)) (fun i hi=>by
       have hi0:i=0:=by simpa using hi
       subst hi0
       refine isSome_setCells _ _ _ _ (fun q hq=>?_) _ ?_
       ·rw[hb0 _ (by rw[hdl] at hq;omega)];rfl
       ·rw[hb0 _ (by omega)];rfl) 0 (by simp)
      rw[show 0+j+0=j by omega] at this
      exact this
     ·rw[World.cell?_setCells_out _ _ _ _ _ (fun _ _=>by simp;omega)]
      by_cases q2:j<place
      ·rw[if_pos q2] at hx
       rw[World.cell?_setCells_out _ _ _ _ _ (fun _ _=>by simp;omega),show w.drew.cell? ⟨(ρ b).blk,j,none⟩=w.cell? ⟨(ρ b).blk,j,none⟩ from rfl,eP g1]
       exact hcell j x hx
      ·rw[if_neg q2,if_neg q1] at hx
       have:=World.cell?_setCells_in (ρ b).blk ((xs.map (Value.int .i64)).drop place) (0+(place+1)) w.drew (fun i hi=>by
        rw[hb0 _ (by rw[hdl] at hi;omega)];rfl) (j-(place+1)) (by rw[hdl];omega)
       rw[show 0+(place+1)+(j-(place+1))=j by omega] at this
       rw[this]
       have h5:xs[j-1]'(by omega)=x:=by rw[am (by omega)] at hx;exact ar hx
       congr 1
       rw[List.getElem_drop,List.getElem_map]
       congr 1
       rw[←h5]
       congr 1
       omega
  ·-- at the end,in place
   obtain rfl:place=xs.length:=by omega
   refine(Any2.slices_Insert_int_end_room L (ρ b).blk 0 xs.length (ρ b).cap (ρ c).blk 0 1 (ρ c).cap [Value.int .i64 m] w (by omega) hroom (by omega) rfl (fun j hj=>?_) (fun j _=>vr g1) hvs h1v).mono ?_
   ·rw[eP g1,eI (by omega)];rfl
   ·rintro e w' ⟨rfl,rfl⟩
    obtain⟨hp1,a1,a2,a3,a4⟩:=dG (ρ b).blk [Value.int .i64 m] (0+xs.length) w
    obtain⟨c1,a5,a6⟩:=a4 cb _ _ g1
    refine fin _ ⟨(ρ b).blk,(ρ b).cap,1,xs.length+1⟩ c1 ?_ (.inl rfl) ?_ (by rw[a1];exact a5) (by show c1.size=(ρ b).cap;rw[a6,g2]) rfl hroom g5 rfl (fun j x hx=>?_)
    ·rw[a1]
     exact⟨rfl,rfl,rfl,by show w.heap.size≤hp1.size;rw[a2];exact ax _,fun k hk hne2=>a3 k hne2⟩
    ·rw[a1];show _<hp1.size;rw[a2];exact hcapb
    ·have hj:j<xs.length+1:=by have:=(aR.1 hx).1;rw[kE m hpl] at this;exact this
     have e:c1[j]?=(w.setCells (ρ b).blk (0+xs.length) [Value.int .i64 m]).cell? ⟨(ρ b).blk,j,none⟩:=by
      rw[a1];exact(eP (w:={w with heap:=hp1}) a5).symm
     rw[e]
     rw[pT m hpl] at hx
     by_cases q1:j=xs.length
     ·subst q1
      rw[if_neg (by omega),if_pos rfl] at hx
      obtain rfl:=ar hx
      have:=World.cell?_setCells_in (ρ b).blk [Value.int .i64 m] (0+xs.length) w (fun i hi=>by
       have hi0:i=0:=by simpa using hi
       subst hi0
       rw[eP g1,eI (by omega)];rfl) 0 (by simp)
      rw[show 0+xs.length+0=xs.length by omega] at this
      exact this
     ·rw[if_pos (by omega)] at hx
      rw[World.cell?_setCells_out _ _ _ _ _ (fun _ _=>by simp;omega),eP g1]
      exact hcell j x hx
 ·by_cases hpe:place<xs.length
  ·refine(Any2.slices_Insert_int_grow L (ρ b).blk 0 xs.length (ρ b).cap place (ρ c).blk 0 1 (ρ c).cap (xs.map (Value.int .i64)) [Value.int .i64 m] w hpe (by omega) (by omega) (by omega) (by omega) (by simp) rfl hcs hvs h1c h1v).mono ?_
   rintro e w' ⟨rfl,rfl⟩
   have hG:=grownCap_ge w (xs.length+1) (ρ b).cap (ρ0.t 3)
   have hGm:grownCap w (xs.length+1) (ρ b).cap (ρ0.t 3)≤maxLen:=grownCap_le_maxLen w _ _ _ (by unfold maxLen;omega)
   generalize grownCap w (xs.length+1) (ρ b).cap (ρ0.t 3)=G at *
   obtain⟨ROW,hROW⟩:∃ROW:Array Value,ROW=((xs.map (Value.int .i64)).take place).toArray++Builtin.zeroCells (Value.int .i64 0).cells (xs.length+1-place)++Builtin.zeroCells (Value.int .i64 0).cells (G-(xs.length+1)):=⟨_,rfl⟩
   rw[←hROW]
   have hRs:ROW.size=G:=by
    rw[hROW]
    simp[Builtin.zeroCells,Value.cells]
    omega
   have hRg:∀j,j<place→ROW[j]?=(xs[j]?).map (Value.int .i64):=fun j hj=>by
    have h1:j<((xs.map (Value.int .i64)).take place).toArray.size:=by simp;omega
    rw[hROW,Array.append_assoc,uM h1]
    simp[en,hj]
   obtain⟨W0,hW0⟩:∃W0,W0=(w.alloc (.cells ROW (ρ0.t 3))).drew:=⟨_,rfl⟩
   rw[←hW0]
   have zh:W0.heap=w.heap.push (.cells ROW (ρ0.t 3)):=by rw[hW0];rfl
   have z0:W0.heap[w.heap.size]?=some (.cells ROW (ρ0.t 3) (0,0)):=by rw[zh];simp
   have zs:W0.heap.size=w.heap.size+1:=by rw[zh];simp
   have zo:∀k,k<w.heap.size→W0.heap[k]?=w.heap[k]?:=fun k hk=>by rw[zh,Array.getElem?_push,if_neg (by omega)]
   have z1:W0.os=w.os∧W0.tape=w.tape∧W0.output=w.output:=by rw[hW0];exact⟨rfl,rfl,rfl⟩
   obtain⟨hp1,a1,a2,a3,a4⟩:=dG w.heap.size [Value.int .i64 m] place W0
   obtain⟨c1,a5,a6⟩:=a4 ROW _ _ z0
   obtain⟨hp2,b1,b2,b3,b4⟩:=dG w.heap.size ((xs.map (Value.int .i64)).drop place) (place+1) (W0.setCells w.heap.size place [Value.int .i64 m]).drew
   obtain⟨c2,b5,b6⟩:=b4 c1 _ _ (by rw[a1];exact a5)
   have hdl:((xs.map (Value.int .i64)).drop place).length=xs.length-place:=by simp
   refine fin _ ⟨w.heap.size,G,1,xs.length+1⟩ c2 ?_ (.inr (ax _)) ?_ (by rw[b1];exact b5) (by show c2.size=G;rw[b6,a6,hRs]) rfl hG hGm rfl (fun j x hx=>?_)
   ·rw[b1,a1]
    refine⟨z1.1,z1.2.1,z1.2.2,by show w.heap.size≤hp2.size;rw[b2,a1];show w.heap.size≤hp1.size;rw[a2];omega,fun k hk _=>?_⟩
    show hp2[k]?=_
    rw[b3 k (by omega),a1]
    show hp1[k]?=_
    rw[a3 k (by omega)]
    exact zo k hk
   ·rw[b1];show _<hp2.size;rw[b2,a1];show _<hp1.size;rw[a2,zs];show w.heap.size<_;omega
   ·have hj:j<xs.length+1:=by have:=(aR.1 hx).1;rw[kE m hpl] at this;exact this
    have e:c2[j]?=(((W0.setCells w.heap.size place [Value.int .i64 m]).drew).setCells w.heap.size (place+1) ((xs.map (Value.int .i64)).drop place)).cell? ⟨w.heap.size,j,none⟩:=by
     rw[b1];exact(eP (w:={(W0.setCells w.heap.size place [Value.int .i64 m]).drew with heap:=hp2}) b5).symm
    rw[e]
    have hs0:∀i,i<G→(W0.cell? ⟨w.heap.size,i,none⟩).isSome=true:=fun i hi=>by rw[eP z0,eI (by omega)];rfl
    have hdr:∀x,(W0.setCells w.heap.size place [Value.int .i64 m]).drew.cell? x=(W0.setCells w.heap.size place [Value.int .i64 m]).cell? x:=fun _=>rfl
    rw[pT m hpl] at hx
    by_cases q1:place<j
    ·rw[if_neg (by omega),if_neg (by omega)] at hx
     have:=World.cell?_setCells_in w.heap.size ((xs.map (Value.int .i64)).drop place) (place+1) (W0.setCells w.heap.size place [Value.int .i64 m]).drew (fun i hi=>by
      rw[hdr]
      refine isSome_setCells _ _ _ _ (fun q hq=>?_) _ (hs0 _ (by rw[hdl] at hi;omega))
      have hq0:q=0:=by simpa using hq
      exact hs0 _ (by omega)) (j-(place+1)) (by rw[hdl];omega)
     rw[show place+1+(j-(place+1))=j by omega] at this
     rw[this]
     have h5:xs[j-1]'(by omega)=x:=by rw[am (by omega)] at hx;exact ar hx
     congr 1
     rw[List.getElem_drop,List.getElem_map]
     congr 1
     rw[←h5]
     congr 1
     omega
    ·rw[World.cell?_setCells_out _ _ _ _ _ (fun _ _=>by simp;omega),hdr]
     by_cases q2:j=place
     ·subst q2
      rw[if_neg (by omega),if_pos rfl] at hx
      obtain rfl:=ar hx
      have:=World.cell?_setCells_in w.heap.size [Value.int .i64 m] j W0 (fun i hi=>by
       have hi0:i=0:=by simpa using hi
       exact hs0 _ (by omega)) 0 (by simp)
      rw[js] at this
      exact this
     ·rw[if_pos (by omega)] at hx
      rw[World.cell?_setCells_out _ _ _ _ _ (fun _ _=>by simp;omega),eP z0,hRg j (by omega),hx]
      rfl
  ·obtain rfl:place=xs.length:=by omega
   refine(Any2.slices_Insert_int_end_grow L (some ⟨(ρ b).blk,0,none⟩) xs.length (ρ b).cap (ρ c).blk 0 1 (ρ c).cap (xs.map (Value.int .i64)) [Value.int .i64 m] w (by omega) (by omega) (by omega) (by omega) (by simp) rfl (fun h=>by cases h) (fun a ha j v hv=>by cases ha;rw[dS];exact hcs j v hv) hvs h1v).mono ?_
   rintro e w' ⟨rfl,rfl⟩
   have hG:=grownCap_ge w (xs.length+1) (ρ b).cap (ρ0.t 3)
   have hGm:grownCap w (xs.length+1) (ρ b).cap (ρ0.t 3)≤maxLen:=grownCap_le_maxLen w _ _ _ (by unfold maxLen;omega)
   generalize grownCap w (xs.length+1) (ρ b).cap (ρ0.t 3)=G at *
   obtain⟨ROW,hROW⟩:∃ROW:Array Value,ROW=(xs.map (Value.int .i64)++[Value.int .i64 m]).toArray++Builtin.zeroCells (Value.int .i64 0).cells (G-(xs.length+1)):=⟨_,rfl⟩
   rw[←hROW]
   have hRs:ROW.size=G:=by
    rw[hROW]
    simp[Builtin.zeroCells,Value.cells]
    omega
   have zh:(w.drew.alloc (.cells ROW (ρ0.t 3))).heap=w.heap.push (.cells ROW (ρ0.t 3)):=rfl
   refine fin _ ⟨w.heap.size,G,1,xs.length+1⟩ ROW ⟨rfl,rfl,rfl,by rw[zh];simp,fun k hk _=>by rw[zh,Array.getElem?_push,if_neg (by omega)]⟩ (.inr (ax _)) (by rw[zh];simp) (by rw[zh];simp) hRs rfl hG hGm rfl (fun j x hx=>?_)
   have hj:j<xs.length+1:=by have:=(aR.1 hx).1;rw[kE m hpl] at this;exact this
   have h1:j<(xs.map (Value.int .i64)++[Value.int .i64 m]).toArray.size:=by simp;omega
   have h2:dN xs xs.length m=xs++[m]:=by simp[dN]
   rw[h2] at hx
   rw[hROW,uM h1]
   have h3:xs.map (Value.int .i64)++[Value.int .i64 m]=(xs++[m]).map (Value.int .i64):=by simp
   rw[h3,List.getElem?_toArray,be,hx]
   rfl
end Go.Proofs.YtpefhoohfkeflacGreatDoor.Am
namespace Go.Proofs.YtpefhoohfkeflacGreatDoor.Am
open Go Go.Shelf Go.RowKit
attribute [local irreducible] Mk ci Ari fB mA ju b9 cR iT fo At
set_option maxRecDepth 10000
theorem Con.out {P:Program}{f:FuncId}{ds:List D}{hin hout hout':HL}{r:D}(h:Con P f ds hin r hout)(he:∀b,look hout' b=look hout b):Con P f ds hin r hout':=by
 refine⟨h.1,fun w A ρ vs s hl hc=>(h.2 w A ρ vs s hl hc).mono ?_⟩
 rintro e w' ⟨u,ρ',h1,h2,h3,h4⟩
 have hl:∀b,Live hout b→Live hout' b:=fun b hb=>by
  unfold Live at hb⊢
  rw[he]
  exact hb
 exact⟨u,ρ',h1,fun b hb=>⟨(h2 b hb).1,hl b (h2 b hb).2⟩,h3.congr (fun _=>rfl) he,h4.mono (fun b hb=>⟨hl b hb,rfl⟩) fun k hk=>⟨⟨hk.1,fun b y hy hmu=>hk.2 b y (by rw[←he];exact hy) hmu⟩,rfl⟩⟩
def zL:Go.Shelf.Ren:=⟨fun|25=>202|31=>217|32=>218|37=>229|n=>n,fun|22=>32|3=>3|4=>4|40=>166|0=>0|n=>n,fun|n=>n⟩
theorem Fo:Go.Proofs.Lays2.n25 Tryz.prog zL where
  mixed:=by kernel_rfl
  f25:=Tryz.func202.trans (congrArg some (by kernel_rfl))
  f31:=Tryz.func217.trans (congrArg some (by kernel_rfl))
  f32:=Tryz.func218.trans (congrArg some (by kernel_rfl))
  f37:=Tryz.func229.trans (congrArg some (by kernel_rfl))
  t0:=Tryz.underlying0
  a0:=Tryz.isAgg0
  z0:=Tryz.sizeOf0
  v0:=Tryz.zeroValue0
  t3:=Tryz.underlying3
  a3:=Tryz.isAgg3
  z3:=Tryz.sizeOf3
  v3:=Tryz.zeroValue3
  t4:=Tryz.underlying4
  a4:=Tryz.isAgg4
  z4:=Tryz.sizeOf4
  v4:=Tryz.zeroValue4
  t22:=Tryz.underlying32
  a22:=Tryz.isAgg32
  z22:=Tryz.sizeOf32
  v22:=Tryz.zeroValue32
  t40:=Tryz.underlying166
  a40:=Tryz.isAgg166
  z40:=Tryz.sizeOf166
  v40:=Tryz.zeroValue166
def zK:Go.Shelf.Ren:=⟨fun|21=>213|27=>226|28=>227|35=>230|39=>203|n=>n,fun|22=>32|3=>3|4=>4|0=>0|n=>n,fun|n=>n⟩
theorem LA:Go.Proofs.Lays2.n21 Tryz.prog zK where
  mixed:=by kernel_rfl
  f21:=Tryz.func213.trans (congrArg some (by kernel_rfl))
  f27:=Tryz.func226.trans (congrArg some (by kernel_rfl))
  f28:=Tryz.func227.trans (congrArg some (by kernel_rfl))
  f35:=Tryz.func230.trans (congrArg some (by kernel_rfl))
  f39:=Tryz.func203.trans (congrArg some (by kernel_rfl))
  t0:=Tryz.underlying0
  a0:=Tryz.isAgg0
  z0:=Tryz.sizeOf0
  v0:=Tryz.zeroValue0
  t3:=Tryz.underlying3
  a3:=Tryz.isAgg3
  z3:=Tryz.sizeOf3
  v3:=Tryz.zeroValue3
  t4:=Tryz.underlying4
  a4:=Tryz.isAgg4
  z4:=Tryz.sizeOf4
  v4:=Tryz.zeroValue4
  t22:=Tryz.underlying32
  a22:=Tryz.isAgg32
  z22:=Tryz.sizeOf32
  v22:=Tryz.zeroValue32
  i3:=by kernel_rfl
theorem qn (w:World)(q:Nat):Below w.heap.size w (w.drewN q):=⟨rfl,rfl,rfl,ax _,fun _ _=>rfl⟩
theorem ET (xs:List Int)(x:Int)(hs:xs.Pairwise (· ≤ ·))(hl:xs.length≤1000000):ag Tryz.prog 202 [.lst (.int .i64) xs,.int .i64 x] [] (.tup [.int .i64 (xs.countP (· <x):Nat),.bool (xs.contains x)]) []:=by
 unfold ag
 refine iU ⟨_,Tryz.func202,rfl,rfl⟩ fun w ok ρ vs hl2 hc=>?_
 obtain⟨v0,v1,rfl⟩:∃v0 v1,vs= #[v0,v1]:=by
  have h2:vs.size=2:=hl2.symm
  refine⟨vs[0],vs[1],Array.ext (by simp[h2]) fun i h1 h3=>?_⟩
  match i,h3 with
  |0,_=>rfl
  |1,_=>rfl
 have h0:C ρ (fun _=>False) ok w (.lst (xs.map (D.int .i64))) v0:=hc 0 (by simp[ak])
 have h1:C ρ (fun _=>False) ok w (.int .i64 x) v1:=hc 1 (by simp[ak])
 obtain rfl:=h1.int_inv
 have h0:=h0.lst_inv
 have fin:∀w':World,Below w.heap.size w w'→∀ok',Rep ok' w' ((V.tup [.int .i64 (xs.countP (· <x):Nat),.bool (xs.contains x)]).toD) (.tuple #[.int .i64 (xs.countP (· <x):Nat),.bool (xs.contains x)]):=fun w' _ ok'=>by
  refine .tup _ _ rfl fun i hi=>?_
  match i,hi with
  |0,_=>exact .int _ _
  |1,_=>exact .bool _
 cases xs with
 |nil=>
  obtain⟨a,cap,rfl⟩:∃a cap,v0= .slice a 0 cap:=by
   generalize hd:(([]:List Int).map (D.int .i64))=dl at h0
   cases h0 with
   |none a cap ha hcap=>exact⟨a,cap,rfl⟩
   |lst l n b off cap f hn=>subst hd;exact⟨_,cap,by rw[←hn];rfl⟩
  refine Calls.mono (Any.slices_BinarySearch_int_empty Fo a cap x w) ?_
  rintro e w' ⟨rfl,rfl⟩
  exact⟨_,rfl,Below.refl _ _,fin _ (Below.refl _ _)⟩
 |cons y ys=>
  obtain⟨b,off,cap,rfl,hcell⟩:∃b off cap,v0= .slice (some ⟨b,off,none⟩) (y::ys).length cap∧∀j,j<(y::ys).length→w.cell? ⟨b,off+j,none⟩=some (.int .i64 ((y::ys).getD j 0)):=by
   generalize hd:((y::ys).map (D.int .i64))=dl at h0
   cases h0 with
   |none a cap ha hcap=>cases hd
   |lst l n b off cap f hn hcap hmax hok hsz hpos hcc hr=>
    have hlen:(y::ys).length=n:=by rw[←hn,←hd];simp
    have hz:szl dl=1:=by rw[←hd];rfl
    refine⟨b,off,cap,by rw[hlen],fun j hj=>?_⟩
    have q1:=hcc j 0 (by omega) (by omega)
    have q2:=hr j 0 (by omega) (by omega)
    rw[hz,iP,js] at q1
    have q3:(dl.getD j .undef).cells.getD 0 .undef= .int .i64 ((y::ys).getD j 0):=by
     rw[←hd]
     simp only[aq,be,am hj,aI,dY]
     rfl
    rw[q3] at q2
    generalize f j 0=z at q1 q2
    cases q2
    exact q1
  refine Calls.mono (Any.slices_BinarySearch_int Fo b off (y::ys).length cap (y::ys) x w (ax _) (by omega) hcell (by rw[iN];exact hs)) ?_
  rintro e w' ⟨rfl,q,rfl⟩
  rw[iN]
  exact⟨_,rfl,qn _ _,fin _ (qn _ _)⟩
theorem Ig (xss:List (Option (List Int)))(i:Nat)(xs:List Int)(m:Int)(place:Nat)(hi:xss[i]?=some (some xs))(hp:place≤xs.length)(hl:xs.length≤1000000):ag Tryz.prog 213 [.hro 1 (some i),.int .i64 place,.ref 4] [(1,.frowx 3 (.int .i64) xss),(4,.row 3 (.int .i64) [m])]
  (.hro 1 (some xss.length)) [(1,.frowx 3 (.int .i64) (xss.set i none++[some (dN xs place m)])),(4,.row 3 (.int .i64) [m])]:=by
 have hil:=(aR.1 hi).1
 have l1:∀j,look (toH [(1,VB.frowx 3 (.int .i64) xss),(4,.row 3 (.int .i64) [m])]) (1,j)=(xss[j]?).map (rowX 3 (.int .i64)):=fun j=>by rw[ap];simp[look,VB.blks]
 have h1:look (toH [(1,VB.frowx 3 (.int .i64) xss),(4,.row 3 (.int .i64) [m])]) (1,i)=some (.row 3 (xs.map (.int .i64))):=by rw[l1,hi];rfl
 have h2:look (toH [(1,VB.frowx 3 (.int .i64) xss),(4,.row 3 (.int .i64) [m])]) (4,0)=some (.row 3 [.int .i64 m]):=by rw[ap];rfl
 have h3:look (toH [(1,VB.frowx 3 (.int .i64) xss),(4,.row 3 (.int .i64) [m])]) (1,xss.length)=none:=by rw[l1];simp
 have hc:=DS LA (f:=213) rfl ⟨_,Tryz.func213,rfl,rfl⟩ rfl h1 h2 (by simp) h3 hp hl
 unfold ag
 refine hc.out fun b=>?_
 obtain⟨b1,b2⟩:=b
 show look (toH _) (b1,b2)=look (put (1,xss.length) _ (put (1,i) _ _)) (b1,b2)
 rw[af,af,ap,ap]
 by_cases e1:b1=1
 ·subst e1
  simp only[look,if_true,ba,VB.blks,aZ,true_and]
  by_cases e2:b2=xss.length
  ·subst e2
   rw[if_pos rfl]
   simp[rowX]
   exact⟨rfl,fun _ _=>rfl⟩
  ·rw[if_neg e2]
   by_cases e3:b2=i
   ·subst e3
    rw[if_pos rfl,ce,cW (by simpa using hil)]
    simp[dm,hil,rowX]
   ·rw[if_neg e3,ce]
    rcases cG b2 xss.length with hlt|hge
    ·rw[cW (by simpa using hlt)]
     simp[dm,cm e3]
    ·rw[eg (by simp;omega),eg (by simpa using hge)]
 ·simp[look,e1]
end Go.Proofs.YtpefhoohfkeflacGreatDoor.Am
namespace Go.Proofs.YtpefhoohfkeflacGreatDoor.Am
open Go
attribute [local irreducible] Mk ci Ari fB mA ju b9 cR iT fo At ag
set_option maxRecDepth 10000
abbrev rX (s:Int)(c l:List Int)(b:Int)(tabs:List (List (Option Vtx)))(xss:List (Option (List Int)))(ms:List PplM):VH:=[(0,.fvari 143 217 (.ob .vtx) tabs),(1,.frowx 3 (.int .i64) xss),(4,.var 97 [.int .i32 s,.int .u32 0,.lst (.int .i64) c,.lst (.int .i64) l,.int .i64 b,.ref 5,.ref 6]),(5,.row 98 (.hp 0) ((List.range tabs.length).map some)),(6,.row 123 (.pplm 1) ms)]
abbrev Nv (s:Int)(c l:List Int)(b:Int)(tabs:List (List (Option Vtx)))(xss:List (Option (List Int)))(ms:List PplM):VH:=[(0,.fvari 143 217 (.ob .vtx) tabs),(1,.frowx 3 (.int .i64) xss),(4,.var 97 [.int .i32 s,.int .u32 0,.lst (.int .i64) c,.lst (.int .i64) l,.int .i64 b,.ref 5,.ref 7]),(5,.row 98 (.hp 0) ((List.range tabs.length).map some)),(6,.gone),(7,.row 123 (.pplm 1) ms)]
def lH (tab:List (Option Vtx))(r n:Nat):List Int:=((List.range n).filter fun a:Nat=>(tab.getD (r*7+a) none).isSome).map fun a:Nat=>(a:Int)
theorem yV (tab:List (Option Vtx))(r n:Nat):lH tab r (n+1)=if(tab.getD (r*7+n) none).isSome then lH tab r n++[(n:Int)] else lH tab r n:=by
 simp only[lH,mn,pe,ce,nz,mo]
 split<;>simp
theorem Cv (tab:List (Option Vtx))(r n:Nat):(lH tab r n).length≤n:=by
 simp only[lH,az]
 exact cu (my _ _) (by simp)
theorem og {p q:Nat→Bool}{n:Nat}:∀m,n≤m→(∀a,a<n→p a=q a)→(∀a,n≤a→a<m→p a=false)→(List.range m).filter p=(List.range n).filter q
 |0,h,_,_=>by
  obtain rfl:n=0:=by omega
  rfl
 |m+1,h,h1,h2=>by
  rcases cG n (m+1) with hlt|hge
  ·rw[mn,pe,og m (by omega) h1 (fun a ha hb=>h2 a ha (by omega)),nz,h2 m (by omega) (by omega)]
   simp
  ·obtain rfl:n=m+1:=by omega
   exact nR fun a ha=>h1 a (eM.1 ha)
theorem wP {c:List Int}{g:List Vtx}(h:GraOK c g){r:Nat}(hr:r≤30):lH (aT g) r 7=fq g r:=by
 have h7:=(ay.1 h.com).2
 have ht:∀v∈g,jf v:=fun u hu=>dk h.com (h.vtx u hu)
 rw[←wO h]
 unfold lH wN
 congr 1
 refine og 7 (by omega) (fun a ha=>?_) fun a ha hb=>?_
 ·have:=rJ ht (r:=r) (a:=a) (by omega) (by omega)
  rwa [show ((r:Int)*7+(a:Int)).toNat=r*7+a by omega] at this
 ·have h1:=rJ ht (r:=r) (a:=a) (by omega) (by omega)
  rw[show ((r:Int)*7+(a:Int)).toNat=r*7+a by omega] at h1
  rw[h1,ck]
  intro h2
  obtain⟨v,hv,-,hva⟩:=cF.1 h2
  have:=(bG (h.vtx v hv)).2.1
  omega
theorem zy (s:Int)(c l:List Int)(b:Int)(tabs:List (List (Option Vtx)))(xss:List (Option (List Int)))(ms:List PplM)(m:Int):ag Tryz.prog 191 [.ptr 4 0,.int .i64 m] (rX s c l b tabs xss ms) (.bool (dt c m && m !=b)) (rX s c l b tabs xss ms):=by
 refine ab bS Tryz.func191 rfl rfl false 3 7 rfl rfl rfl rfl fun K hK hb1 hb2=>?_;simp only[ae,enc,Nat.reduceAdd]
 clear hb1 hb2
 have hC:=fw c m
 cases h:dt c m<;>rw[h] at hC<;>(repeat' first|refine cg ?_|refine sa fun xe hxe=>?_|refine sb (fun hq=>?_) fun hq=>?_|refine cr (hC) ?_|exact aa)<;>(refine⟨congrArg V.bool ?_,rfl⟩;(first|rfl|(simp;done)|(simp_all;done)|(rw[d6];(try simp at *);omega)|(simp_all;omega)))
theorem zE (s:Int)(c l:List Int)(b:Int)(tabs:List (List (Option Vtx)))(xss:List (Option (List Int)))(ms:List PplM)(i:Nat)(hi:i<ms.length)(hl:ms.length≤1000000):ag Tryz.prog 195 [.ptr 4 0,.int .i64 (i:Int)] (rX s c l b tabs xss ms) (.eptr 6 i 0) (rX s c l b tabs xss ms):=by
 refine ab bS Tryz.func195 rfl rfl false 3 7 rfl rfl rfl rfl fun K hK hb1 hb2=>?_;simp only[ae,enc,Nat.reduceAdd]
 clear hb1 hb2
 (repeat' first|refine cg ?_|refine sa fun xe hxe=>?_|refine sb (fun hq=>?_) fun hq=>?_|exact aa)
 exact⟨rfl,rfl⟩
theorem zC (s:Int)(c l:List Int)(b:Int)(tabs:List (List (Option Vtx)))(xss:List (Option (List Int)))(ms:List PplM)(i:Int)(hi:i<0∨(ms.length:Int)≤i)(hl:ms.length≤1000000):ag Tryz.prog 195 [.ptr 4 0,.int .i64 i] (rX s c l b tabs xss ms) .nilp (rX s c l b tabs xss ms):=by
 refine ab bS Tryz.func195 rfl rfl false 3 7 rfl rfl rfl rfl fun K hK hb1 hb2=>?_;simp only[ae,enc,Nat.reduceAdd]
 clear hb1 hb2
 by_cases h0:i<0
 ·(repeat' first|refine cg ?_|refine sa fun xe hxe=>?_|refine sb (fun hq=>?_) fun hq=>?_|exact aa)
  exact⟨rfl,rfl⟩
 ·(repeat' first|refine cg ?_|refine sa fun xe hxe=>?_|refine sb (fun hq=>?_) fun hq=>?_|exact aa)
  exact⟨rfl,rfl⟩
theorem JO (tabs:List (List (Option Vtx)))(k:Nat)(tab:List (Option Vtx))(r:Int)(hk:tabs[k]?=some tab)(ht:tab.length=217)(hr:0≤r∧r≤30):ag Tryz.prog 193 [.hpo 0 (some k),.int .i64 r] [(0,.fvari 143 217 (.ob .vtx) tabs)] (.ref 4) [(0,.fvari 143 217 (.ob .vtx) tabs),(4,.row 3 (.int .i64) (lH tab r.toNat 7))]:=by
 obtain⟨n,rfl⟩:=Int.eq_ofNat_of_zero_le hr.1
 obtain⟨-,hr⟩:=hr
 rw[show (n:Int).toNat=n from rfl]
 refine ab bS Tryz.func193 rfl rfl false 0 4 rfl rfl rfl rfl fun K hK hb1 hb2=>?_;simp only[ae,enc,Nat.reduceAdd]
 clear hb1 hb2
 have hat:∀n,n<217→tab[n]?=some (tab.getD n none):=fun n hn=>by rw[aq,am (by omega)];rfl
 obtain⟨e,he⟩:∃e:Nat→Option Vtx,∀j,e j=tab.getD (n*7+j) none:=⟨_,fun _=>rfl⟩
 have hg:∀j,j<7→tab[n*7+j]?=some (e j):=fun j hj=>by rw[he];exact hat _ (by omega)
 (repeat' first|refine cg ?_|refine sa fun xe hxe=>?_|refine sb (fun hq=>?_) fun hq=>?_|exact aa)
 rename_i e0 h0 e1 h1 e2 h2 e3 h3 e4 h4 e5 h5
 obtain rfl:e0=e 0:=ar (h0.symm.trans (hg 0 (by omega)))
 obtain rfl:e1=e 1:=ar (h1.symm.trans (hg 1 (by omega)))
 obtain rfl:e2=e 2:=ar (h2.symm.trans (hg 2 (by omega)))
 obtain rfl:e3=e 3:=ar (h3.symm.trans (hg 3 (by omega)))
 obtain rfl:e4=e 4:=ar (h4.symm.trans (hg 4 (by omega)))
 obtain rfl:e5=e 5:=ar (h5.symm.trans (hg 5 (by omega)))
 obtain rfl:xe=e 6:=ar (hxe.symm.trans (hg 6 (by omega)))
 clear h0 h1 h2 h3 h4 h5 hxe
 refine ah hK [] [5,13,14] (fun j:Nat=>⟨[(5,.ref 4),(13,.agg [.obo .vtx (e 0),.obo .vtx (e 1),.obo .vtx (e 2),.obo .vtx (e 3),.obo .vtx (e 4),.obo .vtx (e 5),.obo .vtx (e 6)]),(14,.int .i64 (j:Int))],[(0,.fvari 143 217 (.ob .vtx) tabs),(4,.row 3 (.int .i64) (lH tab n j))],5⟩) (fun j=>j≤7) (fun j=>7-j) 0 (by omega) rfl ?_
 intro j hj
 by_cases hjl:j<7
 ·have hs:=yV tab n j
  have hll:=Cv tab n j
  rw[←he] at hs
  obtain⟨j1,hj1⟩:∃j1,j1=j+1:=⟨_,rfl⟩
  have hji:((j1:Nat):Int)=(j:Int)+1:=by omega
  rw[←hj1] at hs
  obtain⟨o,ho⟩:∃o,o=e j:=⟨_,rfl⟩
  rw[←ho] at hs
  generalize lH tab n j=la at *
  obtain rfl|rfl|rfl|rfl|rfl|rfl|rfl:j=0∨j=1∨j=2∨j=3∨j=4∨j=5∨j=6:=by omega
  all_goals
   rw[←ho]
   cases o with
   |none=>
    (repeat' first|refine cg ?_|refine sa fun xe hxe=>?_|refine sb (fun hq=>?_) fun hq=>?_|exact aa)
    refine⟨j1,by omega,by omega,?_⟩
    rw[hs,hji]
    rfl
   |some v=>
    (repeat' first|refine cg ?_|refine sa fun xe hxe=>?_|refine sb (fun hq=>?_) fun hq=>?_|exact aa)
    refine⟨j1,by omega,by omega,?_⟩
    rw[hs,hji]
    rfl
 ·obtain rfl:j=7:=by omega
  (repeat' first|refine cg ?_|refine sa fun xe hxe=>?_|refine sb (fun hq=>?_) fun hq=>?_|exact aa)
  exact⟨rfl,rfl⟩
theorem Nf (s:Int)(c l:List Int)(b:Int)(tabs:List (List (Option Vtx)))(xss:List (Option (List Int)))(ms:List PplM)(k:Nat)(g:List Vtx)(h:GraOK c g)(hk:tabs[k]?=some (aT g)):ag Tryz.prog 192 [.ptr 4 0,.hpo 0 (some k)] (rX s c l b tabs xss ms) (.int .i64 (iD c g)) (rX s c l b tabs xss ms):=by
 refine ab bS Tryz.func192 rfl rfl false 3 7 rfl rfl rfl rfl fun K hK hb1 hb2=>?_;simp only[ae,enc,Nat.reduceAdd]
 clear hb1 hb2
 (repeat' first|refine cg ?_|refine sa fun xe hxe=>?_|refine sb (fun hq=>?_) fun hq=>?_|exact aa)
 refine ah hK [] [0,1,5] (fun k':Int=>⟨[(0,.ptr 4 0),(1,.hpo 0 (some k)),(5,.int .i64 k')],rX s c l b tabs xss ms,7⟩) (fun k=>(-1≤k∧k≤30)∧iD c g=kr c g (k+1).toNat) (fun k=>(k+1).toNat) 30 ⟨by simp,rfl⟩ rfl ?_
 rintro r ⟨hi,hh⟩
 by_cases hr:r<0
 ·(repeat' first|refine cg ?_|refine sa fun xe hxe=>?_|refine sb (fun hq=>?_) fun hq=>?_|exact aa)
  rw[show (r+1).toNat=0 by omega] at hh
  exact⟨by rw[hh];rfl,rfl⟩
 ·have h1:=pk h r
  have h2:=eD h1
  have h7:=(ay.1 h.com).2
  have ha:=JO tabs k (aT g) r hk (dX g) (by omega)
  rw[wP h (r:=r.toNat) (by omega),show ((r.toNat:Nat):Int)=r by omega] at ha
  have h4:kr c g (r.toNat+1)=if quo c≤lF c (fq g r.toNat) then(r.toNat:Int) else kr c g r.toNat:=rfl
  rw[show ((r.toNat:Nat):Int)=r by omega] at h4
  rw[show (r+1).toNat=r.toNat+1 by omega,h4] at hh
  by_cases h5:quo c≤lF c (fq g r)
  ·rw[if_pos h5] at hh
   (repeat' first|refine cg ?_|refine sa fun xe hxe=>?_|refine sb (fun hq=>?_) fun hq=>?_|refine cr (zF _ h.com) ?_|((with_reducible refine ft ?_);(conv=>whnf);(first|with_reducible refine bf (zI _ _ h.com (dC h1) (by omega)) ?_);conv=>whnf)|refine co (ha) ?_|exact aa)
   exact⟨by rw[hh],rfl⟩
  ·rw[if_neg h5] at hh
   (repeat' first|refine cg ?_|refine sa fun xe hxe=>?_|refine sb (fun hq=>?_) fun hq=>?_|refine cr (zF _ h.com) ?_|((with_reducible refine ft ?_);(conv=>whnf);(first|with_reducible refine bf (zI _ _ h.com (dC h1) (by omega)) ?_);conv=>whnf)|refine co (ha) ?_|exact aa)
   exact⟨r-1,⟨by omega,by rw[hh];congr 1;omega⟩,by omega,rfl⟩
theorem zx (s:Int)(c l:List Int)(b:Int)(tabs:List (List (Option Vtx)))(xss:List (Option (List Int)))(ms:List PplM)(v:Vtx)(hc:comV c=true)(hv:vtxS c v=true)(hl:ms.length<220):ag Tryz.prog 194 [.ptr 4 0,cY v] (rX s c l b tabs xss ms) (.bool true) (Nv s c l b tabs (xss++[some []]) (ms++[⟨v,some xss.length⟩])):=by
 refine ab bS Tryz.func194 rfl rfl false 3 7 rfl rfl rfl rfl fun K hK hb1 hb2=>?_;simp only[ae,enc,Nat.reduceAdd]
 clear hb1 hb2
 have h1:=jZ c v
 rw[hc,hv,show (true && true)=true from rfl] at h1
 have hp:=o9 hc hv
 (repeat' first|refine cg ?_|refine sa fun xe hxe=>?_|refine sb (fun hq=>?_) fun hq=>?_|refine cr (h1) ?_|((with_reducible refine ft ?_);(conv=>whnf);(first|with_reducible refine bf (ov _ (cu hp (by omega))) ?_);conv=>whnf)|exact aa)
 exact⟨rfl,rfl⟩
theorem zw (s:Int)(c l:List Int)(b:Int)(tabs:List (List (Option Vtx)))(xss:List (Option (List Int)))(ms:List PplM)(v:Vtx)(hc:comV c=true)(hn:(vtxS c v && decide (ms.length<220))=false)(hl:ms.length≤1000000):ag Tryz.prog 194 [.ptr 4 0,cY v] (rX s c l b tabs xss ms) (.bool false) (rX s c l b tabs xss ms):=by
 refine ab bS Tryz.func194 rfl rfl false 3 7 rfl rfl rfl rfl fun K hK hb1 hb2=>?_;simp only[ae,enc,Nat.reduceAdd]
 clear hb1 hb2
 have h1:=jZ c v
 rw[hc,d7] at h1
 cases hv:vtxS c v
 ·rw[hv] at h1
  (repeat' first|refine cg ?_|refine sa fun xe hxe=>?_|refine sb (fun hq=>?_) fun hq=>?_|refine cr (h1) ?_|exact aa)
  exact⟨rfl,rfl⟩
 ·rw[hv] at h1 hn
  have hn:¬ms.length<220:=by simpa using hn
  (repeat' first|refine cg ?_|refine sa fun xe hxe=>?_|refine sb (fun hq=>?_) fun hq=>?_|refine cr (h1) ?_|exact aa)
  exact⟨rfl,rfl⟩
theorem Dz {xs:List Int}(h:xs.Pairwise (· < ·)):xs.Pairwise (· ≤ ·):=h.imp fun h=>Int.le_of_lt h
theorem EU (xss:List (Option (List Int)))(ms:List PplM)(i j:Nat)(v:Vtx)(xs:List Int)(m:Int)(hi:ms[i]?=some ⟨v,some j⟩)(hj:xss[j]?=some (some xs))(hs:xs.Pairwise (· < ·))(hl:xs.length≤1000000)(hm:xs.contains m=true):ag Tryz.prog 196 [.eptr 4 i 0,.int .i64 m] [(1,.frowx 3 (.int .i64) xss),(4,.row 123 (.pplm 1) ms)]
  (.bool false) [(1,.frowx 3 (.int .i64) xss),(4,.row 123 (.pplm 1) ms)]:=by
 refine ab bS Tryz.func196 rfl rfl false 1 5 rfl rfl rfl rfl fun K hK hb1 hb2=>?_;simp only[ae,enc,Nat.reduceAdd]
 clear hb1 hb2
 have hb:=ET xs m (Dz hs) hl
 rw[hm] at hb
 (repeat' first|refine cg ?_|refine sa fun xe hxe=>?_|refine sb (fun hq=>?_) fun hq=>?_|((with_reducible refine kT ?_);(conv=>whnf))|((first|with_reducible refine bf (hb) ?_);conv=>whnf)|exact aa)
 exact⟨rfl,rfl⟩
theorem EV (xss:List (Option (List Int)))(ms:List PplM)(i j:Nat)(v:Vtx)(xs:List Int)(m:Int)(hi:ms[i]?=some ⟨v,some j⟩)(hj:xss[j]?=some (some xs))(hs:xs.Pairwise (· < ·))(hl:xs.length≤1000000)(hm:xs.contains m=false):ag Tryz.prog 196 [.eptr 4 i 0,.int .i64 m] [(1,.frowx 3 (.int .i64) xss),(4,.row 123 (.pplm 1) ms)]
  (.bool true) [(1,.frowx 3 (.int .i64) (xss.set j none++[some (dN xs (xs.countP (· <m)) m)])),(4,.row 123 (.pplm 1) (ms.set i ⟨v,some xss.length⟩))]:=by
 refine ab bS Tryz.func196 rfl rfl false 1 5 rfl rfl rfl rfl fun K hK hb1 hb2=>?_;simp only[ae,enc,Nat.reduceAdd]
 clear hb1 hb2
 have hb:=ET xs m (Dz hs) hl
 rw[hm] at hb
 have hp:xs.countP (· <m)≤xs.length:=List.countP_le_length
 have hC:=Ig xss j xs m _ hj hp hl
 (repeat' first|refine cg ?_|refine sa fun xe hxe=>?_|refine sb (fun hq=>?_) fun hq=>?_|refine co (hC) ?_|((with_reducible refine kT ?_);(conv=>whnf))|((first|with_reducible refine bf (hb) ?_);conv=>whnf)|exact aa)
 refine fZ (by show xss.length≤(xss.set j none++[_]).length;simp) ?_
 (conv=>whnf)
 (repeat' first|refine cg ?_|refine sa fun xe hxe=>?_|refine sb (fun hq=>?_) fun hq=>?_|refine co (hC) ?_|((with_reducible refine kT ?_);(conv=>whnf))|((first|with_reducible refine bf (hb) ?_);conv=>whnf)|exact aa)
 exact⟨rfl,rfl⟩
end Go.Proofs.YtpefhoohfkeflacGreatDoor.Am
namespace Go.Proofs.YtpefhoohfkeflacGreatDoor.Am
open Go
structure Rel (ps:List Ppl)(xss:List (Option (List Int)))(ms:List PplM):Prop where
 len:ms.length=ps.length
 get:∀(i:Nat) (p:Ppl),ps[i]?=some p→∃j:Nat,ms[i]?=some ⟨p.v,some j⟩∧xss[j]?=some (some p.members)
 inj:∀(i i':Nat) (v v':Vtx) (j:Nat),ms[i]?=some ⟨v,some j⟩→ms[i']?=some ⟨v',some j⟩→i=i'
theorem LZ (ps:List Ppl):Rel ps (ps.map fun p=>some p.members) (tS ps):=by
 refine⟨mX ps,fun i p h=>⟨i,vT h,by rw[be,h];rfl⟩,fun i i' v v' j h h'=>?_⟩
 have key:∀{i:Nat} {v:Vtx},(tS ps)[i]?=some ⟨v,some j⟩→i=j:=fun {i v} h=>by
  have hi:=(aR.1 h).1
  rw[mX] at hi
  rw[vT (am hi)] at h
  injection h with h
  injection h with _ h
  exact ar h
 rw[key h,key h']
theorem Rel.old {ps:List Ppl}{xss:List (Option (List Int))}{ms:List PplM}(h:Rel ps xss ms){i:Nat}{v:Vtx}{j:Nat}(hi:ms[i]?=some ⟨v,some j⟩):j<xss.length∧∃p,ps[i]?=some p∧p.v=v∧xss[j]?=some (some p.members):=by
 have hl:=(aR.1 hi).1
 rw[h.len] at hl
 obtain⟨j',h1,h2⟩:=h.get i _ (am hl)
 rw[h1] at hi
 injection hi with hi
 injection hi with e1 e2
 obtain rfl:=ar e2
 exact⟨(aR.1 h2).1,_,am hl,e1,h2⟩
theorem Rel.add {ps:List Ppl}{xss:List (Option (List Int))}{ms:List PplM}(h:Rel ps xss ms)(v:Vtx):Rel (ps++[⟨v,[]⟩]) (xss++[some []]) (ms++[⟨v,some xss.length⟩]):=by
 refine⟨by simp[h.len],fun i p hi=>?_,fun i i' v1 v2 j h1 h2=>?_⟩
 ·rcases cG i ps.length with hlt|hge
  ·rw[cW hlt] at hi
   obtain⟨j,h1,h2⟩:=h.get i p hi
   exact⟨j,by rw[cW (by rw[h.len];exact hlt)];exact h1,by rw[cW (aR.1 h2).1];exact h2⟩
  ·rw[eJ hge] at hi
   have e:i=ps.length:=by
    have:=(aR.1 hi).1
    simp at this
    omega
   subst e
   simp at hi
   subst hi
   exact⟨xss.length,by rw[←h.len];simp,by simp⟩
 ·have key:∀{i:Nat} {v1:Vtx},(ms++[(⟨v,some xss.length⟩:PplM)])[i]?=some ⟨v1,some j⟩→(i<ms.length∧ms[i]?=some ⟨v1,some j⟩∧j<xss.length)∨(i=ms.length∧j=xss.length):=fun {i v1} hi=>by
   rcases cG i ms.length with hlt|hge
   ·rw[cW hlt] at hi
    exact .inl ⟨hlt,hi,(h.old hi).1⟩
   ·rw[eJ hge] at hi
    have e:i=ms.length:=by
     have:=(aR.1 hi).1
     simp at this
     omega
    subst e
    simp at hi
    exact .inr ⟨rfl,hi.2.symm⟩
  rcases key h1 with⟨a1,a2,a3⟩|⟨a1,a2⟩<;>rcases key h2 with⟨b1,b2,b3⟩|⟨b1,b2⟩
  ·exact h.inj _ _ _ _ _ a2 b2
  ·omega
  ·omega
  ·omega
theorem Rel.cast {ps:List Ppl}{xss:List (Option (List Int))}{ms:List PplM}(h:Rel ps xss ms){i:Nat}{v:Vtx}{j:Nat}(hi:ms[i]?=some ⟨v,some j⟩)(zs:List Int):Rel (ps.set i ⟨v,zs⟩) (xss.set j none++[some zs]) (ms.set i ⟨v,some xss.length⟩):=by
 have hil:=(aR.1 hi).1
 refine⟨by simp[h.len],fun k p hk=>?_,fun k k' v1 v2 j' h1 h2=>?_⟩
 ·rw[dm] at hk
  by_cases e:i=k
  ·subst e
   rw[if_pos rfl,if_pos (by rw[←h.len];exact hil)] at hk
   obtain rfl:=ar hk
   exact⟨xss.length,by rw[dm,if_pos rfl,if_pos hil],by simp⟩
  ·rw[if_neg e] at hk
   obtain⟨j',a1,a2⟩:=h.get k p hk
   have hjl:=(aR.1 a2).1
   refine⟨j',by rw[dm,if_neg e];exact a1,?_⟩
   rw[cW (by simpa using hjl),dm,if_neg (fun he=>e (h.inj _ _ _ _ _ hi (he▸a1)))]
   exact a2
 ·have key:∀{k:Nat} {v1:Vtx},(ms.set i (⟨v,some xss.length⟩:PplM))[k]?=some ⟨v1,some j'⟩→(k≠i∧ms[k]?=some ⟨v1,some j'⟩∧j'<xss.length)∨(k=i∧j'=xss.length):=fun {k v1} hk=>by
   rw[dm] at hk
   by_cases e:i=k
   ·subst e
    rw[if_pos rfl,if_pos hil] at hk
    injection hk with hk
    injection hk with _ hk
    exact .inr ⟨rfl,(ar hk).symm⟩
   ·rw[if_neg e] at hk
    exact .inl ⟨cm e,hk,(h.old hk).1⟩
  rcases key h1 with⟨a1,a2,a3⟩|⟨a1,a2⟩<;>rcases key h2 with⟨b1,b2,b3⟩|⟨b1,b2⟩
  ·exact h.inj _ _ _ _ _ a2 b2
  ·omega
  ·omega
  ·omega
theorem pU:∀{xs:List Int} {m:Int},xs.Pairwise (· < ·)→m∉xs→dN xs (xs.countP (· <m)) m=fV xs m
 |[],m,_,_=>rfl
 |x::l,m,h,hm=>by
  obtain⟨h1,h2⟩:=iv.1 h
  simp only[aJ,not_or] at hm
  unfold fV
  by_cases c:x<m
  ·rw[if_pos c,←pU h2 hm.2,List.countP_cons,if_pos (by simpa using c)]
   simp[dN]
  ·have h0:l.countP (fun y=>decide (y<m))=0:=by
    rw[List.countP_eq_zero]
    intro y hy
    have:=h1 y hy
    simp only[decide_eq_true_eq]
    omega
   rw[if_neg c,if_neg (fun e=>hm.1 e.symm),List.countP_cons,if_neg (by simpa using c),h0]
   rfl
theorem xB:∀{xs:List Int} {m:Int},xs.Pairwise (· < ·)→m∈xs→fV xs m=xs
 |x::l,m,h,hm=>by
  obtain⟨h1,h2⟩:=iv.1 h
  unfold fV
  rcases aJ.1 hm with rfl|hm
  ·rw[if_neg (by omega),if_pos rfl]
  ·rw[if_pos (h1 m hm),xB h2 hm]
theorem wW {w:Wrl}{i m:Int}(hi:rk w i=true)(hs:(aV w i).members.Pairwise (· < ·))(hm:m∈(aV w i).members):md w i m=w:=by
 obtain⟨h1,h2,-⟩:=li hi
 unfold md
 rw[xB hs hm]
 have:(⟨(aV w i).v,(aV w i).members⟩:Ppl)=aV w i:=rfl
 rw[this]
 have e:w.props.set i.toNat (aV w i)=w.props:=by
  apply nS
  intro k
  rw[dm]
  by_cases e:i.toNat=k
  ·subst e;rw[if_pos rfl,if_pos h1,h2]
  ·rw[if_neg e]
 rw[e]
def me (v:Vtx):Nat:=(v.round*7+v.author).toNat
theorem yz:∀(g:List Vtx) (t:List (Option Vtx)) (s:Nat) (a:Option Vtx),(∀x∈g,me x≠s)→g.foldl (fun t v=>t.set (v.round*7+v.author).toNat (some v)) (t.set s a)=(g.foldl (fun t v=>t.set (v.round*7+v.author).toNat (some v)) t).set s a
 |[],_,_,_,_=>rfl
 |x::g,t,s,a,h=>by
  simp only[List.foldl_cons]
  have h1:(x.round*7+x.author).toNat≠s:=h x (by simp)
  rw[List.set_comm _ _ (cm h1)]
  exact yz g _ s a fun y hy=>h y (by simp[hy])
theorem yy:∀(g:List Vtx) (t:List (Option Vtx)) (v:Vtx),(∀x∈g,me x≠me v)→(gC g v).foldl (fun t v=>t.set (v.round*7+v.author).toNat (some v)) t=(g.foldl (fun t v=>t.set (v.round*7+v.author).toNat (some v)) t).set (me v) (some v)
 |[],_,_,_=>rfl
 |x::g,t,v,h=>by
  have h1:(x.round*7+x.author).toNat≠(v.round*7+v.author).toNat:=h x (by simp)
  unfold gC
  split
  ·simp only[List.foldl_cons]
   exact yy g _ v fun y hy=>h y (by simp[hy])
  ·simp only[List.foldl_cons]
   rw[←yz g _ (me v) (some v) fun y hy=>h y (by simp[hy]),List.set_comm _ _ (cm h1)]
   rfl
theorem GI {g:List Vtx}{v:Vtx}(hg:∀x∈g,jf x)(hv:jf v)(hn:ed g v.round v.author=false):aT (gC g v)=(aT g).set (me v) (some v):=by
 refine yy g _ v fun x hx he=>?_
 obtain⟨⟨a1,a2⟩,a3,a4⟩:=hg x hx
 obtain⟨⟨b1,b2⟩,b3,b4⟩:=hv
 have:ed g v.round v.author=true:=cF.2 ⟨x,hx,by unfold me at he;omega,by unfold me at he;omega⟩
 rw[hn] at this
 cases this
theorem FC {ps:List Ppl}{m r:Int}(hr:0≤r)(h:∀p∈ps,p.v.author=m→p.v.round+1≤r):lD ps m≤r:=by
 induction ps using cj with
 |h0=>exact hr
 |h l x ih=>
  rw[ru]
  have h1:=ih fun p hp=>h p (by simp[hp])
  split
  ·rename_i e
   have:=h x (by simp) e
   omega
  ·exact h1

end Go.Proofs.YtpefhoohfkeflacGreatDoor.Am
