/- Runs: what the specification's functions give. Runs: new runs, and the specification's checks. What is drawn: the reader of bytes. What is drawn for graphs. New runs: what the program gives; equal runs; the law FnWorldNew. Runs: what events do, and what they keep: plain laws. Runs: more plain laws: bounds, what is put into lists in order, quiet rounds. The plain machine with types: a cut between two parts. The plain machine: a row into which an element is put, by the shelf's contract of slices.Insert. Runs: a member is searched and put among the voters (by the shelf's contracts of slices.Binar -/
import Derived.Shelf.Spec.SlicesInsertGrow
import Derived.Shelf.Slices.SearchI
import Derived.Shelf.Slices.Empties
import Derived.Conc.MuLone
import Derived.Defers
import Derived.Test.YthmfppknagbkeaaGreatDoorOR7
set_option linter.unusedSimpArgs false
set_option linter.unusedVariables false
set_option maxHeartbeats 1000000
namespace Go.Proofs.YthmfppknagbkeaaGreatDoor.Am
open Go
attribute [local irreducible] Mk ba Ari di jQ f4 bh bV eY d6 At aj
set_option maxRecDepth 10000
theorem xU (l:List Int)(n:Int):aj Tryz.prog 74 [.lst (.int .i64) l,.int .i64 n] [] (.bool (l.contains n)) []:=by
 refine ab ak Tryz.func74 rfl rfl false 0 4 rfl rfl rfl rfl fun K hK hb1 hb2=>?_;simp only[af,enc,Nat.reduceAdd]
 simp[ae,V.toD,bnd,aa,D.cells] at hb1
 (repeat' first|refine st ?_|refine sa fun xe hxe=>?_|refine sb (fun hq=>?_) fun hq=>?_|exact True.intro)
 refine ah hK [] [0,1,5] (fun i:Nat=>⟨[(0,.lst (.int .i64) l),(1,.int .i64 n),(5,.int .i64 i)],[],4⟩) (fun i=>i≤l.length∧∀y∈l.take i,(y==n)=false) (fun i=>l.length-i) 0 ⟨by simp,by simp⟩ rfl ?_
 rintro i ⟨hi,hall⟩
 by_cases hlt:i<l.length
 ·have hxe:l[i]?=some l[i]:=List.getElem?_eq_getElem hlt
  have hsn:l.take (i+1)=l.take i++[l[i]]:=List.take_succ_eq_append_getElem hlt
  have hm:l[i]∈l:=List.getElem_mem hlt
  generalize l[i]=x at *
  by_cases h:x=n
  ·subst h
   (repeat' first|refine st ?_|refine sa fun xe hxe=>?_|refine sb (fun hq=>?_) fun hq=>?_|exact True.intro)
   ·rw[List.contains_iff_mem.2 hm]
    exact⟨rfl,rfl⟩
   ·exact absurd trivial hq
  ·(repeat' first|refine st ?_|refine sa fun xe hxe=>?_|refine sb (fun hq=>?_) fun hq=>?_|exact True.intro)
   exact⟨i+1,⟨by omega,by rw[hsn];exact a5 hall (by simpa using h)⟩,by omega,rfl⟩
 ·(repeat' first|refine st ?_|refine sa fun xe hxe=>?_|refine sb (fun hq=>?_) fun hq=>?_|exact True.intro)
  rw[List.take_of_length_le (by omega)] at hall
  have:l.contains n=false:=by
   rw[Bool.eq_false_iff]
   intro h
   have:=hall _ (List.contains_iff_mem.1 h)
   simp at this
  rw[this]
  exact⟨rfl,rfl⟩
theorem Db {a b:List Int}{i:Nat}{x y:Int}(hx:a[i]?=some x)(hy:b[i]?=some y)(h:x≠y):(a==b)=false:=by
 rw[beq_eq_false_iff_ne]
 rintro rfl
 rw[hx] at hy
 exact h (Option.some.inj hy)
theorem za (v u:Vtx):aj Tryz.prog 128 [bS v,bS u] [] (.bool (jN v u)) []:=by
 have hno:∀b,jN v u=b→V.bool b=V.bool (jN v u)∧([]:VH)=[]:=fun b h=>⟨by rw[h],rfl⟩
 refine ab ak Tryz.func128 rfl rfl false 0 4 rfl rfl rfl rfl fun K hK hb1 hb2=>?_;simp only[af,enc,Nat.reduceAdd]
 simp[ae,V.toD,bnd,aa,D.cells,cO] at hb1
 by_cases h1:v.round=u.round
 rotate_left
 ·(repeat' first|refine st ?_|refine sa fun xe hxe=>?_|refine sb (fun hq=>?_) fun hq=>?_|exact True.intro)
  exact hno _ (by simp[jN,h1])
 by_cases h2:v.author=u.author
 rotate_left
 ·(repeat' first|refine st ?_|refine sa fun xe hxe=>?_|refine sb (fun hq=>?_) fun hq=>?_|exact True.intro)
  exact hno _ (by simp[jN,h2])
 by_cases h3:v.digest=u.digest
 rotate_left
 ·(repeat' first|refine st ?_|refine sa fun xe hxe=>?_|refine sb (fun hq=>?_) fun hq=>?_|exact True.intro)
  exact hno _ (by simp[jN,h3])
 have he:jN v u=(v.parents==u.parents):=by simp[jN,h1,h2,h3]
 by_cases h4:v.parents.length=u.parents.length
 rotate_left
 ·(repeat' first|refine st ?_|refine sa fun xe hxe=>?_|refine sb (fun hq=>?_) fun hq=>?_|exact True.intro)
  exact hno _ (by rw[he,beq_eq_false_iff_ne];intro h;exact h4 (by rw[h]))
 (repeat' first|refine st ?_|refine sa fun xe hxe=>?_|refine sb (fun hq=>?_) fun hq=>?_|exact True.intro)
 refine ah hK [] [2,3,5] (fun i:Nat=>⟨[(2,.ptr 4 0),(3,.ptr 5 0),(5,.int .i64 i)],[(4,.var 48 (bS v).cells),(5,.var 48 (bS u).cells)],6⟩) (fun i=>i≤v.parents.length∧v.parents.take i=u.parents.take i) (fun i=>v.parents.length-i) 0 ⟨by simp,by simp⟩ rfl ?_
 rintro i ⟨hi,hall⟩
 by_cases hlt:i<v.parents.length
 ·have hxe:v.parents[i]?=some v.parents[i]:=List.getElem?_eq_getElem hlt
  have hye:u.parents[i]?=some (u.parents[i]'(by omega)):=List.getElem?_eq_getElem (by omega)
  have hsn:v.parents.take (i+1)=v.parents.take i++[v.parents[i]]:=List.take_succ_eq_append_getElem hlt
  have hsu:u.parents.take (i+1)=u.parents.take i++[u.parents[i]'(by omega)]:=List.take_succ_eq_append_getElem (by omega)
  generalize v.parents[i]=x at *
  generalize u.parents[i]'(by omega)=y at *
  by_cases h:x=y
  ·subst h
   (repeat' first|refine st ?_|refine sa fun xe hxe=>?_|refine sb (fun hq=>?_) fun hq=>?_|exact True.intro)
   ·exact absurd trivial hq
   ·exact⟨i+1,⟨by omega,by rw[hsn,hsu,hall]⟩,by omega,rfl⟩
  ·(repeat' first|refine st ?_|refine sa fun xe hxe=>?_|refine sb (fun hq=>?_) fun hq=>?_|exact True.intro)
   exact hno _ (by rw[he];exact Db hxe hye h)
 ·(repeat' first|refine st ?_|refine sa fun xe hxe=>?_|refine sb (fun hq=>?_) fun hq=>?_|exact True.intro)
  rw[List.take_of_length_le (by omega),List.take_of_length_le (by omega)] at hall
  exact hno _ (by rw[he,hall];simp)
theorem DJ (v u:Vtx):aj Tryz.prog 127 [bS v,bS u] [] (.bool (slt v u)) []:=by
 refine ab ak Tryz.func127 rfl rfl false 0 4 rfl rfl rfl rfl fun K hK hb1 hb2=>?_;simp only[af,enc,Nat.reduceAdd]
 (repeat' first|refine st ?_|refine sa fun xe hxe=>?_|refine sb (fun hq=>?_) fun hq=>?_|exact True.intro)
 all_goals (refine⟨?_,rfl⟩;simp_all[slt])
theorem Bj (w:Wrl)(p:Ppl)(hc:comV w.com=true)(hm:cj w.com p.members=true):aj Tryz.prog 129 [bU w,iv p] [] (.bool (don w.com p)) []:=by
 have h1:=dE hm
 have h2:=ig hm
 have h3:=(au.1 hc).2
 refine ab ak Tryz.func129 rfl rfl false 0 4 rfl rfl rfl rfl fun K hK hb1 hb2=>?_;simp only[af,enc,Nat.reduceAdd]
 (repeat' first|refine st ?_|refine sa fun xe hxe=>?_|refine sb (fun hq=>?_) fun hq=>?_|refine cr (yS _ hc) ?_|((with_reducible refine lM ?_);(conv=>whnf);(first|with_reducible refine dp (Cc _ _ hc h1 (by omega)) ?_);conv=>whnf)|exact True.intro)
 exact⟨rfl,rfl⟩
theorem DI (w:Wrl)(hc:comV w.com=true):aj Tryz.prog 72 [bU w] [] (.bool (dX w.com w.bad w.props)) []:=by
 refine ab ak Tryz.func72 rfl rfl false 0 4 rfl rfl rfl rfl fun K hK hb1 hb2=>?_;simp only[af,enc,Nat.reduceAdd]
 simp[ae,V.toD,bnd,aa,D.cells] at hb1
 (repeat' first|refine st ?_|refine sa fun xe hxe=>?_|refine sb (fun hq=>?_) fun hq=>?_|exact True.intro)
 refine ah hK [] [1,3] (fun i:Nat=>⟨[(1,.ptr 4 0),(3,.int .i64 i)],[(4,.var 33 (bU w).cells)],5⟩) (fun i=>i≤w.props.length∧∀j,j<i→dh w.com w.bad w.props j=true) (fun i=>w.props.length-i) 0 ⟨by simp,by simp⟩ rfl ?_
 rintro i ⟨hi,hall⟩
 by_cases hlt:i<w.props.length
 ·have hxe:w.props[i]?=some w.props[i]:=List.getElem?_eq_getElem hlt
  have hno:dh w.com w.bad w.props i=false→V.bool false=V.bool (dX w.com w.bad w.props)∧([]:VH)=[]:=fun h=>⟨by rw[dX,bN hlt h,Bool.false_and],rfl⟩
  have hA:dh w.com w.bad w.props i=(oneP w.com w.props[i] && cg i (fun k=>fitP w.bad w.props[i] (w.props.getD k p0))):=by simp only[dh,aV hxe]
  generalize w.props[i]=p at *
  have hvc:=mV w.com p.v hc
  have hmc:=sY w.com p.members
  cases h1:vtxS w.com p.v
  ·rw[h1] at hvc
   (repeat' first|refine st ?_|refine sa fun xe hxe=>?_|refine sb (fun hq=>?_) fun hq=>?_|refine cr (hvc) ?_|refine cr (hmc) ?_|exact True.intro)
   exact hno (by simp[hA,oneP,h1])
  rw[h1] at hvc
  cases h2:cj w.com p.members
  ·rw[h2] at hmc
   (repeat' first|refine st ?_|refine sa fun xe hxe=>?_|refine sb (fun hq=>?_) fun hq=>?_|refine cr (hvc) ?_|refine cr (hmc) ?_|exact True.intro)
   exact hno (by simp[hA,oneP,h2])
  rw[h2] at hmc
  (repeat' first|refine st ?_|refine sa fun xe hxe=>?_|refine sb (fun hq=>?_) fun hq=>?_|refine cr (hvc) ?_|refine cr (hmc) ?_|exact True.intro)
  refine ah hK [] [1,3,4,5] (fun k:Nat=>⟨[(1,.ptr 4 0),(3,.int .i64 i),(4,.ptr 5 0),(5,.int .i64 k)],[(4,.var 33 (bU w).cells),(5,.var 50 (iv p).cells)],6⟩) (fun k=>k≤i∧∀j,j<k→fitP w.bad p (w.props.getD j p0)=true) (fun k=>i-k) 0 ⟨by simp,by simp⟩ rfl ?_
  rintro k ⟨hk,hkall⟩
  by_cases hkl:k<i
  ·have hxk:w.props[k]?=some (w.props.getD k p0):=by rw[List.getD_eq_getElem?_getD,List.getElem?_eq_getElem (show k<w.props.length by omega)];rfl
   have hyes:=a8 hkall (p:=fun j=>fitP w.bad p (w.props.getD j p0)) (i:=k)
   have hnk:fitP w.bad p (w.props.getD k p0)=false→V.bool false=V.bool (dX w.com w.bad w.props)∧([]:VH)=[]:=fun h=>hno (by rw[hA,bN hkl h,Bool.and_false])
   generalize w.props.getD k p0=q at *
   have hsc:=DJ p.v q.v
   have hqc:=za p.v q.v
   cases h3:slt p.v q.v
   ·rw[h3] at hsc
    (repeat' first|refine st ?_|refine sa fun xe hxe=>?_|refine sb (fun hq=>?_) fun hq=>?_|refine cr (hsc) ?_|refine cr (hqc) ?_|exact True.intro)
    exact⟨k+1,⟨by omega,hyes (by simp[fitP,h3])⟩,by omega,rfl⟩
   rw[h3] at hsc
   cases h4:jN p.v q.v
   rotate_left
   ·rw[h4] at hqc
    (repeat' first|refine st ?_|refine sa fun xe hxe=>?_|refine sb (fun hq=>?_) fun hq=>?_|refine cr (hsc) ?_|refine cr (hqc) ?_|exact True.intro)
    exact hnk (by simp[fitP,h3,h4])
   rw[h4] at hqc
   by_cases h5:p.v.author=w.bad
   rotate_left
   ·(repeat' first|refine st ?_|refine sa fun xe hxe=>?_|refine sb (fun hq=>?_) fun hq=>?_|refine cr (hsc) ?_|refine cr (hqc) ?_|exact True.intro)
    exact hnk (by simp[fitP,h3,h5])
   have hfe:fitP w.bad p q= !lL w.bad p.members q.members:=by simp[fitP,h3,h4,h5]
   (repeat' first|refine st ?_|refine sa fun xe hxe=>?_|refine sb (fun hq=>?_) fun hq=>?_|refine cr (hsc) ?_|refine cr (hqc) ?_|exact True.intro)
   refine ah hK [] [1,3,4,5,6,7] (fun n:Nat=>⟨[(1,.ptr 4 0),(3,.int .i64 i),(4,.ptr 5 0),(5,.int .i64 k),(6,.ptr 6 0),(7,.int .i64 n)],[(4,.var 33 (bU w).cells),(5,.var 50 (iv p).cells),(6,.var 50 (iv q).cells)],7⟩) (fun n=>n≤p.members.length∧∀m∈p.members.take n,(m !=w.bad && q.members.contains m)=false) (fun n=>p.members.length-n) 0 ⟨by simp,by simp⟩ rfl ?_
   rintro n ⟨hn,hnall⟩
   by_cases hnl:n<p.members.length
   ·have hxm:p.members[n]?=some p.members[n]:=List.getElem?_eq_getElem hnl
    have hsn:p.members.take (n+1)=p.members.take n++[p.members[n]]:=List.take_succ_eq_append_getElem hnl
    have hmm:p.members[n]∈p.members:=List.getElem_mem hnl
    have hml:p.members.length≤7:=by have:=ig h2;have:=(au.1 hc).2;omega
    generalize p.members[n]=m at *
    have hhc:=xU q.members m
    by_cases h6:m=w.bad
    ·(repeat' first|refine st ?_|refine sa fun xe hxe=>?_|refine sb (fun hq=>?_) fun hq=>?_|refine cr (hhc) ?_|exact True.intro)
     exact⟨n+1,⟨by omega,by rw[hsn];exact a5 hnall (by simp[h6])⟩,by omega,rfl⟩
    ·cases h7:q.members.contains m
     ·rw[h7] at hhc
      (repeat' first|refine st ?_|refine sa fun xe hxe=>?_|refine sb (fun hq=>?_) fun hq=>?_|refine cr (hhc) ?_|exact True.intro)
      exact⟨n+1,⟨by omega,by rw[hsn];exact a5 hnall (by rw[h7,Bool.and_false])⟩,by omega,rfl⟩
     ·rw[h7] at hhc
      (repeat' first|refine st ?_|refine sa fun xe hxe=>?_|refine sb (fun hq=>?_) fun hq=>?_|refine cr (hhc) ?_|exact True.intro)
      refine hnk ?_
      have:lL w.bad p.members q.members=true:=List.any_eq_true.2 ⟨m,hmm,by rw[h7];simpa using h6⟩
      rw[hfe,this]
      rfl
   ·(repeat' first|refine st ?_|refine sa fun xe hxe=>?_|refine sb (fun hq=>?_) fun hq=>?_|exact True.intro)
    rw[List.take_of_length_le (by omega)] at hnall
    have:lL w.bad p.members q.members=false:=by
     rw[Bool.eq_false_iff]
     intro h
     obtain⟨m,hm,h⟩:=List.any_eq_true.1 h
     rw[hnall m hm] at h
     cases h
    exact⟨k+1,⟨by omega,hyes (by rw[hfe,this];rfl)⟩,by omega,rfl⟩
  ·have hAt:dh w.com w.bad w.props i=true:=by
    rw[hA,bB (fun j hj=>hkall j (by omega)),oneP,h1,h2]
    rfl
   (repeat' first|refine st ?_|refine sa fun xe hxe=>?_|refine sb (fun hq=>?_) fun hq=>?_|exact True.intro)
   exact⟨i+1,⟨by omega,a8 hall hAt⟩,by omega,rfl⟩
 ·(repeat' first|refine st ?_|refine sa fun xe hxe=>?_|refine sb (fun hq=>?_) fun hq=>?_|exact True.intro)
  rw[dX,bB (fun j hj=>hall j (by omega)),Bool.true_and]
  exact⟨rfl,rfl⟩
theorem Bs (w:Wrl)(g:List Vtx)(hc:comV w.com=true)(hp:dX w.com w.bad w.props=true):aj Tryz.prog 73 [bU w,.lst .vtx g] [] (.bool (ks w.com w.props g)) []:=by
 have hpl:=lp hp
 have hv:ks w.com w.props g=(g.all (knw w.com w.props) && graS w.com g):=rfl
 refine ab ak Tryz.func73 rfl rfl false 0 4 rfl rfl rfl rfl fun K hK hb1 hb2=>?_;simp only[af,enc,Nat.reduceAdd]
 simp[ae,V.toD,bnd,aa,D.cells] at hb1
 (repeat' first|refine st ?_|refine sa fun xe hxe=>?_|refine sb (fun hq=>?_) fun hq=>?_|exact True.intro)
 refine ah hK [] [1,2,5] (fun i:Nat=>⟨[(1,.lst .vtx g),(2,.ptr 4 0),(5,.int .i64 i)],[(4,.var 33 (bU w).cells)],5⟩) (fun i=>i≤g.length∧∀v∈g.take i,knw w.com w.props v=true) (fun i=>g.length-i) 0 ⟨by simp,by simp⟩ rfl ?_
 rintro i ⟨hi,hall⟩
 by_cases hlt:i<g.length
 ·have hxe:g[i]?=some g[i]:=List.getElem?_eq_getElem hlt
  have hsn:g.take (i+1)=g.take i++[g[i]]:=List.take_succ_eq_append_getElem hlt
  have hvm:g[i]∈g:=List.getElem_mem hlt
  generalize g[i]=v at *
  (repeat' first|refine st ?_|refine sa fun xe hxe=>?_|refine sb (fun hq=>?_) fun hq=>?_|exact True.intro)
  refine ah hK [] [1,2,5,6,7] (fun k:Nat=>⟨[(1,.lst .vtx g),(2,.ptr 4 0),(5,.int .i64 i),(6,.bool (knw w.com (w.props.take k) v)),(7,.int .i64 k)],[(4,.var 33 (bU w).cells)],5⟩) (fun k=>k≤w.props.length) (fun k=>w.props.length-k) 0 (by simp) rfl ?_
  intro k hk
  by_cases hkl:k<w.props.length
  ·have hxk:w.props[k]?=some w.props[k]:=List.getElem?_eq_getElem hkl
   have hks:w.props.take (k+1)=w.props.take k++[w.props[k]]:=List.take_succ_eq_append_getElem hkl
   have hom:=lq hp _ (List.getElem_mem hkl)
   generalize w.props[k]=p at *
   simp only[oneP,Bool.and_eq_true] at hom
   have hks2:knw w.com (w.props.take (k+1)) v=(knw w.com (w.props.take k) v||(don w.com p && jN p.v v)):=by rw[hks];simp[knw]
   have hdc:=Bj w p hc hom.2
   have hqc:=za p.v v
   cases h1:knw w.com (w.props.take k) v
   ·cases h2:don w.com p
    ·rw[h2] at hdc
     (repeat' first|refine st ?_|refine sa fun xe hxe=>?_|refine sb (fun hq=>?_) fun hq=>?_|refine cr (hdc) ?_|refine cr (hqc) ?_|exact True.intro)
     exact⟨k+1,by omega,by omega,by rw[hks2,h1,h2];rfl⟩
    ·rw[h2] at hdc
     (repeat' first|refine st ?_|refine sa fun xe hxe=>?_|refine sb (fun hq=>?_) fun hq=>?_|refine cr (hdc) ?_|refine cr (hqc) ?_|exact True.intro)
     exact⟨k+1,by omega,by omega,by rw[hks2,h1,h2];rfl⟩
   ·(repeat' first|refine st ?_|refine sa fun xe hxe=>?_|refine sb (fun hq=>?_) fun hq=>?_|refine cr (hdc) ?_|refine cr (hqc) ?_|exact True.intro)
    exact⟨k+1,by omega,by omega,by rw[hks2,h1];rfl⟩
  ·rw[List.take_of_length_le (by omega)]
   cases h1:knw w.com w.props v
   ·(repeat' first|refine st ?_|refine sa fun xe hxe=>?_|refine sb (fun hq=>?_) fun hq=>?_|exact True.intro)
    have:g.all (knw w.com w.props)=false:=by
     rw[Bool.eq_false_iff]
     intro h
     rw[List.all_eq_true.1 h v hvm] at h1
     cases h1
    exact⟨by rw[hv,this,Bool.false_and],rfl⟩
   ·(repeat' first|refine st ?_|refine sa fun xe hxe=>?_|refine sb (fun hq=>?_) fun hq=>?_|exact True.intro)
    exact⟨i+1,⟨by omega,by rw[hsn];exact a5 hall h1⟩,by omega,rfl⟩
 ·rw[List.take_of_length_le (by omega)] at hall
  (repeat' first|refine st ?_|refine sa fun xe hxe=>?_|refine sb (fun hq=>?_) fun hq=>?_|refine cr (xN _ _) ?_|exact True.intro)
  exact⟨by rw[hv,List.all_eq_true.2 hall,Bool.true_and],rfl⟩
abbrev FQ:V:=.agg [.nils,.nils,.int .i64 0,.nils,.nils]
theorem DG (c l:List Int)(b:Int)(hl:c.length≤2000000):aj Tryz.prog 71 [.lst (.int .i64) c,.lst (.int .i64) l,.int .i64 b] [] (if iu c l b then .tup [bU (FI c l b),.bool true] else .tup [FQ,.bool false]) []:=by
 have hL:=Dc c l
 refine ab ak Tryz.func71 rfl rfl true 0 4 rfl rfl rfl rfl fun K hK hb1 hb2=>?_;simp only[af,enc,Nat.reduceAdd]
 simp[ae,V.toD,bnd,aa,D.cells] at hb1
 cases h1:comV c && leaS c l
 ·rw[h1] at hL
  have hn:iu c l b=false:=by
   rw[Bool.and_eq_false_iff] at h1
   rcases h1 with h1|h1<;>simp[iu,h1]
  rw[hn]
  (repeat' first|refine st ?_|refine sa fun xe hxe=>?_|refine sb (fun hq=>?_) fun hq=>?_|refine cr (hL) ?_|exact True.intro)
  exact⟨rfl,rfl⟩
 rw[h1] at hL
 have hc:comV c=true:=(Bool.and_eq_true_iff.1 h1).1
 have hle:leaS c l=true:=(Bool.and_eq_true_iff.1 h1).2
 have hns:iu c l b=badS c b:=by simp[iu,hc,hle]
 rw[hns]
 have h7:=(au.1 hc).2
 have hll:=(aW.1 hle).2
 have hI:=na b (-1) ((c.length:Int)-1)
 cases h2:f6 b (-1) ((c.length:Int)-1)
 ·rw[h2] at hI
  have hb:badS c b=false:=by simp[badS,h2]
  rw[hb]
  (repeat' first|refine st ?_|refine sa fun xe hxe=>?_|refine sb (fun hq=>?_) fun hq=>?_|refine cr (hL) ?_|refine cr (hI) ?_|exact True.intro)
  exact⟨rfl,rfl⟩
 rw[h2] at hI
 have hbr:=av.1 h2
 have hT:=zp c hc
 have hfd:=xu hc
 have htb:=fU hc
 have hfau:(kJ c-1).tdiv 3=ug c:=rfl
 have hst:∀i:Nat,(⟨[(0,.lst (.int .i64) c),(6,.ptr 4 0),(8,.ptr 5 0),(9,.int .i64 ((i:Int)+1))],[(4,.var 33 [.nils,.nils,.int .i64 0,.nils,.nils]),(5,.var 33 [.ref 6,.ref 7,.int .i64 b,.ref 8,.ref 9]),(6,.row 3 (.int .i64) c),(7,.row 3 (.int .i64) l),(8,.row 73 (.lst .vtx) (List.replicate i []++[[]])),(9,.row 50 .ppl [])],10⟩:VSt)=
   ⟨[(0,.lst (.int .i64) c),(6,.ptr 4 0),(8,.ptr 5 0),(9,.int .i64 ((i+1:Nat):Int))],[(4,.var 33 [.nils,.nils,.int .i64 0,.nils,.nils]),(5,.var 33 [.ref 6,.ref 7,.int .i64 b,.ref 8,.ref 9]),(6,.row 3 (.int .i64) c),(7,.row 3 (.int .i64) l),(8,.row 73 (.lst .vtx) (List.replicate (i+1) [])),(9,.row 50 .ppl [])],10⟩:=fun i=>by
  rw[List.replicate_succ']
  rfl
 have hfin:∀x:Int,ug c<x→(kJ c-1).tdiv 3<x:=fun x h=>h
 have hfin2:∀x:Int,x≤ug c→¬(kJ c-1).tdiv 3<x:=fun x h=>by rw[hfau];omega
 by_cases h3:b<0
 ·have hb:badS c b=true:=by simp[badS,h2,h3]
  rw[hb]
  (repeat' first|refine st ?_|refine sa fun xe hxe=>?_|refine sb (fun hq=>?_) fun hq=>?_|refine cr (hL) ?_|refine cr (hI) ?_|refine cr (hT) ?_|exact True.intro)
  refine ah hK [] [0,6,8,9] (fun i:Nat=>⟨[(0,.lst (.int .i64) c),(6,.ptr 4 0),(8,.ptr 5 0),(9,.int .i64 (i:Int))],[(4,.var 33 [.nils,.nils,.int .i64 0,.nils,.nils]),(5,.var 33 [.ref 6,.ref 7,.int .i64 b,.ref 8,.ref 9]),(6,.row 3 (.int .i64) c),(7,.row 3 (.int .i64) l),(8,.row 73 (.lst .vtx) (List.replicate i [])),(9,.row 50 .ppl [])],10⟩) (fun i=>i≤c.length) (fun i=>c.length-i) 0 (by simp) rfl ?_
  intro i hi
  have hrl:(List.replicate i ([]:List Vtx)).length=i:=by simp
  have hst:=hst i
  generalize hrs:List.replicate i ([]:List Vtx)=rs at *
  by_cases hlt:i<c.length
  ·(repeat' first|refine st ?_|refine sa fun xe hxe=>?_|refine sb (fun hq=>?_) fun hq=>?_|exact True.intro)
   refine⟨i+1,by omega,by omega,?_⟩
   rw[←hst]
   try rfl
  ·obtain rfl:i=c.length:=by omega
   (repeat' first|refine st ?_|refine sa fun xe hxe=>?_|refine sb (fun hq=>?_) fun hq=>?_|exact True.intro)
   rw[←hrs]
   exact⟨rfl,rfl⟩
 ·have hxe:c[b.toNat]?=some (c.getD b.toNat 0):=by rw[List.getD_eq_getElem?_getD,List.getElem?_eq_getElem (show b.toNat<c.length by omega)];rfl
  have hb:badS c b=decide (c.getD b.toNat 0≤ug c):=by simp[badS,h2,h3]
  rw[hb]
  generalize c.getD b.toNat 0=x at *
  by_cases hxf:x≤ug c
  ·rw[decide_eq_true hxf]
   have hxf:=hfin2 x hxf
   (repeat' first|refine st ?_|refine sa fun xe hxe=>?_|refine sb (fun hq=>?_) fun hq=>?_|refine cr (hL) ?_|refine cr (hI) ?_|refine cr (hT) ?_|exact True.intro)
   refine ah hK [] [0,6,8,9] (fun i:Nat=>⟨[(0,.lst (.int .i64) c),(6,.ptr 4 0),(8,.ptr 5 0),(9,.int .i64 (i:Int))],[(4,.var 33 [.nils,.nils,.int .i64 0,.nils,.nils]),(5,.var 33 [.ref 6,.ref 7,.int .i64 b,.ref 8,.ref 9]),(6,.row 3 (.int .i64) c),(7,.row 3 (.int .i64) l),(8,.row 73 (.lst .vtx) (List.replicate i [])),(9,.row 50 .ppl [])],10⟩) (fun i=>i≤c.length) (fun i=>c.length-i) 0 (by simp) rfl ?_
   intro i hi
   have hrl:(List.replicate i ([]:List Vtx)).length=i:=by simp
   have hst:=hst i
   generalize hrs:List.replicate i ([]:List Vtx)=rs at *
   by_cases hlt:i<c.length
   ·(repeat' first|refine st ?_|refine sa fun xe hxe=>?_|refine sb (fun hq=>?_) fun hq=>?_|exact True.intro)
    refine⟨i+1,by omega,by omega,?_⟩
    rw[←hst]
    try rfl
   ·obtain rfl:i=c.length:=by omega
    (repeat' first|refine st ?_|refine sa fun xe hxe=>?_|refine sb (fun hq=>?_) fun hq=>?_|exact True.intro)
    rw[←hrs]
    exact⟨rfl,rfl⟩
  ·rw[decide_eq_false hxf]
   have hxf:=hfin x (by omega)
   (repeat' first|refine st ?_|refine sa fun xe hxe=>?_|refine sb (fun hq=>?_) fun hq=>?_|refine cr (hL) ?_|refine cr (hI) ?_|refine cr (hT) ?_|exact True.intro)
   exact⟨rfl,rfl⟩
set_option maxHeartbeats 1000000 in
theorem EY (w:Wrl)(hcl:w.com.length≤2000000):aj Tryz.prog 29 [bU w] [] (.bool (iy w)) []:=by
 have hN:=DG w.com w.lead w.bad hcl
 refine ab ak Tryz.func29 rfl rfl false 0 4 rfl rfl rfl rfl fun K hK hb1 hb2=>?_;simp only[af,enc,Nat.reduceAdd]
 simp[ae,V.toD,bnd,aa,D.cells] at hb1
 cases h1:iu w.com w.lead w.bad
 ·rw[h1] at hN
  simp only[Bool.false_eq_true,if_false] at hN
  (repeat' first|refine st ?_|refine sa fun xe hxe=>?_|refine sb (fun hq=>?_) fun hq=>?_|refine cr (hN) ?_|exact True.intro)
  exact⟨by simp[iy,h1],rfl⟩
 rw[h1] at hN
 simp only[if_true] at hN
 have hc:comV w.com=true:=by
  simp only[iu,Bool.and_eq_true] at h1
  exact h1.1
 have h7:=(au.1 hc).2
 by_cases h2:w.views.length=w.com.length
 rotate_left
 ·have hf:iy w=false:=by
   have:(w.views.length==w.com.length)=false:=by simpa using h2
   simp[iy,this]
  rw[hf]
  (repeat' first|refine st ?_|refine sa fun xe hxe=>?_|refine sb (fun hq=>?_) fun hq=>?_|refine cr (hN) ?_|exact True.intro)
  exact⟨rfl,rfl⟩
 have hP:=DI w hc
 cases h3:dX w.com w.bad w.props
 ·rw[h3] at hP
  have hf:iy w=false:=by simp[iy,h3]
  rw[hf]
  (repeat' first|refine st ?_|refine sa fun xe hxe=>?_|refine sb (fun hq=>?_) fun hq=>?_|refine cr (hN) ?_|refine cr (hP) ?_|exact True.intro)
  exact⟨rfl,rfl⟩
 rw[h3] at hP
 have hpl:=lp h3
 have he:iy w=(dS w.com w.bad w.props w.views && kN w.bad w.props w.views):=by simp[iy,h1,h2,h3]
 rw[he]
 (repeat' first|refine st ?_|refine sa fun xe hxe=>?_|refine sb (fun hq=>?_) fun hq=>?_|refine cr (hN) ?_|refine cr (hP) ?_|exact True.intro)
 refine ah hK [] [1,5] (fun i:Nat=>⟨[(1,.ptr 4 0),(5,.int .i64 i)],[(4,.var 33 (bU w).cells)],5⟩)
  (fun i=>i≤w.views.length∧∀j,j<i→(ks w.com w.props (w.views.getD j []) && (!((j:Int)==w.bad)||(w.views.getD j []).isEmpty))=true) (fun i=>w.views.length-i) 0 ⟨by simp,by simp⟩ rfl ?_
 rintro i ⟨hi,hall⟩
 by_cases hlt:i<w.views.length
 ·have hxe:w.views[i]?=some (w.views.getD i []):=by rw[List.getD_eq_getElem?_getD,List.getElem?_eq_getElem hlt];rfl
  have hno:(ks w.com w.props (w.views.getD i []) && (!((i:Int)==w.bad)||(w.views.getD i []).isEmpty))=false→V.bool false=V.bool (dS w.com w.bad w.props w.views && kN w.bad w.props w.views)∧([]:VH)=[]:=fun h=>⟨by unfold dS;rw[bN hlt h,Bool.false_and],rfl⟩
  have hyes:=a8 hall (p:=fun j=>ks w.com w.props (w.views.getD j []) && (!((j:Int)==w.bad)||(w.views.getD j []).isEmpty)) (i:=i)
  generalize w.views.getD i []=g at *
  have hV:=Bs w g hc h3
  cases h4:ks w.com w.props g
  ·rw[h4] at hV
   (repeat' first|refine st ?_|refine sa fun xe hxe=>?_|refine sb (fun hq=>?_) fun hq=>?_|refine cr (hV) ?_|exact True.intro)
   exact hno (by rw[h4,Bool.false_and])
  rw[h4] at hV
  have hem:g.isEmpty=decide ((g.length:Int)=0):=by cases g<;>simp;omega
  by_cases h5:(i:Int)=w.bad
  ·have hb1:((i:Int)==w.bad)=true:=by simpa using h5
   by_cases h6:0<(g.length:Int)
   ·(repeat' first|refine st ?_|refine sa fun xe hxe=>?_|refine sb (fun hq=>?_) fun hq=>?_|refine cr (hV) ?_|exact True.intro)
    exact hno (by rw[hb1,hem,decide_eq_false (by omega)];simp)
   ·(repeat' first|refine st ?_|refine sa fun xe hxe=>?_|refine sb (fun hq=>?_) fun hq=>?_|refine cr (hV) ?_|exact True.intro)
    exact⟨i+1,⟨by omega,hyes (by rw[h4,hb1,hem,decide_eq_true (by omega)];simp)⟩,by omega,rfl⟩
  ·have hb1:((i:Int)==w.bad)=false:=by simpa using h5
   (repeat' first|refine st ?_|refine sa fun xe hxe=>?_|refine sb (fun hq=>?_) fun hq=>?_|refine cr (hV) ?_|exact True.intro)
   exact⟨i+1,⟨by omega,hyes (by rw[h4,hb1];rfl)⟩,by omega,rfl⟩
 have hvs:dS w.com w.bad w.props w.views=true:=by
  unfold dS
  exact bB (fun j hj=>hall j (by omega))
 rw[hvs,Bool.true_and]
 (repeat' first|refine st ?_|refine sa fun xe hxe=>?_|refine sb (fun hq=>?_) fun hq=>?_|exact True.intro)
 refine ah hK [] [1,6] (fun i:Nat=>⟨[(1,.ptr 4 0),(6,.int .i64 i)],[(4,.var 33 (bU w).cells)],5⟩)
  (fun i=>i≤w.props.length∧∀p∈w.props.take i,cg w.views.length (eR w.bad w.views p)=true) (fun i=>w.props.length-i) 0 ⟨by simp,by simp⟩ rfl ?_
 rintro k ⟨hk,hkall⟩
 by_cases hkl:k<w.props.length
 ·have hxp:w.props[k]?=some w.props[k]:=List.getElem?_eq_getElem hkl
  have hsn:w.props.take (k+1)=w.props.take k++[w.props[k]]:=List.take_succ_eq_append_getElem hkl
  have hpm:w.props[k]∈w.props:=List.getElem_mem hkl
  have hone:=lq h3 _ hpm
  have hno:cg w.views.length (eR w.bad w.views w.props[k])=false→V.bool false=V.bool (kN w.bad w.props w.views)∧([]:VH)=[]:=fun h=>⟨by
   have:kN w.bad w.props w.views=false:=by
    rw[Bool.eq_false_iff]
    intro h2
    rw[List.all_eq_true.1 h2 _ hpm] at h
    cases h
   rw[this],rfl⟩
  generalize w.props[k]=p at *
  simp only[oneP,Bool.and_eq_true] at hone
  have hrd:=va hone.1
  (repeat' first|refine st ?_|refine sa fun xe hxe=>?_|refine sb (fun hq=>?_) fun hq=>?_|exact True.intro)
  refine ah hK [] [1,6,7,8] (fun m:Nat=>⟨[(1,.ptr 4 0),(6,.int .i64 k),(7,.ptr 5 0),(8,.int .i64 m)],[(4,.var 33 (bU w).cells),(5,.var 48 (bS p.v).cells)],6⟩)
   (fun m=>m≤w.views.length∧∀j,j<m→eR w.bad w.views p j=true) (fun m=>w.views.length-m) 0 ⟨by simp,by simp⟩ rfl ?_
  rintro m ⟨hm,hmall⟩
  by_cases hml:m<w.views.length
  ·have hxv:w.views[m]?=some (w.views.getD m []):=by rw[List.getD_eq_getElem?_getD,List.getElem?_eq_getElem hml];rfl
   have hyes:=a8 hmall (p:=eR w.bad w.views p) (i:=m)
   have hno2:eR w.bad w.views p m=false→V.bool false=V.bool (kN w.bad w.props w.views)∧([]:VH)=[]:=fun h=>hno (bN hml h)
   have hA:eR w.bad w.views p m=(!((m:Int) !=w.bad && ((m:Int)==p.v.author||p.members.contains (m:Int)))||parOK (w.views.getD m []) p.v):=rfl
   generalize w.views.getD m []=g at *
   have hH:=xU p.members m
   have hG:=ec g p.v hrd
   by_cases c1:(m:Int)=w.bad
   ·(repeat' first|refine st ?_|refine sa fun xe hxe=>?_|refine sb (fun hq=>?_) fun hq=>?_|refine cr (hH) ?_|refine cr (hG) ?_|exact True.intro)
    exact⟨m+1,⟨by omega,hyes (by simp[hA,c1])⟩,by omega,rfl⟩
   cases c2:(m:Int)==p.v.author||p.members.contains (m:Int)
   ·rw[Bool.or_eq_false_iff] at c2
    have c3:¬(m:Int)=p.v.author:=by simpa using c2.1
    rw[c2.2] at hH
    (repeat' first|refine st ?_|refine sa fun xe hxe=>?_|refine sb (fun hq=>?_) fun hq=>?_|refine cr (hH) ?_|refine cr (hG) ?_|exact True.intro)
    exact⟨m+1,⟨by omega,hyes (by rw[hA,c2.1,c2.2];simp)⟩,by omega,rfl⟩
   ·cases c4:parOK g p.v
    ·rw[c4] at hG
     have hn:=hno2 (by rw[hA,c2,c4];simpa using c1)
     by_cases c3:(m:Int)=p.v.author
     ·(repeat' first|refine st ?_|refine sa fun xe hxe=>?_|refine sb (fun hq=>?_) fun hq=>?_|refine cr (hH) ?_|refine cr (hG) ?_|exact True.intro)
      exact hn
     ·have c5:p.members.contains (m:Int)=true:=by simpa[c3] using c2
      rw[c5] at hH
      (repeat' first|refine st ?_|refine sa fun xe hxe=>?_|refine sb (fun hq=>?_) fun hq=>?_|refine cr (hH) ?_|refine cr (hG) ?_|exact True.intro)
      exact hn
    ·rw[c4] at hG
     have hn:=hyes (by rw[hA,c4,Bool.or_true])
     by_cases c3:(m:Int)=p.v.author
     ·(repeat' first|refine st ?_|refine sa fun xe hxe=>?_|refine sb (fun hq=>?_) fun hq=>?_|refine cr (hH) ?_|refine cr (hG) ?_|exact True.intro)
      exact⟨m+1,⟨by omega,hn⟩,by omega,rfl⟩
     ·have c5:p.members.contains (m:Int)=true:=by simpa[c3] using c2
      rw[c5] at hH
      (repeat' first|refine st ?_|refine sa fun xe hxe=>?_|refine sb (fun hq=>?_) fun hq=>?_|refine cr (hH) ?_|refine cr (hG) ?_|exact True.intro)
      exact⟨m+1,⟨by omega,hn⟩,by omega,rfl⟩
  ·(repeat' first|refine st ?_|refine sa fun xe hxe=>?_|refine sb (fun hq=>?_) fun hq=>?_|exact True.intro)
   exact⟨k+1,⟨by omega,by rw[hsn];exact a5 hkall (bB fun j hj=>hmall j (by omega))⟩,by omega,rfl⟩
 ·(repeat' first|refine st ?_|refine sa fun xe hxe=>?_|refine sb (fun hq=>?_) fun hq=>?_|exact True.intro)
  rw[List.take_of_length_le (by omega)] at hkall
  have:kN w.bad w.props w.views=true:=List.all_eq_true.2 hkall
  rw[this]
  exact⟨rfl,rfl⟩
end Go.Proofs.YthmfppknagbkeaaGreatDoor.Am
namespace Go.Proofs.YthmfppknagbkeaaGreatDoor.Am
open Go
structure WOK (w:Wrl):Prop where
 com:comV w.com=true
 lead:leaS w.com w.lead=true
 bad:badS w.com w.bad=true
 one:∀p∈w.props,oneP w.com p=true
 fit:w.props.Pairwise fun q p=>fitP w.bad p q=true
 plen:w.props.length≤220
 vlen:w.views.length=w.com.length
 gra:∀g∈w.views,graS w.com g=true
 knw:∀g∈w.views,∀v∈g,∃p∈w.props,don w.com p=true∧p.v=v
 bv:∀i:Nat,i<w.views.length→(i:Int)=w.bad→w.views.getD i []=[]
 kp:∀p∈w.props,∀m:Nat,m<w.views.length→(m:Int)≠w.bad→((m:Int)=p.v.author∨(m:Int)∈p.members)→parOK (w.views.getD m []) p.v=true
theorem ut {c:List Int}{ps:List Ppl}{v:Vtx}:knw c ps v=true↔∃p∈ps,don c p=true∧p.v=v:=by
 simp only[knw,List.any_eq_true,Bool.and_eq_true,pN]
theorem qS {b:Int}{ps:List Ppl}{gs:List (List Vtx)}:kN b ps gs=true↔∀p∈ps,∀m:Nat,m<gs.length→(m:Int)≠b→((m:Int)=p.v.author∨(m:Int)∈p.members)→parOK (gs.getD m []) p.v=true:=by
 simp only[kN,List.all_eq_true,aJ,eR,Bool.or_eq_true,Bool.not_eq_true',Bool.and_eq_false_iff,bne_eq_false_iff_eq,Bool.or_eq_false_iff,beq_eq_false_iff_ne]
 constructor
 ·intro h p hp m hm hb hv
  rcases h p hp m hm with(h1|h1)|h1
  ·exact absurd h1 hb
  ·rcases hv with hv|hv
   ·exact absurd hv h1.1
   ·have:=h1.2
    rw[List.contains_iff_mem.2 hv] at this
    cases this
  ·exact h1
 ·intro h p hp m hm
  by_cases hb:(m:Int)=b
  ·exact .inl (.inl hb)
  by_cases hv:(m:Int)=p.v.author∨(m:Int)∈p.members
  ·exact .inr (h p hp m hm hb hv)
  ·refine .inl (.inr ⟨fun h=>hv (.inl h),?_⟩)
   rw[Bool.eq_false_iff]
   exact fun h=>hv (.inr (List.contains_iff_mem.1 h))
theorem ru {c:List Int}{b:Int}{ps:List Ppl}:dX c b ps=true↔(∀p∈ps,oneP c p=true)∧(ps.Pairwise fun q p=>fitP b p q=true)∧ps.length≤220:=by
 constructor
 ·intro h
  refine⟨lq h,?_,lp h⟩
  simp only[dX,Bool.and_eq_true,aJ] at h
  rw[List.pairwise_iff_getElem]
  intro i j hi hj hij
  have:=h.1 j hj
  simp only[dh,Bool.and_eq_true,aJ] at this
  have:=this.2 i hij
  simpa[List.getD_eq_getElem?_getD,List.getElem?_eq_getElem hi,List.getElem?_eq_getElem hj] using this
 ·rintro⟨h1,h2,h3⟩
  simp only[dX,Bool.and_eq_true,aJ,decide_eq_true_eq]
  refine⟨fun j hj=>?_,by omega⟩
  simp only[dh,Bool.and_eq_true,aJ]
  refine⟨h1 _ (gb hj),fun i hi=>?_⟩
  have:=List.pairwise_iff_getElem.1 h2 i j (by omega) hj hi
  simpa[List.getD_eq_getElem?_getD,List.getElem?_eq_getElem hj,List.getElem?_eq_getElem (show i<ps.length by omega)] using this
theorem rT {c:List Int}{b:Int}{ps:List Ppl}{gs:List (List Vtx)}:dS c b ps gs=true↔(∀g∈gs,graS c g=true)∧(∀g∈gs,∀v∈g,knw c ps v=true)∧∀i:Nat,i<gs.length→(i:Int)=b→gs.getD i []=[]:=by
 simp only[dS,aJ,ks,Bool.and_eq_true,List.all_eq_true,Bool.or_eq_true,Bool.not_eq_true',beq_eq_false_iff_ne,List.isEmpty_iff]
 constructor
 ·intro h
  refine⟨fun g hg=>?_,fun g hg=>?_,fun i hi hb=>?_⟩
  ·obtain⟨j,hj,rfl⟩:=ca (d:=[]) hg
   exact(h j hj).1.2
  ·obtain⟨j,hj,rfl⟩:=ca (d:=[]) hg
   exact(h j hj).1.1
  ·rcases (h i hi).2 with h1|h1
   ·exact absurd hb h1
   ·exact h1
 ·rintro⟨h1,h2,h3⟩ i hi
  have hm:gs.getD i []∈gs:=gb hi
  refine⟨⟨h2 _ hm,h1 _ hm⟩,?_⟩
  by_cases hb:(i:Int)=b
  ·exact .inr (h3 i hi hb)
  ·exact .inl hb
theorem pQ {w:Wrl}:iy w=true↔WOK w:=by
 rw[vd,Bool.and_eq_true]
 constructor
 ·rintro⟨h1,h2⟩
  obtain⟨p1,p2,p3,p4,p5,p6⟩:=mz h1
  obtain⟨q1,q2,q3⟩:=ru.1 p4
  obtain⟨r1,r2,r3⟩:=rT.1 p6
  exact⟨p1,p2,p3,q1,q2,q3,p5,r1,fun g hg v hv=>ut.1 (r2 g hg v hv),r3,qS.1 h2⟩
 ·intro h
  refine⟨?_,qS.2 h.kp⟩
  have h1:=ru.2 ⟨h.one,h.fit,h.plen⟩
  have h2:=rT.2 ⟨h.gra,fun g hg v hv=>ut.2 (h.knw g hg v hv),h.bv⟩
  simp[fN,iu,h.com,h.lead,h.bad,h1,h2,h.vlen]
def good (w:Wrl)(m:Int):Bool:=bY w.com m && m !=w.bad
def view (w:Wrl)(m:Int):List Vtx:=w.views.getD m.toNat []
def Fd (ps:List Ppl)(m:Int):Int:=ps.foldl (fun n p=>if p.v.author=m then max n (p.v.round+1) else n) 0
def EM (w:Wrl)(m d:Int):Vtx:=⟨Ap w.com (view w m)+1,m,if 0<Ap w.com (view w m)+1 then oo (view w m) (Ap w.com (view w m)) else[],d⟩
def FJ (w:Wrl)(m d:Int):Bool:=good w m && (f6 d 0 990 && (decide (w.props.length<220) && (decide (Fd w.props m≤(EM w m d).round) && vtxS w.com (EM w m d))))
def prop (w:Wrl)(i:Int):Ppl:=w.props.getD i.toNat p0
def F2 (w:Wrl)(i:Int):Bool:=f6 i 0 (w.props.length-1)
def ED:List Vtx→Vtx→List Vtx
 |[],v=>[v]
 |x::g,v=>if bef x v then x::ED g v else v::x::g
def Eo (w:Wrl)(m i:Int):Bool:=good w m && (F2 w i && (don w.com (prop w i) && (!eC (view w m) (prop w i).v.round (prop w i).v.author && parOK (view w m) (prop w i).v)))
def FK (w:Wrl)(m i:Int):Wrl:=if Eo w m i then {w with views:=w.views.set m.toNat (ED (view w m) (prop w i).v)} else w
def Fy (w:Wrl)(v:Vtx):Bool:=decide (0≤w.bad) && (v.author==w.bad && (vtxS w.com v && (decide (w.props.length<220) && !w.props.any fun p=>jN p.v v)))
theorem xL {w:Wrl}{m:Int}:good w m=true↔(0≤m∧m<w.com.length)∧m≠w.bad:=by
 simp only[good,bY,Bool.and_eq_true,av,bne_iff_ne]
 omega
theorem Aj {c:List Int}{g:List Vtx}(h:graS c g=true):g.length≤217:=by
 have hg:=gU h
 have ht:∀v∈g,jc v:=fun v hv=>eA hg.com (hg.vtx v hv)
 have h1:((g.map fun v=>(v.round*7+v.author).toNat)).Nodup:=by
  rw[List.Nodup,List.pairwise_map]
  refine hg.pw.imp_of_mem fun {a b} ha hb hab=>?_
  obtain⟨⟨a1,a2⟩,a3,a4⟩:=ht a ha
  obtain⟨⟨b1,b2⟩,b3,b4⟩:=ht b hb
  simp only[bef,Bool.or_eq_true,Bool.and_eq_true,decide_eq_true_eq] at hab
  omega
 have h2:=iL h1 (b:=List.range 217) fun k hk=>by
  obtain⟨v,hv,rfl⟩:=List.mem_map.1 hk
  obtain⟨⟨a1,a2⟩,a3,a4⟩:=ht v hv
  rw[List.mem_range]
  omega
 simpa using h2
theorem WOK.len {w:Wrl}(h:WOK w):1≤w.com.length∧w.com.length≤7:=(au.1 h.com).2
theorem WOK.vl {w:Wrl}(h:WOK w):∀g∈w.views,g.length≤217:=fun g hg=>Aj (h.gra g hg)
theorem WOK.vv {w:Wrl}(h:WOK w):∀g∈w.views,∀v∈g,vtxS w.com v=true:=fun g hg=>um (h.gra g hg)
theorem WOK.pv {w:Wrl}(h:WOK w):∀p∈w.props,vtxS w.com p.v=true∧cj w.com p.members=true:=fun p hp=>by
 have:=h.one p hp
 simpa only[oneP,Bool.and_eq_true] using this
theorem WOK.par {w:Wrl}(h:WOK w){v:Vtx}(hv:vtxS w.com v=true):v.parents.length≤7:=pO h.com hv
theorem WOK.view {w:Wrl}(h:WOK w){m:Int}(hm:good w m=true):w.views[m.toNat]?=some (view w m)∧view w m∈w.views∧m.toNat<w.views.length:=by
 have hg:=xL.1 hm
 have hl:m.toNat<w.views.length:=by rw[h.vlen];omega
 refine⟨?_,gb hl,hl⟩
 unfold Am.view
 rw[List.getD_eq_getElem?_getD,List.getElem?_eq_getElem hl]
 rfl
def BR (w:Wrl)(i:Int):Nat→Wrl
 |0=>w
 |n+1=>FK (BR w i n) n i
def s7 (w:Wrl):Nat→Wrl
 |0=>w
 |k+1=>BR (s7 w k) k (s7 w k).com.length
def pass (w:Wrl):Wrl:=s7 w w.props.length
end Go.Proofs.YthmfppknagbkeaaGreatDoor.Am
namespace Go.Proofs.YthmfppknagbkeaaGreatDoor.Am
open Go Go.RowKit
variable {P:Program} {N:Nat} {K:Id→Prop} {σ:VSt} {Q:Exit→VSt→Prop}
end Go.Proofs.YthmfppknagbkeaaGreatDoor.Am
namespace Go.Proofs.YthmfppknagbkeaaGreatDoor.Am
open Go Go.Shelf Go.RowKit
variable {P:Program} {w0:World} {S:SD} {A:Nat→Prop} {N:Nat} {ρ:Id→Pl} {t:List (Nat×D)} {h:HL} {a:Act} {w:World}
end Go.Proofs.YthmfppknagbkeaaGreatDoor.Am
namespace Go.Proofs.YthmfppknagbkeaaGreatDoor.Am
open Go Go.Shelf Go.RowKit
attribute [local irreducible] Mk ba Ari di jQ f4 bh bV eY d6 At
set_option maxRecDepth 10000
theorem Con.out {P:Program}{f:FuncId}{ds:List D}{hin hout hout':HL}{r:D}(h:Con P f ds hin r hout)(he:∀b,look hout' b=look hout b):Con P f ds hin r hout':=by
 refine⟨h.1,fun w A ρ vs s hl hc=>(h.2 w A ρ vs s hl hc).mono ?_⟩
 rintro e w' ⟨u,ρ',h1,h2,h3,h4⟩
 have hl:∀b,Live hout b→Live hout' b:=fun b hb=>by
  unfold Live at hb⊢
  rw[he]
  exact hb
 exact⟨u,ρ',h1,fun b hb=>⟨(h2 b hb).1,hl b (h2 b hb).2⟩,h3.congr (fun _=>rfl) he,h4.mono (fun b hb=>⟨hl b hb,rfl⟩) fun k hk=>⟨⟨hk.1,fun b y hy hmu=>hk.2 b y (by rw[←he];exact hy) hmu⟩,rfl⟩⟩
def sS:Go.Shelf.Ren:=⟨fun|25=>201|31=>216|32=>217|37=>223|n=>n,fun|22=>22|3=>3|4=>4|40=>225|0=>0|n=>n,fun|n=>n⟩
theorem yj:Go.Proofs.Lays2.n25 Tryz.prog sS where
  mixed:=by kernel_rfl
  f25:=Tryz.func201.trans (congrArg some (by kernel_rfl))
  f31:=Tryz.func216.trans (congrArg some (by kernel_rfl))
  f32:=Tryz.func217.trans (congrArg some (by kernel_rfl))
  f37:=Tryz.func223.trans (congrArg some (by kernel_rfl))
  t0:=Tryz.underlying0
  a0:=Tryz.isAgg0
  z0:=Tryz.sizeOf0
  v0:=Tryz.zeroValue0
  t3:=Tryz.underlying3
  a3:=Tryz.isAgg3
  z3:=Tryz.sizeOf3
  v3:=Tryz.zeroValue3
  t4:=Tryz.underlying4
  a4:=Tryz.isAgg4
  z4:=Tryz.sizeOf4
  v4:=Tryz.zeroValue4
  t22:=Tryz.underlying22
  a22:=Tryz.isAgg22
  z22:=Tryz.sizeOf22
  v22:=Tryz.zeroValue22
  t40:=Tryz.underlying225
  a40:=Tryz.isAgg225
  z40:=Tryz.sizeOf225
  v40:=Tryz.zeroValue225
theorem kx (w:World)(q:Nat):Below w.heap.size w (w.drewN q):=⟨rfl,rfl,rfl,Nat.le_refl _,fun _ _=>rfl⟩
theorem Ez (xs:List Int)(x:Int)(hs:xs.Pairwise (· ≤ ·))(hl:xs.length≤1000000):aj Tryz.prog 201 [.lst (.int .i64) xs,.int .i64 x] [] (.tup [.int .i64 (xs.countP (· <x):Nat),.bool (xs.contains x)]) []:=by
 unfold aj
 refine gL ⟨_,Tryz.func201,rfl,rfl⟩ fun w ok ρ vs hl2 hc=>?_
 obtain⟨v0,v1,rfl⟩:∃v0 v1,vs= #[v0,v1]:=by
  have h2:vs.size=2:=hl2.symm
  refine⟨vs[0],vs[1],Array.ext (by simp[h2]) fun i h1 h3=>?_⟩
  match i,h3 with
  |0,_=>rfl
  |1,_=>rfl
 have h0:C ρ (fun _=>False) ok w (.lst (xs.map (D.int .i64))) v0:=hc 0 (by simp[ae])
 have h1:C ρ (fun _=>False) ok w (.int .i64 x) v1:=hc 1 (by simp[ae])
 obtain rfl:=h1.int_inv
 have h0:=h0.lst_inv
 have fin:∀w':World,Below w.heap.size w w'→∀ok',Rep ok' w' ((V.tup [.int .i64 (xs.countP (· <x):Nat),.bool (xs.contains x)]).toD) (.tuple #[.int .i64 (xs.countP (· <x):Nat),.bool (xs.contains x)]):=fun w' _ ok'=>by
  refine .tup _ _ rfl fun i hi=>?_
  match i,hi with
  |0,_=>exact .int _ _
  |1,_=>exact .bool _
 cases xs with
 |nil=>
  obtain⟨a,cap,rfl⟩:∃a cap,v0= .slice a 0 cap:=by
   generalize hd:(([]:List Int).map (D.int .i64))=dl at h0
   cases h0 with
   |none a cap ha hcap=>exact⟨a,cap,rfl⟩
   |lst l n b off cap f hn=>subst hd;exact⟨_,cap,by rw[←hn];rfl⟩
  refine Calls.mono (Any.slices_BinarySearch_int_empty yj a cap x w) ?_
  rintro e w' ⟨rfl,rfl⟩
  exact⟨_,rfl,Below.refl _ _,fin _ (Below.refl _ _)⟩
 |cons y ys=>
  obtain⟨b,off,cap,rfl,hcell⟩:∃b off cap,v0= .slice (some ⟨b,off,none⟩) (y::ys).length cap∧∀j,j<(y::ys).length→w.cell? ⟨b,off+j,none⟩=some (.int .i64 ((y::ys).getD j 0)):=by
   generalize hd:((y::ys).map (D.int .i64))=dl at h0
   cases h0 with
   |none a cap ha hcap=>cases hd
   |lst l n b off cap f hn hcap hmax hok hsz hpos hcc hr=>
    have hlen:(y::ys).length=n:=by rw[←hn,←hd];simp
    have hz:szl dl=1:=by rw[←hd];rfl
    refine⟨b,off,cap,by rw[hlen],fun j hj=>?_⟩
    have q1:=hcc j 0 (by omega) (by omega)
    have q2:=hr j 0 (by omega) (by omega)
    rw[hz,Nat.mul_one,Nat.add_zero] at q1
    have q3:(dl.getD j .undef).cells.getD 0 .undef= .int .i64 ((y::ys).getD j 0):=by
     rw[←hd]
     simp only[List.getD_eq_getElem?_getD,List.getElem?_map,List.getElem?_eq_getElem hj,Option.map_some,Option.getD_some]
     rfl
    rw[q3] at q2
    generalize f j 0=z at q1 q2
    cases q2
    exact q1
  refine Calls.mono (Any.slices_BinarySearch_int yj b off (y::ys).length cap (y::ys) x w (Nat.le_refl _) (by omega) hcell (by rw[List.take_length];exact hs)) ?_
  rintro e w' ⟨rfl,q,rfl⟩
  rw[List.take_length]
  exact⟨_,rfl,kx _ _,fin _ (kx _ _)⟩
end Go.Proofs.YthmfppknagbkeaaGreatDoor.Am
namespace Go.Proofs.YthmfppknagbkeaaGreatDoor.Am
open Go
structure Rel (ps:List Ppl)(xss:List (Option (List Int)))(ms:List PplM):Prop where
 len:ms.length=ps.length
 get:∀(i:Nat) (p:Ppl),ps[i]?=some p→∃j:Nat,ms[i]?=some ⟨p.v,some j⟩∧xss[j]?=some (some p.members)
 inj:∀(i i':Nat) (v v':Vtx) (j:Nat),ms[i]?=some ⟨v,some j⟩→ms[i']?=some ⟨v',some j⟩→i=i'
theorem Rel.old {ps:List Ppl}{xss:List (Option (List Int))}{ms:List PplM}(h:Rel ps xss ms){i:Nat}{v:Vtx}{j:Nat}(hi:ms[i]?=some ⟨v,some j⟩):j<xss.length∧∃p,ps[i]?=some p∧p.v=v∧xss[j]?=some (some p.members):=by
 have hl:=(List.getElem?_eq_some_iff.1 hi).1
 rw[h.len] at hl
 obtain⟨j',h1,h2⟩:=h.get i _ (List.getElem?_eq_getElem hl)
 rw[h1] at hi
 injection hi with hi
 injection hi with e1 e2
 obtain rfl:=Option.some.inj e2
 exact⟨(List.getElem?_eq_some_iff.1 h2).1,_,List.getElem?_eq_getElem hl,e1,h2⟩
theorem Rel.add {ps:List Ppl}{xss:List (Option (List Int))}{ms:List PplM}(h:Rel ps xss ms)(v:Vtx):Rel (ps++[⟨v,[]⟩]) (xss++[some []]) (ms++[⟨v,some xss.length⟩]):=by
 refine⟨by simp[h.len],fun i p hi=>?_,fun i i' v1 v2 j h1 h2=>?_⟩
 ·rcases Nat.lt_or_ge i ps.length with hlt|hge
  ·rw[List.getElem?_append_left hlt] at hi
   obtain⟨j,h1,h2⟩:=h.get i p hi
   exact⟨j,by rw[List.getElem?_append_left (by rw[h.len];exact hlt)];exact h1,by rw[List.getElem?_append_left (List.getElem?_eq_some_iff.1 h2).1];exact h2⟩
  ·rw[List.getElem?_append_right hge] at hi
   have e:i=ps.length:=by
    have:=(List.getElem?_eq_some_iff.1 hi).1
    simp at this
    omega
   subst e
   simp at hi
   subst hi
   exact⟨xss.length,by rw[←h.len];simp,by simp⟩
 ·have key:∀{i:Nat} {v1:Vtx},(ms++[(⟨v,some xss.length⟩:PplM)])[i]?=some ⟨v1,some j⟩→(i<ms.length∧ms[i]?=some ⟨v1,some j⟩∧j<xss.length)∨(i=ms.length∧j=xss.length):=fun {i v1} hi=>by
   rcases Nat.lt_or_ge i ms.length with hlt|hge
   ·rw[List.getElem?_append_left hlt] at hi
    exact .inl ⟨hlt,hi,(h.old hi).1⟩
   ·rw[List.getElem?_append_right hge] at hi
    have e:i=ms.length:=by
     have:=(List.getElem?_eq_some_iff.1 hi).1
     simp at this
     omega
    subst e
    simp at hi
    exact .inr ⟨rfl,hi.2.symm⟩
  rcases key h1 with⟨a1,a2,a3⟩|⟨a1,a2⟩<;>rcases key h2 with⟨b1,b2,b3⟩|⟨b1,b2⟩
  ·exact h.inj _ _ _ _ _ a2 b2
  ·omega
  ·omega
  ·omega
end Go.Proofs.YthmfppknagbkeaaGreatDoor.Am
namespace Go.Proofs.YthmfppknagbkeaaGreatDoor.Am
open Go Go.RowKit
variable {P:Program} {w0:World} {S:SD} {A:Nat→Prop} {N:Nat} {ρ:Id→Pl} {t:List (Nat×D)} {h:HL} {a:Act} {w:World}
variable {K:Id→Prop} {fu:FuncId} {b:Id} {Q:Exit→VSt→Prop} {σ:VSt}
end Go.Proofs.YthmfppknagbkeaaGreatDoor.Am
namespace Go.Proofs.YthmfppknagbkeaaGreatDoor.Am
open Go
attribute [local irreducible] Mk ba Ari di jQ f4 bh bV eY d6 At aj
set_option maxRecDepth 10000
def F1 (w:Wrl)(e:Evt):Bool:=(decide (e.kind=1) && FJ w e.a e.b)||(decide (e.kind=4) && Fy w e.v)
def e0:Evt:=⟨0,0,0,v0⟩
end Go.Proofs.YthmfppknagbkeaaGreatDoor.Am
namespace Go.Proofs.YthmfppknagbkeaaGreatDoor.Am
open Go
def still (w:Wrl):Prop:=∀m i:Nat,m<w.com.length→i<w.props.length→Eo w m i=false
theorem Bz {w:Wrl}(hw:WOK w){m:Nat}(hm:m<w.com.length):w.views.getD m []∈w.views:=gb (by rw[hw.vlen];exact hm)
structure Grw (w u:Wrl):Prop where
 com:u.com=w.com
 lead:u.lead=w.lead
 bad:u.bad=w.bad
 vlen:u.views.length=w.views.length
 views:∀m:Nat,∀v∈w.views.getD m [],v∈u.views.getD m []
 props:∀(k:Nat) (p:Ppl),w.props[k]?=some p→∃l,u.props[k]?=some ⟨p.v,l⟩∧∀m∈p.members,m∈l
theorem Grw.refl (w:Wrl):Grw w w:=⟨rfl,rfl,rfl,rfl,fun _ _ h=>h,fun _ p h=>⟨p.members,h,fun _ h=>h⟩⟩
theorem Grw.trans {w u x:Wrl}(h1:Grw w u)(h2:Grw u x):Grw w x:=by
 refine⟨h2.com.trans h1.com,h2.lead.trans h1.lead,h2.bad.trans h1.bad,h2.vlen.trans h1.vlen,fun m v h=>h2.views m v (h1.views m v h),fun k p h=>?_⟩
 obtain⟨l,a1,a2⟩:=h1.props k p h
 obtain⟨l2,b1,b2⟩:=h2.props k _ a1
 exact⟨l2,b1,fun m hm=>b2 m (a2 m hm)⟩
theorem Grw.plen {w u:Wrl}(h:Grw w u):w.props.length≤u.props.length:=by
 rcases Nat.lt_or_ge u.props.length w.props.length with hlt|hge
 ·obtain⟨l,a1,-⟩:=h.props u.props.length _ (List.getElem?_eq_getElem hlt)
  have:=(List.getElem?_eq_some_iff.1 a1).1
  omega
 ·exact hge
inductive Rv (g:List Vtx):Vtx→Vtx→Prop where
 |refl (u:Vtx):Rv g u u
 |step {u x v:Vtx} (hx:x∈g) (h1:x.round=u.round-1) (h2:x.author∈u.parents) (h:Rv g x v):Rv g u v
theorem Rv.trans {g:List Vtx}{u x v:Vtx}(h:Rv g u x)(h':Rv g x v):Rv g u v:=by
 induction h with
 |refl u=>exact h'
 |step hx h1 h2 _ ih=>exact .step hx h1 h2 (ih h')
theorem Rv.round {g:List Vtx}{u v:Vtx}(h:Rv g u v):v.round≤u.round:=by
 induction h with
 |refl u=>exact Int.le_refl _
 |step _ h1 _ _ ih=>omega
theorem Rv.mono {g U:List Vtx}(hs:∀v∈g,v∈U){u v:Vtx}(h:Rv g u v):Rv U u v:=by
 induction h with
 |refl u=>exact .refl u
 |step hx h1 h2 _ ih=>exact .step (hs _ hx) h1 h2 ih
theorem lv {g:List Vtx}(h:g.Pairwise fun a b=>bef a b=true){u v:Vtx}(hu:u∈g)(hv:v∈g)(h1:u.round=v.round)(h2:u.author=v.author):u=v:=by
 obtain⟨i,hi⟩:=List.getElem?_of_mem hu
 obtain⟨k,hk⟩:=List.getElem?_of_mem hv
 rcases Nat.lt_trichotomy i k with hlt|rfl|hlt
 ·have:=fP h hlt hi hk
  simp only[bef,Bool.or_eq_true,Bool.and_eq_true,decide_eq_true_eq] at this
  omega
 ·rw[hi] at hk;exact Option.some.inj hk
 ·have:=fP h hlt hk hi
  simp only[bef,Bool.or_eq_true,Bool.and_eq_true,decide_eq_true_eq] at this
  omega
theorem Rv.down {c:List Int}{g U:List Vtx}(hg:GraOK c g)(hU:GraOK c U)(hs:∀v∈g,v∈U){u v:Vtx}(h:Rv U u v)(hu:u∈g):Rv g u v:=by
 induction h with
 |refl u=>exact .refl u
 | @step u x v hx h1 h2 _ ih=>
  obtain⟨y,y1,y2,y3⟩:=bR.1 (dx.1 (hg.par u hu) _ h2)
  have e:y=x:=lv hU.pw (hs y y1) hx (by omega) y3
  subst e
  exact .step y1 h1 h2 (ih y1)
def dd (l:List Int)(w:Nat):Int:=l.getD (w-1) 0
def kE (g:List Vtx)(l:List Int)(w:Nat):Option Vtx:=g.find? (cm (2*(w:Int)-1) (dd l w))
theorem mf {g:List Vtx}{l:List Int}{w:Nat}{v:Vtx}(h:kE g l w=some v):v∈g∧v.round=2*(w:Int)-1∧v.author=dd l w:=
 ⟨List.mem_of_find?_eq_some h,eg.1 (List.find?_some h)⟩
def m4 (g:List Vtx)(l:List Int)(w:Nat):List Int:=(g.filter fun v=>v.round==2*(w:Int) && v.parents.contains (dd l w)).map (·.author)
def kR (c:List Int)(g:List Vtx)(l:List Int)(w:Nat):Int:=if(kE g l w).isSome then jO c (m4 g l w) else 0
def wE (c:List Int):Int:=(kJ c).tdiv 3+1
def sy (c:List Int)(g:List Vtx)(l:List Int)(w:Nat):Bool:=decide (wE c≤kR c g l w)
theorem jy {c:List Int}(h:comV c=true):1≤wE c∧wE c=kJ c/3+1:=by
 have:=fU h
 unfold wE
 rw[Int.tdiv_eq_ediv_of_nonneg (by omega)]
 omega
theorem kV {c:List Int}{g:List Vtx}{l:List Int}{w:Nat}(hc:comV c=true)(h:sy c g l w=true):∃v,kE g l w=some v∧wE c≤jO c (m4 g l w):=by
 have hs:=jy hc
 unfold sy kR at h
 have h:=of_decide_eq_true h
 cases hl:kE g l w with
 |none=>rw[hl] at h;simp at h;omega
 |some v=>rw[hl] at h;exact⟨v,rfl,by simpa using h⟩
theorem BF {g:List Vtx}{l:List Int}{w:Nat}{a:Int}:a∈m4 g l w↔∃v∈g,v.round=2*(w:Int)∧dd l w∈v.parents∧v.author=a:=by
 simp only[m4,List.mem_map,List.mem_filter,Bool.and_eq_true,beq_iff_eq,List.contains_iff_mem]
 constructor
 ·rintro⟨v,⟨h1,h2,h3⟩,h4⟩;exact⟨v,h1,h2,h3,h4⟩
 ·rintro⟨v,h1,h2,h3,h4⟩;exact⟨v,⟨h1,h2,h3⟩,h4⟩
theorem BD {g:List Vtx}(h:g.Pairwise fun a b=>bef a b=true)(l:List Int)(w:Nat):(m4 g l w).Pairwise (· < ·):=by
 unfold m4
 rw[List.pairwise_map]
 refine(h.sublist (List.filter_sublist ..)).imp_of_mem fun {a b} ha hb hab=>?_
 have ha:=(List.mem_filter.1 ha).2
 have hb:=(List.mem_filter.1 hb).2
 simp only[bef,Bool.or_eq_true,Bool.and_eq_true,decide_eq_true_eq,beq_iff_eq] at *
 omega
open Classical in
noncomputable def dwn (g:List Vtx) (l:List Int) (last:Nat):Nat→Vtx→List Nat
 |0,_=>[]
 |x+1,cur=>if x+1≤last then[] else match kE g l (x+1) with
  |some k=>if Rv g cur k then dwn g l last x k++[x+1] else dwn g l last x cur
  |none=>dwn g l last x cur
noncomputable def chn (g:List Vtx) (l:List Int) (w last:Nat):List Nat:=match kE g l w with
 |some k=>dwn g l last (w-1) k++[w]
 |none=>[w]
noncomputable def cmt (c:List Int) (g:List Vtx) (l:List Int):Nat→List Nat×Nat
 |0=>([],0)
 |n+1=>if sy c g l (n+1) then((cmt c g l n).1++chn g l (n+1) (cmt c g l n).2,n+1) else cmt c g l n
open Classical in
theorem kW (g:List Vtx)(l:List Int)(last:Nat):∀(x:Nat) (cur:Vtx),∀w∈dwn g l last x cur,1≤w∧w≤x∧∃k,kE g l w=some k
 |0,_,w,hw=>by simp[dwn] at hw
 |x+1,cur,w,hw=>by
  unfold dwn at hw
  split at hw
  ·cases hw
  ·split at hw
   ·rename_i k hk
    split at hw
    ·rcases List.mem_append.1 hw with h|h
     ·obtain⟨h1,h2,h3⟩:=kW g l last x k w h
      exact⟨h1,by omega,h3⟩
     ·obtain rfl:=List.mem_singleton.1 h
      exact⟨by omega,Nat.le_refl _,k,hk⟩
    ·obtain⟨h1,h2,h3⟩:=kW g l last x cur w hw
     exact⟨h1,by omega,h3⟩
   ·obtain⟨h1,h2,h3⟩:=kW g l last x cur w hw
    exact⟨h1,by omega,h3⟩
theorem gJ {c:List Int}{g:List Vtx}(hc:comV c=true)(l:List Int):∀n:Nat,∀w∈(cmt c g l n).1,1≤w∧w≤n∧∃k,kE g l w=some k
 |0,w,hw=>by simp[cmt] at hw
 |n+1,w,hw=>by
  unfold cmt at hw
  split at hw
  ·rename_i hd
   obtain⟨k,hk,-⟩:=kV hc hd
   rcases List.mem_append.1 hw with h|h
   ·obtain⟨h1,h2,h3⟩:=gJ hc l n w h
    exact⟨h1,by omega,h3⟩
   ·unfold chn at h
    rw[hk] at h
    rcases List.mem_append.1 h with h|h
    ·obtain⟨h1,h2,h3⟩:=kW g l _ _ k w h
     exact⟨h1,by omega,h3⟩
    ·obtain rfl:=List.mem_singleton.1 h
     exact⟨by omega,Nat.le_refl _,k,hk⟩
  ·obtain⟨h1,h2,h3⟩:=gJ hc l n w hw
   exact⟨h1,by omega,h3⟩
open Classical in
noncomputable def ordW (g:List Vtx) (l:List Int) (acc:List Vtx) (w:Nat):List Vtx:=match kE g l w with
 |some k=>g.filter fun v=>decide (Rv g k v) && (decide (2*(w:Int)-7≤v.round) && decide (v∉acc))
 |none=>[]
noncomputable def ordTo (g:List Vtx) (l:List Int) (acc:List Vtx) (ws:List Nat):List Vtx:=ws.foldl (fun acc w=>acc++ordW g l acc w) acc
theorem mw (g:List Vtx)(l:List Int)(acc:List Vtx)(w:Nat)(ws:List Nat):ordTo g l acc (w::ws)=ordTo g l (acc++ordW g l acc w) ws:=rfl
theorem v7 (g:List Vtx)(l:List Int)(acc:List Vtx)(ws ws':List Nat):ordTo g l acc (ws++ws')=ordTo g l (ordTo g l acc ws) ws':=by simp[ordTo,List.foldl_append]
noncomputable def ordG (c:List Int) (g:List Vtx) (l:List Int):List Vtx:=ordTo g l [] (cmt c g l l.length).1
end Go.Proofs.YthmfppknagbkeaaGreatDoor.Am
namespace Go.Proofs.YthmfppknagbkeaaGreatDoor.Am
open Go
def pix (g:List Vtx)(v:Vtx):List (Option Nat):=v.parents.map fun a=>g.findIdx? (cm (v.round-1) a)
theorem fi {g:List Vtx}{r a:Int}{k:Nat}(h:g.findIdx? (cm r a)=some k):∃x,g[k]?=some x∧x.round=r∧x.author=a:=by
 obtain⟨hk,h1,-⟩:=List.findIdx?_eq_some_iff_getElem.1 h
 exact⟨_,List.getElem?_eq_getElem hk,eg.1 h1⟩
theorem iI {c:List Int}{g:List Vtx}(hg:GraOK c g){k:Nat}{x:Vtx}(h:g[k]?=some x):g.findIdx? (cm x.round x.author)=some k:=by
 cases hf:g.findIdx? (cm x.round x.author) with
 |none=>
  have:=List.findIdx?_eq_none_iff.1 hf x (List.mem_of_getElem? h)
  rw[eg.2 ⟨rfl,rfl⟩] at this
  cases this
 |some j=>
  obtain⟨y,h1,h2,h3⟩:=fi hf
  have e:=lv hg.pw (List.mem_of_getElem? h1) (List.mem_of_getElem? h) h2 h3
  subst e
  rw[pw_idx hg h1 h]
where
 pw_idx {c:List Int} {g:List Vtx} (hg:GraOK c g) {i k:Nat} {x:Vtx} (h1:g[i]?=some x) (h2:g[k]?=some x):i=k:=by
  rcases Nat.lt_trichotomy i k with hlt|rfl|hlt
  ·have:=fP hg.pw hlt h1 h2
   simp only[bef,Bool.or_eq_true,Bool.and_eq_true,decide_eq_true_eq] at this
   omega
  ·rfl
  ·have:=fP hg.pw hlt h2 h1
   simp only[bef,Bool.or_eq_true,Bool.and_eq_true,decide_eq_true_eq] at this
   omega
theorem xF {c:List Int}{g:List Vtx}(hg:GraOK c g){i k:Nat}{x:Vtx}(h1:g[i]?=some x)(h2:g[k]?=some x):i=k:=by
 have e1:=iI hg h1
 have e2:=iI hg h2
 rw[e1] at e2
 exact Option.some.inj e2
theorem jo {c:List Int}{g:List Vtx}(hg:GraOK c g){v:Vtx}(hv:v∈g){o:Option Nat}(h:o∈pix g v):∃k x,o=some k∧g[k]?=some x∧x.round=v.round-1∧x.author∈v.parents:=by
 obtain⟨a,ha,rfl⟩:=List.mem_map.1 h
 obtain⟨x,x1,x2,x3⟩:=bR.1 (dx.1 (hg.par v hv) a ha)
 obtain⟨k,hk⟩:=List.getElem?_of_mem x1
 have:=iI hg hk
 rw[x2,x3] at this
 exact⟨k,x,this,hk,x2,x3▸ha⟩
theorem yM {c:List Int}{g:List Vtx}(hg:GraOK c g){v x:Vtx}(hv:v∈g){k:Nat}(h:some k∈pix g v)(hx:g[k]?=some x):Rv g v x:=by
 obtain⟨k',x',e,h1,h2,h3⟩:=jo hg hv h
 obtain rfl:=Option.some.inj e
 rw[hx] at h1
 obtain rfl:=Option.some.inj h1
 exact .step (List.mem_of_getElem? hx) h2 h3 (.refl x)
theorem nV {c:List Int}{g:List Vtx}(hg:GraOK c g){S:Nat→Prop}(hS:∀i v,g[i]?=some v→S i→∀k,some k∈pix g v→S k){u v:Vtx}(h:Rv g u v):∀i k,g[i]?=some u→S i→g[k]?=some v→S k:=by
 induction h with
 |refl u=>
  intro i k h1 h2 h3
  rw[←xF hg h1 h3]
  exact h2
 | @step u x v hx h1 h2 _ ih=>
  intro i k hi hs hk
  obtain⟨j,hj⟩:=List.getElem?_of_mem hx
  have:=iI hg hj
  exact ih j k hj (hS i u hi hs j (List.mem_map.2 ⟨x.author,h2,by rw[←h1];exact this⟩)) hk
structure Dfs (g:List Vtx)(u:Vtx)(n j:Nat)(re:List Bool)(wt:List (Option Nat)):Prop where
 len:re.length=g.length
 snd:∀(i:Nat) (v:Vtx),g[i]?=some v→re[i]?=some true→Rv g u v
 wtg:∀o∈wt,∃k,o=some k∧re[k]?=some true
 cur:∀v:Vtx,g[n]?=some v→re[n]?=some true
 cls:∀(i:Nat) (v:Vtx),g[i]?=some v→re[i]?=some true→some i∈wt∨(i=n∧∀(k q:Nat),k<j→(pix g v)[k]?=some (some q)→re[q]?=some true)∨∀q:Nat,some q∈pix g v→re[q]?=some true
theorem Ep {c:List Int}{g:List Vtx}(hg:GraOK c g){st:Nat}{u:Vtx}(h:g[st]?=some u):Dfs g u g.length 0 ((List.replicate g.length false).set st true) [some st]:=by
 have hl:=(List.getElem?_eq_some_iff.1 h).1
 have key:∀i:Nat,((List.replicate g.length false).set st true)[i]?=some true→i=st:=fun i hi=>by
  rw[List.getElem?_set] at hi
  split at hi
  ·omega
  ·rw[List.getElem?_replicate] at hi
   split at hi<;>cases hi
 have hst:((List.replicate g.length false).set st true)[st]?=some true:=by
  rw[List.getElem?_set,if_pos rfl,if_pos (by simpa using hl)]
 refine⟨by simp,fun i v hi hr=>?_,fun o ho=>⟨st,by simpa using ho,hst⟩,fun v hv=>?_,fun i v hi hr=>.inl ?_⟩
 ·obtain rfl:=key i hr
  rw[h] at hi
  obtain rfl:=Option.some.inj hi
  exact .refl u
 ·have:=(List.getElem?_eq_some_iff.1 hv).1
  omega
 ·rw[key i hr]
  simp
theorem zZ {g:List Vtx}{u:Vtx}{n j:Nat}{re:List Bool}{wt:List (Option Nat)}{q:Nat}(h:Dfs g u n j re (wt++[some q]))(hn:g[n]?=none):Dfs g u q 0 re wt:=by
 refine⟨h.len,h.snd,fun o ho=>h.wtg o (List.mem_append.2 (.inl ho)),fun v _=>?_,fun i v hi hr=>?_⟩
 ·obtain⟨k,h1,h2⟩:=h.wtg (some q) (by simp)
  obtain rfl:=Option.some.inj h1
  exact h2
 ·rcases h.cls i v hi hr with h1|⟨rfl,-⟩|h1
  ·rcases List.mem_append.1 h1 with h1|h1
   ·exact .inl h1
   ·refine .inr (.inl ⟨?_,fun k _ hk=>absurd hk (Nat.not_lt_zero k)⟩)
    simpa using h1
  ·rw[hn] at hi;cases hi
  ·exact .inr (.inr h1)
theorem xf {g:List Vtx}{u v:Vtx}{n j q:Nat}{re:List Bool}{wt:List (Option Nat)}(h:Dfs g u n j re wt)(hv:g[n]?=some v)(hj:(pix g v)[j]?=some (some q))(hq:re[q]?=some true):Dfs g u n (j+1) re wt:=by
 refine⟨h.len,h.snd,h.wtg,h.cur,fun i x hi hr=>?_⟩
 rcases h.cls i x hi hr with h1|⟨rfl,h1⟩|h1
 ·exact .inl h1
 ·refine .inr (.inl ⟨rfl,fun k q' hk hp=>?_⟩)
  rcases Nat.lt_or_ge k j with hlt|hge
  ·exact h1 k q' hlt hp
  ·obtain rfl:k=j:=by omega
   rw[hv] at hi
   obtain rfl:=Option.some.inj hi
   rw[hj] at hp
   obtain rfl:=Option.some.inj (Option.some.inj hp)
   exact hq
 ·exact .inr (.inr h1)
theorem da {re:List Bool}{q i:Nat}(h:re[i]?=some true):(re.set q true)[i]?=some true:=by
 have hl:=(List.getElem?_eq_some_iff.1 h).1
 rw[List.getElem?_set]
 split
 ·rename_i e
  rw[if_pos (by omega)]
 ·exact h
theorem xd {c:List Int}{g:List Vtx}(hg:GraOK c g){u v:Vtx}{n j q:Nat}{re:List Bool}{wt:List (Option Nat)}(h:Dfs g u n j re wt)(hv:g[n]?=some v)(hj:(pix g v)[j]?=some (some q))(hq:re[q]?=some false):Dfs g u n (j+1) (re.set q true) (wt++[some q]):=by
 have hql:=(List.getElem?_eq_some_iff.1 hq).1
 have hqt:(re.set q true)[q]?=some true:=by rw[List.getElem?_set,if_pos rfl,if_pos hql]
 have hne:∀i:Nat,i≠q→(re.set q true)[i]?=re[i]?:=fun i hi=>by rw[List.getElem?_set,if_neg (by omega)]
 refine⟨by rw[List.length_set];exact h.len,fun i x hi hr=>?_,fun o ho=>?_,fun x hx=>da (h.cur x hx),fun i x hi hr=>?_⟩
 ·by_cases e:i=q
  ·subst e
   exact(h.snd n v hv (h.cur v hv)).trans (yM hg (List.mem_of_getElem? hv) (List.mem_of_getElem? hj) hi)
  ·rw[hne i e] at hr
   exact h.snd i x hi hr
 ·rcases List.mem_append.1 ho with ho|ho
  ·obtain⟨k,h1,h2⟩:=h.wtg o ho
   exact⟨k,h1,da h2⟩
  ·exact⟨q,by simpa using ho,hqt⟩
 ·by_cases e:i=q
  ·subst e
   exact .inl (by simp)
  rw[hne i e] at hr
  rcases h.cls i x hi hr with h1|⟨rfl,h1⟩|h1
  ·exact .inl (List.mem_append.2 (.inl h1))
  ·refine .inr (.inl ⟨rfl,fun k q' hk hp=>?_⟩)
   rcases Nat.lt_or_ge k j with hlt|hge
   ·exact da (h1 k q' hlt hp)
   ·obtain rfl:k=j:=by omega
    rw[hv] at hi
    obtain rfl:=Option.some.inj hi
    rw[hj] at hp
    obtain rfl:=Option.some.inj (Option.some.inj hp)
    exact hqt
  ·exact .inr (.inr fun q' hq'=>da (h1 q' hq'))
theorem qg {g:List Vtx}{u v:Vtx}{n j:Nat}{re:List Bool}{wt:List (Option Nat)}(h:Dfs g u n j re wt)(hv:g[n]?=some v)(hj:v.parents.length≤j):Dfs g u g.length 0 re wt:=by
 refine⟨h.len,h.snd,h.wtg,fun x hx=>?_,fun i x hi hr=>?_⟩
 ·have:=(List.getElem?_eq_some_iff.1 hx).1
  omega
 ·rcases h.cls i x hi hr with h1|⟨rfl,h1⟩|h1
  ·exact .inl h1
  ·rw[hv] at hi
   obtain rfl:=Option.some.inj hi
   refine .inr (.inr fun q hq=>?_)
   obtain⟨k,hk⟩:=List.getElem?_of_mem hq
   have hkl:=(List.getElem?_eq_some_iff.1 hk).1
   unfold pix at hkl
   rw[List.length_map] at hkl
   exact h1 k q (by omega) hk
  ·exact .inr (.inr h1)
theorem zY {c:List Int}{g:List Vtx}(hg:GraOK c g){u:Vtx}{st:Nat}(hst:g[st]?=some u){re:List Bool}(h:Dfs g u g.length 0 re [])(h0:re[st]?=some true){i:Nat}{v:Vtx}(hi:g[i]?=some v):re[i]?=some true↔Rv g u v:=by
 refine⟨h.snd i v hi,fun hr=>?_⟩
 refine nV hg (S:=fun k=>re[k]?=some true) (fun k x hk hs q hq=>?_) hr st i hst h0 hi
 rcases h.cls k x hk hs with h1|⟨rfl,-⟩|h1
 ·cases h1
 ·have:=(List.getElem?_eq_some_iff.1 hk).1
  omega
 ·exact h1 q hq
theorem ow:∀{re:List Bool} {q:Nat},re[q]?=some false→(re.set q true).count false+1=re.count false
 |[],_,h=>by simp at h
 |b::re,0,h=>by
  simp only[List.getElem?_cons_zero,Option.some.injEq] at h
  subst h
  simp
 |b::re,q+1,h=>by
  have:=ow (re:=re) (q:=q) (by simpa using h)
  simp only[List.set_cons_succ,List.count_cons]
  omega
open Classical in
noncomputable def pst (g:List Vtx) (u:Vtx):List Int:=((List.range g.length).filter fun i=>decide (Rv g u (g.getD i v0))).map fun i:Nat=>(i:Int)
def jJ (re:List Bool)(n:Nat):List Int:=((List.range n).filter fun i=>re.getD i false).map fun i:Nat=>(i:Int)
theorem tB {re:List Bool}{n:Nat}{b:Bool}(h:re[n]?=some b):jJ re (n+1)=if b=true then jJ re n++[(n:Int)] else jJ re n:=by
 have e:re.getD n false=b:=by rw[List.getD_eq_getElem?_getD,h];rfl
 simp only[jJ,List.range_succ,List.filter_append,List.map_append,List.filter_cons,List.filter_nil,e]
 cases b<;>simp
theorem wq (re:List Bool)(n:Nat):(jJ re n).length≤n:=by
 unfold jJ
 rw[List.length_map]
 exact Nat.le_trans (List.length_filter_le _ _) (by simp)
open Classical in
theorem wr {g:List Vtx}{u:Vtx}{re:List Bool}(hl:re.length=g.length)(h:∀(i:Nat) (v:Vtx),g[i]?=some v→(re[i]?=some true↔Rv g u v)):jJ re g.length=pst g u:=by
 unfold jJ pst
 congr 1
 refine List.filter_congr fun i hi=>?_
 have hi:=List.mem_range.1 hi
 have h1:=h i (g.getD i v0) (by rw[List.getD_eq_getElem?_getD,List.getElem?_eq_getElem hi];rfl)
 rw[List.getElem?_eq_getElem (by omega)] at h1
 rw[List.getD_eq_getElem?_getD,List.getElem?_eq_getElem (by omega)]
 rw[Bool.eq_iff_iff,decide_eq_true_iff,←h1]
 simp
open Classical in
theorem uP {g:List Vtx}{u:Vtx}{x:Int}:x∈pst g u↔∃i:Nat,x=i∧∃v,g[i]?=some v∧Rv g u v:=by
 unfold pst
 rw[List.mem_map]
 constructor
 ·rintro⟨i,hi,rfl⟩
  obtain⟨h1,h2⟩:=List.mem_filter.1 hi
  have h1:=List.mem_range.1 h1
  exact⟨i,rfl,_,by rw[List.getD_eq_getElem?_getD,List.getElem?_eq_getElem h1];rfl,of_decide_eq_true h2⟩
 ·rintro⟨i,rfl,v,hv,hr⟩
  have hl:=(List.getElem?_eq_some_iff.1 hv).1
  refine⟨i,List.mem_filter.2 ⟨List.mem_range.2 hl,decide_eq_true ?_⟩,rfl⟩
  rw[List.getD_eq_getElem?_getD,hv]
  exact hr
theorem A2 (g:List Vtx)(u:Vtx):(pst g u).Pairwise (· < ·):=by
 unfold pst
 rw[List.pairwise_map]
 exact(List.Pairwise.filter _ List.pairwise_lt_range).imp fun h=>by omega
theorem ph (g:List Vtx)(u:Vtx):(pst g u).length≤g.length:=by
 unfold pst
 rw[List.length_map]
 exact Nat.le_trans (List.length_filter_le _ _) (by simp)
theorem qJ {c:List Int}:∀{g:List Vtx},GraOK c g→∀{i:Nat} {v:Vtx},g[i]?=some v→∃p,(bn g).nodes[i]?=some ⟨v,i,p⟩∧((v.parents=[]∧p=none)∨∃r,p=some r∧(bn g).rows[r]?=some (pix g v)):=by
 have raw:∀(g:List Vtx) {i:Nat} {v:Vtx},g[i]?=some v→∃p,(bn g).nodes[i]?=some ⟨v,i,p⟩∧((v.parents=[]∧p=none)∨∃r,p=some r∧(bn g).rows[r]?=some (v.parents.map fun a=>(bn (g.take i)).at (v.round-1) a)):=by
  intro g
  induction g using ey with
  |h0=>intro i v h;simp at h
  |h l x ih=>
   intro i v h
   rw[gd]
   have hnl:=(ct l).1
   rcases Nat.lt_or_ge i l.length with hlt|hge
   ·rw[List.getElem?_append_left hlt] at h
    obtain⟨p,h1,h2⟩:=ih h
    refine⟨p,?_,?_⟩
    ·show ((bn l).nodes++_)[i]?=_
     rw[List.getElem?_append_left (by omega)]
     exact h1
    ·rcases h2 with h2|⟨r,h2,h3⟩
     ·exact .inl h2
     ·refine .inr ⟨r,h2,?_⟩
      have hr:=(List.getElem?_eq_some_iff.1 h3).1
      rw[List.take_append_of_le_length (by omega)]
      simp only[a9]
      split
      ·exact h3
      ·rw[List.getElem?_append_left hr];exact h3
   ·obtain rfl:i=l.length:=by
     have:=(List.getElem?_eq_some_iff.1 h).1
     simp at this
     omega
    rw[List.getElem?_append_right (Nat.le_refl _),Nat.sub_self] at h
    simp only[List.getElem?_cons_zero,Option.some.injEq] at h
    subst h
    refine⟨if x.parents=[] then none else some (bn l).rows.length,?_,?_⟩
    ·show ((bn l).nodes++_)[l.length]?=_
     rw[←hnl,List.getElem?_append_right (Nat.le_refl _),Nat.sub_self]
     rfl
    ·by_cases hp:x.parents=[]
     ·exact .inl ⟨hp,by rw[if_pos hp]⟩
     ·refine .inr ⟨_,by rw[if_neg hp],?_⟩
      simp only[a9]
      rw[if_neg hp,List.getElem?_append_right (Nat.le_refl _),Nat.sub_self,List.take_left]
      rfl
 rename_i g
 intro hg i v h
 obtain⟨p,h1,h2⟩:=raw g h
 refine⟨p,h1,?_⟩
 rcases h2 with h2|⟨r,h2,h3⟩
 ·exact .inl h2
 ·refine .inr ⟨r,h2,?_⟩
  rw[h3]
  congr 1
  unfold pix
  refine List.map_congr_left fun a ha=>?_
  have hv:=List.mem_of_getElem? h
  obtain⟨x,x1,x2,x3⟩:=bR.1 (dx.1 (hg.par v hv) a ha)
  obtain⟨k,hk⟩:=List.getElem?_of_mem x1
  have hx:=iI hg hk
  rw[x2,x3] at hx
  rw[hx]
  have hil:=(List.getElem?_eq_some_iff.1 h).1
  have hki:k<i:=by
   rcases Nat.lt_or_ge k i with hlt|hge
   ·exact hlt
   ·exfalso
    rcases Nat.lt_or_ge i k with hlt|hge2
    ·have:=fP hg.pw hlt h hk
     simp only[bef,Bool.or_eq_true,Bool.and_eq_true,decide_eq_true_eq] at this
     omega
    ·obtain rfl:i=k:=by omega
     rw[h] at hk
     obtain rfl:=Option.some.inj hk
     omega
  have hvt:=(bl (hg.vtx v hv)).1
  have hxt:=eA hg.com (hg.vtx x x1)
  have ht:∀u∈g.take i,jc u:=fun u hu=>eA hg.com (hg.vtx u (List.mem_of_mem_take hu))
  have hk2:(g.take i)[k]?=some x:=by rw[List.getElem?_take,if_pos hki];exact hk
  have hin:=(oU ht (r:=v.round-1) (a:=a) (by have:=hxt.1;omega) (by have:=hxt.2;omega))
  have hsome:eC (g.take i) (v.round-1) a=true:=bR.2 ⟨x,List.mem_of_getElem? hk2,x2,x3⟩
  obtain⟨j,hj⟩:=Option.isSome_iff_exists.1 (hin.1.trans hsome)
  rw[hj]
  have hjx:=hin.2 j hj
  exact congrArg some (gst_j hg hki hjx hk x2 x3)
where
 gst_j {c:List Int} {g:List Vtx} (hg:GraOK c g) {i j k:Nat} {a r:Int} {x:Vtx} (hki:k<i) (hj:∃y,(g.take i)[j]?=some y∧y.round=r∧y.author=a) (hk:g[k]?=some x) (x2:x.round=r) (x3:x.author=a):j=k:=by
  obtain⟨y,y1,y2,y3⟩:=hj
  have y1':g[j]?=some y:=by
   rw[List.getElem?_take] at y1
   split at y1
   ·exact y1
   ·cases y1
  have e:=lv hg.pw (List.mem_of_getElem? y1') (List.mem_of_getElem? hk) (by omega) (by rw[y3,x3])
  subst e
  exact xF hg y1' hk
end Go.Proofs.YthmfppknagbkeaaGreatDoor.Am
namespace Go.Proofs.YthmfppknagbkeaaGreatDoor.Am
open Go
structure Sph (g:List Vtx)(u:Vtx)(st m:Nat)(re:List Bool):Prop where
 len:re.length=g.length
 snd:∀(i:Nat) (v:Vtx),g[i]?=some v→re[i]?=some true→Rv g u v
 top:re[st]?=some true
 cls:∀(i:Nat) (v:Vtx),g[i]?=some v→re[i]?=some true→i<m∨∀q:Nat,some q∈pix g v→re[q]?=some true
structure Spi (g:List Vtx)(u:Vtx)(st n j:Nat)(re:List Bool):Prop where
 len:re.length=g.length
 snd:∀(i:Nat) (v:Vtx),g[i]?=some v→re[i]?=some true→Rv g u v
 top:re[st]?=some true
 cur:re[n]?=some true∨j=0
 cls:∀(i:Nat) (v:Vtx),g[i]?=some v→re[i]?=some true→i<n∨(i=n∧∀(k q:Nat),k<j→(pix g v)[k]?=some (some q)→re[q]?=some true)∨∀q:Nat,some q∈pix g v→re[q]?=some true
theorem EV {g:List Vtx}{st:Nat}{u:Vtx}(h:g[st]?=some u):Sph g u st (st+1) ((List.replicate g.length false).set st true):=by
 have hl:=(List.getElem?_eq_some_iff.1 h).1
 have key:∀i:Nat,((List.replicate g.length false).set st true)[i]?=some true→i=st:=fun i hi=>by
  rw[List.getElem?_set] at hi
  split at hi
  ·omega
  ·rw[List.getElem?_replicate] at hi
   split at hi<;>cases hi
 have hst:((List.replicate g.length false).set st true)[st]?=some true:=by
  rw[List.getElem?_set,if_pos rfl,if_pos (by simpa using hl)]
 refine⟨by simp,fun i v hi hr=>?_,hst,fun i v hi hr=>.inl ?_⟩
 ·obtain rfl:=key i hr
  rw[h] at hi
  obtain rfl:=Option.some.inj hi
  exact .refl u
 ·rw[key i hr]
  omega
theorem DH {g:List Vtx}{u:Vtx}{st m:Nat}{re:List Bool}(h:Sph g u st (m+1) re):Spi g u st m 0 re:=by
 refine⟨h.len,h.snd,h.top,.inr rfl,fun i v hi hr=>?_⟩
 rcases h.cls i v hi hr with h1|h1
 ·rcases Nat.lt_or_ge i m with h2|h2
  ·exact .inl h2
  ·exact .inr (.inl ⟨by omega,fun k _ hk=>absurd hk (Nat.not_lt_zero k)⟩)
 ·exact .inr (.inr h1)
theorem Dr {c:List Int}{g:List Vtx}(hg:GraOK c g){n q:Nat}{v:Vtx}(hv:g[n]?=some v)(hq:some q∈pix g v):q<n:=by
 obtain⟨k,x,e,h1,h2,h3⟩:=jo hg (List.mem_of_getElem? hv) hq
 obtain rfl:=Option.some.inj e
 rcases Nat.lt_trichotomy q n with h|h|h
 ·exact h
 ·subst h
  rw[hv] at h1
  obtain rfl:=Option.some.inj h1
  omega
 ·have:=fP hg.pw h hv h1
  rw[bef_iff'] at this
  omega
where
 bef_iff' {a b:Vtx}:bef a b=true↔a.round<b.round∨(a.round=b.round∧a.author<b.author):=by
  simp only[bef,Bool.or_eq_true,Bool.and_eq_true,decide_eq_true_eq]
theorem Bp {c:List Int}{g:List Vtx}(hg:GraOK c g){u v:Vtx}{st n j q:Nat}{re:List Bool}(h:Spi g u st n j re)(hv:g[n]?=some v)(hn:re[n]?=some true)(hj:(pix g v)[j]?=some (some q)):Spi g u st n (j+1) (re.set q true):=by
 have hqm:=List.mem_of_getElem? hj
 have hqn:=Dr hg hv hqm
 have hnl:=(List.getElem?_eq_some_iff.1 hn).1
 have hqt:(re.set q true)[q]?=some true:=by rw[List.getElem?_set,if_pos rfl,if_pos (by omega)]
 have hne:∀i:Nat,i≠q→(re.set q true)[i]?=re[i]?:=fun i hi=>by rw[List.getElem?_set,if_neg (by omega)]
 refine⟨by rw[List.length_set];exact h.len,fun i x hi hr=>?_,da h.top,.inl (da hn),fun i x hi hr=>?_⟩
 ·by_cases e:i=q
  ·subst e
   exact(h.snd n v hv hn).trans (yM hg (List.mem_of_getElem? hv) hqm hi)
  ·rw[hne i e] at hr
   exact h.snd i x hi hr
 ·by_cases e:i=q
  ·subst e
   exact .inl hqn
  rw[hne i e] at hr
  rcases h.cls i x hi hr with h1|⟨rfl,h1⟩|h1
  ·exact .inl h1
  ·refine .inr (.inl ⟨rfl,fun k q' hk hp=>?_⟩)
   rcases Nat.lt_or_ge k j with hlt|hge
   ·exact da (h1 k q' hlt hp)
   ·obtain rfl:k=j:=by omega
    rw[hv] at hi
    obtain rfl:=Option.some.inj hi
    rw[hj] at hp
    obtain rfl:=Option.some.inj (Option.some.inj hp)
    exact hqt
  ·exact .inr (.inr fun q' hq'=>da (h1 q' hq'))
theorem uV {g:List Vtx}{u v:Vtx}{st n j:Nat}{re:List Bool}(h:Spi g u st n j re)(hv:g[n]?=some v)(hj:re[n]?=some false∨v.parents.length≤j):Sph g u st n re:=by
 refine⟨h.len,h.snd,h.top,fun i x hi hr=>?_⟩
 rcases h.cls i x hi hr with h1|⟨rfl,h1⟩|h1
 ·exact .inl h1
 ·rw[hv] at hi
  obtain rfl:=Option.some.inj hi
  rcases hj with hj|hj
  ·rw[hr] at hj;cases hj
  refine .inr fun q hq=>?_
  obtain⟨k,hk⟩:=List.getElem?_of_mem hq
  have hkl:=(List.getElem?_eq_some_iff.1 hk).1
  unfold pix at hkl
  rw[List.length_map] at hkl
  exact h1 k q (by omega) hk
 ·exact .inr h1
open Classical in
noncomputable def pfl (g:List Vtx) (u:Vtx):List Bool:=g.map fun v=>decide (Rv g u v)
open Classical in
theorem s9 {g:List Vtx}{u v:Vtx}{i:Nat}(h:g[i]?=some v):(pfl g u)[i]?=some (decide (Rv g u v)):=by
 rw[pfl,List.getElem?_map,h];rfl
open Classical in
theorem CD {g:List Vtx}{u:Vtx}{re:List Bool}(hl:re.length=g.length)(h:∀(i:Nat) (v:Vtx),g[i]?=some v→(re[i]?=some true↔Rv g u v)):re=pfl g u:=by
 refine List.ext_getElem? fun i=>?_
 rcases Nat.lt_or_ge i g.length with hi|hi
 ·have hv:=List.getElem?_eq_getElem hi
  have h1:=h i _ hv
  rw[s9 hv]
  rw[List.getElem?_eq_getElem (by omega)] at h1⊢
  congr 1
  rw[Bool.eq_iff_iff,decide_eq_true_iff,←h1]
  simp
 ·rw[List.getElem?_eq_none (by omega),List.getElem?_eq_none (by simpa[pfl] using hi)]
theorem Bo {c:List Int}{g:List Vtx}(hg:GraOK c g){u:Vtx}{st:Nat}(hst:g[st]?=some u){re:List Bool}(h:Sph g u st 0 re):re=pfl g u:=by
 refine CD h.len fun i v hi=>⟨h.snd i v hi,fun hr=>?_⟩
 refine nV hg (S:=fun k=>re[k]?=some true) (fun k x hk hs q hq=>?_) hr st i hst h.top hi
 rcases h.cls k x hk hs with h1|h1
 ·omega
 ·exact h1 q hq
open Classical in
theorem iY (g:List Vtx)(l:List Int)(last:Nat):∀(x:Nat) (cur:Vtx),(dwn g l last x cur).Pairwise (· < ·)∧∀w∈dwn g l last x cur,last<w∧w≤x
 |0,cur=>by simp[dwn]
 |x+1,cur=>by
  unfold dwn
  by_cases hx:x+1≤last
  ·rw[if_pos hx];simp
  rw[if_neg hx]
  have st:∀cur:Vtx,(dwn g l last x cur).Pairwise (· < ·)∧∀w∈dwn g l last x cur,last<w∧w≤x+1:=fun cur=>
   ⟨(iY g l last x cur).1,fun w hw=>⟨((iY g l last x cur).2 w hw).1,by have:=((iY g l last x cur).2 w hw).2;omega⟩⟩
  split
  ·rename_i k hk
   split
   ·obtain⟨h1,h2⟩:=iY g l last x k
    refine⟨List.pairwise_append.2 ⟨h1,List.pairwise_singleton _ _,fun a ha b hb=>?_⟩,fun w hw=>?_⟩
    ·obtain rfl:=List.mem_singleton.1 hb
     have:=h2 a ha
     omega
    ·rcases List.mem_append.1 hw with hw|hw
     ·have:=h2 w hw
      omega
     ·obtain rfl:=List.mem_singleton.1 hw
      omega
   ·exact st cur
  ·exact st cur
theorem tS (g:List Vtx)(l:List Int){w last:Nat}(hw:last<w):(chn g l w last).Pairwise (· < ·)∧∀x∈chn g l w last,last<x∧x≤w:=by
 unfold chn
 split
 ·rename_i k hk
  obtain⟨h1,h2⟩:=iY g l last (w-1) k
  refine⟨List.pairwise_append.2 ⟨h1,List.pairwise_singleton _ _,fun a ha b hb=>?_⟩,fun x hx=>?_⟩
  ·obtain rfl:=List.mem_singleton.1 hb
   have:=h2 a ha
   omega
  ·rcases List.mem_append.1 hx with hx|hx
   ·have:=h2 x hx
    omega
   ·obtain rfl:=List.mem_singleton.1 hx
    omega
 ·exact⟨List.pairwise_singleton _ _,fun x hx=>by obtain rfl:=List.mem_singleton.1 hx;omega⟩
theorem iU (c:List Int)(g:List Vtx)(l:List Int):∀n:Nat,(cmt c g l n).2≤n∧(cmt c g l n).1.Pairwise (· < ·)∧∀w∈(cmt c g l n).1,w≤(cmt c g l n).2
 |0=>by simp[cmt]
 |n+1=>by
  obtain⟨h1,h2,h3⟩:=iU c g l n
  unfold cmt
  split
  ·obtain⟨h4,h5⟩:=tS g l (w:=n+1) (last:=(cmt c g l n).2) (by omega)
   refine⟨Nat.le_refl _,List.pairwise_append.2 ⟨h2,h4,fun a ha b hb=>?_⟩,fun w hw=>?_⟩
   ·have:=h3 a ha
    have:=(h5 b hb).1
    omega
   ·rcases List.mem_append.1 hw with hw|hw
    ·have:=h3 w hw
     show w≤n+1
     omega
    ·exact(h5 w hw).2
  ·exact⟨by omega,h2,h3⟩
def rV (g:List Vtx)(l:List Int)(w:Nat)(v:Vtx):Prop:=∃k,kE g l w=some k∧Rv g k v∧2*(w:Int)-7≤v.round
open Classical in
noncomputable def wvk (g:List Vtx) (l:List Int) (ws:List Nat) (v:Vtx):Int:=match ws.find? fun w=>decide (rV g l w v) with
 |some w=>(w:Int)
 |none=>0
open Classical in
theorem mX (g:List Vtx)(l:List Int)(ws:List Nat)(w:Nat)(v:Vtx)(hp:∀w∈ws,1≤w):wvk g l (ws++[w]) v=if wvk g l ws v=0∧rV g l w v then(w:Int) else wvk g l ws v:=by
 unfold wvk
 rw[List.find?_append]
 cases h:ws.find? fun w=>decide (rV g l w v) with
 |none=>
  simp only[Option.none_or,List.find?_cons,List.find?_nil,true_and]
  by_cases hi:rV g l w v
  ·simp[hi]
  ·simp[hi]
 |some x=>
  have:=hp x (List.mem_of_find?_eq_some h)
  simp only[Option.some_or]
  rw[if_neg (by omega)]
open Classical in
theorem rU {g:List Vtx}{l:List Int}{ws:List Nat}{v:Vtx}(hp:∀w∈ws,1≤w):wvk g l ws v=0↔∀w∈ws,¬rV g l w v:=by
 unfold wvk
 cases h:ws.find? fun w=>decide (rV g l w v) with
 |none=>
  have:=List.find?_eq_none.1 h
  simp only[true_iff]
  intro w hw hi
  exact this w hw (decide_eq_true hi)
 |some x=>
  have h1:=hp x (List.mem_of_find?_eq_some h)
  have h2:rV g l x v:=by
   have:=List.find?_some h
   simpa using this
  refine⟨fun h0=>?_,fun h0=>absurd h2 (h0 x (List.mem_of_find?_eq_some h))⟩
  simp only at h0
  omega
open Classical in
theorem vg {g:List Vtx}{l:List Int}{ws:List Nat}{v:Vtx}(h:wvk g l ws v≠0):∃w∈ws,wvk g l ws v=(w:Int):=by
 unfold wvk at h⊢
 cases hf:ws.find? fun w=>decide (rV g l w v) with
 |none=>rw[hf] at h;exact absurd rfl h
 |some x=>exact⟨x,List.mem_of_find?_eq_some hf,rfl⟩
open Classical in
theorem yJ {g:List Vtx}{l:List Int}{acc:List Vtx}{w:Nat}{v:Vtx}:v∈ordW g l acc w↔v∈g∧rV g l w v∧v∉acc:=by
 unfold ordW rV
 cases h:kE g l w with
 |none=>simp
 |some k=>
  simp only[List.mem_filter,Bool.and_eq_true,decide_eq_true_eq,Option.some.injEq,exists_eq_left',and_assoc]
open Classical in
theorem nQ {g:List Vtx}{l:List Int}:∀{ws:List Nat} {acc:List Vtx} {v:Vtx},v∈ordTo g l acc ws↔v∈acc∨(v∈g∧∃w∈ws,rV g l w v)
 |[],acc,v=>by simp[ordTo]
 |w::ws,acc,v=>by
  rw[mw,nQ]
  simp only[List.mem_append,yJ,List.mem_cons,exists_eq_or_imp]
  constructor
  ·rintro((h|⟨h1,h2,h3⟩)|⟨h1,h2⟩)
   ·exact .inl h
   ·exact .inr ⟨h1,.inl h2⟩
   ·exact .inr ⟨h1,.inr h2⟩
  ·rintro(h|⟨h1,h2|h2⟩)
   ·exact .inl (.inl h)
   ·by_cases hm:v∈acc
    ·exact .inl (.inl hm)
    ·exact .inl (.inr ⟨h1,h2,hm⟩)
   ·exact .inr ⟨h1,h2⟩
open Classical in
theorem s6 (g:List Vtx)(l:List Int)(ws:List Nat)(hp:∀w∈ws,1≤w)(hn:ws.Pairwise (· < ·)):ordTo g l [] ws=ws.flatMap fun w:Nat=>g.filter fun v=>decide (wvk g l ws v=(w:Int)):=by
 induction ws using ey with
 |h0=>rfl
 |h ws w ih=>
  have hp':∀x∈ws,1≤x:=fun x hx=>hp x (List.mem_append.2 (.inl hx))
  obtain⟨hn1,-,hn2⟩:=List.pairwise_append.1 hn
  have hlt:∀x∈ws,x<w:=fun x hx=>hn2 x hx w (by simp)
  have hw1:1≤w:=hp w (by simp)
  rw[v7,List.flatMap_append,ih hp' hn1]
  have e1:∀x∈ws,(g.filter fun v=>decide (wvk g l (ws++[w]) v=(x:Int)))=g.filter fun v=>decide (wvk g l ws v=(x:Int)):=fun x hx=>by
   refine List.filter_congr fun v _=>?_
   rw[mX g l ws w v hp']
   have hx1:=hp' x hx
   have hx2:=hlt x hx
   split
   ·rename_i h
    rw[h.1,decide_eq_false (by omega),decide_eq_false (by omega)]
   ·rfl
  rw[show (ws.flatMap fun x:Nat=>g.filter fun v=>decide (wvk g l (ws++[w]) v=(x:Int)))=ws.flatMap fun x:Nat=>g.filter fun v=>decide (wvk g l ws v=(x:Int)) from flat_congr e1]
  rw[←ih hp' hn1]
  show ordTo g l [] ws++ordW g l (ordTo g l [] ws) w=_
  congr 1
  rw[List.flatMap_cons,List.flatMap_nil,List.append_nil]
  have e2:∀v,wvk g l (ws++[w]) v=(w:Int)↔rV g l w v∧∀x∈ws,¬rV g l x v:=fun v=>by
   rw[mX g l ws w v hp']
   constructor
   ·intro h
    split at h
    ·rename_i h2
     exact⟨h2.2,(rU hp').1 h2.1⟩
    ·exfalso
     obtain⟨x,hx,hxe⟩:=vg (g:=g) (l:=l) (ws:=ws) (v:=v) (by omega)
     have:=hlt x hx
     omega
   ·rintro⟨h1,h2⟩
    rw[if_pos ⟨(rU hp').2 h2,h1⟩]
  unfold ordW
  cases hl:kE g l w with
  |none=>
   symm
   rw[List.filter_eq_nil_iff]
   intro v _ h
   obtain⟨⟨k,hk,-⟩,-⟩:=(e2 v).1 (of_decide_eq_true h)
   rw[hl] at hk
   cases hk
  |some k=>
   refine List.filter_congr fun v hv=>?_
   rw[Bool.eq_iff_iff]
   simp only[Bool.and_eq_true,decide_eq_true_eq,e2,nQ,rV,hl,Option.some.injEq,exists_eq_left',List.not_mem_nil,false_or,not_and,not_exists,and_assoc]
   constructor
   ·rintro⟨h1,h2,h3⟩
    exact⟨h1,h2,fun x hx k hk hr hd=>h3 hv x hx k hk hr hd⟩
   ·rintro⟨h1,h2,h3⟩
    exact⟨h1,h2,fun _ x hx k hk hr hd=>h3 x hx k hk hr hd⟩
where
 flat_congr {α β:Type} {l:List α} {f f':α→List β} (h:∀x∈l,f x=f' x):l.flatMap f=l.flatMap f':=by
  induction l with
  |nil=>rfl
  |cons x l ih=>rw[List.flatMap_cons,List.flatMap_cons,h x (by simp),ih fun y hy=>h y (by simp[hy])]
theorem kC {α β:Type}{f:α→List β}(p:α→Bool):∀(l:List α),(∀x∈l,p x=false→f x=[])→l.flatMap f=(l.filter p).flatMap f
 |[],_=>rfl
 |x::l,h=>by
  rw[List.flatMap_cons,kC p l fun y hy=>h y (by simp[hy]),List.filter_cons]
  cases hp:p x
  ·rw[h x (by simp) hp];rfl
  ·rfl
theorem wL {a b:List Nat}(ha:a.Pairwise (· < ·))(hb:b.Pairwise (· < ·))(h:∀x,x∈a↔x∈b):a=b:=by
 induction a generalizing b with
 |nil=>
  cases b with
  |nil=>rfl
  |cons y b=>exact absurd ((h y).2 (by simp)) (by simp)
 |cons x a ih=>
  obtain⟨a1,a2⟩:=List.pairwise_cons.1 ha
  cases b with
  |nil=>exact absurd ((h x).1 (by simp)) (by simp)
  |cons y b=>
   obtain⟨b1,b2⟩:=List.pairwise_cons.1 hb
   have e:x=y:=by
    rcases Nat.lt_trichotomy x y with hlt|e|hlt
    ·rcases List.mem_cons.1 ((h x).1 (by simp)) with e|hm
     ·exact e
     ·have:=b1 x hm;omega
    ·exact e
    ·rcases List.mem_cons.1 ((h y).2 (by simp)) with e|hm
     ·exact e.symm
     ·have:=a1 y hm;omega
   subst e
   congr 1
   refine ih a2 b2 fun z=>?_
   have hz:=h z
   simp only[List.mem_cons] at hz
   constructor
   ·intro hm
    have:=a1 z hm
    rcases hz.1 (.inr hm) with e|e
    ·omega
    ·exact e
   ·intro hm
    have:=b1 z hm
    rcases hz.2 (.inr hm) with e|e
    ·omega
    ·exact e
open Classical in
theorem vZ {c:List Int}{g:List Vtx}(hc:comV c=true)(l:List Int):ordG c g l=(List.range' 1 l.length).flatMap fun w:Nat=>g.filter fun v=>decide (wvk g l (cmt c g l l.length).1 v=(w:Int)):=by
 have h1:=gJ (g:=g) hc l l.length
 obtain⟨h2,h3,h4⟩:=iU c g l l.length
 unfold ordG
 rw[s6 g l _ (fun w hw=>(h1 w hw).1) h3]
 rw[kC (fun w=>decide (w∈(cmt c g l l.length).1)) (List.range' 1 l.length)]
 ·congr 1
  refine wL h3 ((List.pairwise_lt_range').filter _) fun w=>?_
  rw[List.mem_filter,List.mem_range'_1,decide_eq_true_iff]
  refine⟨fun h=>⟨?_,h⟩,fun h=>h.2⟩
  have:=h1 w h
  omega
 ·intro w hw hn
  have hw:=List.mem_range'_1.1 hw
  rw[List.filter_eq_nil_iff]
  intro v _ h
  have h:=of_decide_eq_true h
  obtain⟨x,hx,hxe⟩:=vg (g:=g) (l:=l) (ws:=(cmt c g l l.length).1) (v:=v) (by omega)
  have:x=w:=by omega
  subst this
  exact of_decide_eq_false hn hx
def rW (xs:List Int)(w:Int)(n:Nat):List Int:=((List.range n).filter fun i=>xs.getD i 0==w).map fun i:Nat=>(i:Int)
theorem ze {xs:List Int}{w x:Int}{n:Nat}(h:xs[n]?=some x):rW xs w (n+1)=if x=w then rW xs w n++[(n:Int)] else rW xs w n:=by
 have e:xs.getD n 0=x:=by rw[List.getD_eq_getElem?_getD,h];rfl
 simp only[rW,List.range_succ,List.map_append,List.filter_append,List.filter_cons,List.filter_nil,e]
 by_cases hx:x=w
 ·simp[hx]
 ·simp[hx]
def eK (xs:List Int)(m:Nat):List Int:=(List.range' 1 m).flatMap fun w:Nat=>rW xs (w:Int) xs.length
theorem mH (xs:List Int)(m:Nat):eK xs (m+1)=eK xs m++rW xs ((m+1:Nat):Int) xs.length:=by
 unfold eK
 rw[List.range'_concat,List.flatMap_append,List.flatMap_cons,List.flatMap_nil,List.append_nil,Nat.one_mul,Nat.add_comm 1 m]
def dP (v:Vtx):Slt:=⟨v.round,v.author⟩
open Classical in
theorem Bk {c:List Int}{g:List Vtx}(hc:comV c=true)(l:List Int):(eK (g.map (wvk g l (cmt c g l l.length).1)) l.length).map (fun i=>dP (g.getD i.toNat v0))=(ordG c g l).map dP:=by
 rw[vZ hc,eK,List.map_flatMap,List.map_flatMap]
 congr 1
 funext w
 rw[List.length_map,rW,List.map_map]
 conv=>rhs;rw[show g=(List.range g.length).map fun i=>g.getD i v0 from range_get g]
 rw[List.filter_map,List.map_map]
 simp only[←range_get g]
 have e:((List.range g.length).filter fun i=>(g.map (wvk g l (cmt c g l l.length).1)).getD i 0==(w:Int))=(List.range g.length).filter ((fun v=>decide (wvk g l (cmt c g l l.length).1 v=(w:Int)))∘fun i=>g.getD i v0):=by
  refine List.filter_congr fun i hi=>?_
  have hi:=List.mem_range.1 hi
  rw[Bool.eq_iff_iff]
  simp[List.getD_eq_getElem?_getD,List.getElem?_eq_getElem hi]
 rw[e]
 refine List.map_congr_left fun i _=>?_
 simp
where
 range_get (g:List Vtx):g=(List.range g.length).map fun i=>g.getD i v0:=by
  refine List.ext_getElem (by simp) fun i h1 h2=>?_
  simp[List.getD_eq_getElem?_getD,List.getElem?_eq_getElem h1]
end Go.Proofs.YthmfppknagbkeaaGreatDoor.Am
namespace Go.Proofs.YthmfppknagbkeaaGreatDoor.Am
open Go
attribute [local irreducible] Mk ba Ari di jQ f4 bh bV eY d6 At aj
set_option maxRecDepth 10000
theorem EX (c:List Int)(hc:comV c=true):aj Tryz.prog 204 [.lst (.int .i64) c] [] (.int .i64 (wE c)) []:=by
 have h1:=fU hc
 have h3:(kJ c).tdiv 3+1=wE c:=rfl
 have h2:=jy hc
 refine ab ak Tryz.func204 rfl rfl false 0 4 rfl rfl rfl rfl fun K hK hb1 hb2=>?_;simp only[af,enc,Nat.reduceAdd]
 (repeat' first|refine st ?_|refine sa fun xe hxe=>?_|refine sb (fun hq=>?_) fun hq=>?_|refine cr (zp _ hc) ?_|exact True.intro)
 exact⟨rfl,rfl⟩
theorem Dq {c:List Int}{g:List Vtx}(hg:GraOK c g){n j:Nat}{v:Vtx}{a:Int}(hv:g[n]?=some v)(hj:v.parents[j]?=some a):∃q:Nat,(pix g v)[j]?=some (some q)∧kM g (v.round-1) a=(q:Int)∧q<g.length:=by
 have h0:(pix g v)[j]?=some (g.findIdx? (cm (v.round-1) a)):=by rw[pix,List.getElem?_map,hj];rfl
 obtain⟨k,x,e,h1,-,-⟩:=jo hg (List.mem_of_getElem? hv) (List.mem_of_getElem? h0)
 refine⟨k,by rw[h0,e],?_,(List.getElem?_eq_some_iff.1 h1).1⟩
 rw[kM,e]
theorem s8 (c:List Int)(g:List Vtx)(hg:GraOK c g)(hl:g.length≤1000000)(sa:Nat)(u:Vtx)(hst:g[sa]?=some u):aj Tryz.prog 178 [.lst .vtx g,.int .i64 (sa:Int)] [] (.lst .bool (pfl g u)) []:=by
 have hsl:=(List.getElem?_eq_some_iff.1 hst).1
 have h7:=(au.1 hg.com).2
 have h0:=EV hst
 have hrl:(List.replicate g.length false).length=g.length:=by simp
 have hre:(List.replicate g.length false)[sa]?=some false:=by rw[List.getElem?_replicate,if_pos hsl]
 have hre2:(List.replicate ((g.length:Int).toNat) false)[sa]?=some false:=hre
 refine ab ak Tryz.func178 rfl rfl true 0 4 rfl rfl rfl rfl fun K hK hb1 hb2=>?_;simp only[af,enc,Nat.reduceAdd]
 clear hb1 hb2
 (repeat' first|refine st ?_|refine sa fun xe hxe=>?_|refine sb (fun hq=>?_) fun hq=>?_|exact True.intro)
 refine ah hK [] [0,5,6] (fun x:Nat×List Bool=>⟨[(0,.lst .vtx g),(5,.ref 4),(6,.int .i64 ((x.1:Int)-1))],[(4,.row 4 .bool x.2)],5⟩) (fun x=>Sph g u sa x.1 x.2∧x.1≤sa+1) (fun x=>x.1) (sa+1,(List.replicate g.length false).set sa true) ⟨h0,Nat.le_refl _⟩ ?_ ?_
 ·dsimp only
  rw[show (((sa+1:Nat):Int)-1)=(sa:Int) by omega]
  rfl
 rintro⟨m,re⟩ ⟨hS,hm⟩
 dsimp only at hS hm⊢
 have hrel:=hS.len
 cases m with
 |zero=>
  have he:=Bo hg hst hS
  (repeat' first|refine st ?_|refine sa fun xe hxe=>?_|refine sb (fun hq=>?_) fun hq=>?_|exact True.intro)
  exact⟨by rw[he],rfl⟩
 |succ m=>
  rw[show (((m+1:Nat):Int)-1)=(m:Int) by omega]
  have hI:=DH hS
  have hml:m<g.length:=by omega
  have hv:g[m]?=some g[m]:=List.getElem?_eq_getElem hml
  have hvr:=(bl (hg.vtx _ (List.mem_of_getElem? hv))).1
  have hpl:=fj (bl (hg.vtx _ (List.mem_of_getElem? hv))).2.2.1
  generalize g[m]=v at *
  clear hS
  (repeat' first|refine st ?_|refine sa fun xe hxe=>?_|refine sb (fun hq=>?_) fun hq=>?_|exact True.intro)
  refine ah hK [] [0,5,6,7] (fun y:Nat×List Bool=>⟨[(0,.lst .vtx g),(5,.ref 4),(6,.int .i64 (m:Int)),(7,.int .i64 (y.1:Int))],[(4,.row 4 .bool y.2)],5⟩) (fun y=>Spi g u sa m y.1 y.2∧y.1≤v.parents.length) (fun y=>v.parents.length-y.1) (0,re) ⟨hI,Nat.zero_le _⟩ rfl ?_
  rintro⟨j,rf⟩ ⟨hJ,hj⟩
  dsimp only at hJ hj⊢
  have hrl2:=hJ.len
  have hbm:rf[m]?=some rf[m]:=List.getElem?_eq_getElem (by omega)
  by_cases hlt:j<v.parents.length
  ·cases hb:rf[m] with
   |false=>
    rw[hb] at hbm
    have hS2:=uV hJ hv (.inl hbm)
    (repeat' first|refine st ?_|refine sa fun xe hxe=>?_|refine sb (fun hq=>?_) fun hq=>?_|exact True.intro)
    exact⟨(m,rf),⟨hS2,by dsimp only;omega⟩,by dsimp only;omega,rfl⟩
   |true=>
    rw[hb] at hbm
    have hxe:v.parents[j]?=some v.parents[j]:=List.getElem?_eq_getElem hlt
    generalize v.parents[j]=a at *
    obtain⟨q,q1,q2,q3⟩:=Dq hg hv hxe
    have hF:=oN g (v.round-1) a
    rw[q2] at hF
    have hS2:=Bp hg hJ hv hbm q1
    have hq:rf[q]?=some rf[q]:=List.getElem?_eq_getElem (by omega)
    (repeat' first|refine st ?_|refine sa fun xe hxe=>?_|refine sb (fun hq=>?_) fun hq=>?_|refine cr (hF) ?_|exact True.intro)
    exact⟨(j+1,rf.set q true),⟨hS2,by dsimp only;omega⟩,by dsimp only;omega,rfl⟩
  ·have hS2:=uV hJ hv (.inr (by omega))
   cases hb:rf[m] with
   |false=>
    rw[hb] at hbm
    (repeat' first|refine st ?_|refine sa fun xe hxe=>?_|refine sb (fun hq=>?_) fun hq=>?_|exact True.intro)
    exact⟨(m,rf),⟨hS2,by dsimp only;omega⟩,by dsimp only;omega,rfl⟩
   |true=>
    rw[hb] at hbm
    (repeat' first|refine st ?_|refine sa fun xe hxe=>?_|refine sb (fun hq=>?_) fun hq=>?_|exact True.intro)
    exact⟨(m,rf),⟨hS2,by dsimp only;omega⟩,by dsimp only;omega,rfl⟩
theorem hY {l:List Int}{w:Nat}(h1:1≤w)(h2:w≤l.length):l[((w:Int)-1).toNat]?=some (dd l w):=by
 rw[show ((w:Int)-1).toNat=w-1 by omega,dd,List.getD_eq_getElem?_getD,List.getElem?_eq_getElem (by omega)]
 rfl
def yk (g:List Vtx)(l:List Int)(w:Nat):Int:=kM g (2*(w:Int)-1) (dd l w)
theorem ia {c:List Int}{g:List Vtx}(hg:GraOK c g){l:List Int}{w:Nat}{k:Vtx}(h:kE g l w=some k):∃i:Nat,yk g l w=(i:Int)∧g[i]?=some k:=by
 obtain⟨h1,h2,h3⟩:=mf h
 obtain⟨i,hi⟩:=List.getElem?_of_mem h1
 have:=iI hg hi
 rw[h2,h3] at this
 exact⟨i,by rw[yk,kM,this],hi⟩
theorem nG {g:List Vtx}{l:List Int}{w:Nat}(h:kE g l w=none):yk g l w= -1:=by
 have:g.findIdx? (cm (2*(w:Int)-1) (dd l w))=none:=by
  rw[List.findIdx?_eq_none_iff]
  intro x hx
  have:=List.find?_eq_none.1 h x hx
  simpa using this
 rw[yk,kM,this]
theorem uv (g:List Vtx)(l:List Int)(w:Nat)(h1:1≤w)(h2:w≤l.length)(h3:w≤1000000):aj Tryz.prog 179 [.lst .vtx g,.lst (.int .i64) l,.int .i64 (w:Int)] [] (.int .i64 (yk g l w)) []:=by
 have hx:=hY h1 h2
 have hF:=oN g (2*(w:Int)-1) (dd l w)
 refine ab ak Tryz.func179 rfl rfl false 0 4 rfl rfl rfl rfl fun K hK hb1 hb2=>?_;simp only[af,enc,Nat.reduceAdd]
 clear hb1 hb2
 (repeat' first|refine st ?_|refine sa fun xe hxe=>?_|refine sb (fun hq=>?_) fun hq=>?_|refine cr (hF) ?_|exact True.intro)
 exact⟨rfl,rfl⟩
theorem zF {g:List Vtx}{l:List Int}{w i:Nat}{v:Vtx}(h:g[i]?=some v):m4 (g.take (i+1)) l w=if(v.round==2*(w:Int) && v.parents.contains (dd l w))=true then m4 (g.take i) l w++[v.author] else m4 (g.take i) l w:=by
 have e:g.take (i+1)=g.take i++[v]:=by
  obtain⟨hi,rfl⟩:=List.getElem?_eq_some_iff.1 h
  exact List.take_succ_eq_append_getElem hi
 rw[m4,e,List.filter_append,List.map_append,List.filter_cons,List.filter_nil]
 split
 ·rfl
 ·rw[List.map_nil,List.append_nil];rfl
theorem BE (g:List Vtx)(l:List Int)(w:Nat):(m4 g l w).length≤g.length:=by
 unfold m4
 rw[List.length_map]
 exact List.length_filter_le _ _
theorem E3 (c:List Int)(g:List Vtx)(l:List Int)(w:Nat)(hg:GraOK c g)(hl:g.length≤1000000)(h1:1≤w)(h2:w≤l.length)(h3:w≤1000000):aj Tryz.prog 203 [.lst (.int .i64) c,.lst .vtx g,.lst (.int .i64) l,.int .i64 (w:Int)] [] (.int .i64 (kR c g l w)) []:=by
 have hx:=hY h1 h2
 have hL:=uv g l w h1 h2 h3
 have hcm:=(au.1 hg.com).1
 refine ab ak Tryz.func203 rfl rfl false 0 4 rfl rfl rfl rfl fun K hK hb1 hb2=>?_;simp only[af,enc,Nat.reduceAdd]
 clear hb1 hb2
 (repeat' first|refine st ?_|refine sa fun xe hxe=>?_|refine sb (fun hq=>?_) fun hq=>?_|exact True.intro)
 refine ah hK [] [0,1,2,3,9,10] (fun i:Nat=>⟨[(0,.lst (.int .i64) c),(1,.lst .vtx g),(2,.lst (.int .i64) l),(3,.int .i64 (w:Int)),(9,.int .i64 (jO c (m4 (g.take i) l w))),(10,.int .i64 (i:Int))],[],4⟩) (fun i=>i≤g.length∧(0<i→(kE g l w).isSome=true)) (fun i=>g.length-i) 0 ⟨Nat.zero_le _,fun h=>absurd h (Nat.lt_irrefl 0)⟩ rfl ?_
 rintro i ⟨hi,hs⟩
 have hwb:=pP (ms:=m4 (g.take i) l w) hg.com
 have hwl:=BE (g.take i) l w
 rw[List.length_take] at hwl
 cases hk:kE g l w with
 |none=>
  rw[nG hk] at hL
  have hi0:i=0:=by
   rcases Nat.eq_zero_or_pos i with h|h
   ·exact h
   ·have:=hs h
    rw[hk] at this
    cases this
  subst hi0
  have he:kR c g l w=0:=by rw[kR,hk];rfl
  rw[he]
  have hz:jO c (m4 (g.take 0) l w)=0:=rfl
  rw[hz]
  by_cases hlt:0<g.length
  ·(repeat' first|refine st ?_|refine sa fun xe hxe=>?_|refine sb (fun hq=>?_) fun hq=>?_|refine cr (hL) ?_|exact True.intro)
   exact⟨rfl,rfl⟩
  ·(repeat' first|refine st ?_|refine sa fun xe hxe=>?_|refine sb (fun hq=>?_) fun hq=>?_|refine cr (hL) ?_|exact True.intro)
   exact⟨rfl,rfl⟩
 |some k=>
  obtain⟨n,hn,-⟩:=ia hg hk
  rw[hn] at hL
  have he:kR c g l w=jO c (m4 g l w):=by rw[kR,hk];rfl
  by_cases hlt:i<g.length
  ·have hxe:g[i]?=some g[i]:=List.getElem?_eq_getElem hlt
   have hsn:=zF (l:=l) (w:=w) hxe
   obtain⟨hvr,hva,-⟩:=bl (hg.vtx _ (List.mem_of_getElem? hxe))
   generalize g[i]=v at *
   have hH:=xU v.parents (dd l w)
   cases h4:v.round==2*(w:Int)
   ·rw[h4,Bool.false_and,if_neg (by simp)] at hsn
    (repeat' first|refine st ?_|refine sa fun xe hxe=>?_|refine sb (fun hq=>?_) fun hq=>?_|refine cr (hL) ?_|refine cr (hH) ?_|exact True.intro)
    exact⟨i+1,⟨by omega,fun _=>rfl⟩,by omega,by rw[hsn];rfl⟩
   ·cases h5:v.parents.contains (dd l w)
    ·rw[h4,h5,if_neg (by simp)] at hsn
     rw[h5] at hH
     (repeat' first|refine st ?_|refine sa fun xe hxe=>?_|refine sb (fun hq=>?_) fun hq=>?_|refine cr (hL) ?_|refine cr (hH) ?_|exact True.intro)
     exact⟨i+1,⟨by omega,fun _=>rfl⟩,by omega,by rw[hsn];rfl⟩
    ·rw[h4,h5,show (true && true)=true from rfl,if_pos rfl] at hsn
     rw[h5] at hH
     have hwn:=mW c (m4 (g.take i) l w) v.author
     have hca:c[v.author.toNat]?=some (c.getD v.author.toNat 0):=by rw[List.getD_eq_getElem?_getD,List.getElem?_eq_getElem (by omega)];rfl
     have hcb:=hcm _ (List.mem_of_getElem? hca)
     generalize c.getD v.author.toNat 0=cx at *
     generalize jO c (m4 (g.take i) l w)=wx at *
     (repeat' first|refine st ?_|refine sa fun xe hxe=>?_|refine sb (fun hq=>?_) fun hq=>?_|refine cr (hL) ?_|refine cr (hH) ?_|exact True.intro)
     exact⟨i+1,⟨by omega,fun _=>rfl⟩,by omega,by rw[hsn,hwn];rfl⟩
  ·rw[List.take_of_length_le (by omega)]
   (repeat' first|refine st ?_|refine sa fun xe hxe=>?_|refine sb (fun hq=>?_) fun hq=>?_|refine cr (hL) ?_|exact True.intro)
   exact⟨by rw[he],rfl⟩
theorem Dz {n i:Nat}(h:i<n):((List.range n).map some)[i]?=some (some i):=by
 rw[List.getElem?_map,List.getElem?_range h];rfl
theorem tr {α:Type}(l:List α):l=[]∨∃l' x,l=l'++[x]:=by
 rcases List.eq_nil_or_concat l with h|⟨l',x,h⟩
 ·exact .inl h
 ·exact .inr ⟨l',x,by rw[h,List.concat_eq_append]⟩
theorem oX (c:List Int)(g:List Vtx)(hg:GraOK c g)(hl:g.length≤1000000)(sa:Nat)(u:Vtx)(hst:g[sa]?=some u):aj Tryz.prog 144 [.ptr 4 0,.hpo 0 (some sa)] (gR c (bn g)) (.lst (.int .i64) (pst g u)) (gR c (bn g)):=by
 have hn:=(ct g).1
 have hsl:=(List.getElem?_eq_some_iff.1 hst).1
 have h7:=(au.1 hg.com).2
 obtain⟨p0,hp0⟩:=gc hst
 have hrl:((List.range (bn g).nodes.length).map some).length=g.length:=by simp[hn]
 have h0:=Ep hg hst
 have hre0:(List.replicate g.length false)[sa]?=some false:=by rw[List.getElem?_replicate,if_pos hsl]
 have hr0l:(List.replicate g.length false).length=g.length:=by simp
 have ht0:((List.replicate g.length false).set sa true)[sa]?=some true:=by rw[List.getElem?_set,if_pos rfl,if_pos (by omega)]
 have hix:0≤(sa:Int)∧(sa:Int)<((List.replicate ((((List.range (bn g).nodes.length).map some).length:Int).toNat) false).length:Nat):=by rw[hrl,List.length_replicate];omega
 have hfit:fH 1 (((((List.range (bn g).nodes.length).map some).length:Nat):Int).toNat):=by rw[hrl];unfold fH;omega
 have hre2:(List.replicate ((((List.range (bn g).nodes.length).map some).length:Int).toNat) false)[sa]?=some false:=by rw[hrl];exact hre0
 refine ab ce Tryz.func144 rfl rfl true 2 6 rfl rfl rfl rfl fun K hK hb1 hb2=>?_;simp only[af,enc,Nat.reduceAdd]
 clear hb1 hb2
 (repeat' first|refine eM ?_|refine sa fun xe hxe=>?_|refine sb (fun hq=>?_) fun hq=>?_|exact True.intro)
 refine ah hK [] [5,6] (fun x:List Bool×List (Option Nat)=>⟨[(5,.ref 6),(6,.ref 7)],Ag c (bn g) (.row 4 .bool x.1)++[(7,.row 166 (.hp 0) x.2)],8⟩) (fun x=>Dfs g u g.length 0 x.1 x.2∧x.1[sa]?=some true∧x.2.length+x.1.count false≤g.length+1) (fun x=>2*x.1.count false+x.2.length) ((List.replicate g.length false).set sa true,[some sa]) ⟨h0,ht0,?_⟩ (by simp only[hrl];rfl) ?_
 ·have:=ow hre0
  simp only[List.count_replicate_self] at this
  simp only[List.length_singleton]
  omega
 rintro⟨re,wt⟩ ⟨hD,hS,hc⟩
 dsimp only at hD hS hc⊢
 have hrel:=hD.len
 rcases tr wt with rfl|⟨wt,o,rfl⟩
 ·have hfin:=wr hrel fun i v hi=>zY hg hst hD hS hi
  have hnil:¬(0:Int)<((([]:List (Ty.hp 0).den).length:Nat):Int):=by simp
  (repeat' first|refine eM ?_|refine sa fun xe hxe=>?_|refine sb (fun hq=>?_) fun hq=>?_|exact True.intro)
  refine ah hK [] [10,70,71,72] (fun i:Nat=>⟨[(10,.ref 6),(70,.ref 7),(71,.int .i64 g.length),(72,.int .i64 (i:Int))],Ag c (bn g) (.row 3 (.int .i64) (jJ re i))++[(7,.row 4 .bool re)],8⟩) (fun i=>i≤g.length) (fun i=>g.length-i) 0 (Nat.zero_le _) (by simp only[hrel];rfl) ?_
  intro i hi
  have htl:=wq re i
  by_cases hlt:i<g.length
  ·have hxe:re[i]?=some re[i]:=List.getElem?_eq_getElem (by omega)
   have hsn:=tB hxe
   cases hb:re[i] with
   |false=>
    rw[hb] at hxe hsn
    rw[if_neg (by simp)] at hsn
    (repeat' first|refine eM ?_|refine sa fun xe hxe=>?_|refine sb (fun hq=>?_) fun hq=>?_|exact True.intro)
    exact⟨i+1,by omega,by omega,by rw[hsn];rfl⟩
   |true=>
    rw[hb] at hxe hsn
    rw[if_pos rfl] at hsn
    (repeat' first|refine eM ?_|refine sa fun xe hxe=>?_|refine sb (fun hq=>?_) fun hq=>?_|exact True.intro)
    exact⟨i+1,by omega,by omega,by rw[hsn];rfl⟩
  ·obtain rfl:i=g.length:=by omega
   (repeat' first|refine eM ?_|refine sa fun xe hxe=>?_|refine sb (fun hq=>?_) fun hq=>?_|exact True.intro)
   exact⟨by rw[hfin],rfl⟩
 ·obtain⟨q,rfl,hq⟩:=hD.wtg o (by simp)
  have hql:q<g.length:=by have:=(List.getElem?_eq_some_iff.1 hq).1;omega
  obtain⟨v,hv⟩:∃v,g[q]?=some v:=⟨_,List.getElem?_eq_getElem hql⟩
  obtain⟨p,hp,hrow⟩:=qJ hg hv
  have hD2:=zZ hD (List.getElem?_eq_none (Nat.le_refl _))
  have hwl:(wt++[some q]).length=wt.length+1:=by simp
  have hwx:(wt++[some q])[((((wt++[some q]).length:Nat):Int)-1).toNat]?=some (some q):=by
   rw[hwl,show (((wt.length+1:Nat):Int)-1).toNat=wt.length by omega];simp
  have hwt:(wt++[some q]).take ((((wt++[some q]).length:Nat):Int)-1).toNat=wt:=by
   rw[hwl,show (((wt.length+1:Nat):Int)-1).toNat=wt.length by omega];simp
  have hwc:wt.length+1+re.count false≤g.length+1:=by rw[hwl] at hc;exact hc
  clear hD hc
  generalize wt++[some q]=W at *
  have hcut:sw W none (some (.int .i64 ((W.length:Int)-1))) 0 ((W.length:Int)-1).toNat=wt:=hwt
  rcases hrow with⟨hpn,rfl⟩|⟨r,rfl,hrow⟩
  ·have hnx:=qg hD2 hv (by rw[hpn];simp)
   (repeat' first|refine eM ?_|refine sa fun xe hxe=>?_|refine sb (fun hq=>?_) fun hq=>?_|exact True.intro)
   refine ah hK [] [5,6,44,45,46] (fun j:Nat=>⟨[(5,.ref 6),(6,.ref 7),(44,.hro 1 none),(45,.int .i64 0),(46,.int .i64 (j:Int))],Ag c (bn g) (.row 4 .bool re)++[(7,.row 166 (.hp 0) wt)],8⟩) (fun j=>j=0) (fun j=>j) 0 rfl (by simp only[hcut];rfl) ?_
   rintro j rfl
   (repeat' first|refine eM ?_|refine sa fun xe hxe=>?_|refine sb (fun hq=>?_) fun hq=>?_|exact True.intro)
   exact⟨(re,wt),⟨hnx,hS,by dsimp only;omega⟩,by dsimp only;omega,rfl⟩
  ·have hpxl:(pix g v).length=v.parents.length:=by simp[pix]
   have hpl:=fj (bl (hg.vtx v (List.mem_of_getElem? hv))).2.2.1
   (repeat' first|refine eM ?_|refine sa fun xe hxe=>?_|refine sb (fun hq=>?_) fun hq=>?_|exact True.intro)
   refine ah hK [] [5,6,44,45,46] (fun y:Nat×List Bool×List (Option Nat)=>⟨[(5,.ref 6),(6,.ref 7),(44,.hro 1 (some r)),(45,.int .i64 (pix g v).length),(46,.int .i64 (y.1:Int))],Ag c (bn g) (.row 4 .bool y.2.1)++[(7,.row 166 (.hp 0) y.2.2)],8⟩) (fun y=>Dfs g u q y.1 y.2.1 y.2.2∧y.2.1[sa]?=some true∧y.1≤(pix g v).length∧y.2.2.length+y.2.1.count false=wt.length+re.count false∧y.2.1.count false≤re.count false) (fun y=>(pix g v).length-y.1) (0,re,wt) ⟨hD2,hS,Nat.zero_le _,rfl,Nat.le_refl _⟩ (by simp only[hcut];rfl) ?_
   rintro⟨j,rf,wf⟩ ⟨hJ,hJs,hj,hjc,hjm⟩
   dsimp only at hJ hJs hj hjc hjm⊢
   have hrl2:=hJ.len
   by_cases hlt:j<(pix g v).length
   ·have hxe:(pix g v)[j]?=some (pix g v)[j]:=List.getElem?_eq_getElem hlt
    obtain⟨q',x',e',hv',-,-⟩:=jo hg (List.mem_of_getElem? hv) (List.mem_of_getElem? hxe)
    rw[e'] at hxe
    obtain⟨p',hp'⟩:=gc hv'
    have hq'l:=(List.getElem?_eq_some_iff.1 hv').1
    have hbq:rf[q']?=some rf[q']:=List.getElem?_eq_getElem (by omega)
    have hix2:0≤(q':Int)∧(q':Int)<(rf.length:Nat):=by omega
    cases hb:rf[q'] with
    |true=>
     rw[hb] at hbq
     have hsk:=xf hJ hv hxe hbq
     (repeat' first|refine eM ?_|refine sa fun xe hxe=>?_|refine sb (fun hq=>?_) fun hq=>?_|exact True.intro)
     exact⟨(j+1,rf,wf),⟨hsk,hJs,by dsimp only;omega,hjc,hjm⟩,by dsimp only;omega,rfl⟩
    |false=>
     rw[hb] at hbq
     have hpu:=xd hg hJ hv hxe hbq
     have hcs:=ow hbq
     (repeat' first|refine eM ?_|refine sa fun xe hxe=>?_|refine sb (fun hq=>?_) fun hq=>?_|exact True.intro)
     exact⟨(j+1,rf.set q' true,wf++[some q']),⟨hpu,da hJs,by dsimp only;omega,by dsimp only;rw[List.length_append];simp only[List.length_cons,List.length_nil];omega,by dsimp only;omega⟩,by dsimp only;omega,rfl⟩
   ·have hnx:=qg hJ hv (by omega)
    (repeat' first|refine eM ?_|refine sa fun xe hxe=>?_|refine sb (fun hq=>?_) fun hq=>?_|exact True.intro)
    exact⟨(rf,wf),⟨hnx,hJs,by dsimp only;omega⟩,by dsimp only;omega,rfl⟩

end Go.Proofs.YthmfppknagbkeaaGreatDoor.Am
