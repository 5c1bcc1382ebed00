/- Runs: leaders, faulty members, pairs of proposals: what the functions give. Runs: tables of graphs, parents that are known. Runs: graphs of members, copies: what the program's functions give. Runs: clones of proposals, views that cover. Runs: parents that are known. Runs: clones of lists of numbers (the empty ones by the shelf). Runs: a run is opened. The exact laws' own functions on lists of numbers and vertices. Runs: the vertices of a graph's table; copies of proposals; a run as it is handed back. Runs: what is handed back; new runs, valid runs. -/
import Derived.Shelf.Slices.Clone
import Derived.Test.YthmfppknagbkeaaGreatPL6
set_option linter.unusedSimpArgs false
set_option linter.unusedVariables false
set_option maxHeartbeats 1000000
namespace Go.Proofs.YthmfppknagbkeaaGreat.Am
open Go
attribute [local irreducible] Mk bS Ari eQ pS kR cw eG jf jg At ai
set_option maxRecDepth 10000
theorem FP (c l:List Int):ai Tryz.prog 134 [.lst (.int .i64) c,.lst (.int .i64) l] [] (.bool (leaS c l)) []:=by
 refine aa ak Tryz.func134 rfl rfl false 0 4 rfl rfl rfl rfl fun K hK hb1 hb2=>?_;simp only[ae,enc,Nat.reduceAdd]
 simp[af,V.toD,bnd,ab,D.cells] at hb1
 (repeat' first|refine st ?_|refine sa fun xe hxe=>?_|refine sb (fun hq=>?_) fun hq=>?_|exact True.intro)
 refine ag hK [] [0,1,5] (fun i:Nat=>⟨[(0,.lst (.int .i64) c),(1,.lst (.int .i64) l),(5,.int .i64 i)],[],4⟩) (fun i=>i≤l.length∧∀j,j<i→bK c (l.getD j 0)=true) (fun i=>l.length-i) 0 ⟨by simp,by simp⟩ rfl ?_
 rintro i ⟨hi,hall⟩
 by_cases hlt:i<l.length
 ·have hxe:l[i]?=some l[i]:=List.getElem?_eq_getElem hlt
  have hno:bK c l[i]=false→leaS c l=false:=fun h=>by
   unfold leaS
   rw[bZ hlt (by rw[a8 hxe];exact h),Bool.false_and]
  have hys:=bk hall (p:=fun j=>bK c (l.getD j 0)) (i:=i)
  simp only[a8 hxe] at hys
  generalize l[i]=m at *
  (repeat' first|refine st ?_|refine sa fun xe hxe=>?_|refine sb (fun hq=>?_) fun hq=>?_|refine cr (lp _ _ _) ?_|exact True.intro)
  ·rw[hno hq]
   exact⟨rfl,rfl⟩
  ·exact⟨i+1,⟨by omega,hys hq⟩,by omega,rfl⟩
 ·(repeat' first|refine st ?_|refine sa fun xe hxe=>?_|refine sb (fun hq=>?_) fun hq=>?_|exact True.intro)
  unfold leaS
  rw[bL (fun j hj=>hall j (by omega)),Bool.true_and]
  exact⟨rfl,rfl⟩
theorem Eo (c l:List Int):ai Tryz.prog 98 [.lst (.int .i64) c,.lst (.int .i64) l] [] (.bool (comV c && leaS c l)) []:=by
 refine aa ak Tryz.func98 rfl rfl false 0 4 rfl rfl rfl rfl fun K hK hb1 hb2=>?_;simp only[ae,enc,Nat.reduceAdd]
 (repeat' first|refine st ?_|refine sa fun xe hxe=>?_|refine sb (fun hq=>?_) fun hq=>?_|refine cr (uo _) ?_|refine cr (FP _ _) ?_|exact True.intro)
 all_goals (refine⟨?_,rfl⟩;simp_all)
theorem BZ (c l:List Int):ai Tryz.prog 75 [.lst (.int .i64) c,.lst (.int .i64) l] [] (.bool (comV c && leaS c l)) []:=by
 refine aa ak Tryz.func75 rfl rfl false 0 4 rfl rfl rfl rfl fun K hK hb1 hb2=>?_;simp only[ae,enc,Nat.reduceAdd]
 simp[af,V.toD,bnd,ab,D.cells] at hb1
 cases hc:comV c
 ·(repeat' first|refine st ?_|refine sa fun xe hxe=>?_|refine sb (fun hq=>?_) fun hq=>?_|refine cr (kg _) ?_|exact True.intro)
  exact⟨rfl,rfl⟩
 rw[Bool.true_and]
 by_cases h15:15<(l.length:Int)
 ·(repeat' first|refine st ?_|refine sa fun xe hxe=>?_|refine sb (fun hq=>?_) fun hq=>?_|refine cr (kg _) ?_|exact True.intro)
  unfold leaS
  rw[decide_eq_false (by omega),Bool.and_false]
  exact⟨rfl,rfl⟩
 (repeat' first|refine st ?_|refine sa fun xe hxe=>?_|refine sb (fun hq=>?_) fun hq=>?_|refine cr (kg _) ?_|exact True.intro)
 refine ag hK [] [0,15,16,17] (fun i:Nat=>⟨[(0,.lst (.int .i64) c),(15,.lst (.int .i64) l),(16,.int .i64 l.length),(17,.int .i64 i)],[],4⟩) (fun i=>i≤l.length∧∀j,j<i→bK c (l.getD j 0)=true) (fun i=>l.length-i) 0 ⟨by simp,by simp⟩ rfl ?_
 rintro i ⟨hi,hall⟩
 by_cases hlt:i<l.length
 ·have hxe:l[i]?=some l[i]:=List.getElem?_eq_getElem hlt
  have hno:bK c l[i]=false→leaS c l=false:=fun h=>by
   unfold leaS
   rw[bZ hlt (by rw[a8 hxe];exact h),Bool.false_and]
  have hys:=bk hall (p:=fun j=>bK c (l.getD j 0)) (i:=i)
  simp only[a8 hxe] at hys
  generalize l[i]=m at *
  (repeat' first|refine st ?_|refine sa fun xe hxe=>?_|refine sb (fun hq=>?_) fun hq=>?_|refine cr (de _ _) ?_|exact True.intro)
  ·rw[hno hq]
   exact⟨rfl,rfl⟩
  ·exact⟨i+1,⟨by omega,hys hq⟩,by omega,rfl⟩
 ·(repeat' first|refine st ?_|refine sa fun xe hxe=>?_|refine sb (fun hq=>?_) fun hq=>?_|exact True.intro)
  unfold leaS
  rw[bL (fun j hj=>hall j (by omega)),Bool.true_and,decide_eq_true (by omega)]
  exact⟨rfl,rfl⟩
theorem zQ (c:List Int)(hc:comV c=true):ai Tryz.prog 111 [.lst (.int .i64) c] [] (.int .i64 (wg c)) []:=by
 have h1:=lL hc
 have h2:=zd hc
 have h3:(oH c-1).tdiv 3=wg c:=rfl
 refine aa ak Tryz.func111 rfl rfl false 0 4 rfl rfl rfl rfl fun K hK hb1 hb2=>?_;simp only[ae,enc,Nat.reduceAdd]
 (repeat' first|refine st ?_|refine sa fun xe hxe=>?_|refine sb (fun hq=>?_) fun hq=>?_|refine cr (z6 _ hc) ?_|exact True.intro)
 exact⟨rfl,rfl⟩
theorem B3 (c:List Int)(b:Int)(hc:comV c=true):ai Tryz.prog 76 [.lst (.int .i64) c,.int .i64 b] [] (.bool (badS c b)) []:=by
 refine aa ak Tryz.func76 rfl rfl false 0 4 rfl rfl rfl rfl fun K hK hb1 hb2=>?_;simp only[ae,enc,Nat.reduceAdd]
 clear hb1 hb2
 cases h0:b== -1
 ·have hne:b≠-1:=by simpa using h0
  cases h1:bK c b
  ·have:badS c b=false:=by
    rw[Bool.eq_false_iff]
    intro h
    rcases jV.1 h with h|h
    ·exact hne h
    ·rw[bK,aD.2 (by omega)] at h1;cases h1
   rw[this]
   (repeat' first|refine st ?_|refine sa fun xe hxe=>?_|refine sb (fun hq=>?_) fun hq=>?_|refine cr (de _ _) ?_|exact True.intro)
   exact⟨rfl,rfl⟩
  ·have hm:=aD.1 h1
   have hx2:c[b.toNat]?=some (c.getD b.toNat 0):=by rw[List.getD_eq_getElem?_getD,List.getElem?_eq_getElem (show b.toNat<c.length by omega)];rfl
   have hb:badS c b=decide (c.getD b.toNat 0≤wg c):=by
    rw[Bool.eq_iff_iff,jV,decide_eq_true_eq]
    constructor
    ·rintro(h|⟨-,h⟩)
     ·exact absurd h hne
     ·exact h
    ·intro h;exact .inr ⟨by omega,h⟩
   rw[hb]
   generalize c.getD b.toNat 0=x at *
   (repeat' first|refine st ?_|refine sa fun xe hxe=>?_|refine sb (fun hq=>?_) fun hq=>?_|refine cr (de _ _) ?_|refine cr (zQ _ hc) ?_|exact True.intro)
   exact⟨rfl,rfl⟩
 ·have hb:b= -1:=by simpa using h0
  have:badS c b=true:=jV.2 (.inl hb)
  rw[this]
  (repeat' first|refine st ?_|refine sa fun xe hxe=>?_|refine sb (fun hq=>?_) fun hq=>?_|refine cr (de _ _) ?_|refine cr (zQ _ hc) ?_|exact True.intro)
  all_goals exact⟨rfl,rfl⟩
abbrev jj (p:Ppl):V:=.agg [.int .i64 p.v.round,.int .i64 p.v.author,.lst (.int .i64) p.v.parents,.int .i64 p.v.digest,.lst (.int .i64) p.members]
theorem qH (c:List Int)(p:Ppl)(hc:comV c=true)(hm:cj c p.members=true):ai Tryz.prog 119 [jj p,.lst (.int .i64) c] [] (.bool (don c p)) []:=by
 have hw:yl c p.members=mo c p.members:=by simp[yl,hc,hm]
 have hwc:=wA c p.members
 have hqc:=ww c
 rw[hw] at hwc
 rw[hc] at hqc
 refine aa ak Tryz.func119 rfl rfl false 0 4 rfl rfl rfl rfl fun K hK hb1 hb2=>?_;simp only[ae,enc,Nat.reduceAdd]
 (repeat' first|refine st ?_|refine sa fun xe hxe=>?_|refine sb (fun hq=>?_) fun hq=>?_|refine cr (hwc) ?_|refine cr (hqc) ?_|exact True.intro)
 exact⟨rfl,rfl⟩
theorem nQ (v u:Vtx):ai Tryz.prog 129 [bu v,bu u] [] (.bool (slt v u)) []:=by
 refine aa ak Tryz.func129 rfl rfl false 0 4 rfl rfl rfl rfl fun K hK hb1 hb2=>?_;simp only[ae,enc,Nat.reduceAdd]
 (repeat' first|refine st ?_|refine sa fun xe hxe=>?_|refine sb (fun hq=>?_) fun hq=>?_|exact True.intro)
 all_goals (refine⟨?_,rfl⟩;simp_all[slt])
theorem ET (a b:List Int):ai Tryz.prog 145 [.lst (.int .i64) a,.lst (.int .i64) b] [] (.bool (a==b)) []:=by
 refine aa ak Tryz.func145 rfl rfl false 0 4 rfl rfl rfl rfl fun K hK hb1 hb2=>?_;simp only[ae,enc,Nat.reduceAdd]
 simp[af,V.toD,bnd,ab,D.cells] at hb1
 by_cases hl:a.length=b.length
 ·(repeat' first|refine st ?_|refine sa fun xe hxe=>?_|refine sb (fun hq=>?_) fun hq=>?_|exact True.intro)
  refine ag hK [] [0,1,11,12,13] (fun i:Nat=>⟨[(0,.lst (.int .i64) a),(1,.lst (.int .i64) b),(11,.lst (.int .i64) a),(12,.int .i64 a.length),(13,.int .i64 i)],[],4⟩) (fun i=>i≤a.length∧a.take i=b.take i) (fun i=>a.length-i) 0 ⟨by simp,by simp⟩ rfl ?_
  rintro i ⟨hi,hall⟩
  by_cases hlt:i<a.length
  ·obtain⟨x,hx⟩:∃x,a[i]?=some x:=⟨_,List.getElem?_eq_getElem hlt⟩
   obtain⟨y,hy⟩:∃y,b[i]?=some y:=⟨_,List.getElem?_eq_getElem (by omega)⟩
   (repeat' first|refine st ?_|refine sa fun xe hxe=>?_|refine sb (fun hq=>?_) fun hq=>?_|exact True.intro)
   ·have hne:¬x=y:=hq
    have:(a==b)=false:=by rw[beq_eq_false_iff_ne];rintro rfl;rw[hx] at hy;exact hne (Option.some.inj hy)
    rw[this]
    exact⟨rfl,rfl⟩
   ·subst hq
    exact⟨i+1,⟨by omega,by rw[List.take_add_one,List.take_add_one,hall,hx,hy]⟩,by omega,rfl⟩
  ·(repeat' first|refine st ?_|refine sa fun xe hxe=>?_|refine sb (fun hq=>?_) fun hq=>?_|exact True.intro)
   have hab:a=b:=by rwa [List.take_of_length_le (by omega),List.take_of_length_le (by omega)] at hall
   rw[hab,beq_self_eq_true]
   exact⟨rfl,rfl⟩
 ·(repeat' first|refine st ?_|refine sa fun xe hxe=>?_|refine sb (fun hq=>?_) fun hq=>?_|exact True.intro)
  have:(a==b)=false:=by rw[beq_eq_false_iff_ne];rintro rfl;exact hl rfl
  rw[this]
  exact⟨rfl,rfl⟩
theorem jH (v u:Vtx):ai Tryz.prog 118 [bu v,bu u] [] (.bool (gm v u)) []:=by
 refine aa ak Tryz.func118 rfl rfl false 0 4 rfl rfl rfl rfl fun K hK hb1 hb2=>?_;simp only[ae,enc,Nat.reduceAdd]
 (repeat' first|refine st ?_|refine sa fun xe hxe=>?_|refine sb (fun hq=>?_) fun hq=>?_|refine cr (ET _ _) ?_|exact True.intro)
 all_goals (refine⟨?_,rfl⟩;simp_all[gm])
theorem CL (l:List Int)(n:Int):ai Tryz.prog 156 [.lst (.int .i64) l,.int .i64 n] [] (.int .i64 (match l.findIdx? (· ==n) with|some i=>(i:Int)|none=>-1)) []:=by
 refine aa ak Tryz.func156 rfl rfl false 0 4 rfl rfl rfl rfl fun K hK hb1 hb2=>?_;simp only[ae,enc,Nat.reduceAdd]
 simp[af,V.toD,bnd,ab,D.cells] at hb1
 (repeat' first|refine st ?_|refine sa fun xe hxe=>?_|refine sb (fun hq=>?_) fun hq=>?_|exact True.intro)
 refine ag hK [] [0,1,7,8] (fun i:Nat=>⟨[(0,.lst (.int .i64) l),(1,.int .i64 n),(7,.int .i64 l.length),(8,.int .i64 i)],[],4⟩) (fun i=>i≤l.length∧∀y∈l.take i,(y==n)=false) (fun i=>l.length-i) 0 ⟨by simp,by simp⟩ rfl ?_
 rintro i ⟨hi,hall⟩
 by_cases hlt:i<l.length
 ·have hxe:l[i]?=some l[i]:=List.getElem?_eq_getElem hlt
  have h3:l.take (i+1)=l.take i++[l[i]]:=List.take_succ_eq_append_getElem hlt
  have h4:=qw (l:=l) (p:=(· ==n)) hxe hall
  generalize l[i]=y at *
  by_cases he:n=y
  ·have hb:(n==y)=true:=by simpa using he
   (repeat' first|refine st ?_|refine sa fun xe hxe=>?_|refine sb (fun hq=>?_) fun hq=>?_|exact True.intro)
   rw[h4 (by simpa using he.symm)]
   exact⟨rfl,rfl⟩
  ·have hb:(n==y)=false:=by simpa using he
   (repeat' first|refine st ?_|refine sa fun xe hxe=>?_|refine sb (fun hq=>?_) fun hq=>?_|exact True.intro)
   exact⟨i+1,⟨by omega,by rw[h3];exact aS hall (by simpa using fun h=>he h.symm)⟩,by omega,rfl⟩
 ·(repeat' first|refine st ?_|refine sa fun xe hxe=>?_|refine sb (fun hq=>?_) fun hq=>?_|exact True.intro)
  rw[List.take_of_length_le (by omega)] at hall
  rw[List.findIdx?_eq_none_iff.2 hall]
  exact⟨rfl,rfl⟩
theorem fv (l:List Int)(n:Int):ai Tryz.prog 130 [.lst (.int .i64) l,.int .i64 n] [] (.bool (l.contains n)) []:=by
 refine aa ak Tryz.func130 rfl rfl false 0 4 rfl rfl rfl rfl fun K hK hb1 hb2=>?_;simp only[ae,enc,Nat.reduceAdd]
 (repeat' first|refine st ?_|refine sa fun xe hxe=>?_|refine sb (fun hq=>?_) fun hq=>?_|refine cr (CL _ _) ?_|exact True.intro)
 refine⟨?_,rfl⟩
 have:l.contains n=(l.findIdx? (· ==n)).isSome:=by
  rw[List.findIdx?_isSome,Bool.eq_iff_iff,List.contains_iff_mem,List.any_eq_true]
  constructor
  ·intro h;exact⟨n,h,by simp⟩
  ·rintro⟨x,h1,h2⟩;rw[beq_iff_eq] at h2;exact h2▸h1
 rw[this]
 cases l.findIdx? (· ==n) with
 |none=>rfl
 |some i=>simp
theorem BV (p q:Ppl)(bad:Int):ai Tryz.prog 114 [jj p,jj q,.int .i64 bad] [] (.bool (fitP bad p q)) []:=by
 refine aa ak Tryz.func114 rfl rfl false 0 4 rfl rfl rfl rfl fun K hK hb1 hb2=>?_;simp only[ae,enc,Nat.reduceAdd]
 simp[af,V.toD,bnd,ab,D.cells] at hb1
 cases h1:slt p.v q.v
 ·have:fitP bad p q=true:=by simp[fitP,h1]
  rw[this]
  (repeat' first|refine st ?_|refine sa fun xe hxe=>?_|refine sb (fun hq=>?_) fun hq=>?_|refine cr (nQ _ _) ?_|refine cr (jH _ _) ?_|refine cr (fv _ _) ?_|exact True.intro)
  exact⟨rfl,rfl⟩
 cases h2:gm p.v q.v
 ·cases h3:p.v.author==bad
  ·have:fitP bad p q=false:=by simp[fitP,h1,h2,h3]
   rw[this]
   have hn:(p.v.author !=bad)=true:=by rw[bne,h3];rfl
   (repeat' first|refine st ?_|refine sa fun xe hxe=>?_|refine sb (fun hq=>?_) fun hq=>?_|refine cr (nQ _ _) ?_|refine cr (jH _ _) ?_|refine cr (fv _ _) ?_|exact True.intro)
   exact⟨rfl,rfl⟩
  ·have hf:fitP bad p q= !jX bad p.members q.members:=by simp[fitP,h1,h2,h3]
   rw[hf]
   have hn:(p.v.author !=bad)=false:=by rw[bne,h3];rfl
   (repeat' first|refine st ?_|refine sa fun xe hxe=>?_|refine sb (fun hq=>?_) fun hq=>?_|refine cr (nQ _ _) ?_|refine cr (jH _ _) ?_|refine cr (fv _ _) ?_|exact True.intro)
   refine ag hK [] [2,4,28,29,30] (fun i:Nat=>⟨[(2,.int .i64 bad),(4,.ptr 4 0),(28,.lst (.int .i64) p.members),(29,.int .i64 p.members.length),(30,.int .i64 i)],[(4,.var 104 (jj q).cells)],5⟩) (fun i=>i≤p.members.length∧∀m∈p.members.take i,(m !=bad && q.members.contains m)=false) (fun i=>p.members.length-i) 0 ⟨by simp,by simp⟩ rfl ?_
   rintro i ⟨hi,hall⟩
   by_cases hlt:i<p.members.length
   ·have hxe:p.members[i]?=some p.members[i]:=List.getElem?_eq_getElem hlt
    have hsn:p.members.take (i+1)=p.members.take i++[p.members[i]]:=List.take_succ_eq_append_getElem hlt
    have hmm:p.members[i]∈p.members:=List.getElem_mem hlt
    generalize p.members[i]=m at *
    have hyes:(m !=bad && q.members.contains m)=true→jX bad p.members q.members=true:=fun h=>List.any_eq_true.2 ⟨m,hmm,h⟩
    cases h4:m !=bad
    ·(repeat' first|refine st ?_|refine sa fun xe hxe=>?_|refine sb (fun hq=>?_) fun hq=>?_|refine cr (fv _ _) ?_|exact True.intro)
     exact⟨i+1,⟨by omega,by rw[hsn];exact aS hall (by rw[h4];rfl)⟩,by omega,rfl⟩
    ·cases h5:q.members.contains m
     ·have hc5:=fv q.members m
      rw[h5] at hc5
      (repeat' first|refine st ?_|refine sa fun xe hxe=>?_|refine sb (fun hq=>?_) fun hq=>?_|refine cr (hc5) ?_|exact True.intro)
      exact⟨i+1,⟨by omega,by rw[hsn];exact aS hall (by rw[h5,Bool.and_false])⟩,by omega,rfl⟩
     ·have hc5:=fv q.members m
      rw[h5] at hc5
      (repeat' first|refine st ?_|refine sa fun xe hxe=>?_|refine sb (fun hq=>?_) fun hq=>?_|refine cr (hc5) ?_|exact True.intro)
      rw[hyes (by rw[h4,h5];rfl)]
      exact⟨rfl,rfl⟩
   ·(repeat' first|refine st ?_|refine sa fun xe hxe=>?_|refine sb (fun hq=>?_) fun hq=>?_|exact True.intro)
    rw[List.take_of_length_le (by omega)] at hall
    have:jX bad p.members q.members=false:=by
     rw[Bool.eq_false_iff]
     intro h
     obtain⟨m,hm,h⟩:=List.any_eq_true.1 h
     rw[hall m hm] at h
     cases h
    rw[this]
    exact⟨rfl,rfl⟩
 ·have:fitP bad p q=false:=by simp[fitP,h1,h2]
  rw[this]
  (repeat' first|refine st ?_|refine sa fun xe hxe=>?_|refine sb (fun hq=>?_) fun hq=>?_|refine cr (nQ _ _) ?_|refine cr (jH _ _) ?_|refine cr (fv _ _) ?_|exact True.intro)
  exact⟨rfl,rfl⟩
abbrev aP (w:Wrl):V:=.agg [.lst (.int .i64) w.com,.lst (.int .i64) w.lead,.int .i64 w.bad,.lst (.lst .vtx) w.views,.lst .ppl w.props]
theorem Aw (c:List Int)(p:Ppl)(hc:comV c=true):(comV c && vtxS c p.v)=vtxS c p.v∧(comV c && cj c p.members)=cj c p.members:=by simp[hc]
theorem B2 (w:Wrl)(hc:comV w.com=true):ai Tryz.prog 77 [aP w] [] (.bool (eD w.com w.bad w.props)) []:=by
 refine aa ak Tryz.func77 rfl rfl false 0 4 rfl rfl rfl rfl fun K hK hb1 hb2=>?_;simp only[ae,enc,Nat.reduceAdd]
 simp[af,V.toD,bnd,ab,D.cells] at hb1
 by_cases h220:220<(w.props.length:Int)
 ·(repeat' first|refine st ?_|refine sa fun xe hxe=>?_|refine sb (fun hq=>?_) fun hq=>?_|exact True.intro)
  unfold eD
  rw[decide_eq_false (by omega),Bool.and_false]
  exact⟨rfl,rfl⟩
 have hps:eD w.com w.bad w.props=cR w.props.length (dN w.com w.bad w.props):=by
  unfold eD
  rw[decide_eq_true (by omega),Bool.and_true]
 rw[hps]
 (repeat' first|refine st ?_|refine sa fun xe hxe=>?_|refine sb (fun hq=>?_) fun hq=>?_|exact True.intro)
 refine ag hK [] [1,12,13,14] (fun i:Nat=>⟨[(1,.ptr 4 0),(12,.lst .ppl w.props),(13,.int .i64 w.props.length),(14,.int .i64 i)],[(4,.var 31 (aP w).cells)],5⟩) (fun i=>i≤w.props.length∧∀j,j<i→dN w.com w.bad w.props j=true) (fun i=>w.props.length-i) 0 ⟨by simp,by simp⟩ rfl ?_
 rintro i ⟨hi,hall⟩
 by_cases hlt:i<w.props.length
 ·have hxe:w.props[i]?=some w.props[i]:=List.getElem?_eq_getElem hlt
  have hno:dN w.com w.bad w.props i=false→V.bool false=V.bool (cR w.props.length (dN w.com w.bad w.props))∧([]:VH)=[]:=fun h=>⟨by rw[bZ hlt h],rfl⟩
  have hA:dN w.com w.bad w.props i=(oneP w.com w.props[i] && cR i (fun k=>fitP w.bad w.props[i] (w.props.getD k p0))):=by simp only[dN,a8 hxe]
  generalize w.props[i]=p at *
  have hvc:=fB w.com p.v
  have hmc:=mG w.com p.members
  rw[(Aw _ p hc).1] at hvc
  rw[(Aw _ p hc).2] at hmc
  cases h1:vtxS w.com p.v
  ·(repeat' first|refine st ?_|refine sa fun xe hxe=>?_|refine sb (fun hq=>?_) fun hq=>?_|refine cr (hvc) ?_|refine cr (hmc) ?_|exact True.intro)
   exact hno (by simp[hA,oneP,h1])
  cases h2:cj w.com p.members
  ·(repeat' first|refine st ?_|refine sa fun xe hxe=>?_|refine sb (fun hq=>?_) fun hq=>?_|refine cr (hvc) ?_|refine cr (hmc) ?_|exact True.intro)
   exact hno (by simp[hA,oneP,h2])
  have e1:kZ w.props none (some (.int .i64 i)) 0 (i:Int).toNat=w.props.take i:=by simp[kZ]
  have hl1:(w.props.take i).length=i:=by rw[List.length_take];omega
  (repeat' first|refine st ?_|refine sa fun xe hxe=>?_|refine sb (fun hq=>?_) fun hq=>?_|refine cr (hvc) ?_|refine cr (hmc) ?_|exact True.intro)
  refine ag hK [] [1,4,12,13,14,36,37,38] (fun k:Nat=>⟨[(1,.ptr 4 0),(4,.ptr 5 0),(12,.lst .ppl w.props),(13,.int .i64 w.props.length),(14,.int .i64 i),(36,.lst .ppl (w.props.take i)),(37,.int .i64 i),(38,.int .i64 k)],[(4,.var 31 (aP w).cells),(5,.var 104 (jj p).cells)],6⟩) (fun k=>k≤i∧∀j,j<k→fitP w.bad p (w.props.getD j p0)=true) (fun k=>i-k) 0 ⟨by simp,by simp⟩ (by simp only[e1,hl1];rfl) ?_
  rintro k ⟨hk,hkall⟩
  by_cases hkl:k<i
  ·have hxk:(w.props.take i)[k]?=some (w.props.getD k p0):=by rw[List.getElem?_take,if_pos hkl,List.getD_eq_getElem?_getD,List.getElem?_eq_getElem (show k<w.props.length by omega)];rfl
   have hyes:=bk hkall (p:=fun j=>fitP w.bad p (w.props.getD j p0)) (i:=k)
   have hnk:fitP w.bad p (w.props.getD k p0)=false→V.bool false=V.bool (cR w.props.length (dN w.com w.bad w.props))∧([]:VH)=[]:=fun h=>hno (by rw[hA,bZ hkl h,Bool.and_false])
   generalize w.props.getD k p0=q at *
   have hcq:=BV q p w.bad
   rw[ld] at hcq
   generalize w.props.take i=pt at *
   cases h3:fitP w.bad p q
   ·rw[h3] at hcq
    (repeat' first|refine st ?_|refine sa fun xe hxe=>?_|refine sb (fun hq=>?_) fun hq=>?_|refine cr (hcq) ?_|exact True.intro)
    exact hnk h3
   ·rw[h3] at hcq
    (repeat' first|refine st ?_|refine sa fun xe hxe=>?_|refine sb (fun hq=>?_) fun hq=>?_|refine cr (hcq) ?_|exact True.intro)
    exact⟨k+1,⟨by omega,hyes h3⟩,by omega,rfl⟩
  ·have hAt:dN w.com w.bad w.props i=true:=by
    rw[hA,bL (fun j hj=>hkall j (by omega)),oneP,h1,h2]
    rfl
   (repeat' first|refine st ?_|refine sa fun xe hxe=>?_|refine sb (fun hq=>?_) fun hq=>?_|exact True.intro)
   exact⟨i+1,⟨by omega,bk hall hAt⟩,by omega,rfl⟩
 ·(repeat' first|refine st ?_|refine sa fun xe hxe=>?_|refine sb (fun hq=>?_) fun hq=>?_|exact True.intro)
  rw[bL (fun j hj=>hall j (by omega))]
  exact⟨rfl,rfl⟩
end Go.Proofs.YthmfppknagbkeaaGreat.Am
namespace Go.Proofs.YthmfppknagbkeaaGreat.Am
open Go
def az (g:List Vtx):List (Option Vtx):=g.foldl (fun t v=>t.set (v.round*7+v.author).toNat (some v)) (List.replicate 217 none)
theorem eO (g:List Vtx)(v:Vtx):az (g++[v])=(az g).set (v.round*7+v.author).toNat (some v):=by simp[az]
theorem ch (g:List Vtx):(az g).length=217:=by
 induction g using cJ with
 |h0=>exact List.length_replicate
 |h l x ih=>rw[eO,List.length_set,ih]
theorem m6 {g:List Vtx}(hg:∀v∈g,fp v){r a:Int}(hr:0≤r∧r≤30)(ha:0≤a∧a≤6):((az g).getD (r*7+a).toNat none).isSome=cq g r a:=by
 induction g using cJ with
 |h0=>
  have:(az []).getD (r*7+a).toNat none=none:=by
   simp only[az,List.foldl_nil,List.getD_eq_getElem?_getD,List.getElem?_replicate]
   split<;>rfl
  rw[this]
  rfl
 |h l x ih=>
  have ih:=ih fun v hv=>hg v (List.mem_append.2 (.inl hv))
  obtain⟨⟨x1,x2⟩,x3,x4⟩:=hg x (by simp)
  have hl:=ch l
  have hh:cq (l++[x]) r a=(cq l r a||iq r a x):=by simp[cq]
  rw[eO,hh,List.getD_eq_getElem?_getD,List.getElem?_set]
  by_cases he:x.round=r∧x.author=a
  ·have:iq r a x=true:=by simp[iq,he.1,he.2]
   rw[this,Bool.or_true,if_pos (by rw[he.1,he.2]),if_pos (by omega)]
   rfl
  ·have:iq r a x=false:=by
    rw[Bool.eq_false_iff]
    intro h
    simp only[iq,Bool.and_eq_true,beq_iff_eq,decide_eq_true_eq] at h
    exact he (by omega)
   rw[this,Bool.or_false,if_neg (by omega),←List.getD_eq_getElem?_getD,ih]
def mn (tab:List (Option Vtx))(v:Vtx):Bool:=v.parents.all fun p=>(tab.getD ((v.round-1)*7+p).toNat none).isSome
theorem ng {α:Type}{l:List α}{p q:α→Bool}(h:∀x∈l,p x=q x):l.all p=l.all q:=by
 rw[Bool.eq_iff_iff,List.all_eq_true,List.all_eq_true]
 exact⟨fun h2 x hx=>by rw[←h x hx];exact h2 x hx,fun h2 x hx=>by rw[h x hx];exact h2 x hx⟩
theorem xb {g:List Vtx}(hg:∀v∈g,fp v){v:Vtx}(hr:v.parents≠[]→1≤v.round∧v.round≤31)(hp:∀p∈v.parents,0≤p∧p≤6):mn (az g) v=parOK g v:=
 ng fun p h=>by
  have:=hr (List.ne_nil_of_mem h)
  exact m6 hg (by omega) (hp p h)
def Fi (b:Int)(tabs:List (List (Option Vtx)))(v:Vtx)(ms:List Int):Bool:=ms.all fun m=>m==b||mn (tabs.getD m.toNat []) v
def uU (b:Int)(tabs:List (List (Option Vtx)))(ps:List Ppl):Bool:=ps.all fun p=>Fi b tabs p.v (p.v.author::p.members)
def Ga (n:Nat)(p:Ppl):Prop:=(∀m∈p.v.author::p.members,0≤m∧m<n)∧(p.v.parents≠[]→1≤p.v.round∧p.v.round≤31)∧(∀q∈p.v.parents,0≤q∧q≤6)∧p.members.length≤1000000∧p.v.parents.length≤1000000
theorem El {b:Int}{gs:List (List Vtx)}{ps:List Ppl}(hg:∀g∈gs,∀v∈g,fp v)(hp:∀p∈ps,Ga gs.length p):uU b (gs.map az) ps=lr b ps gs:=
 ng fun p h=>by
  obtain⟨p1,p2,p3,-⟩:=hp p h
  have key:∀m:Nat,m<gs.length→mn ((gs.map az).getD m []) p.v=parOK (gs.getD m []) p.v:=fun m hm=>by
   have e:(gs.map az).getD m []=az (gs.getD m []):=by simp only[List.getD_eq_getElem?_getD,List.getElem?_map,List.getElem?_eq_getElem hm,Option.map_some,Option.getD_some]
   rw[e]
   refine xb (hg _ ?_) p2 p3
   rw[List.getD_eq_getElem?_getD,List.getElem?_eq_getElem hm]
   exact List.getElem_mem hm
  rw[Bool.eq_iff_iff,aN]
  simp only[Fi,List.all_eq_true,Bool.or_eq_true,beq_iff_eq]
  constructor
  ·intro h1 m hm
   simp only[fC,Bool.or_eq_true,Bool.not_eq_true',Bool.and_eq_false_iff]
   by_cases hb:(m:Int)=b
   ·exact .inl (.inl (by simp[hb]))
   by_cases hv:(m:Int)=p.v.author∨(m:Int)∈p.members
   ·rcases h1 (m:Int) (List.mem_cons.2 hv) with h2|h2
    ·exact absurd h2 hb
    ·rw[Int.toNat_natCast,key m hm] at h2
     exact .inr h2
   ·refine .inl (.inr ?_)
    rw[Bool.eq_false_iff]
    intro h2
    simp only[Bool.or_eq_true,beq_iff_eq,List.contains_iff_mem] at h2
    exact hv h2
  ·intro h1 m hm
   have hr:=p1 m hm
   have h2:=h1 m.toNat (by omega)
   simp only[fC,Bool.or_eq_true,Bool.not_eq_true',Bool.and_eq_false_iff,Int.toNat_of_nonneg hr.1] at h2
   rcases h2 with(h2|h2)|h2
   ·exact .inl (by simpa using h2)
   ·exfalso
    rw[Bool.eq_false_iff] at h2
    apply h2
    simp only[Bool.or_eq_true,beq_iff_eq,List.contains_iff_mem]
    exact List.mem_cons.1 hm
   ·rw[key m.toNat (by omega)]
    exact .inr h2
def aT (tab:List (Option Vtx)):List Vtx:=tab.filterMap id
theorem mz:∀{l:List (Option Vtx)},(∀x∈l,x=none)→l.filterMap id=[]
 |[],_=>rfl
 |x::l,h=>by
  rw[h x (List.mem_cons_self ..),List.filterMap_cons_none rfl]
  exact mz fun y hy=>h y (List.mem_cons_of_mem _ hy)
theorem qy (l:List (Option Vtx))(y:Vtx):(some y::l).filterMap id=y::l.filterMap id:=List.filterMap_cons_some (f:=id) rfl
theorem zk:∀{l:List (Option Vtx)} {k:Nat} {v:Vtx},k<l.length→(∀j,k≤j→l.getD j none=none)→(l.set k (some v)).filterMap id=l.filterMap id++[v]
 |[],_,_,h,_=>absurd h (Nat.not_lt_zero _)
 |x::l,0,v,_,h=>by
  have hn:∀y∈x::l,y=none:=fun y hy=>by
   obtain⟨j,hj,rfl⟩:=cf (d:=none) hy
   exact h j (Nat.zero_le _)
  rw[mz hn,List.set_cons_zero,qy,mz fun y hy=>hn y (List.mem_cons_of_mem _ hy)]
  rfl
 |x::l,k+1,v,hk,h=>by
  have ih:=zk (l:=l) (k:=k) (v:=v) (by simpa using hk) fun j hj=>by
   have:=h (j+1) (by omega)
   simpa using this
  rw[List.set_cons_succ]
  cases x with
  |none=>rw[List.filterMap_cons_none rfl,List.filterMap_cons_none rfl,ih]
  |some y=>rw[qy,qy,ih];rfl
theorem yb {g:List Vtx}{j:Nat}(h:∀v∈g,(v.round*7+v.author).toNat≠j):(az g).getD j none=none:=by
 induction g using cJ with
 |h0=>
  simp only[az,List.foldl_nil,List.getD_eq_getElem?_getD,List.getElem?_replicate]
  split<;>rfl
 |h l x ih=>
  rw[eO,List.getD_eq_getElem?_getD,List.getElem?_set_ne (h x (by simp)),←List.getD_eq_getElem?_getD]
  exact ih fun v hv=>h v (List.mem_append.2 (.inl hv))
theorem CX {g:List Vtx}(hg:∀v∈g,fp v)(hs:g.Pairwise fun a b=>bef a b=true):aT (az g)=g:=by
 induction g using cJ with
 |h0=>exact mz fun x hx=>List.eq_of_mem_replicate hx
 |h l x ih=>
  obtain⟨s1,-,s3⟩:=List.pairwise_append.1 hs
  have ih:=ih (fun v hv=>hg v (List.mem_append.2 (.inl hv))) s1
  obtain⟨⟨x1,x2⟩,x3,x4⟩:=hg x (by simp)
  rw[eO,aT,zk (by rw[ch];omega) fun j hj=>yb fun v hv=>?_]
  ·exact congrArg (· ++[x]) ih
  ·have hb:=s3 v hv x (by simp)
   obtain⟨⟨v1,v2⟩,v3,v4⟩:=hg v (List.mem_append.2 (.inl hv))
   simp only[bef,Bool.or_eq_true,Bool.and_eq_true,decide_eq_true_eq] at hb
   omega
def eJ (w:Wrl):Bool:=ji w.com w.lead w.bad && (eD w.com w.bad w.props && ((w.views.length==w.com.length) && ew w.com w.bad w.props w.views))
theorem kP (w:Wrl):fH w=(eJ w && lr w.bad w.props w.views):=by
 simp only[fH,eJ]
 cases ji w.com w.lead w.bad<;>cases (w.views.length==w.com.length)<;>cases eD w.com w.bad w.props<;>cases ew w.com w.bad w.props w.views<;>simp
theorem jM {w:Wrl}(h:eJ w=true):comV w.com=true∧leaS w.com w.lead=true∧badS w.com w.bad=true∧eD w.com w.bad w.props=true∧w.views.length=w.com.length∧ew w.com w.bad w.props w.views=true:=by
 simp only[eJ,ji,Bool.and_eq_true,beq_iff_eq] at h
 obtain⟨⟨h1,h2,h3⟩,h4,h5,h6⟩:=h
 exact⟨h1,h2,h3,h4,h5,h6⟩
theorem wn {c:List Int}{g:List Vtx}(h:graS c g=true):∀v∈g,vtxS c v=true:=by
 intro v hv
 obtain⟨j,hj,rfl⟩:=cf (d:=v0) hv
 simp only[graS,Bool.and_eq_true,aN] at h
 have:=h.2 j hj
 simp only[fo,Bool.and_eq_true] at this
 exact this.1
theorem wR {w:Wrl}(h:eJ w=true):∀g∈w.views,graS w.com g=true:=by
 obtain⟨-,-,-,-,-,h6⟩:=jM h
 intro g hg
 obtain⟨j,hj,rfl⟩:=cf (d:=[]) hg
 simp only[ew,aN,Bool.and_eq_true] at h6
 have:=(h6 j hj).1
 simp only[lO,Bool.and_eq_true] at this
 exact this.2
theorem jK {α:Type}[BEq α][LawfulBEq α]:∀{a b:List α},a.Nodup→a⊆b→a.length≤b.length
 |[],_,_,_=>Nat.zero_le _
 |x::a,b,h,hs=>by
  rw[List.nodup_cons] at h
  have hx:x∈b:=hs (List.mem_cons_self ..)
  have:=jK (b:=b.erase x) h.2 fun y hy=>by
   have hne:y≠x:=fun e=>h.1 (e▸hy)
   exact(List.mem_erase_of_ne hne).2 (hs (List.mem_cons_of_mem _ hy))
  rw[List.length_erase_of_mem hx] at this
  have:=List.length_pos_of_mem hx
  simp only[List.length_cons]
  omega
theorem gb {c ms:List Int}(h:cj c ms=true):ms.length≤c.length:=by
 have h1:=bQ h
 have h2:ms⊆(List.range c.length).map fun n:Nat=>(n:Int):=fun m hm=>by
  have:=h1 m hm
  rw[List.mem_map]
  exact⟨m.toNat,by rw[List.mem_range];omega,by omega⟩
 have h3:ms.Nodup:=(e9 h).imp fun hab=>by omega
 have:=jK h3 h2
 simpa using this
theorem kO {c:List Int}{v:Vtx}(hc:comV c=true)(h:vtxS c v=true):v.parents.length≤7:=by
 obtain⟨-,-,h3,-⟩:=bR h
 have:=gb h3
 have:=(aw.1 hc).2
 omega
theorem kw {w:Wrl}(h:eJ w=true):∀g∈w.views,∀v∈g,fp v∧v.parents.length≤1000:=fun g hg v hv=>by
 have hc:=(jM h).1
 have h1:=wn (wR h g hg) v hv
 exact⟨cK hc h1,by have:=kO hc h1;omega⟩
theorem mT {c:List Int}{b:Int}{ps:List Ppl}(h:eD c b ps=true):∀p∈ps,oneP c p=true:=by
 intro p hp
 obtain⟨j,hj,rfl⟩:=cf (d:=p0) hp
 simp only[eD,Bool.and_eq_true,aN] at h
 have:=h.1 j hj
 simp only[dN,Bool.and_eq_true] at this
 exact this.1
theorem i4 {c:List Int}{b:Int}{ps:List Ppl}(h:eD c b ps=true):ps.length≤220:=by
 simp only[eD,Bool.and_eq_true,decide_eq_true_eq] at h
 omega
theorem Cl {c:List Int}{p:Ppl}(hc:comV c=true)(h:oneP c p=true):Ga c.length p:=by
 simp only[oneP,Bool.and_eq_true] at h
 obtain⟨h1,h2⟩:=h
 have h7:=(aw.1 hc).2
 have hl:=kO hc h1
 obtain⟨v1,v2,v3,v4,v5,v6⟩:=bR h1
 have hml:=gb h2
 refine⟨fun m hm=>?_,fun hne=>?_,fun q hq=>?_,by omega,by omega⟩
 ·rcases List.mem_cons.1 hm with rfl|hm
  ·omega
  ·exact bQ h2 m hm
 ·by_cases h0:p.v.round=0
  ·exact absurd (v5 h0) hne
  ·omega
 ·have:=bQ v3 q hq
  omega
theorem mS {w:Wrl}(h:eJ w=true):∀p∈w.props,Ga w.views.length p:=by
 obtain⟨hc,-,-,h4,h5,-⟩:=jM h
 rw[h5]
 exact fun p hp=>Cl hc (mT h4 p hp)
theorem EG {w:Wrl}(h:eJ w=true):uU w.bad (w.views.map az) w.props=lr w.bad w.props w.views:=
 El (fun g hg v hv=>(kw h g hg v hv).1) (mS h)
end Go.Proofs.YthmfppknagbkeaaGreat.Am
namespace Go.Proofs.YthmfppknagbkeaaGreat.Am
open Go
attribute [local irreducible] Mk bS Ari eQ pS kR cw eG jf jg At ai
set_option maxRecDepth 10000
theorem zT (c:List Int)(g:List Vtx)(hl:g.length≤2000000):ai Tryz.prog 115 [.lst (.int .i64) c,.lst .vtx g] [] (.bool (graS c g)) []:=by
 have hL:=Er c g hl
 refine aa eF Tryz.func115 rfl rfl false 0 4 rfl rfl rfl rfl fun K hK hb1 hb2=>?_;simp only[ae,enc,Nat.reduceAdd]
 clear hb1 hb2
 cases hg:graS c g
 ·simp only[Dg,Df,hg,Bool.false_eq_true,if_false] at hL
  (repeat' first|refine mY ?_|refine sa fun xe hxe=>?_|refine sb (fun hq=>?_) fun hq=>?_|refine cr (hL) ?_|exact True.intro)
  exact⟨rfl,rfl⟩
 ·simp only[Dg,Df,hg,if_true] at hL
  cases g with
  |nil=>
   (repeat' first|refine mY ?_|refine sa fun xe hxe=>?_|refine sb (fun hq=>?_) fun hq=>?_|refine cr (hL) ?_|exact True.intro)
   exact⟨rfl,rfl⟩
  |cons v g=>
   (repeat' first|refine mY ?_|refine sa fun xe hxe=>?_|refine sb (fun hq=>?_) fun hq=>?_|refine cr (hL) ?_|exact True.intro)
   exact⟨rfl,rfl⟩
abbrev qf (w:Wrl)(v:Vtx):VH:=[(4,.var 43 [.int .i64 v.round,.int .i64 v.author,.lst (.int .i64) v.parents,.int .i64 v.digest]),(5,.var 31 [.lst (.int .i64) w.com,.lst (.int .i64) w.lead,.int .i64 w.bad,.lst (.lst .vtx) w.views,.lst .ppl w.props])]
theorem F0 (w:Wrl)(v:Vtx)(p:Ppl)(hc:comV w.com=true)(hm:cj w.com p.members=true):ai Tryz.prog 117 [jj p,.ptr 4 0,.ptr 5 0] (qf w v) (.bool (gm p.v v && don w.com p)) (qf w v):=by
 refine aa ak Tryz.func117 rfl rfl false 2 6 rfl rfl rfl rfl fun K hK hb1 hb2=>?_;simp only[ae,enc,Nat.reduceAdd]
 clear hb1 hb2
 cases h1:gm p.v v
 ·(repeat' first|refine st ?_|refine sa fun xe hxe=>?_|refine sb (fun hq=>?_) fun hq=>?_|refine cr (jH _ _) ?_|refine cr (qH _ _ hc hm) ?_|exact True.intro)
  exact⟨rfl,rfl⟩
 ·(repeat' first|refine st ?_|refine sa fun xe hxe=>?_|refine sb (fun hq=>?_) fun hq=>?_|refine cr (jH _ _) ?_|refine cr (qH _ _ hc hm) ?_|exact True.intro)
  exact⟨rfl,rfl⟩
theorem Ed (w:Wrl)(v:Vtx)(ps:List Ppl)(hc:comV w.com=true)(hm:∀p∈ps,cj w.com p.members=true):ai Tryz.prog 144 [.lst .ppl ps,.clo 117 [.ptr 4 0,.ptr 5 0]] (qf w v)
  (.int .i64 (match ps.findIdx? (fun p=>gm p.v v && don w.com p) with|some i=>(i:Int)|none=>-1)) (qf w v):=by
 refine aa ak Tryz.func144 rfl rfl false 2 6 rfl rfl rfl rfl fun K hK hb1 hb2=>?_;simp only[ae,enc,Nat.reduceAdd]
 clear hb2
 simp[af,V.toD,bnd,ab,D.cells] at hb1
 (repeat' first|refine st ?_|refine sa fun xe hxe=>?_|refine sb (fun hq=>?_) fun hq=>?_|exact True.intro)
 refine ag hK [] [0,1,7,8] (fun i:Nat=>⟨[(0,.lst .ppl ps),(1,.clo 117 [.ptr 4 0,.ptr 5 0]),(7,.int .i64 ps.length),(8,.int .i64 i)],qf w v,6⟩) (fun i=>i≤ps.length∧∀y∈ps.take i,(gm y.v v && don w.com y)=false) (fun i=>ps.length-i) 0 ⟨by simp,by simp⟩ rfl ?_
 rintro i ⟨hi,hall⟩
 by_cases hlt:i<ps.length
 ·have hxe:ps[i]?=some ps[i]:=List.getElem?_eq_getElem hlt
  have h3:ps.take (i+1)=ps.take i++[ps[i]]:=List.take_succ_eq_append_getElem hlt
  have h4:=qw (l:=ps) (p:=fun p=>gm p.v v && don w.com p) hxe hall
  have h5:=hm _ (List.getElem_mem hlt)
  generalize ps[i]=p at *
  have hv:=F0 w v p hc h5
  cases h6:gm p.v v && don w.com p
  ·rw[h6] at hv
   (repeat' first|refine st ?_|refine sa fun xe hxe=>?_|refine sb (fun hq=>?_) fun hq=>?_|refine cr (hv) ?_|exact True.intro)
   exact⟨i+1,⟨by omega,by rw[h3];exact aS hall h6⟩,by omega,rfl⟩
  ·rw[h6] at hv
   (repeat' first|refine st ?_|refine sa fun xe hxe=>?_|refine sb (fun hq=>?_) fun hq=>?_|refine cr (hv) ?_|exact True.intro)
   rw[h4 h6]
   exact⟨rfl,rfl⟩
 ·(repeat' first|refine st ?_|refine sa fun xe hxe=>?_|refine sb (fun hq=>?_) fun hq=>?_|exact True.intro)
  rw[List.take_of_length_le (by omega)] at hall
  rw[List.findIdx?_eq_none_iff.2 hall]
  exact⟨rfl,rfl⟩
theorem FN (w:Wrl)(v:Vtx)(ps:List Ppl)(hc:comV w.com=true)(hm:∀p∈ps,cj w.com p.members=true):ai Tryz.prog 116 [.lst .ppl ps,.clo 117 [.ptr 4 0,.ptr 5 0]] (qf w v)
  (.bool (knw w.com ps v)) (qf w v):=by
 have hk:knw w.com ps v=(ps.findIdx? (fun p=>gm p.v v && don w.com p)).isSome:=by
  rw[List.findIdx?_isSome,knw]
  congr 1
  funext p
  rw[Bool.and_comm]
 refine aa ak Tryz.func116 rfl rfl false 2 6 rfl rfl rfl rfl fun K hK hb1 hb2=>?_;simp only[ae,enc,Nat.reduceAdd]
 (repeat' first|refine st ?_|refine sa fun xe hxe=>?_|refine sb (fun hq=>?_) fun hq=>?_|refine cr (Ed _ _ _ hc hm) ?_|exact True.intro)
 refine⟨?_,rfl⟩
 rw[hk]
 cases ps.findIdx? (fun p=>gm p.v v && don w.com p) with
 |none=>rfl
 |some i=>simp
theorem B5 (w:Wrl)(hc:comV w.com=true)(hp:eD w.com w.bad w.props=true)(hl:∀g∈w.views,g.length≤2000000):ai Tryz.prog 78 [aP w] [] (.bool ((w.views.length==w.com.length) && ew w.com w.bad w.props w.views)) []:=by
 have hm:∀p∈w.props,cj w.com p.members=true:=fun p hpp=>by
  obtain⟨i,hi,rfl⟩:=cf (d:=p0) hpp
  simp only[eD,Bool.and_eq_true,aN] at hp
  have:=hp.1 i hi
  simp only[dN,oneP,Bool.and_eq_true] at this
  exact this.1.2
 have h7:=(aw.1 hc).2
 refine aa ak Tryz.func78 rfl rfl false 0 4 rfl rfl rfl rfl fun K hK hb1 hb2=>?_;simp only[ae,enc,Nat.reduceAdd]
 simp[af,V.toD,bnd,ab,D.cells] at hb1
 by_cases hlen:w.views.length=w.com.length
 ·have hb:(w.views.length==w.com.length)=true:=by simpa using hlen
  rw[hb,Bool.true_and]
  (repeat' first|refine st ?_|refine sa fun xe hxe=>?_|refine sb (fun hq=>?_) fun hq=>?_|exact True.intro)
  refine ag hK [] [1,16,17,18] (fun i:Nat=>⟨[(1,.ptr 4 0),(16,.lst (.lst .vtx) w.views),(17,.int .i64 w.views.length),(18,.int .i64 i)],[(4,.var 31 (aP w).cells)],5⟩)
   (fun i=>i≤w.views.length∧∀j,j<i→(lO w.com w.props (w.views.getD j []) && (!((j:Int)==w.bad)||(w.views.getD j []).isEmpty))=true) (fun i=>w.views.length-i) 0 ⟨by simp,by simp⟩ rfl ?_
  rintro i ⟨hi,hall⟩
  by_cases hlt:i<w.views.length
  ·have hxe:w.views[i]?=some (w.views.getD i []):=by rw[List.getD_eq_getElem?_getD,List.getElem?_eq_getElem hlt];rfl
   have hgl:=hl _ (List.mem_of_getElem? hxe)
   have hno:(lO w.com w.props (w.views.getD i []) && (!((i:Int)==w.bad)||(w.views.getD i []).isEmpty))=false→V.bool false=V.bool (ew w.com w.bad w.props w.views)∧([]:VH)=[]:=fun h=>⟨by unfold ew;rw[bZ hlt h],rfl⟩
   have hyes:=bk hall (p:=fun j=>lO w.com w.props (w.views.getD j []) && (!((j:Int)==w.bad)||(w.views.getD j []).isEmpty)) (i:=i)
   generalize w.views.getD i []=g at *
   have hvv:lO w.com w.props g=(g.all (knw w.com w.props) && graS w.com g):=rfl
   cases h1:graS w.com g
   ·(repeat' first|refine st ?_|refine sa fun xe hxe=>?_|refine sb (fun hq=>?_) fun hq=>?_|refine cr (zT _ _ hgl) ?_|exact True.intro)
    exact hno (by rw[hvv,h1,Bool.and_false,Bool.false_and])
   have hem:g.isEmpty=decide ((g.length:Int)=0):=by cases g<;>simp;omega
   by_cases h2:(i:Int)=w.bad∧¬(g.length:Int)=0
   ·have hb1:((i:Int)==w.bad)=true:=by simpa using h2.1
    (repeat' first|refine st ?_|refine sa fun xe hxe=>?_|refine sb (fun hq=>?_) fun hq=>?_|refine cr (zT _ _ hgl) ?_|exact True.intro)
    exact hno (by rw[hb1,hem,decide_eq_false h2.2];simp)
   have hok2:(!((i:Int)==w.bad)||g.isEmpty)=true:=by
    rw[hem]
    by_cases hb:(i:Int)=w.bad
    ·have:(g.length:Int)=0:=Classical.byContradiction fun h=>h2 ⟨hb,h⟩
     simp[this]
    ·simp[hb]
   have hkn:∀v,ai Tryz.prog 116 [.lst .ppl w.props,.clo 117 [.ptr 4 0,.ptr 5 0]] (qf w v) (.bool (knw w.com w.props v)) (qf w v):=fun v=>FN w v _ hc hm
   (repeat' first|refine st ?_|refine sa fun xe hxe=>?_|refine sb (fun hq=>?_) fun hq=>?_|refine cr (zT _ _ hgl) ?_|exact True.intro)
   all_goals
    refine ag hK [] [1,16,17,18,39,40,41] (fun k:Nat=>⟨[(1,.ptr 4 0),(16,.lst (.lst .vtx) w.views),(17,.int .i64 w.views.length),(18,.int .i64 i),(39,.lst .vtx g),(40,.int .i64 g.length),(41,.int .i64 k)],[(4,.var 31 (aP w).cells)],5⟩)
     (fun k=>k≤g.length∧∀v∈g.take k,knw w.com w.props v=true) (fun k=>g.length-k) 0 ⟨by simp,by simp⟩ rfl ?_
    rintro k ⟨hk,hkall⟩
    by_cases hkl:k<g.length
    ·have hxk:g[k]?=some g[k]:=List.getElem?_eq_getElem hkl
     have hsn:g.take (k+1)=g.take k++[g[k]]:=List.take_succ_eq_append_getElem hkl
     have hvm:g[k]∈g:=List.getElem_mem hkl
     generalize g[k]=v at *
     have hkv:=hkn v
     cases h3:knw w.com w.props v
     ·rw[h3] at hkv
      (repeat' first|refine st ?_|refine sa fun xe hxe=>?_|refine sb (fun hq=>?_) fun hq=>?_|refine cr (hkv) ?_|exact True.intro)
      have:g.all (knw w.com w.props)=false:=by
       rw[Bool.eq_false_iff]
       intro h
       rw[List.all_eq_true.1 h v hvm] at h3
       cases h3
      exact hno (by rw[hvv,this,Bool.false_and,Bool.false_and])
     ·rw[h3] at hkv
      (repeat' first|refine st ?_|refine sa fun xe hxe=>?_|refine sb (fun hq=>?_) fun hq=>?_|refine cr (hkv) ?_|exact True.intro)
      exact⟨k+1,⟨by omega,by rw[hsn];exact aS hkall h3⟩,by omega,rfl⟩
    ·rw[List.take_of_length_le (by omega)] at hkall
     (repeat' first|refine st ?_|refine sa fun xe hxe=>?_|refine sb (fun hq=>?_) fun hq=>?_|exact True.intro)
     exact⟨i+1,⟨by omega,hyes (by rw[hvv,List.all_eq_true.2 hkall,h1,hok2];rfl)⟩,by omega,rfl⟩
  ·(repeat' first|refine st ?_|refine sa fun xe hxe=>?_|refine sb (fun hq=>?_) fun hq=>?_|exact True.intro)
   unfold ew
   rw[bL (fun j hj=>hall j (by omega))]
   exact⟨rfl,rfl⟩
 ·have hb:(w.views.length==w.com.length)=false:=by simpa using hlen
  rw[hb,Bool.false_and]
  (repeat' first|refine st ?_|refine sa fun xe hxe=>?_|refine sb (fun hq=>?_) fun hq=>?_|exact True.intro)
  exact⟨rfl,rfl⟩
theorem jq (v:Vtx)(hl:v.parents.length≤1000000):ai Tryz.prog 120 [bu v] [] (.agg [.int .i64 v.round,.int .i64 v.author,.ref 4,.int .i64 v.digest]) [(4,.row 3 (.int .i64) v.parents)]:=by
 refine aa ak Tryz.func120 rfl rfl false 0 4 rfl rfl rfl rfl fun K hK hb1 hb2=>?_;simp only[ae,enc,Nat.reduceAdd]
 (repeat' first|refine st ?_|refine sa fun xe hxe=>?_|refine sb (fun hq=>?_) fun hq=>?_|exact True.intro)
 exact⟨rfl,rfl⟩
theorem Dr (g:List Vtx)(hg:∀v∈g,fp v∧v.parents.length≤1000):ai Tryz.prog 80 [.lst .vtx g] [] (.ptr 4 0) [(4,.vari 142 [] 217 (.ob .vtx) (az g) [])]:=by
 refine aa ak Tryz.func80 rfl rfl false 0 4 rfl rfl rfl rfl fun K hK hb1 hb2=>?_;simp only[ae,enc,Nat.reduceAdd]
 simp[af,V.toD,bnd,ab,D.cells] at hb1
 (repeat' first|refine st ?_|refine sa fun xe hxe=>?_|refine sb (fun hq=>?_) fun hq=>?_|exact True.intro)
 refine yw 4 0 217 (.ob .vtx) ?_
 ((conv=>whnf);refine Eu (by kernel_rfl) ?_;(conv=>whnf))
 refine ag hK [] [3,9,10,11] (fun i:Nat=>⟨[(3,.ptr 4 0),(9,.lst .vtx g),(10,.int .i64 g.length),(11,.int .i64 (i:Int))],[(4,.vari 142 [] 217 (.ob .vtx) (az (g.take i)) [])],5⟩) (fun i=>i≤g.length) (fun i=>g.length-i) 0 (by simp) rfl ?_
 intro i hi
 by_cases hlt:i<g.length
 ·have hxe:g[i]?=some g[i]:=List.getElem?_eq_getElem hlt
  have hsn:g.take (i+1)=g.take i++[g[i]]:=List.take_succ_eq_append_getElem hlt
  obtain⟨⟨⟨v1,v2⟩,v3,v4⟩,v5⟩:=hg _ (List.getElem_mem hlt)
  have hl2:=ch (g.take i)
  have hst:az (g.take (i+1))=(az (g.take i)).set (g[i].round*7+g[i].author).toNat (some g[i]):=by rw[hsn,eO]
  generalize g[i]=v at *
  generalize az (g.take i)=s at *
  (repeat' first|refine st ?_|refine sa fun xe hxe=>?_|refine sb (fun hq=>?_) fun hq=>?_|((with_reducible refine cA ?_);(conv=>whnf);(first|with_reducible refine aB (jq _ (by omega)) ?_);conv=>whnf)|exact True.intro)
  refine⟨i+1,by omega,by omega,?_⟩
  have hix:(v.round*7+v.author).toNat=v.round.toNat * 7+v.author.toNat:=by omega
  rw[hst,hix]
  rfl
 ·rw[List.take_of_length_le (by omega)]
  (repeat' first|refine st ?_|refine sa fun xe hxe=>?_|refine sb (fun hq=>?_) fun hq=>?_|exact True.intro)
  exact⟨rfl,rfl⟩
def Θw:TT:=(115,⟨.ptr 142,1,8,some (.nilp),some (.hp 0),false⟩)::(104,⟨.struct [(43,0,4),(22,4,1)],5,72,some (.agg [.int .i64 0,.int .i64 0,.nils,.int .i64 0,.nils]),some (.pplm 1),false⟩)::Θ
theorem aX:TT.ok Tryz.prog Θw:=TT.okB_ok (by kernel_rfl)
theorem bf {P Q:Prop}(h:Q)(s:Hid Q→P:=by
  intro h
  (first|(with_reducible first|apply cQ|apply ca)|((first|with_reducible apply bO aX|refine go ?_|(with_reducible first|apply ck|apply b7|apply bM|apply bP|refine bN aX mixed (by kernel_rfl) ?_))<;>conv=>whnf))
  repeat(first|(with_reducible first|apply cQ|apply ca)|((first|with_reducible apply bO aX|refine go ?_|(with_reducible first|apply ck|apply b7|apply bM|apply bP|refine bN aX mixed (by kernel_rfl) ?_))<;>conv=>whnf))
  exact h.h):P:=s ⟨h⟩
def qW (ps:List Ppl):List PplM:=ps.zipIdx.map fun x=>⟨x.1.v,some x.2⟩
theorem ku (ps:List Ppl):(qW ps).length=ps.length:=by simp[qW]
def GL:PplM:=⟨⟨0,0,[],0⟩,none⟩
def AE (ps:List Ppl)(i:Nat):List PplM:=qW (ps.take i)++List.replicate (ps.length-i) GL
theorem Cs (ps:List Ppl)(i:Nat)(hi:i≤ps.length):(AE ps i).length=ps.length:=by
 simp only[AE,List.length_append,ku,List.length_take,List.length_replicate];omega
theorem Ct {ps:List Ppl}{i:Nat}(h:i<ps.length):(AE ps i).set i ⟨ps[i].v,some i⟩=AE ps (i+1):=by
 have h1:(qW (ps.take i)).length=i:=by rw[ku,List.length_take];omega
 have h2:ps.length-i=(ps.length-(i+1))+1:=by omega
 unfold AE
 rw[List.set_append_right _ _ (by omega),h1,Nat.sub_self,h2,List.replicate_succ,List.set_cons_zero]
 have h4:qW (ps.take (i+1))=qW (ps.take i)++[⟨ps[i].v,some i⟩]:=by
  rw[List.take_succ_eq_append_getElem h]
  simp only[qW,List.zipIdx_append,List.map_append,List.length_take,Nat.min_eq_left (Nat.le_of_lt h),List.zipIdx_cons,List.zipIdx_nil,List.map_cons,List.map_nil,Nat.zero_add]
 rw[h4,List.append_assoc]
 rfl
theorem D7 (ps:List Ppl)(hv:∀p∈ps,p.v.parents.length≤1000000∧p.members.length≤1000000)(hl:ps.length≤1000000):ai Tryz.prog 81 [.lst .ppl ps] [] (.ref 4) [(1,.frow 3 (.int .i64) (ps.map (·.members))),(4,.row 104 (.pplm 1) (qW ps))]:=by
 refine aa aX Tryz.func81 rfl rfl false 0 4 rfl rfl rfl rfl fun K hK hb1 hb2=>?_;simp only[ae,enc,Nat.reduceAdd]
 clear hb1 hb2
 (repeat' first|refine bf ?_|refine sa fun xe hxe=>?_|refine sb (fun hq=>?_) fun hq=>?_|exact True.intro)
 refine hX 1 (.frow 3 (.int .i64) []) rfl ?_
 refine ag hK [] [3,9,10,11] (fun i:Nat=>⟨[(3,.ref 4),(9,.lst .ppl ps),(10,.int .i64 ps.length),(11,.int .i64 (i:Int))],[(1,.frow 3 (.int .i64) ((ps.take i).map (·.members))),(4,.row 104 (.pplm 1) (AE ps i))],5⟩) (fun i=>i≤ps.length) (fun i=>ps.length-i) 0 (by simp) (by rw[show AE ps 0=List.replicate (ps.length:Int).toNat GL by simp[AE,qW]];rfl) ?_
 intro i hi
 by_cases hlt:i<ps.length
 ·have hxe:ps[i]?=some ps[i]:=List.getElem?_eq_getElem hlt
  have hsn:ps.take (i+1)=ps.take i++[ps[i]]:=List.take_succ_eq_append_getElem hlt
  obtain⟨v1,v2⟩:=hv _ (List.getElem_mem hlt)
  have hpl:=Cs ps i hi
  have hst:=Ct hlt
  have hfl:((ps.take i).map (·.members)).length=i:=by rw[List.length_map,List.length_take];omega
  generalize ps[i]=p at *
  generalize AE ps i=s at *
  (repeat' first|refine bf ?_|refine sa fun xe hxe=>?_|refine sb (fun hq=>?_) fun hq=>?_|refine cr (jq _ v1) ?_|exact True.intro)
  refine⟨i+1,by omega,by omega,?_⟩
  rw[←hst,hsn,List.map_append,hfl]
  rfl
 ·(repeat' first|refine bf ?_|refine sa fun xe hxe=>?_|refine sb (fun hq=>?_) fun hq=>?_|exact True.intro)
  rw[List.take_of_length_le (by omega),show AE ps i=qW ps by rw[AE,List.take_of_length_le (by omega),show ps.length-i=0 by omega];simp]
  exact⟨rfl,rfl⟩
theorem FB (tabs:List (List (Option Vtx)))(k:Nat)(tab:List (Option Vtx))(v:Vtx)(hk:tabs[k]?=some tab)(ht:tab.length=217)(hr:v.parents≠[]→1≤v.round∧v.round≤31)(hp:∀p∈v.parents,0≤p∧p≤6):ai Tryz.prog 121 [.fptr 0 k 0,bu v] [(0,.fvari 142 217 (.ob .vtx) tabs)] (.bool (mn tab v)) [(0,.fvari 142 217 (.ob .vtx) tabs)]:=by
 refine aa ak Tryz.func121 rfl rfl false 0 4 rfl rfl rfl rfl fun K hK hb1 hb2=>?_;simp only[ae,enc,Nat.reduceAdd]
 simp[af,V.toD,bnd,ab,D.cells] at hb1
 (repeat' first|refine st ?_|refine sa fun xe hxe=>?_|refine sb (fun hq=>?_) fun hq=>?_|exact True.intro)
 refine ag hK [] [0,3,8,9,10] (fun i:Nat=>⟨[(0,.fptr 0 k 0),(3,.ptr 4 0),(8,.lst (.int .i64) v.parents),(9,.int .i64 v.parents.length),(10,.int .i64 (i:Int))],[(0,.fvari 142 217 (.ob .vtx) tabs),(4,.var 43 (bu v).cells)],5⟩) (fun i=>i≤v.parents.length∧∀p∈v.parents.take i,(tab.getD ((v.round-1)*7+p).toNat none).isSome=true) (fun i=>v.parents.length-i) 0 (by simp) rfl ?_
 rintro i ⟨hi,hall⟩
 by_cases hlt:i<v.parents.length
 ·have hxe:v.parents[i]?=some v.parents[i]:=List.getElem?_eq_getElem hlt
  have h3:v.parents.take (i+1)=v.parents.take i++[v.parents[i]]:=List.take_succ_eq_append_getElem hlt
  have h4:v.parents[i]∈v.parents:=List.getElem_mem hlt
  have h5:=hr (List.ne_nil_of_mem h4)
  have h6:=hp _ h4
  generalize v.parents[i]=p at *
  have hix:((v.round-1)*7+p).toNat=(v.round-1).toNat * 7+p.toNat:=by omega
  (repeat' first|refine st ?_|refine sa fun xe hxe=>?_|refine sb (fun hq=>?_) fun hq=>?_|exact True.intro)
  ·have hxe:tab[(v.round-1).toNat * 7+p.toNat]?=some xe:=hxe
   have:mn tab v=false:=by
    rw[Bool.eq_false_iff]
    intro h
    have h:=List.all_eq_true.1 h p h4
    rw[hix,List.getD_eq_getElem?_getD,hxe,Option.getD_some] at h
    have hq:xe=none:=by simpa using hq
    rw[hq] at h
    cases h
   rw[this]
   exact⟨rfl,rfl⟩
  ·have hxe:tab[(v.round-1).toNat * 7+p.toNat]?=some xe:=hxe
   refine⟨i+1,⟨by omega,?_⟩,by omega,rfl⟩
   rw[h3]
   refine aS hall ?_
   rw[hix,List.getD_eq_getElem?_getD,hxe,Option.getD_some]
   have hq:Option.isNone xe=false:=hq
   simpa[Option.isNone_iff_eq_none,Option.isSome_iff_ne_none] using hq
 ·(repeat' first|refine st ?_|refine sa fun xe hxe=>?_|refine sb (fun hq=>?_) fun hq=>?_|exact True.intro)
  rw[List.take_of_length_le (by omega)] at hall
  have:mn tab v=true:=List.all_eq_true.2 hall
  rw[this]
  exact⟨rfl,rfl⟩
abbrev rB (c l:List Int)(b:Int)(tabs:List (List (Option Vtx)))(ps:List Ppl):VH:=[(0,.fvari 142 217 (.ob .vtx) tabs),(1,.frow 3 (.int .i64) (ps.map (·.members))),(4,.var 83 [.int .i32 0,.int .u32 0,.lst (.int .i64) c,.lst (.int .i64) l,.int .i64 b,.ref 5,.ref 6]),(5,.row 115 (.hp 0) ((List.range tabs.length).map some)),(6,.row 104 (.pplm 1) (qW ps))]
theorem vg {ps:List Ppl}{i:Nat}{p:Ppl}(h:ps[i]?=some p):(qW ps)[i]?=some ⟨p.v,some i⟩:=by
 simp[qW,List.getElem?_map,List.getElem?_zipIdx,h]
theorem yR (tabs:List (List (Option Vtx)))(k:Nat)(tab:List (Option Vtx))(v:Vtx)(hk:tabs[k]?=some tab)(ht:tab.length=217)(hr:v.parents≠[]→1≤v.round∧v.round≤31)(hp:∀p∈v.parents,0≤p∧p≤6):ai Tryz.prog 121 [.hpo 0 (some k),bu v] [(0,.fvari 142 217 (.ob .vtx) tabs)] (.bool (mn tab v)) [(0,.fvari 142 217 (.ob .vtx) tabs)]:=by
 have h:=FB tabs k tab v hk ht hr hp
 unfold ai at h⊢
 exact h
set_option maxHeartbeats 1000000 in
theorem FK (c l:List Int)(b:Int)(tabs:List (List (Option Vtx)))(ps:List Ppl)(ht:∀t∈tabs,t.length=217)(htl:tabs.length≤7)(hpn:ps.length≤1000000)(hp:∀p∈ps,Ga tabs.length p):ai Tryz.prog 82 [.ptr 4 0] (rB c l b tabs ps) (.bool (uU b tabs ps)) (rB c l b tabs ps):=by
 refine aa aX Tryz.func82 rfl rfl false 3 7 rfl rfl rfl rfl fun K hK hb1 hb2=>?_;simp only[ae,enc,Nat.reduceAdd]
 clear hb1 hb2
 have hpl:=ku ps
 (repeat' first|refine bf ?_|refine sa fun xe hxe=>?_|refine sb (fun hq=>?_) fun hq=>?_|exact True.intro)
 refine ag hK [] [0,10,11,12] (fun i:Nat=>⟨[(0,.ptr 4 0),(10,.ref 6),(11,.int .i64 ps.length),(12,.int .i64 (i:Int))],rB c l b tabs ps,7⟩) (fun i=>i≤ps.length∧∀p∈ps.take i,Fi b tabs p.v (p.v.author::p.members)=true) (fun i=>ps.length-i) 0 (by simp) (by simp only[hpl];rfl) ?_
 rintro i ⟨hi,hall⟩
 by_cases hlt:i<ps.length
 ·have hxe:ps[i]?=some ps[i]:=List.getElem?_eq_getElem hlt
  have hsn:ps.take (i+1)=ps.take i++[ps[i]]:=List.take_succ_eq_append_getElem hlt
  have hpm:ps[i]∈ps:=List.getElem_mem hlt
  have hno:Fi b tabs ps[i].v (ps[i].v.author::ps[i].members)=false→uU b tabs ps=false:=fun h=>by
   rw[Bool.eq_false_iff]
   intro h2
   rw[List.all_eq_true.1 h2 _ hpm] at h
   cases h
  obtain⟨p1,p2,p3,p4,p5⟩:=hp _ hpm
  have hx1:=vg hxe
  have hx2:(ps.map (·.members))[i]?=some ps[i].members:=by rw[List.getElem?_map,hxe];rfl
  have hfl:(ps.map (·.members)).length=ps.length:=List.length_map ..
  generalize ps[i]=p at *
  (repeat' first|refine bf ?_|refine sa fun xe hxe=>?_|refine sb (fun hq=>?_) fun hq=>?_|exact True.intro)
  refine ag hK [] [0,4,10,11,12,22,23,24] (fun j:Nat=>⟨[(0,.ptr 4 0),(4,.ptr 7 0),(10,.ref 6),(11,.int .i64 ps.length),(12,.int .i64 (i:Int)),(22,.ref 8),(23,.int .i64 ((p.v.author::p.members).length:Nat)),(24,.int .i64 (j:Int))],rB c l b tabs ps++[(7,VB.var 104 [.int .i64 p.v.round,.int .i64 p.v.author,.lst (.int .i64) p.v.parents,.int .i64 p.v.digest,.hro 1 (some i)]),(8,VB.row 3 (.int .i64) (p.v.author::p.members))],9⟩) (fun j=>j≤(p.v.author::p.members).length∧∀m∈(p.v.author::p.members).take j,(m==b||mn (tabs.getD m.toNat []) p.v)=true) (fun j=>(p.v.author::p.members).length-j) 0 (by simp) (by(conv=>whnf);rfl) ?_
  rintro j ⟨hj,hjall⟩
  have hnl:(p.v.author::p.members).length≤1000001:=by simp only[List.length_cons];omega
  have hkk:(∀m∈p.v.author::p.members,(m==b||mn (tabs.getD m.toNat []) p.v)=true)→Fi b tabs p.v (p.v.author::p.members)=true:=fun h=>List.all_eq_true.2 h
  have hkn:∀m∈p.v.author::p.members,(m==b||mn (tabs.getD m.toNat []) p.v)=false→Fi b tabs p.v (p.v.author::p.members)=false:=fun m hm h=>by
   rw[Bool.eq_false_iff]
   intro h2
   rw[List.all_eq_true.1 h2 _ hm] at h
   cases h
  generalize hms:p.v.author::p.members=ms at *
  by_cases hjl:j<ms.length
  ·have hye:ms[j]?=some ms[j]:=List.getElem?_eq_getElem hjl
   have hjs:ms.take (j+1)=ms.take j++[ms[j]]:=List.take_succ_eq_append_getElem hjl
   have hjm:ms[j]∈ms:=List.getElem_mem hjl
   have hxr:=p1 _ hjm
   have hkn:=hkn _ hjm
   generalize ms[j]=m at *
   have hxt:tabs[m.toNat]?=some (tabs.getD m.toNat []):=by
    rw[List.getD_eq_getElem?_getD,List.getElem?_eq_getElem (show m.toNat<tabs.length by omega)];rfl
   have hxv:((List.range tabs.length).map some)[m.toNat]?=some (some m.toNat):=by
    rw[List.getElem?_map,List.getElem?_range (show m.toNat<tabs.length by omega)];rfl
   have hvl:((List.range tabs.length).map some).length=tabs.length:=by simp
   have hC:=yR tabs m.toNat _ p.v hxt (ht _ (List.mem_of_getElem? hxt)) p2 p3
   by_cases hmb:m=b
   ·subst hmb
    (repeat' first|refine bf ?_|refine sa fun xe hxe=>?_|refine sb (fun hq=>?_) fun hq=>?_|exact True.intro)
    ·exact absurd trivial hq
    ·refine⟨j+1,⟨by omega,by rw[hjs];exact aS hjall (by simp)⟩,by omega,rfl⟩
   ·cases h1:mn (tabs.getD m.toNat []) p.v
    ·rw[h1] at hC
     (repeat' first|refine bf ?_|refine sa fun xe hxe=>?_|refine sb (fun hq=>?_) fun hq=>?_|refine co (hC) ?_|exact True.intro)
     exact⟨by rw[hno (hkn (by rw[h1,Bool.or_false];simpa using hmb))],rfl⟩
    ·rw[h1] at hC
     (repeat' first|refine bf ?_|refine sa fun xe hxe=>?_|refine sb (fun hq=>?_) fun hq=>?_|refine co (hC) ?_|exact True.intro)
     exact⟨j+1,⟨by omega,by rw[hjs];exact aS hjall (by rw[h1,Bool.or_true])⟩,by omega,rfl⟩
  ·(repeat' first|refine bf ?_|refine sa fun xe hxe=>?_|refine sb (fun hq=>?_) fun hq=>?_|exact True.intro)
   rw[List.take_of_length_le (by omega)] at hjall
   exact⟨i+1,⟨by omega,by rw[hsn];exact aS hall (by rw[hms];exact hkk hjall)⟩,by omega,rfl⟩
 ·(repeat' first|refine bf ?_|refine sa fun xe hxe=>?_|refine sb (fun hq=>?_) fun hq=>?_|exact True.intro)
  rw[List.take_of_length_le (by omega)] at hall
  have:uU b tabs ps=true:=List.all_eq_true.2 hall
  rw[this]
  exact⟨rfl,rfl⟩
end Go.Proofs.YthmfppknagbkeaaGreat.Am
namespace Go.Proofs.YthmfppknagbkeaaGreat.Am
open Go Go.Shelf Go.RowKit
attribute [local irreducible] Mk bS Ari eQ pS kR cw eG jf jg At ai
set_option maxRecDepth 10000
theorem pd {P : Program} {f : FuncId} {ds : List D} {r : D} (hf : ∃ fn, P.funcs[f]? = some fn ∧ fn.body.isNone = false ∧ (fn.name == "runtime.NumGoroutine") = false)
  (h:∀(w:World) (ok:Nat→Prop) (ρ:Id→Pl) (vs:Array Value),ds.length=vs.size→(∀i,i<ds.length→C ρ (fun _=>False) ok w (ds.getD i .undef) (vs.getD i undef))→
   Calls P f vs w fun e w'=>∃u,e= .returned u∧Below w.heap.size w w'∧∀ok',Rep ok' w' r u):Con P f ds [] r []:=by
 refine⟨hf,fun w A ρ vs hs hl hc=>?_⟩
 have hno:∀b,¬Live [] b:=fun b h=>by cases h
 have hc':∀i,i<ds.length→C ρ (fun _=>False) (okOf A ρ [] w) w (ds.getD i .undef) (vs.getD i undef):=fun i hi=>(hc i hi).mono (fun b hb=>absurd hb (hno b)) (fun b hb=>⟨hb,rfl⟩)
 refine Calls.mono (h w (okOf A ρ [] w) ρ vs hl hc') ?_
 rintro e w' ⟨u,rfl,hb,hr⟩
 refine⟨u,ρ,rfl,fun b hb=>absurd hb (hno b),⟨hs.base,hs.inS,⟨hb.os,hb.tape,hb.output,hb.size,fun i hi _=>hb.block i hi⟩,rfl,rfl,?_,?_,?_,?_,hs.gl⟩,.pure (hr _)⟩
 ·intro k d h;cases h
 ·intro k d h;cases h
 ·intro k d h;cases h
 ·intro b b' x x' h;cases h
theorem gz {nb:Nat}{α β:Type}{xs:List α}{ys:List β}(h1:xs.length≤1000000)(h2:ys.length≤1000000)(hb:nb≤100):le nb (xs.length+ys.length):=by
 have:(xs.length+ys.length)*nb≤2000000*100:=Nat.mul_le_mul (by omega) hb
 unfold le
 omega
def uW:Go.Shelf.Ren:=⟨fun|15=>79|n=>n,fun|22=>22|3=>3|4=>4|n=>n,fun|n=>n⟩
theorem Ab:Go.Proofs.Lays2.n15 Tryz.prog uW where
  mixed:=by kernel_rfl
  f15:=Tryz.func79.trans (congrArg some (by kernel_rfl))
  t3:=Tryz.underlying3
  a3:=Tryz.isAgg3
  z3:=Tryz.sizeOf3
  v3:=Tryz.zeroValue3
  t4:=Tryz.underlying4
  a4:=Tryz.isAgg4
  z4:=Tryz.sizeOf4
  v4:=Tryz.zeroValue4
  t22:=Tryz.underlying22
  a22:=Tryz.isAgg22
  z22:=Tryz.sizeOf22
  v22:=Tryz.zeroValue22
  i3:=by kernel_rfl
theorem BU (t:Ty):ai Tryz.prog 79 [.lst t []] [] (.lst t []) []:=by
 unfold ai
 refine pd ⟨_,Tryz.func79,rfl,rfl⟩ fun w ok ρ vs hl hc=>?_
 obtain⟨v,rfl⟩:∃v,vs= #[v]:=by
  have:vs.size=1:=hl.symm
  exact⟨vs[0],Array.ext (by simp[this]) fun i h1 h2=>by
   have:i=0:=by simpa using h2
   subst this;rfl⟩
 have h0:C ρ (fun _=>False) ok w (.lst []) v:=hc 0 (Nat.one_pos)
 have h1:=h0.lst_inv
 have fin:∀(w':World) (a:Option Addr) (cap:Nat),(a=none→cap=0)→cap≤maxLen→∀ok',Rep ok' w' ((V.lst t []).toD) (.slice a 0 cap):=fun w' a cap h1 h2 ok'=>.none a cap h1 h2
 obtain⟨a,cap,rfl,ha⟩:∃a cap,v= .slice a 0 cap∧(a=none→cap=0):=by
  cases h1 with
  |none a cap ha hcap=>exact⟨a,cap,rfl,ha⟩
  |lst l n b off cap f hn=>exact⟨_,cap,by rw[←hn];rfl,fun h=>by cases h⟩
 cases a with
 |none=>
  refine Calls.mono (Any.slices_Clone_int_nil Ab 0 cap w) ?_
  rintro e w' ⟨rfl,rfl⟩
  exact⟨_,rfl,Below.refl _ _,fin _ _ _ (fun _=>rfl) (Nat.zero_le _)⟩
 |some a=>
  refine Calls.mono (Any.slices_Clone_int_zero Ab a cap w) ?_
  rintro e w' ⟨v',rfl,ho,_,hb⟩
  refine⟨v',rfl,hb,?_⟩
  rcases ho.2 with⟨rfl,_⟩|⟨g,cap',cur,rfl,_,_,_,h3,_⟩
  ·exact fin _ _ _ (fun _=>rfl) (Nat.zero_le _)
  ·exact fin _ _ _ (fun h=>by cases h) h3
theorem zN (l:List Int)(hb:l.length≤1000000):ai Tryz.prog 79 [.lst (.int .i64) l] [] (.lst (.int .i64) l) []:=by
 cases l with
 |nil=>exact BU _
 |cons x l=>
  refine aa ak Tryz.func79 rfl rfl true 0 4 rfl rfl rfl rfl fun K hK hb1 hb2=>?_;simp only[ae,enc,Nat.reduceAdd]
  (repeat' first|refine st ?_|refine sa fun xe hxe=>?_|refine sb (fun hq=>?_) fun hq=>?_|exact True.intro)
  refine dD (gz (Nat.zero_le _) hb (by decide)) ?_
  (repeat' first|refine st ?_|refine sa fun xe hxe=>?_|refine sb (fun hq=>?_) fun hq=>?_|exact True.intro)
  refine b7 ?_
  (conv=>whnf)
  exact⟨rfl,rfl⟩
theorem D5 (l:List Int)(hl:l≠[])(hb:l.length≤1000000):ai Tryz.prog 90 [.lst (.int .i64) l] [] (.lst (.int .i64) l) []:=by
 cases l with
 |nil=>exact absurd rfl hl
 |cons x l=>
  refine aa ak Tryz.func90 rfl rfl true 0 4 rfl rfl rfl rfl fun K hK hb1 hb2=>?_;simp only[ae,enc,Nat.reduceAdd]
  (repeat' first|refine st ?_|refine sa fun xe hxe=>?_|refine sb (fun hq=>?_) fun hq=>?_|exact True.intro)
  refine dD (gz (Nat.zero_le _) hb (by decide)) ?_
  (repeat' first|refine st ?_|refine sa fun xe hxe=>?_|refine sb (fun hq=>?_) fun hq=>?_|exact True.intro)
  refine b7 ?_
  (conv=>whnf)
  exact⟨rfl,rfl⟩
end Go.Proofs.YthmfppknagbkeaaGreat.Am
namespace Go.Proofs.YthmfppknagbkeaaGreat.Am
open Go
attribute [local irreducible] Mk bS Ari eQ pS kR cw eG jf jg At ai
set_option maxRecDepth 10000
def EA (w:Wrl):V:=if eJ w then .tup [.ptr 4 0,.bool (uU w.bad (w.views.map az) w.props)] else .tup [.nilp,.bool false]
def Ez (w:Wrl):VH:=if eJ w then rB w.com w.lead w.bad (w.views.map az) w.props else[]
def Cm (w:Wrl):Nat→VSt
 |0=>⟨[(1,.ptr 4 0),(4,.ptr 5 0),(42,.lst (.lst .vtx) w.views),(43,.int .i64 w.views.length),(44,.int .i64 0)],[(0,.fvari 142 217 (.ob .vtx) []),(4,.var 31 (aP w).cells),(5,.var 83 [.int .i32 0,.int .u32 0,.lst (.int .i64) w.com,.lst (.int .i64) w.lead,.int .i64 w.bad,.nils,.nils])],6⟩
 |i+1=>⟨[(1,.ptr 4 0),(4,.ptr 5 0),(42,.lst (.lst .vtx) w.views),(43,.int .i64 w.views.length),(44,.int .i64 ((i+1:Nat):Int))],[(0,.fvari 142 217 (.ob .vtx) ((w.views.take (i+1)).map az)),(4,.var 31 (aP w).cells),(5,.var 83 [.int .i32 0,.int .u32 0,.lst (.int .i64) w.com,.lst (.int .i64) w.lead,.int .i64 w.bad,.ref 6,.nils]),(6,.row 115 (.hp 0) ((List.range (i+1)).map some))],7⟩
set_option maxHeartbeats 1000000 in
theorem Dd (w:Wrl)(hl:∀g∈w.views,g.length≤2000000):ai Tryz.prog 37 [aP w] [] (EA w) (Ez w):=by
 have hno:eJ w=false→V.tup [.nilp,.bool false]=EA w∧([]:VH)=Ez w:=fun h=>by simp[EA,Ez,h]
 refine aa aX Tryz.func37 rfl rfl false 0 4 rfl rfl rfl rfl fun K hK hb1 hb2=>?_;simp only[ae,enc,Nat.reduceAdd]
 clear hb1 hb2
 have hL:=BZ w.com w.lead
 cases h1:comV w.com && leaS w.com w.lead
 ·rw[h1] at hL
  (repeat' first|refine bf ?_|refine sa fun xe hxe=>?_|refine sb (fun hq=>?_) fun hq=>?_|refine cr (hL) ?_|exact True.intro)
  exact hno (by
   rw[Bool.and_eq_false_iff] at h1
   rcases h1 with h1|h1<;>simp[eJ,ji,h1])
 rw[h1] at hL
 have hc:comV w.com=true:=(Bool.and_eq_true_iff.1 h1).1
 have hle:leaS w.com w.lead=true:=(Bool.and_eq_true_iff.1 h1).2
 have hB:=B3 w.com w.bad hc
 cases h2:badS w.com w.bad
 ·rw[h2] at hB
  (repeat' first|refine bf ?_|refine sa fun xe hxe=>?_|refine sb (fun hq=>?_) fun hq=>?_|refine cr (hL) ?_|refine cr (hB) ?_|exact True.intro)
  exact hno (by simp[eJ,ji,h2])
 rw[h2] at hB
 have hP:=B2 w hc
 cases h3:eD w.com w.bad w.props
 ·rw[h3] at hP
  (repeat' first|refine bf ?_|refine sa fun xe hxe=>?_|refine sb (fun hq=>?_) fun hq=>?_|refine cr (hL) ?_|refine cr (hB) ?_|refine cr (hP) ?_|exact True.intro)
  exact hno (by simp[eJ,ji,h3])
 rw[h3] at hP
 have hV:=B5 w hc h3 hl
 cases h4:(w.views.length==w.com.length) && ew w.com w.bad w.props w.views
 ·rw[h4] at hV
  (repeat' first|refine bf ?_|refine sa fun xe hxe=>?_|refine sb (fun hq=>?_) fun hq=>?_|refine cr (hL) ?_|refine cr (hB) ?_|refine cr (hP) ?_|refine cr (hV) ?_|exact True.intro)
  exact hno (by simp only[eJ,h4];simp)
 rw[h4] at hV
 have hpre:eJ w=true:=by simp[eJ,ji,hc,hle,h2,h3];simpa using h4
 have hR:EA w= .tup [.ptr 4 0,.bool (uU w.bad (w.views.map az) w.props)]:=by simp[EA,hpre]
 have hO:Ez w=rB w.com w.lead w.bad (w.views.map az) w.props:=by simp[Ez,hpre]
 rw[hR,hO]
 have h7:=(aw.1 hc).2
 have hll:=(fX.1 hle).2
 have hvl:w.views.length=w.com.length:=(jM hpre).2.2.2.2.1
 have hne:w.com≠[]:=fun h=>by rw[h] at h7;simp at h7
 have hCm:=zN w.com (by omega)
 have hCl:=zN w.lead (by omega)
 (repeat' first|refine bf ?_|refine sa fun xe hxe=>?_|refine sb (fun hq=>?_) fun hq=>?_|refine cr (hL) ?_|refine cr (hB) ?_|refine cr (hP) ?_|refine cr (hV) ?_|refine cr (hCm) ?_|refine cr (hCl) ?_|exact True.intro)
 refine hX 0 (.fvari 142 217 (.ob .vtx) []) rfl ?_
 refine ag hK [] [1,4,42,43,44] (Cm w) (fun i=>i≤w.views.length) (fun i=>w.views.length-i) 0 (by simp) (by(conv=>whnf);rfl) ?_
 intro i hi
 have hps:=mS hpre
 have hpl:=i4 h3
 have ht7:∀t∈w.views.map az,t.length=217:=fun t h=>by
  obtain⟨g,_,rfl⟩:=List.mem_map.1 h
  exact ch g
 have hml:(w.views.map az).length=w.views.length:=List.length_map ..
 by_cases hlt:i<w.views.length
 ·have hgm:w.views[i]∈w.views:=List.getElem_mem hlt
  have hxe:w.views[i]?=some w.views[i]:=List.getElem?_eq_getElem hlt
  have hsn:w.views.take (i+1)=w.views.take i++[w.views[i]]:=List.take_succ_eq_append_getElem hlt
  have hg:=kw hpre _ hgm
  generalize w.views[i]=g at *
  cases i with
  |zero=>
   have hx0:w.views[(0:Int).toNat]?=some g:=hxe
   have hst:Cm w (0+1)=⟨[(1,.ptr 4 0),(4,.ptr 5 0),(42,.lst (.lst .vtx) w.views),(43,.int .i64 w.views.length),(44,.int .i64 ((0+1:Nat):Int))],[(0,.fvari 142 217 (.ob .vtx) [az g]),(4,.var 31 (aP w).cells),(5,.var 83 [.int .i32 0,.int .u32 0,.lst (.int .i64) w.com,.lst (.int .i64) w.lead,.int .i64 w.bad,.ref 6,.nils]),(6,.row 115 (.hp 0) [some 0])],7⟩:=by
    rw[Cm,hsn]
    rfl
   have hs0:Cm w 0=⟨[(1,.ptr 4 0),(4,.ptr 5 0),(42,.lst (.lst .vtx) w.views),(43,.int .i64 w.views.length),(44,.int .i64 0)],[(0,.fvari 142 217 (.ob .vtx) []),(4,.var 31 (aP w).cells),(5,.var 83 [.int .i32 0,.int .u32 0,.lst (.int .i64) w.com,.lst (.int .i64) w.lead,.int .i64 w.bad,.nils,.nils])],6⟩:=rfl
   rw[hs0]
   (repeat' first|refine bf ?_|refine sa fun xe hxe=>?_|refine sb (fun hq=>?_) fun hq=>?_|refine cr (Dr g hg) ?_|exact True.intro)
   refine⟨0+1,by omega,by omega,?_⟩
   rw[hst]
   rfl
  |succ i=>
   have hfl:((w.views.take (i+1)).map az).length=i+1:=by rw[List.length_map,List.length_take];omega
   have hrl:((List.range (i+1)).map some).length=i+1:=by simp
   have hst:Cm w (i+1+1)=⟨[(1,.ptr 4 0),(4,.ptr 5 0),(42,.lst (.lst .vtx) w.views),(43,.int .i64 w.views.length),(44,.int .i64 ((i+1+1:Nat):Int))],[(0,.fvari 142 217 (.ob .vtx) ((w.views.take (i+1)).map az++[az g])),(4,.var 31 (aP w).cells),(5,.var 83 [.int .i32 0,.int .u32 0,.lst (.int .i64) w.com,.lst (.int .i64) w.lead,.int .i64 w.bad,.ref 6,.nils]),(6,.row 115 (.hp 0) ((List.range (i+1)).map some++[some (i+1)]))],7⟩:=by
    rw[Cm,hsn,List.map_append,List.range_succ,List.map_append]
    rfl
   have hs0:Cm w (i+1)=⟨[(1,.ptr 4 0),(4,.ptr 5 0),(42,.lst (.lst .vtx) w.views),(43,.int .i64 w.views.length),(44,.int .i64 ((i+1:Nat):Int))],[(0,.fvari 142 217 (.ob .vtx) ((w.views.take (i+1)).map az)),(4,.var 31 (aP w).cells),(5,.var 83 [.int .i32 0,.int .u32 0,.lst (.int .i64) w.com,.lst (.int .i64) w.lead,.int .i64 w.bad,.ref 6,.nils]),(6,.row 115 (.hp 0) ((List.range (i+1)).map some))],7⟩:=rfl
   rw[hs0]
   clear hs0
   generalize (w.views.take (i+1)).map az=ts at *
   generalize (List.range (i+1)).map some=rs at *
   (repeat' first|refine bf ?_|refine sa fun xe hxe=>?_|refine sb (fun hq=>?_) fun hq=>?_|refine cr (Dr g hg) ?_|exact True.intro)
   refine⟨i+1+1,by omega,by omega,?_⟩
   rw[hst,hfl]
   rfl
 ·have hi':i=w.views.length:=by omega
  have hK:=FK w.com w.lead w.bad (w.views.map az) w.props ht7 (by omega) (by omega) (by rw[hml];exact hps)
  have hCp:=D7 w.props (fun p hp=>⟨by have:=(hps p hp).2.2.2.2;omega,by have:=(hps p hp).2.2.2.1;omega⟩) (by omega)
  cases i with
  |zero=>omega
  |succ i=>
   have hs0:Cm w (i+1)=⟨[(1,.ptr 4 0),(4,.ptr 5 0),(42,.lst (.lst .vtx) w.views),(43,.int .i64 w.views.length),(44,.int .i64 ((i+1:Nat):Int))],[(0,.fvari 142 217 (.ob .vtx) (w.views.map az)),(4,.var 31 (aP w).cells),(5,.var 83 [.int .i32 0,.int .u32 0,.lst (.int .i64) w.com,.lst (.int .i64) w.lead,.int .i64 w.bad,.ref 6,.nils]),(6,.row 115 (.hp 0) ((List.range (w.views.map az).length).map some))],7⟩:=by
    rw[Cm,List.take_of_length_le (by omega),hml,←hi']
   rw[hs0]
   clear hs0
   generalize hts:w.views.map az=ts at *
   (repeat' first|refine bf ?_|refine sa fun xe hxe=>?_|refine sb (fun hq=>?_) fun hq=>?_|refine cr (hCp) ?_|refine co (hK) ?_|exact True.intro)
   exact⟨rfl,rfl⟩
theorem rq {α:Type}{a b:List α}{i:Nat}{x:α}(h:a.take i=b.take i)(ha:a[i]?=some x)(hb:b[i]?=some x):a.take (i+1)=b.take (i+1):=by
 rw[List.take_add_one,List.take_add_one,h,ha,hb]
theorem yY (a b:List Int):ai Tryz.prog 42 [.lst (.int .i64) a,.lst (.int .i64) b] [] (.bool (decide (a=b))) []:=by
 refine aa ak Tryz.func42 rfl rfl false 0 4 rfl rfl rfl rfl fun K hK hb1 hb2=>?_;simp only[ae,enc,Nat.reduceAdd]
 simp[af,V.toD,bnd,ab,D.cells] at hb1
 by_cases hl:a.length=b.length
 ·(repeat' first|refine st ?_|refine sa fun xe hxe=>?_|refine sb (fun hq=>?_) fun hq=>?_|exact True.intro)
  refine ag hK [] [0,1,4,5] (fun i:Nat=>⟨[(0,.lst (.int .i64) a),(1,.lst (.int .i64) b),(4,.bool false),(5,.int .i64 i)],[],4⟩) (fun i=>i≤a.length∧a.take i=b.take i) (fun i=>a.length-i) 0 ⟨by simp,by simp⟩ rfl ?_
  rintro i ⟨hi,hall⟩
  by_cases hlt:i<a.length
  ·obtain⟨x,hx⟩:∃x,a[i]?=some x:=⟨_,List.getElem?_eq_getElem hlt⟩
   obtain⟨y,hy⟩:∃y,b[i]?=some y:=⟨_,List.getElem?_eq_getElem (by omega)⟩
   (repeat' first|refine st ?_|refine sa fun xe hxe=>?_|refine sb (fun hq=>?_) fun hq=>?_|exact True.intro)
   ·have hne:¬x=y:=hq
    exact⟨by rw[decide_eq_false];rintro rfl;rw[hx] at hy;exact hne (Option.some.inj hy),rfl⟩
   ·subst hq
    exact⟨i+1,⟨by omega,rq hall hx hy⟩,by omega,rfl⟩
  ·(repeat' first|refine st ?_|refine sa fun xe hxe=>?_|refine sb (fun hq=>?_) fun hq=>?_|exact True.intro)
   have hab:a=b:=by rwa [List.take_of_length_le (by omega),List.take_of_length_le (by omega)] at hall
   exact⟨by rw[decide_eq_true hab],rfl⟩
 ·(repeat' first|refine st ?_|refine sa fun xe hxe=>?_|refine sb (fun hq=>?_) fun hq=>?_|exact True.intro)
  exact⟨by rw[decide_eq_false];rintro rfl;exact hl rfl,rfl⟩
theorem bE {α:Type}(c:List α)(a:List α)(x:α){i:Nat}(hc:c.length=i)(hi:i<a.length):(c++a.drop i).set i x=(c++[x])++a.drop (i+1):=by
 rw[List.set_append_right _ _ (by omega),hc,Nat.sub_self,List.drop_eq_getElem_cons hi]
 simp only[List.set_cons_zero,List.append_assoc,List.singleton_append]
theorem cI {α:Type}(c:List α)(a:List α){i:Nat}(hc:c.length=i)(hi:i<a.length):i<(c++a.drop i).length:=by simp;omega
theorem kH (a:List Int)(l:Int)(hl:0≤l∧l≤1048576):ai Tryz.prog 25 [.lst (.int .i64) a,.int .i64 l] [] (.int .i64 (if l-a.length<0 then-1 else l-a.length)) []:=by
 refine aa ak Tryz.func25 rfl rfl false 0 4 rfl rfl rfl rfl fun K hK hb1 hb2=>?_;simp only[ae,enc,Nat.reduceAdd]
 simp[af,V.toD,bnd,ab,D.cells] at hb1
 by_cases h:l-a.length<0
 ·(repeat' first|refine st ?_|refine sa fun xe hxe=>?_|refine sb (fun hq=>?_) fun hq=>?_|exact True.intro)
  exact⟨by rw[if_pos h],rfl⟩
 ·(repeat' first|refine st ?_|refine sa fun xe hxe=>?_|refine sb (fun hq=>?_) fun hq=>?_|exact True.intro)
  exact⟨by rw[if_neg h],rfl⟩
theorem eu (a:List Int)(ha:a.length≤1048576):ai Tryz.prog 34 [.lst (.int .i64) a] [] (.ref 4) [(4,.row 3 (.int .i64) a)]:=by
 refine aa ak Tryz.func34 rfl rfl false 0 4 rfl rfl rfl rfl fun K hK hb1 hb2=>?_;simp only[ae,enc,Nat.reduceAdd]
 (repeat' first|refine st ?_|refine sa fun xe hxe=>?_|refine sb (fun hq=>?_) fun hq=>?_|exact True.intro)
 refine ag hK [] [0,3,4] (fun i:Nat=>⟨[(0,.lst (.int .i64) a),(3,.ref 4),(4,.int .i64 i)],[(4,.row 3 (.int .i64) (a.take i++(List.replicate a.length 0).drop i))],5⟩) (fun i=>i≤a.length) (fun i=>a.length-i) 0 (by simp) (by simp;rfl) ?_
 intro i hi
 by_cases hlt:i<a.length
 ·have hx:a[i]?=some a[i]:=List.getElem?_eq_getElem hlt
  have hg:i<(a.take i++(List.replicate a.length (0:Int)).drop i).length:=cI _ _ (by simp;omega) (by simpa using hlt)
  have hs:(a.take i++(List.replicate a.length (0:Int)).drop i).set i a[i]=a.take (i+1)++(List.replicate a.length 0).drop (i+1):=by
   rw[bE _ _ _ (by simp;omega) (by simpa using hlt),List.take_succ_eq_append_getElem hlt]
  generalize hrow:a.take i++(List.replicate a.length (0:Int)).drop i=row at *
  generalize a[i]=x at *
  (repeat' first|refine st ?_|refine sa fun xe hxe=>?_|refine sb (fun hq=>?_) fun hq=>?_|exact True.intro)
  refine⟨i+1,by omega,by omega,?_⟩
  rw[←hs]
  rfl
 ·obtain rfl:i=a.length:=by omega
  (repeat' first|refine st ?_|refine sa fun xe hxe=>?_|refine sb (fun hq=>?_) fun hq=>?_|exact True.intro)
  simp
theorem nw (a:List Int):ai Tryz.prog 42 [.lst (.int .i64) a,.lst (.int .i64) a] [] (.bool true) []:=by
 have:=yY a a
 simpa using this
def jr (l:Int)(n:Nat):Int:=if l-n<0 then-1 else l-n
theorem jN (v:Vtx)(l:Int)(hl:0≤l∧l≤1048576):ai Tryz.prog 51 [bu v,.int .i64 l] [] (.int .i64 (jr l v.parents.length)) []:=by
 have hc:=kH v.parents l hl
 refine aa ak Tryz.func51 rfl rfl false 0 4 rfl rfl rfl rfl fun K hK hb1 hb2=>?_;simp only[ae,enc,Nat.reduceAdd]
 unfold jr
 by_cases h:l-v.parents.length<0
 ·rw[if_pos h] at hc
  (repeat' first|refine st ?_|refine sa fun xe hxe=>?_|refine sb (fun hq=>?_) fun hq=>?_|refine cr (hc) ?_|exact True.intro)
  exact⟨by rw[if_pos h],rfl⟩
 ·rw[if_neg h] at hc
  (repeat' first|refine st ?_|refine sa fun xe hxe=>?_|refine sb (fun hq=>?_) fun hq=>?_|refine cr (hc) ?_|exact True.intro)
  exact⟨by rw[if_neg h],rfl⟩
def en (g:List Vtx):Nat:=(g.map fun v=>v.parents.length).sum
theorem pE {g:List Vtx}{i:Nat}{v:Vtx}(h:g[i]?=some v):en (g.take (i+1))=en (g.take i)+v.parents.length:=by
 obtain⟨hl,rfl⟩:=List.getElem?_eq_some_iff.1 h
 rw[List.take_succ_eq_append_getElem hl]
 unfold en
 rw[List.map_append,List.sum_append]
 simp
theorem AD (a b:List Vtx):en (a++b)=en a+en b:=by unfold en;rw[List.map_append,List.sum_append]
theorem wP (g:List Vtx)(i:Nat):en (g.take i)≤en g:=by
 have:=AD (g.take i) (g.drop i)
 rw[List.take_append_drop] at this
 omega
theorem tI (g:List Vtx)(l:Int)(hl:0≤l∧l≤1048576):ai Tryz.prog 56 [.lst .vtx g,.int .i64 l] [] (.int .i64 (jr l (g.length+en g))) []:=by
 refine aa ak Tryz.func56 rfl rfl false 0 4 rfl rfl rfl rfl fun K hK hb1 hb2=>?_;simp only[ae,enc,Nat.reduceAdd]
 simp[af,V.toD,bnd,ab,D.cells] at hb1
 have hno:l-g.length-en g<0→V.int .i64 (-1)=V.int .i64 (jr l (g.length+en g))∧([]:VH)=[]:=fun h=>⟨by rw[jr,if_pos (by omega)],rfl⟩
 by_cases h0:l-g.length<0
 ·(repeat' first|refine st ?_|refine sa fun xe hxe=>?_|refine sb (fun hq=>?_) fun hq=>?_|exact True.intro)
  exact hno (by omega)
 (repeat' first|refine st ?_|refine sa fun xe hxe=>?_|refine sb (fun hq=>?_) fun hq=>?_|exact True.intro)
 refine ag hK [] [0,1,5] (fun i:Nat=>⟨[(0,.lst .vtx g),(1,.int .i64 (l-g.length-en (g.take i))),(5,.int .i64 i)],[],4⟩) (fun i=>i≤g.length∧0≤l-g.length-en (g.take i)) (fun i=>g.length-i) 0 ⟨by simp,by simp[en];omega⟩ (by simp[en];rfl) ?_
 rintro i ⟨hi,hp⟩
 by_cases hlt:i<g.length
 ·have hxe:g[i]?=some g[i]:=List.getElem?_eq_getElem hlt
  have h3:=pE hxe
  have h4:=wP g (i+1)
  generalize g[i]=v at *
  have hc:=jN v (l-g.length-en (g.take i)) (by omega)
  unfold jr at hc
  by_cases h5:l-g.length-en (g.take i)-v.parents.length<0
  ·rw[if_pos h5] at hc
   (repeat' first|refine st ?_|refine sa fun xe hxe=>?_|refine sb (fun hq=>?_) fun hq=>?_|refine cr (hc) ?_|exact True.intro)
   exact hno (by omega)
  ·rw[if_neg h5] at hc
   (repeat' first|refine st ?_|refine sa fun xe hxe=>?_|refine sb (fun hq=>?_) fun hq=>?_|refine cr (hc) ?_|exact True.intro)
   refine⟨i+1,by omega,by omega,?_⟩
   rw[h3,show l-(g.length:Int)-((en (g.take i)+v.parents.length:Nat):Int)=l-g.length-en (g.take i)-v.parents.length by omega]
   rfl
 ·rw[List.take_of_length_le (by omega)] at *
  (repeat' first|refine st ?_|refine sa fun xe hxe=>?_|refine sb (fun hq=>?_) fun hq=>?_|exact True.intro)
  exact⟨by rw[jr,if_neg (by omega)];congr 1;omega,rfl⟩
theorem jO (v:Vtx)(hv:v.parents.length≤1048576):ai Tryz.prog 53 [bu v] [] (bu v) []:=by
 refine aa ak Tryz.func53 rfl rfl true 0 4 rfl rfl rfl rfl fun K hK hb1 hb2=>?_;simp only[ae,enc,Nat.reduceAdd]
 (repeat' first|refine st ?_|refine sa fun xe hxe=>?_|refine sb (fun hq=>?_) fun hq=>?_|refine cr (eu _ hv) ?_|exact True.intro)
 exact⟨rfl,rfl⟩
theorem tO (g:List Vtx)(hg:g.length≤1048576)(hv:∀v∈g,v.parents.length≤1048576):ai Tryz.prog 73 [.lst .vtx g] [] (.lst .vtx g) []:=by
 refine aa ak Tryz.func73 rfl rfl true 0 4 rfl rfl rfl rfl fun K hK hb1 hb2=>?_;simp only[ae,enc,Nat.reduceAdd]
 clear hb1 hb2
 (repeat' first|refine st ?_|refine sa fun xe hxe=>?_|refine sb (fun hq=>?_) fun hq=>?_|exact True.intro)
 refine ag hK [] [0,3,4] (fun i:Nat=>⟨[(0,.lst .vtx g),(3,.ref 4),(4,.int .i64 i)],[(4,.row 43 .vtx (g.take i++(List.replicate g.length v0).drop i))],5⟩) (fun i=>i≤g.length) (fun i=>g.length-i) 0 (by simp) (by simp;rfl) ?_
 intro i hi
 by_cases hlt:i<g.length
 ·have hx:g[i]?=some g[i]:=List.getElem?_eq_getElem hlt
  have dJ:i<(g.take i++(List.replicate g.length v0).drop i).length:=cI _ _ (by simp;omega) (by simpa using hlt)
  have hs:(g.take i++(List.replicate g.length v0).drop i).set i g[i]=g.take (i+1)++(List.replicate g.length v0).drop (i+1):=by
   rw[bE _ _ _ (by simp;omega) (by simpa using hlt),List.take_succ_eq_append_getElem hlt]
  have hvl:=hv _ (List.getElem_mem hlt)
  generalize hrow:g.take i++(List.replicate g.length v0).drop i=row at *
  generalize g[i]=x at *
  (repeat' first|refine st ?_|refine sa fun xe hxe=>?_|refine sb (fun hq=>?_) fun hq=>?_|refine cr (jO _ hvl) ?_|exact True.intro)
  refine⟨i+1,by omega,by omega,?_⟩
  rw[←hs]
  rfl
 ·obtain rfl:i=g.length:=by omega
  (repeat' first|refine st ?_|refine sa fun xe hxe=>?_|refine sb (fun hq=>?_) fun hq=>?_|exact True.intro)
  simp
theorem jx (v:Vtx):ai Tryz.prog 54 [bu v,bu v] [] (.bool true) []:=by
 refine aa ak Tryz.func54 rfl rfl false 0 4 rfl rfl rfl rfl fun K hK hb1 hb2=>?_;simp only[ae,enc,Nat.reduceAdd]
 (repeat' first|refine st ?_|refine sa fun xe hxe=>?_|refine sb (fun hq=>?_) fun hq=>?_|refine cr (nw _) ?_|exact True.intro)
 all_goals first|(exact⟨rfl,rfl⟩)|exact absurd rfl hq|exact absurd trivial hq|cases hq
theorem r8 (g:List Vtx):ai Tryz.prog 92 [.lst .vtx g,.lst .vtx g] [] (.bool true) []:=by
 refine aa ak Tryz.func92 rfl rfl false 0 4 rfl rfl rfl rfl fun K hK hb1 hb2=>?_;simp only[ae,enc,Nat.reduceAdd]
 simp[af,V.toD,bnd,ab,D.cells] at hb1
 (repeat' first|refine st ?_|refine sa fun xe hxe=>?_|refine sb (fun hq=>?_) fun hq=>?_|exact True.intro)
 ·exact absurd trivial hq
 refine ag hK [] [0,1,5] (fun i:Nat=>⟨[(0,.lst .vtx g),(1,.lst .vtx g),(5,.int .i64 i)],[],4⟩) (fun i=>i≤g.length) (fun i=>g.length-i) 0 (by simp) rfl ?_
 intro i hi
 by_cases hlt:i<g.length
 ·have hx:g[i]?=some g[i]:=List.getElem?_eq_getElem hlt
  generalize g[i]=x at *
  (repeat' first|refine st ?_|refine sa fun xe hxe=>?_|refine sb (fun hq=>?_) fun hq=>?_|refine cr (jx _) ?_|exact True.intro)
  exact⟨i+1,by omega,by omega,rfl⟩
 ·(repeat' first|refine st ?_|refine sa fun xe hxe=>?_|refine sb (fun hq=>?_) fun hq=>?_|exact True.intro)
  exact⟨rfl,rfl⟩
theorem EE {g:List Vtx}{v:Vtx}(h:v∈g):v.parents.length≤en g:=by
 obtain⟨i,hi⟩:=List.getElem?_of_mem h
 have h1:=pE hi
 have h2:=wP g (i+1)
 omega
theorem tV {tab:List (Option Vtx)}{n:Nat}{o:Option Vtx}(h:tab[n]?=some o):aT (tab.take (n+1))=aT (tab.take n)++o.toList:=by
 obtain⟨hl,rfl⟩:=List.getElem?_eq_some_iff.1 h
 rw[List.take_succ_eq_append_getElem hl]
 simp only[aT,List.filterMap_append]
 cases tab[n]<;>rfl
theorem xh (tab:List (Option Vtx)):(aT tab).length≤tab.length:=List.length_filterMap_le ..
set_option maxHeartbeats 1000000 in
theorem Ei (tabs:List (List (Option Vtx)))(k:Nat)(tab:List (Option Vtx))(hk:tabs[k]?=some tab)(ht:tab.length=217)(hv:∀v,some v∈tab→v.parents.length≤1000000):ai Tryz.prog 91 [.fptr 0 k 0] [(0,.fvari 142 217 (.ob .vtx) tabs)] (.lst .vtx (aT tab)) [(0,.fvari 142 217 (.ob .vtx) tabs)]:=by
 refine aa ak Tryz.func91 rfl rfl true 0 4 rfl rfl rfl rfl fun K hK hb1 hb2=>?_;simp only[ae,enc,Nat.reduceAdd]
 clear hb1 hb2
 have hat:∀n,n<217→tab[n]?=some (tab.getD n none):=fun n hn=>by rw[List.getD_eq_getElem?_getD,List.getElem?_eq_getElem (by omega)];rfl
 (repeat' first|refine st ?_|refine sa fun xe hxe=>?_|refine sb (fun hq=>?_) fun hq=>?_|exact True.intro)
 refine ag hK [] [3,9,11] (fun r:Nat=>⟨[(3,.ref 4),(9,.fptr 0 k 0),(11,.int .i64 (r:Int))],[(0,.fvari 142 217 (.ob .vtx) tabs),(4,.row 43 .vtx (aT (tab.take (r*7))))],5⟩) (fun r=>r≤31) (fun r=>31-r) 0 (by omega) rfl ?_
 intro r hr
 by_cases hlt:r<31
 ·obtain⟨e,he⟩:∃e:Nat→Option Vtx,∀j,e j=tab.getD (r*7+j) none:=⟨_,fun _=>rfl⟩
  have hg:∀j,j<7→tab[r*7+j]?=some (e j):=fun j hj=>by rw[he];exact hat _ (by omega)
  (repeat' first|refine st ?_|refine sa fun xe hxe=>?_|refine sb (fun hq=>?_) fun hq=>?_|exact True.intro)
  rename_i e0 h0 e1 h1 e2 h2 e3 h3 e4 h4 e5 h5
  obtain rfl:e0=e 0:=Option.some.inj (h0.symm.trans (hg 0 (by omega)))
  obtain rfl:e1=e 1:=Option.some.inj (h1.symm.trans (hg 1 (by omega)))
  obtain rfl:e2=e 2:=Option.some.inj (h2.symm.trans (hg 2 (by omega)))
  obtain rfl:e3=e 3:=Option.some.inj (h3.symm.trans (hg 3 (by omega)))
  obtain rfl:e4=e 4:=Option.some.inj (h4.symm.trans (hg 4 (by omega)))
  obtain rfl:e5=e 5:=Option.some.inj (h5.symm.trans (hg 5 (by omega)))
  obtain rfl:xe=e 6:=Option.some.inj (hxe.symm.trans (hg 6 (by omega)))
  clear h0 h1 h2 h3 h4 h5 hxe
  refine ag hK [] [3,9,11,16,17] (fun j:Nat=>⟨[(3,.ref 4),(9,.fptr 0 k 0),(11,.int .i64 (r:Int)),(16,.agg [.obo .vtx (e 0),.obo .vtx (e 1),.obo .vtx (e 2),.obo .vtx (e 3),.obo .vtx (e 4),.obo .vtx (e 5),.obo .vtx (e 6)]),(17,.int .i64 (j:Int))],[(0,.fvari 142 217 (.ob .vtx) tabs),(4,.row 43 .vtx (aT (tab.take (r*7+j))))],5⟩) (fun j=>j≤7) (fun j=>7-j) 0 (by omega) rfl ?_
  intro j hj
  by_cases hjl:j<7
  ·have hs:=tV (hg j hjl)
   have hvj:∀v,e j=some v→v.parents.length≤1000000:=fun v h=>hv v (List.mem_of_getElem? (by rw[hg j hjl,h]))
   have hll:=xh (tab.take (r*7+j))
   rw[List.length_take] at hll
   obtain⟨j1,hj1⟩:∃j1,j1=j+1:=⟨_,rfl⟩
   have hji:((j1:Nat):Int)=(j:Int)+1:=by omega
   rw[Nat.add_assoc,←hj1] at hs
   obtain⟨o,ho⟩:∃o,o=e j:=⟨_,rfl⟩
   rw[←ho] at hs hvj
   generalize aT (tab.take (r*7+j))=l at *
   obtain rfl|rfl|rfl|rfl|rfl|rfl|rfl:j=0∨j=1∨j=2∨j=3∨j=4∨j=5∨j=6:=by omega
   all_goals
    rw[←ho]
    cases o with
    |none=>
     (repeat' first|refine st ?_|refine sa fun xe hxe=>?_|refine sb (fun hq=>?_) fun hq=>?_|exact True.intro)
     refine⟨j1,by omega,by omega,?_⟩
     rw[hs,hji,Option.toList_none,List.append_nil]
     try rfl
    |some v=>
     have hvv:=hvj v rfl
     (repeat' first|refine st ?_|refine sa fun xe hxe=>?_|refine sb (fun hq=>?_) fun hq=>?_|refine cr (jq _ hvv) ?_|exact True.intro)
     refine⟨j1,by omega,by omega,?_⟩
     rw[hs,hji]
     rfl
  ·obtain rfl:j=7:=by omega
   (repeat' first|refine st ?_|refine sa fun xe hxe=>?_|refine sb (fun hq=>?_) fun hq=>?_|exact True.intro)
   exact⟨r+1,by omega,by omega,by rw[show (r+1)*7=r*7+7 by omega];rfl⟩
 ·obtain rfl:r=31:=by omega
  (repeat' first|refine st ?_|refine sa fun xe hxe=>?_|refine sb (fun hq=>?_) fun hq=>?_|exact True.intro)
  rw[List.take_of_length_le (by omega)]
  exact⟨rfl,rfl⟩
theorem Ej (tabs:List (List (Option Vtx)))(k:Nat)(tab:List (Option Vtx))(hk:tabs[k]?=some tab)(ht:tab.length=217)(hv:∀v,some v∈tab→v.parents.length≤1000000):ai Tryz.prog 91 [.hpo 0 (some k)] [(0,.fvari 142 217 (.ob .vtx) tabs)] (.lst .vtx (aT tab)) [(0,.fvari 142 217 (.ob .vtx) tabs)]:=by
 have h:=Ei tabs k tab hk ht hv
 unfold ai at h⊢
 exact h

end Go.Proofs.YthmfppknagbkeaaGreat.Am
