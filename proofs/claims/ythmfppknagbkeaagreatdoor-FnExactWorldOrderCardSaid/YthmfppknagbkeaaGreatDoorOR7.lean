/- Runs: leaders, faulty members, pairs of proposals: what the functions give. Runs: tables of graphs, parents that are known. Runs: graphs of members, copies: what the program's functions give. Runs: clones of proposals, views that cover. Runs: parents that are known. Runs: clones of lists of numbers (the empty ones by the shelf). Runs: a run is opened. The exact laws' own functions on lists of numbers and vertices. Runs: the vertices of a graph's table; copies of proposals; a run as it is handed back. Runs: what is handed back; new runs, valid runs. -/
import Derived.Shelf.Slices.Clone
import Derived.Test.YthmfppknagbkeaaGreatDoorOR6
set_option linter.unusedSimpArgs false
set_option linter.unusedVariables false
set_option maxHeartbeats 1000000
namespace Go.Proofs.YthmfppknagbkeaaGreatDoor.Am
open Go
attribute [local irreducible] Mk ba Ari di jQ f4 bh bV eY d6 At aj
set_option maxRecDepth 10000
theorem B0 (c l:List Int):aj Tryz.prog 138 [.lst (.int .i64) c,.lst (.int .i64) l] [] (.bool (leaS c l)) []:=by
 refine ab ak Tryz.func138 rfl rfl false 0 4 rfl rfl rfl rfl fun K hK hb1 hb2=>?_;simp only[af,enc,Nat.reduceAdd]
 simp[ae,V.toD,bnd,aa,D.cells] at hb1
 (repeat' first|refine st ?_|refine sa fun xe hxe=>?_|refine sb (fun hq=>?_) fun hq=>?_|exact True.intro)
 refine ah hK [] [0,1,5] (fun i:Nat=>⟨[(0,.lst (.int .i64) c),(1,.lst (.int .i64) l),(5,.int .i64 i)],[],4⟩) (fun i=>i≤l.length∧∀j,j<i→bY c (l.getD j 0)=true) (fun i=>l.length-i) 0 ⟨by simp,by simp⟩ rfl ?_
 rintro i ⟨hi,hall⟩
 by_cases hlt:i<l.length
 ·have hxe:l[i]?=some l[i]:=List.getElem?_eq_getElem hlt
  have hno:bY c l[i]=false→leaS c l=false:=fun h=>by
   unfold leaS
   rw[bN hlt (by rw[aV hxe];exact h),Bool.false_and]
  have hys:=a8 hall (p:=fun j=>bY c (l.getD j 0)) (i:=i)
  simp only[aV hxe] at hys
  generalize l[i]=m at *
  (repeat' first|refine st ?_|refine sa fun xe hxe=>?_|refine sb (fun hq=>?_) fun hq=>?_|refine cr (na _ _ _) ?_|exact True.intro)
  ·rw[hno hq]
   exact⟨rfl,rfl⟩
  ·exact⟨i+1,⟨by omega,hys hq⟩,by omega,rfl⟩
 ·(repeat' first|refine st ?_|refine sa fun xe hxe=>?_|refine sb (fun hq=>?_) fun hq=>?_|exact True.intro)
  unfold leaS
  rw[bB (fun j hj=>hall j (by omega)),Bool.true_and]
  exact⟨rfl,rfl⟩
theorem Dc (c l:List Int):aj Tryz.prog 123 [.lst (.int .i64) c,.lst (.int .i64) l] [] (.bool (comV c && leaS c l)) []:=by
 refine ab ak Tryz.func123 rfl rfl false 0 4 rfl rfl rfl rfl fun K hK hb1 hb2=>?_;simp only[af,enc,Nat.reduceAdd]
 (repeat' first|refine st ?_|refine sa fun xe hxe=>?_|refine sb (fun hq=>?_) fun hq=>?_|refine cr (ss _) ?_|refine cr (B0 _ _) ?_|exact True.intro)
 all_goals (refine⟨?_,rfl⟩;simp_all)
theorem k9 (c l:List Int):aj Tryz.prog 101 [.lst (.int .i64) c,.lst (.int .i64) l] [] (.bool (comV c && leaS c l)) []:=by
 refine ab ak Tryz.func101 rfl rfl false 0 4 rfl rfl rfl rfl fun K hK hb1 hb2=>?_;simp only[af,enc,Nat.reduceAdd]
 simp[ae,V.toD,bnd,aa,D.cells] at hb1
 cases hc:comV c
 ·(repeat' first|refine st ?_|refine sa fun xe hxe=>?_|refine sb (fun hq=>?_) fun hq=>?_|refine cr (jb _) ?_|exact True.intro)
  exact⟨rfl,rfl⟩
 rw[Bool.true_and]
 by_cases h15:15<(l.length:Int)
 ·(repeat' first|refine st ?_|refine sa fun xe hxe=>?_|refine sb (fun hq=>?_) fun hq=>?_|refine cr (jb _) ?_|exact True.intro)
  unfold leaS
  rw[decide_eq_false (by omega),Bool.and_false]
  exact⟨rfl,rfl⟩
 (repeat' first|refine st ?_|refine sa fun xe hxe=>?_|refine sb (fun hq=>?_) fun hq=>?_|refine cr (jb _) ?_|exact True.intro)
 refine ah hK [] [0,15,16,17] (fun i:Nat=>⟨[(0,.lst (.int .i64) c),(15,.lst (.int .i64) l),(16,.int .i64 l.length),(17,.int .i64 i)],[],4⟩) (fun i=>i≤l.length∧∀j,j<i→bY c (l.getD j 0)=true) (fun i=>l.length-i) 0 ⟨by simp,by simp⟩ rfl ?_
 rintro i ⟨hi,hall⟩
 by_cases hlt:i<l.length
 ·have hxe:l[i]?=some l[i]:=List.getElem?_eq_getElem hlt
  have hno:bY c l[i]=false→leaS c l=false:=fun h=>by
   unfold leaS
   rw[bN hlt (by rw[aV hxe];exact h),Bool.false_and]
  have hys:=a8 hall (p:=fun j=>bY c (l.getD j 0)) (i:=i)
  simp only[aV hxe] at hys
  generalize l[i]=m at *
  (repeat' first|refine st ?_|refine sa fun xe hxe=>?_|refine sb (fun hq=>?_) fun hq=>?_|refine cr (cN _ _) ?_|exact True.intro)
  ·rw[hno hq]
   exact⟨rfl,rfl⟩
  ·exact⟨i+1,⟨by omega,hys hq⟩,by omega,rfl⟩
 ·(repeat' first|refine st ?_|refine sa fun xe hxe=>?_|refine sb (fun hq=>?_) fun hq=>?_|exact True.intro)
  unfold leaS
  rw[bB (fun j hj=>hall j (by omega)),Bool.true_and,decide_eq_true (by omega)]
  exact⟨rfl,rfl⟩
theorem x6 (c:List Int)(hc:comV c=true):aj Tryz.prog 154 [.lst (.int .i64) c] [] (.int .i64 (ug c)) []:=by
 have h1:=fU hc
 have h2:=xu hc
 have h3:(kJ c-1).tdiv 3=ug c:=rfl
 refine ab ak Tryz.func154 rfl rfl false 0 4 rfl rfl rfl rfl fun K hK hb1 hb2=>?_;simp only[af,enc,Nat.reduceAdd]
 (repeat' first|refine st ?_|refine sa fun xe hxe=>?_|refine sb (fun hq=>?_) fun hq=>?_|refine cr (sO _ hc) ?_|exact True.intro)
 exact⟨rfl,rfl⟩
theorem AB (c:List Int)(b:Int)(hc:comV c=true):aj Tryz.prog 102 [.lst (.int .i64) c,.int .i64 b] [] (.bool (badS c b)) []:=by
 refine ab ak Tryz.func102 rfl rfl false 0 4 rfl rfl rfl rfl fun K hK hb1 hb2=>?_;simp only[af,enc,Nat.reduceAdd]
 clear hb1 hb2
 cases h0:b== -1
 ·have hne:b≠-1:=by simpa using h0
  cases h1:bY c b
  ·have:badS c b=false:=by
    rw[Bool.eq_false_iff]
    intro h
    rcases lJ.1 h with h|h
    ·exact hne h
    ·rw[bY,av.2 (by omega)] at h1;cases h1
   rw[this]
   (repeat' first|refine st ?_|refine sa fun xe hxe=>?_|refine sb (fun hq=>?_) fun hq=>?_|refine cr (cN _ _) ?_|exact True.intro)
   exact⟨rfl,rfl⟩
  ·have hm:=av.1 h1
   have hx2:c[b.toNat]?=some (c.getD b.toNat 0):=by rw[List.getD_eq_getElem?_getD,List.getElem?_eq_getElem (show b.toNat<c.length by omega)];rfl
   have hb:badS c b=decide (c.getD b.toNat 0≤ug c):=by
    rw[Bool.eq_iff_iff,lJ,decide_eq_true_eq]
    constructor
    ·rintro(h|⟨-,h⟩)
     ·exact absurd h hne
     ·exact h
    ·intro h;exact .inr ⟨by omega,h⟩
   rw[hb]
   generalize c.getD b.toNat 0=x at *
   (repeat' first|refine st ?_|refine sa fun xe hxe=>?_|refine sb (fun hq=>?_) fun hq=>?_|refine cr (cN _ _) ?_|refine cr (x6 _ hc) ?_|exact True.intro)
   exact⟨rfl,rfl⟩
 ·have hb:b= -1:=by simpa using h0
  have:badS c b=true:=lJ.2 (.inl hb)
  rw[this]
  (repeat' first|refine st ?_|refine sa fun xe hxe=>?_|refine sb (fun hq=>?_) fun hq=>?_|refine cr (cN _ _) ?_|refine cr (x6 _ hc) ?_|exact True.intro)
  all_goals exact⟨rfl,rfl⟩
abbrev iv (p:Ppl):V:=.agg [.int .i64 p.v.round,.int .i64 p.v.author,.lst (.int .i64) p.v.parents,.int .i64 p.v.digest,.lst (.int .i64) p.members]
theorem up (c:List Int)(p:Ppl)(hc:comV c=true)(hm:cj c p.members=true):aj Tryz.prog 161 [iv p,.lst (.int .i64) c] [] (.bool (don c p)) []:=by
 have hw:wz c p.members=jO c p.members:=by simp[wz,hc,hm]
 have hwc:=ur c p.members
 have hqc:=uq c
 rw[hw] at hwc
 rw[hc] at hqc
 refine ab ak Tryz.func161 rfl rfl false 0 4 rfl rfl rfl rfl fun K hK hb1 hb2=>?_;simp only[af,enc,Nat.reduceAdd]
 (repeat' first|refine st ?_|refine sa fun xe hxe=>?_|refine sb (fun hq=>?_) fun hq=>?_|refine cr (hwc) ?_|refine cr (hqc) ?_|exact True.intro)
 exact⟨rfl,rfl⟩
theorem oZ (v u:Vtx):aj Tryz.prog 171 [bS v,bS u] [] (.bool (slt v u)) []:=by
 refine ab ak Tryz.func171 rfl rfl false 0 4 rfl rfl rfl rfl fun K hK hb1 hb2=>?_;simp only[af,enc,Nat.reduceAdd]
 (repeat' first|refine st ?_|refine sa fun xe hxe=>?_|refine sb (fun hq=>?_) fun hq=>?_|exact True.intro)
 all_goals (refine⟨?_,rfl⟩;simp_all[slt])
theorem DE (a b:List Int):aj Tryz.prog 191 [.lst (.int .i64) a,.lst (.int .i64) b] [] (.bool (a==b)) []:=by
 refine ab ak Tryz.func191 rfl rfl false 0 4 rfl rfl rfl rfl fun K hK hb1 hb2=>?_;simp only[af,enc,Nat.reduceAdd]
 simp[ae,V.toD,bnd,aa,D.cells] at hb1
 by_cases hl:a.length=b.length
 ·(repeat' first|refine st ?_|refine sa fun xe hxe=>?_|refine sb (fun hq=>?_) fun hq=>?_|exact True.intro)
  refine ah hK [] [0,1,11,12,13] (fun i:Nat=>⟨[(0,.lst (.int .i64) a),(1,.lst (.int .i64) b),(11,.lst (.int .i64) a),(12,.int .i64 a.length),(13,.int .i64 i)],[],4⟩) (fun i=>i≤a.length∧a.take i=b.take i) (fun i=>a.length-i) 0 ⟨by simp,by simp⟩ rfl ?_
  rintro i ⟨hi,hall⟩
  by_cases hlt:i<a.length
  ·obtain⟨x,hx⟩:∃x,a[i]?=some x:=⟨_,List.getElem?_eq_getElem hlt⟩
   obtain⟨y,hy⟩:∃y,b[i]?=some y:=⟨_,List.getElem?_eq_getElem (by omega)⟩
   (repeat' first|refine st ?_|refine sa fun xe hxe=>?_|refine sb (fun hq=>?_) fun hq=>?_|exact True.intro)
   ·have hne:¬x=y:=hq
    have:(a==b)=false:=by rw[beq_eq_false_iff_ne];rintro rfl;rw[hx] at hy;exact hne (Option.some.inj hy)
    rw[this]
    exact⟨rfl,rfl⟩
   ·subst hq
    exact⟨i+1,⟨by omega,by rw[List.take_add_one,List.take_add_one,hall,hx,hy]⟩,by omega,rfl⟩
  ·(repeat' first|refine st ?_|refine sa fun xe hxe=>?_|refine sb (fun hq=>?_) fun hq=>?_|exact True.intro)
   have hab:a=b:=by rwa [List.take_of_length_le (by omega),List.take_of_length_le (by omega)] at hall
   rw[hab,beq_self_eq_true]
   exact⟨rfl,rfl⟩
 ·(repeat' first|refine st ?_|refine sa fun xe hxe=>?_|refine sb (fun hq=>?_) fun hq=>?_|exact True.intro)
  have:(a==b)=false:=by rw[beq_eq_false_iff_ne];rintro rfl;exact hl rfl
  rw[this]
  exact⟨rfl,rfl⟩
theorem j4 (v u:Vtx):aj Tryz.prog 160 [bS v,bS u] [] (.bool (jN v u)) []:=by
 refine ab ak Tryz.func160 rfl rfl false 0 4 rfl rfl rfl rfl fun K hK hb1 hb2=>?_;simp only[af,enc,Nat.reduceAdd]
 (repeat' first|refine st ?_|refine sa fun xe hxe=>?_|refine sb (fun hq=>?_) fun hq=>?_|refine cr (DE _ _) ?_|exact True.intro)
 all_goals (refine⟨?_,rfl⟩;simp_all[jN])
theorem Bn (l:List Int)(n:Int):aj Tryz.prog 200 [.lst (.int .i64) l,.int .i64 n] [] (.int .i64 (match l.findIdx? (· ==n) with|some i=>(i:Int)|none=>-1)) []:=by
 refine ab ak Tryz.func200 rfl rfl false 0 4 rfl rfl rfl rfl fun K hK hb1 hb2=>?_;simp only[af,enc,Nat.reduceAdd]
 simp[ae,V.toD,bnd,aa,D.cells] at hb1
 (repeat' first|refine st ?_|refine sa fun xe hxe=>?_|refine sb (fun hq=>?_) fun hq=>?_|exact True.intro)
 refine ah hK [] [0,1,7,8] (fun i:Nat=>⟨[(0,.lst (.int .i64) l),(1,.int .i64 n),(7,.int .i64 l.length),(8,.int .i64 i)],[],4⟩) (fun i=>i≤l.length∧∀y∈l.take i,(y==n)=false) (fun i=>l.length-i) 0 ⟨by simp,by simp⟩ rfl ?_
 rintro i ⟨hi,hall⟩
 by_cases hlt:i<l.length
 ·have hxe:l[i]?=some l[i]:=List.getElem?_eq_getElem hlt
  have h3:l.take (i+1)=l.take i++[l[i]]:=List.take_succ_eq_append_getElem hlt
  have h4:=kY (l:=l) (p:=(· ==n)) hxe hall
  generalize l[i]=y at *
  by_cases he:n=y
  ·have hb:(n==y)=true:=by simpa using he
   (repeat' first|refine st ?_|refine sa fun xe hxe=>?_|refine sb (fun hq=>?_) fun hq=>?_|exact True.intro)
   rw[h4 (by simpa using he.symm)]
   exact⟨rfl,rfl⟩
  ·have hb:(n==y)=false:=by simpa using he
   (repeat' first|refine st ?_|refine sa fun xe hxe=>?_|refine sb (fun hq=>?_) fun hq=>?_|exact True.intro)
   exact⟨i+1,⟨by omega,by rw[h3];exact a5 hall (by simpa using fun h=>he h.symm)⟩,by omega,rfl⟩
 ·(repeat' first|refine st ?_|refine sa fun xe hxe=>?_|refine sb (fun hq=>?_) fun hq=>?_|exact True.intro)
  rw[List.take_of_length_le (by omega)] at hall
  rw[List.findIdx?_eq_none_iff.2 hall]
  exact⟨rfl,rfl⟩
theorem fS (l:List Int)(n:Int):aj Tryz.prog 172 [.lst (.int .i64) l,.int .i64 n] [] (.bool (l.contains n)) []:=by
 refine ab ak Tryz.func172 rfl rfl false 0 4 rfl rfl rfl rfl fun K hK hb1 hb2=>?_;simp only[af,enc,Nat.reduceAdd]
 (repeat' first|refine st ?_|refine sa fun xe hxe=>?_|refine sb (fun hq=>?_) fun hq=>?_|refine cr (Bn _ _) ?_|exact True.intro)
 refine⟨?_,rfl⟩
 have:l.contains n=(l.findIdx? (· ==n)).isSome:=by
  rw[List.findIdx?_isSome,Bool.eq_iff_iff,List.contains_iff_mem,List.any_eq_true]
  constructor
  ·intro h;exact⟨n,h,by simp⟩
  ·rintro⟨x,h1,h2⟩;rw[beq_iff_eq] at h2;exact h2▸h1
 rw[this]
 cases l.findIdx? (· ==n) with
 |none=>rfl
 |some i=>simp
theorem Au (p q:Ppl)(bad:Int):aj Tryz.prog 156 [iv p,iv q,.int .i64 bad] [] (.bool (fitP bad p q)) []:=by
 refine ab ak Tryz.func156 rfl rfl false 0 4 rfl rfl rfl rfl fun K hK hb1 hb2=>?_;simp only[af,enc,Nat.reduceAdd]
 simp[ae,V.toD,bnd,aa,D.cells] at hb1
 cases h1:slt p.v q.v
 ·have:fitP bad p q=true:=by simp[fitP,h1]
  rw[this]
  (repeat' first|refine st ?_|refine sa fun xe hxe=>?_|refine sb (fun hq=>?_) fun hq=>?_|refine cr (oZ _ _) ?_|refine cr (j4 _ _) ?_|refine cr (fS _ _) ?_|exact True.intro)
  exact⟨rfl,rfl⟩
 cases h2:jN p.v q.v
 ·cases h3:p.v.author==bad
  ·have:fitP bad p q=false:=by simp[fitP,h1,h2,h3]
   rw[this]
   have hn:(p.v.author !=bad)=true:=by rw[bne,h3];rfl
   (repeat' first|refine st ?_|refine sa fun xe hxe=>?_|refine sb (fun hq=>?_) fun hq=>?_|refine cr (oZ _ _) ?_|refine cr (j4 _ _) ?_|refine cr (fS _ _) ?_|exact True.intro)
   exact⟨rfl,rfl⟩
  ·have hf:fitP bad p q= !lL bad p.members q.members:=by simp[fitP,h1,h2,h3]
   rw[hf]
   have hn:(p.v.author !=bad)=false:=by rw[bne,h3];rfl
   (repeat' first|refine st ?_|refine sa fun xe hxe=>?_|refine sb (fun hq=>?_) fun hq=>?_|refine cr (oZ _ _) ?_|refine cr (j4 _ _) ?_|refine cr (fS _ _) ?_|exact True.intro)
   refine ah hK [] [2,4,28,29,30] (fun i:Nat=>⟨[(2,.int .i64 bad),(4,.ptr 4 0),(28,.lst (.int .i64) p.members),(29,.int .i64 p.members.length),(30,.int .i64 i)],[(4,.var 50 (iv q).cells)],5⟩) (fun i=>i≤p.members.length∧∀m∈p.members.take i,(m !=bad && q.members.contains m)=false) (fun i=>p.members.length-i) 0 ⟨by simp,by simp⟩ rfl ?_
   rintro i ⟨hi,hall⟩
   by_cases hlt:i<p.members.length
   ·have hxe:p.members[i]?=some p.members[i]:=List.getElem?_eq_getElem hlt
    have hsn:p.members.take (i+1)=p.members.take i++[p.members[i]]:=List.take_succ_eq_append_getElem hlt
    have hmm:p.members[i]∈p.members:=List.getElem_mem hlt
    generalize p.members[i]=m at *
    have hyes:(m !=bad && q.members.contains m)=true→lL bad p.members q.members=true:=fun h=>List.any_eq_true.2 ⟨m,hmm,h⟩
    cases h4:m !=bad
    ·(repeat' first|refine st ?_|refine sa fun xe hxe=>?_|refine sb (fun hq=>?_) fun hq=>?_|refine cr (fS _ _) ?_|exact True.intro)
     exact⟨i+1,⟨by omega,by rw[hsn];exact a5 hall (by rw[h4];rfl)⟩,by omega,rfl⟩
    ·cases h5:q.members.contains m
     ·have hc5:=fS q.members m
      rw[h5] at hc5
      (repeat' first|refine st ?_|refine sa fun xe hxe=>?_|refine sb (fun hq=>?_) fun hq=>?_|refine cr (hc5) ?_|exact True.intro)
      exact⟨i+1,⟨by omega,by rw[hsn];exact a5 hall (by rw[h5,Bool.and_false])⟩,by omega,rfl⟩
     ·have hc5:=fS q.members m
      rw[h5] at hc5
      (repeat' first|refine st ?_|refine sa fun xe hxe=>?_|refine sb (fun hq=>?_) fun hq=>?_|refine cr (hc5) ?_|exact True.intro)
      rw[hyes (by rw[h4,h5];rfl)]
      exact⟨rfl,rfl⟩
   ·(repeat' first|refine st ?_|refine sa fun xe hxe=>?_|refine sb (fun hq=>?_) fun hq=>?_|exact True.intro)
    rw[List.take_of_length_le (by omega)] at hall
    have:lL bad p.members q.members=false:=by
     rw[Bool.eq_false_iff]
     intro h
     obtain⟨m,hm,h⟩:=List.any_eq_true.1 h
     rw[hall m hm] at h
     cases h
    rw[this]
    exact⟨rfl,rfl⟩
 ·have:fitP bad p q=false:=by simp[fitP,h1,h2]
  rw[this]
  (repeat' first|refine st ?_|refine sa fun xe hxe=>?_|refine sb (fun hq=>?_) fun hq=>?_|refine cr (oZ _ _) ?_|refine cr (j4 _ _) ?_|refine cr (fS _ _) ?_|exact True.intro)
  exact⟨rfl,rfl⟩
abbrev bU (w:Wrl):V:=.agg [.lst (.int .i64) w.com,.lst (.int .i64) w.lead,.int .i64 w.bad,.lst (.lst .vtx) w.views,.lst .ppl w.props]
theorem yC (c:List Int)(p:Ppl)(hc:comV c=true):(comV c && vtxS c p.v)=vtxS c p.v∧(comV c && cj c p.members)=cj c p.members:=by simp[hc]
theorem AA (w:Wrl)(hc:comV w.com=true):aj Tryz.prog 103 [bU w] [] (.bool (dX w.com w.bad w.props)) []:=by
 refine ab ak Tryz.func103 rfl rfl false 0 4 rfl rfl rfl rfl fun K hK hb1 hb2=>?_;simp only[af,enc,Nat.reduceAdd]
 simp[ae,V.toD,bnd,aa,D.cells] at hb1
 by_cases h220:220<(w.props.length:Int)
 ·(repeat' first|refine st ?_|refine sa fun xe hxe=>?_|refine sb (fun hq=>?_) fun hq=>?_|exact True.intro)
  unfold dX
  rw[decide_eq_false (by omega),Bool.and_false]
  exact⟨rfl,rfl⟩
 have hps:dX w.com w.bad w.props=cg w.props.length (dh w.com w.bad w.props):=by
  unfold dX
  rw[decide_eq_true (by omega),Bool.and_true]
 rw[hps]
 (repeat' first|refine st ?_|refine sa fun xe hxe=>?_|refine sb (fun hq=>?_) fun hq=>?_|exact True.intro)
 refine ah hK [] [1,12,13,14] (fun i:Nat=>⟨[(1,.ptr 4 0),(12,.lst .ppl w.props),(13,.int .i64 w.props.length),(14,.int .i64 i)],[(4,.var 33 (bU w).cells)],5⟩) (fun i=>i≤w.props.length∧∀j,j<i→dh w.com w.bad w.props j=true) (fun i=>w.props.length-i) 0 ⟨by simp,by simp⟩ rfl ?_
 rintro i ⟨hi,hall⟩
 by_cases hlt:i<w.props.length
 ·have hxe:w.props[i]?=some w.props[i]:=List.getElem?_eq_getElem hlt
  have hno:dh w.com w.bad w.props i=false→V.bool false=V.bool (cg w.props.length (dh w.com w.bad w.props))∧([]:VH)=[]:=fun h=>⟨by rw[bN hlt h],rfl⟩
  have hA:dh w.com w.bad w.props i=(oneP w.com w.props[i] && cg i (fun k=>fitP w.bad w.props[i] (w.props.getD k p0))):=by simp only[dh,aV hxe]
  generalize w.props[i]=p at *
  have hvc:=gf w.com p.v
  have hmc:=la w.com p.members
  rw[(yC _ p hc).1] at hvc
  rw[(yC _ p hc).2] at hmc
  cases h1:vtxS w.com p.v
  ·(repeat' first|refine st ?_|refine sa fun xe hxe=>?_|refine sb (fun hq=>?_) fun hq=>?_|refine cr (hvc) ?_|refine cr (hmc) ?_|exact True.intro)
   exact hno (by simp[hA,oneP,h1])
  cases h2:cj w.com p.members
  ·(repeat' first|refine st ?_|refine sa fun xe hxe=>?_|refine sb (fun hq=>?_) fun hq=>?_|refine cr (hvc) ?_|refine cr (hmc) ?_|exact True.intro)
   exact hno (by simp[hA,oneP,h2])
  have e1:sw w.props none (some (.int .i64 i)) 0 (i:Int).toNat=w.props.take i:=by simp[sw]
  have hl1:(w.props.take i).length=i:=by rw[List.length_take];omega
  (repeat' first|refine st ?_|refine sa fun xe hxe=>?_|refine sb (fun hq=>?_) fun hq=>?_|refine cr (hvc) ?_|refine cr (hmc) ?_|exact True.intro)
  refine ah hK [] [1,4,12,13,14,36,37,38] (fun k:Nat=>⟨[(1,.ptr 4 0),(4,.ptr 5 0),(12,.lst .ppl w.props),(13,.int .i64 w.props.length),(14,.int .i64 i),(36,.lst .ppl (w.props.take i)),(37,.int .i64 i),(38,.int .i64 k)],[(4,.var 33 (bU w).cells),(5,.var 50 (iv p).cells)],6⟩) (fun k=>k≤i∧∀j,j<k→fitP w.bad p (w.props.getD j p0)=true) (fun k=>i-k) 0 ⟨by simp,by simp⟩ (by simp only[e1,hl1];rfl) ?_
  rintro k ⟨hk,hkall⟩
  by_cases hkl:k<i
  ·have hxk:(w.props.take i)[k]?=some (w.props.getD k p0):=by rw[List.getElem?_take,if_pos hkl,List.getD_eq_getElem?_getD,List.getElem?_eq_getElem (show k<w.props.length by omega)];rfl
   have hyes:=a8 hkall (p:=fun j=>fitP w.bad p (w.props.getD j p0)) (i:=k)
   have hnk:fitP w.bad p (w.props.getD k p0)=false→V.bool false=V.bool (cg w.props.length (dh w.com w.bad w.props))∧([]:VH)=[]:=fun h=>hno (by rw[hA,bN hkl h,Bool.and_false])
   generalize w.props.getD k p0=q at *
   have hcq:=Au q p w.bad
   rw[vE] at hcq
   generalize w.props.take i=pt at *
   cases h3:fitP w.bad p q
   ·rw[h3] at hcq
    (repeat' first|refine st ?_|refine sa fun xe hxe=>?_|refine sb (fun hq=>?_) fun hq=>?_|refine cr (hcq) ?_|exact True.intro)
    exact hnk h3
   ·rw[h3] at hcq
    (repeat' first|refine st ?_|refine sa fun xe hxe=>?_|refine sb (fun hq=>?_) fun hq=>?_|refine cr (hcq) ?_|exact True.intro)
    exact⟨k+1,⟨by omega,hyes h3⟩,by omega,rfl⟩
  ·have hAt:dh w.com w.bad w.props i=true:=by
    rw[hA,bB (fun j hj=>hkall j (by omega)),oneP,h1,h2]
    rfl
   (repeat' first|refine st ?_|refine sa fun xe hxe=>?_|refine sb (fun hq=>?_) fun hq=>?_|exact True.intro)
   exact⟨i+1,⟨by omega,a8 hall hAt⟩,by omega,rfl⟩
 ·(repeat' first|refine st ?_|refine sa fun xe hxe=>?_|refine sb (fun hq=>?_) fun hq=>?_|exact True.intro)
  rw[bB (fun j hj=>hall j (by omega))]
  exact⟨rfl,rfl⟩
end Go.Proofs.YthmfppknagbkeaaGreatDoor.Am
namespace Go.Proofs.YthmfppknagbkeaaGreatDoor.Am
open Go
def cd (g:List Vtx):List (Option Vtx):=g.foldl (fun t v=>t.set (v.round*7+v.author).toNat (some v)) (List.replicate 217 none)
theorem km (g:List Vtx)(v:Vtx):cd (g++[v])=(cd g).set (v.round*7+v.author).toNat (some v):=by simp[cd]
theorem mN (g:List Vtx):(cd g).length=217:=by
 induction g using ey with
 |h0=>exact List.length_replicate
 |h l x ih=>rw[km,List.length_set,ih]
theorem Bw {g:List Vtx}(hg:∀v∈g,jc v){r a:Int}(hr:0≤r∧r≤30)(ha:0≤a∧a≤6):((cd g).getD (r*7+a).toNat none).isSome=eC g r a:=by
 induction g using ey with
 |h0=>
  have:(cd []).getD (r*7+a).toNat none=none:=by
   simp only[cd,List.foldl_nil,List.getD_eq_getElem?_getD,List.getElem?_replicate]
   split<;>rfl
  rw[this]
  rfl
 |h l x ih=>
  have ih:=ih fun v hv=>hg v (List.mem_append.2 (.inl hv))
  obtain⟨⟨x1,x2⟩,x3,x4⟩:=hg x (by simp)
  have hl:=mN l
  have hh:eC (l++[x]) r a=(eC l r a||cm r a x):=by simp[eC]
  rw[km,hh,List.getD_eq_getElem?_getD,List.getElem?_set]
  by_cases he:x.round=r∧x.author=a
  ·have:cm r a x=true:=by simp[cm,he.1,he.2]
   rw[this,Bool.or_true,if_pos (by rw[he.1,he.2]),if_pos (by omega)]
   rfl
  ·have:cm r a x=false:=by
    rw[Bool.eq_false_iff]
    intro h
    simp only[cm,Bool.and_eq_true,beq_iff_eq,decide_eq_true_eq] at h
    exact he (by omega)
   rw[this,Bool.or_false,if_neg (by omega),←List.getD_eq_getElem?_getD,ih]
def mT (tab:List (Option Vtx))(v:Vtx):Bool:=v.parents.all fun p=>(tab.getD ((v.round-1)*7+p).toNat none).isSome
theorem lG {α:Type}{l:List α}{p q:α→Bool}(h:∀x∈l,p x=q x):l.all p=l.all q:=by
 rw[Bool.eq_iff_iff,List.all_eq_true,List.all_eq_true]
 exact⟨fun h2 x hx=>by rw[←h x hx];exact h2 x hx,fun h2 x hx=>by rw[h x hx];exact h2 x hx⟩
theorem By {g:List Vtx}(hg:∀v∈g,jc v){v:Vtx}(hr:v.parents≠[]→1≤v.round∧v.round≤31)(hp:∀p∈v.parents,0≤p∧p≤6):mT (cd g) v=parOK g v:=
 lG fun p h=>by
  have:=hr (List.ne_nil_of_mem h)
  exact Bw hg (by omega) (hp p h)
def D3 (b:Int)(tabs:List (List (Option Vtx)))(v:Vtx)(ms:List Int):Bool:=ms.all fun m=>m==b||mT (tabs.getD m.toNat []) v
def sP (b:Int)(tabs:List (List (Option Vtx)))(ps:List Ppl):Bool:=ps.all fun p=>D3 b tabs p.v (p.v.author::p.members)
def Fe (n:Nat)(p:Ppl):Prop:=(∀m∈p.v.author::p.members,0≤m∧m<n)∧(p.v.parents≠[]→1≤p.v.round∧p.v.round≤31)∧(∀q∈p.v.parents,0≤q∧q≤6)∧p.members.length≤1000000∧p.v.parents.length≤1000000
theorem Da {b:Int}{gs:List (List Vtx)}{ps:List Ppl}(hg:∀g∈gs,∀v∈g,jc v)(hp:∀p∈ps,Fe gs.length p):sP b (gs.map cd) ps=kN b ps gs:=
 lG fun p h=>by
  obtain⟨p1,p2,p3,-⟩:=hp p h
  have key:∀m:Nat,m<gs.length→mT ((gs.map cd).getD m []) p.v=parOK (gs.getD m []) p.v:=fun m hm=>by
   have e:(gs.map cd).getD m []=cd (gs.getD m []):=by simp only[List.getD_eq_getElem?_getD,List.getElem?_map,List.getElem?_eq_getElem hm,Option.map_some,Option.getD_some]
   rw[e]
   refine By (hg _ ?_) p2 p3
   rw[List.getD_eq_getElem?_getD,List.getElem?_eq_getElem hm]
   exact List.getElem_mem hm
  rw[Bool.eq_iff_iff,aJ]
  simp only[D3,List.all_eq_true,Bool.or_eq_true,beq_iff_eq]
  constructor
  ·intro h1 m hm
   simp only[eR,Bool.or_eq_true,Bool.not_eq_true',Bool.and_eq_false_iff]
   by_cases hb:(m:Int)=b
   ·exact .inl (.inl (by simp[hb]))
   by_cases hv:(m:Int)=p.v.author∨(m:Int)∈p.members
   ·rcases h1 (m:Int) (List.mem_cons.2 hv) with h2|h2
    ·exact absurd h2 hb
    ·rw[Int.toNat_natCast,key m hm] at h2
     exact .inr h2
   ·refine .inl (.inr ?_)
    rw[Bool.eq_false_iff]
    intro h2
    simp only[Bool.or_eq_true,beq_iff_eq,List.contains_iff_mem] at h2
    exact hv h2
  ·intro h1 m hm
   have hr:=p1 m hm
   have h2:=h1 m.toNat (by omega)
   simp only[eR,Bool.or_eq_true,Bool.not_eq_true',Bool.and_eq_false_iff,Int.toNat_of_nonneg hr.1] at h2
   rcases h2 with(h2|h2)|h2
   ·exact .inl (by simpa using h2)
   ·exfalso
    rw[Bool.eq_false_iff] at h2
    apply h2
    simp only[Bool.or_eq_true,beq_iff_eq,List.contains_iff_mem]
    exact List.mem_cons.1 hm
   ·rw[key m.toNat (by omega)]
    exact .inr h2
def fN (w:Wrl):Bool:=iu w.com w.lead w.bad && (dX w.com w.bad w.props && ((w.views.length==w.com.length) && dS w.com w.bad w.props w.views))
theorem vd (w:Wrl):iy w=(fN w && kN w.bad w.props w.views):=by
 simp only[iy,fN]
 cases iu w.com w.lead w.bad<;>cases (w.views.length==w.com.length)<;>cases dX w.com w.bad w.props<;>cases dS w.com w.bad w.props w.views<;>simp
theorem mz {w:Wrl}(h:fN w=true):comV w.com=true∧leaS w.com w.lead=true∧badS w.com w.bad=true∧dX w.com w.bad w.props=true∧w.views.length=w.com.length∧dS w.com w.bad w.props w.views=true:=by
 simp only[fN,iu,Bool.and_eq_true,beq_iff_eq] at h
 obtain⟨⟨h1,h2,h3⟩,h4,h5,h6⟩:=h
 exact⟨h1,h2,h3,h4,h5,h6⟩
theorem um {c:List Int}{g:List Vtx}(h:graS c g=true):∀v∈g,vtxS c v=true:=by
 intro v hv
 obtain⟨j,hj,rfl⟩:=ca (d:=v0) hv
 simp only[graS,Bool.and_eq_true,aJ] at h
 have:=h.2 j hj
 simp only[fg,Bool.and_eq_true] at this
 exact this.1
theorem AY {w:Wrl}(h:fN w=true):∀g∈w.views,graS w.com g=true:=by
 obtain⟨-,-,-,-,-,h6⟩:=mz h
 intro g hg
 obtain⟨j,hj,rfl⟩:=ca (d:=[]) hg
 simp only[dS,aJ,Bool.and_eq_true] at h6
 have:=(h6 j hj).1
 simp only[ks,Bool.and_eq_true] at this
 exact this.2
theorem iL {α:Type}[BEq α][LawfulBEq α]:∀{a b:List α},a.Nodup→a⊆b→a.length≤b.length
 |[],_,_,_=>Nat.zero_le _
 |x::a,b,h,hs=>by
  rw[List.nodup_cons] at h
  have hx:x∈b:=hs (List.mem_cons_self ..)
  have:=iL (b:=b.erase x) h.2 fun y hy=>by
   have hne:y≠x:=fun e=>h.1 (e▸hy)
   exact(List.mem_erase_of_ne hne).2 (hs (List.mem_cons_of_mem _ hy))
  rw[List.length_erase_of_mem hx] at this
  have:=List.length_pos_of_mem hx
  simp only[List.length_cons]
  omega
theorem ig {c ms:List Int}(h:cj c ms=true):ms.length≤c.length:=by
 have h1:=dE h
 have h2:ms⊆(List.range c.length).map fun n:Nat=>(n:Int):=fun m hm=>by
  have:=h1 m hm
  rw[List.mem_map]
  exact⟨m.toNat,by rw[List.mem_range];omega,by omega⟩
 have h3:ms.Nodup:=(q7 h).imp fun hab=>by omega
 have:=iL h3 h2
 simpa using this
theorem pO {c:List Int}{v:Vtx}(hc:comV c=true)(h:vtxS c v=true):v.parents.length≤7:=by
 obtain⟨-,-,h3,-⟩:=bl h
 have:=ig h3
 have:=(au.1 hc).2
 omega
theorem uN {w:Wrl}(h:fN w=true):∀g∈w.views,∀v∈g,jc v∧v.parents.length≤1000:=fun g hg v hv=>by
 have hc:=(mz h).1
 have h1:=um (AY h g hg) v hv
 exact⟨eA hc h1,by have:=pO hc h1;omega⟩
theorem lq {c:List Int}{b:Int}{ps:List Ppl}(h:dX c b ps=true):∀p∈ps,oneP c p=true:=by
 intro p hp
 obtain⟨j,hj,rfl⟩:=ca (d:=p0) hp
 simp only[dX,Bool.and_eq_true,aJ] at h
 have:=h.1 j hj
 simp only[dh,Bool.and_eq_true] at this
 exact this.1
theorem lp {c:List Int}{b:Int}{ps:List Ppl}(h:dX c b ps=true):ps.length≤220:=by
 simp only[dX,Bool.and_eq_true,decide_eq_true_eq] at h
 omega
theorem AO {c:List Int}{p:Ppl}(hc:comV c=true)(h:oneP c p=true):Fe c.length p:=by
 simp only[oneP,Bool.and_eq_true] at h
 obtain⟨h1,h2⟩:=h
 have h7:=(au.1 hc).2
 have hl:=pO hc h1
 obtain⟨v1,v2,v3,v4,v5,v6⟩:=bl h1
 have hml:=ig h2
 refine⟨fun m hm=>?_,fun hne=>?_,fun q hq=>?_,by omega,by omega⟩
 ·rcases List.mem_cons.1 hm with rfl|hm
  ·omega
  ·exact dE h2 m hm
 ·by_cases h0:p.v.round=0
  ·exact absurd (v5 h0) hne
  ·omega
 ·have:=dE v3 q hq
  omega
theorem uM {w:Wrl}(h:fN w=true):∀p∈w.props,Fe w.views.length p:=by
 obtain⟨hc,-,-,h4,h5,-⟩:=mz h
 rw[h5]
 exact fun p hp=>AO hc (lq h4 p hp)
theorem Dt {w:Wrl}(h:fN w=true):sP w.bad (w.views.map cd) w.props=kN w.bad w.props w.views:=
 Da (fun g hg v hv=>(uN h g hg v hv).1) (uM h)
end Go.Proofs.YthmfppknagbkeaaGreatDoor.Am
namespace Go.Proofs.YthmfppknagbkeaaGreatDoor.Am
open Go
attribute [local irreducible] Mk ba Ari di jQ f4 bh bV eY d6 At aj
set_option maxRecDepth 10000
theorem x8 (c:List Int)(g:List Vtx)(hl:g.length≤2000000):aj Tryz.prog 157 [.lst (.int .i64) c,.lst .vtx g] [] (.bool (graS c g)) []:=by
 have hL:=o6 c g hl
 refine ab ce Tryz.func157 rfl rfl false 0 4 rfl rfl rfl rfl fun K hK hb1 hb2=>?_;simp only[af,enc,Nat.reduceAdd]
 clear hb1 hb2
 cases hg:graS c g
 ·simp only[wD,wC,hg,Bool.false_eq_true,if_false] at hL
  (repeat' first|refine eM ?_|refine sa fun xe hxe=>?_|refine sb (fun hq=>?_) fun hq=>?_|refine cr (hL) ?_|exact True.intro)
  exact⟨rfl,rfl⟩
 ·simp only[wD,wC,hg,if_true] at hL
  cases g with
  |nil=>
   (repeat' first|refine eM ?_|refine sa fun xe hxe=>?_|refine sb (fun hq=>?_) fun hq=>?_|refine cr (hL) ?_|exact True.intro)
   exact⟨rfl,rfl⟩
  |cons v g=>
   (repeat' first|refine eM ?_|refine sa fun xe hxe=>?_|refine sb (fun hq=>?_) fun hq=>?_|refine cr (hL) ?_|exact True.intro)
   exact⟨rfl,rfl⟩
abbrev ov (w:Wrl)(v:Vtx):VH:=[(4,.var 48 [.int .i64 v.round,.int .i64 v.author,.lst (.int .i64) v.parents,.int .i64 v.digest]),(5,.var 33 [.lst (.int .i64) w.com,.lst (.int .i64) w.lead,.int .i64 w.bad,.lst (.lst .vtx) w.views,.lst .ppl w.props])]
theorem E4 (w:Wrl)(v:Vtx)(p:Ppl)(hc:comV w.com=true)(hm:cj w.com p.members=true):aj Tryz.prog 159 [iv p,.ptr 4 0,.ptr 5 0] (ov w v) (.bool (jN p.v v && don w.com p)) (ov w v):=by
 refine ab ak Tryz.func159 rfl rfl false 2 6 rfl rfl rfl rfl fun K hK hb1 hb2=>?_;simp only[af,enc,Nat.reduceAdd]
 clear hb1 hb2
 cases h1:jN p.v v
 ·(repeat' first|refine st ?_|refine sa fun xe hxe=>?_|refine sb (fun hq=>?_) fun hq=>?_|refine cr (j4 _ _) ?_|refine cr (up _ _ hc hm) ?_|exact True.intro)
  exact⟨rfl,rfl⟩
 ·(repeat' first|refine st ?_|refine sa fun xe hxe=>?_|refine sb (fun hq=>?_) fun hq=>?_|refine cr (j4 _ _) ?_|refine cr (up _ _ hc hm) ?_|exact True.intro)
  exact⟨rfl,rfl⟩
theorem CU (w:Wrl)(v:Vtx)(ps:List Ppl)(hc:comV w.com=true)(hm:∀p∈ps,cj w.com p.members=true):aj Tryz.prog 190 [.lst .ppl ps,.clo 159 [.ptr 4 0,.ptr 5 0]] (ov w v)
  (.int .i64 (match ps.findIdx? (fun p=>jN p.v v && don w.com p) with|some i=>(i:Int)|none=>-1)) (ov w v):=by
 refine ab ak Tryz.func190 rfl rfl false 2 6 rfl rfl rfl rfl fun K hK hb1 hb2=>?_;simp only[af,enc,Nat.reduceAdd]
 clear hb2
 simp[ae,V.toD,bnd,aa,D.cells] at hb1
 (repeat' first|refine st ?_|refine sa fun xe hxe=>?_|refine sb (fun hq=>?_) fun hq=>?_|exact True.intro)
 refine ah hK [] [0,1,7,8] (fun i:Nat=>⟨[(0,.lst .ppl ps),(1,.clo 159 [.ptr 4 0,.ptr 5 0]),(7,.int .i64 ps.length),(8,.int .i64 i)],ov w v,6⟩) (fun i=>i≤ps.length∧∀y∈ps.take i,(jN y.v v && don w.com y)=false) (fun i=>ps.length-i) 0 ⟨by simp,by simp⟩ rfl ?_
 rintro i ⟨hi,hall⟩
 by_cases hlt:i<ps.length
 ·have hxe:ps[i]?=some ps[i]:=List.getElem?_eq_getElem hlt
  have h3:ps.take (i+1)=ps.take i++[ps[i]]:=List.take_succ_eq_append_getElem hlt
  have h4:=kY (l:=ps) (p:=fun p=>jN p.v v && don w.com p) hxe hall
  have h5:=hm _ (List.getElem_mem hlt)
  generalize ps[i]=p at *
  have hv:=E4 w v p hc h5
  cases h6:jN p.v v && don w.com p
  ·rw[h6] at hv
   (repeat' first|refine st ?_|refine sa fun xe hxe=>?_|refine sb (fun hq=>?_) fun hq=>?_|refine cr (hv) ?_|exact True.intro)
   exact⟨i+1,⟨by omega,by rw[h3];exact a5 hall h6⟩,by omega,rfl⟩
  ·rw[h6] at hv
   (repeat' first|refine st ?_|refine sa fun xe hxe=>?_|refine sb (fun hq=>?_) fun hq=>?_|refine cr (hv) ?_|exact True.intro)
   rw[h4 h6]
   exact⟨rfl,rfl⟩
 ·(repeat' first|refine st ?_|refine sa fun xe hxe=>?_|refine sb (fun hq=>?_) fun hq=>?_|exact True.intro)
  rw[List.take_of_length_le (by omega)] at hall
  rw[List.findIdx?_eq_none_iff.2 hall]
  exact⟨rfl,rfl⟩
theorem EH (w:Wrl)(v:Vtx)(ps:List Ppl)(hc:comV w.com=true)(hm:∀p∈ps,cj w.com p.members=true):aj Tryz.prog 158 [.lst .ppl ps,.clo 159 [.ptr 4 0,.ptr 5 0]] (ov w v)
  (.bool (knw w.com ps v)) (ov w v):=by
 have hk:knw w.com ps v=(ps.findIdx? (fun p=>jN p.v v && don w.com p)).isSome:=by
  rw[List.findIdx?_isSome,knw]
  congr 1
  funext p
  rw[Bool.and_comm]
 refine ab ak Tryz.func158 rfl rfl false 2 6 rfl rfl rfl rfl fun K hK hb1 hb2=>?_;simp only[af,enc,Nat.reduceAdd]
 (repeat' first|refine st ?_|refine sa fun xe hxe=>?_|refine sb (fun hq=>?_) fun hq=>?_|refine cr (CU _ _ _ hc hm) ?_|exact True.intro)
 refine⟨?_,rfl⟩
 rw[hk]
 cases ps.findIdx? (fun p=>jN p.v v && don w.com p) with
 |none=>rfl
 |some i=>simp
theorem AD (w:Wrl)(hc:comV w.com=true)(hp:dX w.com w.bad w.props=true)(hl:∀g∈w.views,g.length≤2000000):aj Tryz.prog 104 [bU w] [] (.bool ((w.views.length==w.com.length) && dS w.com w.bad w.props w.views)) []:=by
 have hm:∀p∈w.props,cj w.com p.members=true:=fun p hpp=>by
  obtain⟨i,hi,rfl⟩:=ca (d:=p0) hpp
  simp only[dX,Bool.and_eq_true,aJ] at hp
  have:=hp.1 i hi
  simp only[dh,oneP,Bool.and_eq_true] at this
  exact this.1.2
 have h7:=(au.1 hc).2
 refine ab ak Tryz.func104 rfl rfl false 0 4 rfl rfl rfl rfl fun K hK hb1 hb2=>?_;simp only[af,enc,Nat.reduceAdd]
 simp[ae,V.toD,bnd,aa,D.cells] at hb1
 by_cases hlen:w.views.length=w.com.length
 ·have hb:(w.views.length==w.com.length)=true:=by simpa using hlen
  rw[hb,Bool.true_and]
  (repeat' first|refine st ?_|refine sa fun xe hxe=>?_|refine sb (fun hq=>?_) fun hq=>?_|exact True.intro)
  refine ah hK [] [1,16,17,18] (fun i:Nat=>⟨[(1,.ptr 4 0),(16,.lst (.lst .vtx) w.views),(17,.int .i64 w.views.length),(18,.int .i64 i)],[(4,.var 33 (bU w).cells)],5⟩)
   (fun i=>i≤w.views.length∧∀j,j<i→(ks w.com w.props (w.views.getD j []) && (!((j:Int)==w.bad)||(w.views.getD j []).isEmpty))=true) (fun i=>w.views.length-i) 0 ⟨by simp,by simp⟩ rfl ?_
  rintro i ⟨hi,hall⟩
  by_cases hlt:i<w.views.length
  ·have hxe:w.views[i]?=some (w.views.getD i []):=by rw[List.getD_eq_getElem?_getD,List.getElem?_eq_getElem hlt];rfl
   have hgl:=hl _ (List.mem_of_getElem? hxe)
   have hno:(ks w.com w.props (w.views.getD i []) && (!((i:Int)==w.bad)||(w.views.getD i []).isEmpty))=false→V.bool false=V.bool (dS w.com w.bad w.props w.views)∧([]:VH)=[]:=fun h=>⟨by unfold dS;rw[bN hlt h],rfl⟩
   have hyes:=a8 hall (p:=fun j=>ks w.com w.props (w.views.getD j []) && (!((j:Int)==w.bad)||(w.views.getD j []).isEmpty)) (i:=i)
   generalize w.views.getD i []=g at *
   have hvv:ks w.com w.props g=(g.all (knw w.com w.props) && graS w.com g):=rfl
   cases h1:graS w.com g
   ·(repeat' first|refine st ?_|refine sa fun xe hxe=>?_|refine sb (fun hq=>?_) fun hq=>?_|refine cr (x8 _ _ hgl) ?_|exact True.intro)
    exact hno (by rw[hvv,h1,Bool.and_false,Bool.false_and])
   have hem:g.isEmpty=decide ((g.length:Int)=0):=by cases g<;>simp;omega
   by_cases h2:(i:Int)=w.bad∧¬(g.length:Int)=0
   ·have hb1:((i:Int)==w.bad)=true:=by simpa using h2.1
    (repeat' first|refine st ?_|refine sa fun xe hxe=>?_|refine sb (fun hq=>?_) fun hq=>?_|refine cr (x8 _ _ hgl) ?_|exact True.intro)
    exact hno (by rw[hb1,hem,decide_eq_false h2.2];simp)
   have hok2:(!((i:Int)==w.bad)||g.isEmpty)=true:=by
    rw[hem]
    by_cases hb:(i:Int)=w.bad
    ·have:(g.length:Int)=0:=Classical.byContradiction fun h=>h2 ⟨hb,h⟩
     simp[this]
    ·simp[hb]
   have hkn:∀v,aj Tryz.prog 158 [.lst .ppl w.props,.clo 159 [.ptr 4 0,.ptr 5 0]] (ov w v) (.bool (knw w.com w.props v)) (ov w v):=fun v=>EH w v _ hc hm
   (repeat' first|refine st ?_|refine sa fun xe hxe=>?_|refine sb (fun hq=>?_) fun hq=>?_|refine cr (x8 _ _ hgl) ?_|exact True.intro)
   all_goals
    refine ah hK [] [1,16,17,18,39,40,41] (fun k:Nat=>⟨[(1,.ptr 4 0),(16,.lst (.lst .vtx) w.views),(17,.int .i64 w.views.length),(18,.int .i64 i),(39,.lst .vtx g),(40,.int .i64 g.length),(41,.int .i64 k)],[(4,.var 33 (bU w).cells)],5⟩)
     (fun k=>k≤g.length∧∀v∈g.take k,knw w.com w.props v=true) (fun k=>g.length-k) 0 ⟨by simp,by simp⟩ rfl ?_
    rintro k ⟨hk,hkall⟩
    by_cases hkl:k<g.length
    ·have hxk:g[k]?=some g[k]:=List.getElem?_eq_getElem hkl
     have hsn:g.take (k+1)=g.take k++[g[k]]:=List.take_succ_eq_append_getElem hkl
     have hvm:g[k]∈g:=List.getElem_mem hkl
     generalize g[k]=v at *
     have hkv:=hkn v
     cases h3:knw w.com w.props v
     ·rw[h3] at hkv
      (repeat' first|refine st ?_|refine sa fun xe hxe=>?_|refine sb (fun hq=>?_) fun hq=>?_|refine cr (hkv) ?_|exact True.intro)
      have:g.all (knw w.com w.props)=false:=by
       rw[Bool.eq_false_iff]
       intro h
       rw[List.all_eq_true.1 h v hvm] at h3
       cases h3
      exact hno (by rw[hvv,this,Bool.false_and,Bool.false_and])
     ·rw[h3] at hkv
      (repeat' first|refine st ?_|refine sa fun xe hxe=>?_|refine sb (fun hq=>?_) fun hq=>?_|refine cr (hkv) ?_|exact True.intro)
      exact⟨k+1,⟨by omega,by rw[hsn];exact a5 hkall h3⟩,by omega,rfl⟩
    ·rw[List.take_of_length_le (by omega)] at hkall
     (repeat' first|refine st ?_|refine sa fun xe hxe=>?_|refine sb (fun hq=>?_) fun hq=>?_|exact True.intro)
     exact⟨i+1,⟨by omega,hyes (by rw[hvv,List.all_eq_true.2 hkall,h1,hok2];rfl)⟩,by omega,rfl⟩
  ·(repeat' first|refine st ?_|refine sa fun xe hxe=>?_|refine sb (fun hq=>?_) fun hq=>?_|exact True.intro)
   unfold dS
   rw[bB (fun j hj=>hall j (by omega))]
   exact⟨rfl,rfl⟩
 ·have hb:(w.views.length==w.com.length)=false:=by simpa using hlen
  rw[hb,Bool.false_and]
  (repeat' first|refine st ?_|refine sa fun xe hxe=>?_|refine sb (fun hq=>?_) fun hq=>?_|exact True.intro)
  exact⟨rfl,rfl⟩
theorem BW (v:Vtx)(hl:v.parents.length≤1000000):aj Tryz.prog 162 [bS v] [] (.agg [.int .i64 v.round,.int .i64 v.author,.ref 4,.int .i64 v.digest]) [(4,.row 3 (.int .i64) v.parents)]:=by
 refine ab ak Tryz.func162 rfl rfl false 0 4 rfl rfl rfl rfl fun K hK hb1 hb2=>?_;simp only[af,enc,Nat.reduceAdd]
 (repeat' first|refine st ?_|refine sa fun xe hxe=>?_|refine sb (fun hq=>?_) fun hq=>?_|exact True.intro)
 exact⟨rfl,rfl⟩
theorem Ca (g:List Vtx)(hg:∀v∈g,jc v∧v.parents.length≤1000):aj Tryz.prog 106 [.lst .vtx g] [] (.ptr 4 0) [(4,.vari 190 [] 217 (.ob .vtx) (cd g) [])]:=by
 refine ab ak Tryz.func106 rfl rfl false 0 4 rfl rfl rfl rfl fun K hK hb1 hb2=>?_;simp only[af,enc,Nat.reduceAdd]
 simp[ae,V.toD,bnd,aa,D.cells] at hb1
 (repeat' first|refine st ?_|refine sa fun xe hxe=>?_|refine sb (fun hq=>?_) fun hq=>?_|exact True.intro)
 refine wM 4 0 217 (.ob .vtx) ?_
 ((conv=>whnf);refine De (by kernel_rfl) ?_;(conv=>whnf))
 refine ah hK [] [3,9,10,11] (fun i:Nat=>⟨[(3,.ptr 4 0),(9,.lst .vtx g),(10,.int .i64 g.length),(11,.int .i64 (i:Int))],[(4,.vari 190 [] 217 (.ob .vtx) (cd (g.take i)) [])],5⟩) (fun i=>i≤g.length) (fun i=>g.length-i) 0 (by simp) rfl ?_
 intro i hi
 by_cases hlt:i<g.length
 ·have hxe:g[i]?=some g[i]:=List.getElem?_eq_getElem hlt
  have hsn:g.take (i+1)=g.take i++[g[i]]:=List.take_succ_eq_append_getElem hlt
  obtain⟨⟨⟨v1,v2⟩,v3,v4⟩,v5⟩:=hg _ (List.getElem_mem hlt)
  have hl2:=mN (g.take i)
  have hst:cd (g.take (i+1))=(cd (g.take i)).set (g[i].round*7+g[i].author).toNat (some g[i]):=by rw[hsn,km]
  generalize g[i]=v at *
  generalize cd (g.take i)=s at *
  (repeat' first|refine st ?_|refine sa fun xe hxe=>?_|refine sb (fun hq=>?_) fun hq=>?_|((with_reducible refine lM ?_);(conv=>whnf);(first|with_reducible refine dp (BW _ (by omega)) ?_);conv=>whnf)|exact True.intro)
  refine⟨i+1,by omega,by omega,?_⟩
  have hix:(v.round*7+v.author).toNat=v.round.toNat * 7+v.author.toNat:=by omega
  rw[hst,hix]
  rfl
 ·rw[List.take_of_length_le (by omega)]
  (repeat' first|refine st ?_|refine sa fun xe hxe=>?_|refine sb (fun hq=>?_) fun hq=>?_|exact True.intro)
  exact⟨rfl,rfl⟩
def Θw:TT:=(144,⟨.ptr 190,1,8,some (.nilp),some (.hp 0),false⟩)::(50,⟨.struct [(48,0,4),(22,4,1)],5,72,some (.agg [.int .i64 0,.int .i64 0,.nils,.int .i64 0,.nils]),some (.pplm 1),false⟩)::Θ
theorem iM:TT.ok Tryz.prog Θw:=TT.okB_ok (by kernel_rfl)
theorem pR {P Q:Prop}(h:Q)(s:Hid Q→P:=by
  intro h
  (first|(with_reducible first|apply ci|apply bP)|((first|with_reducible apply bE iM|refine go ?_|(with_reducible first|apply bW|apply b7|apply bC|apply bF|refine bD iM mixed (by kernel_rfl) ?_))<;>conv=>whnf))
  repeat(first|(with_reducible first|apply ci|apply bP)|((first|with_reducible apply bE iM|refine go ?_|(with_reducible first|apply bW|apply b7|apply bC|apply bF|refine bD iM mixed (by kernel_rfl) ?_))<;>conv=>whnf))
  exact h.h):P:=s ⟨h⟩
def v9 (ps:List Ppl):List PplM:=ps.zipIdx.map fun x=>⟨x.1.v,some x.2⟩
theorem pg (ps:List Ppl):(v9 ps).length=ps.length:=by simp[v9]
def F0:PplM:=⟨⟨0,0,[],0⟩,none⟩
def yN (ps:List Ppl)(i:Nat):List PplM:=v9 (ps.take i)++List.replicate (ps.length-i) F0
theorem AV (ps:List Ppl)(i:Nat)(hi:i≤ps.length):(yN ps i).length=ps.length:=by
 simp only[yN,List.length_append,pg,List.length_take,List.length_replicate];omega
theorem AW {ps:List Ppl}{i:Nat}(h:i<ps.length):(yN ps i).set i ⟨ps[i].v,some i⟩=yN ps (i+1):=by
 have h1:(v9 (ps.take i)).length=i:=by rw[pg,List.length_take];omega
 have h2:ps.length-i=(ps.length-(i+1))+1:=by omega
 unfold yN
 rw[List.set_append_right _ _ (by omega),h1,Nat.sub_self,h2,List.replicate_succ,List.set_cons_zero]
 have h4:v9 (ps.take (i+1))=v9 (ps.take i)++[⟨ps[i].v,some i⟩]:=by
  rw[List.take_succ_eq_append_getElem h]
  simp only[v9,List.zipIdx_append,List.map_append,List.length_take,Nat.min_eq_left (Nat.le_of_lt h),List.zipIdx_cons,List.zipIdx_nil,List.map_cons,List.map_nil,Nat.zero_add]
 rw[h4,List.append_assoc]
 rfl
theorem CQ (ps:List Ppl)(hv:∀p∈ps,p.v.parents.length≤1000000∧p.members.length≤1000000)(hl:ps.length≤1000000):aj Tryz.prog 107 [.lst .ppl ps] [] (.ref 4) [(1,.frow 3 (.int .i64) (ps.map (·.members))),(4,.row 50 (.pplm 1) (v9 ps))]:=by
 refine ab iM Tryz.func107 rfl rfl false 0 4 rfl rfl rfl rfl fun K hK hb1 hb2=>?_;simp only[af,enc,Nat.reduceAdd]
 clear hb1 hb2
 (repeat' first|refine pR ?_|refine sa fun xe hxe=>?_|refine sb (fun hq=>?_) fun hq=>?_|exact True.intro)
 refine jS 1 (.frow 3 (.int .i64) []) rfl ?_
 refine ah hK [] [3,9,10,11] (fun i:Nat=>⟨[(3,.ref 4),(9,.lst .ppl ps),(10,.int .i64 ps.length),(11,.int .i64 (i:Int))],[(1,.frow 3 (.int .i64) ((ps.take i).map (·.members))),(4,.row 50 (.pplm 1) (yN ps i))],5⟩) (fun i=>i≤ps.length) (fun i=>ps.length-i) 0 (by simp) (by rw[show yN ps 0=List.replicate (ps.length:Int).toNat F0 by simp[yN,v9]];rfl) ?_
 intro i hi
 by_cases hlt:i<ps.length
 ·have hxe:ps[i]?=some ps[i]:=List.getElem?_eq_getElem hlt
  have hsn:ps.take (i+1)=ps.take i++[ps[i]]:=List.take_succ_eq_append_getElem hlt
  obtain⟨v1,v2⟩:=hv _ (List.getElem_mem hlt)
  have hpl:=AV ps i hi
  have hst:=AW hlt
  have hfl:((ps.take i).map (·.members)).length=i:=by rw[List.length_map,List.length_take];omega
  generalize ps[i]=p at *
  generalize yN ps i=s at *
  (repeat' first|refine pR ?_|refine sa fun xe hxe=>?_|refine sb (fun hq=>?_) fun hq=>?_|refine cr (BW _ v1) ?_|exact True.intro)
  refine⟨i+1,by omega,by omega,?_⟩
  rw[←hst,hsn,List.map_append,hfl]
  rfl
 ·(repeat' first|refine pR ?_|refine sa fun xe hxe=>?_|refine sb (fun hq=>?_) fun hq=>?_|exact True.intro)
  rw[List.take_of_length_le (by omega),show yN ps i=v9 ps by rw[yN,List.take_of_length_le (by omega),show ps.length-i=0 by omega];simp]
  exact⟨rfl,rfl⟩
theorem Em (tabs:List (List (Option Vtx)))(k:Nat)(tab:List (Option Vtx))(v:Vtx)(hk:tabs[k]?=some tab)(ht:tab.length=217)(hr:v.parents≠[]→1≤v.round∧v.round≤31)(hp:∀p∈v.parents,0≤p∧p≤6):aj Tryz.prog 163 [.fptr 0 k 0,bS v] [(0,.fvari 190 217 (.ob .vtx) tabs)] (.bool (mT tab v)) [(0,.fvari 190 217 (.ob .vtx) tabs)]:=by
 refine ab ak Tryz.func163 rfl rfl false 0 4 rfl rfl rfl rfl fun K hK hb1 hb2=>?_;simp only[af,enc,Nat.reduceAdd]
 simp[ae,V.toD,bnd,aa,D.cells] at hb1
 (repeat' first|refine st ?_|refine sa fun xe hxe=>?_|refine sb (fun hq=>?_) fun hq=>?_|exact True.intro)
 refine ah hK [] [0,3,8,9,10] (fun i:Nat=>⟨[(0,.fptr 0 k 0),(3,.ptr 4 0),(8,.lst (.int .i64) v.parents),(9,.int .i64 v.parents.length),(10,.int .i64 (i:Int))],[(0,.fvari 190 217 (.ob .vtx) tabs),(4,.var 48 (bS v).cells)],5⟩) (fun i=>i≤v.parents.length∧∀p∈v.parents.take i,(tab.getD ((v.round-1)*7+p).toNat none).isSome=true) (fun i=>v.parents.length-i) 0 (by simp) rfl ?_
 rintro i ⟨hi,hall⟩
 by_cases hlt:i<v.parents.length
 ·have hxe:v.parents[i]?=some v.parents[i]:=List.getElem?_eq_getElem hlt
  have h3:v.parents.take (i+1)=v.parents.take i++[v.parents[i]]:=List.take_succ_eq_append_getElem hlt
  have h4:v.parents[i]∈v.parents:=List.getElem_mem hlt
  have h5:=hr (List.ne_nil_of_mem h4)
  have h6:=hp _ h4
  generalize v.parents[i]=p at *
  have hix:((v.round-1)*7+p).toNat=(v.round-1).toNat * 7+p.toNat:=by omega
  (repeat' first|refine st ?_|refine sa fun xe hxe=>?_|refine sb (fun hq=>?_) fun hq=>?_|exact True.intro)
  ·have hxe:tab[(v.round-1).toNat * 7+p.toNat]?=some xe:=hxe
   have:mT tab v=false:=by
    rw[Bool.eq_false_iff]
    intro h
    have h:=List.all_eq_true.1 h p h4
    rw[hix,List.getD_eq_getElem?_getD,hxe,Option.getD_some] at h
    have hq:xe=none:=by simpa using hq
    rw[hq] at h
    cases h
   rw[this]
   exact⟨rfl,rfl⟩
  ·have hxe:tab[(v.round-1).toNat * 7+p.toNat]?=some xe:=hxe
   refine⟨i+1,⟨by omega,?_⟩,by omega,rfl⟩
   rw[h3]
   refine a5 hall ?_
   rw[hix,List.getD_eq_getElem?_getD,hxe,Option.getD_some]
   have hq:Option.isNone xe=false:=hq
   simpa[Option.isNone_iff_eq_none,Option.isSome_iff_ne_none] using hq
 ·(repeat' first|refine st ?_|refine sa fun xe hxe=>?_|refine sb (fun hq=>?_) fun hq=>?_|exact True.intro)
  rw[List.take_of_length_le (by omega)] at hall
  have:mT tab v=true:=List.all_eq_true.2 hall
  rw[this]
  exact⟨rfl,rfl⟩
abbrev rB (c l:List Int)(b:Int)(tabs:List (List (Option Vtx)))(ps:List Ppl):VH:=[(0,.fvari 190 217 (.ob .vtx) tabs),(1,.frow 3 (.int .i64) (ps.map (·.members))),(4,.var 112 [.int .i32 0,.int .u32 0,.lst (.int .i64) c,.lst (.int .i64) l,.int .i64 b,.ref 5,.ref 6]),(5,.row 144 (.hp 0) ((List.range tabs.length).map some)),(6,.row 50 (.pplm 1) (v9 ps))]
theorem Ds {ps:List Ppl}{i:Nat}{p:Ppl}(h:ps[i]?=some p):(v9 ps)[i]?=some ⟨p.v,some i⟩:=by
 simp[v9,List.getElem?_map,List.getElem?_zipIdx,h]
theorem En (tabs:List (List (Option Vtx)))(k:Nat)(tab:List (Option Vtx))(v:Vtx)(hk:tabs[k]?=some tab)(ht:tab.length=217)(hr:v.parents≠[]→1≤v.round∧v.round≤31)(hp:∀p∈v.parents,0≤p∧p≤6):aj Tryz.prog 163 [.hpo 0 (some k),bS v] [(0,.fvari 190 217 (.ob .vtx) tabs)] (.bool (mT tab v)) [(0,.fvari 190 217 (.ob .vtx) tabs)]:=by
 have h:=Em tabs k tab v hk ht hr hp
 unfold aj at h⊢
 exact h
set_option maxHeartbeats 1000000 in
theorem EB (c l:List Int)(b:Int)(tabs:List (List (Option Vtx)))(ps:List Ppl)(ht:∀t∈tabs,t.length=217)(htl:tabs.length≤7)(hpn:ps.length≤1000000)(hp:∀p∈ps,Fe tabs.length p):aj Tryz.prog 108 [.ptr 4 0] (rB c l b tabs ps) (.bool (sP b tabs ps)) (rB c l b tabs ps):=by
 refine ab iM Tryz.func108 rfl rfl false 3 7 rfl rfl rfl rfl fun K hK hb1 hb2=>?_;simp only[af,enc,Nat.reduceAdd]
 clear hb1 hb2
 have hpl:=pg ps
 (repeat' first|refine pR ?_|refine sa fun xe hxe=>?_|refine sb (fun hq=>?_) fun hq=>?_|exact True.intro)
 refine ah hK [] [0,10,11,12] (fun i:Nat=>⟨[(0,.ptr 4 0),(10,.ref 6),(11,.int .i64 ps.length),(12,.int .i64 (i:Int))],rB c l b tabs ps,7⟩) (fun i=>i≤ps.length∧∀p∈ps.take i,D3 b tabs p.v (p.v.author::p.members)=true) (fun i=>ps.length-i) 0 (by simp) (by simp only[hpl];rfl) ?_
 rintro i ⟨hi,hall⟩
 by_cases hlt:i<ps.length
 ·have hxe:ps[i]?=some ps[i]:=List.getElem?_eq_getElem hlt
  have hsn:ps.take (i+1)=ps.take i++[ps[i]]:=List.take_succ_eq_append_getElem hlt
  have hpm:ps[i]∈ps:=List.getElem_mem hlt
  have hno:D3 b tabs ps[i].v (ps[i].v.author::ps[i].members)=false→sP b tabs ps=false:=fun h=>by
   rw[Bool.eq_false_iff]
   intro h2
   rw[List.all_eq_true.1 h2 _ hpm] at h
   cases h
  obtain⟨p1,p2,p3,p4,p5⟩:=hp _ hpm
  have hx1:=Ds hxe
  have hx2:(ps.map (·.members))[i]?=some ps[i].members:=by rw[List.getElem?_map,hxe];rfl
  have hfl:(ps.map (·.members)).length=ps.length:=List.length_map ..
  generalize ps[i]=p at *
  (repeat' first|refine pR ?_|refine sa fun xe hxe=>?_|refine sb (fun hq=>?_) fun hq=>?_|exact True.intro)
  refine ah hK [] [0,4,10,11,12,22,23,24] (fun j:Nat=>⟨[(0,.ptr 4 0),(4,.ptr 7 0),(10,.ref 6),(11,.int .i64 ps.length),(12,.int .i64 (i:Int)),(22,.ref 8),(23,.int .i64 ((p.v.author::p.members).length:Nat)),(24,.int .i64 (j:Int))],rB c l b tabs ps++[(7,VB.var 50 [.int .i64 p.v.round,.int .i64 p.v.author,.lst (.int .i64) p.v.parents,.int .i64 p.v.digest,.hro 1 (some i)]),(8,VB.row 3 (.int .i64) (p.v.author::p.members))],9⟩) (fun j=>j≤(p.v.author::p.members).length∧∀m∈(p.v.author::p.members).take j,(m==b||mT (tabs.getD m.toNat []) p.v)=true) (fun j=>(p.v.author::p.members).length-j) 0 (by simp) (by(conv=>whnf);rfl) ?_
  rintro j ⟨hj,hjall⟩
  have hnl:(p.v.author::p.members).length≤1000001:=by simp only[List.length_cons];omega
  have hkk:(∀m∈p.v.author::p.members,(m==b||mT (tabs.getD m.toNat []) p.v)=true)→D3 b tabs p.v (p.v.author::p.members)=true:=fun h=>List.all_eq_true.2 h
  have hkn:∀m∈p.v.author::p.members,(m==b||mT (tabs.getD m.toNat []) p.v)=false→D3 b tabs p.v (p.v.author::p.members)=false:=fun m hm h=>by
   rw[Bool.eq_false_iff]
   intro h2
   rw[List.all_eq_true.1 h2 _ hm] at h
   cases h
  generalize hms:p.v.author::p.members=ms at *
  by_cases hjl:j<ms.length
  ·have hye:ms[j]?=some ms[j]:=List.getElem?_eq_getElem hjl
   have hjs:ms.take (j+1)=ms.take j++[ms[j]]:=List.take_succ_eq_append_getElem hjl
   have hjm:ms[j]∈ms:=List.getElem_mem hjl
   have hxr:=p1 _ hjm
   have hkn:=hkn _ hjm
   generalize ms[j]=m at *
   have hxt:tabs[m.toNat]?=some (tabs.getD m.toNat []):=by
    rw[List.getD_eq_getElem?_getD,List.getElem?_eq_getElem (show m.toNat<tabs.length by omega)];rfl
   have hxv:((List.range tabs.length).map some)[m.toNat]?=some (some m.toNat):=by
    rw[List.getElem?_map,List.getElem?_range (show m.toNat<tabs.length by omega)];rfl
   have hvl:((List.range tabs.length).map some).length=tabs.length:=by simp
   have hC:=En tabs m.toNat _ p.v hxt (ht _ (List.mem_of_getElem? hxt)) p2 p3
   by_cases hmb:m=b
   ·subst hmb
    (repeat' first|refine pR ?_|refine sa fun xe hxe=>?_|refine sb (fun hq=>?_) fun hq=>?_|exact True.intro)
    ·exact absurd trivial hq
    ·refine⟨j+1,⟨by omega,by rw[hjs];exact a5 hjall (by simp)⟩,by omega,rfl⟩
   ·cases h1:mT (tabs.getD m.toNat []) p.v
    ·rw[h1] at hC
     (repeat' first|refine pR ?_|refine sa fun xe hxe=>?_|refine sb (fun hq=>?_) fun hq=>?_|refine co (hC) ?_|exact True.intro)
     exact⟨by rw[hno (hkn (by rw[h1,Bool.or_false];simpa using hmb))],rfl⟩
    ·rw[h1] at hC
     (repeat' first|refine pR ?_|refine sa fun xe hxe=>?_|refine sb (fun hq=>?_) fun hq=>?_|refine co (hC) ?_|exact True.intro)
     exact⟨j+1,⟨by omega,by rw[hjs];exact a5 hjall (by rw[h1,Bool.or_true])⟩,by omega,rfl⟩
  ·(repeat' first|refine pR ?_|refine sa fun xe hxe=>?_|refine sb (fun hq=>?_) fun hq=>?_|exact True.intro)
   rw[List.take_of_length_le (by omega)] at hjall
   exact⟨i+1,⟨by omega,by rw[hsn];exact a5 hall (by rw[hms];exact hkk hjall)⟩,by omega,rfl⟩
 ·(repeat' first|refine pR ?_|refine sa fun xe hxe=>?_|refine sb (fun hq=>?_) fun hq=>?_|exact True.intro)
  rw[List.take_of_length_le (by omega)] at hall
  have:sP b tabs ps=true:=List.all_eq_true.2 hall
  rw[this]
  exact⟨rfl,rfl⟩
end Go.Proofs.YthmfppknagbkeaaGreatDoor.Am
namespace Go.Proofs.YthmfppknagbkeaaGreatDoor.Am
open Go Go.Shelf Go.RowKit
attribute [local irreducible] Mk ba Ari di jQ f4 bh bV eY d6 At aj
set_option maxRecDepth 10000
theorem gL {P : Program} {f : FuncId} {ds : List D} {r : D} (hf : ∃ fn, P.funcs[f]? = some fn ∧ fn.body.isNone = false ∧ (fn.name == "runtime.NumGoroutine") = false)
  (h:∀(w:World) (ok:Nat→Prop) (ρ:Id→Pl) (vs:Array Value),ds.length=vs.size→(∀i,i<ds.length→C ρ (fun _=>False) ok w (ds.getD i .undef) (vs.getD i undef))→
   Calls P f vs w fun e w'=>∃u,e= .returned u∧Below w.heap.size w w'∧∀ok',Rep ok' w' r u):Con P f ds [] r []:=by
 refine⟨hf,fun w A ρ vs hs hl hc=>?_⟩
 have hno:∀b,¬Live [] b:=fun b h=>by cases h
 have hc':∀i,i<ds.length→C ρ (fun _=>False) (okOf A ρ [] w) w (ds.getD i .undef) (vs.getD i undef):=fun i hi=>(hc i hi).mono (fun b hb=>absurd hb (hno b)) (fun b hb=>⟨hb,rfl⟩)
 refine Calls.mono (h w (okOf A ρ [] w) ρ vs hl hc') ?_
 rintro e w' ⟨u,rfl,hb,hr⟩
 refine⟨u,ρ,rfl,fun b hb=>absurd hb (hno b),⟨hs.base,hs.inS,⟨hb.os,hb.tape,hb.output,hb.size,fun i hi _=>hb.block i hi⟩,rfl,rfl,?_,?_,?_,?_,hs.gl⟩,.pure (hr _)⟩
 ·intro k d h;cases h
 ·intro k d h;cases h
 ·intro k d h;cases h
 ·intro b b' x x' h;cases h
theorem Ad {nb:Nat}{α β:Type}{xs:List α}{ys:List β}(h1:xs.length≤1000000)(h2:ys.length≤1000000)(hb:nb≤100):fH nb (xs.length+ys.length):=by
 have:(xs.length+ys.length)*nb≤2000000*100:=Nat.mul_le_mul (by omega) hb
 unfold fH
 omega
def sR:Go.Shelf.Ren:=⟨fun|15=>105|n=>n,fun|22=>22|3=>3|4=>4|n=>n,fun|n=>n⟩
theorem yi:Go.Proofs.Lays2.n15 Tryz.prog sR where
  mixed:=by kernel_rfl
  f15:=Tryz.func105.trans (congrArg some (by kernel_rfl))
  t3:=Tryz.underlying3
  a3:=Tryz.isAgg3
  z3:=Tryz.sizeOf3
  v3:=Tryz.zeroValue3
  t4:=Tryz.underlying4
  a4:=Tryz.isAgg4
  z4:=Tryz.sizeOf4
  v4:=Tryz.zeroValue4
  t22:=Tryz.underlying22
  a22:=Tryz.isAgg22
  z22:=Tryz.sizeOf22
  v22:=Tryz.zeroValue22
  i3:=by kernel_rfl
theorem Ar (t:Ty):aj Tryz.prog 105 [.lst t []] [] (.lst t []) []:=by
 unfold aj
 refine gL ⟨_,Tryz.func105,rfl,rfl⟩ fun w ok ρ vs hl hc=>?_
 obtain⟨v,rfl⟩:∃v,vs= #[v]:=by
  have:vs.size=1:=hl.symm
  exact⟨vs[0],Array.ext (by simp[this]) fun i h1 h2=>by
   have:i=0:=by simpa using h2
   subst this;rfl⟩
 have h0:C ρ (fun _=>False) ok w (.lst []) v:=hc 0 (Nat.one_pos)
 have h1:=h0.lst_inv
 have fin:∀(w':World) (a:Option Addr) (cap:Nat),(a=none→cap=0)→cap≤maxLen→∀ok',Rep ok' w' ((V.lst t []).toD) (.slice a 0 cap):=fun w' a cap h1 h2 ok'=>.none a cap h1 h2
 obtain⟨a,cap,rfl,ha⟩:∃a cap,v= .slice a 0 cap∧(a=none→cap=0):=by
  cases h1 with
  |none a cap ha hcap=>exact⟨a,cap,rfl,ha⟩
  |lst l n b off cap f hn=>exact⟨_,cap,by rw[←hn];rfl,fun h=>by cases h⟩
 cases a with
 |none=>
  refine Calls.mono (Any.slices_Clone_int_nil yi 0 cap w) ?_
  rintro e w' ⟨rfl,rfl⟩
  exact⟨_,rfl,Below.refl _ _,fin _ _ _ (fun _=>rfl) (Nat.zero_le _)⟩
 |some a=>
  refine Calls.mono (Any.slices_Clone_int_zero yi a cap w) ?_
  rintro e w' ⟨v',rfl,ho,_,hb⟩
  refine⟨v',rfl,hb,?_⟩
  rcases ho.2 with⟨rfl,_⟩|⟨g,cap',cur,rfl,_,_,_,h3,_⟩
  ·exact fin _ _ _ (fun _=>rfl) (Nat.zero_le _)
  ·exact fin _ _ _ (fun h=>by cases h) h3
theorem xY (l:List Int)(hb:l.length≤1000000):aj Tryz.prog 105 [.lst (.int .i64) l] [] (.lst (.int .i64) l) []:=by
 cases l with
 |nil=>exact Ar _
 |cons x l=>
  refine ab ak Tryz.func105 rfl rfl true 0 4 rfl rfl rfl rfl fun K hK hb1 hb2=>?_;simp only[af,enc,Nat.reduceAdd]
  (repeat' first|refine st ?_|refine sa fun xe hxe=>?_|refine sb (fun hq=>?_) fun hq=>?_|exact True.intro)
  refine yv (Ad (Nat.zero_le _) hb (by decide)) ?_
  (repeat' first|refine st ?_|refine sa fun xe hxe=>?_|refine sb (fun hq=>?_) fun hq=>?_|exact True.intro)
  refine b7 ?_
  (conv=>whnf)
  exact⟨rfl,rfl⟩
end Go.Proofs.YthmfppknagbkeaaGreatDoor.Am
namespace Go.Proofs.YthmfppknagbkeaaGreatDoor.Am
open Go
attribute [local irreducible] Mk ba Ari di jQ f4 bh bV eY d6 At aj
set_option maxRecDepth 10000
def Dl (w:Wrl):V:=if fN w then .tup [.ptr 4 0,.bool (sP w.bad (w.views.map cd) w.props)] else .tup [.nilp,.bool false]
def Dk (w:Wrl):VH:=if fN w then rB w.com w.lead w.bad (w.views.map cd) w.props else[]
def AP (w:Wrl):Nat→VSt
 |0=>⟨[(1,.ptr 4 0),(4,.ptr 5 0),(42,.lst (.lst .vtx) w.views),(43,.int .i64 w.views.length),(44,.int .i64 0)],[(0,.fvari 190 217 (.ob .vtx) []),(4,.var 33 (bU w).cells),(5,.var 112 [.int .i32 0,.int .u32 0,.lst (.int .i64) w.com,.lst (.int .i64) w.lead,.int .i64 w.bad,.nils,.nils])],6⟩
 |i+1=>⟨[(1,.ptr 4 0),(4,.ptr 5 0),(42,.lst (.lst .vtx) w.views),(43,.int .i64 w.views.length),(44,.int .i64 ((i+1:Nat):Int))],[(0,.fvari 190 217 (.ob .vtx) ((w.views.take (i+1)).map cd)),(4,.var 33 (bU w).cells),(5,.var 112 [.int .i32 0,.int .u32 0,.lst (.int .i64) w.com,.lst (.int .i64) w.lead,.int .i64 w.bad,.ref 6,.nils]),(6,.row 144 (.hp 0) ((List.range (i+1)).map some))],7⟩
set_option maxHeartbeats 1000000 in
theorem EE (w:Wrl)(hl:∀g∈w.views,g.length≤2000000):aj Tryz.prog 57 [bU w] [] (Dl w) (Dk w):=by
 have hno:fN w=false→V.tup [.nilp,.bool false]=Dl w∧([]:VH)=Dk w:=fun h=>by simp[Dl,Dk,h]
 refine ab iM Tryz.func57 rfl rfl false 0 4 rfl rfl rfl rfl fun K hK hb1 hb2=>?_;simp only[af,enc,Nat.reduceAdd]
 clear hb1 hb2
 have hL:=k9 w.com w.lead
 cases h1:comV w.com && leaS w.com w.lead
 ·rw[h1] at hL
  (repeat' first|refine pR ?_|refine sa fun xe hxe=>?_|refine sb (fun hq=>?_) fun hq=>?_|refine cr (hL) ?_|exact True.intro)
  exact hno (by
   rw[Bool.and_eq_false_iff] at h1
   rcases h1 with h1|h1<;>simp[fN,iu,h1])
 rw[h1] at hL
 have hc:comV w.com=true:=(Bool.and_eq_true_iff.1 h1).1
 have hle:leaS w.com w.lead=true:=(Bool.and_eq_true_iff.1 h1).2
 have hB:=AB w.com w.bad hc
 cases h2:badS w.com w.bad
 ·rw[h2] at hB
  (repeat' first|refine pR ?_|refine sa fun xe hxe=>?_|refine sb (fun hq=>?_) fun hq=>?_|refine cr (hL) ?_|refine cr (hB) ?_|exact True.intro)
  exact hno (by simp[fN,iu,h2])
 rw[h2] at hB
 have hP:=AA w hc
 cases h3:dX w.com w.bad w.props
 ·rw[h3] at hP
  (repeat' first|refine pR ?_|refine sa fun xe hxe=>?_|refine sb (fun hq=>?_) fun hq=>?_|refine cr (hL) ?_|refine cr (hB) ?_|refine cr (hP) ?_|exact True.intro)
  exact hno (by simp[fN,iu,h3])
 rw[h3] at hP
 have hV:=AD w hc h3 hl
 cases h4:(w.views.length==w.com.length) && dS w.com w.bad w.props w.views
 ·rw[h4] at hV
  (repeat' first|refine pR ?_|refine sa fun xe hxe=>?_|refine sb (fun hq=>?_) fun hq=>?_|refine cr (hL) ?_|refine cr (hB) ?_|refine cr (hP) ?_|refine cr (hV) ?_|exact True.intro)
  exact hno (by simp only[fN,h4];simp)
 rw[h4] at hV
 have hpre:fN w=true:=by simp[fN,iu,hc,hle,h2,h3];simpa using h4
 have hR:Dl w= .tup [.ptr 4 0,.bool (sP w.bad (w.views.map cd) w.props)]:=by simp[Dl,hpre]
 have hO:Dk w=rB w.com w.lead w.bad (w.views.map cd) w.props:=by simp[Dk,hpre]
 rw[hR,hO]
 have h7:=(au.1 hc).2
 have hll:=(aW.1 hle).2
 have hvl:w.views.length=w.com.length:=(mz hpre).2.2.2.2.1
 have hne:w.com≠[]:=fun h=>by rw[h] at h7;simp at h7
 have hCm:=xY w.com (by omega)
 have hCl:=xY w.lead (by omega)
 (repeat' first|refine pR ?_|refine sa fun xe hxe=>?_|refine sb (fun hq=>?_) fun hq=>?_|refine cr (hL) ?_|refine cr (hB) ?_|refine cr (hP) ?_|refine cr (hV) ?_|refine cr (hCm) ?_|refine cr (hCl) ?_|exact True.intro)
 refine jS 0 (.fvari 190 217 (.ob .vtx) []) rfl ?_
 refine ah hK [] [1,4,42,43,44] (AP w) (fun i=>i≤w.views.length) (fun i=>w.views.length-i) 0 (by simp) (by(conv=>whnf);rfl) ?_
 intro i hi
 have hps:=uM hpre
 have hpl:=lp h3
 have ht7:∀t∈w.views.map cd,t.length=217:=fun t h=>by
  obtain⟨g,_,rfl⟩:=List.mem_map.1 h
  exact mN g
 have hml:(w.views.map cd).length=w.views.length:=List.length_map ..
 by_cases hlt:i<w.views.length
 ·have hgm:w.views[i]∈w.views:=List.getElem_mem hlt
  have hxe:w.views[i]?=some w.views[i]:=List.getElem?_eq_getElem hlt
  have hsn:w.views.take (i+1)=w.views.take i++[w.views[i]]:=List.take_succ_eq_append_getElem hlt
  have hg:=uN hpre _ hgm
  generalize w.views[i]=g at *
  cases i with
  |zero=>
   have hx0:w.views[(0:Int).toNat]?=some g:=hxe
   have hst:AP w (0+1)=⟨[(1,.ptr 4 0),(4,.ptr 5 0),(42,.lst (.lst .vtx) w.views),(43,.int .i64 w.views.length),(44,.int .i64 ((0+1:Nat):Int))],[(0,.fvari 190 217 (.ob .vtx) [cd g]),(4,.var 33 (bU w).cells),(5,.var 112 [.int .i32 0,.int .u32 0,.lst (.int .i64) w.com,.lst (.int .i64) w.lead,.int .i64 w.bad,.ref 6,.nils]),(6,.row 144 (.hp 0) [some 0])],7⟩:=by
    rw[AP,hsn]
    rfl
   have hs0:AP w 0=⟨[(1,.ptr 4 0),(4,.ptr 5 0),(42,.lst (.lst .vtx) w.views),(43,.int .i64 w.views.length),(44,.int .i64 0)],[(0,.fvari 190 217 (.ob .vtx) []),(4,.var 33 (bU w).cells),(5,.var 112 [.int .i32 0,.int .u32 0,.lst (.int .i64) w.com,.lst (.int .i64) w.lead,.int .i64 w.bad,.nils,.nils])],6⟩:=rfl
   rw[hs0]
   (repeat' first|refine pR ?_|refine sa fun xe hxe=>?_|refine sb (fun hq=>?_) fun hq=>?_|refine cr (Ca g hg) ?_|exact True.intro)
   refine⟨0+1,by omega,by omega,?_⟩
   rw[hst]
   rfl
  |succ i=>
   have hfl:((w.views.take (i+1)).map cd).length=i+1:=by rw[List.length_map,List.length_take];omega
   have hrl:((List.range (i+1)).map some).length=i+1:=by simp
   have hst:AP w (i+1+1)=⟨[(1,.ptr 4 0),(4,.ptr 5 0),(42,.lst (.lst .vtx) w.views),(43,.int .i64 w.views.length),(44,.int .i64 ((i+1+1:Nat):Int))],[(0,.fvari 190 217 (.ob .vtx) ((w.views.take (i+1)).map cd++[cd g])),(4,.var 33 (bU w).cells),(5,.var 112 [.int .i32 0,.int .u32 0,.lst (.int .i64) w.com,.lst (.int .i64) w.lead,.int .i64 w.bad,.ref 6,.nils]),(6,.row 144 (.hp 0) ((List.range (i+1)).map some++[some (i+1)]))],7⟩:=by
    rw[AP,hsn,List.map_append,List.range_succ,List.map_append]
    rfl
   have hs0:AP w (i+1)=⟨[(1,.ptr 4 0),(4,.ptr 5 0),(42,.lst (.lst .vtx) w.views),(43,.int .i64 w.views.length),(44,.int .i64 ((i+1:Nat):Int))],[(0,.fvari 190 217 (.ob .vtx) ((w.views.take (i+1)).map cd)),(4,.var 33 (bU w).cells),(5,.var 112 [.int .i32 0,.int .u32 0,.lst (.int .i64) w.com,.lst (.int .i64) w.lead,.int .i64 w.bad,.ref 6,.nils]),(6,.row 144 (.hp 0) ((List.range (i+1)).map some))],7⟩:=rfl
   rw[hs0]
   clear hs0
   generalize (w.views.take (i+1)).map cd=ts at *
   generalize (List.range (i+1)).map some=rs at *
   (repeat' first|refine pR ?_|refine sa fun xe hxe=>?_|refine sb (fun hq=>?_) fun hq=>?_|refine cr (Ca g hg) ?_|exact True.intro)
   refine⟨i+1+1,by omega,by omega,?_⟩
   rw[hst,hfl]
   rfl
 ·have hi':i=w.views.length:=by omega
  have hK:=EB w.com w.lead w.bad (w.views.map cd) w.props ht7 (by omega) (by omega) (by rw[hml];exact hps)
  have hCp:=CQ w.props (fun p hp=>⟨by have:=(hps p hp).2.2.2.2;omega,by have:=(hps p hp).2.2.2.1;omega⟩) (by omega)
  cases i with
  |zero=>omega
  |succ i=>
   have hs0:AP w (i+1)=⟨[(1,.ptr 4 0),(4,.ptr 5 0),(42,.lst (.lst .vtx) w.views),(43,.int .i64 w.views.length),(44,.int .i64 ((i+1:Nat):Int))],[(0,.fvari 190 217 (.ob .vtx) (w.views.map cd)),(4,.var 33 (bU w).cells),(5,.var 112 [.int .i32 0,.int .u32 0,.lst (.int .i64) w.com,.lst (.int .i64) w.lead,.int .i64 w.bad,.ref 6,.nils]),(6,.row 144 (.hp 0) ((List.range (w.views.map cd).length).map some))],7⟩:=by
    rw[AP,List.take_of_length_le (by omega),hml,←hi']
   rw[hs0]
   clear hs0
   generalize hts:w.views.map cd=ts at *
   (repeat' first|refine pR ?_|refine sa fun xe hxe=>?_|refine sb (fun hq=>?_) fun hq=>?_|refine cr (hCp) ?_|refine co (hK) ?_|exact True.intro)
   exact⟨rfl,rfl⟩
theorem pF {α:Type}{a b:List α}{i:Nat}{x:α}(h:a.take i=b.take i)(ha:a[i]?=some x)(hb:b[i]?=some x):a.take (i+1)=b.take (i+1):=by
 rw[List.take_add_one,List.take_add_one,h,ha,hb]
theorem xn (a b:List Int):aj Tryz.prog 46 [.lst (.int .i64) a,.lst (.int .i64) b] [] (.bool (decide (a=b))) []:=by
 refine ab ak Tryz.func46 rfl rfl false 0 4 rfl rfl rfl rfl fun K hK hb1 hb2=>?_;simp only[af,enc,Nat.reduceAdd]
 simp[ae,V.toD,bnd,aa,D.cells] at hb1
 by_cases hl:a.length=b.length
 ·(repeat' first|refine st ?_|refine sa fun xe hxe=>?_|refine sb (fun hq=>?_) fun hq=>?_|exact True.intro)
  refine ah hK [] [0,1,4,5] (fun i:Nat=>⟨[(0,.lst (.int .i64) a),(1,.lst (.int .i64) b),(4,.bool false),(5,.int .i64 i)],[],4⟩) (fun i=>i≤a.length∧a.take i=b.take i) (fun i=>a.length-i) 0 ⟨by simp,by simp⟩ rfl ?_
  rintro i ⟨hi,hall⟩
  by_cases hlt:i<a.length
  ·obtain⟨x,hx⟩:∃x,a[i]?=some x:=⟨_,List.getElem?_eq_getElem hlt⟩
   obtain⟨y,hy⟩:∃y,b[i]?=some y:=⟨_,List.getElem?_eq_getElem (by omega)⟩
   (repeat' first|refine st ?_|refine sa fun xe hxe=>?_|refine sb (fun hq=>?_) fun hq=>?_|exact True.intro)
   ·have hne:¬x=y:=hq
    exact⟨by rw[decide_eq_false];rintro rfl;rw[hx] at hy;exact hne (Option.some.inj hy),rfl⟩
   ·subst hq
    exact⟨i+1,⟨by omega,pF hall hx hy⟩,by omega,rfl⟩
  ·(repeat' first|refine st ?_|refine sa fun xe hxe=>?_|refine sb (fun hq=>?_) fun hq=>?_|exact True.intro)
   have hab:a=b:=by rwa [List.take_of_length_le (by omega),List.take_of_length_le (by omega)] at hall
   exact⟨by rw[decide_eq_true hab],rfl⟩
 ·(repeat' first|refine st ?_|refine sa fun xe hxe=>?_|refine sb (fun hq=>?_) fun hq=>?_|exact True.intro)
  exact⟨by rw[decide_eq_false];rintro rfl;exact hl rfl,rfl⟩
theorem cZ {α:Type}(c:List α)(a:List α)(x:α){i:Nat}(hc:c.length=i)(hi:i<a.length):(c++a.drop i).set i x=(c++[x])++a.drop (i+1):=by
 rw[List.set_append_right _ _ (by omega),hc,Nat.sub_self,List.drop_eq_getElem_cons hi]
 simp only[List.set_cons_zero,List.append_assoc,List.singleton_append]
theorem eu {α:Type}(c:List α)(a:List α){i:Nat}(hc:c.length=i)(hi:i<a.length):i<(c++a.drop i).length:=by simp;omega
theorem jz (a:List Int)(l:Int)(hl:0≤l∧l≤1048576):aj Tryz.prog 36 [.lst (.int .i64) a,.int .i64 l] [] (.int .i64 (if l-a.length<0 then-1 else l-a.length)) []:=by
 refine ab ak Tryz.func36 rfl rfl false 0 4 rfl rfl rfl rfl fun K hK hb1 hb2=>?_;simp only[af,enc,Nat.reduceAdd]
 simp[ae,V.toD,bnd,aa,D.cells] at hb1
 by_cases h:l-a.length<0
 ·(repeat' first|refine st ?_|refine sa fun xe hxe=>?_|refine sb (fun hq=>?_) fun hq=>?_|exact True.intro)
  exact⟨by rw[if_pos h],rfl⟩
 ·(repeat' first|refine st ?_|refine sa fun xe hxe=>?_|refine sb (fun hq=>?_) fun hq=>?_|exact True.intro)
  exact⟨by rw[if_neg h],rfl⟩
theorem dR (a:List Int)(ha:a.length≤1048576):aj Tryz.prog 41 [.lst (.int .i64) a] [] (.ref 4) [(4,.row 3 (.int .i64) a)]:=by
 refine ab ak Tryz.func41 rfl rfl false 0 4 rfl rfl rfl rfl fun K hK hb1 hb2=>?_;simp only[af,enc,Nat.reduceAdd]
 (repeat' first|refine st ?_|refine sa fun xe hxe=>?_|refine sb (fun hq=>?_) fun hq=>?_|exact True.intro)
 refine ah hK [] [0,3,4] (fun i:Nat=>⟨[(0,.lst (.int .i64) a),(3,.ref 4),(4,.int .i64 i)],[(4,.row 3 (.int .i64) (a.take i++(List.replicate a.length 0).drop i))],5⟩) (fun i=>i≤a.length) (fun i=>a.length-i) 0 (by simp) (by simp;rfl) ?_
 intro i hi
 by_cases hlt:i<a.length
 ·have hx:a[i]?=some a[i]:=List.getElem?_eq_getElem hlt
  have hg:i<(a.take i++(List.replicate a.length (0:Int)).drop i).length:=eu _ _ (by simp;omega) (by simpa using hlt)
  have hs:(a.take i++(List.replicate a.length (0:Int)).drop i).set i a[i]=a.take (i+1)++(List.replicate a.length 0).drop (i+1):=by
   rw[cZ _ _ _ (by simp;omega) (by simpa using hlt),List.take_succ_eq_append_getElem hlt]
  generalize hrow:a.take i++(List.replicate a.length (0:Int)).drop i=row at *
  generalize a[i]=x at *
  (repeat' first|refine st ?_|refine sa fun xe hxe=>?_|refine sb (fun hq=>?_) fun hq=>?_|exact True.intro)
  refine⟨i+1,by omega,by omega,?_⟩
  rw[←hs]
  rfl
 ·obtain rfl:i=a.length:=by omega
  (repeat' first|refine st ?_|refine sa fun xe hxe=>?_|refine sb (fun hq=>?_) fun hq=>?_|exact True.intro)
  simp
theorem lR (a:List Int):aj Tryz.prog 46 [.lst (.int .i64) a,.lst (.int .i64) a] [] (.bool true) []:=by
 have:=xn a a
 simpa using this
def ld (l:Int)(n:Nat):Int:=if l-n<0 then-1 else l-n
theorem mM (v:Vtx)(l:Int)(hl:0≤l∧l≤1048576):aj Tryz.prog 137 [bS v,.int .i64 l] [] (.int .i64 (ld l v.parents.length)) []:=by
 have hc:=jz v.parents l hl
 refine ab ak Tryz.func137 rfl rfl false 0 4 rfl rfl rfl rfl fun K hK hb1 hb2=>?_;simp only[af,enc,Nat.reduceAdd]
 unfold ld
 by_cases h:l-v.parents.length<0
 ·rw[if_pos h] at hc
  (repeat' first|refine st ?_|refine sa fun xe hxe=>?_|refine sb (fun hq=>?_) fun hq=>?_|refine cr (hc) ?_|exact True.intro)
  exact⟨by rw[if_pos h],rfl⟩
 ·rw[if_neg h] at hc
  (repeat' first|refine st ?_|refine sa fun xe hxe=>?_|refine sb (fun hq=>?_) fun hq=>?_|refine cr (hc) ?_|exact True.intro)
  exact⟨by rw[if_neg h],rfl⟩
def dN (g:List Vtx):Nat:=(g.map fun v=>v.parents.length).sum
theorem nR {g:List Vtx}{i:Nat}{v:Vtx}(h:g[i]?=some v):dN (g.take (i+1))=dN (g.take i)+v.parents.length:=by
 obtain⟨hl,rfl⟩:=List.getElem?_eq_some_iff.1 h
 rw[List.take_succ_eq_append_getElem hl]
 unfold dN
 rw[List.map_append,List.sum_append]
 simp
theorem yL (a b:List Vtx):dN (a++b)=dN a+dN b:=by unfold dN;rw[List.map_append,List.sum_append]
theorem uK (g:List Vtx)(i:Nat):dN (g.take i)≤dN g:=by
 have:=yL (g.take i) (g.drop i)
 rw[List.take_append_drop] at this
 omega
theorem rK (g:List Vtx)(l:Int)(hl:0≤l∧l≤1048576):aj Tryz.prog 82 [.lst .vtx g,.int .i64 l] [] (.int .i64 (ld l (g.length+dN g))) []:=by
 refine ab ak Tryz.func82 rfl rfl false 0 4 rfl rfl rfl rfl fun K hK hb1 hb2=>?_;simp only[af,enc,Nat.reduceAdd]
 simp[ae,V.toD,bnd,aa,D.cells] at hb1
 have hno:l-g.length-dN g<0→V.int .i64 (-1)=V.int .i64 (ld l (g.length+dN g))∧([]:VH)=[]:=fun h=>⟨by rw[ld,if_pos (by omega)],rfl⟩
 by_cases h0:l-g.length<0
 ·(repeat' first|refine st ?_|refine sa fun xe hxe=>?_|refine sb (fun hq=>?_) fun hq=>?_|exact True.intro)
  exact hno (by omega)
 (repeat' first|refine st ?_|refine sa fun xe hxe=>?_|refine sb (fun hq=>?_) fun hq=>?_|exact True.intro)
 refine ah hK [] [0,1,5] (fun i:Nat=>⟨[(0,.lst .vtx g),(1,.int .i64 (l-g.length-dN (g.take i))),(5,.int .i64 i)],[],4⟩) (fun i=>i≤g.length∧0≤l-g.length-dN (g.take i)) (fun i=>g.length-i) 0 ⟨by simp,by simp[dN];omega⟩ (by simp[dN];rfl) ?_
 rintro i ⟨hi,hp⟩
 by_cases hlt:i<g.length
 ·have hxe:g[i]?=some g[i]:=List.getElem?_eq_getElem hlt
  have h3:=nR hxe
  have h4:=uK g (i+1)
  generalize g[i]=v at *
  have hc:=mM v (l-g.length-dN (g.take i)) (by omega)
  unfold ld at hc
  by_cases h5:l-g.length-dN (g.take i)-v.parents.length<0
  ·rw[if_pos h5] at hc
   (repeat' first|refine st ?_|refine sa fun xe hxe=>?_|refine sb (fun hq=>?_) fun hq=>?_|refine cr (hc) ?_|exact True.intro)
   exact hno (by omega)
  ·rw[if_neg h5] at hc
   (repeat' first|refine st ?_|refine sa fun xe hxe=>?_|refine sb (fun hq=>?_) fun hq=>?_|refine cr (hc) ?_|exact True.intro)
   refine⟨i+1,by omega,by omega,?_⟩
   rw[h3,show l-(g.length:Int)-((dN (g.take i)+v.parents.length:Nat):Int)=l-g.length-dN (g.take i)-v.parents.length by omega]
   rfl
 ·rw[List.take_of_length_le (by omega)] at *
  (repeat' first|refine st ?_|refine sa fun xe hxe=>?_|refine sb (fun hq=>?_) fun hq=>?_|exact True.intro)
  exact⟨by rw[ld,if_neg (by omega)];congr 1;omega,rfl⟩
theorem mQ (v:Vtx)(hv:v.parents.length≤1048576):aj Tryz.prog 140 [bS v] [] (bS v) []:=by
 refine ab ak Tryz.func140 rfl rfl true 0 4 rfl rfl rfl rfl fun K hK hb1 hb2=>?_;simp only[af,enc,Nat.reduceAdd]
 (repeat' first|refine st ?_|refine sa fun xe hxe=>?_|refine sb (fun hq=>?_) fun hq=>?_|refine cr (dR _ hv) ?_|exact True.intro)
 exact⟨rfl,rfl⟩
theorem rN (g:List Vtx)(hg:g.length≤1048576)(hv:∀v∈g,v.parents.length≤1048576):aj Tryz.prog 86 [.lst .vtx g] [] (.lst .vtx g) []:=by
 refine ab ak Tryz.func86 rfl rfl true 0 4 rfl rfl rfl rfl fun K hK hb1 hb2=>?_;simp only[af,enc,Nat.reduceAdd]
 clear hb1 hb2
 (repeat' first|refine st ?_|refine sa fun xe hxe=>?_|refine sb (fun hq=>?_) fun hq=>?_|exact True.intro)
 refine ah hK [] [0,3,4] (fun i:Nat=>⟨[(0,.lst .vtx g),(3,.ref 4),(4,.int .i64 i)],[(4,.row 48 .vtx (g.take i++(List.replicate g.length v0).drop i))],5⟩) (fun i=>i≤g.length) (fun i=>g.length-i) 0 (by simp) (by simp;rfl) ?_
 intro i hi
 by_cases hlt:i<g.length
 ·have hx:g[i]?=some g[i]:=List.getElem?_eq_getElem hlt
  have Ap:i<(g.take i++(List.replicate g.length v0).drop i).length:=eu _ _ (by simp;omega) (by simpa using hlt)
  have hs:(g.take i++(List.replicate g.length v0).drop i).set i g[i]=g.take (i+1)++(List.replicate g.length v0).drop (i+1):=by
   rw[cZ _ _ _ (by simp;omega) (by simpa using hlt),List.take_succ_eq_append_getElem hlt]
  have hvl:=hv _ (List.getElem_mem hlt)
  generalize hrow:g.take i++(List.replicate g.length v0).drop i=row at *
  generalize g[i]=x at *
  (repeat' first|refine st ?_|refine sa fun xe hxe=>?_|refine sb (fun hq=>?_) fun hq=>?_|refine cr (mQ _ hvl) ?_|exact True.intro)
  refine⟨i+1,by omega,by omega,?_⟩
  rw[←hs]
  rfl
 ·obtain rfl:i=g.length:=by omega
  (repeat' first|refine st ?_|refine sa fun xe hxe=>?_|refine sb (fun hq=>?_) fun hq=>?_|exact True.intro)
  simp
theorem lS (v:Vtx):aj Tryz.prog 147 [bS v,bS v] [] (.bool true) []:=by
 refine ab ak Tryz.func147 rfl rfl false 0 4 rfl rfl rfl rfl fun K hK hb1 hb2=>?_;simp only[af,enc,Nat.reduceAdd]
 (repeat' first|refine st ?_|refine sa fun xe hxe=>?_|refine sb (fun hq=>?_) fun hq=>?_|refine cr (lR _) ?_|exact True.intro)
 all_goals first|(exact⟨rfl,rfl⟩)|exact absurd rfl hq|exact absurd trivial hq|cases hq
theorem qn (g:List Vtx):aj Tryz.prog 91 [.lst .vtx g,.lst .vtx g] [] (.bool true) []:=by
 refine ab ak Tryz.func91 rfl rfl false 0 4 rfl rfl rfl rfl fun K hK hb1 hb2=>?_;simp only[af,enc,Nat.reduceAdd]
 simp[ae,V.toD,bnd,aa,D.cells] at hb1
 (repeat' first|refine st ?_|refine sa fun xe hxe=>?_|refine sb (fun hq=>?_) fun hq=>?_|exact True.intro)
 ·exact absurd trivial hq
 refine ah hK [] [0,1,5] (fun i:Nat=>⟨[(0,.lst .vtx g),(1,.lst .vtx g),(5,.int .i64 i)],[],4⟩) (fun i=>i≤g.length) (fun i=>g.length-i) 0 (by simp) rfl ?_
 intro i hi
 by_cases hlt:i<g.length
 ·have hx:g[i]?=some g[i]:=List.getElem?_eq_getElem hlt
  generalize g[i]=x at *
  (repeat' first|refine st ?_|refine sa fun xe hxe=>?_|refine sb (fun hq=>?_) fun hq=>?_|refine cr (lS _) ?_|exact True.intro)
  exact⟨i+1,by omega,by omega,rfl⟩
 ·(repeat' first|refine st ?_|refine sa fun xe hxe=>?_|refine sb (fun hq=>?_) fun hq=>?_|exact True.intro)
  exact⟨rfl,rfl⟩
theorem Do {g:List Vtx}{v:Vtx}(h:v∈g):v.parents.length≤dN g:=by
 obtain⟨i,hi⟩:=List.getElem?_of_mem h
 have h1:=nR hi
 have h2:=uK g (i+1)
 omega
theorem EF (w:Wrl)(hl:∀g∈w.views,g.length≤2000000):aj Tryz.prog 35 [bU w] [] (.bool (iy w)) []:=by
 have h:=EE w hl
 have he:=vd w
 refine ab ak Tryz.func35 rfl rfl false 0 4 rfl rfl rfl rfl fun K hK hb1 hb2=>?_;simp only[af,enc,Nat.reduceAdd]
 clear hb1 hb2
 cases hp:fN w
 ·simp only[Dl,Dk,hp,Bool.false_eq_true,if_false] at h
  (repeat' first|refine st ?_|refine sa fun xe hxe=>?_|refine sb (fun hq=>?_) fun hq=>?_|refine cr (h) ?_|exact True.intro)
  exact⟨by rw[he,hp,Bool.false_and],rfl⟩
 ·simp only[Dl,Dk,hp,if_true] at h
  have hk:=Dt hp
  rw[hk] at h
  (repeat' first|refine st ?_|refine sa fun xe hxe=>?_|refine sb (fun hq=>?_) fun hq=>?_|refine cr (h) ?_|exact True.intro)
  exact⟨by rw[he,hp,Bool.true_and],rfl⟩

end Go.Proofs.YthmfppknagbkeaaGreatDoor.Am
