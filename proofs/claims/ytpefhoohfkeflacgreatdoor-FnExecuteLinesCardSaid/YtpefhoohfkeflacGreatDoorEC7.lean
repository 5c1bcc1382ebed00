/- Runs: leaders, faulty members, pairs of proposals: what the functions give. Runs: graphs of members, copies: what the program's functions give. Runs: clones of proposals, views that cover. Runs: parents that are known. Runs: clones of lists of numbers (the empty ones by the shelf). Runs: a run is opened. The exact laws' own functions on lists of numbers and vertices. Runs: the vertices of a graph's table; copies of proposals; a run as it is handed back. Runs: what is handed back; new runs, valid runs. -/
import Derived.Shelf.Slices.Clone
import Derived.Test.YtpefhoohfkeflacGreatDoorEC6
set_option linter.unusedSimpArgs false
set_option linter.unusedVariables false
set_option maxHeartbeats 1000000
namespace Go.Proofs.YtpefhoohfkeflacGreatDoor.Am
open Go
attribute [local irreducible] Mk ci Ari fB mA ju b9 cR iT fo At ag
set_option maxRecDepth 10000
theorem JV (c l:List Int):ag Tryz.prog 118 [.lst (.int .i64) c,.lst (.int .i64) l] [] (.bool (leaS c l)) []:=by
 refine ab aj Tryz.func118 rfl rfl false 0 4 rfl rfl rfl rfl fun K hK hb1 hb2=>?_;simp only[ae,enc,Nat.reduceAdd]
 simp[ak,V.toD,bnd,ai,D.cells] at hb1
 (repeat' first|refine st ?_|refine sa fun xe hxe=>?_|refine sb (fun hq=>?_) fun hq=>?_|exact aa)
 refine ah hK [] [0,1,5] (fun i:Nat=>⟨[(0,.lst (.int .i64) c),(1,.lst (.int .i64) l),(5,.int .i64 i)],[],4⟩) (fun i=>i≤l.length∧∀j,j<i→dt c (l.getD j 0)=true) (fun i=>l.length-i) 0 ⟨by simp,by simp⟩ rfl ?_
 rintro i ⟨hi,hall⟩
 by_cases hlt:i<l.length
 ·have hxe:l[i]?=some l[i]:=am hlt
  have hno:dt c l[i]=false→leaS c l=false:=fun h=>by
   unfold leaS
   rw[dP hlt (by rw[bZ hxe];exact h),iy]
  have hys:=cD hall (p:=fun j=>dt c (l.getD j 0)) (i:=i)
  simp only[bZ hxe] at hys
  generalize l[i]=m at *
  (repeat' first|refine st ?_|refine sa fun xe hxe=>?_|refine sb (fun hq=>?_) fun hq=>?_|refine cr (nh _ _ _) ?_|exact aa)
  ·rw[hno hq]
   exact⟨rfl,rfl⟩
  ·exact⟨i+1,⟨by omega,hys hq⟩,by omega,rfl⟩
 ·(repeat' first|refine st ?_|refine sa fun xe hxe=>?_|refine sb (fun hq=>?_) fun hq=>?_|exact aa)
  unfold leaS
  rw[de (fun j hj=>hall j (by omega)),d7]
  exact⟨rfl,rfl⟩
theorem LB (c l:List Int):ag Tryz.prog 70 [.lst (.int .i64) c,.lst (.int .i64) l] [] (.bool (comV c && leaS c l)) []:=by
 refine ab aj Tryz.func70 rfl rfl false 0 4 rfl rfl rfl rfl fun K hK hb1 hb2=>?_;simp only[ae,enc,Nat.reduceAdd]
 (repeat' first|refine st ?_|refine sa fun xe hxe=>?_|refine sb (fun hq=>?_) fun hq=>?_|refine cr (y9 _) ?_|refine cr (JV _ _) ?_|exact aa)
 all_goals (refine⟨?_,rfl⟩;simp_all)
theorem rg (c l:List Int):ag Tryz.prog 47 [.lst (.int .i64) c,.lst (.int .i64) l] [] (.bool (comV c && leaS c l)) []:=by
 refine ab aj Tryz.func47 rfl rfl false 0 4 rfl rfl rfl rfl fun K hK hb1 hb2=>?_;simp only[ae,enc,Nat.reduceAdd]
 simp[ak,V.toD,bnd,ai,D.cells] at hb1
 cases hc:comV c
 ·(repeat' first|refine st ?_|refine sa fun xe hxe=>?_|refine sb (fun hq=>?_) fun hq=>?_|refine cr (ow _) ?_|exact aa)
  exact⟨rfl,rfl⟩
 rw[d7]
 by_cases h15:15<(l.length:Int)
 ·(repeat' first|refine st ?_|refine sa fun xe hxe=>?_|refine sb (fun hq=>?_) fun hq=>?_|refine cr (ow _) ?_|exact aa)
  unfold leaS
  rw[decide_eq_false (by omega),lz]
  exact⟨rfl,rfl⟩
 (repeat' first|refine st ?_|refine sa fun xe hxe=>?_|refine sb (fun hq=>?_) fun hq=>?_|refine cr (ow _) ?_|exact aa)
 refine ah hK [] [0,15,16,17] (fun i:Nat=>⟨[(0,.lst (.int .i64) c),(15,.lst (.int .i64) l),(16,.int .i64 l.length),(17,.int .i64 i)],[],4⟩) (fun i=>i≤l.length∧∀j,j<i→dt c (l.getD j 0)=true) (fun i=>l.length-i) 0 ⟨by simp,by simp⟩ rfl ?_
 rintro i ⟨hi,hall⟩
 by_cases hlt:i<l.length
 ·have hxe:l[i]?=some l[i]:=am hlt
  have hno:dt c l[i]=false→leaS c l=false:=fun h=>by
   unfold leaS
   rw[dP hlt (by rw[bZ hxe];exact h),iy]
  have hys:=cD hall (p:=fun j=>dt c (l.getD j 0)) (i:=i)
  simp only[bZ hxe] at hys
  generalize l[i]=m at *
  (repeat' first|refine st ?_|refine sa fun xe hxe=>?_|refine sb (fun hq=>?_) fun hq=>?_|refine cr (fw _ _) ?_|exact aa)
  ·rw[hno hq]
   exact⟨rfl,rfl⟩
  ·exact⟨i+1,⟨by omega,hys hq⟩,by omega,rfl⟩
 ·(repeat' first|refine st ?_|refine sa fun xe hxe=>?_|refine sb (fun hq=>?_) fun hq=>?_|exact aa)
  unfold leaS
  rw[de (fun j hj=>hall j (by omega)),d7,decide_eq_true (by omega)]
  exact⟨rfl,rfl⟩
theorem E1 (c:List Int)(hc:comV c=true):ag Tryz.prog 95 [.lst (.int .i64) c] [] (.int .i64 (Bc c)) []:=by
 have h1:=lr hc
 have h2:=Em hc
 have h3:(qD c-1).tdiv 3=Bc c:=rfl
 refine ab aj Tryz.func95 rfl rfl false 0 4 rfl rfl rfl rfl fun K hK hb1 hb2=>?_;simp only[ae,enc,Nat.reduceAdd]
 (repeat' first|refine st ?_|refine sa fun xe hxe=>?_|refine sb (fun hq=>?_) fun hq=>?_|refine cr (zH _ hc) ?_|exact aa)
 exact⟨rfl,rfl⟩
theorem If (c:List Int)(b:Int)(hc:comV c=true):ag Tryz.prog 48 [.lst (.int .i64) c,.int .i64 b] [] (.bool (badS c b)) []:=by
 refine ab aj Tryz.func48 rfl rfl false 0 4 rfl rfl rfl rfl fun K hK hb1 hb2=>?_;simp only[ae,enc,Nat.reduceAdd]
 clear hb1 hb2
 cases h0:b== -1
 ·have hne:b≠-1:=by simpa using h0
  cases h1:dt c b
  ·have:badS c b=false:=by
    rw[ck]
    intro h
    rcases nW.1 h with h|h
    ·exact hne h
    ·rw[dt,aC.2 (by omega)] at h1;cases h1
   rw[this]
   (repeat' first|refine st ?_|refine sa fun xe hxe=>?_|refine sb (fun hq=>?_) fun hq=>?_|refine cr (fw _ _) ?_|exact aa)
   exact⟨rfl,rfl⟩
  ·have hm:=aC.1 h1
   have hx2:c[b.toNat]?=some (c.getD b.toNat 0):=by rw[aq,am (show b.toNat<c.length by omega)];rfl
   have hb:badS c b=decide (c.getD b.toNat 0≤Bc c):=by
    rw[d6,nW,decide_eq_true_eq]
    constructor
    ·rintro(h|⟨-,h⟩)
     ·exact absurd h hne
     ·exact h
    ·intro h;exact .inr ⟨by omega,h⟩
   rw[hb]
   generalize c.getD b.toNat 0=x at *
   (repeat' first|refine st ?_|refine sa fun xe hxe=>?_|refine sb (fun hq=>?_) fun hq=>?_|refine cr (fw _ _) ?_|refine cr (E1 _ hc) ?_|exact aa)
   exact⟨rfl,rfl⟩
 ·have hb:b= -1:=by simpa using h0
  have:badS c b=true:=nW.2 (.inl hb)
  rw[this]
  (repeat' first|refine st ?_|refine sa fun xe hxe=>?_|refine sb (fun hq=>?_) fun hq=>?_|refine cr (fw _ _) ?_|refine cr (E1 _ hc) ?_|exact aa)
  all_goals exact⟨rfl,rfl⟩
abbrev tU (p:Ppl):V:=.agg [.int .i64 p.v.round,.int .i64 p.v.author,.lst (.int .i64) p.v.parents,.int .i64 p.v.digest,.lst (.int .i64) p.members]
theorem vH (c:List Int)(p:Ppl)(hc:comV c=true)(hm:ee c p.members=true):ag Tryz.prog 103 [tU p,.lst (.int .i64) c] [] (.bool (don c p)) []:=by
 have hw:Do c p.members=lF c p.members:=by simp[Do,hc,hm]
 have hwc:=Bu c p.members
 have hqc:=Bo c
 rw[hw] at hwc
 rw[hc] at hqc
 refine ab aj Tryz.func103 rfl rfl false 0 4 rfl rfl rfl rfl fun K hK hb1 hb2=>?_;simp only[ae,enc,Nat.reduceAdd]
 (repeat' first|refine st ?_|refine sa fun xe hxe=>?_|refine sb (fun hq=>?_) fun hq=>?_|refine cr (hwc) ?_|refine cr (hqc) ?_|exact aa)
 exact⟨rfl,rfl⟩
theorem sF (v u:Vtx):ag Tryz.prog 136 [cY v,cY u] [] (.bool (slt v u)) []:=by
 refine ab aj Tryz.func136 rfl rfl false 0 4 rfl rfl rfl rfl fun K hK hb1 hb2=>?_;simp only[ae,enc,Nat.reduceAdd]
 (repeat' first|refine st ?_|refine sa fun xe hxe=>?_|refine sb (fun hq=>?_) fun hq=>?_|exact aa)
 all_goals (refine⟨?_,rfl⟩;simp_all[slt])
theorem Mf (a b:List Int):ag Tryz.prog 140 [.lst (.int .i64) a,.lst (.int .i64) b] [] (.bool (a==b)) []:=by
 refine ab aj Tryz.func140 rfl rfl false 0 4 rfl rfl rfl rfl fun K hK hb1 hb2=>?_;simp only[ae,enc,Nat.reduceAdd]
 simp[ak,V.toD,bnd,ai,D.cells] at hb1
 by_cases hl:a.length=b.length
 ·(repeat' first|refine st ?_|refine sa fun xe hxe=>?_|refine sb (fun hq=>?_) fun hq=>?_|exact aa)
  refine ah hK [] [0,1,11,12,13] (fun i:Nat=>⟨[(0,.lst (.int .i64) a),(1,.lst (.int .i64) b),(11,.lst (.int .i64) a),(12,.int .i64 a.length),(13,.int .i64 i)],[],4⟩) (fun i=>i≤a.length∧a.take i=b.take i) (fun i=>a.length-i) 0 ⟨by simp,by simp⟩ rfl ?_
  rintro i ⟨hi,hall⟩
  by_cases hlt:i<a.length
  ·obtain⟨x,hx⟩:∃x,a[i]?=some x:=⟨_,am hlt⟩
   obtain⟨y,hy⟩:∃y,b[i]?=some y:=⟨_,am (by omega)⟩
   (repeat' first|refine st ?_|refine sa fun xe hxe=>?_|refine sb (fun hq=>?_) fun hq=>?_|exact aa)
   ·have hne:¬x=y:=hq
    have:(a==b)=false:=by rw[beq_eq_false_iff_ne];rintro rfl;rw[hx] at hy;exact hne (ar hy)
    rw[this]
    exact⟨rfl,rfl⟩
   ·subst hq
    exact⟨i+1,⟨by omega,by rw[List.take_add_one,List.take_add_one,hall,hx,hy]⟩,by omega,rfl⟩
  ·(repeat' first|refine st ?_|refine sa fun xe hxe=>?_|refine sb (fun hq=>?_) fun hq=>?_|exact aa)
   have hab:a=b:=by rwa [bp (by omega),bp (by omega)] at hall
   rw[hab,beq_self_eq_true]
   exact⟨rfl,rfl⟩
 ·(repeat' first|refine st ?_|refine sa fun xe hxe=>?_|refine sb (fun hq=>?_) fun hq=>?_|exact aa)
  have:(a==b)=false:=by rw[beq_eq_false_iff_ne];rintro rfl;exact hl rfl
  rw[this]
  exact⟨rfl,rfl⟩
theorem nH (v u:Vtx):ag Tryz.prog 102 [cY v,cY u] [] (.bool (kR v u)) []:=by
 refine ab aj Tryz.func102 rfl rfl false 0 4 rfl rfl rfl rfl fun K hK hb1 hb2=>?_;simp only[ae,enc,Nat.reduceAdd]
 (repeat' first|refine st ?_|refine sa fun xe hxe=>?_|refine sb (fun hq=>?_) fun hq=>?_|refine cr (Mf _ _) ?_|exact aa)
 all_goals (refine⟨?_,rfl⟩;simp_all[kR])
theorem I9 (l:List Int)(n:Int):ag Tryz.prog 164 [.lst (.int .i64) l,.int .i64 n] [] (.int .i64 (match l.findIdx? (· ==n) with|some i=>(i:Int)|none=>-1)) []:=by
 refine ab aj Tryz.func164 rfl rfl false 0 4 rfl rfl rfl rfl fun K hK hb1 hb2=>?_;simp only[ae,enc,Nat.reduceAdd]
 simp[ak,V.toD,bnd,ai,D.cells] at hb1
 (repeat' first|refine st ?_|refine sa fun xe hxe=>?_|refine sb (fun hq=>?_) fun hq=>?_|exact aa)
 refine ah hK [] [0,1,7,8] (fun i:Nat=>⟨[(0,.lst (.int .i64) l),(1,.int .i64 n),(7,.int .i64 l.length),(8,.int .i64 i)],[],4⟩) (fun i=>i≤l.length∧∀y∈l.take i,(y==n)=false) (fun i=>l.length-i) 0 ⟨by simp,by simp⟩ rfl ?_
 rintro i ⟨hi,hall⟩
 by_cases hlt:i<l.length
 ·have hxe:l[i]?=some l[i]:=am hlt
  have h3:l.take (i+1)=l.take i++[l[i]]:=b8 hlt
  have h4:=qY (l:=l) (p:=(· ==n)) hxe hall
  generalize l[i]=y at *
  by_cases he:n=y
  ·have hb:(n==y)=true:=by simpa using he
   (repeat' first|refine st ?_|refine sa fun xe hxe=>?_|refine sb (fun hq=>?_) fun hq=>?_|exact aa)
   rw[h4 (by simpa using he.symm)]
   exact⟨rfl,rfl⟩
  ·have hb:(n==y)=false:=by simpa using he
   (repeat' first|refine st ?_|refine sa fun xe hxe=>?_|refine sb (fun hq=>?_) fun hq=>?_|exact aa)
   exact⟨i+1,⟨by omega,by rw[h3];exact bL hall (by simpa using fun h=>he h.symm)⟩,by omega,rfl⟩
 ·(repeat' first|refine st ?_|refine sa fun xe hxe=>?_|refine sb (fun hq=>?_) fun hq=>?_|exact aa)
  rw[bp (by omega)] at hall
  rw[pd.2 hall]
  exact⟨rfl,rfl⟩
theorem jP (l:List Int)(n:Int):ag Tryz.prog 137 [.lst (.int .i64) l,.int .i64 n] [] (.bool (l.contains n)) []:=by
 refine ab aj Tryz.func137 rfl rfl false 0 4 rfl rfl rfl rfl fun K hK hb1 hb2=>?_;simp only[ae,enc,Nat.reduceAdd]
 (repeat' first|refine st ?_|refine sa fun xe hxe=>?_|refine sb (fun hq=>?_) fun hq=>?_|refine cr (I9 _ _) ?_|exact aa)
 refine⟨?_,rfl⟩
 have:l.contains n=(l.findIdx? (· ==n)).isSome:=by
  rw[List.findIdx?_isSome,d6,ir,fJ]
  constructor
  ·intro h;exact⟨n,h,by simp⟩
  ·rintro⟨x,h1,h2⟩;rw[beq_iff_eq] at h2;exact h2▸h1
 rw[this]
 cases l.findIdx? (· ==n) with
 |none=>rfl
 |some i=>simp
theorem H3 (p q:Ppl)(bad:Int):ag Tryz.prog 98 [tU p,tU q,.int .i64 bad] [] (.bool (fitP bad p q)) []:=by
 refine ab aj Tryz.func98 rfl rfl false 0 4 rfl rfl rfl rfl fun K hK hb1 hb2=>?_;simp only[ae,enc,Nat.reduceAdd]
 simp[ak,V.toD,bnd,ai,D.cells] at hb1
 cases h1:slt p.v q.v
 ·have:fitP bad p q=true:=by simp[fitP,h1]
  rw[this]
  (repeat' first|refine st ?_|refine sa fun xe hxe=>?_|refine sb (fun hq=>?_) fun hq=>?_|refine cr (sF _ _) ?_|refine cr (nH _ _) ?_|refine cr (jP _ _) ?_|exact aa)
  exact⟨rfl,rfl⟩
 cases h2:kR p.v q.v
 ·cases h3:p.v.author==bad
  ·have:fitP bad p q=false:=by simp[fitP,h1,h2,h3]
   rw[this]
   have hn:(p.v.author !=bad)=true:=by rw[bne,h3];rfl
   (repeat' first|refine st ?_|refine sa fun xe hxe=>?_|refine sb (fun hq=>?_) fun hq=>?_|refine cr (sF _ _) ?_|refine cr (nH _ _) ?_|refine cr (jP _ _) ?_|exact aa)
   exact⟨rfl,rfl⟩
  ·have hf:fitP bad p q= !nD bad p.members q.members:=by simp[fitP,h1,h2,h3]
   rw[hf]
   have hn:(p.v.author !=bad)=false:=by rw[bne,h3];rfl
   (repeat' first|refine st ?_|refine sa fun xe hxe=>?_|refine sb (fun hq=>?_) fun hq=>?_|refine cr (sF _ _) ?_|refine cr (nH _ _) ?_|refine cr (jP _ _) ?_|exact aa)
   refine ah hK [] [2,4,28,29,30] (fun i:Nat=>⟨[(2,.int .i64 bad),(4,.ptr 4 0),(28,.lst (.int .i64) p.members),(29,.int .i64 p.members.length),(30,.int .i64 i)],[(4,.var 123 (tU q).cells)],5⟩) (fun i=>i≤p.members.length∧∀m∈p.members.take i,(m !=bad && q.members.contains m)=false) (fun i=>p.members.length-i) 0 ⟨by simp,by simp⟩ rfl ?_
   rintro i ⟨hi,hall⟩
   by_cases hlt:i<p.members.length
   ·have hxe:p.members[i]?=some p.members[i]:=am hlt
    have hsn:p.members.take (i+1)=p.members.take i++[p.members[i]]:=b8 hlt
    have hmm:p.members[i]∈p.members:=bd hlt
    generalize p.members[i]=m at *
    have hyes:(m !=bad && q.members.contains m)=true→nD bad p.members q.members=true:=fun h=>fJ.2 ⟨m,hmm,h⟩
    cases h4:m !=bad
    ·(repeat' first|refine st ?_|refine sa fun xe hxe=>?_|refine sb (fun hq=>?_) fun hq=>?_|refine cr (jP _ _) ?_|exact aa)
     exact⟨i+1,⟨by omega,by rw[hsn];exact bL hall (by rw[h4];rfl)⟩,by omega,rfl⟩
    ·cases h5:q.members.contains m
     ·have hc5:=jP q.members m
      rw[h5] at hc5
      (repeat' first|refine st ?_|refine sa fun xe hxe=>?_|refine sb (fun hq=>?_) fun hq=>?_|refine cr (hc5) ?_|exact aa)
      exact⟨i+1,⟨by omega,by rw[hsn];exact bL hall (by rw[h5,lz])⟩,by omega,rfl⟩
     ·have hc5:=jP q.members m
      rw[h5] at hc5
      (repeat' first|refine st ?_|refine sa fun xe hxe=>?_|refine sb (fun hq=>?_) fun hq=>?_|refine cr (hc5) ?_|exact aa)
      rw[hyes (by rw[h4,h5];rfl)]
      exact⟨rfl,rfl⟩
   ·(repeat' first|refine st ?_|refine sa fun xe hxe=>?_|refine sb (fun hq=>?_) fun hq=>?_|exact aa)
    rw[bp (by omega)] at hall
    have:nD bad p.members q.members=false:=by
     rw[ck]
     intro h
     obtain⟨m,hm,h⟩:=fJ.1 h
     rw[hall m hm] at h
     cases h
    rw[this]
    exact⟨rfl,rfl⟩
 ·have:fitP bad p q=false:=by simp[fitP,h1,h2]
  rw[this]
  (repeat' first|refine st ?_|refine sa fun xe hxe=>?_|refine sb (fun hq=>?_) fun hq=>?_|refine cr (sF _ _) ?_|refine cr (nH _ _) ?_|refine cr (jP _ _) ?_|exact aa)
  exact⟨rfl,rfl⟩
abbrev bc (w:Wrl):V:=.agg [.lst (.int .i64) w.com,.lst (.int .i64) w.lead,.int .i64 w.bad,.lst (.lst .vtx) w.views,.lst .ppl w.props]
theorem FI (c:List Int)(p:Ppl)(hc:comV c=true):(comV c && vtxS c p.v)=vtxS c p.v∧(comV c && ee c p.members)=ee c p.members:=by simp[hc]
theorem Ie (w:Wrl)(hc:comV w.com=true):ag Tryz.prog 49 [bc w] [] (.bool (gJ w.com w.bad w.props)) []:=by
 refine ab aj Tryz.func49 rfl rfl false 0 4 rfl rfl rfl rfl fun K hK hb1 hb2=>?_;simp only[ae,enc,Nat.reduceAdd]
 simp[ak,V.toD,bnd,ai,D.cells] at hb1
 by_cases h220:220<(w.props.length:Int)
 ·(repeat' first|refine st ?_|refine sa fun xe hxe=>?_|refine sb (fun hq=>?_) fun hq=>?_|exact aa)
  unfold gJ
  rw[decide_eq_false (by omega),lz]
  exact⟨rfl,rfl⟩
 have hps:gJ w.com w.bad w.props=ey w.props.length (gr w.com w.bad w.props):=by
  unfold gJ
  rw[decide_eq_true (by omega),Bool.and_true]
 rw[hps]
 (repeat' first|refine st ?_|refine sa fun xe hxe=>?_|refine sb (fun hq=>?_) fun hq=>?_|exact aa)
 refine ah hK [] [1,12,13,14] (fun i:Nat=>⟨[(1,.ptr 4 0),(12,.lst .ppl w.props),(13,.int .i64 w.props.length),(14,.int .i64 i)],[(4,.var 36 (bc w).cells)],5⟩) (fun i=>i≤w.props.length∧∀j,j<i→gr w.com w.bad w.props j=true) (fun i=>w.props.length-i) 0 ⟨by simp,by simp⟩ rfl ?_
 rintro i ⟨hi,hall⟩
 by_cases hlt:i<w.props.length
 ·have hxe:w.props[i]?=some w.props[i]:=am hlt
  have hno:gr w.com w.bad w.props i=false→V.bool false=V.bool (ey w.props.length (gr w.com w.bad w.props))∧([]:VH)=[]:=fun h=>⟨by rw[dP hlt h],rfl⟩
  have hA:gr w.com w.bad w.props i=(oneP w.com w.props[i] && ey i (fun k=>fitP w.bad w.props[i] (w.props.getD k p0))):=by simp only[gr,bZ hxe]
  generalize w.props[i]=p at *
  have hvc:=jZ w.com p.v
  have hmc:=rh w.com p.members
  rw[(FI _ p hc).1] at hvc
  rw[(FI _ p hc).2] at hmc
  cases h1:vtxS w.com p.v
  ·(repeat' first|refine st ?_|refine sa fun xe hxe=>?_|refine sb (fun hq=>?_) fun hq=>?_|refine cr (hvc) ?_|refine cr (hmc) ?_|exact aa)
   exact hno (by simp[hA,oneP,h1])
  cases h2:ee w.com p.members
  ·(repeat' first|refine st ?_|refine sa fun xe hxe=>?_|refine sb (fun hq=>?_) fun hq=>?_|refine cr (hvc) ?_|refine cr (hmc) ?_|exact aa)
   exact hno (by simp[hA,oneP,h2])
  have e1:lM w.props none (some (.int .i64 i)) 0 (i:Int).toNat=w.props.take i:=by simp[lM]
  have hl1:(w.props.take i).length=i:=by rw[bP];omega
  (repeat' first|refine st ?_|refine sa fun xe hxe=>?_|refine sb (fun hq=>?_) fun hq=>?_|refine cr (hvc) ?_|refine cr (hmc) ?_|exact aa)
  refine ah hK [] [1,4,12,13,14,36,37,38] (fun k:Nat=>⟨[(1,.ptr 4 0),(4,.ptr 5 0),(12,.lst .ppl w.props),(13,.int .i64 w.props.length),(14,.int .i64 i),(36,.lst .ppl (w.props.take i)),(37,.int .i64 i),(38,.int .i64 k)],[(4,.var 36 (bc w).cells),(5,.var 123 (tU p).cells)],6⟩) (fun k=>k≤i∧∀j,j<k→fitP w.bad p (w.props.getD j p0)=true) (fun k=>i-k) 0 ⟨by simp,by simp⟩ (by simp only[e1,hl1];rfl) ?_
  rintro k ⟨hk,hkall⟩
  by_cases hkl:k<i
  ·have hxk:(w.props.take i)[k]?=some (w.props.getD k p0):=by rw[en,if_pos hkl,aq,am (show k<w.props.length by omega)];rfl
   have hyes:=cD hkall (p:=fun j=>fitP w.bad p (w.props.getD j p0)) (i:=k)
   have hnk:fitP w.bad p (w.props.getD k p0)=false→V.bool false=V.bool (ey w.props.length (gr w.com w.bad w.props))∧([]:VH)=[]:=fun h=>hno (by rw[hA,dP hkl h,lz])
   generalize w.props.getD k p0=q at *
   have hcq:=H3 q p w.bad
   rw[pz] at hcq
   generalize w.props.take i=pt at *
   cases h3:fitP w.bad p q
   ·rw[h3] at hcq
    (repeat' first|refine st ?_|refine sa fun xe hxe=>?_|refine sb (fun hq=>?_) fun hq=>?_|refine cr (hcq) ?_|exact aa)
    exact hnk h3
   ·rw[h3] at hcq
    (repeat' first|refine st ?_|refine sa fun xe hxe=>?_|refine sb (fun hq=>?_) fun hq=>?_|refine cr (hcq) ?_|exact aa)
    exact⟨k+1,⟨by omega,hyes h3⟩,by omega,rfl⟩
  ·have hAt:gr w.com w.bad w.props i=true:=by
    rw[hA,de (fun j hj=>hkall j (by omega)),oneP,h1,h2]
    rfl
   (repeat' first|refine st ?_|refine sa fun xe hxe=>?_|refine sb (fun hq=>?_) fun hq=>?_|exact aa)
   exact⟨i+1,⟨by omega,cD hall hAt⟩,by omega,rfl⟩
 ·(repeat' first|refine st ?_|refine sa fun xe hxe=>?_|refine sb (fun hq=>?_) fun hq=>?_|exact aa)
  rw[de (fun j hj=>hall j (by omega))]
  exact⟨rfl,rfl⟩
theorem E5 (c:List Int)(g:List Vtx)(hl:g.length≤2000000):ag Tryz.prog 99 [.lst (.int .i64) c,.lst .vtx g] [] (.bool (graS c g)) []:=by
 have hL:=vN c g hl
 refine ab eN Tryz.func99 rfl rfl false 0 4 rfl rfl rfl rfl fun K hK hb1 hb2=>?_;simp only[ae,enc,Nat.reduceAdd]
 clear hb1 hb2
 cases hg:graS c g
 ·simp only[Dr,Dq,hg,eW,if_false] at hL
  (repeat' first|refine jR ?_|refine sa fun xe hxe=>?_|refine sb (fun hq=>?_) fun hq=>?_|refine cr (hL) ?_|exact aa)
  exact⟨rfl,rfl⟩
 ·simp only[Dr,Dq,hg,if_true] at hL
  cases g with
  |nil=>
   (repeat' first|refine jR ?_|refine sa fun xe hxe=>?_|refine sb (fun hq=>?_) fun hq=>?_|refine cr (hL) ?_|exact aa)
   exact⟨rfl,rfl⟩
  |cons v g=>
   (repeat' first|refine jR ?_|refine sa fun xe hxe=>?_|refine sb (fun hq=>?_) fun hq=>?_|refine cr (hL) ?_|exact aa)
   exact⟨rfl,rfl⟩
abbrev u3 (w:Wrl)(v:Vtx):VH:=[(4,.var 73 [.int .i64 v.round,.int .i64 v.author,.lst (.int .i64) v.parents,.int .i64 v.digest]),(5,.var 36 [.lst (.int .i64) w.com,.lst (.int .i64) w.lead,.int .i64 w.bad,.lst (.lst .vtx) w.views,.lst .ppl w.props])]
theorem NP (w:Wrl)(v:Vtx)(p:Ppl)(hc:comV w.com=true)(hm:ee w.com p.members=true):ag Tryz.prog 101 [tU p,.ptr 4 0,.ptr 5 0] (u3 w v) (.bool (kR p.v v && don w.com p)) (u3 w v):=by
 refine ab aj Tryz.func101 rfl rfl false 2 6 rfl rfl rfl rfl fun K hK hb1 hb2=>?_;simp only[ae,enc,Nat.reduceAdd]
 clear hb1 hb2
 cases h1:kR p.v v
 ·(repeat' first|refine st ?_|refine sa fun xe hxe=>?_|refine sb (fun hq=>?_) fun hq=>?_|refine cr (nH _ _) ?_|refine cr (vH _ _ hc hm) ?_|exact aa)
  exact⟨rfl,rfl⟩
 ·(repeat' first|refine st ?_|refine sa fun xe hxe=>?_|refine sb (fun hq=>?_) fun hq=>?_|refine cr (nH _ _) ?_|refine cr (vH _ _ hc hm) ?_|exact aa)
  exact⟨rfl,rfl⟩
theorem KY (w:Wrl)(v:Vtx)(ps:List Ppl)(hc:comV w.com=true)(hm:∀p∈ps,ee w.com p.members=true):ag Tryz.prog 139 [.lst .ppl ps,.clo 101 [.ptr 4 0,.ptr 5 0]] (u3 w v)
  (.int .i64 (match ps.findIdx? (fun p=>kR p.v v && don w.com p) with|some i=>(i:Int)|none=>-1)) (u3 w v):=by
 refine ab aj Tryz.func139 rfl rfl false 2 6 rfl rfl rfl rfl fun K hK hb1 hb2=>?_;simp only[ae,enc,Nat.reduceAdd]
 clear hb2
 simp[ak,V.toD,bnd,ai,D.cells] at hb1
 (repeat' first|refine st ?_|refine sa fun xe hxe=>?_|refine sb (fun hq=>?_) fun hq=>?_|exact aa)
 refine ah hK [] [0,1,7,8] (fun i:Nat=>⟨[(0,.lst .ppl ps),(1,.clo 101 [.ptr 4 0,.ptr 5 0]),(7,.int .i64 ps.length),(8,.int .i64 i)],u3 w v,6⟩) (fun i=>i≤ps.length∧∀y∈ps.take i,(kR y.v v && don w.com y)=false) (fun i=>ps.length-i) 0 ⟨by simp,by simp⟩ rfl ?_
 rintro i ⟨hi,hall⟩
 by_cases hlt:i<ps.length
 ·have hxe:ps[i]?=some ps[i]:=am hlt
  have h3:ps.take (i+1)=ps.take i++[ps[i]]:=b8 hlt
  have h4:=qY (l:=ps) (p:=fun p=>kR p.v v && don w.com p) hxe hall
  have h5:=hm _ (bd hlt)
  generalize ps[i]=p at *
  have hv:=NP w v p hc h5
  cases h6:kR p.v v && don w.com p
  ·rw[h6] at hv
   (repeat' first|refine st ?_|refine sa fun xe hxe=>?_|refine sb (fun hq=>?_) fun hq=>?_|refine cr (hv) ?_|exact aa)
   exact⟨i+1,⟨by omega,by rw[h3];exact bL hall h6⟩,by omega,rfl⟩
  ·rw[h6] at hv
   (repeat' first|refine st ?_|refine sa fun xe hxe=>?_|refine sb (fun hq=>?_) fun hq=>?_|refine cr (hv) ?_|exact aa)
   rw[h4 h6]
   exact⟨rfl,rfl⟩
 ·(repeat' first|refine st ?_|refine sa fun xe hxe=>?_|refine sb (fun hq=>?_) fun hq=>?_|exact aa)
  rw[bp (by omega)] at hall
  rw[pd.2 hall]
  exact⟨rfl,rfl⟩
theorem Nn (w:Wrl)(v:Vtx)(ps:List Ppl)(hc:comV w.com=true)(hm:∀p∈ps,ee w.com p.members=true):ag Tryz.prog 100 [.lst .ppl ps,.clo 101 [.ptr 4 0,.ptr 5 0]] (u3 w v)
  (.bool (knw w.com ps v)) (u3 w v):=by
 have hk:knw w.com ps v=(ps.findIdx? (fun p=>kR p.v v && don w.com p)).isSome:=by
  rw[List.findIdx?_isSome,knw]
  congr 1
  funext p
  rw[Bool.and_comm]
 refine ab aj Tryz.func100 rfl rfl false 2 6 rfl rfl rfl rfl fun K hK hb1 hb2=>?_;simp only[ae,enc,Nat.reduceAdd]
 (repeat' first|refine st ?_|refine sa fun xe hxe=>?_|refine sb (fun hq=>?_) fun hq=>?_|refine cr (KY _ _ _ hc hm) ?_|exact aa)
 refine⟨?_,rfl⟩
 rw[hk]
 cases ps.findIdx? (fun p=>kR p.v v && don w.com p) with
 |none=>rfl
 |some i=>simp
theorem Ii (w:Wrl)(hc:comV w.com=true)(hp:gJ w.com w.bad w.props=true)(hl:∀g∈w.views,g.length≤2000000):ag Tryz.prog 50 [bc w] [] (.bool ((w.views.length==w.com.length) && gg w.com w.bad w.props w.views)) []:=by
 have hm:∀p∈w.props,ee w.com p.members=true:=fun p hpp=>by
  obtain⟨i,hi,rfl⟩:=dV (d:=p0) hpp
  simp only[gJ,aA,bC] at hp
  have:=hp.1 i hi
  simp only[gr,oneP,aA] at this
  exact this.1.2
 have h7:=(ay.1 hc).2
 refine ab aj Tryz.func50 rfl rfl false 0 4 rfl rfl rfl rfl fun K hK hb1 hb2=>?_;simp only[ae,enc,Nat.reduceAdd]
 simp[ak,V.toD,bnd,ai,D.cells] at hb1
 by_cases hlen:w.views.length=w.com.length
 ·have hb:(w.views.length==w.com.length)=true:=by simpa using hlen
  rw[hb,d7]
  (repeat' first|refine st ?_|refine sa fun xe hxe=>?_|refine sb (fun hq=>?_) fun hq=>?_|exact aa)
  refine ah hK [] [1,16,17,18] (fun i:Nat=>⟨[(1,.ptr 4 0),(16,.lst (.lst .vtx) w.views),(17,.int .i64 w.views.length),(18,.int .i64 i)],[(4,.var 36 (bc w).cells)],5⟩)
   (fun i=>i≤w.views.length∧∀j,j<i→(o8 w.com w.props (w.views.getD j []) && (!((j:Int)==w.bad)||(w.views.getD j []).isEmpty))=true) (fun i=>w.views.length-i) 0 ⟨by simp,by simp⟩ rfl ?_
  rintro i ⟨hi,hall⟩
  by_cases hlt:i<w.views.length
  ·have hxe:w.views[i]?=some (w.views.getD i []):=by rw[aq,am hlt];rfl
   have hgl:=hl _ (br hxe)
   have hno:(o8 w.com w.props (w.views.getD i []) && (!((i:Int)==w.bad)||(w.views.getD i []).isEmpty))=false→V.bool false=V.bool (gg w.com w.bad w.props w.views)∧([]:VH)=[]:=fun h=>⟨by unfold gg;rw[dP hlt h],rfl⟩
   have hyes:=cD hall (p:=fun j=>o8 w.com w.props (w.views.getD j []) && (!((j:Int)==w.bad)||(w.views.getD j []).isEmpty)) (i:=i)
   generalize w.views.getD i []=g at *
   have hvv:o8 w.com w.props g=(g.all (knw w.com w.props) && graS w.com g):=rfl
   cases h1:graS w.com g
   ·(repeat' first|refine st ?_|refine sa fun xe hxe=>?_|refine sb (fun hq=>?_) fun hq=>?_|refine cr (E5 _ _ hgl) ?_|exact aa)
    exact hno (by rw[hvv,h1,lz,iy])
   have hem:g.isEmpty=decide ((g.length:Int)=0):=by cases g<;>simp;omega
   by_cases h2:(i:Int)=w.bad∧¬(g.length:Int)=0
   ·have hb1:((i:Int)==w.bad)=true:=by simpa using h2.1
    (repeat' first|refine st ?_|refine sa fun xe hxe=>?_|refine sb (fun hq=>?_) fun hq=>?_|refine cr (E5 _ _ hgl) ?_|exact aa)
    exact hno (by rw[hb1,hem,decide_eq_false h2.2];simp)
   have hok2:(!((i:Int)==w.bad)||g.isEmpty)=true:=by
    rw[hem]
    by_cases hb:(i:Int)=w.bad
    ·have:(g.length:Int)=0:=Classical.byContradiction fun h=>h2 ⟨hb,h⟩
     simp[this]
    ·simp[hb]
   have hkn:∀v,ag Tryz.prog 100 [.lst .ppl w.props,.clo 101 [.ptr 4 0,.ptr 5 0]] (u3 w v) (.bool (knw w.com w.props v)) (u3 w v):=fun v=>Nn w v _ hc hm
   (repeat' first|refine st ?_|refine sa fun xe hxe=>?_|refine sb (fun hq=>?_) fun hq=>?_|refine cr (E5 _ _ hgl) ?_|exact aa)
   all_goals
    refine ah hK [] [1,16,17,18,39,40,41] (fun k:Nat=>⟨[(1,.ptr 4 0),(16,.lst (.lst .vtx) w.views),(17,.int .i64 w.views.length),(18,.int .i64 i),(39,.lst .vtx g),(40,.int .i64 g.length),(41,.int .i64 k)],[(4,.var 36 (bc w).cells)],5⟩)
     (fun k=>k≤g.length∧∀v∈g.take k,knw w.com w.props v=true) (fun k=>g.length-k) 0 ⟨by simp,by simp⟩ rfl ?_
    rintro k ⟨hk,hkall⟩
    by_cases hkl:k<g.length
    ·have hxk:g[k]?=some g[k]:=am hkl
     have hsn:g.take (k+1)=g.take k++[g[k]]:=b8 hkl
     have hvm:g[k]∈g:=bd hkl
     generalize g[k]=v at *
     have hkv:=hkn v
     cases h3:knw w.com w.props v
     ·rw[h3] at hkv
      (repeat' first|refine st ?_|refine sa fun xe hxe=>?_|refine sb (fun hq=>?_) fun hq=>?_|refine cr (hkv) ?_|exact aa)
      have:g.all (knw w.com w.props)=false:=by
       rw[ck]
       intro h
       rw[aM.1 h v hvm] at h3
       cases h3
      exact hno (by rw[hvv,this,iy,iy])
     ·rw[h3] at hkv
      (repeat' first|refine st ?_|refine sa fun xe hxe=>?_|refine sb (fun hq=>?_) fun hq=>?_|refine cr (hkv) ?_|exact aa)
      exact⟨k+1,⟨by omega,by rw[hsn];exact bL hkall h3⟩,by omega,rfl⟩
    ·rw[bp (by omega)] at hkall
     (repeat' first|refine st ?_|refine sa fun xe hxe=>?_|refine sb (fun hq=>?_) fun hq=>?_|exact aa)
     exact⟨i+1,⟨by omega,hyes (by rw[hvv,aM.2 hkall,h1,hok2];rfl)⟩,by omega,rfl⟩
  ·(repeat' first|refine st ?_|refine sa fun xe hxe=>?_|refine sb (fun hq=>?_) fun hq=>?_|exact aa)
   unfold gg
   rw[de (fun j hj=>hall j (by omega))]
   exact⟨rfl,rfl⟩
 ·have hb:(w.views.length==w.com.length)=false:=by simpa using hlen
  rw[hb,iy]
  (repeat' first|refine st ?_|refine sa fun xe hxe=>?_|refine sb (fun hq=>?_) fun hq=>?_|exact aa)
  exact⟨rfl,rfl⟩
theorem ov (v:Vtx)(hl:v.parents.length≤1000000):ag Tryz.prog 104 [cY v] [] (.agg [.int .i64 v.round,.int .i64 v.author,.ref 4,.int .i64 v.digest]) [(4,.row 3 (.int .i64) v.parents)]:=by
 refine ab aj Tryz.func104 rfl rfl false 0 4 rfl rfl rfl rfl fun K hK hb1 hb2=>?_;simp only[ae,enc,Nat.reduceAdd]
 (repeat' first|refine st ?_|refine sa fun xe hxe=>?_|refine sb (fun hq=>?_) fun hq=>?_|exact aa)
 exact⟨rfl,rfl⟩
theorem J7 (g:List Vtx)(hg:∀v∈g,jf v∧v.parents.length≤1000):ag Tryz.prog 52 [.lst .vtx g] [] (.ptr 4 0) [(4,.vari 143 [] 217 (.ob .vtx) (aT g) [])]:=by
 refine ab aj Tryz.func52 rfl rfl false 0 4 rfl rfl rfl rfl fun K hK hb1 hb2=>?_;simp only[ae,enc,Nat.reduceAdd]
 simp[ak,V.toD,bnd,ai,D.cells] at hb1
 (repeat' first|refine st ?_|refine sa fun xe hxe=>?_|refine sb (fun hq=>?_) fun hq=>?_|exact aa)
 refine DB 4 0 217 (.ob .vtx) ?_
 ((conv=>whnf);refine LE (by kernel_rfl) ?_;(conv=>whnf))
 refine ah hK [] [3,9,10,11] (fun i:Nat=>⟨[(3,.ptr 4 0),(9,.lst .vtx g),(10,.int .i64 g.length),(11,.int .i64 (i:Int))],[(4,.vari 143 [] 217 (.ob .vtx) (aT (g.take i)) [])],5⟩) (fun i=>i≤g.length) (fun i=>g.length-i) 0 (by simp) rfl ?_
 intro i hi
 by_cases hlt:i<g.length
 ·have hxe:g[i]?=some g[i]:=am hlt
  have hsn:g.take (i+1)=g.take i++[g[i]]:=b8 hlt
  obtain⟨⟨⟨v1,v2⟩,v3,v4⟩,v5⟩:=hg _ (bd hlt)
  have hl2:=dX (g.take i)
  have hst:aT (g.take (i+1))=(aT (g.take i)).set (g[i].round*7+g[i].author).toNat (some g[i]):=by rw[hsn,i7]
  generalize g[i]=v at *
  generalize aT (g.take i)=s at *
  (repeat' first|refine st ?_|refine sa fun xe hxe=>?_|refine sb (fun hq=>?_) fun hq=>?_|((with_reducible refine ft ?_);(conv=>whnf);(first|with_reducible refine bf (ov _ (by omega)) ?_);conv=>whnf)|exact aa)
  refine⟨i+1,by omega,by omega,?_⟩
  have hix:(v.round*7+v.author).toNat=v.round.toNat * 7+v.author.toNat:=by omega
  rw[hst,hix]
  rfl
 ·rw[bp (by omega)]
  (repeat' first|refine st ?_|refine sa fun xe hxe=>?_|refine sb (fun hq=>?_) fun hq=>?_|exact aa)
  exact⟨rfl,rfl⟩
def Θw:TT:=(98,⟨.ptr 143,1,8,some (.nilp),some (.hp 0),false⟩)::(123,⟨.struct [(73,0,4),(32,4,1)],5,72,some (.agg [.int .i64 0,.int .i64 0,.nils,.int .i64 0,.nils]),some (.pplm 1),false⟩)::Θ
theorem bS:TT.ok Tryz.prog Θw:=TT.okB_ok (by kernel_rfl)
theorem cg {P Q:Prop}(h:Q)(s:Hid Q→P:=by
  intro h
  (first|(with_reducible first|apply dQ|apply cU)|((first|with_reducible apply cJ bS|refine go ?_|(with_reducible first|apply df|apply dp|apply cH|apply cK|refine cI bS mixed (by kernel_rfl) ?_))<;>conv=>whnf))
  repeat(first|(with_reducible first|apply dQ|apply cU)|((first|with_reducible apply cJ bS|refine go ?_|(with_reducible first|apply df|apply dp|apply cH|apply cK|refine cI bS mixed (by kernel_rfl) ?_))<;>conv=>whnf))
  exact h.h):P:=s ⟨h⟩
def tS (ps:List Ppl):List PplM:=ps.zipIdx.map fun x=>⟨x.1.v,some x.2⟩
theorem mX (ps:List Ppl):(tS ps).length=ps.length:=by simp[tS]
def OR:PplM:=⟨⟨0,0,[],0⟩,none⟩
def FV (ps:List Ppl)(i:Nat):List PplM:=tS (ps.take i)++List.replicate (ps.length-i) OR
theorem II (ps:List Ppl)(i:Nat)(hi:i≤ps.length):(FV ps i).length=ps.length:=by
 simp only[FV,aP,mX,bP,iu];omega
theorem IJ {ps:List Ppl}{i:Nat}(h:i<ps.length):(FV ps i).set i ⟨ps[i].v,some i⟩=FV ps (i+1):=by
 have h1:(tS (ps.take i)).length=i:=by rw[mX,bP];omega
 have h2:ps.length-i=(ps.length-(i+1))+1:=by omega
 unfold FV
 rw[List.set_append_right _ _ (by omega),h1,ka,h2,List.replicate_succ,List.set_cons_zero]
 have h4:tS (ps.take (i+1))=tS (ps.take i)++[⟨ps[i].v,some i⟩]:=by
  rw[b8 h]
  simp only[tS,List.zipIdx_append,ce,bP,mz (Nat.le_of_lt h),mm,List.zipIdx_nil,bK,eq,eX]
 rw[h4,bH]
 rfl
theorem KS (ps:List Ppl)(hv:∀p∈ps,p.v.parents.length≤1000000∧p.members.length≤1000000)(hl:ps.length≤1000000):ag Tryz.prog 53 [.lst .ppl ps] [] (.ref 4) [(1,.frow 3 (.int .i64) (ps.map (·.members))),(4,.row 123 (.pplm 1) (tS ps))]:=by
 refine ab bS Tryz.func53 rfl rfl false 0 4 rfl rfl rfl rfl fun K hK hb1 hb2=>?_;simp only[ae,enc,Nat.reduceAdd]
 clear hb1 hb2
 (repeat' first|refine cg ?_|refine sa fun xe hxe=>?_|refine sb (fun hq=>?_) fun hq=>?_|exact aa)
 refine uW 1 (.frow 3 (.int .i64) []) rfl ?_
 refine ah hK [] [3,9,10,11] (fun i:Nat=>⟨[(3,.ref 4),(9,.lst .ppl ps),(10,.int .i64 ps.length),(11,.int .i64 (i:Int))],[(1,.frow 3 (.int .i64) ((ps.take i).map (·.members))),(4,.row 123 (.pplm 1) (FV ps i))],5⟩) (fun i=>i≤ps.length) (fun i=>ps.length-i) 0 (by simp) (by rw[show FV ps 0=List.replicate (ps.length:Int).toNat OR by simp[FV,tS]];rfl) ?_
 intro i hi
 by_cases hlt:i<ps.length
 ·have hxe:ps[i]?=some ps[i]:=am hlt
  have hsn:ps.take (i+1)=ps.take i++[ps[i]]:=b8 hlt
  obtain⟨v1,v2⟩:=hv _ (bd hlt)
  have hpl:=II ps i hi
  have hst:=IJ hlt
  have hfl:((ps.take i).map (·.members)).length=i:=by rw[az,bP];omega
  generalize ps[i]=p at *
  generalize FV ps i=s at *
  (repeat' first|refine cg ?_|refine sa fun xe hxe=>?_|refine sb (fun hq=>?_) fun hq=>?_|refine cr (ov _ v1) ?_|exact aa)
  refine⟨i+1,by omega,by omega,?_⟩
  rw[←hst,hsn,ce,hfl]
  rfl
 ·(repeat' first|refine cg ?_|refine sa fun xe hxe=>?_|refine sb (fun hq=>?_) fun hq=>?_|exact aa)
  rw[bp (by omega),show FV ps i=tS ps by rw[FV,bp (by omega),show ps.length-i=0 by omega];simp]
  exact⟨rfl,rfl⟩
theorem M0 (tabs:List (List (Option Vtx)))(k:Nat)(tab:List (Option Vtx))(v:Vtx)(hk:tabs[k]?=some tab)(ht:tab.length=217)(hr:v.parents≠[]→1≤v.round∧v.round≤31)(hp:∀p∈v.parents,0≤p∧p≤6):ag Tryz.prog 105 [.fptr 0 k 0,cY v] [(0,.fvari 143 217 (.ob .vtx) tabs)] (.bool (qP tab v)) [(0,.fvari 143 217 (.ob .vtx) tabs)]:=by
 refine ab aj Tryz.func105 rfl rfl false 0 4 rfl rfl rfl rfl fun K hK hb1 hb2=>?_;simp only[ae,enc,Nat.reduceAdd]
 simp[ak,V.toD,bnd,ai,D.cells] at hb1
 (repeat' first|refine st ?_|refine sa fun xe hxe=>?_|refine sb (fun hq=>?_) fun hq=>?_|exact aa)
 refine ah hK [] [0,3,8,9,10] (fun i:Nat=>⟨[(0,.fptr 0 k 0),(3,.ptr 4 0),(8,.lst (.int .i64) v.parents),(9,.int .i64 v.parents.length),(10,.int .i64 (i:Int))],[(0,.fvari 143 217 (.ob .vtx) tabs),(4,.var 73 (cY v).cells)],5⟩) (fun i=>i≤v.parents.length∧∀p∈v.parents.take i,(tab.getD ((v.round-1)*7+p).toNat none).isSome=true) (fun i=>v.parents.length-i) 0 (by simp) rfl ?_
 rintro i ⟨hi,hall⟩
 by_cases hlt:i<v.parents.length
 ·have hxe:v.parents[i]?=some v.parents[i]:=am hlt
  have h3:v.parents.take (i+1)=v.parents.take i++[v.parents[i]]:=b8 hlt
  have h4:v.parents[i]∈v.parents:=bd hlt
  have h5:=hr (List.ne_nil_of_mem h4)
  have h6:=hp _ h4
  generalize v.parents[i]=p at *
  have hix:((v.round-1)*7+p).toNat=(v.round-1).toNat * 7+p.toNat:=by omega
  (repeat' first|refine st ?_|refine sa fun xe hxe=>?_|refine sb (fun hq=>?_) fun hq=>?_|exact aa)
  ·have hxe:tab[(v.round-1).toNat * 7+p.toNat]?=some xe:=hxe
   have:qP tab v=false:=by
    rw[ck]
    intro h
    have h:=aM.1 h p h4
    rw[hix,aq,hxe,dY] at h
    have hq:xe=none:=by simpa using hq
    rw[hq] at h
    cases h
   rw[this]
   exact⟨rfl,rfl⟩
  ·have hxe:tab[(v.round-1).toNat * 7+p.toNat]?=some xe:=hxe
   refine⟨i+1,⟨by omega,?_⟩,by omega,rfl⟩
   rw[h3]
   refine bL hall ?_
   rw[hix,aq,hxe,dY]
   have hq:Option.isNone xe=false:=hq
   simpa[Option.isNone_iff_eq_none,Option.isSome_iff_ne_none] using hq
 ·(repeat' first|refine st ?_|refine sa fun xe hxe=>?_|refine sb (fun hq=>?_) fun hq=>?_|exact aa)
  rw[bp (by omega)] at hall
  have:qP tab v=true:=aM.2 hall
  rw[this]
  exact⟨rfl,rfl⟩
abbrev rB (c l:List Int)(b:Int)(tabs:List (List (Option Vtx)))(ps:List Ppl):VH:=[(0,.fvari 143 217 (.ob .vtx) tabs),(1,.frow 3 (.int .i64) (ps.map (·.members))),(4,.var 97 [.int .i32 0,.int .u32 0,.lst (.int .i64) c,.lst (.int .i64) l,.int .i64 b,.ref 5,.ref 6]),(5,.row 98 (.hp 0) ((List.range tabs.length).map some)),(6,.row 123 (.pplm 1) (tS ps))]
theorem vT {ps:List Ppl}{i:Nat}{p:Ppl}(h:ps[i]?=some p):(tS ps)[i]?=some ⟨p.v,some i⟩:=by
 simp[tS,be,List.getElem?_zipIdx,h]
theorem D2 (tabs:List (List (Option Vtx)))(k:Nat)(tab:List (Option Vtx))(v:Vtx)(hk:tabs[k]?=some tab)(ht:tab.length=217)(hr:v.parents≠[]→1≤v.round∧v.round≤31)(hp:∀p∈v.parents,0≤p∧p≤6):ag Tryz.prog 105 [.hpo 0 (some k),cY v] [(0,.fvari 143 217 (.ob .vtx) tabs)] (.bool (qP tab v)) [(0,.fvari 143 217 (.ob .vtx) tabs)]:=by
 have h:=M0 tabs k tab v hk ht hr hp
 unfold ag at h⊢
 exact h
set_option maxHeartbeats 1000000 in
theorem Ng (c l:List Int)(b:Int)(tabs:List (List (Option Vtx)))(ps:List Ppl)(ht:∀t∈tabs,t.length=217)(htl:tabs.length≤7)(hpn:ps.length≤1000000)(hp:∀p∈ps,NV tabs.length p):ag Tryz.prog 54 [.ptr 4 0] (rB c l b tabs ps) (.bool (xM b tabs ps)) (rB c l b tabs ps):=by
 refine ab bS Tryz.func54 rfl rfl false 3 7 rfl rfl rfl rfl fun K hK hb1 hb2=>?_;simp only[ae,enc,Nat.reduceAdd]
 clear hb1 hb2
 have hpl:=mX ps
 (repeat' first|refine cg ?_|refine sa fun xe hxe=>?_|refine sb (fun hq=>?_) fun hq=>?_|exact aa)
 refine ah hK [] [0,10,11,12] (fun i:Nat=>⟨[(0,.ptr 4 0),(10,.ref 6),(11,.int .i64 ps.length),(12,.int .i64 (i:Int))],rB c l b tabs ps,7⟩) (fun i=>i≤ps.length∧∀p∈ps.take i,ML b tabs p.v (p.v.author::p.members)=true) (fun i=>ps.length-i) 0 (by simp) (by simp only[hpl];rfl) ?_
 rintro i ⟨hi,hall⟩
 by_cases hlt:i<ps.length
 ·have hxe:ps[i]?=some ps[i]:=am hlt
  have hsn:ps.take (i+1)=ps.take i++[ps[i]]:=b8 hlt
  have hpm:ps[i]∈ps:=bd hlt
  have hno:ML b tabs ps[i].v (ps[i].v.author::ps[i].members)=false→xM b tabs ps=false:=fun h=>by
   rw[ck]
   intro h2
   rw[aM.1 h2 _ hpm] at h
   cases h
  obtain⟨p1,p2,p3,p4,p5⟩:=hp _ hpm
  have hx1:=vT hxe
  have hx2:(ps.map (·.members))[i]?=some ps[i].members:=by rw[be,hxe];rfl
  have hfl:(ps.map (·.members)).length=ps.length:=az ..
  generalize ps[i]=p at *
  (repeat' first|refine cg ?_|refine sa fun xe hxe=>?_|refine sb (fun hq=>?_) fun hq=>?_|exact aa)
  refine ah hK [] [0,4,10,11,12,22,23,24] (fun j:Nat=>⟨[(0,.ptr 4 0),(4,.ptr 7 0),(10,.ref 6),(11,.int .i64 ps.length),(12,.int .i64 (i:Int)),(22,.ref 8),(23,.int .i64 ((p.v.author::p.members).length:Nat)),(24,.int .i64 (j:Int))],rB c l b tabs ps++[(7,VB.var 123 [.int .i64 p.v.round,.int .i64 p.v.author,.lst (.int .i64) p.v.parents,.int .i64 p.v.digest,.hro 1 (some i)]),(8,VB.row 3 (.int .i64) (p.v.author::p.members))],9⟩) (fun j=>j≤(p.v.author::p.members).length∧∀m∈(p.v.author::p.members).take j,(m==b||qP (tabs.getD m.toNat []) p.v)=true) (fun j=>(p.v.author::p.members).length-j) 0 (by simp) (by(conv=>whnf);rfl) ?_
  rintro j ⟨hj,hjall⟩
  have hnl:(p.v.author::p.members).length≤1000001:=by simp only[bF];omega
  have hkk:(∀m∈p.v.author::p.members,(m==b||qP (tabs.getD m.toNat []) p.v)=true)→ML b tabs p.v (p.v.author::p.members)=true:=fun h=>aM.2 h
  have hkn:∀m∈p.v.author::p.members,(m==b||qP (tabs.getD m.toNat []) p.v)=false→ML b tabs p.v (p.v.author::p.members)=false:=fun m hm h=>by
   rw[ck]
   intro h2
   rw[aM.1 h2 _ hm] at h
   cases h
  generalize hms:p.v.author::p.members=ms at *
  by_cases hjl:j<ms.length
  ·have hye:ms[j]?=some ms[j]:=am hjl
   have hjs:ms.take (j+1)=ms.take j++[ms[j]]:=b8 hjl
   have hjm:ms[j]∈ms:=bd hjl
   have hxr:=p1 _ hjm
   have hkn:=hkn _ hjm
   generalize ms[j]=m at *
   have hxt:tabs[m.toNat]?=some (tabs.getD m.toNat []):=by
    rw[aq,am (show m.toNat<tabs.length by omega)];rfl
   have hxv:((List.range tabs.length).map some)[m.toNat]?=some (some m.toNat):=by
    rw[be,qh (show m.toNat<tabs.length by omega)];rfl
   have hvl:((List.range tabs.length).map some).length=tabs.length:=by simp
   have hC:=D2 tabs m.toNat _ p.v hxt (ht _ (br hxt)) p2 p3
   by_cases hmb:m=b
   ·subst hmb
    (repeat' first|refine cg ?_|refine sa fun xe hxe=>?_|refine sb (fun hq=>?_) fun hq=>?_|exact aa)
    ·exact absurd trivial hq
    ·refine⟨j+1,⟨by omega,by rw[hjs];exact bL hjall (by simp)⟩,by omega,rfl⟩
   ·cases h1:qP (tabs.getD m.toNat []) p.v
    ·rw[h1] at hC
     (repeat' first|refine cg ?_|refine sa fun xe hxe=>?_|refine sb (fun hq=>?_) fun hq=>?_|refine co (hC) ?_|exact aa)
     exact⟨by rw[hno (hkn (by rw[h1,j9];simpa using hmb))],rfl⟩
    ·rw[h1] at hC
     (repeat' first|refine cg ?_|refine sa fun xe hxe=>?_|refine sb (fun hq=>?_) fun hq=>?_|refine co (hC) ?_|exact aa)
     exact⟨j+1,⟨by omega,by rw[hjs];exact bL hjall (by rw[h1,Bool.or_true])⟩,by omega,rfl⟩
  ·(repeat' first|refine cg ?_|refine sa fun xe hxe=>?_|refine sb (fun hq=>?_) fun hq=>?_|exact aa)
   rw[bp (by omega)] at hjall
   exact⟨i+1,⟨by omega,by rw[hsn];exact bL hall (by rw[hms];exact hkk hjall)⟩,by omega,rfl⟩
 ·(repeat' first|refine cg ?_|refine sa fun xe hxe=>?_|refine sb (fun hq=>?_) fun hq=>?_|exact aa)
  rw[bp (by omega)] at hall
  have:xM b tabs ps=true:=aM.2 hall
  rw[this]
  exact⟨rfl,rfl⟩
end Go.Proofs.YtpefhoohfkeflacGreatDoor.Am
namespace Go.Proofs.YtpefhoohfkeflacGreatDoor.Am
open Go Go.Shelf Go.RowKit
attribute [local irreducible] Mk ci Ari fB mA ju b9 cR iT fo At ag
set_option maxRecDepth 10000
theorem iU {P : Program} {f : FuncId} {ds : List D} {r : D} (hf : ∃ fn, P.funcs[f]? = some fn ∧ fn.body.isNone = false ∧ (fn.name == "runtime.NumGoroutine") = false)
  (h:∀(w:World) (ok:Nat→Prop) (ρ:Id→Pl) (vs:Array Value),ds.length=vs.size→(∀i,i<ds.length→C ρ (fun _=>False) ok w (ds.getD i .undef) (vs.getD i undef))→
   Calls P f vs w fun e w'=>∃u,e= .returned u∧Below w.heap.size w w'∧∀ok',Rep ok' w' r u):Con P f ds [] r []:=by
 refine⟨hf,fun w A ρ vs hs hl hc=>?_⟩
 have hno:∀b,¬Live [] b:=fun b h=>by cases h
 have hc':∀i,i<ds.length→C ρ (fun _=>False) (okOf A ρ [] w) w (ds.getD i .undef) (vs.getD i undef):=fun i hi=>(hc i hi).mono (fun b hb=>absurd hb (hno b)) (fun b hb=>⟨hb,rfl⟩)
 refine Calls.mono (h w (okOf A ρ [] w) ρ vs hl hc') ?_
 rintro e w' ⟨u,rfl,hb,hr⟩
 refine⟨u,ρ,rfl,fun b hb=>absurd hb (hno b),⟨hs.base,hs.inS,⟨hb.os,hb.tape,hb.output,hb.size,fun i hi _=>hb.block i hi⟩,rfl,rfl,?_,?_,?_,?_,hs.gl⟩,.pure (hr _)⟩
 ·intro k d h;cases h
 ·intro k d h;cases h
 ·intro k d h;cases h
 ·intro b b' x x' h;cases h
theorem mM {nb:Nat}{α β:Type}{xs:List α}{ys:List β}(h1:xs.length≤1000000)(h2:ys.length≤1000000)(hb:nb≤100):kZ nb (xs.length+ys.length):=by
 have:(xs.length+ys.length)*nb≤2000000*100:=Nat.mul_le_mul (by omega) hb
 unfold kZ
 omega
def zJ:Go.Shelf.Ren:=⟨fun|15=>51|n=>n,fun|22=>32|3=>3|4=>4|n=>n,fun|n=>n⟩
theorem Fm:Go.Proofs.Lays2.n15 Tryz.prog zJ where
  mixed:=by kernel_rfl
  f15:=Tryz.func51.trans (congrArg some (by kernel_rfl))
  t3:=Tryz.underlying3
  a3:=Tryz.isAgg3
  z3:=Tryz.sizeOf3
  v3:=Tryz.zeroValue3
  t4:=Tryz.underlying4
  a4:=Tryz.isAgg4
  z4:=Tryz.sizeOf4
  v4:=Tryz.zeroValue4
  t22:=Tryz.underlying32
  a22:=Tryz.isAgg32
  z22:=Tryz.sizeOf32
  v22:=Tryz.zeroValue32
  i3:=by kernel_rfl
theorem H1 (t:Ty):ag Tryz.prog 51 [.lst t []] [] (.lst t []) []:=by
 unfold ag
 refine iU ⟨_,Tryz.func51,rfl,rfl⟩ fun w ok ρ vs hl hc=>?_
 obtain⟨v,rfl⟩:∃v,vs= #[v]:=by
  have:vs.size=1:=hl.symm
  exact⟨vs[0],Array.ext (by simp[this]) fun i h1 h2=>by
   have:i=0:=by simpa using h2
   subst this;rfl⟩
 have h0:C ρ (fun _=>False) ok w (.lst []) v:=hc 0 (Nat.one_pos)
 have h1:=h0.lst_inv
 have fin:∀(w':World) (a:Option Addr) (cap:Nat),(a=none→cap=0)→cap≤maxLen→∀ok',Rep ok' w' ((V.lst t []).toD) (.slice a 0 cap):=fun w' a cap h1 h2 ok'=>.none a cap h1 h2
 obtain⟨a,cap,rfl,ha⟩:∃a cap,v= .slice a 0 cap∧(a=none→cap=0):=by
  cases h1 with
  |none a cap ha hcap=>exact⟨a,cap,rfl,ha⟩
  |lst l n b off cap f hn=>exact⟨_,cap,by rw[←hn];rfl,fun h=>by cases h⟩
 cases a with
 |none=>
  refine Calls.mono (Any.slices_Clone_int_nil Fm 0 cap w) ?_
  rintro e w' ⟨rfl,rfl⟩
  exact⟨_,rfl,Below.refl _ _,fin _ _ _ (fun _=>rfl) (aW _)⟩
 |some a=>
  refine Calls.mono (Any.slices_Clone_int_zero Fm a cap w) ?_
  rintro e w' ⟨v',rfl,ho,_,hb⟩
  refine⟨v',rfl,hb,?_⟩
  rcases ho.2 with⟨rfl,_⟩|⟨g,cap',cur,rfl,_,_,_,h3,_⟩
  ·exact fin _ _ _ (fun _=>rfl) (aW _)
  ·exact fin _ _ _ (fun h=>by cases h) h3
theorem EX (l:List Int)(hb:l.length≤1000000):ag Tryz.prog 51 [.lst (.int .i64) l] [] (.lst (.int .i64) l) []:=by
 cases l with
 |nil=>exact H1 _
 |cons x l=>
  refine ab aj Tryz.func51 rfl rfl true 0 4 rfl rfl rfl rfl fun K hK hb1 hb2=>?_;simp only[ae,enc,Nat.reduceAdd]
  (repeat' first|refine st ?_|refine sa fun xe hxe=>?_|refine sb (fun hq=>?_) fun hq=>?_|exact aa)
  refine fZ (mM (aW _) hb (by decide)) ?_
  (repeat' first|refine st ?_|refine sa fun xe hxe=>?_|refine sb (fun hq=>?_) fun hq=>?_|exact aa)
  refine dp ?_
  (conv=>whnf)
  exact⟨rfl,rfl⟩
theorem EW (l:List Int)(hl:l≠[])(hb:l.length≤1000000):ag Tryz.prog 55 [.lst (.int .i64) l] [] (.lst (.int .i64) l) []:=by
 cases l with
 |nil=>exact absurd rfl hl
 |cons x l=>
  refine ab aj Tryz.func55 rfl rfl true 0 4 rfl rfl rfl rfl fun K hK hb1 hb2=>?_;simp only[ae,enc,Nat.reduceAdd]
  (repeat' first|refine st ?_|refine sa fun xe hxe=>?_|refine sb (fun hq=>?_) fun hq=>?_|exact aa)
  refine fZ (mM (aW _) hb (by decide)) ?_
  (repeat' first|refine st ?_|refine sa fun xe hxe=>?_|refine sb (fun hq=>?_) fun hq=>?_|exact aa)
  refine dp ?_
  (conv=>whnf)
  exact⟨rfl,rfl⟩
end Go.Proofs.YtpefhoohfkeflacGreatDoor.Am
namespace Go.Proofs.YtpefhoohfkeflacGreatDoor.Am
open Go
attribute [local irreducible] Mk ci Ari fB mA ju b9 cR iT fo At ag
set_option maxRecDepth 10000
def G9 (w:Wrl):V:=if gk w then .tup [.ptr 4 0,.bool (xM w.bad (w.views.map aT) w.props)] else .tup [.nilp,.bool false]
def G8 (w:Wrl):VH:=if gk w then rB w.com w.lead w.bad (w.views.map aT) w.props else[]
def IB (w:Wrl):Nat→VSt
 |0=>⟨[(1,.ptr 4 0),(4,.ptr 5 0),(42,.lst (.lst .vtx) w.views),(43,.int .i64 w.views.length),(44,.int .i64 0)],[(0,.fvari 143 217 (.ob .vtx) []),(4,.var 36 (bc w).cells),(5,.var 97 [.int .i32 0,.int .u32 0,.lst (.int .i64) w.com,.lst (.int .i64) w.lead,.int .i64 w.bad,.nils,.nils])],6⟩
 |i+1=>⟨[(1,.ptr 4 0),(4,.ptr 5 0),(42,.lst (.lst .vtx) w.views),(43,.int .i64 w.views.length),(44,.int .i64 ((i+1:Nat):Int))],[(0,.fvari 143 217 (.ob .vtx) ((w.views.take (i+1)).map aT)),(4,.var 36 (bc w).cells),(5,.var 97 [.int .i32 0,.int .u32 0,.lst (.int .i64) w.com,.lst (.int .i64) w.lead,.int .i64 w.bad,.ref 6,.nils]),(6,.row 98 (.hp 0) ((List.range (i+1)).map some))],7⟩
set_option maxHeartbeats 1000000 in
theorem Bt (w:Wrl)(hl:∀g∈w.views,g.length≤2000000):ag Tryz.prog 25 [bc w] [] (G9 w) (G8 w):=by
 have hno:gk w=false→V.tup [.nilp,.bool false]=G9 w∧([]:VH)=G8 w:=fun h=>by simp[G9,G8,h]
 refine ab bS Tryz.func25 rfl rfl false 0 4 rfl rfl rfl rfl fun K hK hb1 hb2=>?_;simp only[ae,enc,Nat.reduceAdd]
 clear hb1 hb2
 have hL:=rg w.com w.lead
 cases h1:comV w.com && leaS w.com w.lead
 ·rw[h1] at hL
  (repeat' first|refine cg ?_|refine sa fun xe hxe=>?_|refine sb (fun hq=>?_) fun hq=>?_|refine cr (hL) ?_|exact aa)
  exact hno (by
   rw[nw] at h1
   rcases h1 with h1|h1<;>simp[gk,iE,h1])
 rw[h1] at hL
 have hc:comV w.com=true:=(Bool.and_eq_true_iff.1 h1).1
 have hle:leaS w.com w.lead=true:=(Bool.and_eq_true_iff.1 h1).2
 have hB:=If w.com w.bad hc
 cases h2:badS w.com w.bad
 ·rw[h2] at hB
  (repeat' first|refine cg ?_|refine sa fun xe hxe=>?_|refine sb (fun hq=>?_) fun hq=>?_|refine cr (hL) ?_|refine cr (hB) ?_|exact aa)
  exact hno (by simp[gk,iE,h2])
 rw[h2] at hB
 have hP:=Ie w hc
 cases h3:gJ w.com w.bad w.props
 ·rw[h3] at hP
  (repeat' first|refine cg ?_|refine sa fun xe hxe=>?_|refine sb (fun hq=>?_) fun hq=>?_|refine cr (hL) ?_|refine cr (hB) ?_|refine cr (hP) ?_|exact aa)
  exact hno (by simp[gk,iE,h3])
 rw[h3] at hP
 have hV:=Ii w hc h3 hl
 cases h4:(w.views.length==w.com.length) && gg w.com w.bad w.props w.views
 ·rw[h4] at hV
  (repeat' first|refine cg ?_|refine sa fun xe hxe=>?_|refine sb (fun hq=>?_) fun hq=>?_|refine cr (hL) ?_|refine cr (hB) ?_|refine cr (hP) ?_|refine cr (hV) ?_|exact aa)
  exact hno (by simp only[gk,h4];simp)
 rw[h4] at hV
 have hpre:gk w=true:=by simp[gk,iE,hc,hle,h2,h3];simpa using h4
 have hR:G9 w= .tup [.ptr 4 0,.bool (xM w.bad (w.views.map aT) w.props)]:=by simp[G9,hpre]
 have hO:G8 w=rB w.com w.lead w.bad (w.views.map aT) w.props:=by simp[G8,hpre]
 rw[hR,hO]
 have h7:=(ay.1 hc).2
 have hll:=(bR.1 hle).2
 have hvl:w.views.length=w.com.length:=(nM hpre).2.2.2.2.1
 have hne:w.com≠[]:=fun h=>by rw[h] at h7;simp at h7
 have hCm:=EX w.com (by omega)
 have hCl:=EX w.lead (by omega)
 (repeat' first|refine cg ?_|refine sa fun xe hxe=>?_|refine sb (fun hq=>?_) fun hq=>?_|refine cr (hL) ?_|refine cr (hB) ?_|refine cr (hP) ?_|refine cr (hV) ?_|refine cr (hCm) ?_|refine cr (hCl) ?_|exact aa)
 refine uW 0 (.fvari 143 217 (.ob .vtx) []) rfl ?_
 refine ah hK [] [1,4,42,43,44] (IB w) (fun i=>i≤w.views.length) (fun i=>w.views.length-i) 0 (by simp) (by(conv=>whnf);rfl) ?_
 intro i hi
 have hps:=rx hpre
 have hpl:=mY h3
 have ht7:∀t∈w.views.map aT,t.length=217:=fun t h=>by
  obtain⟨g,_,rfl⟩:=aB.1 h
  exact dX g
 have hml:(w.views.map aT).length=w.views.length:=az ..
 by_cases hlt:i<w.views.length
 ·have hgm:w.views[i]∈w.views:=bd hlt
  have hxe:w.views[i]?=some w.views[i]:=am hlt
  have hsn:w.views.take (i+1)=w.views.take i++[w.views[i]]:=b8 hlt
  have hg:=oM hpre _ hgm
  generalize w.views[i]=g at *
  cases i with
  |zero=>
   have hx0:w.views[(0:Int).toNat]?=some g:=hxe
   have hst:IB w (0+1)=⟨[(1,.ptr 4 0),(4,.ptr 5 0),(42,.lst (.lst .vtx) w.views),(43,.int .i64 w.views.length),(44,.int .i64 ((0+1:Nat):Int))],[(0,.fvari 143 217 (.ob .vtx) [aT g]),(4,.var 36 (bc w).cells),(5,.var 97 [.int .i32 0,.int .u32 0,.lst (.int .i64) w.com,.lst (.int .i64) w.lead,.int .i64 w.bad,.ref 6,.nils]),(6,.row 98 (.hp 0) [some 0])],7⟩:=by
    rw[IB,hsn]
    rfl
   have hs0:IB w 0=⟨[(1,.ptr 4 0),(4,.ptr 5 0),(42,.lst (.lst .vtx) w.views),(43,.int .i64 w.views.length),(44,.int .i64 0)],[(0,.fvari 143 217 (.ob .vtx) []),(4,.var 36 (bc w).cells),(5,.var 97 [.int .i32 0,.int .u32 0,.lst (.int .i64) w.com,.lst (.int .i64) w.lead,.int .i64 w.bad,.nils,.nils])],6⟩:=rfl
   rw[hs0]
   (repeat' first|refine cg ?_|refine sa fun xe hxe=>?_|refine sb (fun hq=>?_) fun hq=>?_|refine cr (J7 g hg) ?_|exact aa)
   refine⟨0+1,by omega,by omega,?_⟩
   rw[hst]
   rfl
  |succ i=>
   have hfl:((w.views.take (i+1)).map aT).length=i+1:=by rw[az,bP];omega
   have hrl:((List.range (i+1)).map some).length=i+1:=by simp
   have hst:IB w (i+1+1)=⟨[(1,.ptr 4 0),(4,.ptr 5 0),(42,.lst (.lst .vtx) w.views),(43,.int .i64 w.views.length),(44,.int .i64 ((i+1+1:Nat):Int))],[(0,.fvari 143 217 (.ob .vtx) ((w.views.take (i+1)).map aT++[aT g])),(4,.var 36 (bc w).cells),(5,.var 97 [.int .i32 0,.int .u32 0,.lst (.int .i64) w.com,.lst (.int .i64) w.lead,.int .i64 w.bad,.ref 6,.nils]),(6,.row 98 (.hp 0) ((List.range (i+1)).map some++[some (i+1)]))],7⟩:=by
    rw[IB,hsn,ce,mn,ce]
    rfl
   have hs0:IB w (i+1)=⟨[(1,.ptr 4 0),(4,.ptr 5 0),(42,.lst (.lst .vtx) w.views),(43,.int .i64 w.views.length),(44,.int .i64 ((i+1:Nat):Int))],[(0,.fvari 143 217 (.ob .vtx) ((w.views.take (i+1)).map aT)),(4,.var 36 (bc w).cells),(5,.var 97 [.int .i32 0,.int .u32 0,.lst (.int .i64) w.com,.lst (.int .i64) w.lead,.int .i64 w.bad,.ref 6,.nils]),(6,.row 98 (.hp 0) ((List.range (i+1)).map some))],7⟩:=rfl
   rw[hs0]
   clear hs0
   generalize (w.views.take (i+1)).map aT=ts at *
   generalize (List.range (i+1)).map some=rs at *
   (repeat' first|refine cg ?_|refine sa fun xe hxe=>?_|refine sb (fun hq=>?_) fun hq=>?_|refine cr (J7 g hg) ?_|exact aa)
   refine⟨i+1+1,by omega,by omega,?_⟩
   rw[hst,hfl]
   rfl
 ·have hi':i=w.views.length:=by omega
  have hK:=Ng w.com w.lead w.bad (w.views.map aT) w.props ht7 (by omega) (by omega) (by rw[hml];exact hps)
  have hCp:=KS w.props (fun p hp=>⟨by have:=(hps p hp).2.2.2.2;omega,by have:=(hps p hp).2.2.2.1;omega⟩) (by omega)
  cases i with
  |zero=>omega
  |succ i=>
   have hs0:IB w (i+1)=⟨[(1,.ptr 4 0),(4,.ptr 5 0),(42,.lst (.lst .vtx) w.views),(43,.int .i64 w.views.length),(44,.int .i64 ((i+1:Nat):Int))],[(0,.fvari 143 217 (.ob .vtx) (w.views.map aT)),(4,.var 36 (bc w).cells),(5,.var 97 [.int .i32 0,.int .u32 0,.lst (.int .i64) w.com,.lst (.int .i64) w.lead,.int .i64 w.bad,.ref 6,.nils]),(6,.row 98 (.hp 0) ((List.range (w.views.map aT).length).map some))],7⟩:=by
    rw[IB,bp (by omega),hml,←hi']
   rw[hs0]
   clear hs0
   generalize hts:w.views.map aT=ts at *
   (repeat' first|refine cg ?_|refine sa fun xe hxe=>?_|refine sb (fun hq=>?_) fun hq=>?_|refine cr (hCp) ?_|refine co (hK) ?_|exact aa)
   exact⟨rfl,rfl⟩
theorem th {α:Type}(c:List α)(a:List α)(x:α){i:Nat}(hc:c.length=i)(hi:i<a.length):(c++a.drop i).set i x=(c++[x])++a.drop (i+1):=by
 rw[List.set_append_right _ _ (by omega),hc,ka,ny hi]
 simp only[List.set_cons_zero,bH,List.singleton_append]
theorem s0 {α:Type}(c:List α)(a:List α){i:Nat}(hc:c.length=i)(hi:i<a.length):i<(c++a.drop i).length:=by simp;omega
theorem GZ {tab:List (Option Vtx)}{n:Nat}{o:Option Vtx}(h:tab[n]?=some o):fM (tab.take (n+1))=fM (tab.take n)++o.toList:=by
 obtain⟨hl,rfl⟩:=aR.1 h
 rw[b8 hl]
 simp only[fM,List.filterMap_append]
 cases tab[n]<;>rfl
theorem Jt (tab:List (Option Vtx)):(fM tab).length≤tab.length:=List.length_filterMap_le ..
set_option maxHeartbeats 1000000 in
theorem Lh (tabs:List (List (Option Vtx)))(k:Nat)(tab:List (Option Vtx))(hk:tabs[k]?=some tab)(ht:tab.length=217)(hv:∀v,some v∈tab→v.parents.length≤1000000):ag Tryz.prog 56 [.fptr 0 k 0] [(0,.fvari 143 217 (.ob .vtx) tabs)] (.lst .vtx (fM tab)) [(0,.fvari 143 217 (.ob .vtx) tabs)]:=by
 refine ab aj Tryz.func56 rfl rfl true 0 4 rfl rfl rfl rfl fun K hK hb1 hb2=>?_;simp only[ae,enc,Nat.reduceAdd]
 clear hb1 hb2
 have hat:∀n,n<217→tab[n]?=some (tab.getD n none):=fun n hn=>by rw[aq,am (by omega)];rfl
 (repeat' first|refine st ?_|refine sa fun xe hxe=>?_|refine sb (fun hq=>?_) fun hq=>?_|exact aa)
 refine ah hK [] [3,9,11] (fun r:Nat=>⟨[(3,.ref 4),(9,.fptr 0 k 0),(11,.int .i64 (r:Int))],[(0,.fvari 143 217 (.ob .vtx) tabs),(4,.row 73 .vtx (fM (tab.take (r*7))))],5⟩) (fun r=>r≤31) (fun r=>31-r) 0 (by omega) rfl ?_
 intro r hr
 by_cases hlt:r<31
 ·obtain⟨e,he⟩:∃e:Nat→Option Vtx,∀j,e j=tab.getD (r*7+j) none:=⟨_,fun _=>rfl⟩
  have hg:∀j,j<7→tab[r*7+j]?=some (e j):=fun j hj=>by rw[he];exact hat _ (by omega)
  (repeat' first|refine st ?_|refine sa fun xe hxe=>?_|refine sb (fun hq=>?_) fun hq=>?_|exact aa)
  rename_i e0 h0 e1 h1 e2 h2 e3 h3 e4 h4 e5 h5
  obtain rfl:e0=e 0:=ar (h0.symm.trans (hg 0 (by omega)))
  obtain rfl:e1=e 1:=ar (h1.symm.trans (hg 1 (by omega)))
  obtain rfl:e2=e 2:=ar (h2.symm.trans (hg 2 (by omega)))
  obtain rfl:e3=e 3:=ar (h3.symm.trans (hg 3 (by omega)))
  obtain rfl:e4=e 4:=ar (h4.symm.trans (hg 4 (by omega)))
  obtain rfl:e5=e 5:=ar (h5.symm.trans (hg 5 (by omega)))
  obtain rfl:xe=e 6:=ar (hxe.symm.trans (hg 6 (by omega)))
  clear h0 h1 h2 h3 h4 h5 hxe
  refine ah hK [] [3,9,11,16,17] (fun j:Nat=>⟨[(3,.ref 4),(9,.fptr 0 k 0),(11,.int .i64 (r:Int)),(16,.agg [.obo .vtx (e 0),.obo .vtx (e 1),.obo .vtx (e 2),.obo .vtx (e 3),.obo .vtx (e 4),.obo .vtx (e 5),.obo .vtx (e 6)]),(17,.int .i64 (j:Int))],[(0,.fvari 143 217 (.ob .vtx) tabs),(4,.row 73 .vtx (fM (tab.take (r*7+j))))],5⟩) (fun j=>j≤7) (fun j=>7-j) 0 (by omega) rfl ?_
  intro j hj
  by_cases hjl:j<7
  ·have hs:=GZ (hg j hjl)
   have hvj:∀v,e j=some v→v.parents.length≤1000000:=fun v h=>hv v (br (by rw[hg j hjl,h]))
   have hll:=Jt (tab.take (r*7+j))
   rw[bP] at hll
   obtain⟨j1,hj1⟩:∃j1,j1=j+1:=⟨_,rfl⟩
   have hji:((j1:Nat):Int)=(j:Int)+1:=by omega
   rw[lx,←hj1] at hs
   obtain⟨o,ho⟩:∃o,o=e j:=⟨_,rfl⟩
   rw[←ho] at hs hvj
   generalize fM (tab.take (r*7+j))=l at *
   obtain rfl|rfl|rfl|rfl|rfl|rfl|rfl:j=0∨j=1∨j=2∨j=3∨j=4∨j=5∨j=6:=by omega
   all_goals
    rw[←ho]
    cases o with
    |none=>
     (repeat' first|refine st ?_|refine sa fun xe hxe=>?_|refine sb (fun hq=>?_) fun hq=>?_|exact aa)
     refine⟨j1,by omega,by omega,?_⟩
     rw[hs,hji,Option.toList_none,gw]
     try rfl
    |some v=>
     have hvv:=hvj v rfl
     (repeat' first|refine st ?_|refine sa fun xe hxe=>?_|refine sb (fun hq=>?_) fun hq=>?_|refine cr (ov _ hvv) ?_|exact aa)
     refine⟨j1,by omega,by omega,?_⟩
     rw[hs,hji]
     rfl
  ·obtain rfl:j=7:=by omega
   (repeat' first|refine st ?_|refine sa fun xe hxe=>?_|refine sb (fun hq=>?_) fun hq=>?_|exact aa)
   exact⟨r+1,by omega,by omega,by rw[show (r+1)*7=r*7+7 by omega];rfl⟩
 ·obtain rfl:r=31:=by omega
  (repeat' first|refine st ?_|refine sa fun xe hxe=>?_|refine sb (fun hq=>?_) fun hq=>?_|exact aa)
  rw[bp (by omega)]
  exact⟨rfl,rfl⟩
theorem Ff (tabs:List (List (Option Vtx)))(k:Nat)(tab:List (Option Vtx))(hk:tabs[k]?=some tab)(ht:tab.length=217)(hv:∀v,some v∈tab→v.parents.length≤1000000):ag Tryz.prog 56 [.hpo 0 (some k)] [(0,.fvari 143 217 (.ob .vtx) tabs)] (.lst .vtx (fM tab)) [(0,.fvari 143 217 (.ob .vtx) tabs)]:=by
 have h:=Lh tabs k tab hk ht hv
 unfold ag at h⊢
 exact h
theorem KR (ps:List Ppl)(hv:∀p∈ps,p.v.parents.length≤1000000∧p.members.length≤1000000)(hl:ps.length≤1000000):ag Tryz.prog 53 [.ref 4] [(1,.frow 3 (.int .i64) (ps.map (·.members))),(4,.row 123 (.pplm 1) (tS ps))] (.lst .ppl ps) [(1,.frow 3 (.int .i64) (ps.map (·.members))),(4,.row 123 (.pplm 1) (tS ps))]:=by
 refine ab aj Tryz.func53 rfl rfl true 1 5 rfl rfl rfl rfl fun K hK hb1 hb2=>?_;simp only[ae,enc,Nat.reduceAdd]
 clear hb1 hb2
 have hpl:=mX ps
 (repeat' first|refine st ?_|refine sa fun xe hxe=>?_|refine sb (fun hq=>?_) fun hq=>?_|exact aa)
 refine ah hK [] [3,9,10,11] (fun i:Nat=>⟨[(3,.ref 5),(9,.ref 4),(10,.int .i64 ps.length),(11,.int .i64 (i:Int))],[(1,.frow 3 (.int .i64) (ps.map (·.members))),(4,.row 123 (.pplm 1) (tS ps)),(5,.row 123 .ppl (ps.take i++(List.replicate ps.length p0).drop i))],6⟩) (fun i=>i≤ps.length) (fun i=>ps.length-i) 0 (by simp) (by simp only[hpl];simp;rfl) ?_
 intro i hi
 by_cases hlt:i<ps.length
 ·have hxe:ps[i]?=some ps[i]:=am hlt
  have hg:i<(ps.take i++(List.replicate ps.length p0).drop i).length:=s0 _ _ (by simp;omega) (by simpa using hlt)
  have hs:(ps.take i++(List.replicate ps.length p0).drop i).set i ps[i]=ps.take (i+1)++(List.replicate ps.length p0).drop (i+1):=by
   rw[th _ _ _ (by simp;omega) (by simpa using hlt),b8 hlt]
  obtain⟨v1,v2⟩:=hv _ (bd hlt)
  have hx1:=vT hxe
  have hx2:(ps.map (·.members))[i]?=some ps[i].members:=by rw[be,hxe];rfl
  generalize hrow:ps.take i++(List.replicate ps.length p0).drop i=row at *
  generalize ps[i]=p at *
  (repeat' first|refine st ?_|refine sa fun xe hxe=>?_|refine sb (fun hq=>?_) fun hq=>?_|refine cr (ov _ v1) ?_|exact aa)
  refine⟨i+1,by omega,by omega,?_⟩
  rw[←hs]
  rfl
 ·obtain rfl:i=ps.length:=by omega
  (repeat' first|refine st ?_|refine sa fun xe hxe=>?_|refine sb (fun hq=>?_) fun hq=>?_|exact aa)
  simp
theorem Nj (w:Wrl)(hl:∀g∈w.views,g.length≤2000000):ag Tryz.prog 68 [bc w] [] (.bool (kP w)) []:=by
 have h:=Bt w hl
 have he:=ng w
 refine ab aj Tryz.func68 rfl rfl false 0 4 rfl rfl rfl rfl fun K hK hb1 hb2=>?_;simp only[ae,enc,Nat.reduceAdd]
 clear hb1 hb2
 cases hp:gk w
 ·simp only[G9,G8,hp,eW,if_false] at h
  (repeat' first|refine st ?_|refine sa fun xe hxe=>?_|refine sb (fun hq=>?_) fun hq=>?_|refine cr (h) ?_|exact aa)
  exact⟨by rw[he,hp,iy],rfl⟩
 ·simp only[G9,G8,hp,if_true] at h
  have hk:=FX hp
  rw[hk] at h
  (repeat' first|refine st ?_|refine sa fun xe hxe=>?_|refine sb (fun hq=>?_) fun hq=>?_|refine cr (h) ?_|exact aa)
  exact⟨by rw[he,hp,d7],rfl⟩
def wr (c l:List Int)(b:Int)(tabs:List (List (Option Vtx)))(ps:List Ppl):Nat→VSt
 |0=>⟨[(2,.ptr 7 0),(3,.ptr 8 0),(30,.ref 5),(31,.int .i64 tabs.length),(32,.int .i64 0)],rB c l b tabs ps++[(7,VB.var 36 [.nils,.nils,.int .i64 0,.nils,.nils]),(8,VB.var 36 [.lst (.int .i64) c,.ref 9,.int .i64 b,.nils,.lst .ppl ps]),(9,VB.row 3 (.int .i64) l)],10⟩
 |i+1=>⟨[(2,.ptr 7 0),(3,.ptr 8 0),(30,.ref 5),(31,.int .i64 tabs.length),(32,.int .i64 ((i+1:Nat):Int))],rB c l b tabs ps++[(7,VB.var 36 [.nils,.nils,.int .i64 0,.nils,.nils]),(8,VB.var 36 [.lst (.int .i64) c,.ref 9,.int .i64 b,.ref 10,.lst .ppl ps]),(9,VB.row 3 (.int .i64) l),(10,VB.row 82 (.lst .vtx) ((tabs.take (i+1)).map fM))],11⟩
set_option maxHeartbeats 1000000 in
theorem Li (c l:List Int)(b:Int)(tabs:List (List (Option Vtx)))(ps:List Ppl)(hc:c≠[])(hcl:c.length≤1000000)(hll:l.length≤1000000)(ht:∀t∈tabs,t.length=217∧∀v,some v∈t→v.parents.length≤1000000)(htl:tabs.length≤7)(htl1:1≤tabs.length)
  (hv:∀p∈ps,p.v.parents.length≤1000000∧p.members.length≤1000000) (hpn:ps.length≤1000000):ag Tryz.prog 26 [.ptr 4 0] (rB c l b tabs ps) (bc ⟨c,l,b,tabs.map fM,ps⟩) (rB c l b tabs ps):=by
 have hC:=EW c hc hcl
 have hP:=KR ps hv hpn
 have hrl:((List.range tabs.length).map some).length=tabs.length:=by simp
 refine ab aj Tryz.func26 rfl rfl true 3 7 rfl rfl rfl rfl fun K hK hb1 hb2=>?_;simp only[ae,enc,Nat.reduceAdd]
 clear hb1 hb2
 (repeat' first|refine st ?_|refine sa fun xe hxe=>?_|refine sb (fun hq=>?_) fun hq=>?_|refine cr (hC) ?_|refine co (hP) ?_|exact aa)
 refine ah hK [] [2,3,30,31,32] (wr c l b tabs ps) (fun i=>i≤tabs.length) (fun i=>tabs.length-i) 0 (by simp) (by simp only[hrl];(conv=>whnf);rfl) ?_
 intro i hi
 by_cases hlt:i<tabs.length
 ·have hxe:tabs[i]?=some tabs[i]:=am hlt
  have hsn:tabs.take (i+1)=tabs.take i++[tabs[i]]:=b8 hlt
  obtain⟨t1,t2⟩:=ht _ (bd hlt)
  have hxv:((List.range tabs.length).map some)[i]?=some (some i):=by rw[be,qh hlt];rfl
  have hV:=Ff tabs i _ hxe t1 t2
  generalize tabs[i]=tab at *
  cases i with
  |zero=>
   have hst:wr c l b tabs ps (0+1)=⟨[(2,.ptr 7 0),(3,.ptr 8 0),(30,.ref 5),(31,.int .i64 tabs.length),(32,.int .i64 ((0+1:Nat):Int))],rB c l b tabs ps++[(7,VB.var 36 [.nils,.nils,.int .i64 0,.nils,.nils]),(8,VB.var 36 [.lst (.int .i64) c,.ref 9,.int .i64 b,.ref 10,.lst .ppl ps]),(9,VB.row 3 (.int .i64) l),(10,VB.row 82 (.lst .vtx) [fM tab])],11⟩:=by
    rw[wr,hsn]
    rfl
   have hs0:wr c l b tabs ps 0=⟨[(2,.ptr 7 0),(3,.ptr 8 0),(30,.ref 5),(31,.int .i64 tabs.length),(32,.int .i64 0)],rB c l b tabs ps++[(7,VB.var 36 [.nils,.nils,.int .i64 0,.nils,.nils]),(8,VB.var 36 [.lst (.int .i64) c,.ref 9,.int .i64 b,.nils,.lst .ppl ps]),(9,VB.row 3 (.int .i64) l)],10⟩:=rfl
   have hx0:((List.range tabs.length).map some)[(0:Int).toNat]?=some (some 0):=hxv
   rw[hs0]
   (repeat' first|refine st ?_|refine sa fun xe hxe=>?_|refine sb (fun hq=>?_) fun hq=>?_|refine co (hV) ?_|exact aa)
   refine⟨0+1,by omega,by omega,?_⟩
   rw[hst]
   rfl
  |succ i=>
   have hfl:((tabs.take (i+1)).map fM).length=i+1:=by rw[az,bP];omega
   have hst:wr c l b tabs ps (i+1+1)=⟨[(2,.ptr 7 0),(3,.ptr 8 0),(30,.ref 5),(31,.int .i64 tabs.length),(32,.int .i64 ((i+1+1:Nat):Int))],rB c l b tabs ps++[(7,VB.var 36 [.nils,.nils,.int .i64 0,.nils,.nils]),(8,VB.var 36 [.lst (.int .i64) c,.ref 9,.int .i64 b,.ref 10,.lst .ppl ps]),(9,VB.row 3 (.int .i64) l),(10,VB.row 82 (.lst .vtx) ((tabs.take (i+1)).map fM++[fM tab]))],11⟩:=by
    rw[wr,hsn,ce]
    rfl
   have hs0:wr c l b tabs ps (i+1)=⟨[(2,.ptr 7 0),(3,.ptr 8 0),(30,.ref 5),(31,.int .i64 tabs.length),(32,.int .i64 ((i+1:Nat):Int))],rB c l b tabs ps++[(7,VB.var 36 [.nils,.nils,.int .i64 0,.nils,.nils]),(8,VB.var 36 [.lst (.int .i64) c,.ref 9,.int .i64 b,.ref 10,.lst .ppl ps]),(9,VB.row 3 (.int .i64) l),(10,VB.row 82 (.lst .vtx) ((tabs.take (i+1)).map fM))],11⟩:=rfl
   rw[hs0]
   clear hs0
   generalize (tabs.take (i+1)).map fM=ts at *
   (repeat' first|refine st ?_|refine sa fun xe hxe=>?_|refine sb (fun hq=>?_) fun hq=>?_|refine co (hV) ?_|exact aa)
   refine⟨i+1+1,by omega,by omega,?_⟩
   rw[hst]
   rfl
 ·cases i with
  |zero=>omega
  |succ i=>
   have hs0:wr c l b tabs ps (i+1)=⟨[(2,.ptr 7 0),(3,.ptr 8 0),(30,.ref 5),(31,.int .i64 tabs.length),(32,.int .i64 ((i+1:Nat):Int))],rB c l b tabs ps++[(7,VB.var 36 [.nils,.nils,.int .i64 0,.nils,.nils]),(8,VB.var 36 [.lst (.int .i64) c,.ref 9,.int .i64 b,.ref 10,.lst .ppl ps]),(9,VB.row 3 (.int .i64) l),(10,VB.row 82 (.lst .vtx) (tabs.map fM))],11⟩:=by
    rw[wr,bp (by omega)]
   rw[hs0]
   clear hs0
   (repeat' first|refine st ?_|refine sa fun xe hxe=>?_|refine sb (fun hq=>?_) fun hq=>?_|exact aa)
   exact⟨rfl,rfl⟩

end Go.Proofs.YtpefhoohfkeflacGreatDoor.Am
