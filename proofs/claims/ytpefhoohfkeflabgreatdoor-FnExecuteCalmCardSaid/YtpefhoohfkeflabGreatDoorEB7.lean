/- Runs: leaders, faulty members, pairs of proposals: what the functions give. Runs: graphs of members, copies: what the program's functions give. Runs: clones of proposals, views that cover. Runs: parents that are known. Runs: clones of lists of numbers (the empty ones by the shelf). Runs: a run is opened. The exact laws' own functions on lists of numbers and vertices. Runs: the vertices of a graph's table; copies of proposals; a run as it is handed back. Runs: what is handed back; new runs, valid runs. -/
import Derived.Shelf.Slices.Clone
import Derived.Test.YtpefhoohfkeflabGreatDoorEB6
set_option linter.unusedSimpArgs false
set_option linter.unusedVariables false
set_option maxHeartbeats 1000000
namespace Go.Proofs.YtpefhoohfkeflabGreatDoor.Am
open Go
attribute [local irreducible] Mk ci Ari fF mI jx ca cR iW fv At ag
set_option maxRecDepth 10000
theorem J8 (c l:List Int):ag Tryz.prog 118 [.lst (.int .i64) c,.lst (.int .i64) l] [] (.bool (leaS c l)) []:=by
 refine ab aj Tryz.func118 rfl rfl false 0 4 rfl rfl rfl rfl fun K hK hb1 hb2=>?_;simp only[ae,enc,Nat.reduceAdd]
 simp[ak,V.toD,bnd,ai,D.cells] at hb1
 (repeat' first|refine st ?_|refine sa fun xe hxe=>?_|refine sb (fun hq=>?_) fun hq=>?_|exact aa)
 refine ah hK [] [0,1,5] (fun i:Nat=>⟨[(0,.lst (.int .i64) c),(1,.lst (.int .i64) l),(5,.int .i64 i)],[],4⟩) (fun i=>i≤l.length∧∀j,j<i→du c (l.getD j 0)=true) (fun i=>l.length-i) 0 ⟨by simp,by simp⟩ rfl ?_
 rintro i ⟨hi,hall⟩
 by_cases hlt:i<l.length
 ·have hxe:l[i]?=some l[i]:=am hlt
  have hno:du c l[i]=false→leaS c l=false:=fun h=>by
   unfold leaS
   rw[dT hlt (by rw[b7 hxe];exact h),iD]
  have hys:=cD hall (p:=fun j=>du c (l.getD j 0)) (i:=i)
  simp only[b7 hxe] at hys
  generalize l[i]=m at *
  (repeat' first|refine st ?_|refine sa fun xe hxe=>?_|refine sb (fun hq=>?_) fun hq=>?_|refine cr (nv _ _ _) ?_|exact aa)
  ·rw[hno hq]
   exact⟨rfl,rfl⟩
  ·exact⟨i+1,⟨by omega,hys hq⟩,by omega,rfl⟩
 ·(repeat' first|refine st ?_|refine sa fun xe hxe=>?_|refine sb (fun hq=>?_) fun hq=>?_|exact aa)
  unfold leaS
  rw[de (fun j hj=>hall j (by omega)),d9]
  exact⟨rfl,rfl⟩
theorem LR (c l:List Int):ag Tryz.prog 70 [.lst (.int .i64) c,.lst (.int .i64) l] [] (.bool (comV c && leaS c l)) []:=by
 refine ab aj Tryz.func70 rfl rfl false 0 4 rfl rfl rfl rfl fun K hK hb1 hb2=>?_;simp only[ae,enc,Nat.reduceAdd]
 (repeat' first|refine st ?_|refine sa fun xe hxe=>?_|refine sb (fun hq=>?_) fun hq=>?_|refine cr (zn _) ?_|refine cr (J8 _ _) ?_|exact aa)
 all_goals (refine⟨?_,rfl⟩;simp_all)
theorem rr (c l:List Int):ag Tryz.prog 47 [.lst (.int .i64) c,.lst (.int .i64) l] [] (.bool (comV c && leaS c l)) []:=by
 refine ab aj Tryz.func47 rfl rfl false 0 4 rfl rfl rfl rfl fun K hK hb1 hb2=>?_;simp only[ae,enc,Nat.reduceAdd]
 simp[ak,V.toD,bnd,ai,D.cells] at hb1
 cases hc:comV c
 ·(repeat' first|refine st ?_|refine sa fun xe hxe=>?_|refine sb (fun hq=>?_) fun hq=>?_|refine cr (oD _) ?_|exact aa)
  exact⟨rfl,rfl⟩
 rw[d9]
 by_cases h15:15<(l.length:Int)
 ·(repeat' first|refine st ?_|refine sa fun xe hxe=>?_|refine sb (fun hq=>?_) fun hq=>?_|refine cr (oD _) ?_|exact aa)
  unfold leaS
  rw[decide_eq_false (by omega),lE]
  exact⟨rfl,rfl⟩
 (repeat' first|refine st ?_|refine sa fun xe hxe=>?_|refine sb (fun hq=>?_) fun hq=>?_|refine cr (oD _) ?_|exact aa)
 refine ah hK [] [0,15,16,17] (fun i:Nat=>⟨[(0,.lst (.int .i64) c),(15,.lst (.int .i64) l),(16,.int .i64 l.length),(17,.int .i64 i)],[],4⟩) (fun i=>i≤l.length∧∀j,j<i→du c (l.getD j 0)=true) (fun i=>l.length-i) 0 ⟨by simp,by simp⟩ rfl ?_
 rintro i ⟨hi,hall⟩
 by_cases hlt:i<l.length
 ·have hxe:l[i]?=some l[i]:=am hlt
  have hno:du c l[i]=false→leaS c l=false:=fun h=>by
   unfold leaS
   rw[dT hlt (by rw[b7 hxe];exact h),iD]
  have hys:=cD hall (p:=fun j=>du c (l.getD j 0)) (i:=i)
  simp only[b7 hxe] at hys
  generalize l[i]=m at *
  (repeat' first|refine st ?_|refine sa fun xe hxe=>?_|refine sb (fun hq=>?_) fun hq=>?_|refine cr (fB _ _) ?_|exact aa)
  ·rw[hno hq]
   exact⟨rfl,rfl⟩
  ·exact⟨i+1,⟨by omega,hys hq⟩,by omega,rfl⟩
 ·(repeat' first|refine st ?_|refine sa fun xe hxe=>?_|refine sb (fun hq=>?_) fun hq=>?_|exact aa)
  unfold leaS
  rw[de (fun j hj=>hall j (by omega)),d9,decide_eq_true (by omega)]
  exact⟨rfl,rfl⟩
theorem Fd (c:List Int)(hc:comV c=true):ag Tryz.prog 95 [.lst (.int .i64) c] [] (.int .i64 (Bo c)) []:=by
 have h1:=ly hc
 have h2:=Ez hc
 have h3:(qL c-1).tdiv 3=Bo c:=rfl
 refine ab aj Tryz.func95 rfl rfl false 0 4 rfl rfl rfl rfl fun K hK hb1 hb2=>?_;simp only[ae,enc,Nat.reduceAdd]
 (repeat' first|refine st ?_|refine sa fun xe hxe=>?_|refine sb (fun hq=>?_) fun hq=>?_|refine cr (zU _ hc) ?_|exact aa)
 exact⟨rfl,rfl⟩
theorem Iu (c:List Int)(b:Int)(hc:comV c=true):ag Tryz.prog 48 [.lst (.int .i64) c,.int .i64 b] [] (.bool (badS c b)) []:=by
 refine ab aj Tryz.func48 rfl rfl false 0 4 rfl rfl rfl rfl fun K hK hb1 hb2=>?_;simp only[ae,enc,Nat.reduceAdd]
 clear hb1 hb2
 cases h0:b== -1
 ·have hne:b≠-1:=by simpa using h0
  cases h1:du c b
  ·have:badS c b=false:=by
    rw[ck]
    intro h
    rcases n3.1 h with h|h
    ·exact hne h
    ·rw[du,aC.2 (by omega)] at h1;cases h1
   rw[this]
   (repeat' first|refine st ?_|refine sa fun xe hxe=>?_|refine sb (fun hq=>?_) fun hq=>?_|refine cr (fB _ _) ?_|exact aa)
   exact⟨rfl,rfl⟩
  ·have hm:=aC.1 h1
   have hx2:c[b.toNat]?=some (c.getD b.toNat 0):=by rw[ar,am (show b.toNat<c.length by omega)];rfl
   have hb:badS c b=decide (c.getD b.toNat 0≤Bo c):=by
    rw[dR,n3,decide_eq_true_eq]
    constructor
    ·rintro(h|⟨-,h⟩)
     ·exact absurd h hne
     ·exact h
    ·intro h;exact .inr ⟨by omega,h⟩
   rw[hb]
   generalize c.getD b.toNat 0=x at *
   (repeat' first|refine st ?_|refine sa fun xe hxe=>?_|refine sb (fun hq=>?_) fun hq=>?_|refine cr (fB _ _) ?_|refine cr (Fd _ hc) ?_|exact aa)
   exact⟨rfl,rfl⟩
 ·have hb:b= -1:=by simpa using h0
  have:badS c b=true:=n3.2 (.inl hb)
  rw[this]
  (repeat' first|refine st ?_|refine sa fun xe hxe=>?_|refine sb (fun hq=>?_) fun hq=>?_|refine cr (fB _ _) ?_|refine cr (Fd _ hc) ?_|exact aa)
  all_goals exact⟨rfl,rfl⟩
abbrev ub (p:Ppl):V:=.agg [.int .i64 p.v.round,.int .i64 p.v.author,.lst (.int .i64) p.v.parents,.int .i64 p.v.digest,.lst (.int .i64) p.members]
theorem vO (c:List Int)(p:Ppl)(hc:comV c=true)(hm:en c p.members=true):ag Tryz.prog 103 [ub p,.lst (.int .i64) c] [] (.bool (don c p)) []:=by
 have hw:DA c p.members=lL c p.members:=by simp[DA,hc,hm]
 have hwc:=BG c p.members
 have hqc:=BA c
 rw[hw] at hwc
 rw[hc] at hqc
 refine ab aj Tryz.func103 rfl rfl false 0 4 rfl rfl rfl rfl fun K hK hb1 hb2=>?_;simp only[ae,enc,Nat.reduceAdd]
 (repeat' first|refine st ?_|refine sa fun xe hxe=>?_|refine sb (fun hq=>?_) fun hq=>?_|refine cr (hwc) ?_|refine cr (hqc) ?_|exact aa)
 exact⟨rfl,rfl⟩
theorem sO (v u:Vtx):ag Tryz.prog 136 [cZ v,cZ u] [] (.bool (slt v u)) []:=by
 refine ab aj Tryz.func136 rfl rfl false 0 4 rfl rfl rfl rfl fun K hK hb1 hb2=>?_;simp only[ae,enc,Nat.reduceAdd]
 (repeat' first|refine st ?_|refine sa fun xe hxe=>?_|refine sb (fun hq=>?_) fun hq=>?_|exact aa)
 all_goals (refine⟨?_,rfl⟩;simp_all[slt])
theorem Mx (a b:List Int):ag Tryz.prog 140 [.lst (.int .i64) a,.lst (.int .i64) b] [] (.bool (a==b)) []:=by
 refine ab aj Tryz.func140 rfl rfl false 0 4 rfl rfl rfl rfl fun K hK hb1 hb2=>?_;simp only[ae,enc,Nat.reduceAdd]
 simp[ak,V.toD,bnd,ai,D.cells] at hb1
 by_cases hl:a.length=b.length
 ·(repeat' first|refine st ?_|refine sa fun xe hxe=>?_|refine sb (fun hq=>?_) fun hq=>?_|exact aa)
  refine ah hK [] [0,1,11,12,13] (fun i:Nat=>⟨[(0,.lst (.int .i64) a),(1,.lst (.int .i64) b),(11,.lst (.int .i64) a),(12,.int .i64 a.length),(13,.int .i64 i)],[],4⟩) (fun i=>i≤a.length∧a.take i=b.take i) (fun i=>a.length-i) 0 ⟨by simp,by simp⟩ rfl ?_
  rintro i ⟨hi,hall⟩
  by_cases hlt:i<a.length
  ·obtain⟨x,hx⟩:∃x,a[i]?=some x:=⟨_,am hlt⟩
   obtain⟨y,hy⟩:∃y,b[i]?=some y:=⟨_,am (by omega)⟩
   (repeat' first|refine st ?_|refine sa fun xe hxe=>?_|refine sb (fun hq=>?_) fun hq=>?_|exact aa)
   ·have hne:¬x=y:=hq
    have:(a==b)=false:=by rw[beq_eq_false_iff_ne];rintro rfl;rw[hx] at hy;exact hne (aq hy)
    rw[this]
    exact⟨rfl,rfl⟩
   ·subst hq
    exact⟨i+1,⟨by omega,by rw[List.take_add_one,List.take_add_one,hall,hx,hy]⟩,by omega,rfl⟩
  ·(repeat' first|refine st ?_|refine sa fun xe hxe=>?_|refine sb (fun hq=>?_) fun hq=>?_|exact aa)
   have hab:a=b:=by rwa [bp (by omega),bp (by omega)] at hall
   rw[hab,beq_self_eq_true]
   exact⟨rfl,rfl⟩
 ·(repeat' first|refine st ?_|refine sa fun xe hxe=>?_|refine sb (fun hq=>?_) fun hq=>?_|exact aa)
  have:(a==b)=false:=by rw[beq_eq_false_iff_ne];rintro rfl;exact hl rfl
  rw[this]
  exact⟨rfl,rfl⟩
theorem nN (v u:Vtx):ag Tryz.prog 102 [cZ v,cZ u] [] (.bool (kV v u)) []:=by
 refine ab aj Tryz.func102 rfl rfl false 0 4 rfl rfl rfl rfl fun K hK hb1 hb2=>?_;simp only[ae,enc,Nat.reduceAdd]
 (repeat' first|refine st ?_|refine sa fun xe hxe=>?_|refine sb (fun hq=>?_) fun hq=>?_|refine cr (Mx _ _) ?_|exact aa)
 all_goals (refine⟨?_,rfl⟩;simp_all[kV])
theorem Jn (l:List Int)(n:Int):ag Tryz.prog 164 [.lst (.int .i64) l,.int .i64 n] [] (.int .i64 (match l.findIdx? (· ==n) with|some i=>(i:Int)|none=>-1)) []:=by
 refine ab aj Tryz.func164 rfl rfl false 0 4 rfl rfl rfl rfl fun K hK hb1 hb2=>?_;simp only[ae,enc,Nat.reduceAdd]
 simp[ak,V.toD,bnd,ai,D.cells] at hb1
 (repeat' first|refine st ?_|refine sa fun xe hxe=>?_|refine sb (fun hq=>?_) fun hq=>?_|exact aa)
 refine ah hK [] [0,1,7,8] (fun i:Nat=>⟨[(0,.lst (.int .i64) l),(1,.int .i64 n),(7,.int .i64 l.length),(8,.int .i64 i)],[],4⟩) (fun i=>i≤l.length∧∀y∈l.take i,(y==n)=false) (fun i=>l.length-i) 0 ⟨by simp,by simp⟩ rfl ?_
 rintro i ⟨hi,hall⟩
 by_cases hlt:i<l.length
 ·have hxe:l[i]?=some l[i]:=am hlt
  have h3:l.take (i+1)=l.take i++[l[i]]:=b9 hlt
  have h4:=rd (l:=l) (p:=(· ==n)) hxe hall
  generalize l[i]=y at *
  by_cases he:n=y
  ·have hb:(n==y)=true:=by simpa using he
   (repeat' first|refine st ?_|refine sa fun xe hxe=>?_|refine sb (fun hq=>?_) fun hq=>?_|exact aa)
   rw[h4 (by simpa using he.symm)]
   exact⟨rfl,rfl⟩
  ·have hb:(n==y)=false:=by simpa using he
   (repeat' first|refine st ?_|refine sa fun xe hxe=>?_|refine sb (fun hq=>?_) fun hq=>?_|exact aa)
   exact⟨i+1,⟨by omega,by rw[h3];exact bL hall (by simpa using fun h=>he h.symm)⟩,by omega,rfl⟩
 ·(repeat' first|refine st ?_|refine sa fun xe hxe=>?_|refine sb (fun hq=>?_) fun hq=>?_|exact aa)
  rw[bp (by omega)] at hall
  rw[pj.2 hall]
  exact⟨rfl,rfl⟩
theorem jS (l:List Int)(n:Int):ag Tryz.prog 137 [.lst (.int .i64) l,.int .i64 n] [] (.bool (l.contains n)) []:=by
 refine ab aj Tryz.func137 rfl rfl false 0 4 rfl rfl rfl rfl fun K hK hb1 hb2=>?_;simp only[ae,enc,Nat.reduceAdd]
 (repeat' first|refine st ?_|refine sa fun xe hxe=>?_|refine sb (fun hq=>?_) fun hq=>?_|refine cr (Jn _ _) ?_|exact aa)
 refine⟨?_,rfl⟩
 have:l.contains n=(l.findIdx? (· ==n)).isSome:=by
  rw[List.findIdx?_isSome,dR,iz,eZ]
  constructor
  ·intro h;exact⟨n,h,by simp⟩
  ·rintro⟨x,h1,h2⟩;rw[beq_iff_eq] at h2;exact h2▸h1
 rw[this]
 cases l.findIdx? (· ==n) with
 |none=>rfl
 |some i=>simp
theorem Ij (p q:Ppl)(bad:Int):ag Tryz.prog 98 [ub p,ub q,.int .i64 bad] [] (.bool (fitP bad p q)) []:=by
 refine ab aj Tryz.func98 rfl rfl false 0 4 rfl rfl rfl rfl fun K hK hb1 hb2=>?_;simp only[ae,enc,Nat.reduceAdd]
 simp[ak,V.toD,bnd,ai,D.cells] at hb1
 cases h1:slt p.v q.v
 ·have:fitP bad p q=true:=by simp[fitP,h1]
  rw[this]
  (repeat' first|refine st ?_|refine sa fun xe hxe=>?_|refine sb (fun hq=>?_) fun hq=>?_|refine cr (sO _ _) ?_|refine cr (nN _ _) ?_|refine cr (jS _ _) ?_|exact aa)
  exact⟨rfl,rfl⟩
 cases h2:kV p.v q.v
 ·cases h3:p.v.author==bad
  ·have:fitP bad p q=false:=by simp[fitP,h1,h2,h3]
   rw[this]
   have hn:(p.v.author !=bad)=true:=by rw[bne,h3];rfl
   (repeat' first|refine st ?_|refine sa fun xe hxe=>?_|refine sb (fun hq=>?_) fun hq=>?_|refine cr (sO _ _) ?_|refine cr (nN _ _) ?_|refine cr (jS _ _) ?_|exact aa)
   exact⟨rfl,rfl⟩
  ·have hf:fitP bad p q= !n6 bad p.members q.members:=by simp[fitP,h1,h2,h3]
   rw[hf]
   have hn:(p.v.author !=bad)=false:=by rw[bne,h3];rfl
   (repeat' first|refine st ?_|refine sa fun xe hxe=>?_|refine sb (fun hq=>?_) fun hq=>?_|refine cr (sO _ _) ?_|refine cr (nN _ _) ?_|refine cr (jS _ _) ?_|exact aa)
   refine ah hK [] [2,4,28,29,30] (fun i:Nat=>⟨[(2,.int .i64 bad),(4,.ptr 4 0),(28,.lst (.int .i64) p.members),(29,.int .i64 p.members.length),(30,.int .i64 i)],[(4,.var 123 (ub q).cells)],5⟩) (fun i=>i≤p.members.length∧∀m∈p.members.take i,(m !=bad && q.members.contains m)=false) (fun i=>p.members.length-i) 0 ⟨by simp,by simp⟩ rfl ?_
   rintro i ⟨hi,hall⟩
   by_cases hlt:i<p.members.length
   ·have hxe:p.members[i]?=some p.members[i]:=am hlt
    have hsn:p.members.take (i+1)=p.members.take i++[p.members[i]]:=b9 hlt
    have hmm:p.members[i]∈p.members:=be hlt
    generalize p.members[i]=m at *
    have hyes:(m !=bad && q.members.contains m)=true→n6 bad p.members q.members=true:=fun h=>eZ.2 ⟨m,hmm,h⟩
    cases h4:m !=bad
    ·(repeat' first|refine st ?_|refine sa fun xe hxe=>?_|refine sb (fun hq=>?_) fun hq=>?_|refine cr (jS _ _) ?_|exact aa)
     exact⟨i+1,⟨by omega,by rw[hsn];exact bL hall (by rw[h4];rfl)⟩,by omega,rfl⟩
    ·cases h5:q.members.contains m
     ·have hc5:=jS q.members m
      rw[h5] at hc5
      (repeat' first|refine st ?_|refine sa fun xe hxe=>?_|refine sb (fun hq=>?_) fun hq=>?_|refine cr (hc5) ?_|exact aa)
      exact⟨i+1,⟨by omega,by rw[hsn];exact bL hall (by rw[h5,lE])⟩,by omega,rfl⟩
     ·have hc5:=jS q.members m
      rw[h5] at hc5
      (repeat' first|refine st ?_|refine sa fun xe hxe=>?_|refine sb (fun hq=>?_) fun hq=>?_|refine cr (hc5) ?_|exact aa)
      rw[hyes (by rw[h4,h5];rfl)]
      exact⟨rfl,rfl⟩
   ·(repeat' first|refine st ?_|refine sa fun xe hxe=>?_|refine sb (fun hq=>?_) fun hq=>?_|exact aa)
    rw[bp (by omega)] at hall
    have:n6 bad p.members q.members=false:=by
     rw[ck]
     intro h
     obtain⟨m,hm,h⟩:=eZ.1 h
     rw[hall m hm] at h
     cases h
    rw[this]
    exact⟨rfl,rfl⟩
 ·have:fitP bad p q=false:=by simp[fitP,h1,h2]
  rw[this]
  (repeat' first|refine st ?_|refine sa fun xe hxe=>?_|refine sb (fun hq=>?_) fun hq=>?_|refine cr (sO _ _) ?_|refine cr (nN _ _) ?_|refine cr (jS _ _) ?_|exact aa)
  exact⟨rfl,rfl⟩
abbrev bd (w:Wrl):V:=.agg [.lst (.int .i64) w.com,.lst (.int .i64) w.lead,.int .i64 w.bad,.lst (.lst .vtx) w.views,.lst .ppl w.props]
theorem FS (c:List Int)(p:Ppl)(hc:comV c=true):(comV c && vtxS c p.v)=vtxS c p.v∧(comV c && en c p.members)=en c p.members:=by simp[hc]
theorem It (w:Wrl)(hc:comV w.com=true):ag Tryz.prog 49 [bd w] [] (.bool (gM w.com w.bad w.props)) []:=by
 refine ab aj Tryz.func49 rfl rfl false 0 4 rfl rfl rfl rfl fun K hK hb1 hb2=>?_;simp only[ae,enc,Nat.reduceAdd]
 simp[ak,V.toD,bnd,ai,D.cells] at hb1
 by_cases h220:220<(w.props.length:Int)
 ·(repeat' first|refine st ?_|refine sa fun xe hxe=>?_|refine sb (fun hq=>?_) fun hq=>?_|exact aa)
  unfold gM
  rw[decide_eq_false (by omega),lE]
  exact⟨rfl,rfl⟩
 have hps:gM w.com w.bad w.props=eB w.props.length (gu w.com w.bad w.props):=by
  unfold gM
  rw[decide_eq_true (by omega),Bool.and_true]
 rw[hps]
 (repeat' first|refine st ?_|refine sa fun xe hxe=>?_|refine sb (fun hq=>?_) fun hq=>?_|exact aa)
 refine ah hK [] [1,12,13,14] (fun i:Nat=>⟨[(1,.ptr 4 0),(12,.lst .ppl w.props),(13,.int .i64 w.props.length),(14,.int .i64 i)],[(4,.var 36 (bd w).cells)],5⟩) (fun i=>i≤w.props.length∧∀j,j<i→gu w.com w.bad w.props j=true) (fun i=>w.props.length-i) 0 ⟨by simp,by simp⟩ rfl ?_
 rintro i ⟨hi,hall⟩
 by_cases hlt:i<w.props.length
 ·have hxe:w.props[i]?=some w.props[i]:=am hlt
  have hno:gu w.com w.bad w.props i=false→V.bool false=V.bool (eB w.props.length (gu w.com w.bad w.props))∧([]:VH)=[]:=fun h=>⟨by rw[dT hlt h],rfl⟩
  have hA:gu w.com w.bad w.props i=(oneP w.com w.props[i] && eB i (fun k=>fitP w.bad w.props[i] (w.props.getD k p0))):=by simp only[gu,b7 hxe]
  generalize w.props[i]=p at *
  have hvc:=j5 w.com p.v
  have hmc:=rt w.com p.members
  rw[(FS _ p hc).1] at hvc
  rw[(FS _ p hc).2] at hmc
  cases h1:vtxS w.com p.v
  ·(repeat' first|refine st ?_|refine sa fun xe hxe=>?_|refine sb (fun hq=>?_) fun hq=>?_|refine cr (hvc) ?_|refine cr (hmc) ?_|exact aa)
   exact hno (by simp[hA,oneP,h1])
  cases h2:en w.com p.members
  ·(repeat' first|refine st ?_|refine sa fun xe hxe=>?_|refine sb (fun hq=>?_) fun hq=>?_|refine cr (hvc) ?_|refine cr (hmc) ?_|exact aa)
   exact hno (by simp[hA,oneP,h2])
  have e1:lT w.props none (some (.int .i64 i)) 0 (i:Int).toNat=w.props.take i:=by simp[lT]
  have hl1:(w.props.take i).length=i:=by rw[bP];omega
  (repeat' first|refine st ?_|refine sa fun xe hxe=>?_|refine sb (fun hq=>?_) fun hq=>?_|refine cr (hvc) ?_|refine cr (hmc) ?_|exact aa)
  refine ah hK [] [1,4,12,13,14,36,37,38] (fun k:Nat=>⟨[(1,.ptr 4 0),(4,.ptr 5 0),(12,.lst .ppl w.props),(13,.int .i64 w.props.length),(14,.int .i64 i),(36,.lst .ppl (w.props.take i)),(37,.int .i64 i),(38,.int .i64 k)],[(4,.var 36 (bd w).cells),(5,.var 123 (ub p).cells)],6⟩) (fun k=>k≤i∧∀j,j<k→fitP w.bad p (w.props.getD j p0)=true) (fun k=>i-k) 0 ⟨by simp,by simp⟩ (by simp only[e1,hl1];rfl) ?_
  rintro k ⟨hk,hkall⟩
  by_cases hkl:k<i
  ·have hxk:(w.props.take i)[k]?=some (w.props.getD k p0):=by rw[er,if_pos hkl,ar,am (show k<w.props.length by omega)];rfl
   have hyes:=cD hkall (p:=fun j=>fitP w.bad p (w.props.getD j p0)) (i:=k)
   have hnk:fitP w.bad p (w.props.getD k p0)=false→V.bool false=V.bool (eB w.props.length (gu w.com w.bad w.props))∧([]:VH)=[]:=fun h=>hno (by rw[hA,dT hkl h,lE])
   generalize w.props.getD k p0=q at *
   have hcq:=Ij q p w.bad
   rw[pE] at hcq
   generalize w.props.take i=pt at *
   cases h3:fitP w.bad p q
   ·rw[h3] at hcq
    (repeat' first|refine st ?_|refine sa fun xe hxe=>?_|refine sb (fun hq=>?_) fun hq=>?_|refine cr (hcq) ?_|exact aa)
    exact hnk h3
   ·rw[h3] at hcq
    (repeat' first|refine st ?_|refine sa fun xe hxe=>?_|refine sb (fun hq=>?_) fun hq=>?_|refine cr (hcq) ?_|exact aa)
    exact⟨k+1,⟨by omega,hyes h3⟩,by omega,rfl⟩
  ·have hAt:gu w.com w.bad w.props i=true:=by
    rw[hA,de (fun j hj=>hkall j (by omega)),oneP,h1,h2]
    rfl
   (repeat' first|refine st ?_|refine sa fun xe hxe=>?_|refine sb (fun hq=>?_) fun hq=>?_|exact aa)
   exact⟨i+1,⟨by omega,cD hall hAt⟩,by omega,rfl⟩
 ·(repeat' first|refine st ?_|refine sa fun xe hxe=>?_|refine sb (fun hq=>?_) fun hq=>?_|exact aa)
  rw[de (fun j hj=>hall j (by omega))]
  exact⟨rfl,rfl⟩
theorem Fg (c:List Int)(g:List Vtx)(hl:g.length≤2000000):ag Tryz.prog 99 [.lst (.int .i64) c,.lst .vtx g] [] (.bool (graS c g)) []:=by
 have hL:=vV c g hl
 refine ab eO Tryz.func99 rfl rfl false 0 4 rfl rfl rfl rfl fun K hK hb1 hb2=>?_;simp only[ae,enc,Nat.reduceAdd]
 clear hb1 hb2
 cases hg:graS c g
 ·simp only[DD,DC,hg,eY,if_false] at hL
  (repeat' first|refine jU ?_|refine sa fun xe hxe=>?_|refine sb (fun hq=>?_) fun hq=>?_|refine cr (hL) ?_|exact aa)
  exact⟨rfl,rfl⟩
 ·simp only[DD,DC,hg,if_true] at hL
  cases g with
  |nil=>
   (repeat' first|refine jU ?_|refine sa fun xe hxe=>?_|refine sb (fun hq=>?_) fun hq=>?_|refine cr (hL) ?_|exact aa)
   exact⟨rfl,rfl⟩
  |cons v g=>
   (repeat' first|refine jU ?_|refine sa fun xe hxe=>?_|refine sb (fun hq=>?_) fun hq=>?_|refine cr (hL) ?_|exact aa)
   exact⟨rfl,rfl⟩
abbrev vb (w:Wrl)(v:Vtx):VH:=[(4,.var 73 [.int .i64 v.round,.int .i64 v.author,.lst (.int .i64) v.parents,.int .i64 v.digest]),(5,.var 36 [.lst (.int .i64) w.com,.lst (.int .i64) w.lead,.int .i64 w.bad,.lst (.lst .vtx) w.views,.lst .ppl w.props])]
theorem N5 (w:Wrl)(v:Vtx)(p:Ppl)(hc:comV w.com=true)(hm:en w.com p.members=true):ag Tryz.prog 101 [ub p,.ptr 4 0,.ptr 5 0] (vb w v) (.bool (kV p.v v && don w.com p)) (vb w v):=by
 refine ab aj Tryz.func101 rfl rfl false 2 6 rfl rfl rfl rfl fun K hK hb1 hb2=>?_;simp only[ae,enc,Nat.reduceAdd]
 clear hb1 hb2
 cases h1:kV p.v v
 ·(repeat' first|refine st ?_|refine sa fun xe hxe=>?_|refine sb (fun hq=>?_) fun hq=>?_|refine cr (nN _ _) ?_|refine cr (vO _ _ hc hm) ?_|exact aa)
  exact⟨rfl,rfl⟩
 ·(repeat' first|refine st ?_|refine sa fun xe hxe=>?_|refine sb (fun hq=>?_) fun hq=>?_|refine cr (nN _ _) ?_|refine cr (vO _ _ hc hm) ?_|exact aa)
  exact⟨rfl,rfl⟩
theorem Le (w:Wrl)(v:Vtx)(ps:List Ppl)(hc:comV w.com=true)(hm:∀p∈ps,en w.com p.members=true):ag Tryz.prog 139 [.lst .ppl ps,.clo 101 [.ptr 4 0,.ptr 5 0]] (vb w v)
  (.int .i64 (match ps.findIdx? (fun p=>kV p.v v && don w.com p) with|some i=>(i:Int)|none=>-1)) (vb w v):=by
 refine ab aj Tryz.func139 rfl rfl false 2 6 rfl rfl rfl rfl fun K hK hb1 hb2=>?_;simp only[ae,enc,Nat.reduceAdd]
 clear hb2
 simp[ak,V.toD,bnd,ai,D.cells] at hb1
 (repeat' first|refine st ?_|refine sa fun xe hxe=>?_|refine sb (fun hq=>?_) fun hq=>?_|exact aa)
 refine ah hK [] [0,1,7,8] (fun i:Nat=>⟨[(0,.lst .ppl ps),(1,.clo 101 [.ptr 4 0,.ptr 5 0]),(7,.int .i64 ps.length),(8,.int .i64 i)],vb w v,6⟩) (fun i=>i≤ps.length∧∀y∈ps.take i,(kV y.v v && don w.com y)=false) (fun i=>ps.length-i) 0 ⟨by simp,by simp⟩ rfl ?_
 rintro i ⟨hi,hall⟩
 by_cases hlt:i<ps.length
 ·have hxe:ps[i]?=some ps[i]:=am hlt
  have h3:ps.take (i+1)=ps.take i++[ps[i]]:=b9 hlt
  have h4:=rd (l:=ps) (p:=fun p=>kV p.v v && don w.com p) hxe hall
  have h5:=hm _ (be hlt)
  generalize ps[i]=p at *
  have hv:=N5 w v p hc h5
  cases h6:kV p.v v && don w.com p
  ·rw[h6] at hv
   (repeat' first|refine st ?_|refine sa fun xe hxe=>?_|refine sb (fun hq=>?_) fun hq=>?_|refine cr (hv) ?_|exact aa)
   exact⟨i+1,⟨by omega,by rw[h3];exact bL hall h6⟩,by omega,rfl⟩
  ·rw[h6] at hv
   (repeat' first|refine st ?_|refine sa fun xe hxe=>?_|refine sb (fun hq=>?_) fun hq=>?_|refine cr (hv) ?_|exact aa)
   rw[h4 h6]
   exact⟨rfl,rfl⟩
 ·(repeat' first|refine st ?_|refine sa fun xe hxe=>?_|refine sb (fun hq=>?_) fun hq=>?_|exact aa)
  rw[bp (by omega)] at hall
  rw[pj.2 hall]
  exact⟨rfl,rfl⟩
theorem NE (w:Wrl)(v:Vtx)(ps:List Ppl)(hc:comV w.com=true)(hm:∀p∈ps,en w.com p.members=true):ag Tryz.prog 100 [.lst .ppl ps,.clo 101 [.ptr 4 0,.ptr 5 0]] (vb w v)
  (.bool (knw w.com ps v)) (vb w v):=by
 have hk:knw w.com ps v=(ps.findIdx? (fun p=>kV p.v v && don w.com p)).isSome:=by
  rw[List.findIdx?_isSome,knw]
  congr 1
  funext p
  rw[Bool.and_comm]
 refine ab aj Tryz.func100 rfl rfl false 2 6 rfl rfl rfl rfl fun K hK hb1 hb2=>?_;simp only[ae,enc,Nat.reduceAdd]
 (repeat' first|refine st ?_|refine sa fun xe hxe=>?_|refine sb (fun hq=>?_) fun hq=>?_|refine cr (Le _ _ _ hc hm) ?_|exact aa)
 refine⟨?_,rfl⟩
 rw[hk]
 cases ps.findIdx? (fun p=>kV p.v v && don w.com p) with
 |none=>rfl
 |some i=>simp
theorem Ix (w:Wrl)(hc:comV w.com=true)(hp:gM w.com w.bad w.props=true)(hl:∀g∈w.views,g.length≤2000000):ag Tryz.prog 50 [bd w] [] (.bool ((w.views.length==w.com.length) && gk w.com w.bad w.props w.views)) []:=by
 have hm:∀p∈w.props,en w.com p.members=true:=fun p hpp=>by
  obtain⟨i,hi,rfl⟩:=dZ (d:=p0) hpp
  simp only[gM,az,bD] at hp
  have:=hp.1 i hi
  simp only[gu,oneP,az] at this
  exact this.1.2
 have h7:=(ay.1 hc).2
 refine ab aj Tryz.func50 rfl rfl false 0 4 rfl rfl rfl rfl fun K hK hb1 hb2=>?_;simp only[ae,enc,Nat.reduceAdd]
 simp[ak,V.toD,bnd,ai,D.cells] at hb1
 by_cases hlen:w.views.length=w.com.length
 ·have hb:(w.views.length==w.com.length)=true:=by simpa using hlen
  rw[hb,d9]
  (repeat' first|refine st ?_|refine sa fun xe hxe=>?_|refine sb (fun hq=>?_) fun hq=>?_|exact aa)
  refine ah hK [] [1,16,17,18] (fun i:Nat=>⟨[(1,.ptr 4 0),(16,.lst (.lst .vtx) w.views),(17,.int .i64 w.views.length),(18,.int .i64 i)],[(4,.var 36 (bd w).cells)],5⟩)
   (fun i=>i≤w.views.length∧∀j,j<i→(pg w.com w.props (w.views.getD j []) && (!((j:Int)==w.bad)||(w.views.getD j []).isEmpty))=true) (fun i=>w.views.length-i) 0 ⟨by simp,by simp⟩ rfl ?_
  rintro i ⟨hi,hall⟩
  by_cases hlt:i<w.views.length
  ·have hxe:w.views[i]?=some (w.views.getD i []):=by rw[ar,am hlt];rfl
   have hgl:=hl _ (br hxe)
   have hno:(pg w.com w.props (w.views.getD i []) && (!((i:Int)==w.bad)||(w.views.getD i []).isEmpty))=false→V.bool false=V.bool (gk w.com w.bad w.props w.views)∧([]:VH)=[]:=fun h=>⟨by unfold gk;rw[dT hlt h],rfl⟩
   have hyes:=cD hall (p:=fun j=>pg w.com w.props (w.views.getD j []) && (!((j:Int)==w.bad)||(w.views.getD j []).isEmpty)) (i:=i)
   generalize w.views.getD i []=g at *
   have hvv:pg w.com w.props g=(g.all (knw w.com w.props) && graS w.com g):=rfl
   cases h1:graS w.com g
   ·(repeat' first|refine st ?_|refine sa fun xe hxe=>?_|refine sb (fun hq=>?_) fun hq=>?_|refine cr (Fg _ _ hgl) ?_|exact aa)
    exact hno (by rw[hvv,h1,lE,iD])
   have hem:g.isEmpty=decide ((g.length:Int)=0):=by cases g<;>simp;omega
   by_cases h2:(i:Int)=w.bad∧¬(g.length:Int)=0
   ·have hb1:((i:Int)==w.bad)=true:=by simpa using h2.1
    (repeat' first|refine st ?_|refine sa fun xe hxe=>?_|refine sb (fun hq=>?_) fun hq=>?_|refine cr (Fg _ _ hgl) ?_|exact aa)
    exact hno (by rw[hb1,hem,decide_eq_false h2.2];simp)
   have hok2:(!((i:Int)==w.bad)||g.isEmpty)=true:=by
    rw[hem]
    by_cases hb:(i:Int)=w.bad
    ·have:(g.length:Int)=0:=Classical.byContradiction fun h=>h2 ⟨hb,h⟩
     simp[this]
    ·simp[hb]
   have hkn:∀v,ag Tryz.prog 100 [.lst .ppl w.props,.clo 101 [.ptr 4 0,.ptr 5 0]] (vb w v) (.bool (knw w.com w.props v)) (vb w v):=fun v=>NE w v _ hc hm
   (repeat' first|refine st ?_|refine sa fun xe hxe=>?_|refine sb (fun hq=>?_) fun hq=>?_|refine cr (Fg _ _ hgl) ?_|exact aa)
   all_goals
    refine ah hK [] [1,16,17,18,39,40,41] (fun k:Nat=>⟨[(1,.ptr 4 0),(16,.lst (.lst .vtx) w.views),(17,.int .i64 w.views.length),(18,.int .i64 i),(39,.lst .vtx g),(40,.int .i64 g.length),(41,.int .i64 k)],[(4,.var 36 (bd w).cells)],5⟩)
     (fun k=>k≤g.length∧∀v∈g.take k,knw w.com w.props v=true) (fun k=>g.length-k) 0 ⟨by simp,by simp⟩ rfl ?_
    rintro k ⟨hk,hkall⟩
    by_cases hkl:k<g.length
    ·have hxk:g[k]?=some g[k]:=am hkl
     have hsn:g.take (k+1)=g.take k++[g[k]]:=b9 hkl
     have hvm:g[k]∈g:=be hkl
     generalize g[k]=v at *
     have hkv:=hkn v
     cases h3:knw w.com w.props v
     ·rw[h3] at hkv
      (repeat' first|refine st ?_|refine sa fun xe hxe=>?_|refine sb (fun hq=>?_) fun hq=>?_|refine cr (hkv) ?_|exact aa)
      have:g.all (knw w.com w.props)=false:=by
       rw[ck]
       intro h
       rw[aM.1 h v hvm] at h3
       cases h3
      exact hno (by rw[hvv,this,iD,iD])
     ·rw[h3] at hkv
      (repeat' first|refine st ?_|refine sa fun xe hxe=>?_|refine sb (fun hq=>?_) fun hq=>?_|refine cr (hkv) ?_|exact aa)
      exact⟨k+1,⟨by omega,by rw[hsn];exact bL hkall h3⟩,by omega,rfl⟩
    ·rw[bp (by omega)] at hkall
     (repeat' first|refine st ?_|refine sa fun xe hxe=>?_|refine sb (fun hq=>?_) fun hq=>?_|exact aa)
     exact⟨i+1,⟨by omega,hyes (by rw[hvv,aM.2 hkall,h1,hok2];rfl)⟩,by omega,rfl⟩
  ·(repeat' first|refine st ?_|refine sa fun xe hxe=>?_|refine sb (fun hq=>?_) fun hq=>?_|exact aa)
   unfold gk
   rw[de (fun j hj=>hall j (by omega))]
   exact⟨rfl,rfl⟩
 ·have hb:(w.views.length==w.com.length)=false:=by simpa using hlen
  rw[hb,iD]
  (repeat' first|refine st ?_|refine sa fun xe hxe=>?_|refine sb (fun hq=>?_) fun hq=>?_|exact aa)
  exact⟨rfl,rfl⟩
theorem oC (v:Vtx)(hl:v.parents.length≤1000000):ag Tryz.prog 104 [cZ v] [] (.agg [.int .i64 v.round,.int .i64 v.author,.ref 4,.int .i64 v.digest]) [(4,.row 3 (.int .i64) v.parents)]:=by
 refine ab aj Tryz.func104 rfl rfl false 0 4 rfl rfl rfl rfl fun K hK hb1 hb2=>?_;simp only[ae,enc,Nat.reduceAdd]
 (repeat' first|refine st ?_|refine sa fun xe hxe=>?_|refine sb (fun hq=>?_) fun hq=>?_|exact aa)
 exact⟨rfl,rfl⟩
theorem Kl (g:List Vtx)(hg:∀v∈g,ji v∧v.parents.length≤1000):ag Tryz.prog 52 [.lst .vtx g] [] (.ptr 4 0) [(4,.vari 143 [] 217 (.ob .vtx) (aT g) [])]:=by
 refine ab aj Tryz.func52 rfl rfl false 0 4 rfl rfl rfl rfl fun K hK hb1 hb2=>?_;simp only[ae,enc,Nat.reduceAdd]
 simp[ak,V.toD,bnd,ai,D.cells] at hb1
 (repeat' first|refine st ?_|refine sa fun xe hxe=>?_|refine sb (fun hq=>?_) fun hq=>?_|exact aa)
 refine DN 4 0 217 (.ob .vtx) ?_
 ((conv=>whnf);refine LU (by kernel_rfl) ?_;(conv=>whnf))
 refine ah hK [] [3,9,10,11] (fun i:Nat=>⟨[(3,.ptr 4 0),(9,.lst .vtx g),(10,.int .i64 g.length),(11,.int .i64 (i:Int))],[(4,.vari 143 [] 217 (.ob .vtx) (aT (g.take i)) [])],5⟩) (fun i=>i≤g.length) (fun i=>g.length-i) 0 (by simp) rfl ?_
 intro i hi
 by_cases hlt:i<g.length
 ·have hxe:g[i]?=some g[i]:=am hlt
  have hsn:g.take (i+1)=g.take i++[g[i]]:=b9 hlt
  obtain⟨⟨⟨v1,v2⟩,v3,v4⟩,v5⟩:=hg _ (be hlt)
  have hl2:=d6 (g.take i)
  have hst:aT (g.take (i+1))=(aT (g.take i)).set (g[i].round*7+g[i].author).toNat (some g[i]):=by rw[hsn,jc]
  generalize g[i]=v at *
  generalize aT (g.take i)=s at *
  (repeat' first|refine st ?_|refine sa fun xe hxe=>?_|refine sb (fun hq=>?_) fun hq=>?_|((with_reducible refine fy ?_);(conv=>whnf);(first|with_reducible refine bg (oC _ (by omega)) ?_);conv=>whnf)|exact aa)
  refine⟨i+1,by omega,by omega,?_⟩
  have hix:(v.round*7+v.author).toNat=v.round.toNat * 7+v.author.toNat:=by omega
  rw[hst,hix]
  rfl
 ·rw[bp (by omega)]
  (repeat' first|refine st ?_|refine sa fun xe hxe=>?_|refine sb (fun hq=>?_) fun hq=>?_|exact aa)
  exact⟨rfl,rfl⟩
def Θw:TT:=(98,⟨.ptr 143,1,8,some (.nilp),some (.hp 0),false⟩)::(123,⟨.struct [(73,0,4),(32,4,1)],5,72,some (.agg [.int .i64 0,.int .i64 0,.nils,.int .i64 0,.nils]),some (.pplm 1),false⟩)::Θ
theorem bS:TT.ok Tryz.prog Θw:=TT.okB_ok (by kernel_rfl)
theorem cg {P Q:Prop}(h:Q)(s:Hid Q→P:=by
  intro h
  (first|(with_reducible first|apply dV|apply cU)|((first|with_reducible apply cJ bS|refine go ?_|(with_reducible first|apply df|apply dq|apply cH|apply cK|refine cI bS mixed (by kernel_rfl) ?_))<;>conv=>whnf))
  repeat(first|(with_reducible first|apply dV|apply cU)|((first|with_reducible apply cJ bS|refine go ?_|(with_reducible first|apply df|apply dq|apply cH|apply cK|refine cI bS mixed (by kernel_rfl) ?_))<;>conv=>whnf))
  exact h.h):P:=s ⟨h⟩
def ua (ps:List Ppl):List PplM:=ps.zipIdx.map fun x=>⟨x.1.v,some x.2⟩
theorem m7 (ps:List Ppl):(ua ps).length=ps.length:=by simp[ua]
def O9:PplM:=⟨⟨0,0,[],0⟩,none⟩
def F6 (ps:List Ppl)(i:Nat):List PplM:=ua (ps.take i)++List.replicate (ps.length-i) O9
theorem IW (ps:List Ppl)(i:Nat)(hi:i≤ps.length):(F6 ps i).length=ps.length:=by
 simp only[F6,aP,m7,bP,iA];omega
theorem IX {ps:List Ppl}{i:Nat}(h:i<ps.length):(F6 ps i).set i ⟨ps[i].v,some i⟩=F6 ps (i+1):=by
 have h1:(ua (ps.take i)).length=i:=by rw[m7,bP];omega
 have h2:ps.length-i=(ps.length-(i+1))+1:=by omega
 unfold F6
 rw[List.set_append_right _ _ (by omega),h1,kg,h2,List.replicate_succ,List.set_cons_zero]
 have h4:ua (ps.take (i+1))=ua (ps.take i)++[⟨ps[i].v,some i⟩]:=by
  rw[b9 h]
  simp only[ua,List.zipIdx_append,cf,bP,mH (Nat.le_of_lt h),mz,List.zipIdx_nil,bI,ec,e8]
 rw[h4,bH]
 rfl
theorem K8 (ps:List Ppl)(hv:∀p∈ps,p.v.parents.length≤1000000∧p.members.length≤1000000)(hl:ps.length≤1000000):ag Tryz.prog 53 [.lst .ppl ps] [] (.ref 4) [(1,.frow 3 (.int .i64) (ps.map (·.members))),(4,.row 123 (.pplm 1) (ua ps))]:=by
 refine ab bS Tryz.func53 rfl rfl false 0 4 rfl rfl rfl rfl fun K hK hb1 hb2=>?_;simp only[ae,enc,Nat.reduceAdd]
 clear hb1 hb2
 (repeat' first|refine cg ?_|refine sa fun xe hxe=>?_|refine sb (fun hq=>?_) fun hq=>?_|exact aa)
 refine u6 1 (.frow 3 (.int .i64) []) rfl ?_
 refine ah hK [] [3,9,10,11] (fun i:Nat=>⟨[(3,.ref 4),(9,.lst .ppl ps),(10,.int .i64 ps.length),(11,.int .i64 (i:Int))],[(1,.frow 3 (.int .i64) ((ps.take i).map (·.members))),(4,.row 123 (.pplm 1) (F6 ps i))],5⟩) (fun i=>i≤ps.length) (fun i=>ps.length-i) 0 (by simp) (by rw[show F6 ps 0=List.replicate (ps.length:Int).toNat O9 by simp[F6,ua]];rfl) ?_
 intro i hi
 by_cases hlt:i<ps.length
 ·have hxe:ps[i]?=some ps[i]:=am hlt
  have hsn:ps.take (i+1)=ps.take i++[ps[i]]:=b9 hlt
  obtain⟨v1,v2⟩:=hv _ (be hlt)
  have hpl:=IW ps i hi
  have hst:=IX hlt
  have hfl:((ps.take i).map (·.members)).length=i:=by rw[aA,bP];omega
  generalize ps[i]=p at *
  generalize F6 ps i=s at *
  (repeat' first|refine cg ?_|refine sa fun xe hxe=>?_|refine sb (fun hq=>?_) fun hq=>?_|refine cr (oC _ v1) ?_|exact aa)
  refine⟨i+1,by omega,by omega,?_⟩
  rw[←hst,hsn,cf,hfl]
  rfl
 ·(repeat' first|refine cg ?_|refine sa fun xe hxe=>?_|refine sb (fun hq=>?_) fun hq=>?_|exact aa)
  rw[bp (by omega),show F6 ps i=ua ps by rw[F6,bp (by omega),show ps.length-i=0 by omega];simp]
  exact⟨rfl,rfl⟩
theorem Ng (tabs:List (List (Option Vtx)))(k:Nat)(tab:List (Option Vtx))(v:Vtx)(hk:tabs[k]?=some tab)(ht:tab.length=217)(hr:v.parents≠[]→1≤v.round∧v.round≤31)(hp:∀p∈v.parents,0≤p∧p≤6):ag Tryz.prog 105 [.fptr 0 k 0,cZ v] [(0,.fvari 143 217 (.ob .vtx) tabs)] (.bool (qV tab v)) [(0,.fvari 143 217 (.ob .vtx) tabs)]:=by
 refine ab aj Tryz.func105 rfl rfl false 0 4 rfl rfl rfl rfl fun K hK hb1 hb2=>?_;simp only[ae,enc,Nat.reduceAdd]
 simp[ak,V.toD,bnd,ai,D.cells] at hb1
 (repeat' first|refine st ?_|refine sa fun xe hxe=>?_|refine sb (fun hq=>?_) fun hq=>?_|exact aa)
 refine ah hK [] [0,3,8,9,10] (fun i:Nat=>⟨[(0,.fptr 0 k 0),(3,.ptr 4 0),(8,.lst (.int .i64) v.parents),(9,.int .i64 v.parents.length),(10,.int .i64 (i:Int))],[(0,.fvari 143 217 (.ob .vtx) tabs),(4,.var 73 (cZ v).cells)],5⟩) (fun i=>i≤v.parents.length∧∀p∈v.parents.take i,(tab.getD ((v.round-1)*7+p).toNat none).isSome=true) (fun i=>v.parents.length-i) 0 (by simp) rfl ?_
 rintro i ⟨hi,hall⟩
 by_cases hlt:i<v.parents.length
 ·have hxe:v.parents[i]?=some v.parents[i]:=am hlt
  have h3:v.parents.take (i+1)=v.parents.take i++[v.parents[i]]:=b9 hlt
  have h4:v.parents[i]∈v.parents:=be hlt
  have h5:=hr (List.ne_nil_of_mem h4)
  have h6:=hp _ h4
  generalize v.parents[i]=p at *
  have hix:((v.round-1)*7+p).toNat=(v.round-1).toNat * 7+p.toNat:=by omega
  (repeat' first|refine st ?_|refine sa fun xe hxe=>?_|refine sb (fun hq=>?_) fun hq=>?_|exact aa)
  ·have hxe:tab[(v.round-1).toNat * 7+p.toNat]?=some xe:=hxe
   have:qV tab v=false:=by
    rw[ck]
    intro h
    have h:=aM.1 h p h4
    rw[hix,ar,hxe,d7] at h
    have hq:xe=none:=by simpa using hq
    rw[hq] at h
    cases h
   rw[this]
   exact⟨rfl,rfl⟩
  ·have hxe:tab[(v.round-1).toNat * 7+p.toNat]?=some xe:=hxe
   refine⟨i+1,⟨by omega,?_⟩,by omega,rfl⟩
   rw[h3]
   refine bL hall ?_
   rw[hix,ar,hxe,d7]
   have hq:Option.isNone xe=false:=hq
   simpa[Option.isNone_iff_eq_none,Option.isSome_iff_ne_none] using hq
 ·(repeat' first|refine st ?_|refine sa fun xe hxe=>?_|refine sb (fun hq=>?_) fun hq=>?_|exact aa)
  rw[bp (by omega)] at hall
  have:qV tab v=true:=aM.2 hall
  rw[this]
  exact⟨rfl,rfl⟩
abbrev rB (c l:List Int)(b:Int)(tabs:List (List (Option Vtx)))(ps:List Ppl):VH:=[(0,.fvari 143 217 (.ob .vtx) tabs),(1,.frow 3 (.int .i64) (ps.map (·.members))),(4,.var 97 [.int .i32 0,.int .u32 0,.lst (.int .i64) c,.lst (.int .i64) l,.int .i64 b,.ref 5,.ref 6]),(5,.row 98 (.hp 0) ((List.range tabs.length).map some)),(6,.row 123 (.pplm 1) (ua ps))]
theorem v8 {ps:List Ppl}{i:Nat}{p:Ppl}(h:ps[i]?=some p):(ua ps)[i]?=some ⟨p.v,some i⟩:=by
 simp[ua,bf,List.getElem?_zipIdx,h]
theorem Ee (tabs:List (List (Option Vtx)))(k:Nat)(tab:List (Option Vtx))(v:Vtx)(hk:tabs[k]?=some tab)(ht:tab.length=217)(hr:v.parents≠[]→1≤v.round∧v.round≤31)(hp:∀p∈v.parents,0≤p∧p≤6):ag Tryz.prog 105 [.hpo 0 (some k),cZ v] [(0,.fvari 143 217 (.ob .vtx) tabs)] (.bool (qV tab v)) [(0,.fvari 143 217 (.ob .vtx) tabs)]:=by
 have h:=Ng tabs k tab v hk ht hr hp
 unfold ag at h⊢
 exact h
set_option maxHeartbeats 1000000 in
theorem Nv (c l:List Int)(b:Int)(tabs:List (List (Option Vtx)))(ps:List Ppl)(ht:∀t∈tabs,t.length=217)(htl:tabs.length≤7)(hpn:ps.length≤1000000)(hp:∀p∈ps,Ob tabs.length p):ag Tryz.prog 54 [.ptr 4 0] (rB c l b tabs ps) (.bool (xW b tabs ps)) (rB c l b tabs ps):=by
 refine ab bS Tryz.func54 rfl rfl false 3 7 rfl rfl rfl rfl fun K hK hb1 hb2=>?_;simp only[ae,enc,Nat.reduceAdd]
 clear hb1 hb2
 have hpl:=m7 ps
 (repeat' first|refine cg ?_|refine sa fun xe hxe=>?_|refine sb (fun hq=>?_) fun hq=>?_|exact aa)
 refine ah hK [] [0,10,11,12] (fun i:Nat=>⟨[(0,.ptr 4 0),(10,.ref 6),(11,.int .i64 ps.length),(12,.int .i64 (i:Int))],rB c l b tabs ps,7⟩) (fun i=>i≤ps.length∧∀p∈ps.take i,M0 b tabs p.v (p.v.author::p.members)=true) (fun i=>ps.length-i) 0 (by simp) (by simp only[hpl];rfl) ?_
 rintro i ⟨hi,hall⟩
 by_cases hlt:i<ps.length
 ·have hxe:ps[i]?=some ps[i]:=am hlt
  have hsn:ps.take (i+1)=ps.take i++[ps[i]]:=b9 hlt
  have hpm:ps[i]∈ps:=be hlt
  have hno:M0 b tabs ps[i].v (ps[i].v.author::ps[i].members)=false→xW b tabs ps=false:=fun h=>by
   rw[ck]
   intro h2
   rw[aM.1 h2 _ hpm] at h
   cases h
  obtain⟨p1,p2,p3,p4,p5⟩:=hp _ hpm
  have hx1:=v8 hxe
  have hx2:(ps.map (·.members))[i]?=some ps[i].members:=by rw[bf,hxe];rfl
  have hfl:(ps.map (·.members)).length=ps.length:=aA ..
  generalize ps[i]=p at *
  (repeat' first|refine cg ?_|refine sa fun xe hxe=>?_|refine sb (fun hq=>?_) fun hq=>?_|exact aa)
  refine ah hK [] [0,4,10,11,12,22,23,24] (fun j:Nat=>⟨[(0,.ptr 4 0),(4,.ptr 7 0),(10,.ref 6),(11,.int .i64 ps.length),(12,.int .i64 (i:Int)),(22,.ref 8),(23,.int .i64 ((p.v.author::p.members).length:Nat)),(24,.int .i64 (j:Int))],rB c l b tabs ps++[(7,VB.var 123 [.int .i64 p.v.round,.int .i64 p.v.author,.lst (.int .i64) p.v.parents,.int .i64 p.v.digest,.hro 1 (some i)]),(8,VB.row 3 (.int .i64) (p.v.author::p.members))],9⟩) (fun j=>j≤(p.v.author::p.members).length∧∀m∈(p.v.author::p.members).take j,(m==b||qV (tabs.getD m.toNat []) p.v)=true) (fun j=>(p.v.author::p.members).length-j) 0 (by simp) (by(conv=>whnf);rfl) ?_
  rintro j ⟨hj,hjall⟩
  have hnl:(p.v.author::p.members).length≤1000001:=by simp only[bF];omega
  have hkk:(∀m∈p.v.author::p.members,(m==b||qV (tabs.getD m.toNat []) p.v)=true)→M0 b tabs p.v (p.v.author::p.members)=true:=fun h=>aM.2 h
  have hkn:∀m∈p.v.author::p.members,(m==b||qV (tabs.getD m.toNat []) p.v)=false→M0 b tabs p.v (p.v.author::p.members)=false:=fun m hm h=>by
   rw[ck]
   intro h2
   rw[aM.1 h2 _ hm] at h
   cases h
  generalize hms:p.v.author::p.members=ms at *
  by_cases hjl:j<ms.length
  ·have hye:ms[j]?=some ms[j]:=am hjl
   have hjs:ms.take (j+1)=ms.take j++[ms[j]]:=b9 hjl
   have hjm:ms[j]∈ms:=be hjl
   have hxr:=p1 _ hjm
   have hkn:=hkn _ hjm
   generalize ms[j]=m at *
   have hxt:tabs[m.toNat]?=some (tabs.getD m.toNat []):=by
    rw[ar,am (show m.toNat<tabs.length by omega)];rfl
   have hxv:((List.range tabs.length).map some)[m.toNat]?=some (some m.toNat):=by
    rw[bf,qo (show m.toNat<tabs.length by omega)];rfl
   have hvl:((List.range tabs.length).map some).length=tabs.length:=by simp
   have hC:=Ee tabs m.toNat _ p.v hxt (ht _ (br hxt)) p2 p3
   by_cases hmb:m=b
   ·subst hmb
    (repeat' first|refine cg ?_|refine sa fun xe hxe=>?_|refine sb (fun hq=>?_) fun hq=>?_|exact aa)
    ·exact absurd trivial hq
    ·refine⟨j+1,⟨by omega,by rw[hjs];exact bL hjall (by simp)⟩,by omega,rfl⟩
   ·cases h1:qV (tabs.getD m.toNat []) p.v
    ·rw[h1] at hC
     (repeat' first|refine cg ?_|refine sa fun xe hxe=>?_|refine sb (fun hq=>?_) fun hq=>?_|refine co (hC) ?_|exact aa)
     exact⟨by rw[hno (hkn (by rw[h1,kf];simpa using hmb))],rfl⟩
    ·rw[h1] at hC
     (repeat' first|refine cg ?_|refine sa fun xe hxe=>?_|refine sb (fun hq=>?_) fun hq=>?_|refine co (hC) ?_|exact aa)
     exact⟨j+1,⟨by omega,by rw[hjs];exact bL hjall (by rw[h1,Bool.or_true])⟩,by omega,rfl⟩
  ·(repeat' first|refine cg ?_|refine sa fun xe hxe=>?_|refine sb (fun hq=>?_) fun hq=>?_|exact aa)
   rw[bp (by omega)] at hjall
   exact⟨i+1,⟨by omega,by rw[hsn];exact bL hall (by rw[hms];exact hkk hjall)⟩,by omega,rfl⟩
 ·(repeat' first|refine cg ?_|refine sa fun xe hxe=>?_|refine sb (fun hq=>?_) fun hq=>?_|exact aa)
  rw[bp (by omega)] at hall
  have:xW b tabs ps=true:=aM.2 hall
  rw[this]
  exact⟨rfl,rfl⟩
end Go.Proofs.YtpefhoohfkeflabGreatDoor.Am
namespace Go.Proofs.YtpefhoohfkeflabGreatDoor.Am
open Go Go.Shelf Go.RowKit
attribute [local irreducible] Mk ci Ari fF mI jx ca cR iW fv At ag
set_option maxRecDepth 10000
theorem iY {P : Program} {f : FuncId} {ds : List D} {r : D} (hf : ∃ fn, P.funcs[f]? = some fn ∧ fn.body.isNone = false ∧ (fn.name == "runtime.NumGoroutine") = false)
  (h:∀(w:World) (ok:Nat→Prop) (ρ:Id→Pl) (vs:Array Value),ds.length=vs.size→(∀i,i<ds.length→C ρ (fun _=>False) ok w (ds.getD i .undef) (vs.getD i undef))→
   Calls P f vs w fun e w'=>∃u,e= .returned u∧Below w.heap.size w w'∧∀ok',Rep ok' w' r u):Con P f ds [] r []:=by
 refine⟨hf,fun w A ρ vs hs hl hc=>?_⟩
 have hno:∀b,¬Live [] b:=fun b h=>by cases h
 have hc':∀i,i<ds.length→C ρ (fun _=>False) (okOf A ρ [] w) w (ds.getD i .undef) (vs.getD i undef):=fun i hi=>(hc i hi).mono (fun b hb=>absurd hb (hno b)) (fun b hb=>⟨hb,rfl⟩)
 refine Calls.mono (h w (okOf A ρ [] w) ρ vs hl hc') ?_
 rintro e w' ⟨u,rfl,hb,hr⟩
 refine⟨u,ρ,rfl,fun b hb=>absurd hb (hno b),⟨hs.base,hs.inS,⟨hb.os,hb.tape,hb.output,hb.size,fun i hi _=>hb.block i hi⟩,rfl,rfl,?_,?_,?_,?_,hs.gl⟩,.pure (hr _)⟩
 ·intro k d h;cases h
 ·intro k d h;cases h
 ·intro k d h;cases h
 ·intro b b' x x' h;cases h
theorem mV {nb:Nat}{α β:Type}{xs:List α}{ys:List β}(h1:xs.length≤1000000)(h2:ys.length≤1000000)(hb:nb≤100):le nb (xs.length+ys.length):=by
 have:(xs.length+ys.length)*nb≤2000000*100:=Nat.mul_le_mul (by omega) hb
 unfold le
 omega
def zW:Go.Shelf.Ren:=⟨fun|15=>51|n=>n,fun|22=>32|3=>3|4=>4|n=>n,fun|n=>n⟩
theorem Fy:Go.Proofs.Lays2.n15 Tryz.prog zW where
  mixed:=by kernel_rfl
  f15:=Tryz.func51.trans (congrArg some (by kernel_rfl))
  t3:=Tryz.underlying3
  a3:=Tryz.isAgg3
  z3:=Tryz.sizeOf3
  v3:=Tryz.zeroValue3
  t4:=Tryz.underlying4
  a4:=Tryz.isAgg4
  z4:=Tryz.sizeOf4
  v4:=Tryz.zeroValue4
  t22:=Tryz.underlying32
  a22:=Tryz.isAgg32
  z22:=Tryz.sizeOf32
  v22:=Tryz.zeroValue32
  i3:=by kernel_rfl
theorem Ih (t:Ty):ag Tryz.prog 51 [.lst t []] [] (.lst t []) []:=by
 unfold ag
 refine iY ⟨_,Tryz.func51,rfl,rfl⟩ fun w ok ρ vs hl hc=>?_
 obtain⟨v,rfl⟩:∃v,vs= #[v]:=by
  have:vs.size=1:=hl.symm
  exact⟨vs[0],Array.ext (by simp[this]) fun i h1 h2=>by
   have:i=0:=by simpa using h2
   subst this;rfl⟩
 have h0:C ρ (fun _=>False) ok w (.lst []) v:=hc 0 (Nat.one_pos)
 have h1:=h0.lst_inv
 have fin:∀(w':World) (a:Option Addr) (cap:Nat),(a=none→cap=0)→cap≤maxLen→∀ok',Rep ok' w' ((V.lst t []).toD) (.slice a 0 cap):=fun w' a cap h1 h2 ok'=>.none a cap h1 h2
 obtain⟨a,cap,rfl,ha⟩:∃a cap,v= .slice a 0 cap∧(a=none→cap=0):=by
  cases h1 with
  |none a cap ha hcap=>exact⟨a,cap,rfl,ha⟩
  |lst l n b off cap f hn=>exact⟨_,cap,by rw[←hn];rfl,fun h=>by cases h⟩
 cases a with
 |none=>
  refine Calls.mono (Any.slices_Clone_int_nil Fy 0 cap w) ?_
  rintro e w' ⟨rfl,rfl⟩
  exact⟨_,rfl,Below.refl _ _,fin _ _ _ (fun _=>rfl) (aX _)⟩
 |some a=>
  refine Calls.mono (Any.slices_Clone_int_zero Fy a cap w) ?_
  rintro e w' ⟨v',rfl,ho,_,hb⟩
  refine⟨v',rfl,hb,?_⟩
  rcases ho.2 with⟨rfl,_⟩|⟨g,cap',cur,rfl,_,_,_,h3,_⟩
  ·exact fin _ _ _ (fun _=>rfl) (aX _)
  ·exact fin _ _ _ (fun h=>by cases h) h3
theorem E9 (l:List Int)(hb:l.length≤1000000):ag Tryz.prog 51 [.lst (.int .i64) l] [] (.lst (.int .i64) l) []:=by
 cases l with
 |nil=>exact Ih _
 |cons x l=>
  refine ab aj Tryz.func51 rfl rfl true 0 4 rfl rfl rfl rfl fun K hK hb1 hb2=>?_;simp only[ae,enc,Nat.reduceAdd]
  (repeat' first|refine st ?_|refine sa fun xe hxe=>?_|refine sb (fun hq=>?_) fun hq=>?_|exact aa)
  refine gd (mV (aX _) hb (by decide)) ?_
  (repeat' first|refine st ?_|refine sa fun xe hxe=>?_|refine sb (fun hq=>?_) fun hq=>?_|exact aa)
  refine dq ?_
  (conv=>whnf)
  exact⟨rfl,rfl⟩
theorem E8 (l:List Int)(hl:l≠[])(hb:l.length≤1000000):ag Tryz.prog 55 [.lst (.int .i64) l] [] (.lst (.int .i64) l) []:=by
 cases l with
 |nil=>exact absurd rfl hl
 |cons x l=>
  refine ab aj Tryz.func55 rfl rfl true 0 4 rfl rfl rfl rfl fun K hK hb1 hb2=>?_;simp only[ae,enc,Nat.reduceAdd]
  (repeat' first|refine st ?_|refine sa fun xe hxe=>?_|refine sb (fun hq=>?_) fun hq=>?_|exact aa)
  refine gd (mV (aX _) hb (by decide)) ?_
  (repeat' first|refine st ?_|refine sa fun xe hxe=>?_|refine sb (fun hq=>?_) fun hq=>?_|exact aa)
  refine dq ?_
  (conv=>whnf)
  exact⟨rfl,rfl⟩
end Go.Proofs.YtpefhoohfkeflabGreatDoor.Am
namespace Go.Proofs.YtpefhoohfkeflabGreatDoor.Am
open Go
attribute [local irreducible] Mk ci Ari fF mI jx ca cR iW fv At ag
set_option maxRecDepth 10000
def Hn (w:Wrl):V:=if gq w then .tup [.ptr 4 0,.bool (xW w.bad (w.views.map aT) w.props)] else .tup [.nilp,.bool false]
def Hm (w:Wrl):VH:=if gq w then rB w.com w.lead w.bad (w.views.map aT) w.props else[]
def IP (w:Wrl):Nat→VSt
 |0=>⟨[(1,.ptr 4 0),(4,.ptr 5 0),(42,.lst (.lst .vtx) w.views),(43,.int .i64 w.views.length),(44,.int .i64 0)],[(0,.fvari 143 217 (.ob .vtx) []),(4,.var 36 (bd w).cells),(5,.var 97 [.int .i32 0,.int .u32 0,.lst (.int .i64) w.com,.lst (.int .i64) w.lead,.int .i64 w.bad,.nils,.nils])],6⟩
 |i+1=>⟨[(1,.ptr 4 0),(4,.ptr 5 0),(42,.lst (.lst .vtx) w.views),(43,.int .i64 w.views.length),(44,.int .i64 ((i+1:Nat):Int))],[(0,.fvari 143 217 (.ob .vtx) ((w.views.take (i+1)).map aT)),(4,.var 36 (bd w).cells),(5,.var 97 [.int .i32 0,.int .u32 0,.lst (.int .i64) w.com,.lst (.int .i64) w.lead,.int .i64 w.bad,.ref 6,.nils]),(6,.row 98 (.hp 0) ((List.range (i+1)).map some))],7⟩
set_option maxHeartbeats 1000000 in
theorem BF (w:Wrl)(hl:∀g∈w.views,g.length≤2000000):ag Tryz.prog 25 [bd w] [] (Hn w) (Hm w):=by
 have hno:gq w=false→V.tup [.nilp,.bool false]=Hn w∧([]:VH)=Hm w:=fun h=>by simp[Hn,Hm,h]
 refine ab bS Tryz.func25 rfl rfl false 0 4 rfl rfl rfl rfl fun K hK hb1 hb2=>?_;simp only[ae,enc,Nat.reduceAdd]
 clear hb1 hb2
 have hL:=rr w.com w.lead
 cases h1:comV w.com && leaS w.com w.lead
 ·rw[h1] at hL
  (repeat' first|refine cg ?_|refine sa fun xe hxe=>?_|refine sb (fun hq=>?_) fun hq=>?_|refine cr (hL) ?_|exact aa)
  exact hno (by
   rw[nD] at h1
   rcases h1 with h1|h1<;>simp[gq,iK,h1])
 rw[h1] at hL
 have hc:comV w.com=true:=(Bool.and_eq_true_iff.1 h1).1
 have hle:leaS w.com w.lead=true:=(Bool.and_eq_true_iff.1 h1).2
 have hB:=Iu w.com w.bad hc
 cases h2:badS w.com w.bad
 ·rw[h2] at hB
  (repeat' first|refine cg ?_|refine sa fun xe hxe=>?_|refine sb (fun hq=>?_) fun hq=>?_|refine cr (hL) ?_|refine cr (hB) ?_|exact aa)
  exact hno (by simp[gq,iK,h2])
 rw[h2] at hB
 have hP:=It w hc
 cases h3:gM w.com w.bad w.props
 ·rw[h3] at hP
  (repeat' first|refine cg ?_|refine sa fun xe hxe=>?_|refine sb (fun hq=>?_) fun hq=>?_|refine cr (hL) ?_|refine cr (hB) ?_|refine cr (hP) ?_|exact aa)
  exact hno (by simp[gq,iK,h3])
 rw[h3] at hP
 have hV:=Ix w hc h3 hl
 cases h4:(w.views.length==w.com.length) && gk w.com w.bad w.props w.views
 ·rw[h4] at hV
  (repeat' first|refine cg ?_|refine sa fun xe hxe=>?_|refine sb (fun hq=>?_) fun hq=>?_|refine cr (hL) ?_|refine cr (hB) ?_|refine cr (hP) ?_|refine cr (hV) ?_|exact aa)
  exact hno (by simp only[gq,h4];simp)
 rw[h4] at hV
 have hpre:gq w=true:=by simp[gq,iK,hc,hle,h2,h3];simpa using h4
 have hR:Hn w= .tup [.ptr 4 0,.bool (xW w.bad (w.views.map aT) w.props)]:=by simp[Hn,hpre]
 have hO:Hm w=rB w.com w.lead w.bad (w.views.map aT) w.props:=by simp[Hm,hpre]
 rw[hR,hO]
 have h7:=(ay.1 hc).2
 have hll:=(bR.1 hle).2
 have hvl:w.views.length=w.com.length:=(nR hpre).2.2.2.2.1
 have hne:w.com≠[]:=fun h=>by rw[h] at h7;simp at h7
 have hCm:=E9 w.com (by omega)
 have hCl:=E9 w.lead (by omega)
 (repeat' first|refine cg ?_|refine sa fun xe hxe=>?_|refine sb (fun hq=>?_) fun hq=>?_|refine cr (hL) ?_|refine cr (hB) ?_|refine cr (hP) ?_|refine cr (hV) ?_|refine cr (hCm) ?_|refine cr (hCl) ?_|exact aa)
 refine u6 0 (.fvari 143 217 (.ob .vtx) []) rfl ?_
 refine ah hK [] [1,4,42,43,44] (IP w) (fun i=>i≤w.views.length) (fun i=>w.views.length-i) 0 (by simp) (by(conv=>whnf);rfl) ?_
 intro i hi
 have hps:=rF hpre
 have hpl:=m8 h3
 have ht7:∀t∈w.views.map aT,t.length=217:=fun t h=>by
  obtain⟨g,_,rfl⟩:=aB.1 h
  exact d6 g
 have hml:(w.views.map aT).length=w.views.length:=aA ..
 by_cases hlt:i<w.views.length
 ·have hgm:w.views[i]∈w.views:=be hlt
  have hxe:w.views[i]?=some w.views[i]:=am hlt
  have hsn:w.views.take (i+1)=w.views.take i++[w.views[i]]:=b9 hlt
  have hg:=oS hpre _ hgm
  generalize w.views[i]=g at *
  cases i with
  |zero=>
   have hx0:w.views[(0:Int).toNat]?=some g:=hxe
   have hst:IP w (0+1)=⟨[(1,.ptr 4 0),(4,.ptr 5 0),(42,.lst (.lst .vtx) w.views),(43,.int .i64 w.views.length),(44,.int .i64 ((0+1:Nat):Int))],[(0,.fvari 143 217 (.ob .vtx) [aT g]),(4,.var 36 (bd w).cells),(5,.var 97 [.int .i32 0,.int .u32 0,.lst (.int .i64) w.com,.lst (.int .i64) w.lead,.int .i64 w.bad,.ref 6,.nils]),(6,.row 98 (.hp 0) [some 0])],7⟩:=by
    rw[IP,hsn]
    rfl
   have hs0:IP w 0=⟨[(1,.ptr 4 0),(4,.ptr 5 0),(42,.lst (.lst .vtx) w.views),(43,.int .i64 w.views.length),(44,.int .i64 0)],[(0,.fvari 143 217 (.ob .vtx) []),(4,.var 36 (bd w).cells),(5,.var 97 [.int .i32 0,.int .u32 0,.lst (.int .i64) w.com,.lst (.int .i64) w.lead,.int .i64 w.bad,.nils,.nils])],6⟩:=rfl
   rw[hs0]
   (repeat' first|refine cg ?_|refine sa fun xe hxe=>?_|refine sb (fun hq=>?_) fun hq=>?_|refine cr (Kl g hg) ?_|exact aa)
   refine⟨0+1,by omega,by omega,?_⟩
   rw[hst]
   rfl
  |succ i=>
   have hfl:((w.views.take (i+1)).map aT).length=i+1:=by rw[aA,bP];omega
   have hrl:((List.range (i+1)).map some).length=i+1:=by simp
   have hst:IP w (i+1+1)=⟨[(1,.ptr 4 0),(4,.ptr 5 0),(42,.lst (.lst .vtx) w.views),(43,.int .i64 w.views.length),(44,.int .i64 ((i+1+1:Nat):Int))],[(0,.fvari 143 217 (.ob .vtx) ((w.views.take (i+1)).map aT++[aT g])),(4,.var 36 (bd w).cells),(5,.var 97 [.int .i32 0,.int .u32 0,.lst (.int .i64) w.com,.lst (.int .i64) w.lead,.int .i64 w.bad,.ref 6,.nils]),(6,.row 98 (.hp 0) ((List.range (i+1)).map some++[some (i+1)]))],7⟩:=by
    rw[IP,hsn,cf,mA,cf]
    rfl
   have hs0:IP w (i+1)=⟨[(1,.ptr 4 0),(4,.ptr 5 0),(42,.lst (.lst .vtx) w.views),(43,.int .i64 w.views.length),(44,.int .i64 ((i+1:Nat):Int))],[(0,.fvari 143 217 (.ob .vtx) ((w.views.take (i+1)).map aT)),(4,.var 36 (bd w).cells),(5,.var 97 [.int .i32 0,.int .u32 0,.lst (.int .i64) w.com,.lst (.int .i64) w.lead,.int .i64 w.bad,.ref 6,.nils]),(6,.row 98 (.hp 0) ((List.range (i+1)).map some))],7⟩:=rfl
   rw[hs0]
   clear hs0
   generalize (w.views.take (i+1)).map aT=ts at *
   generalize (List.range (i+1)).map some=rs at *
   (repeat' first|refine cg ?_|refine sa fun xe hxe=>?_|refine sb (fun hq=>?_) fun hq=>?_|refine cr (Kl g hg) ?_|exact aa)
   refine⟨i+1+1,by omega,by omega,?_⟩
   rw[hst,hfl]
   rfl
 ·have hi':i=w.views.length:=by omega
  have hK:=Nv w.com w.lead w.bad (w.views.map aT) w.props ht7 (by omega) (by omega) (by rw[hml];exact hps)
  have hCp:=K8 w.props (fun p hp=>⟨by have:=(hps p hp).2.2.2.2;omega,by have:=(hps p hp).2.2.2.1;omega⟩) (by omega)
  cases i with
  |zero=>omega
  |succ i=>
   have hs0:IP w (i+1)=⟨[(1,.ptr 4 0),(4,.ptr 5 0),(42,.lst (.lst .vtx) w.views),(43,.int .i64 w.views.length),(44,.int .i64 ((i+1:Nat):Int))],[(0,.fvari 143 217 (.ob .vtx) (w.views.map aT)),(4,.var 36 (bd w).cells),(5,.var 97 [.int .i32 0,.int .u32 0,.lst (.int .i64) w.com,.lst (.int .i64) w.lead,.int .i64 w.bad,.ref 6,.nils]),(6,.row 98 (.hp 0) ((List.range (w.views.map aT).length).map some))],7⟩:=by
    rw[IP,bp (by omega),hml,←hi']
   rw[hs0]
   clear hs0
   generalize hts:w.views.map aT=ts at *
   (repeat' first|refine cg ?_|refine sa fun xe hxe=>?_|refine sb (fun hq=>?_) fun hq=>?_|refine cr (hCp) ?_|refine co (hK) ?_|exact aa)
   exact⟨rfl,rfl⟩
theorem tx {α:Type}(c:List α)(a:List α)(x:α){i:Nat}(hc:c.length=i)(hi:i<a.length):(c++a.drop i).set i x=(c++[x])++a.drop (i+1):=by
 rw[List.set_append_right _ _ (by omega),hc,kg,nF hi]
 simp only[List.set_cons_zero,bH,List.singleton_append]
theorem tb {α:Type}(c:List α)(a:List α){i:Nat}(hc:c.length=i)(hi:i<a.length):i<(c++a.drop i).length:=by simp;omega
theorem Hb {tab:List (Option Vtx)}{n:Nat}{o:Option Vtx}(h:tab[n]?=some o):fQ (tab.take (n+1))=fQ (tab.take n)++o.toList:=by
 obtain⟨hl,rfl⟩:=aR.1 h
 rw[b9 hl]
 simp only[fQ,List.filterMap_append]
 cases tab[n]<;>rfl
theorem JH (tab:List (Option Vtx)):(fQ tab).length≤tab.length:=List.length_filterMap_le ..
set_option maxHeartbeats 1000000 in
theorem Lw (tabs:List (List (Option Vtx)))(k:Nat)(tab:List (Option Vtx))(hk:tabs[k]?=some tab)(ht:tab.length=217)(hv:∀v,some v∈tab→v.parents.length≤1000000):ag Tryz.prog 56 [.fptr 0 k 0] [(0,.fvari 143 217 (.ob .vtx) tabs)] (.lst .vtx (fQ tab)) [(0,.fvari 143 217 (.ob .vtx) tabs)]:=by
 refine ab aj Tryz.func56 rfl rfl true 0 4 rfl rfl rfl rfl fun K hK hb1 hb2=>?_;simp only[ae,enc,Nat.reduceAdd]
 clear hb1 hb2
 have hat:∀n,n<217→tab[n]?=some (tab.getD n none):=fun n hn=>by rw[ar,am (by omega)];rfl
 (repeat' first|refine st ?_|refine sa fun xe hxe=>?_|refine sb (fun hq=>?_) fun hq=>?_|exact aa)
 refine ah hK [] [3,9,11] (fun r:Nat=>⟨[(3,.ref 4),(9,.fptr 0 k 0),(11,.int .i64 (r:Int))],[(0,.fvari 143 217 (.ob .vtx) tabs),(4,.row 73 .vtx (fQ (tab.take (r*7))))],5⟩) (fun r=>r≤31) (fun r=>31-r) 0 (by omega) rfl ?_
 intro r hr
 by_cases hlt:r<31
 ·obtain⟨e,he⟩:∃e:Nat→Option Vtx,∀j,e j=tab.getD (r*7+j) none:=⟨_,fun _=>rfl⟩
  have hg:∀j,j<7→tab[r*7+j]?=some (e j):=fun j hj=>by rw[he];exact hat _ (by omega)
  (repeat' first|refine st ?_|refine sa fun xe hxe=>?_|refine sb (fun hq=>?_) fun hq=>?_|exact aa)
  rename_i e0 h0 e1 h1 e2 h2 e3 h3 e4 h4 e5 h5
  obtain rfl:e0=e 0:=aq (h0.symm.trans (hg 0 (by omega)))
  obtain rfl:e1=e 1:=aq (h1.symm.trans (hg 1 (by omega)))
  obtain rfl:e2=e 2:=aq (h2.symm.trans (hg 2 (by omega)))
  obtain rfl:e3=e 3:=aq (h3.symm.trans (hg 3 (by omega)))
  obtain rfl:e4=e 4:=aq (h4.symm.trans (hg 4 (by omega)))
  obtain rfl:e5=e 5:=aq (h5.symm.trans (hg 5 (by omega)))
  obtain rfl:xe=e 6:=aq (hxe.symm.trans (hg 6 (by omega)))
  clear h0 h1 h2 h3 h4 h5 hxe
  refine ah hK [] [3,9,11,16,17] (fun j:Nat=>⟨[(3,.ref 4),(9,.fptr 0 k 0),(11,.int .i64 (r:Int)),(16,.agg [.obo .vtx (e 0),.obo .vtx (e 1),.obo .vtx (e 2),.obo .vtx (e 3),.obo .vtx (e 4),.obo .vtx (e 5),.obo .vtx (e 6)]),(17,.int .i64 (j:Int))],[(0,.fvari 143 217 (.ob .vtx) tabs),(4,.row 73 .vtx (fQ (tab.take (r*7+j))))],5⟩) (fun j=>j≤7) (fun j=>7-j) 0 (by omega) rfl ?_
  intro j hj
  by_cases hjl:j<7
  ·have hs:=Hb (hg j hjl)
   have hvj:∀v,e j=some v→v.parents.length≤1000000:=fun v h=>hv v (br (by rw[hg j hjl,h]))
   have hll:=JH (tab.take (r*7+j))
   rw[bP] at hll
   obtain⟨j1,hj1⟩:∃j1,j1=j+1:=⟨_,rfl⟩
   have hji:((j1:Nat):Int)=(j:Int)+1:=by omega
   rw[lC,←hj1] at hs
   obtain⟨o,ho⟩:∃o,o=e j:=⟨_,rfl⟩
   rw[←ho] at hs hvj
   generalize fQ (tab.take (r*7+j))=l at *
   obtain rfl|rfl|rfl|rfl|rfl|rfl|rfl:j=0∨j=1∨j=2∨j=3∨j=4∨j=5∨j=6:=by omega
   all_goals
    rw[←ho]
    cases o with
    |none=>
     (repeat' first|refine st ?_|refine sa fun xe hxe=>?_|refine sb (fun hq=>?_) fun hq=>?_|exact aa)
     refine⟨j1,by omega,by omega,?_⟩
     rw[hs,hji,Option.toList_none,gy]
     try rfl
    |some v=>
     have hvv:=hvj v rfl
     (repeat' first|refine st ?_|refine sa fun xe hxe=>?_|refine sb (fun hq=>?_) fun hq=>?_|refine cr (oC _ hvv) ?_|exact aa)
     refine⟨j1,by omega,by omega,?_⟩
     rw[hs,hji]
     rfl
  ·obtain rfl:j=7:=by omega
   (repeat' first|refine st ?_|refine sa fun xe hxe=>?_|refine sb (fun hq=>?_) fun hq=>?_|exact aa)
   exact⟨r+1,by omega,by omega,by rw[show (r+1)*7=r*7+7 by omega];rfl⟩
 ·obtain rfl:r=31:=by omega
  (repeat' first|refine st ?_|refine sa fun xe hxe=>?_|refine sb (fun hq=>?_) fun hq=>?_|exact aa)
  rw[bp (by omega)]
  exact⟨rfl,rfl⟩
theorem Fs (tabs:List (List (Option Vtx)))(k:Nat)(tab:List (Option Vtx))(hk:tabs[k]?=some tab)(ht:tab.length=217)(hv:∀v,some v∈tab→v.parents.length≤1000000):ag Tryz.prog 56 [.hpo 0 (some k)] [(0,.fvari 143 217 (.ob .vtx) tabs)] (.lst .vtx (fQ tab)) [(0,.fvari 143 217 (.ob .vtx) tabs)]:=by
 have h:=Lw tabs k tab hk ht hv
 unfold ag at h⊢
 exact h
theorem K7 (ps:List Ppl)(hv:∀p∈ps,p.v.parents.length≤1000000∧p.members.length≤1000000)(hl:ps.length≤1000000):ag Tryz.prog 53 [.ref 4] [(1,.frow 3 (.int .i64) (ps.map (·.members))),(4,.row 123 (.pplm 1) (ua ps))] (.lst .ppl ps) [(1,.frow 3 (.int .i64) (ps.map (·.members))),(4,.row 123 (.pplm 1) (ua ps))]:=by
 refine ab aj Tryz.func53 rfl rfl true 1 5 rfl rfl rfl rfl fun K hK hb1 hb2=>?_;simp only[ae,enc,Nat.reduceAdd]
 clear hb1 hb2
 have hpl:=m7 ps
 (repeat' first|refine st ?_|refine sa fun xe hxe=>?_|refine sb (fun hq=>?_) fun hq=>?_|exact aa)
 refine ah hK [] [3,9,10,11] (fun i:Nat=>⟨[(3,.ref 5),(9,.ref 4),(10,.int .i64 ps.length),(11,.int .i64 (i:Int))],[(1,.frow 3 (.int .i64) (ps.map (·.members))),(4,.row 123 (.pplm 1) (ua ps)),(5,.row 123 .ppl (ps.take i++(List.replicate ps.length p0).drop i))],6⟩) (fun i=>i≤ps.length) (fun i=>ps.length-i) 0 (by simp) (by simp only[hpl];simp;rfl) ?_
 intro i hi
 by_cases hlt:i<ps.length
 ·have hxe:ps[i]?=some ps[i]:=am hlt
  have hg:i<(ps.take i++(List.replicate ps.length p0).drop i).length:=tb _ _ (by simp;omega) (by simpa using hlt)
  have hs:(ps.take i++(List.replicate ps.length p0).drop i).set i ps[i]=ps.take (i+1)++(List.replicate ps.length p0).drop (i+1):=by
   rw[tx _ _ _ (by simp;omega) (by simpa using hlt),b9 hlt]
  obtain⟨v1,v2⟩:=hv _ (be hlt)
  have hx1:=v8 hxe
  have hx2:(ps.map (·.members))[i]?=some ps[i].members:=by rw[bf,hxe];rfl
  generalize hrow:ps.take i++(List.replicate ps.length p0).drop i=row at *
  generalize ps[i]=p at *
  (repeat' first|refine st ?_|refine sa fun xe hxe=>?_|refine sb (fun hq=>?_) fun hq=>?_|refine cr (oC _ v1) ?_|exact aa)
  refine⟨i+1,by omega,by omega,?_⟩
  rw[←hs]
  rfl
 ·obtain rfl:i=ps.length:=by omega
  (repeat' first|refine st ?_|refine sa fun xe hxe=>?_|refine sb (fun hq=>?_) fun hq=>?_|exact aa)
  simp
theorem Ny (w:Wrl)(hl:∀g∈w.views,g.length≤2000000):ag Tryz.prog 68 [bd w] [] (.bool (kT w)) []:=by
 have h:=BF w hl
 have he:=nu w
 refine ab aj Tryz.func68 rfl rfl false 0 4 rfl rfl rfl rfl fun K hK hb1 hb2=>?_;simp only[ae,enc,Nat.reduceAdd]
 clear hb1 hb2
 cases hp:gq w
 ·simp only[Hn,Hm,hp,eY,if_false] at h
  (repeat' first|refine st ?_|refine sa fun xe hxe=>?_|refine sb (fun hq=>?_) fun hq=>?_|refine cr (h) ?_|exact aa)
  exact⟨by rw[he,hp,iD],rfl⟩
 ·simp only[Hn,Hm,hp,if_true] at h
  have hk:=F8 hp
  rw[hk] at h
  (repeat' first|refine st ?_|refine sa fun xe hxe=>?_|refine sb (fun hq=>?_) fun hq=>?_|refine cr (h) ?_|exact aa)
  exact⟨by rw[he,hp,d9],rfl⟩
def wC (c l:List Int)(b:Int)(tabs:List (List (Option Vtx)))(ps:List Ppl):Nat→VSt
 |0=>⟨[(2,.ptr 7 0),(3,.ptr 8 0),(30,.ref 5),(31,.int .i64 tabs.length),(32,.int .i64 0)],rB c l b tabs ps++[(7,VB.var 36 [.nils,.nils,.int .i64 0,.nils,.nils]),(8,VB.var 36 [.lst (.int .i64) c,.ref 9,.int .i64 b,.nils,.lst .ppl ps]),(9,VB.row 3 (.int .i64) l)],10⟩
 |i+1=>⟨[(2,.ptr 7 0),(3,.ptr 8 0),(30,.ref 5),(31,.int .i64 tabs.length),(32,.int .i64 ((i+1:Nat):Int))],rB c l b tabs ps++[(7,VB.var 36 [.nils,.nils,.int .i64 0,.nils,.nils]),(8,VB.var 36 [.lst (.int .i64) c,.ref 9,.int .i64 b,.ref 10,.lst .ppl ps]),(9,VB.row 3 (.int .i64) l),(10,VB.row 82 (.lst .vtx) ((tabs.take (i+1)).map fQ))],11⟩
set_option maxHeartbeats 1000000 in
theorem Lx (c l:List Int)(b:Int)(tabs:List (List (Option Vtx)))(ps:List Ppl)(hc:c≠[])(hcl:c.length≤1000000)(hll:l.length≤1000000)(ht:∀t∈tabs,t.length=217∧∀v,some v∈t→v.parents.length≤1000000)(htl:tabs.length≤7)(htl1:1≤tabs.length)
  (hv:∀p∈ps,p.v.parents.length≤1000000∧p.members.length≤1000000) (hpn:ps.length≤1000000):ag Tryz.prog 26 [.ptr 4 0] (rB c l b tabs ps) (bd ⟨c,l,b,tabs.map fQ,ps⟩) (rB c l b tabs ps):=by
 have hC:=E8 c hc hcl
 have hP:=K7 ps hv hpn
 have hrl:((List.range tabs.length).map some).length=tabs.length:=by simp
 refine ab aj Tryz.func26 rfl rfl true 3 7 rfl rfl rfl rfl fun K hK hb1 hb2=>?_;simp only[ae,enc,Nat.reduceAdd]
 clear hb1 hb2
 (repeat' first|refine st ?_|refine sa fun xe hxe=>?_|refine sb (fun hq=>?_) fun hq=>?_|refine cr (hC) ?_|refine co (hP) ?_|exact aa)
 refine ah hK [] [2,3,30,31,32] (wC c l b tabs ps) (fun i=>i≤tabs.length) (fun i=>tabs.length-i) 0 (by simp) (by simp only[hrl];(conv=>whnf);rfl) ?_
 intro i hi
 by_cases hlt:i<tabs.length
 ·have hxe:tabs[i]?=some tabs[i]:=am hlt
  have hsn:tabs.take (i+1)=tabs.take i++[tabs[i]]:=b9 hlt
  obtain⟨t1,t2⟩:=ht _ (be hlt)
  have hxv:((List.range tabs.length).map some)[i]?=some (some i):=by rw[bf,qo hlt];rfl
  have hV:=Fs tabs i _ hxe t1 t2
  generalize tabs[i]=tab at *
  cases i with
  |zero=>
   have hst:wC c l b tabs ps (0+1)=⟨[(2,.ptr 7 0),(3,.ptr 8 0),(30,.ref 5),(31,.int .i64 tabs.length),(32,.int .i64 ((0+1:Nat):Int))],rB c l b tabs ps++[(7,VB.var 36 [.nils,.nils,.int .i64 0,.nils,.nils]),(8,VB.var 36 [.lst (.int .i64) c,.ref 9,.int .i64 b,.ref 10,.lst .ppl ps]),(9,VB.row 3 (.int .i64) l),(10,VB.row 82 (.lst .vtx) [fQ tab])],11⟩:=by
    rw[wC,hsn]
    rfl
   have hs0:wC c l b tabs ps 0=⟨[(2,.ptr 7 0),(3,.ptr 8 0),(30,.ref 5),(31,.int .i64 tabs.length),(32,.int .i64 0)],rB c l b tabs ps++[(7,VB.var 36 [.nils,.nils,.int .i64 0,.nils,.nils]),(8,VB.var 36 [.lst (.int .i64) c,.ref 9,.int .i64 b,.nils,.lst .ppl ps]),(9,VB.row 3 (.int .i64) l)],10⟩:=rfl
   have hx0:((List.range tabs.length).map some)[(0:Int).toNat]?=some (some 0):=hxv
   rw[hs0]
   (repeat' first|refine st ?_|refine sa fun xe hxe=>?_|refine sb (fun hq=>?_) fun hq=>?_|refine co (hV) ?_|exact aa)
   refine⟨0+1,by omega,by omega,?_⟩
   rw[hst]
   rfl
  |succ i=>
   have hfl:((tabs.take (i+1)).map fQ).length=i+1:=by rw[aA,bP];omega
   have hst:wC c l b tabs ps (i+1+1)=⟨[(2,.ptr 7 0),(3,.ptr 8 0),(30,.ref 5),(31,.int .i64 tabs.length),(32,.int .i64 ((i+1+1:Nat):Int))],rB c l b tabs ps++[(7,VB.var 36 [.nils,.nils,.int .i64 0,.nils,.nils]),(8,VB.var 36 [.lst (.int .i64) c,.ref 9,.int .i64 b,.ref 10,.lst .ppl ps]),(9,VB.row 3 (.int .i64) l),(10,VB.row 82 (.lst .vtx) ((tabs.take (i+1)).map fQ++[fQ tab]))],11⟩:=by
    rw[wC,hsn,cf]
    rfl
   have hs0:wC c l b tabs ps (i+1)=⟨[(2,.ptr 7 0),(3,.ptr 8 0),(30,.ref 5),(31,.int .i64 tabs.length),(32,.int .i64 ((i+1:Nat):Int))],rB c l b tabs ps++[(7,VB.var 36 [.nils,.nils,.int .i64 0,.nils,.nils]),(8,VB.var 36 [.lst (.int .i64) c,.ref 9,.int .i64 b,.ref 10,.lst .ppl ps]),(9,VB.row 3 (.int .i64) l),(10,VB.row 82 (.lst .vtx) ((tabs.take (i+1)).map fQ))],11⟩:=rfl
   rw[hs0]
   clear hs0
   generalize (tabs.take (i+1)).map fQ=ts at *
   (repeat' first|refine st ?_|refine sa fun xe hxe=>?_|refine sb (fun hq=>?_) fun hq=>?_|refine co (hV) ?_|exact aa)
   refine⟨i+1+1,by omega,by omega,?_⟩
   rw[hst]
   rfl
 ·cases i with
  |zero=>omega
  |succ i=>
   have hs0:wC c l b tabs ps (i+1)=⟨[(2,.ptr 7 0),(3,.ptr 8 0),(30,.ref 5),(31,.int .i64 tabs.length),(32,.int .i64 ((i+1:Nat):Int))],rB c l b tabs ps++[(7,VB.var 36 [.nils,.nils,.int .i64 0,.nils,.nils]),(8,VB.var 36 [.lst (.int .i64) c,.ref 9,.int .i64 b,.ref 10,.lst .ppl ps]),(9,VB.row 3 (.int .i64) l),(10,VB.row 82 (.lst .vtx) (tabs.map fQ))],11⟩:=by
    rw[wC,bp (by omega)]
   rw[hs0]
   clear hs0
   (repeat' first|refine st ?_|refine sa fun xe hxe=>?_|refine sb (fun hq=>?_) fun hq=>?_|exact aa)
   exact⟨rfl,rfl⟩

end Go.Proofs.YtpefhoohfkeflabGreatDoor.Am
