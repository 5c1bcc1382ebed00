/- The laws' own comparisons, and the total. The exact laws' own functions: sizes, copies, comparisons, marks. The exact laws' own functions, on slices of transactions and of bools. The law FnExactLanesRun. (PhC: named) What is drawn: the reader of bytes. What the lanes' laws draw. The laws of lanes: FnLanesSame. (PhC: named) -/
import Derived.Test.YtbmnihglaokhmaaLN9
set_option linter.unusedSimpArgs false
set_option linter.unusedVariables false
set_option maxHeartbeats 1000000
namespace Go.Proofs.Ytbmnihglaokhmaa.Am
open Go
set_option linter.unusedSectionVars false
variable [PhC Try.prog]
attribute [local irreducible] Mk ct Ari fF nD j7 cO dR jv gP At bt
set_option maxRecDepth 10000
theorem lY {α:Type}{a b:List α}{i:Nat}{x:α}(h:a.take i=b.take i)(ha:a[i]?=some x)(hb:b[i]?=some x):a.take (i+1)=b.take (i+1):=by
 rw[List.take_add_one,List.take_add_one,h,ha,hb]
theorem G7 (a b:List Int):bt Try.prog 43 [.lst (.int .i64) a,.lst (.int .i64) b] [] (.bool (decide (a=b))) []:=by
 refine bg bf Try.func43 rfl rfl false 0 4 rfl rfl rfl rfl fun K hK hb1 hb2=>?_;simp only[bD,enc,Nat.reduceAdd]
 simp[aB,V.toD,bnd,aj,D.cells] at hb1
 by_cases hl:a.length=b.length
 ·(repeat' first|refine st ?_|refine sa fun xe hxe=>?_|refine sb (fun hq=>?_) fun hq=>?_|exact aC)
  refine bw hK [] [0,1,4,5] (fun i:Nat=>⟨[(0,.lst (.int .i64) a),(1,.lst (.int .i64) b),(4,.bool false),(5,.int .i64 i)],[],4⟩) (fun i=>i≤a.length∧a.take i=b.take i) (fun i=>a.length-i) 0 ⟨by simp,by simp⟩ rfl ?_
  rintro i ⟨hi,hall⟩
  by_cases hlt:i<a.length
  ·obtain⟨x,hx⟩:∃x,a[i]?=some x:=⟨_,a6 hlt⟩
   obtain⟨y,hy⟩:∃y,b[i]?=some y:=⟨_,a6 (by omega)⟩
   (repeat' first|refine st ?_|refine sa fun xe hxe=>?_|refine sb (fun hq=>?_) fun hq=>?_|exact aC)
   ·have hne:¬x=y:=hq
    exact⟨by rw[decide_eq_false];rintro rfl;rw[hx] at hy;exact hne (bm hy),rfl⟩
   ·subst hq
    exact⟨i+1,⟨by omega,lY hall hx hy⟩,by omega,rfl⟩
  ·(repeat' first|refine st ?_|refine sa fun xe hxe=>?_|refine sb (fun hq=>?_) fun hq=>?_|exact aC)
   have hab:a=b:=by rwa [ii (by omega),ii (by omega)] at hall
   exact⟨by rw[decide_eq_true hab],rfl⟩
 ·(repeat' first|refine st ?_|refine sa fun xe hxe=>?_|refine sb (fun hq=>?_) fun hq=>?_|exact aC)
  exact⟨by rw[decide_eq_false];rintro rfl;exact hl rfl,rfl⟩
theorem Ha (a b:List Bool):bt Try.prog 11 [.lst .bool a,.lst .bool b] [] (.bool (decide (a=b))) []:=by
 refine bg bf Try.func11 rfl rfl false 0 4 rfl rfl rfl rfl fun K hK hb1 hb2=>?_;simp only[bD,enc,Nat.reduceAdd]
 simp[aB,V.toD,bnd,aj,D.cells] at hb1
 by_cases hl:a.length=b.length
 ·(repeat' first|refine st ?_|refine sa fun xe hxe=>?_|refine sb (fun hq=>?_) fun hq=>?_|exact aC)
  refine bw hK [] [0,1,4,5] (fun i:Nat=>⟨[(0,.lst .bool a),(1,.lst .bool b),(4,.bool false),(5,.int .i64 i)],[],4⟩) (fun i=>i≤a.length∧a.take i=b.take i) (fun i=>a.length-i) 0 ⟨by simp,by simp⟩ rfl ?_
  rintro i ⟨hi,hall⟩
  by_cases hlt:i<a.length
  ·obtain⟨x,hx⟩:∃x,a[i]?=some x:=⟨_,a6 hlt⟩
   obtain⟨y,hy⟩:∃y,b[i]?=some y:=⟨_,a6 (by omega)⟩
   (repeat' first|refine st ?_|refine sa fun xe hxe=>?_|refine sb (fun hq=>?_) fun hq=>?_|exact aC)
   ·have hne:¬x=y:=hq
    exact⟨by rw[decide_eq_false];rintro rfl;rw[hx] at hy;exact hne (bm hy),rfl⟩
   ·subst hq
    exact⟨i+1,⟨by omega,lY hall hx hy⟩,by omega,rfl⟩
  ·(repeat' first|refine st ?_|refine sa fun xe hxe=>?_|refine sb (fun hq=>?_) fun hq=>?_|exact aC)
   have hab:a=b:=by rwa [ii (by omega),ii (by omega)] at hall
   exact⟨by rw[decide_eq_true hab],rfl⟩
 ·(repeat' first|refine st ?_|refine sa fun xe hxe=>?_|refine sb (fun hq=>?_) fun hq=>?_|exact aC)
  exact⟨by rw[decide_eq_false];rintro rfl;exact hl rfl,rfl⟩
theorem As (a b:List Int):bt Try.prog 48 [.lst (.int .i64) a,.lst (.int .i64) b] [] (.bool (decide (a=b))) []:=by
 refine bg bf Try.func48 rfl rfl false 0 4 rfl rfl rfl rfl fun K hK hb1 hb2=>?_;simp only[bD,enc,Nat.reduceAdd]
 simp[aB,V.toD,bnd,aj,D.cells] at hb1
 by_cases hl:a.length=b.length
 ·(repeat' first|refine st ?_|refine sa fun xe hxe=>?_|refine sb (fun hq=>?_) fun hq=>?_|exact aC)
  refine bw hK [] [0,1,4,5] (fun i:Nat=>⟨[(0,.lst (.int .i64) a),(1,.lst (.int .i64) b),(4,.bool false),(5,.int .i64 i)],[],4⟩) (fun i=>i≤a.length∧a.take i=b.take i) (fun i=>a.length-i) 0 ⟨by simp,by simp⟩ rfl ?_
  rintro i ⟨hi,hall⟩
  by_cases hlt:i<a.length
  ·obtain⟨x,hx⟩:∃x,a[i]?=some x:=⟨_,a6 hlt⟩
   obtain⟨y,hy⟩:∃y,b[i]?=some y:=⟨_,a6 (by omega)⟩
   (repeat' first|refine st ?_|refine sa fun xe hxe=>?_|refine sb (fun hq=>?_) fun hq=>?_|exact aC)
   ·have hne:¬x=y:=hq
    exact⟨by rw[decide_eq_false];rintro rfl;rw[hx] at hy;exact hne (bm hy),rfl⟩
   ·subst hq
    exact⟨i+1,⟨by omega,lY hall hx hy⟩,by omega,rfl⟩
  ·(repeat' first|refine st ?_|refine sa fun xe hxe=>?_|refine sb (fun hq=>?_) fun hq=>?_|exact aC)
   have hab:a=b:=by rwa [ii (by omega),ii (by omega)] at hall
   exact⟨by rw[decide_eq_true hab],rfl⟩
 ·(repeat' first|refine st ?_|refine sa fun xe hxe=>?_|refine sb (fun hq=>?_) fun hq=>?_|exact aC)
  exact⟨by rw[decide_eq_false];rintro rfl;exact hl rfl,rfl⟩
theorem yS (a b:List Bool):bt Try.prog 20 [.lst .bool a,.lst .bool b] [] (.bool (decide (a=b))) []:=by
 refine bg bf Try.func20 rfl rfl false 0 4 rfl rfl rfl rfl fun K hK hb1 hb2=>?_;simp only[bD,enc,Nat.reduceAdd]
 simp[aB,V.toD,bnd,aj,D.cells] at hb1
 by_cases hl:a.length=b.length
 ·(repeat' first|refine st ?_|refine sa fun xe hxe=>?_|refine sb (fun hq=>?_) fun hq=>?_|exact aC)
  refine bw hK [] [0,1,4,5] (fun i:Nat=>⟨[(0,.lst .bool a),(1,.lst .bool b),(4,.bool false),(5,.int .i64 i)],[],4⟩) (fun i=>i≤a.length∧a.take i=b.take i) (fun i=>a.length-i) 0 ⟨by simp,by simp⟩ rfl ?_
  rintro i ⟨hi,hall⟩
  by_cases hlt:i<a.length
  ·obtain⟨x,hx⟩:∃x,a[i]?=some x:=⟨_,a6 hlt⟩
   obtain⟨y,hy⟩:∃y,b[i]?=some y:=⟨_,a6 (by omega)⟩
   (repeat' first|refine st ?_|refine sa fun xe hxe=>?_|refine sb (fun hq=>?_) fun hq=>?_|exact aC)
   ·have hne:¬x=y:=hq
    exact⟨by rw[decide_eq_false];rintro rfl;rw[hx] at hy;exact hne (bm hy),rfl⟩
   ·subst hq
    exact⟨i+1,⟨by omega,lY hall hx hy⟩,by omega,rfl⟩
  ·(repeat' first|refine st ?_|refine sa fun xe hxe=>?_|refine sb (fun hq=>?_) fun hq=>?_|exact aC)
   have hab:a=b:=by rwa [ii (by omega),ii (by omega)] at hall
   exact⟨by rw[decide_eq_true hab],rfl⟩
 ·(repeat' first|refine st ?_|refine sa fun xe hxe=>?_|refine sb (fun hq=>?_) fun hq=>?_|exact aC)
  exact⟨by rw[decide_eq_false];rintro rfl;exact hl rfl,rfl⟩
theorem G9 (a b:List Int)(f g:Int):bt Try.prog 10 [.agg [.lst (.int .i64) a,.int .i64 f],.agg [.lst (.int .i64) b,.int .i64 g]] [] (.bool (decide (f=g) && decide (a=b))) []:=by
 refine bg bf Try.func10 rfl rfl false 0 4 rfl rfl rfl rfl fun K hK hb1 hb2=>?_;simp only[bD,enc,Nat.reduceAdd]
 clear hb1 hb2
 by_cases h:f=g
 ·(repeat' first|refine st ?_|refine sa fun xe hxe=>?_|refine sb (fun hq=>?_) fun hq=>?_|refine cr (G7 _ _) ?_|exact aC)
  exact⟨by rw[decide_eq_true h,Bool.true_and],rfl⟩
 ·(repeat' first|refine st ?_|refine sa fun xe hxe=>?_|refine sb (fun hq=>?_) fun hq=>?_|refine cr (G7 _ _) ?_|exact aC)
  exact⟨by rw[decide_eq_false h,Bool.false_and],rfl⟩
end Go.Proofs.Ytbmnihglaokhmaa.Am
namespace Go.Proofs.Ytbmnihglaokhmaa.Am
open Go
set_option linter.unusedSectionVars false
variable [PhC Try.prog]
attribute [local irreducible] Mk ct Ari fF nD j7 cO dR jv gP At bt
set_option maxRecDepth 10000
def mk (k:Int)(n:Nat):List Int:=(List.range n).map fun i:Nat=>k+i
theorem mS (k:Int)(n:Nat):(mk k n).length=n:=by simp[mk]
theorem EA (k:Int){n i:Nat}(h:i<n):(mk k n)[i]?=some (k+i):=by simp[mk,h]
theorem CW (k:Int)(n:Nat):mk k (n+1)=mk k n++[k+n]:=by simp[mk,gO]
theorem jY {α:Type}(c:List α)(a:List α)(x:α){i:Nat}(hc:c.length=i)(hi:i<a.length):(c++a.drop i).set i x=(c++[x])++a.drop (i+1):=by
 rw[List.set_append_right _ _ (by omega),hc,Nat.sub_self,nB hi]
 simp only[List.set_cons_zero,cV,List.singleton_append]
theorem uC {α:Type}(c:List α)(a:List α){i:Nat}(hc:c.length=i)(hi:i<a.length):i<(c++a.drop i).length:=by simp;omega
theorem B4 (a:List Int)(l:Int)(hl:0≤l∧l≤1048576):bt Try.prog 45 [.lst (.int .i64) a,.int .i64 l] [] (.int .i64 (if l-a.length<0 then-1 else l-a.length)) []:=by
 refine bg bf Try.func45 rfl rfl false 0 4 rfl rfl rfl rfl fun K hK hb1 hb2=>?_;simp only[bD,enc,Nat.reduceAdd]
 simp[aB,V.toD,bnd,aj,D.cells] at hb1
 by_cases h:l-a.length<0
 ·(repeat' first|refine st ?_|refine sa fun xe hxe=>?_|refine sb (fun hq=>?_) fun hq=>?_|exact aC)
  exact⟨by rw[if_pos h],rfl⟩
 ·(repeat' first|refine st ?_|refine sa fun xe hxe=>?_|refine sb (fun hq=>?_) fun hq=>?_|exact aC)
  exact⟨by rw[if_neg h],rfl⟩
theorem xf (b:List Int)(f:Int)(l:Int)(hl:0≤l∧l≤1048576):bt Try.prog 15 [.agg [.lst (.int .i64) b,.int .i64 f],.int .i64 l] [] (.int .i64 (if l-b.length<0 then-1 else l-b.length)) []:=by
 have hc:=B4 b l hl
 refine bg bf Try.func15 rfl rfl false 0 4 rfl rfl rfl rfl fun K hK hb1 hb2=>?_;simp only[bD,enc,Nat.reduceAdd]
 by_cases h:l-b.length<0
 ·rw[if_pos h] at hc
  (repeat' first|refine st ?_|refine sa fun xe hxe=>?_|refine sb (fun hq=>?_) fun hq=>?_|refine cr (hc) ?_|exact aC)
  exact⟨by rw[if_pos h],rfl⟩
 ·rw[if_neg h] at hc
  (repeat' first|refine st ?_|refine sa fun xe hxe=>?_|refine sb (fun hq=>?_) fun hq=>?_|refine cr (hc) ?_|exact aC)
  exact⟨by rw[if_neg h],rfl⟩
theorem B7 (a:List Int)(ha:a.length≤1048576):bt Try.prog 46 [.lst (.int .i64) a] [] (.ref 4) [(4,.row 3 (.int .i64) a)]:=by
 refine bg bf Try.func46 rfl rfl false 0 4 rfl rfl rfl rfl fun K hK hb1 hb2=>?_;simp only[bD,enc,Nat.reduceAdd]
 (repeat' first|refine st ?_|refine sa fun xe hxe=>?_|refine sb (fun hq=>?_) fun hq=>?_|exact aC)
 refine bw hK [] [0,3,4] (fun i:Nat=>⟨[(0,.lst (.int .i64) a),(3,.ref 4),(4,.int .i64 i)],[(4,.row 3 (.int .i64) (a.take i++(List.replicate a.length 0).drop i))],5⟩) (fun i=>i≤a.length) (fun i=>a.length-i) 0 (by simp) (by simp;rfl) ?_
 intro i hi
 by_cases hlt:i<a.length
 ·have hx:a[i]?=some a[i]:=a6 hlt
  have hg:i<(a.take i++(List.replicate a.length (0:Int)).drop i).length:=uC _ _ (by simp;omega) (by simpa using hlt)
  have hs:(a.take i++(List.replicate a.length (0:Int)).drop i).set i a[i]=a.take (i+1)++(List.replicate a.length 0).drop (i+1):=by
   rw[jY _ _ _ (by simp;omega) (by simpa using hlt),pW hlt]
  generalize hrow:a.take i++(List.replicate a.length (0:Int)).drop i=row at *
  generalize a[i]=x at *
  (repeat' first|refine st ?_|refine sa fun xe hxe=>?_|refine sb (fun hq=>?_) fun hq=>?_|exact aC)
  refine⟨i+1,by omega,by omega,?_⟩
  rw[←hs]
  rfl
 ·obtain rfl:i=a.length:=by omega
  (repeat' first|refine st ?_|refine sa fun xe hxe=>?_|refine sb (fun hq=>?_) fun hq=>?_|exact aC)
  simp
theorem wH (a:List Int)(k:Int)(hk:0≤k∧k+a.length≤1000000000):bt Try.prog 50 [.ref 4,.int .i64 k] [(4,.row 3 (.int .i64) a)] (.int .i64 (k+a.length)) [(4,.row 3 (.int .i64) (mk k a.length))]:=by
 refine bg bf Try.func50 rfl rfl false 1 5 rfl rfl rfl rfl fun K hK hb1 hb2=>?_;simp only[bD,enc,Nat.reduceAdd]
 (repeat' first|refine st ?_|refine sa fun xe hxe=>?_|refine sb (fun hq=>?_) fun hq=>?_|exact aC)
 refine bw hK [] [0,1,4,5] (fun i:Nat=>⟨[(0,.ref 4),(1,.int .i64 (k+i)),(4,.int .i64 0),(5,.int .i64 i)],[(4,.row 3 (.int .i64) (mk k i++a.drop i))],5⟩) (fun i=>i≤a.length) (fun i=>a.length-i) 0 (by simp) (by simp[mk];rfl) ?_
 intro i hi
 have hlen:(mk k i++a.drop i).length=a.length:=by simp[mS];omega
 by_cases hlt:i<a.length
 ·have hs:(mk k i++a.drop i).set i (k+i)=mk k (i+1)++a.drop (i+1):=by
   rw[jY _ _ _ (mS k i) hlt,CW]
  generalize mk k i++a.drop i=row at *
  (repeat' first|refine st ?_|refine sa fun xe hxe=>?_|refine sb (fun hq=>?_) fun hq=>?_|exact aC)
  refine⟨i+1,by omega,by omega,?_⟩
  rw[←hs,show k+((i+1:Nat):Int)=k+i+1 by omega]
  rfl
 ·obtain rfl:i=a.length:=by omega
  generalize hrow:mk k a.length++a.drop a.length=row at *
  (repeat' first|refine st ?_|refine sa fun xe hxe=>?_|refine sb (fun hq=>?_) fun hq=>?_|exact aC)
  subst hrow
  simp
theorem lH (b:List Int)(f k:Int)(hk:0≤k∧k+b.length≤1000000000):bt Try.prog 22 [.agg [.ref 4,.int .i64 f],.int .i64 k] [(4,.row 3 (.int .i64) b)] (.int .i64 (k+b.length)) [(4,.row 3 (.int .i64) (mk k b.length))]:=by
 refine bg bf Try.func22 rfl rfl false 1 5 rfl rfl rfl rfl fun K hK hb1 hb2=>?_;simp only[bD,enc,Nat.reduceAdd]
 (repeat' first|refine st ?_|refine sa fun xe hxe=>?_|refine sb (fun hq=>?_) fun hq=>?_|refine co (wH _ _ hk) ?_|exact aC)
 exact⟨rfl,rfl⟩
theorem wI (k:Int):bt Try.prog 50 [.lst (.int .i64) [],.int .i64 k] [] (.int .i64 k) []:=by
 refine bg bf Try.func50 rfl rfl false 0 4 rfl rfl rfl rfl fun K hK hb1 hb2=>?_;simp only[bD,enc,Nat.reduceAdd]
 (repeat' first|refine st ?_|refine sa fun xe hxe=>?_|refine sb (fun hq=>?_) fun hq=>?_|exact aC)
 refine bw hK [] [0,1,4,5] (fun _:Unit=>⟨[(0,.lst (.int .i64) []),(1,.int .i64 k),(4,.int .i64 0),(5,.int .i64 0)],[],4⟩) (fun _=>True) (fun _=>0) () trivial rfl ?_
 rintro⟨⟩ _
 (repeat' first|refine st ?_|refine sa fun xe hxe=>?_|refine sb (fun hq=>?_) fun hq=>?_|exact aC)
 ·simp at hq
 ·exact⟨rfl,rfl⟩
theorem sA (f k:Int):bt Try.prog 22 [.agg [.lst (.int .i64) [],.int .i64 f],.int .i64 k] [] (.int .i64 k) []:=by
 refine bg bf Try.func22 rfl rfl false 0 4 rfl rfl rfl rfl fun K hK hb1 hb2=>?_;simp only[bD,enc,Nat.reduceAdd]
 (repeat' first|refine st ?_|refine sa fun xe hxe=>?_|refine sb (fun hq=>?_) fun hq=>?_|refine cr (wI _) ?_|exact aC)
 exact⟨rfl,rfl⟩
theorem wA (n:Nat)(k:Int)(hk:0≤k∧k+n≤1000000000):bt Try.prog 51 [.lst (.int .i64) (mk k n),.int .i64 k] [] (.int .i64 (k+n)) []:=by
 refine bg bf Try.func51 rfl rfl false 0 4 rfl rfl rfl rfl fun K hK hb1 hb2=>?_;simp only[bD,enc,Nat.reduceAdd]
 clear hb1 hb2
 have hl:=mS k n
 (repeat' first|refine st ?_|refine sa fun xe hxe=>?_|refine sb (fun hq=>?_) fun hq=>?_|exact aC)
 refine bw hK [] [0,1,4,5] (fun i:Nat=>⟨[(0,.lst (.int .i64) (mk k n)),(1,.int .i64 (k+i)),(4,.int .i64 0),(5,.int .i64 i)],[],4⟩) (fun i=>i≤n) (fun i=>n-i) 0 (by simp) (by simp;rfl) ?_
 intro i hi
 by_cases hlt:i<n
 ·have hx:=EA k hlt
  generalize mk k n=row at *
  (repeat' first|refine st ?_|refine sa fun xe hxe=>?_|refine sb (fun hq=>?_) fun hq=>?_|exact aC)
  ·exact absurd trivial hq
  ·refine⟨i+1,by omega,by omega,?_⟩
   rw[show k+((i+1:Nat):Int)=k+i+1 by omega]
   rfl
 ·obtain rfl:i=n:=by omega
  generalize mk k i=row at *
  (repeat' first|refine st ?_|refine sa fun xe hxe=>?_|refine sb (fun hq=>?_) fun hq=>?_|exact aC)
  exact⟨rfl,rfl⟩
theorem lu (n:Nat)(f k:Int)(hk:0≤k∧k+n≤1000000000):bt Try.prog 25 [.agg [.lst (.int .i64) (mk k n),.int .i64 f],.int .i64 k] [] (.int .i64 (k+n)) []:=by
 refine bg bf Try.func25 rfl rfl false 0 4 rfl rfl rfl rfl fun K hK hb1 hb2=>?_;simp only[bD,enc,Nat.reduceAdd]
 (repeat' first|refine st ?_|refine sa fun xe hxe=>?_|refine sb (fun hq=>?_) fun hq=>?_|refine cr (wA _ _ hk) ?_|exact aC)
 exact⟨rfl,rfl⟩
theorem ss (f k:Int)(hk:0≤k∧k≤1000000000):bt Try.prog 25 [.agg [.lst (.int .i64) [],.int .i64 f],.int .i64 k] [] (.int .i64 k) []:=by
 have:=lu 0 f k (by simp;omega)
 simpa[mk] using this
theorem yt (a b s e:Int):bt Try.prog 47 [.agg [.int .i64 a,.int .i64 b,.int .i64 s,.int .i64 e]] [] (.agg [.int .i64 a,.int .i64 b,.int .i64 s,.int .i64 e]) []:=by
 refine bg bf Try.func47 rfl rfl false 0 4 rfl rfl rfl rfl fun K hK hb1 hb2=>?_;simp only[bD,enc,Nat.reduceAdd]
 (repeat' first|refine st ?_|refine sa fun xe hxe=>?_|refine sb (fun hq=>?_) fun hq=>?_|exact aC)
 exact⟨rfl,rfl⟩
theorem pR (b:List Int)(f:Int)(hb:b.length≤1048576):bt Try.prog 17 [.agg [.lst (.int .i64) b,.int .i64 f]] [] (.agg [.ref 4,.int .i64 f]) [(4,.row 3 (.int .i64) b)]:=by
 refine bg bf Try.func17 rfl rfl false 0 4 rfl rfl rfl rfl fun K hK hb1 hb2=>?_;simp only[bD,enc,Nat.reduceAdd]
 (repeat' first|refine st ?_|refine sa fun xe hxe=>?_|refine sb (fun hq=>?_) fun hq=>?_|refine cr (B7 _ hb) ?_|exact aC)
 exact⟨rfl,rfl⟩
theorem Au (a:List Int):bt Try.prog 48 [.lst (.int .i64) a,.lst (.int .i64) a] [] (.bool true) []:=by
 have:=As a a
 simpa using this
theorem oH (b:List Int)(f:Int):bt Try.prog 19 [.agg [.lst (.int .i64) b,.int .i64 f],.agg [.lst (.int .i64) b,.int .i64 f]] [] (.bool true) []:=by
 refine bg bf Try.func19 rfl rfl false 0 4 rfl rfl rfl rfl fun K hK hb1 hb2=>?_;simp only[bD,enc,Nat.reduceAdd]
 (repeat' first|refine st ?_|refine sa fun xe hxe=>?_|refine sb (fun hq=>?_) fun hq=>?_|refine cr (Au _) ?_|exact aC)
 all_goals first|(exact⟨rfl,rfl⟩)|exact absurd rfl hq|exact absurd trivial hq|cases hq
end Go.Proofs.Ytbmnihglaokhmaa.Am
namespace Go.Proofs.Ytbmnihglaokhmaa.Am
open Go
set_option linter.unusedSectionVars false
variable [PhC Try.prog]
attribute [local irreducible] Mk ct Ari fF nD j7 cO dR jv gP At bt
set_option maxRecDepth 10000
theorem B5 (a:List Txn)(l:Int)(hl:0≤l∧l≤1048576):bt Try.prog 16 [.lst .txn a,.int .i64 l] [] (.int .i64 (if l-a.length<0 then-1 else l-a.length)) []:=by
 refine bg bf Try.func16 rfl rfl false 0 4 rfl rfl rfl rfl fun K hK hb1 hb2=>?_;simp only[bD,enc,Nat.reduceAdd]
 simp[aB,V.toD,bnd,aj,D.cells] at hb1
 by_cases h:l-a.length<0
 ·(repeat' first|refine st ?_|refine sa fun xe hxe=>?_|refine sb (fun hq=>?_) fun hq=>?_|exact aC)
  exact⟨by rw[if_pos h],rfl⟩
 ·(repeat' first|refine st ?_|refine sa fun xe hxe=>?_|refine sb (fun hq=>?_) fun hq=>?_|exact aC)
  exact⟨by rw[if_neg h],rfl⟩
theorem vj (a:List Txn)(ha:a.length≤1048576):bt Try.prog 18 [.lst .txn a] [] (.ref 4) [(4,.row 38 .txn a)]:=by
 refine bg bf Try.func18 rfl rfl false 0 4 rfl rfl rfl rfl fun K hK hb1 hb2=>?_;simp only[bD,enc,Nat.reduceAdd]
 (repeat' first|refine st ?_|refine sa fun xe hxe=>?_|refine sb (fun hq=>?_) fun hq=>?_|exact aC)
 refine bw hK [] [0,3,4] (fun i:Nat=>⟨[(0,.lst .txn a),(3,.ref 4),(4,.int .i64 i)],[(4,.row 38 .txn (a.take i++(List.replicate a.length ⟨0,0,0,0⟩).drop i))],5⟩) (fun i=>i≤a.length) (fun i=>a.length-i) 0 (by simp) (by simp;rfl) ?_
 intro i hi
 by_cases hlt:i<a.length
 ·have hx:a[i]?=some a[i]:=a6 hlt
  have hg:i<(a.take i++(List.replicate a.length (⟨0,0,0,0⟩:Txn)).drop i).length:=uC _ _ (by simp;omega) (by simpa using hlt)
  have hs:(a.take i++(List.replicate a.length (⟨0,0,0,0⟩:Txn)).drop i).set i a[i]=a.take (i+1)++(List.replicate a.length ⟨0,0,0,0⟩).drop (i+1):=by
   rw[jY _ _ _ (by simp;omega) (by simpa using hlt),pW hlt]
  generalize hrow:a.take i++(List.replicate a.length (⟨0,0,0,0⟩:Txn)).drop i=row at *
  generalize a[i]=x at *
  obtain⟨x1,x2,x3,x4⟩:=x
  (repeat' first|refine st ?_|refine sa fun xe hxe=>?_|refine sb (fun hq=>?_) fun hq=>?_|refine cr (yt _ _ _ _) ?_|exact aC)
  refine⟨i+1,by omega,by omega,?_⟩
  rw[←hs]
  rfl
 ·obtain rfl:i=a.length:=by omega
  (repeat' first|refine st ?_|refine sa fun xe hxe=>?_|refine sb (fun hq=>?_) fun hq=>?_|refine cr (yt _ _ _ _) ?_|exact aC)
  simp
theorem xG (x y s e:Int):bt Try.prog 49 [.agg [.int .i64 x,.int .i64 y,.int .i64 s,.int .i64 e],.agg [.int .i64 x,.int .i64 y,.int .i64 s,.int .i64 e]] [] (.bool true) []:=by
 refine bg bf Try.func49 rfl rfl false 0 4 rfl rfl rfl rfl fun K hK hb1 hb2=>?_;simp only[bD,enc,Nat.reduceAdd]
 (repeat' first|refine st ?_|refine sa fun xe hxe=>?_|refine sb (fun hq=>?_) fun hq=>?_|exact aC)
 all_goals first|(exact⟨rfl,rfl⟩)|exact absurd rfl hq|exact absurd trivial hq|cases hq
def mb (k:Int)(n:Nat):List Bool:=(List.range n).map fun i:Nat=>(k+i).tmod 3==0
theorem mR (k:Int)(n:Nat):(mb k n).length=n:=by simp[mb]
theorem Ez (k:Int){n i:Nat}(h:i<n):(mb k n)[i]?=some ((k+i).tmod 3==0):=by simp[mb,h]
theorem CV (k:Int)(n:Nat):mb k (n+1)=mb k n++[(k+n).tmod 3==0]:=by simp[mb,gO]
theorem np (a:List Bool)(k:Int)(hk:0≤k∧k+a.length≤1000000000):bt Try.prog 24 [.ref 4,.int .i64 k] [(4,.row 4 .bool a)] (.int .i64 (k+a.length)) [(4,.row 4 .bool (mb k a.length))]:=by
 refine bg bf Try.func24 rfl rfl false 1 5 rfl rfl rfl rfl fun K hK hb1 hb2=>?_;simp only[bD,enc,Nat.reduceAdd]
 (repeat' first|refine st ?_|refine sa fun xe hxe=>?_|refine sb (fun hq=>?_) fun hq=>?_|exact aC)
 refine bw hK [] [0,1,4,5] (fun i:Nat=>⟨[(0,.ref 4),(1,.int .i64 (k+i)),(4,.int .i64 0),(5,.int .i64 i)],[(4,.row 4 .bool (mb k i++a.drop i))],5⟩) (fun i=>i≤a.length) (fun i=>a.length-i) 0 (by simp) (by simp[mb];rfl) ?_
 intro i hi
 have hlen:(mb k i++a.drop i).length=a.length:=by simp[mR];omega
 by_cases hlt:i<a.length
 ·have hs:(mb k i++a.drop i).set i ((k+i).tmod 3==0)=mb k (i+1)++a.drop (i+1):=by
   rw[jY _ _ _ (mR k i) hlt,CV]
  generalize mb k i++a.drop i=row at *
  (repeat' first|refine st ?_|refine sa fun xe hxe=>?_|refine sb (fun hq=>?_) fun hq=>?_|exact aC)
  refine⟨i+1,by omega,by omega,?_⟩
  rw[←hs,show k+((i+1:Nat):Int)=k+i+1 by omega]
  rfl
 ·obtain rfl:i=a.length:=by omega
  generalize hrow:mb k a.length++a.drop a.length=row at *
  (repeat' first|refine st ?_|refine sa fun xe hxe=>?_|refine sb (fun hq=>?_) fun hq=>?_|exact aC)
  subst hrow
  simp
theorem qI (a:List Bool):bt Try.prog 20 [.lst .bool a,.lst .bool a] [] (.bool true) []:=by
 have:=yS a a
 simpa using this
theorem nk (n:Nat)(k:Int)(hk:0≤k∧k+n≤1000000000):bt Try.prog 26 [.lst .bool (mb k n),.int .i64 k] [] (.int .i64 (k+n)) []:=by
 refine bg bf Try.func26 rfl rfl false 0 4 rfl rfl rfl rfl fun K hK hb1 hb2=>?_;simp only[bD,enc,Nat.reduceAdd]
 clear hb1 hb2
 have hl:=mR k n
 (repeat' first|refine st ?_|refine sa fun xe hxe=>?_|refine sb (fun hq=>?_) fun hq=>?_|exact aC)
 refine bw hK [] [0,1,4,5] (fun i:Nat=>⟨[(0,.lst .bool (mb k n)),(1,.int .i64 (k+i)),(4,.int .i64 0),(5,.int .i64 i)],[],4⟩) (fun i=>i≤n) (fun i=>n-i) 0 (by simp) (by simp;rfl) ?_
 intro i hi
 by_cases hlt:i<n
 ·have hx:=Ez k hlt
  generalize mb k n=row at *
  (repeat' first|refine st ?_|refine sa fun xe hxe=>?_|refine sb (fun hq=>?_) fun hq=>?_|exact aC)
  ·simp at hq
  ·refine⟨i+1,by omega,by omega,?_⟩
   rw[show k+((i+1:Nat):Int)=k+i+1 by omega]
   rfl
 ·obtain rfl:i=n:=by omega
  generalize mb k i=row at *
  (repeat' first|refine st ?_|refine sa fun xe hxe=>?_|refine sb (fun hq=>?_) fun hq=>?_|exact aC)
  exact⟨rfl,rfl⟩
theorem tH (a:List Txn):bt Try.prog 21 [.lst .txn a,.lst .txn a] [] (.bool true) []:=by
 refine bg bf Try.func21 rfl rfl false 0 4 rfl rfl rfl rfl fun K hK hb1 hb2=>?_;simp only[bD,enc,Nat.reduceAdd]
 simp[aB,V.toD,bnd,aj,D.cells] at hb1
 (repeat' first|refine st ?_|refine sa fun xe hxe=>?_|refine sb (fun hq=>?_) fun hq=>?_|exact aC)
 ·exact absurd trivial hq
 refine bw hK [] [0,1,4,5] (fun i:Nat=>⟨[(0,.lst .txn a),(1,.lst .txn a),(4,.bool false),(5,.int .i64 i)],[],4⟩) (fun i=>i≤a.length) (fun i=>a.length-i) 0 (by simp) rfl ?_
 intro i hi
 by_cases hlt:i<a.length
 ·have hx:a[i]?=some a[i]:=a6 hlt
  generalize a[i]=x at *
  obtain⟨x1,x2,x3,x4⟩:=x
  (repeat' first|refine st ?_|refine sa fun xe hxe=>?_|refine sb (fun hq=>?_) fun hq=>?_|refine cr (xG _ _ _ _) ?_|exact aC)
  all_goals first|exact⟨i+1,by omega,by omega,rfl⟩|(cases hq;done)
 ·(repeat' first|refine st ?_|refine sa fun xe hxe=>?_|refine sb (fun hq=>?_) fun hq=>?_|refine cr (xG _ _ _ _) ?_|exact aC)
  exact⟨rfl,rfl⟩
def mt (k:Int)(n:Nat):List Txn:=(List.range n).map fun i:Nat=>⟨k+4*i,k+4*i+1,k+4*i+2,k+4*i+3⟩
theorem ra (k:Int)(n:Nat):(mt k n).length=n:=by simp[mt]
theorem CX (k:Int)(n:Nat):mt k (n+1)=mt k n++[⟨k+4*n,k+4*n+1,k+4*n+2,k+4*n+3⟩]:=by simp[mt,gO]
theorem pn (a:List Txn)(k:Int)(hk:0≤k∧k+4*a.length≤1000000000):bt Try.prog 23 [.ref 4,.int .i64 k] [(4,.row 38 .txn a)] (.int .i64 (k+4*a.length)) [(4,.row 38 .txn (mt k a.length))]:=by
 refine bg bf Try.func23 rfl rfl false 1 5 rfl rfl rfl rfl fun K hK hb1 hb2=>?_;simp only[bD,enc,Nat.reduceAdd]
 (repeat' first|refine st ?_|refine sa fun xe hxe=>?_|refine sb (fun hq=>?_) fun hq=>?_|exact aC)
 refine bw hK [] [0,1,4,5] (fun i:Nat=>⟨[(0,.ref 4),(1,.int .i64 (k+4*i)),(4,.int .i64 0),(5,.int .i64 i)],[(4,.row 38 .txn (mt k i++a.drop i))],5⟩) (fun i=>i≤a.length) (fun i=>a.length-i) 0 (by simp) (by simp[mt];rfl) ?_
 intro i hi
 have hlen:(mt k i++a.drop i).length=a.length:=by simp[ra];omega
 by_cases hlt:i<a.length
 ·have hs:(mt k i++a.drop i).set i ⟨k+4*i,k+4*i+1,k+4*i+2,k+4*i+3⟩=mt k (i+1)++a.drop (i+1):=by
   rw[jY _ _ _ (ra k i) hlt,CX]
  generalize mt k i++a.drop i=row at *
  have hx:row[i]?=some row[i]:=a6 (by omega)
  generalize row[i]=x at *
  obtain⟨x1,x2,x3,x4⟩:=x
  (repeat' first|refine st ?_|refine sa fun xe hxe=>?_|refine sb (fun hq=>?_) fun hq=>?_|exact aC)
  rename_i ya hya yb hyb
  obtain rfl:=bm ((List.getElem?_set_self (show (i:Int).toNat<_ by simp;omega)).symm.trans hya)
  obtain rfl:=bm ((List.getElem?_set_self (show (i:Int).toNat<_ by simp;omega)).symm.trans hyb)
  obtain rfl:=bm ((List.getElem?_set_self (show (i:Int).toNat<_ by simp;omega)).symm.trans hxe)
  refine⟨i+1,by omega,by omega,?_⟩
  rw[←hs,show k+4*((i+1:Nat):Int)=k+4*i+3+1 by omega]
  simp only[List.set_set,Int.toNat_natCast]
  rw[show k+4*(i:Int)+1+1=k+4*i+2 by omega,show k+4*(i:Int)+2+1=k+4*i+3 by omega]
  rfl
 ·obtain rfl:i=a.length:=by omega
  generalize hrow:mt k a.length++a.drop a.length=row at *
  (repeat' first|refine st ?_|refine sa fun xe hxe=>?_|refine sb (fun hq=>?_) fun hq=>?_|exact aC)
  subst hrow
  simp
end Go.Proofs.Ytbmnihglaokhmaa.Am
namespace Go.Proofs.Ytbmnihglaokhmaa.Am
open Go
attribute [local irreducible] Mk ct Ari fF nD j7 cO dR jv gP At bt
set_option maxRecDepth 10000
section
attribute [local instance] kW
theorem BQ {b:List Int}{f:Int}{ts:List Txn}(h:pb ⟨b,f⟩ ts=true):bt Try.prog 9 [.agg [.lst (.int .i64) b,.int .i64 f],.lst .txn ts] []
  (.tup [.agg [.lst (.int .i64) (bR ⟨b,f⟩ ts).b,.int .i64 (bR ⟨b,f⟩ ts).f],.lst .bool (dx ⟨b,f⟩ ts)]) []:=by
 have:=nv b f ts
 rwa [if_pos h] at this
theorem BP {b:List Int}{f:Int}{ts:List Txn}(h:pb ⟨b,f⟩ ts=false):bt Try.prog 9 [.agg [.lst (.int .i64) b,.int .i64 f],.lst .txn ts] []
  (.tup [.agg [.nils,.int .i64 0],.lst .bool []]) []:=by
 have:=nv b f ts
 rwa [if_neg (by simp[h])] at this
theorem ul (k:Int)(hk:0≤k∧k≤1000000000):bt Try.prog 24 [.ref 4,.int .i64 k] [(4,.row 4 .bool [])] (.int .i64 k) [(4,.row 4 .bool [])]:=by
 have:=np [] k (by simp;omega)
 simpa[mb] using this
theorem tX (k:Int)(hk:0≤k∧k≤1000000000):bt Try.prog 26 [.lst .bool [],.int .i64 k] [] (.int .i64 k) []:=by
 have:=nk 0 k (by simp;omega)
 simpa[mb] using this
set_option maxHeartbeats 16000000 in
theorem wE (b:List Int)(f:Int)(ts:List Txn):bt Try.prog 6 [.agg [.lst (.int .i64) b,.int .i64 f],.lst .txn ts] [] (.bool true) []:=by
 have hsz:=xf b f 1048576 (by omega)
 refine bg bf Try.func6 rfl rfl false 0 4 rfl rfl rfl rfl fun K hK hb1 hb2=>?_;simp only[bD,enc,Nat.reduceAdd]
 clear hb1 hb2
 by_cases hl:(1048576:Int)-b.length<0
 ·rw[if_pos hl] at hsz
  (repeat' first|refine st ?_|refine sa fun xe hxe=>?_|refine sb (fun hq=>?_) fun hq=>?_|refine cr (hsz) ?_|exact aC)
  exact⟨rfl,rfl⟩
 ·rw[if_neg hl] at hsz
  have hb:b.length≤1048576:=by omega
  have hsz2:=B5 ts (1048576-b.length) (by omega)
  by_cases hl2:(1048576:Int)-b.length-ts.length<0
  ·rw[if_pos hl2] at hsz2
   (repeat' first|refine st ?_|refine sa fun xe hxe=>?_|refine sb (fun hq=>?_) fun hq=>?_|refine cr (hsz) ?_|refine cr (hsz2) ?_|exact aC)
   exact⟨rfl,rfl⟩
  ·rw[if_neg hl2] at hsz2
   have ht:ts.length≤1048576:=by omega
   cases hr:pb ⟨b,f⟩ ts
   ·have hA:=AS hr
    have hS:=BP hr
    (repeat' first|refine st ?_|refine sa fun xe hxe=>?_|refine sb (fun hq=>?_) fun hq=>?_|refine cr (hsz) ?_|refine cr (hsz2) ?_|refine cr (pR _ _ hb) ?_|refine cr (vj _ ht) ?_|refine cr (hS) ?_|refine cr (hA) ?_|refine cr (oH _ _) ?_|refine cr (qI _) ?_|refine cr (tH _) ?_|refine cr (sA _ _) ?_|((with_reducible refine kS ?_);(conv=>whnf);(first|with_reducible refine dE (ss _ _ (by omega)) ?_|with_reducible refine dE (tX _ (by omega)) ?_);conv=>whnf)|((with_reducible refine vV ?_);(conv=>whnf);(first|with_reducible refine dE (lH _ _ _ (by omega)) ?_|with_reducible refine dE (pn _ _ (by omega)) ?_|with_reducible refine dE (ul _ (by omega)) ?_);conv=>whnf)|exact aC)
    all_goals first|(exact⟨rfl,rfl⟩)|exact absurd rfl hq|exact absurd trivial hq|cases hq
   ·have hA:=AT hr
    have hS:=BQ hr
    obtain⟨-,-,hts,-,hok,hfe⟩:=sx hr
    have hlo:(dx ⟨b,f⟩ ts).length≤16:=by rw[fP];exact hts
    have hlen:(bR ⟨b,f⟩ ts).b.length=6:=(nZ ⟨b,f⟩ ts hok (by show f+9*(ts.length:Int)≤100000;omega)).1.1
    clear hok hfe
    generalize bR ⟨b,f⟩ ts=g at *
    generalize dx ⟨b,f⟩ ts=o at *
    obtain⟨gb,gf⟩:=g
    simp only at hlen hA hS
    (repeat' first|refine st ?_|refine sa fun xe hxe=>?_|refine sb (fun hq=>?_) fun hq=>?_|refine cr (hsz) ?_|refine cr (hsz2) ?_|refine cr (pR _ _ hb) ?_|refine cr (vj _ ht) ?_|refine cr (hS) ?_|refine cr (hA) ?_|refine cr (oH _ _) ?_|refine cr (qI _) ?_|refine cr (tH _) ?_|((with_reducible refine kS ?_);(conv=>whnf);(first|with_reducible refine dE (lu _ _ _ (by omega)) ?_|with_reducible refine dE (nk _ _ (by omega)) ?_);conv=>whnf)|((with_reducible refine vV ?_);(conv=>whnf);(first|with_reducible refine dE (lH _ _ _ (by omega)) ?_|with_reducible refine dE (pn _ _ (by omega)) ?_|with_reducible refine dE (np _ _ (by omega)) ?_);conv=>whnf)|exact aC)
    all_goals first|(exact⟨rfl,rfl⟩)|exact absurd rfl hq|exact absurd trivial hq|cases hq
end
end Go.Proofs.Ytbmnihglaokhmaa.Am
namespace Go.Proofs.Ytbmnihglaokhmaa.Am
open Go
set_option linter.unusedSectionVars false
variable [PhC Try.prog]
attribute [local irreducible] Mk ct Ari fF nD j7 cO dR jv gP At bt
set_option maxRecDepth 10000
def Hi (c:List Int)(p:Int):Prop:=c.length≤2000∧(∀x∈c,0≤x∧x≤255)∧0≤p∧p≤1000000000
theorem Hn (c:List Int):bt Try.prog 52 [.lst (.int .u8) c] [] (.ptr 4 0) [(4,.var 112 [.lst (.int .u8) (c.take 2000),.int .i64 0])]:=by
 refine bg bf Try.func52 rfl rfl false 0 4 rfl rfl rfl rfl fun K hK hb1 hb2=>?_;simp only[bD,enc,Nat.reduceAdd]
 (repeat' first|refine st ?_|refine sa fun xe hxe=>?_|refine sb (fun hq=>?_) fun hq=>?_|exact aC)
 ·exact⟨rfl,rfl⟩
 ·exact⟨rfl,by rw[ii (by omega)]⟩
theorem Ht {c:List Int}(h:∀x∈c,0≤x∧x≤255):Hi (c.take 2000) 0:=⟨by rw[nz];omega,fun x hx=>h x (pX hx),by omega,by omega⟩
theorem G6 (c:List Int)(p n:Int)(T:TypeId)(h:Hi c p)(hn:1≤n∧n≤1000000):∃v,(0≤v∧v<n)∧bt Try.prog 81 [.ptr 4 0,.int .i64 n] [(4,.var T [.lst (.int .u8) c,.int .i64 p])] (.int .i64 v) [(4,.var T [.lst (.int .u8) c,.int .i64 (p+1)])]:=by
 obtain⟨h1,h2,h3,h4⟩:=h
 suffices hs:∃r hout,(∃v,(0≤v∧v<n)∧r= .int .i64 v∧hout=[(4,VB.var T [.lst (.int .u8) c,.int .i64 (p+1)])])∧bt Try.prog 81 [.ptr 4 0,.int .i64 n] [(4,.var T [.lst (.int .u8) c,.int .i64 p])] r hout by
  obtain⟨r,hout,⟨v,hv,rfl,rfl⟩,h⟩:=hs
  exact⟨v,hv,h⟩
 refine D9 bf Try.func81 rfl rfl false 1 5 rfl rfl rfl rfl (R:=fun r hout=>∃v,(0≤v∧v<n)∧r= .int .i64 v∧hout=[(4,VB.var T [.lst (.int .u8) c,.int .i64 (p+1)])]) (r0:=.int .i64 0) (hout0:=[(4,VB.var T [.lst (.int .u8) c,.int .i64 (p+1)])]) (⟨0,by omega,rfl,rfl⟩) fun K hK hb1 hb2=>?_;simp only[bD,enc,Nat.reduceAdd]
 clear hb1 hb2
 have hat:∀k:Int,0≤k→k<c.length→∃v,c[k.toNat]?=some v∧0≤v∧v≤255:=fun k ha hb=>by
  have hl:k.toNat<c.length:=by omega
  exact⟨c[k.toNat],a6 hl,h2 _ (fh hl)⟩
 by_cases h0:c.length=0
 ·(repeat' first|refine st ?_|refine sa fun xe hxe=>?_|refine sb (fun hq=>?_) fun hq=>?_|exact aC)
  exact⟨0,by omega,rfl,rfl⟩
 have hcl:0≤p.tmod c.length∧p.tmod c.length<c.length:=⟨Int.tmod_nonneg _ h3,Int.tmod_lt_of_pos _ (by omega)⟩
 have hcl2:0≤(p*7+3).tmod c.length∧(p*7+3).tmod c.length<c.length:=⟨Int.tmod_nonneg _ (by omega),Int.tmod_lt_of_pos _ (by omega)⟩
 have hdv:0≤p.tdiv c.length∧p.tdiv c.length≤p:=⟨Int.tdiv_nonneg h3 (by omega),by rw[Int.tdiv_eq_ediv_of_nonneg h3];exact Int.ediv_le_self _ h3⟩
 have hp:p+1-1=p:=by omega
 by_cases h6:p<c.length
 ·obtain⟨v,hv,hv1,hv2⟩:=hat p h3 h6
  rw[←hp] at hv
  have hm:0≤v.tmod n∧v.tmod n<n:=⟨Int.tmod_nonneg _ hv1,Int.tmod_lt_of_pos _ (by omega)⟩
  (repeat' first|refine st ?_|refine sa fun xe hxe=>?_|refine sb (fun hq=>?_) fun hq=>?_|exact aC)
  exact⟨_,hm,rfl,rfl⟩
 ·obtain⟨v,hv,hv1,hv2⟩:=hat _ hcl.1 hcl.2
  obtain⟨w,hw,hw1,hw2⟩:=hat _ hcl2.1 hcl2.2
  rw[←hp] at hv hw hdv hcl hcl2
  have hS:0≤v*131+w*1117+(p+1-1)*29+(p+1-1).tdiv ↑c.length*53∧v*131+w*1117+(p+1-1)*29+(p+1-1).tdiv ↑c.length*53<4611686018427387904:=by omega
  have hD:0≤(v*131+w*1117+(p+1-1)*29+(p+1-1).tdiv ↑c.length*53).tdiv 64∧(v*131+w*1117+(p+1-1)*29+(p+1-1).tdiv ↑c.length*53).tdiv 64<4611686018427387904:=
   ⟨Int.tdiv_nonneg hS.1 (by omega),by rw[Int.tdiv_eq_ediv_of_nonneg hS.1];omega⟩
  have hX:=Hp hS hD
  (repeat' first|refine st ?_|refine sa fun xe hxe=>?_|refine sb (fun hq=>?_) fun hq=>?_|exact aC)
  refine⟨_,⟨Int.tmod_nonneg _ hX,Int.tmod_lt_of_pos _ (by omega)⟩,rfl,rfl⟩
end Go.Proofs.Ytbmnihglaokhmaa.Am
namespace Go.Proofs.Ytbmnihglaokhmaa.Am
open Go
set_option linter.unusedSectionVars false
variable [PhC Try.prog]
attribute [local irreducible] Mk ct Ari fF nD j7 cO dR jv gP At bt
set_option maxRecDepth 10000
set_option maxHeartbeats 2000000 in
theorem Ho (c:List Int)(p:Int)(T:TypeId)(h:Hi c p)(hp:p≤1000000):∃x:(Int×Int×Int×Int)×Int,(p≤x.2∧x.2≤p+6)∧bt Try.prog 82 [.ptr 4 0] [(4,.var T [.lst (.int .u8) c,.int .i64 p])] (.agg [.int .i64 x.1.1,.int .i64 x.1.2.1,.int .i64 x.1.2.2.1,.int .i64 x.1.2.2.2]) [(4,.var T [.lst (.int .u8) c,.int .i64 x.2])]:=by
 obtain⟨h1,h2,h3,-⟩:=h
 suffices hs:∃r hout,(∃x:(Int×Int×Int×Int)×Int,(p≤x.2∧x.2≤p+6)∧r= .agg [.int .i64 x.1.1,.int .i64 x.1.2.1,.int .i64 x.1.2.2.1,.int .i64 x.1.2.2.2]∧hout=[(4,VB.var T [.lst (.int .u8) c,.int .i64 x.2])])∧bt Try.prog 82 [.ptr 4 0] [(4,.var T [.lst (.int .u8) c,.int .i64 p])] r hout by
  obtain⟨r,hout,⟨v,hv,rfl,rfl⟩,h⟩:=hs
  exact⟨v,hv,h⟩
 refine D9 bf Try.func82 rfl rfl false 1 5 rfl rfl rfl rfl (R:=fun r hout=>∃x:(Int×Int×Int×Int)×Int,(p≤x.2∧x.2≤p+6)∧r= .agg [.int .i64 x.1.1,.int .i64 x.1.2.1,.int .i64 x.1.2.2.1,.int .i64 x.1.2.2.2]∧hout=[(4,VB.var T [.lst (.int .u8) c,.int .i64 x.2])]) (r0:=.agg [.int .i64 0,.int .i64 0,.int .i64 0,.int .i64 0]) (hout0:=[(4,VB.var T [.lst (.int .u8) c,.int .i64 p])]) (⟨((0,0,0,0),p),by omega,rfl,rfl⟩) fun K hK hb1 hb2=>?_;simp only[bD,enc,Nat.reduceAdd]
 clear hb1 hb2
 (repeat' first|refine st ?_|refine sa fun xe hxe=>?_|refine sb (fun hq=>?_) fun hq=>?_|((with_reducible refine kS ?_);(conv=>whnf);(first|refine FK (G6 c _ _ _ ⟨h1,h2,by omega,by omega⟩ (by omega)) fun xv hxv=>?_);conv=>whnf)|exact aC)
 all_goals
  refine⟨((_,_,_,_),_),?_,rfl,rfl⟩
  dsimp only
  omega
set_option maxHeartbeats 2000000 in
theorem Hm (c:List Int)(p:Int)(T:TypeId)(h:Hi c p)(hp:p≤1000000):∃x:(List Int×Int)×Int,(p≤x.2∧x.2≤p+40∧x.1.1.length≤6)∧bt Try.prog 53 [.ptr 4 0] [(4,.var T [.lst (.int .u8) c,.int .i64 p])] (.agg [.lst (.int .i64) x.1.1,.int .i64 x.1.2]) [(4,.var T [.lst (.int .u8) c,.int .i64 x.2])]:=by
 obtain⟨h1,h2,h3,-⟩:=h
 suffices hs:∃r hout,(∃x:(List Int×Int)×Int,(p≤x.2∧x.2≤p+40∧x.1.1.length≤6)∧r= .agg [.lst (.int .i64) x.1.1,.int .i64 x.1.2]∧hout=[(4,VB.var T [.lst (.int .u8) c,.int .i64 x.2])])∧bt Try.prog 53 [.ptr 4 0] [(4,.var T [.lst (.int .u8) c,.int .i64 p])] r hout by
  obtain⟨r,hout,⟨v,hv,rfl,rfl⟩,h⟩:=hs
  exact⟨v,hv,h⟩
 refine D9 bf Try.func53 rfl rfl true 1 5 rfl rfl rfl rfl (R:=fun r hout=>∃x:(List Int×Int)×Int,(p≤x.2∧x.2≤p+40∧x.1.1.length≤6)∧r= .agg [.lst (.int .i64) x.1.1,.int .i64 x.1.2]∧hout=[(4,VB.var T [.lst (.int .u8) c,.int .i64 x.2])]) (r0:=.agg [.lst (.int .i64) [],.int .i64 0]) (hout0:=[(4,VB.var T [.lst (.int .u8) c,.int .i64 p])]) (⟨(([],0),p),by simp;omega,rfl,rfl⟩) fun K hK hb1 hb2=>?_;simp only[bD,enc,Nat.reduceAdd]
 clear hb1 hb2
 (repeat' first|refine st ?_|refine sa fun xe hxe=>?_|refine sb (fun hq=>?_) fun hq=>?_|((with_reducible refine kS ?_);(conv=>whnf);(first|refine FK (G6 c _ _ _ ⟨h1,h2,by omega,by omega⟩ (by omega)) fun xv hxv=>?_);conv=>whnf)|exact aC)
 refine bw hK [] [0,2,3,4] (fun i:Nat×List Int×Int=>⟨[(0,.ptr 4 0),(2,.ptr 5 0),(3,.ptr 6 0),(4,.int .i64 i.1)],
   [(4,.var T [.lst (.int .u8) c,.int .i64 i.2.2]),(5,.var 25 [.nils,.int .i64 0]),(6,.var 25 [.ref 7,.int .i64 xv]),(7,.row 3 (.int .i64) i.2.1)],8⟩)
   (fun i=>i.1≤6∧i.2.1.length=i.1∧p≤i.2.2∧i.2.2≤p+1+4*i.1) (fun i=>6-i.1) (0,[],p+1) (by simp;omega) rfl ?_
 rintro⟨i,l,q⟩ ⟨hi1,hi2,hi3,hi4⟩
 dsimp only at hi1 hi2 hi3 hi4⊢
 subst hi2
 by_cases hlt:l.length<6
 ·(repeat' first|refine st ?_|refine sa fun xe hxe=>?_|refine sb (fun hq=>?_) fun hq=>?_|((with_reducible refine kS ?_);(conv=>whnf);(first|refine FK (G6 c _ _ _ ⟨h1,h2,by omega,by omega⟩ (by omega)) fun xv hxv=>?_);conv=>whnf)|exact aC)
  refine⟨(l.length+1,l++[xe],q+1+1+1+1),⟨by omega,by simp,by dsimp only;omega,by dsimp only;omega⟩,by omega,rfl⟩
 ·have:l.length=6:=by omega
  (repeat' first|refine st ?_|refine sa fun xe hxe=>?_|refine sb (fun hq=>?_) fun hq=>?_|((with_reducible refine kS ?_);(conv=>whnf);(first|refine FK (G6 c _ _ _ ⟨h1,h2,by omega,by omega⟩ (by omega)) fun xv hxv=>?_);conv=>whnf)|exact aC)
  all_goals
   refine⟨((_,_),_),?_,rfl,rfl⟩
   dsimp only
   refine⟨by omega,by omega,?_⟩
   first|omega|(rw[List.length_set];omega)|(simp[Ea];omega)
set_option maxHeartbeats 2000000 in
theorem Hk (c:List Int)(p:Int)(T:TypeId)(h:Hi c p)(hp:p≤100000):∃x:List Txn×Int,(p≤x.2∧x.2≤p+400∧x.1.length≤17)∧bt Try.prog 54 [.ptr 4 0] [(4,.var T [.lst (.int .u8) c,.int .i64 p])] (.lst .txn x.1) [(4,.var T [.lst (.int .u8) c,.int .i64 x.2])]:=by
 obtain⟨h1,h2,h3,-⟩:=h
 suffices hs:∃r hout,(∃x:List Txn×Int,(p≤x.2∧x.2≤p+400∧x.1.length≤17)∧r= .lst .txn x.1∧hout=[(4,VB.var T [.lst (.int .u8) c,.int .i64 x.2])])∧bt Try.prog 54 [.ptr 4 0] [(4,.var T [.lst (.int .u8) c,.int .i64 p])] r hout by
  obtain⟨r,hout,⟨v,hv,rfl,rfl⟩,h⟩:=hs
  exact⟨v,hv,h⟩
 refine D9 bf Try.func54 rfl rfl true 1 5 rfl rfl rfl rfl (R:=fun r hout=>∃x:List Txn×Int,(p≤x.2∧x.2≤p+400∧x.1.length≤17)∧r= .lst .txn x.1∧hout=[(4,VB.var T [.lst (.int .u8) c,.int .i64 x.2])]) (r0:=.lst .txn []) (hout0:=[(4,VB.var T [.lst (.int .u8) c,.int .i64 p])]) (⟨([],p),by simp;omega,rfl,rfl⟩) fun K hK hb1 hb2=>?_;simp only[bD,enc,Nat.reduceAdd]
 clear hb1 hb2
 (repeat' first|refine st ?_|refine sa fun xe hxe=>?_|refine sb (fun hq=>?_) fun hq=>?_|((with_reducible refine kS ?_);(conv=>whnf);(first|refine FK (G6 c _ _ _ ⟨h1,h2,by omega,by omega⟩ (by omega)) fun xv hxv=>?_);conv=>whnf)|exact aC)
 rename_i n0 _ k0 _
 have hn2:0≤15+xv∧15+xv≤17:=by omega
 have hq2:p≤p+1+1+1∧p+1+1+1≤p+3:=by omega
 generalize 15+xv=n at *
 generalize p+1+1+1=q at *
 rotate_left
 rename_i n _
 have hn2:0≤n∧n≤17:=by omega
 have hq2:p≤p+1+1∧p+1+1≤p+3:=by omega
 generalize p+1+1=q at *
 all_goals
  refine bw hK [] [0,2,3,4,5] (fun i:Nat×List Txn×Int=>⟨[(0,.ptr 4 0),(2,.nils),(3,.ref 5),(4,.int .i64 n),(5,.int .i64 i.1)],
   [(4,.var T [.lst (.int .u8) c,.int .i64 i.2.2]),(5,.row 38 .txn i.2.1)],6⟩)
   (fun i=>(i.1:Int)≤n∧i.2.1.length=i.1∧p≤i.2.2∧i.2.2≤p+3+10*i.1) (fun i=>20-i.1) (0,[],q) (by simp;omega) rfl ?_
  rintro⟨i,l,r⟩ ⟨hi1,hi2,hi3,hi4⟩
  dsimp only at hi1 hi2 hi3 hi4⊢
  subst hi2
  by_cases hlt:(l.length:Int)<n
  ·(repeat' first|refine st ?_|refine sa fun xe hxe=>?_|refine sb (fun hq=>?_) fun hq=>?_|((with_reducible refine kS ?_);(conv=>whnf);(first|refine FK (G6 c _ _ _ ⟨h1,h2,by omega,by omega⟩ (by omega)) fun xv hxv=>?_|refine FK (Ho c _ _ ⟨h1,h2,by omega,by omega⟩ (by omega)) fun xv hxv=>?_);conv=>whnf)|exact aC)
   all_goals
    refine⟨(l.length+1,l++[_],_),?_,?_,rfl⟩
    ·dsimp only
     refine⟨by omega,by simp,by omega,by omega⟩
    ·dsimp only
     omega
  ·(repeat' first|refine st ?_|refine sa fun xe hxe=>?_|refine sb (fun hq=>?_) fun hq=>?_|exact aC)
   exact⟨(l,r),by dsimp only;omega,rfl,rfl⟩
theorem Hf (c:List Int)(hc:∀x∈c,0≤x∧x≤255):∃x:(List Int×Int)×List Txn,(x.1.1.length≤6∧x.2.length≤17)∧bt Try.prog 27 [.lst (.int .u8) c] [] (.tup [.agg [.lst (.int .i64) x.1.1,.int .i64 x.1.2],.lst .txn x.2]) []:=by
 have hrd:=Ht hc
 obtain⟨y,hy1,hy2⟩:=Hm (c.take 2000) 0 112 hrd (by omega)
 obtain⟨z,hz1,hz2⟩:=Hk (c.take 2000) y.2 112 ⟨hrd.1,hrd.2.1,by omega,by omega⟩ (by omega)
 refine⟨(y.1,z.1),⟨hy1.2.2,hz1.2.2⟩,?_⟩
 refine bg bf Try.func27 rfl rfl true 0 4 rfl rfl rfl rfl fun K hK hb1 hb2=>?_;simp only[bD,enc,Nat.reduceAdd]
 clear hb1 hb2
 (repeat' first|refine st ?_|refine sa fun xe hxe=>?_|refine sb (fun hq=>?_) fun hq=>?_|refine cr (Hn _) ?_|refine cr (hy2) ?_|refine cr (hz2) ?_|exact aC)
 exact⟨rfl,rfl⟩
end Go.Proofs.Ytbmnihglaokhmaa.Am
namespace Go.Proofs.Ytbmnihglaokhmaa.Am
open Go
attribute [local irreducible] Mk ct Ari fF nD j7 cO dR jv gP At bt
set_option maxRecDepth 10000
section
attribute [local instance] kW
theorem He (c:List Int)(hc:∀x∈c,0≤x∧x≤255):∃x:(List Int×Int)×List Txn,(x.1.1.length≤6∧x.2.length≤17)∧bt Try.prog 7 [.lst (.int .u8) c] [] (.tup [.agg [.lst (.int .i64) x.1.1,.int .i64 x.1.2],.lst .txn x.2]) []:=by
 obtain⟨x,hx,h⟩:=Hf c hc
 refine⟨x,hx,?_⟩
 refine bg bf Try.func7 rfl rfl true 0 4 rfl rfl rfl rfl fun K hK hb1 hb2=>?_;simp only[bD,enc,Nat.reduceAdd]
 clear hb1 hb2
 (repeat' first|refine st ?_|refine sa fun xe hxe=>?_|refine sb (fun hq=>?_) fun hq=>?_|refine cr (h) ?_|exact aC)
 exact⟨rfl,rfl⟩
theorem Hc (a:List Int)(f:Int):bt Try.prog 10 [.agg [.lst (.int .i64) a,.int .i64 f],.agg [.lst (.int .i64) a,.int .i64 f]] [] (.bool true) []:=by
 have:=G9 a a f f
 simpa using this
theorem Hb (a:List Bool):bt Try.prog 11 [.lst .bool a,.lst .bool a] [] (.bool true) []:=by
 have:=Ha a a
 simpa using this
theorem Hr {b:List Int}{f:Int}{ts:List Txn}(h:pb ⟨b,f⟩ ts=true):bt Try.prog 9 [.agg [.lst (.int .i64) b,.int .i64 f],.lst .txn ts] []
  (.tup [.agg [.lst (.int .i64) (bR ⟨b,f⟩ ts).b,.int .i64 (bR ⟨b,f⟩ ts).f],.lst .bool (dx ⟨b,f⟩ ts)]) []:=by
 have:=nv b f ts
 rwa [if_pos h] at this
theorem Hq {b:List Int}{f:Int}{ts:List Txn}(h:pb ⟨b,f⟩ ts=false):bt Try.prog 9 [.agg [.lst (.int .i64) b,.int .i64 f],.lst .txn ts] []
  (.tup [.agg [.nils,.int .i64 0],.lst .bool []]) []:=by
 have:=nv b f ts
 rwa [if_neg (by simp[h])] at this
theorem Hu {b:List Int}{f:Int}{ts:List Txn}(h:m6 ⟨b,f⟩ ts=true):bt Try.prog 12 [.agg [.lst (.int .i64) b,.int .i64 f],.lst .txn ts] []
  (.tup [.agg [.ref 4,.int .i64 (bR ⟨b,f⟩ ts).f],.ref 5]) [(4,.row 3 (.int .i64) (bR ⟨b,f⟩ ts).b),(5,.row 4 .bool (dx ⟨b,f⟩ ts))]:=by
 have:=G8 b f ts
 rwa [if_pos h,if_pos h] at this
set_option maxHeartbeats 4000000 in
theorem Hg (c:List Int)(hc:∀x∈c,0≤x∧x≤255):bt Try.prog 3 [.lst (.int .u8) c] [] (.bool true) []:=by
 obtain⟨⟨⟨b,f⟩,ts⟩,⟨hx1,hx2⟩,hd⟩:=He c hc
 simp only at hx1 hx2 hd
 refine bg bf Try.func3 rfl rfl false 0 4 rfl rfl rfl rfl fun K hK hb1 hb2=>?_;simp only[bD,enc,Nat.reduceAdd]
 clear hb1 hb2
 by_cases hl:(1048576:Int)<c.length
 ·(repeat' first|refine st ?_|refine sa fun xe hxe=>?_|refine sb (fun hq=>?_) fun hq=>?_|exact aC)
  exact⟨rfl,rfl⟩
 cases hv:pb ⟨b,f⟩ ts
 ·have hA:=AS hv
  have hS:=Hq hv
  (repeat' first|refine st ?_|refine sa fun xe hxe=>?_|refine sb (fun hq=>?_) fun hq=>?_|refine cr (hd) ?_|refine cr (hA) ?_|refine cr (hS) ?_|refine cr (Hc _ _) ?_|refine cr (Hb _) ?_|exact aC)
  all_goals first|exact⟨rfl,rfl⟩|exact absurd rfl hq
 ·have hA:=AT hv
  have hS:=Hr hv
  obtain⟨h1,-,h3,h4,h5,h6⟩:=sx hv
  have hR:=Hu (b:=b) (f:=f) (ts:=ts) (by simp[m6,h1,h3])
  have hlen:(bR ⟨b,f⟩ ts).b.length=6:=by rw[uX];exact h5.1
  generalize bR ⟨b,f⟩ ts=g at *
  generalize dx ⟨b,f⟩ ts=o at *
  obtain⟨gb,gf⟩:=g
  simp only at hlen hA hS hR
  (repeat' first|refine st ?_|refine sa fun xe hxe=>?_|refine sb (fun hq=>?_) fun hq=>?_|refine cr (hd) ?_|refine cr (hA) ?_|refine cr (hS) ?_|refine cr (hR) ?_|refine cr (Hc _ _) ?_|refine cr (Hb _) ?_|exact aC)
  all_goals first|exact⟨rfl,rfl⟩|exact absurd rfl hq|(exfalso;omega)
end

end Go.Proofs.Ytbmnihglaokhmaa.Am
