/- Orders: heaps of vertices in the program. Orders: vertices sink in heaps. Orders: vertices come out of heaps in order. Orders: what a wave orders, vertex by vertex (plain laws). Orders: the program's orders. Orders: the program's OrderSlots, WorldOrder. Orders: slots held against each other. Orders: FnWorldOrder. Scripts: the specification's own functions. Scripts: what is drawn. Scripts: lines and last lines, plain. Scripts: a script is drawn; complete lines; last lines. The plain machine: a function that panics. -/
import Derived.Test.YtpefhoohfkeflacGreatDoorEC11
set_option linter.unusedSimpArgs false
set_option linter.unusedVariables false
set_option maxHeartbeats 1000000
namespace Go.Proofs.YtpefhoohfkeflacGreatDoor.Am
open Go
attribute [local irreducible] Mk ci Ari fB mA ju b9 cR iT fo At ag wB
set_option maxRecDepth 10000
def Θq:TT:=(154,⟨.slice 157,1,24,some .nils,some (.lst .odd),false⟩)::(157,⟨.struct [(73,0,4),(3,4,1)],5,56,some (.agg [.int .i64 0,.int .i64 0,.nils,.int .i64 0,.int .i64 0]),some .odd,false⟩)::(187,⟨.slice 73,1,24,some .nils,some (.lst .vtx),true⟩)::Θe
theorem dK:TT.ok Tryz.prog Θq:=TT.okB_ok (by kernel_rfl)
theorem j7 {P Q:Prop}(h:Q)(s:Hid Q→P:=by
  intro h
  (first|(with_reducible first|apply dQ|apply cU)|((first|with_reducible apply cJ dK|refine go ?_|(with_reducible first|apply df|apply dp|apply cH|apply cK|refine cI dK mixed (by kernel_rfl) ?_))<;>conv=>whnf))
  repeat(first|(with_reducible first|apply dQ|apply cU)|((first|with_reducible apply cJ dK|refine go ?_|(with_reducible first|apply df|apply dp|apply cH|apply cK|refine cI dK mixed (by kernel_rfl) ?_))<;>conv=>whnf))
  exact h.h):P:=s ⟨h⟩
theorem zZ (xs:List Vtx):ag Tryz.prog 185 [.lst .vtx xs] [] (.int .i64 xs.length) []:=by
 refine ab dK Tryz.func185 rfl rfl false 0 4 rfl rfl rfl rfl fun K hK hb1 hb2=>?_;simp only[ae,enc,Nat.reduceAdd]
 clear hb1 hb2
 (repeat' first|refine j7 ?_|refine sa fun xe hxe=>?_|refine sb (fun hq=>?_) fun hq=>?_|exact aa)
 exact⟨rfl,rfl⟩
theorem rD (xs:List Vtx)(i j:Nat)(x y:Vtx)(hi:xs[i]?=some x)(hj:xs[j]?=some y):ag Tryz.prog 250 [.lst .vtx xs,.int .i64 (i:Int),.int .i64 (j:Int)] [] (.bool (bef x y)) []:=by
 have hB:=vG x y
 refine ab dK Tryz.func250 rfl rfl false 0 4 rfl rfl rfl rfl fun K hK hb1 hb2=>?_;simp only[ae,enc,Nat.reduceAdd]
 clear hb1 hb2
 (repeat' first|refine j7 ?_|refine sa fun xe hxe=>?_|refine sb (fun hq=>?_) fun hq=>?_|refine cr (hB) ?_|exact aa)
 exact⟨rfl,rfl⟩
theorem vV (xs:List Vtx)(i j:Nat)(x y:Vtx)(hi:xs[i]?=some x)(hj:xs[j]?=some y):ag Tryz.prog 253 [.ref 4,.int .i64 (i:Int),.int .i64 (j:Int)] [(4,.row 73 .vtx xs)] (.tup []) [(4,.row 73 .vtx (yw xs i j x y))]:=by
 have hxj:(xs.set i y)[j]?=some (if i=j then y else y):=by
  rw[dm]
  have:=(aR.1 hj).1
  by_cases e:i=j
  ·rw[if_pos e,if_pos (by omega),if_pos e]
  ·rw[if_neg e,if_neg e,hj]
 have h1:=(aR.1 hi).1
 have h2:=(aR.1 hj).1
 have h3:(xs.set i y).length=xs.length:=by simp
 refine ab dK Tryz.func253 rfl rfl false 1 5 rfl rfl rfl rfl fun K hK hb1 hb2=>?_;simp only[ae,enc,Nat.reduceAdd]
 clear hb1 hb2
 (repeat' first|refine j7 ?_|refine sa fun xe hxe=>?_|refine sb (fun hq=>?_) fun hq=>?_|exact aa)
 exact⟨rfl,rfl⟩
abbrev qB (xs:List Vtx):VH:=[(4,.var 187 [.ref 5]),(5,.row 73 .vtx xs)]
abbrev qG (xs:List Vtx):VH:=[(4,.var 187 [.ref 6]),(5,.gone),(6,.row 73 .vtx xs)]
theorem IU (xs:List Vtx)(v:Vtx)(hl:xs.length≤1000000):ag Tryz.prog 252 [.ptr 4 0,.ifc 73 (cY v)] (qB xs) (.tup []) (qG (xs++[v])):=by
 refine ab dK Tryz.func252 rfl rfl false 2 6 rfl rfl rfl rfl fun K hK hb1 hb2=>?_;simp only[ae,enc,Nat.reduceAdd]
 clear hb1 hb2
 (repeat' first|refine j7 ?_|refine sa fun xe hxe=>?_|refine sb (fun hq=>?_) fun hq=>?_|exact aa)
 exact⟨rfl,rfl⟩
theorem LY (xs:List Vtx)(n:Nat)(v:Vtx)(hn:xs.length=n+1)(hl:n≤1000000)(hv:xs[n]?=some v):ag Tryz.prog 251 [.ptr 4 0] (qB xs) (.ifc 73 (cY v)) (qG (xs.take n)):=by
 have e1:((xs.length:Int)-1).toNat=n:=by omega
 have hx:xs[((xs.length:Int)-1).toNat]?=some v:=by rw[e1];exact hv
 have hcut:lM xs none (some (.int .i64 ((xs.length:Int)-1))) 0 ((xs.length:Int)-1).toNat=xs.take n:=by rw[e1];rfl
 refine ab dK Tryz.func251 rfl rfl false 2 6 rfl rfl rfl rfl fun K hK hb1 hb2=>?_;simp only[ae,enc,Nat.reduceAdd]
 clear hb1 hb2
 (repeat' first|refine j7 ?_|refine sa fun xe hxe=>?_|refine sb (fun hq=>?_) fun hq=>?_|exact aa)
 exact⟨rfl,by rw[←hcut]⟩
theorem M9 (xs:List Vtx)(j:Nat)(hj:j<xs.length)(hl:xs.length≤1000000)(ha:xs.Pairwise fun a b=>bef a b=true):ag Tryz.prog 184 [.ifc 186 (.ptr 4 0),.int .i64 (j:Int)] (qB xs) (.tup []) (qB xs):=by
 have hm : kx Tryz.prog 186 "Less" = some (250, false) := by kernel_rfl
 refine ab dK Tryz.func184 rfl rfl false 2 6 rfl rfl rfl rfl fun K hK hb1 hb2=>?_;simp only[ae,enc,Nat.reduceAdd]
 clear hb1 hb2
 (repeat' first|refine j7 ?_|refine sa fun xe hxe=>?_|refine sb (fun hq=>?_) fun hq=>?_|exact aa)
 refine ah hK [] [0,1] (fun _:Unit=>⟨[(0,.ifc 186 (.ptr 4 0)),(1,.int .i64 (j:Int))],qB xs,6⟩) (fun _=>True) (fun _=>0) () trivial rfl ?_
 intro _ _
 cases j with
 |zero=>
  have hq0:(((0:Nat):Int)-1).tdiv 2=((0:Nat):Int):=by decide
  (repeat' first|refine j7 ?_|refine sa fun xe hxe=>?_|refine sb (fun hq=>?_) fun hq=>?_|exact aa)
  (try any_goals(first|exact absurd trivial hq|exact absurd rfl hq|exact absurd hq (by omega)|(exfalso;simp at hq;done)))
  exact⟨rfl,rfl⟩
 |succ j=>
  have e:(((j+1:Nat):Int)-1).tdiv 2=((j/2:Nat):Int):=by
   rw[ml (by omega)]
   omega
  have hx:xs[j+1]?=some xs[j+1]:=am hj
  have hp:j/2<xs.length:=by omega
  have hy:xs[j/2]?=some xs[j/2]:=am hp
  have hL:=rD xs (j+1) (j/2) xs[j+1] xs[j/2] hx hy
  rw[nX (qI.1 ha _ _ hp hj (by omega)),←e] at hL
  have hne:¬(((j+1:Nat):Int)-1).tdiv 2=((j+1:Nat):Int):=by rw[e];omega
  (repeat' first|refine j7 ?_|refine sa fun xe hxe=>?_|refine sb (fun hq=>?_) fun hq=>?_|refine cr (hL) ?_|exact aa)
  (try any_goals(first|exact absurd trivial hq|exact absurd rfl hq|exact absurd hq (by omega)|(exfalso;simp at hq;done)))
  exact⟨rfl,rfl⟩
theorem HX (xs:List Vtx)(v:Vtx)(hl:xs.length≤100000)(ha:(xs++[v]).Pairwise fun a b=>bef a b=true):ag Tryz.prog 157 [.ifc 186 (.ptr 4 0),.ifc 73 (cY v)] (qB xs) (.tup []) (qG (xs++[v])):=by
 have hm : kx Tryz.prog 186 "Push" = some (252, true) := by kernel_rfl
 have hm2 : kx Tryz.prog 186 "Len" = some (185, false) := by kernel_rfl
 have hP:=IU xs v (by omega)
 have hN:=zZ (xs++[v])
 have hpl:(xs++[v]).length=xs.length+1:=by simp
 have hU:=M9 (xs++[v]) xs.length (by omega) (by omega) ha
 have e:(((xs++[v]).length:Nat):Int)-1=(xs.length:Int):=by omega
 rw[←e] at hU
 refine ab dK Tryz.func157 rfl rfl false 2 6 rfl rfl rfl rfl fun K hK hb1 hb2=>?_;simp only[ae,enc,Nat.reduceAdd]
 clear hb1 hb2
 (repeat' first|refine j7 ?_|refine sa fun xe hxe=>?_|refine sb (fun hq=>?_) fun hq=>?_|refine cr (hN) ?_|refine co (hP) ?_|refine co (hU) ?_|exact aa)
 exact⟨rfl,rfl⟩
structure SDone (l0 l:List Vtx)(n:Nat):Prop where
 len:l.length=l0.length
 perm:(l.take n).Perm (l0.take n)
 rest:∀k,n≤k→l[k]?=l0[k]?
 heap:Heap l n
theorem tl {l0 l:List Vtx}{n i:Nat}(h:Sft l0 l n i)(hn:n≤2*i+1):SDone l0 l n:=by
 refine⟨h.len,h.perm,h.rest,?_⟩
 intro k a b k0 kn ha hb
 exact h.hp k a b k0 kn (by omega) ha hb
theorem kJ {l0 l:List Vtx}{n i:Nat}(h:Sft l0 l n i){x y:Vtx}(hi:l[i]?=some x)(hb:bef y x=false)(hs:∀k z,0<k→k<n→(k-1)/2=i→l[k]?=some z→bef z y=false):SDone l0 l n:=
 ⟨h.len,h.perm,h.rest,I7 h hi fun k z k0 kn kp hz=>sS (hs k z k0 kn kp hz) hb⟩
theorem JJ {l:List Vtx}{n i:Nat}{a b:Vtx}(ha:l[2*i+1]?=some a)(hb:l[2*i+2]?=some b)(h:bef b a=true):∀k z,0<k→k<n→(k-1)/2=i→l[k]?=some z→bef z b=false:=fun k z k0 kn kp hz=>by
 rcases (show k=2*i+1∨k=2*i+2 by omega) with rfl|rfl
 ·rw[ha] at hz
  obtain rfl:=ar hz
  exact nX h
 ·rw[hb] at hz
  obtain rfl:=ar hz
  rw[ck]
  intro h2
  rw[jI] at h2
  omega
theorem AP {l:List Vtx}{n i:Nat}{a:Vtx}(ha:l[2*i+1]?=some a)(h:∀b,2*i+2<n→l[2*i+2]?=some b→bef b a=false):∀k z,0<k→k<n→(k-1)/2=i→l[k]?=some z→bef z a=false:=fun k z k0 kn kp hz=>by
 rcases (show k=2*i+1∨k=2*i+2 by omega) with rfl|rfl
 ·rw[ha] at hz
  obtain rfl:=ar hz
  rw[ck]
  intro h2
  rw[jI] at h2
  omega
 ·exact h z kn hz
theorem Mc {l0:List Vtx}{n:Nat}(hn:n≤l0.length):∀(m i:Nat) (l:List Vtx),n-i≤m→i<l0.length→Sft l0 l n i→∃ys,SDone l0 ys n:=by
 intro m
 induction m with
 |zero=>exact fun i l hm _ h=>⟨l,tl h (by omega)⟩
 |succ m ih=>
  intro i l hm hil h
  have hlen:=h.len
  by_cases h1:n≤2*i+1
  ·exact⟨l,tl h h1⟩
  have hx:l[i]?=some (l[i]'(by omega)):=am _
  have ha:l[2*i+1]?=some (l[2*i+1]'(by omega)):=am _
  generalize l[i]'(by omega)=x at *
  generalize l[2*i+1]'(by omega)=a at *
  by_cases h2:2*i+2<n
  ·have hb:l[2*i+2]?=some (l[2*i+2]'(by omega)):=am _
   generalize l[2*i+2]'(by omega)=b at *
   cases h3:bef b a
   ·have hs:=AP (n:=n) ha fun b' _ hb'=>by rw[hb] at hb';obtain rfl:=ar hb';exact h3
    cases h4:bef a x
    ·exact⟨l,kJ h hx h4 hs⟩
    ·exact ih _ _ (by omega) (by omega) (kI h hx ha (by omega) (by omega) (by omega) h4 hs)
   ·have hs:=JJ (n:=n) ha hb h3
    cases h4:bef b x
    ·exact⟨l,kJ h hx h4 hs⟩
    ·exact ih _ _ (by omega) (by omega) (kI h hx hb (by omega) (by omega) (by omega) h4 hs)
  ·have hs:=AP (n:=n) ha fun b' h5 _=>absurd h5 h2
   cases h4:bef a x
   ·exact⟨l,kJ h hx h4 hs⟩
   ·exact ih _ _ (by omega) (by omega) (kI h hx ha (by omega) (by omega) (by omega) h4 hs)
set_option maxHeartbeats 1000000 in
theorem HW (zs:List Vtx)(n:Nat)(hn:n≤zs.length)(h0:0<zs.length)(hl:zs.length≤100000)(hS:Sft zs zs n 0):∃x:List Vtx×Bool,SDone zs x.1 n∧ag Tryz.prog 204 [.ifc 186 (.ptr 4 0),.int .i64 0,.int .i64 (n:Int)] (qB zs) (.bool x.2) (qB x.1):=by
 obtain⟨y0,hy0⟩:=Mc hn n 0 zs (by omega) h0 hS
 suffices hs:∃r hout,(∃x:List Vtx×Bool,SDone zs x.1 n∧r= .bool x.2∧hout=qB x.1)∧ag Tryz.prog 204 [.ifc 186 (.ptr 4 0),.int .i64 0,.int .i64 (n:Int)] (qB zs) r hout by
  obtain⟨r,hout,⟨v,hv,rfl,rfl⟩,h⟩:=hs
  exact⟨v,hv,h⟩
 have hm : kx Tryz.prog 186 "Less" = some (250, false) := by kernel_rfl
 have hm2 : kx Tryz.prog 186 "Swap" = some (253, false) := by kernel_rfl
 refine lL dK Tryz.func204 rfl rfl false 2 6 rfl rfl rfl rfl (R:=fun r hout=>∃x:List Vtx×Bool,SDone zs x.1 n∧r= .bool x.2∧hout=qB x.1) (r0:=.bool true) (hout0:=qB y0) (⟨(y0,true),hy0,rfl,rfl⟩) fun K hK hb1 hb2=>?_;simp only[ae,enc,Nat.reduceAdd]
 clear hb1 hb2
 (repeat' first|refine j7 ?_|refine sa fun xe hxe=>?_|refine sb (fun hq=>?_) fun hq=>?_|exact aa)
 refine ah hK [] [0,1,2,7] (fun x:Nat×List Vtx=>⟨[(0,.ifc 186 (.ptr 4 0)),(1,.int .i64 0),(2,.int .i64 (n:Int)),(7,.int .i64 (x.1:Int))],qB x.2,6⟩) (fun x=>Sft zs x.2 n x.1∧x.1<zs.length) (fun x=>zs.length-x.1) (0,zs) ⟨hS,h0⟩ rfl ?_
 rintro⟨i,l⟩ ⟨h,hil⟩
 dsimp only at h hil⊢
 have hlen:=h.len
 by_cases h1:n≤2*i+1
 ·have hd:=tl h h1
  (repeat' first|refine j7 ?_|refine sa fun xe hxe=>?_|refine sb (fun hq=>?_) fun hq=>?_|exact aa)
  (try any_goals(first|exact absurd trivial hq|exact absurd rfl hq|exact absurd hq (by omega)|(exfalso;simp at hq;done)))
  exact⟨(l,_),hd,rfl,rfl⟩
 have hx:l[i]?=some (l[i]'(by omega)):=am _
 have ha:l[2*i+1]?=some (l[2*i+1]'(by omega)):=am _
 generalize l[i]'(by omega)=x at *
 generalize l[2*i+1]'(by omega)=a at *
 have e1:((2*i+1:Nat):Int)=2*(i:Int)+1:=by omega
 have e2:((2*i+2:Nat):Int)=2*(i:Int)+1+1:=by omega
 have hLa:=rD l (2*i+1) i a x ha hx
 have hSa:=vV l i (2*i+1) x a hx ha
 rw[e1] at hLa hSa
 by_cases h2:2*i+2<n
 ·have hb:l[2*i+2]?=some (l[2*i+2]'(by omega)):=am _
  generalize l[2*i+2]'(by omega)=b at *
  have hLb:=rD l (2*i+2) (2*i+1) b a hb ha
  have hLc:=rD l (2*i+2) i b x hb hx
  have hSb:=vV l i (2*i+2) x b hx hb
  rw[e2,e1] at hLb
  rw[e2] at hLc hSb
  cases h3:bef b a
  ·have hs:=AP (n:=n) ha fun b' _ hb'=>by rw[hb] at hb';obtain rfl:=ar hb';exact h3
   rw[h3] at hLb
   cases h4:bef a x
   ·have hd:=kJ h hx h4 hs
    rw[h4] at hLa
    (repeat' first|refine j7 ?_|refine sa fun xe hxe=>?_|refine sb (fun hq=>?_) fun hq=>?_|refine cr (hLb) ?_|refine cr (hLa) ?_|exact aa)
    (try any_goals(first|exact absurd trivial hq|exact absurd rfl hq|exact absurd hq (by omega)|(exfalso;simp at hq;done)))
    exact⟨(l,_),hd,rfl,rfl⟩
   ·have hst:=kI h hx ha (by omega) (by omega) (by omega) h4 hs
    rw[h4] at hLa
    generalize yw l i (2*i+1) x a=l2 at *
    (repeat' first|refine j7 ?_|refine sa fun xe hxe=>?_|refine sb (fun hq=>?_) fun hq=>?_|refine cr (hLb) ?_|refine cr (hLa) ?_|refine co (hSa) ?_|exact aa)
    (try any_goals(first|exact absurd trivial hq|exact absurd rfl hq|exact absurd hq (by omega)|(exfalso;simp at hq;done)))
    exact⟨(2*i+1,l2),⟨hst,by dsimp only;omega⟩,by dsimp only;omega,by dsimp only;rw[e1]⟩
  ·have hs:=JJ (n:=n) ha hb h3
   rw[h3] at hLb
   cases h4:bef b x
   ·have hd:=kJ h hx h4 hs
    rw[h4] at hLc
    (repeat' first|refine j7 ?_|refine sa fun xe hxe=>?_|refine sb (fun hq=>?_) fun hq=>?_|refine cr (hLb) ?_|refine cr (hLc) ?_|exact aa)
    (try any_goals(first|exact absurd trivial hq|exact absurd rfl hq|exact absurd hq (by omega)|(exfalso;simp at hq;done)))
    exact⟨(l,_),hd,rfl,rfl⟩
   ·have hst:=kI h hx hb (by omega) (by omega) (by omega) h4 hs
    rw[h4] at hLc
    generalize yw l i (2*i+2) x b=l2 at *
    (repeat' first|refine j7 ?_|refine sa fun xe hxe=>?_|refine sb (fun hq=>?_) fun hq=>?_|refine cr (hLb) ?_|refine cr (hLc) ?_|refine co (hSb) ?_|exact aa)
    (try any_goals(first|exact absurd trivial hq|exact absurd rfl hq|exact absurd hq (by omega)|(exfalso;simp at hq;done)))
    exact⟨(2*i+2,l2),⟨hst,by dsimp only;omega⟩,by dsimp only;omega,by dsimp only;rw[e2]⟩
 ·have hs:=AP (n:=n) ha fun b' h5 _=>absurd h5 h2
  cases h4:bef a x
  ·have hd:=kJ h hx h4 hs
   rw[h4] at hLa
   (repeat' first|refine j7 ?_|refine sa fun xe hxe=>?_|refine sb (fun hq=>?_) fun hq=>?_|refine cr (hLa) ?_|exact aa)
   (try any_goals(first|exact absurd trivial hq|exact absurd rfl hq|exact absurd hq (by omega)|(exfalso;simp at hq;done)))
   exact⟨(l,_),hd,rfl,rfl⟩
  ·have hst:=kI h hx ha (by omega) (by omega) (by omega) h4 hs
   rw[h4] at hLa
   generalize yw l i (2*i+1) x a=l2 at *
   (repeat' first|refine j7 ?_|refine sa fun xe hxe=>?_|refine sb (fun hq=>?_) fun hq=>?_|refine cr (hLa) ?_|refine co (hSa) ?_|exact aa)
   (try any_goals(first|exact absurd trivial hq|exact absurd rfl hq|exact absurd hq (by omega)|(exfalso;simp at hq;done)))
   exact⟨(2*i+1,l2),⟨hst,by dsimp only;omega⟩,by dsimp only;omega,by dsimp only;rw[e1]⟩
theorem Ji {xs:List Vtx}{n:Nat}{r y:Vtx}(hn:xs.length=n+1)(hh:Heap xs xs.length)(hr:xs[0]?=some r)(hy:xs[n]?=some y):Sft (yw xs 0 n r y) (yw xs 0 n r y) n 0:=by
 refine NC fun k a b k0 kn kp ha hb=>?_
 rw[wh hr hy,if_neg (by omega),if_neg (by omega)] at ha
 rw[wh hr hy,if_neg (by omega),if_neg kp] at hb
 exact hh k a b k0 (by omega) ha hb
theorem KK (xs:List Vtx)(n:Nat)(r:Vtx)(hn:xs.length=n+1)(hl:n≤10000)(hh:Heap xs xs.length)(hr:xs[0]?=some r):∃ys:List Vtx,(ys.length=n∧Heap ys n∧(r::ys).Perm xs)∧ag Tryz.prog 186 [.ifc 186 (.ptr 4 0)] (qB xs) (.ifc 73 (cY r)) (qG ys):=by
 have hm : kx Tryz.prog 186 "Pop" = some (251, true) := by kernel_rfl
 have hm2 : kx Tryz.prog 186 "Len" = some (185, false) := by kernel_rfl
 have hm3 : kx Tryz.prog 186 "Swap" = some (253, false) := by kernel_rfl
 have hy:xs[n]?=some (xs[n]'(by omega)):=am _
 generalize xs[n]'(by omega)=y at *
 have hsf:=Ji hn hh hr hy
 have hsp:=yx hr hy
 have hsl:=Cc xs 0 n r y
 have hsn:(yw xs 0 n r y)[n]?=some r:=by rw[wh hr hy,if_pos rfl]
 have hS:=vV xs 0 n r y hr hy
 generalize yw xs 0 n r y=zs at *
 obtain⟨⟨l,b⟩,hd,hD⟩:=HW zs n (by omega) (by omega) (by omega) hsf
 dsimp only at hd hD
 have hll:=hd.len
 have hln:l[n]?=some r:=by rw[hd.rest n (ax _)];exact hsn
 have hP:=LY l n r (by omega) (by omega) hln
 have hN:=zZ xs
 have e:((xs.length:Int)-1)=(n:Int):=by omega
 rw[←e] at hS hD
 have hzt:zs=zs.take n++[r]:=by
  have h1:zs=zs.take (n+1):=(bp (by omega)).symm
  obtain⟨h2,h3⟩:=aR.1 hsn
  rw[b8 h2,h3] at h1
  exact h1
 refine⟨l.take n,⟨by rw[bP];omega,?_,?_⟩,?_⟩
 ·intro k a b' k0 kn ha hb
  rw[en,if_pos kn] at ha
  rw[en,if_pos (by omega)] at hb
  exact hd.heap k a b' k0 kn ha hb
 ·have h1:(r::l.take n).Perm (r::zs.take n):=List.Perm.cons r hd.perm
  have h2:(r::zs.take n).Perm (zs.take n++[r]):=by
   have:=List.perm_append_comm (l₁:=[r]) (l₂:=zs.take n)
   simpa using this
  rw[←hzt] at h2
  exact h1.trans (h2.trans hsp)
 ·clear hzt
  refine ab dK Tryz.func186 rfl rfl false 2 6 rfl rfl rfl rfl fun K hK hb1 hb2=>?_;simp only[ae,enc,Nat.reduceAdd]
  clear hb1 hb2
  (repeat' first|refine j7 ?_|refine sa fun xe hxe=>?_|refine sb (fun hq=>?_) fun hq=>?_|refine cr (hN) ?_|refine co (hS) ?_|refine co (hD) ?_|refine co (hP) ?_|exact aa)
  exact⟨rfl,rfl⟩
def Nt (w:Int)(m:Nat)(ys:List Vtx)(os:List Odd):VSt:=match m with
 |0=>⟨[(0,.ptr 4 0),(1,.int .i64 w),(5,.ref 6)],qB ys++[(6,.row 157 .odd os)],7⟩
 |_+1=>⟨[(0,.ptr 4 0),(1,.int .i64 w),(5,.ref 6)],[(4,.var 187 [.ref 7]),(5,.gone),(6,.row 157 .odd os),(7,.row 73 .vtx ys)],8⟩
def qE (s:List Vtx):VH:=if s=[] then qB [] else qG []
theorem HA (s xs:List Vtx)(w:Int)(hl:s.length≤10000)(hs:s.Pairwise fun a b=>bef a b=true)(hp:xs.Perm s)(hh:Heap xs xs.length):ag Tryz.prog 158 [.ptr 4 0,.int .i64 w] (qB xs) (.lst .odd (s.map fun v=>⟨v,w⟩)) (qE s):=by
 refine ab dK Tryz.func158 rfl rfl true 2 6 rfl rfl rfl rfl fun K hK hb1 hb2=>?_;simp only[ae,enc,Nat.reduceAdd]
 clear hb1 hb2
 (repeat' first|refine j7 ?_|refine sa fun xe hxe=>?_|refine sb (fun hq=>?_) fun hq=>?_|exact aa)
 refine ah hK [] [0,1,5] (fun x:Nat×List Vtx=>Nt w x.1 x.2 ((s.take x.1).map fun v=>⟨v,w⟩)) (fun x=>x.1≤s.length∧x.2.Perm (s.drop x.1)∧Heap x.2 x.2.length) (fun x=>s.length-x.1) (0,xs) ⟨aW _,by simpa using hp,hh⟩ rfl ?_
 rintro⟨m,ys⟩ ⟨hm,hpm,hhm⟩
 dsimp only at hm hpm hhm⊢
 have hyl:ys.length=s.length-m:=by rw[hpm.length_eq,lw]
 have hN:=zZ ys
 by_cases hlt:m<s.length
 ·obtain⟨v,hv⟩:∃v,s[m]?=some v:=⟨_,am hlt⟩
  have hvd:s.drop m=v::s.drop (m+1):=by
   obtain⟨h1,h2⟩:=aR.1 hv
   rw[←h2]
   exact ny h1
  have h3:s.take (m+1)=s.take m++[v]:=by
   obtain⟨h1,h2⟩:=aR.1 hv
   rw[←h2]
   exact b8 h1
  have hr:ys[0]?=some (ys[0]'(by omega)):=am _
  have hrv:ys[0]'(by omega)=v:=CM (s:=s.drop (m+1)) (x:=v) (by rw[←hvd];exact hs.sublist (List.drop_sublist _ _)) (by rw[←hvd];exact hpm) hhm hr
  rw[hrv] at hr
  obtain⟨zs,⟨z1,z2,z3⟩,hP⟩:=KK ys (ys.length-1) v (by omega) (by omega) hhm hr
  have hzp:zs.Perm (s.drop (m+1)):=by
   have:=z3.trans hpm
   rw[hvd] at this
   exact List.Perm.cons_inv this
  have hsn:(s.take (m+1)).map (fun v=>(⟨v,w⟩:Odd))=(s.take m).map (fun v=>(⟨v,w⟩:Odd))++[⟨v,w⟩]:=by rw[h3,ce];rfl
  have htl:((s.take m).map (fun v=>(⟨v,w⟩:Odd))).length=m:=by simp;omega
  generalize hA:(s.take m).map (fun v=>(⟨v,w⟩:Odd))=A at *
  cases m with
  |zero=>
   unfold Nt
   (repeat' first|refine j7 ?_|refine sa fun xe hxe=>?_|refine sb (fun hq=>?_) fun hq=>?_|refine cr (hN) ?_|refine co (hP) ?_|exact aa)
   (try any_goals(first|exact absurd trivial hq|exact absurd rfl hq|exact absurd hq (by omega)|(exfalso;simp at hq;done)))
   exact⟨(0+1,zs),⟨by dsimp only;omega,hzp,by dsimp only;rw[z1];exact z2⟩,by dsimp only;omega,by dsimp only;rw[hsn]⟩
  |succ m=>
   unfold Nt
   (repeat' first|refine j7 ?_|refine sa fun xe hxe=>?_|refine sb (fun hq=>?_) fun hq=>?_|refine cr (hN) ?_|refine co (hP) ?_|exact aa)
   (try any_goals(first|exact absurd trivial hq|exact absurd rfl hq|exact absurd hq (by omega)|(exfalso;simp at hq;done)))
   exact⟨(m+1+1,zs),⟨by dsimp only;omega,hzp,by dsimp only;rw[z1];exact z2⟩,by dsimp only;omega,by dsimp only;rw[hsn]⟩
 ·obtain rfl:m=s.length:=by omega
  rw[iN]
  have hy0:ys=[]:=nP.1 (by omega)
  subst hy0
  cases hsc:s with
  |nil=>
   subst hsc
   unfold Nt
   (repeat' first|refine j7 ?_|refine sa fun xe hxe=>?_|refine sb (fun hq=>?_) fun hq=>?_|refine cr (hN) ?_|exact aa)
   (try any_goals(first|exact absurd trivial hq|exact absurd rfl hq|exact absurd hq (by omega)|(exfalso;simp at hq;done)))
   exact⟨rfl,rfl⟩
  |cons v s'=>
   have hE:qE (v::s')=qG []:=by unfold qE;rw[if_neg (by simp)]
   rw[hE]
   generalize (v::s').map (fun v=>(⟨v,w⟩:Odd))=A at *
   simp only[bF]
   unfold Nt
   (repeat' first|refine j7 ?_|refine sa fun xe hxe=>?_|refine sb (fun hq=>?_) fun hq=>?_|refine cr (hN) ?_|exact aa)
   (try any_goals(first|exact absurd trivial hq|exact absurd rfl hq|exact absurd hq (by omega)|(exfalso;simp at hq;done)))
   exact⟨rfl,rfl⟩
end Go.Proofs.YtpefhoohfkeflacGreatDoor.Am
namespace Go.Proofs.YtpefhoohfkeflacGreatDoor.Am
open Go
noncomputable def oddTo (g:List Vtx) (l:List Int):List Odd→List Nat→List Odd
 |os,[]=>os
 |os,w::ws=>oddTo g l (os++(ordW g l (os.map (·.v)) w).map fun v=>⟨v,(w:Int)⟩) ws
theorem BL (g:List Vtx)(l:List Int):∀(ws:List Nat) (os:List Odd),(oddTo g l os ws).map (·.v)=ordTo g l (os.map (·.v)) ws
 |[],os=>rfl
 |w::ws,os=>by
  rw[oddTo,BL g l ws,nJ,ce,ep]
  congr 2
  exact List.map_id _
theorem uw (g:List Vtx)(l:List Int):∀(ws ws':List Nat) (os:List Odd),oddTo g l os (ws++ws')=oddTo g l (oddTo g l os ws) ws'
 |[],_,_=>rfl
 |w::ws,ws',os=>uw g l ws ws' _
open Classical in
noncomputable def dnF (g os:List Vtx):List Bool:=g.map fun v=>decide (v∈os)
open Classical in
theorem Ea {g os:List Vtx}{i:Nat}{v:Vtx}(h:g[i]?=some v):(dnF g os)[i]?=some (decide (v∈os)):=by rw[dnF,be,h];rfl
theorem AZ (g os:List Vtx):(dnF g os).length=g.length:=by simp[dnF]
open Classical in
theorem Hy {c:List Int}{g:List Vtx}(hg:GraOK c g){os:List Vtx}{i:Nat}{v:Vtx}(h:g[i]?=some v):(dnF g os).set i true=dnF g (os++[v]):=by
 refine nS fun k=>?_
 rw[dm,AZ]
 have hi:=(aR.1 h).1
 by_cases e:i=k
 ·subst e
  rw[if_pos rfl,if_pos hi,Ea h,decide_eq_true (by simp)]
 ·rw[if_neg e,dnF,dnF,be,be]
  cases hk:g[k]? with
  |none=>rfl
  |some x=>
   simp only[aI,aw]
   rw[d6,decide_eq_true_iff,decide_eq_true_iff,bl,aY]
   refine⟨.inl,fun hx=>?_⟩
   rcases hx with hx|rfl
   ·exact hx
   ·exact absurd (EC hg h hk) e
open Classical in
theorem M3 (g:List Vtx):dnF g []=List.replicate g.length false:=by
 refine List.ext_getElem (by simp[dnF]) fun k h1 h2=>?_
 simp[dnF]
open Classical in
noncomputable def pvx (g:List Vtx) (k:Vtx):List Vtx:=g.filter fun v=>decide (Rv g k v)
open Classical in
theorem IT (g:List Vtx)(k:Vtx):(pvx g k).length=(pst g k).length:=by
 unfold pvx pst
 rw[az]
 have e:g=(List.range g.length).map fun i=>g.getD i v0:=by
  refine List.ext_getElem (by simp) fun i h1 h2=>?_
  simp[aq,am h1]
 conv=>lhs;rw[e]
 rw[List.filter_map,az]
 simp only[←e]
 rfl
open Classical in
theorem LW {g:List Vtx}{k:Vtx}{j:Nat}{x:Int}(h:(pst g k)[j]?=some x):∃i:Nat,x=i∧∃v,g[i]?=some v∧(pvx g k)[j]?=some v:=by
 have hm:=BV.1 (br h)
 obtain⟨i,hi,v,hv,-⟩:=hm
 refine⟨i,hi,v,hv,?_⟩
 have e:g=(List.range g.length).map fun i=>g.getD i v0:=by
  refine List.ext_getElem (by simp) fun i h1 h2=>?_
  simp[aq,am h1]
 have e2:pvx g k=((List.range g.length).filter fun i=>decide (Rv g k (g.getD i v0))).map fun i=>g.getD i v0:=by
  unfold pvx
  conv=>lhs;rw[e]
  rw[List.filter_map]
  simp only[←e]
  rfl
 have e3:pst g k=((List.range g.length).filter fun i=>decide (Rv g k (g.getD i v0))).map fun i:Nat=>(i:Int):=rfl
 rw[e3,be] at h
 rw[e2,be]
 cases hf:((List.range g.length).filter fun i=>decide (Rv g k (g.getD i v0)))[j]? with
 |none=>rw[hf] at h;cases h
 |some m=>
  rw[hf] at h
  have hm:(m:Int)=x:=ar h
  obtain rfl:m=i:=by omega
  simp[aq,hv]
open Classical in
noncomputable def qvx (g:List Vtx) (k:Vtx) (w:Nat) (os:List Vtx) (j:Nat):List Vtx:=((pvx g k).take j).filter fun v=>decide (2*(w:Int)-7≤v.round) && decide (v∉os)
open Classical in
theorem F2 {g:List Vtx}{k v:Vtx}{w:Nat}{os:List Vtx}{j:Nat}(h:(pvx g k)[j]?=some v):qvx g k w os (j+1)=if 2*(w:Int)-7≤v.round∧v∉os then qvx g k w os j++[v] else qvx g k w os j:=by
 obtain⟨h1,h2⟩:=aR.1 h
 unfold qvx
 rw[b8 h1,h2,pe,nz,mo]
 by_cases c1:2*(w:Int)-7≤v.round<;>by_cases c2:v∉os<;>simp[c1,c2]
open Classical in
theorem IV {g:List Vtx}{l:List Int}{k:Vtx}{w:Nat}{os:List Vtx}(hk:qw g l w=some k):qvx g k w os (pvx g k).length=ordW g l os w:=by
 unfold qvx ordW
 rw[hk,iN,pvx,List.filter_filter]
 refine nR fun v _=>?_
 exact Bool.and_comm _ _
theorem BW {c:List Int}{g:List Vtx}(hg:GraOK c g)(k:Vtx)(w:Nat)(os:List Vtx)(j:Nat):(qvx g k w os j).Pairwise fun a b=>bef a b=true:=
 hg.pw.sublist (((qi).trans (List.take_sublist _ _)).trans (qi))
theorem IW (g:List Vtx)(k:Vtx)(w:Nat)(os:List Vtx)(j:Nat):(qvx g k w os j).length≤g.length:=by
 unfold qvx pvx
 refine cu (my _ _) ?_
 rw[bP]
 exact cu (Nat.min_le_right _ _) (my _ _)
theorem IX {c:List Int}{g:List Vtx}(hg:GraOK c g){k v:Vtx}{w:Nat}{os:List Vtx}{j:Nat}(h:(pvx g k)[j]?=some v):v∉qvx g k w os j:=fun hm=>by
 have h1:=(eL.1 hm).1
 obtain⟨i,hi,rfl⟩:=qg h1
 rw[bP] at hi
 rw[List.getElem_take] at h
 obtain⟨h2,h3⟩:=aR.1 h
 have hp:(pvx g k).Pairwise fun a b=>bef a b=true:=hg.pw.sublist qi
 have:=qI.1 hp i j (by omega) h2 (by omega)
 rw[h3,jI] at this
 omega
end Go.Proofs.YtpefhoohfkeflacGreatDoor.Am
namespace Go.Proofs.YtpefhoohfkeflacGreatDoor.Am
open Go
attribute [local irreducible] Mk ci Ari fB mA ju b9 cR iT fo At ag wB
set_option maxRecDepth 10000
theorem FP (g:List Vtx)(l:List Int)(acc:List Vtx)(w:Nat):(ordW g l acc w).length≤g.length:=by
 unfold ordW
 split
 ·exact my _ _
 ·exact aW _
theorem mW (g:List Vtx)(l:List Int):∀(ws:List Nat) (os:List Odd),(oddTo g l os ws).length≤os.length+ws.length*g.length
 |[],os=>by simp[oddTo]
 |w::ws,os=>by
  have h:=mW g l ws (os++(ordW g l (os.map (·.v)) w).map fun v=>⟨v,(w:Int)⟩)
  have h2:=FP g l (os.map (·.v)) w
  simp only[aP,az] at h
  simp only[oddTo,bF,Nat.succ_mul]
  omega
open Classical in
set_option maxHeartbeats 1000000 in
theorem La (c:List Int)(g:List Vtx)(l:List Int)(hg:GraOK c g)(hgl:g.length≤1000)(hl:leaS c l=true):ag Tryz.prog 115 [.agg [.ptr 4 0,.lst (.int .i64) l]] (gR c (da g)) (.lst .odd (oddTo g l [] (cmt c g l l.length).1)) (gR c (da g)):=by
 have hll:=(bR.1 hl).2
 have hn:=(fj g).1
 have hC:=KP c g l hg (by omega) hl
 have hcl:=mH c g l hg.com l.length
 have hcm:=mG (g:=g) hg.com l l.length
 have hrl:((List.range (da g).nodes.length).map some).length=g.length:=by simp[hn]
 have hfit:kZ 1 (((((List.range (da g).nodes.length).map some).length:Nat):Int).toNat):=by rw[hrl];unfold kZ;omega
 generalize (cmt c g l l.length).1=W at *
 have hil:=gD W
 have hol:=fun i=>mW g l (W.take i) []
 refine ab dK Tryz.func115 rfl rfl true 2 6 rfl rfl rfl rfl fun K hK hb1 hb2=>?_;simp only[ae,enc,Nat.reduceAdd]
 clear hb1 hb2
 (repeat' first|refine j7 ?_|refine sa fun xe hxe=>?_|refine sb (fun hq=>?_) fun hq=>?_|refine co (hC) ?_|exact aa)
 clear hC
 refine ah hK [] [1,3,4,22,23,24] (fun i:Nat=>⟨[(1,.ptr 6 0),(3,.ref 7),(4,.ref 8),(22,.lst (.int .i64) (bO W)),(23,.int .i64 W.length),(24,.int .i64 (i:Int))],HO c (da g) (.var 151 [.ptr 4 0,.lst (.int .i64) l])++[(7,.row 157 .odd (oddTo g l [] (W.take i))),(8,.row 4 .bool (dnF g ((oddTo g l [] (W.take i)).map (·.v))))],9⟩) (fun i=>i≤W.length) (fun i=>W.length-i) 0 (aW _) ?_ ?_
 ·have e:List.replicate ((((List.range (da g).nodes.length).map some).length:Int).toNat) false=dnF g ((oddTo g l [] (W.take 0)).map (·.v)):=by
   rw[List.take_zero,hrl]
   exact(M3 g).symm
  rw[←e,←hil]
  rfl
 intro i hi
 by_cases hlt:i<W.length
 ·obtain⟨w,hw⟩:∃w,W[i]?=some w:=⟨_,am hlt⟩
  have hwx:(bO W)[i]?=some (w:Int):=by rw[bO,be,hw];rfl
  obtain⟨w1,w2,k,hk⟩:=hcm w (br hw)
  have htk:W.take (i+1)=W.take i++[w]:=by
   obtain⟨h1,h2⟩:=aR.1 hw
   rw[←h2];exact b8 h1
  have hap:=uw g l (W.take i) [w] []
  rw[←htk] at hap
  have hoi:=hol i
  rw[bP] at hoi
  have hoi2:(oddTo g l [] (W.take i)).length≤15000:=by
   refine cu hoi ?_
   simp only[dz,eX]
   exact cu (Nat.mul_le_mul (show min i W.length≤15 by omega) hgl) (by omega)
  obtain⟨n,hnn,hgn⟩:=qU hg hl w1 w2 hk
  have hL:=vI c g l w n hg hl w1 w2 hnn
  have hP:=vJ c g hg (by omega) n k hgn
  have hkr:=(sK hk).2.1
  obtain⟨p0,hp0⟩:=lQ hgn
  have hpl:=vU g k
  have hpv:=IT g k
  clear htk hol hcm
  generalize oddTo g l [] (W.take i)=os at *
  have hap:oddTo g l [] (W.take (i+1))=os++(ordW g l (os.map (·.v)) w).map fun v=>⟨v,(w:Int)⟩:=hap
  (repeat' first|refine j7 ?_|refine sa fun xe hxe=>?_|refine sb (fun hq=>?_) fun hq=>?_|refine co (hL) ?_|refine co (hP) ?_|exact aa)
  clear hL hP
  refine ah hK [] [1,3,4,6,7,9,22,23,24,41,42,43] (fun j:Nat=>⟨[(1,.ptr 6 0),(3,.ref 7),(4,.ref 8),(6,.int .i64 (w:Int)),(7,.hpo 0 (some n)),(9,.ptr 9 0),(22,.lst (.int .i64) (bO W)),(23,.int .i64 W.length),(24,.int .i64 (i:Int)),(41,.lst (.int .i64) (pst g k)),(42,.int .i64 (pst g k).length),(43,.int .i64 (j:Int))],HO c (da g) (.var 151 [.ptr 4 0,.lst (.int .i64) l])++[(7,.row 157 .odd os),(8,.row 4 .bool (dnF g (os.map (·.v)++qvx g k w (os.map (·.v)) j))),(9,.var 187 [.ref 10]),(10,.row 73 .vtx (qvx g k w (os.map (·.v)) j))],11⟩) (fun j=>j≤(pst g k).length) (fun j=>(pst g k).length-j) 0 (aW _) ?_ ?_
  ·rw[show qvx g k w (os.map (·.v)) 0=[] from rfl,gw]
   rfl
  intro j hj
  have hql:=IW g k w (os.map (·.v)) j
  have hdl:=AZ g (os.map (·.v)++qvx g k w (os.map (·.v)) j)
  by_cases hjl:j<(pst g k).length
  ·obtain⟨x,hx⟩:∃x,(pst g k)[j]?=some x:=⟨_,am hjl⟩
   obtain⟨ii,rfl,v,hv,hpx⟩:=LW hx
   have hsn:=F2 (w:=w) (os:=os.map (·.v)) hpx
   have hnew:=IX hg (w:=w) (os:=os.map (·.v)) hpx
   have hiil:=(aR.1 hv).1
   obtain⟨p,hp⟩:=lQ hv
   have hrg:=L4 (n:=(da g).nodes.length) (i:=ii) (by omega)
   have hda:=Ea (os:=os.map (·.v)++qvx g k w (os.map (·.v)) j) hv
   have hds:=Hy hg (os:=os.map (·.v)++qvx g k w (os.map (·.v)) j) hv
   rw[bH] at hds
   have hasc:=BW hg k w (os.map (·.v)) (j+1)
   by_cases c1:v∈os.map (·.v)
   ·rw[decide_eq_true (bl.2 (.inl c1))] at hda
    rw[if_neg (fun h=>h.2 c1)] at hsn
    generalize hqq:qvx g k w (os.map (·.v)) j=qs at *
    (repeat' first|refine j7 ?_|refine sa fun xe hxe=>?_|refine sb (fun hq=>?_) fun hq=>?_|exact aa)
    (try any_goals(first|exact absurd trivial hq|exact absurd rfl hq|exact absurd hq (by omega)|(exfalso;simp at hq;done)))
    exact⟨j+1,by omega,by omega,by rw[hsn];rfl⟩
   ·rw[decide_eq_false (fun h=>by rcases bl.1 h with h|h;exact c1 h;exact hnew h)] at hda
    by_cases c2:2*(w:Int)-7≤v.round
    ·have c2p:k.round-6≤v.round:=by omega
     rw[if_pos ⟨c2,c1⟩] at hsn
     rw[hsn] at hasc
     have hPu:=HX (qvx g k w (os.map (·.v)) j) v (by omega) hasc
     rw[←hsn] at hPu hds
     generalize hq2:qvx g k w (os.map (·.v)) (j+1)=qs2 at *
     generalize hqq:qvx g k w (os.map (·.v)) j=qs at *
     (repeat' first|refine j7 ?_|refine sa fun xe hxe=>?_|refine sb (fun hq=>?_) fun hq=>?_|refine co (hPu) ?_|exact aa)
     (try any_goals(first|exact absurd trivial hq|exact absurd rfl hq|exact absurd hq (by omega)|(exfalso;simp at hq;done)))
     exact⟨j+1,by omega,by omega,by rw[hq2,←hds];rfl⟩
    ·have c2p:¬k.round-6≤v.round:=by omega
     rw[if_neg (fun h=>c2 h.1)] at hsn
     generalize hqq:qvx g k w (os.map (·.v)) j=qs at *
     (repeat' first|refine j7 ?_|refine sa fun xe hxe=>?_|refine sb (fun hq=>?_) fun hq=>?_|exact aa)
     (try any_goals(first|exact absurd trivial hq|exact absurd rfl hq|exact absurd hq (by omega)|(exfalso;simp at hq;done)))
     exact⟨j+1,by omega,by omega,by rw[hsn];rfl⟩
  ·obtain rfl:j=(pst g k).length:=by omega
   have hend:=IV (os:=os.map (·.v)) hk
   rw[hpv] at hend
   have hasc:=BW hg k w (os.map (·.v)) (pst g k).length
   rw[hend] at hasc hql
   rw[hend]
   have hD:=HA (ordW g l (os.map (·.v)) w) (ordW g l (os.map (·.v)) w) (w:Int) (by omega) hasc (List.Perm.refl _) (EP hasc)
   have hdd:(oddTo g l [] (W.take (i+1))).map (·.v)=os.map (·.v)++ordW g l (os.map (·.v)) w:=by
    rw[hap,ce,ep]
    congr 1
    exact List.map_id _
   have hml:((ordW g l (os.map (·.v)) w).map fun v=>(⟨v,(w:Int)⟩:Odd)).length=(ordW g l (os.map (·.v)) w).length:=by simp
   rw[←hdd]
   generalize hmm:((ordW g l (os.map (·.v)) w).map fun v=>(⟨v,(w:Int)⟩:Odd))=ms at *
   have hml2:ms.length≤g.length:=by omega
   cases hoe:ordW g l (os.map (·.v)) w with
   |nil=>
    rw[hoe] at hD hml
    rw[show qE []=qB [] from rfl] at hD
    (repeat' first|refine j7 ?_|refine sa fun xe hxe=>?_|refine sb (fun hq=>?_) fun hq=>?_|refine co (hD) ?_|exact aa)
    (try any_goals(first|exact absurd trivial hq|exact absurd rfl hq|exact absurd hq (by omega)|(exfalso;simp at hq;done)))
    exact⟨i+1,by omega,by omega,by rw[hap];rfl⟩
   |cons v s'=>
    rw[hoe] at hD hml
    have hE:qE (v::s')=qG []:=by unfold qE;rw[if_neg (by simp)]
    rw[hE] at hD
    (repeat' first|refine j7 ?_|refine sa fun xe hxe=>?_|refine sb (fun hq=>?_) fun hq=>?_|refine co (hD) ?_|exact aa)
    (try any_goals(first|exact absurd trivial hq|exact absurd rfl hq|exact absurd hq (by omega)|(exfalso;simp at hq;done)))
    exact⟨i+1,by omega,by omega,by rw[hap];rfl⟩
 ·obtain rfl:i=W.length:=by omega
  rw[iN]
  (repeat' first|refine j7 ?_|refine sa fun xe hxe=>?_|refine sb (fun hq=>?_) fun hq=>?_|exact aa)
  exact⟨rfl,rfl⟩
end Go.Proofs.YtpefhoohfkeflacGreatDoor.Am
namespace Go.Proofs.YtpefhoohfkeflacGreatDoor.Am
open Go
attribute [local irreducible] Mk ci Ari fB mA ju b9 cR iT fo At ag wB
set_option maxRecDepth 10000
theorem Ih (v:Vtx):ag Tryz.prog 116 [cY v] [] (.agg [.int .i64 v.round,.int .i64 v.author]) []:=by
 refine ab aj Tryz.func116 rfl rfl false 0 4 rfl rfl rfl rfl fun K hK hb1 hb2=>?_;simp only[ae,enc,Nat.reduceAdd]
 clear hb1 hb2
 (repeat' first|refine st ?_|refine sa fun xe hxe=>?_|refine sb (fun hq=>?_) fun hq=>?_|exact aa)
 exact⟨rfl,rfl⟩
theorem BM {c:List Int}{g:List Vtx}(l:List Int)(h:Cl c g l=true):(oddTo g l [] (cmt c g l l.length).1).map (fun o=>ip o.v)=ordS c g l:=by
 have e:=BL g l (cmt c g l l.length).1 []
 rw[ordS,h,if_pos rfl,ordG,show ([]:List Vtx)=([]:List Odd).map (·.v) from rfl,←e,ep]
 rfl
theorem Ic (c:List Int)(l:List Int)(hc:comV c=true)(hl:leaS c l=true):ag Tryz.prog 115 [.agg [.ptr 4 0,.lst (.int .i64) l]] (gZ c jX) (.lst .odd []) (gZ c jX):=by
 have hC:=H2 c l hc hl
 refine ab dK Tryz.func115 rfl rfl true 1 5 rfl rfl rfl rfl fun K hK hb1 hb2=>?_;simp only[ae,enc,Nat.reduceAdd]
 clear hb1 hb2
 (repeat' first|refine j7 ?_|refine sa fun xe hxe=>?_|refine sb (fun hq=>?_) fun hq=>?_|refine co (hC) ?_|exact aa)
 clear hC
 refine ah hK [] [1,3,4,22,23,24] (fun i:Nat=>⟨[(1,.ptr 5 0),(3,.ref 6),(4,.ref 7),(22,.lst (.int .i64) []),(23,.int .i64 0),(24,.int .i64 (i:Int))],OO c jX (.var 151 [.ptr 4 0,.lst (.int .i64) l])++[(6,.row 157 .odd []),(7,.row 4 .bool [])],8⟩) (fun i=>i=0) (fun i=>i) 0 rfl ?_ ?_
 ·rfl
 rintro i rfl
 (repeat' first|refine j7 ?_|refine sa fun xe hxe=>?_|refine sb (fun hq=>?_) fun hq=>?_|exact aa)
 exact⟨rfl,rfl⟩
theorem Ni (c:List Int)(g:List Vtx)(l:List Int)(hgl:g.length≤1000):ag Tryz.prog 69 [.lst (.int .i64) c,.lst .vtx g,.lst (.int .i64) l] [] (.lst .slt (ordS c g l)) []:=by
 cases hw:Cl c g l
 ·have hN:=K8 c g l (by omega) hw
  have e:ordS c g l=[]:=by rw[ordS,hw];rfl
  rw[e]
  refine ab dK Tryz.func69 rfl rfl true 0 4 rfl rfl rfl rfl fun K hK hb1 hb2=>?_;simp only[ae,enc,Nat.reduceAdd]
  clear hb1 hb2
  (repeat' first|refine j7 ?_|refine sa fun xe hxe=>?_|refine sb (fun hq=>?_) fun hq=>?_|refine cr (hN) ?_|exact aa)
  exact⟨rfl,rfl⟩
 ·obtain⟨hg,hl⟩:graS c g=true∧leaS c l=true:=by simpa[Cl] using hw
  have hok:=fT hg
  have hll:=(bR.1 hl).2
  have hos:=BM l hw
  have hol:=mW g l (cmt c g l l.length).1 []
  have hcl:=mH c g l hok.com l.length
  have hol2:(oddTo g l [] (cmt c g l l.length).1).length≤15000:=by
   refine cu hol ?_
   simp only[dz,eX]
   exact cu (Nat.mul_le_mul (show (cmt c g l l.length).1.length≤15 by omega) hgl) (by omega)
  clear hol
  cases g with
  |nil=>
   have hN:=K7 c l hok.com hl
   have hC:=Ic c l hok.com hl
   rw[AR c l hok.com] at hos
   have e:ordS c [] l=[]:=hos.symm
   rw[e]
   refine ab dK Tryz.func69 rfl rfl true 0 4 rfl rfl rfl rfl fun K hK hb1 hb2=>?_;simp only[ae,enc,Nat.reduceAdd]
   clear hb1 hb2
   (repeat' first|refine j7 ?_|refine sa fun xe hxe=>?_|refine sb (fun hq=>?_) fun hq=>?_|refine cr (hN) ?_|refine co (hC) ?_|exact aa)
   refine ah hK [] [7,24,25,26] (fun i:Nat=>⟨[(7,.ref 4),(24,.lst .odd []),(25,.int .i64 0),(26,.int .i64 (i:Int))],[(0,.fvar 190 (.nod 1) jX.nodes),(1,.frow 178 (.hp 0) jX.rows),(4,.row 67 .slt [])],5⟩) (fun i=>i=0) (fun i=>i) 0 rfl rfl ?_
   rintro i rfl
   (repeat' first|refine j7 ?_|refine sa fun xe hxe=>?_|refine sb (fun hq=>?_) fun hq=>?_|exact aa)
   exact⟨rfl,rfl⟩
  |cons v g=>
   have hN:=K6 c v g l (by omega) hg hl
   have hC:=La c (v::g) l hok hgl hl
   rw[←hos]
   generalize oddTo (v::g) l [] (cmt c (v::g) l l.length).1=os at *
   refine ab dK Tryz.func69 rfl rfl true 0 4 rfl rfl rfl rfl fun K hK hb1 hb2=>?_;simp only[ae,enc,Nat.reduceAdd]
   clear hb1 hb2
   (repeat' first|refine j7 ?_|refine sa fun xe hxe=>?_|refine sb (fun hq=>?_) fun hq=>?_|refine cr (hN) ?_|refine co (hC) ?_|exact aa)
   clear hN hC
   refine ah hK [] [7,24,25,26] (fun i:Nat=>⟨[(7,.ref 4),(24,.lst .odd os),(25,.int .i64 os.length),(26,.int .i64 (i:Int))],[(0,.fvar 190 (.nod 1) (da (v::g)).nodes),(1,.frow 178 (.hp 0) (da (v::g)).rows),(4,.row 67 .slt ((os.take i).map fun o=>ip o.v))],5⟩) (fun i=>i≤os.length) (fun i=>os.length-i) 0 (aW _) rfl ?_
   intro i hi
   by_cases hlt:i<os.length
   ·have hxe:os[i]?=some os[i]:=am hlt
    have h3:os.take (i+1)=os.take i++[os[i]]:=b8 hlt
    have hI:=Ih os[i].v
    have h4:(os.take (i+1)).map (fun o=>ip o.v)=(os.take i).map (fun o=>ip o.v)++[ip os[i].v]:=by rw[h3,ce];rfl
    have hal:((os.take i).map fun o=>ip o.v).length=i:=by simp;omega
    generalize hA:((os.take i).map fun o=>ip o.v)=A at *
    generalize os[i]=o at *
    (repeat' first|refine j7 ?_|refine sa fun xe hxe=>?_|refine sb (fun hq=>?_) fun hq=>?_|refine cr (hI) ?_|exact aa)
    exact⟨i+1,by omega,by omega,by rw[h4];rfl⟩
   ·obtain rfl:i=os.length:=by omega
    rw[iN]
    (repeat' first|refine j7 ?_|refine sa fun xe hxe=>?_|refine sb (fun hq=>?_) fun hq=>?_|exact aa)
    exact⟨rfl,rfl⟩
theorem JT (w:Wrl)(m:Int)(hl:∀g∈w.views,g.length≤2000000):ag Tryz.prog 32 [bc w,.int .i64 m] [] (.lst .slt (wo w m)) []:=by
 have hV:=Nj w hl
 refine ab dK Tryz.func32 rfl rfl true 0 4 rfl rfl rfl rfl fun K hK hb1 hb2=>?_;simp only[ae,enc,Nat.reduceAdd]
 clear hb1 hb2
 cases hw:kP w
 ·rw[hw] at hV
  have e:wo w m=[]:=by rw[wo,hw];rfl
  rw[e]
  (repeat' first|refine j7 ?_|refine sa fun xe hxe=>?_|refine sb (fun hq=>?_) fun hq=>?_|refine cr (hV) ?_|exact aa)
  exact⟨rfl,rfl⟩
 ·rw[hw] at hV
  have hok:=iS.1 hw
  have hvl:=hok.vlen
  cases hm:jS m 0 ((w.com.length:Int)-1)
  ·have e:wo w m=[]:=by rw[wo,hw,hm];rfl
   have hb:¬(0≤m∧m≤(w.com.length:Int)-1):=fun h=>by rw[aC.2 h] at hm;cases hm
   rw[e]
   by_cases h0:m<0
   ·(repeat' first|refine j7 ?_|refine sa fun xe hxe=>?_|refine sb (fun hq=>?_) fun hq=>?_|refine cr (hV) ?_|exact aa)
    exact⟨rfl,rfl⟩
   ·(repeat' first|refine j7 ?_|refine sa fun xe hxe=>?_|refine sb (fun hq=>?_) fun hq=>?_|refine cr (hV) ?_|exact aa)
    exact⟨rfl,rfl⟩
  ·have hb:=aC.1 hm
   have e:wo w m=ordS w.com (w.views.getD m.toNat []) w.lead:=by rw[wo,hw,hm];rfl
   have hx:w.views[m.toNat]?=some (w.views.getD m.toNat []):=by rw[aq,am (by omega)];rfl
   have hgl:=hok.vl _ (br hx)
   rw[e]
   generalize w.views.getD m.toNat []=g at *
   have hO:=Ni w.com g w.lead (by omega)
   (repeat' first|refine j7 ?_|refine sa fun xe hxe=>?_|refine sb (fun hq=>?_) fun hq=>?_|refine cr (hV) ?_|refine cr (hO) ?_|exact aa)
   exact⟨rfl,rfl⟩
theorem FO (c:List Int)(g:List Vtx)(l:List Int)(hgl:g.length≤1000):(ordS c g l).length≤1000000:=by
 cases hw:Cl c g l
 ·rw[ordS,hw];simp
 ·obtain⟨hg,hl⟩:graS c g=true∧leaS c l=true:=by simpa[Cl] using hw
  have hok:=fT hg
  have hll:=(bR.1 hl).2
  have hol:=mW g l (cmt c g l l.length).1 []
  have hcl:=mH c g l hok.com l.length
  rw[←BM l hw,az]
  refine cu hol ?_
  simp only[dz,eX]
  exact cu (Nat.mul_le_mul (show (cmt c g l l.length).1.length≤15 by omega) hgl) (by omega)
theorem NQ {w:Wrl}(hw:WOK w){m:Nat}(hm:m<w.com.length):wo w (m:Int)=ordS w.com (w.views.getD m []) w.lead:=by
 rw[wo,iS.2 hw,aC.2 (by omega)]
 rfl
theorem wv {w:Wrl}(hw:WOK w)(m:Int):(wo w m).length≤1000000:=by
 rw[wo]
 split
 ·rename_i h
  simp only[aA] at h
  have hb:=aC.1 h.2
  refine FO _ _ _ ?_
  have:=hw.vl _ (Jn hw (m:=m.toNat) (by omega))
  omega
 ·simp
end Go.Proofs.YtpefhoohfkeflacGreatDoor.Am
namespace Go.Proofs.YtpefhoohfkeflacGreatDoor.Am
open Go
attribute [local irreducible] Mk ci Ari fB mA ju b9 cR iT fo At ag
set_option maxRecDepth 10000
theorem aG {x y:ByteArray}{K:Prop}(k:K)(h:x.size+y.size≤9223372036854775807:=by first|omega|(simp only[ByteArray.size_append,JG,aP,bF,dz,az];omega)):ci (x.size+y.size≤9223372036854775807) K:=fZ h k
theorem aF {b:Bool}{A B:Prop}(k:A)(h:b=true):ju b A B:=uc (fun _=>k) fun h2=>by rw[h] at h2;cases h2
theorem aE {b:Bool}{A B:Prop}(k:B)(h:b=false):ju b A B:=uc (fun h2=>by rw[h] at h2;cases h2) fun _=>k
theorem Ap {x:ByteArray}{l:List UInt8}(h:x.data.toList=l):V.str x=V.str (bs l)∧([]:VH)=[]:=by
 subst h
 exact⟨rfl,rfl⟩
theorem N6 {n:Int}(h0:0≤n):UInt8.ofNat (48+n).toNat=UInt8.ofNat (48+n.toNat):=by rw[show (48+n).toNat=48+n.toNat by omega]
theorem L9:∀(k:Nat) (n:Int),0≤n→n<10^(k+1)→k≤3→ag Tryz.prog 44 [.int .i64 n] [] (.str (bs (lA k n.toNat))) []:=by
 intro k
 induction k with
 |zero=>
  intro n h0 h1 _
  have h1:n<10:=by simpa using h1
  refine ab aj Tryz.func44 rfl rfl false 0 4 rfl rfl rfl rfl fun K hK hb1 hb2=>?_;simp only[ae,enc,Nat.reduceAdd]
  clear hb1 hb2
  (repeat' first|refine st ?_|refine sa fun xe hxe=>?_|refine sb (fun hq=>?_) fun hq=>?_|exact aa)
  refine Ap ?_
  simp only[bK,eq,lA,N6 h0]
 |succ k ih=>
  intro n h0 h1 hk
  have hp:(10:Int)^(k+1+1)≤10000:=by
   have:k=0∨k=1∨k=2:=by omega
   rcases this with rfl|rfl|rfl<;>decide
  by_cases h10:n<10
  ·refine ab aj Tryz.func44 rfl rfl false 0 4 rfl rfl rfl rfl fun K hK hb1 hb2=>?_;simp only[ae,enc,Nat.reduceAdd]
   clear hb1 hb2
   (repeat' first|refine st ?_|refine sa fun xe hxe=>?_|refine sb (fun hq=>?_) fun hq=>?_|exact aa)
   refine Ap ?_
   rw[lA,if_pos (by omega)]
   simp only[bK,eq,N6 h0]
  ·have ht:n.tdiv 10=n/10:=ml h0
   have hr:n.tmod 10=n % 10:=Int.tmod_eq_emod_of_nonneg h0
   have hI:=ih (n.tdiv 10) (by omega) (by rw[Int.pow_succ] at h1;omega) (by omega)
   have hl:=(se k (n.tdiv 10).toNat).2
   have hd:lA (k+1) n.toNat=lA k (n.tdiv 10).toNat++[UInt8.ofNat (48+n.tmod 10).toNat]:=by
    rw[lA,if_neg (by omega),hr,ht,N6 (by omega),show (n/10).toNat=n.toNat/10 by omega,show (n % 10).toNat=n.toNat % 10 by omega]
   generalize lA k (n.tdiv 10).toNat=d at *
   refine ab aj Tryz.func44 rfl rfl false 0 4 rfl rfl rfl rfl fun K hK hb1 hb2=>?_;simp only[ae,enc,Nat.reduceAdd]
   clear hb1 hb2
   (repeat' first|((first|with_reducible refine aF ?_ (by assumption)|with_reducible refine aE ?_ (by assumption));conv=>whnf)|refine st ?_|refine sa fun xe hxe=>?_|refine sb (fun hq=>?_) fun hq=>?_|((with_reducible refine aG ?_)<;>conv=>whnf)|refine cr (hI) ?_|exact aa)
   refine Ap ?_
   rw[hd]
   simp
theorem Hq (c:UInt8){s:List UInt8}{f:Nat}{o:List (List UInt8)}(hf:f≤s.length)(h:aK c s=o++j6 ((s.drop f).take (s.length-f)) (aK c (s.drop s.length))):aK c s=o++[s.drop f]:=by
 rw[h,List.drop_length,bp (by simp)]
 simp[aK,j6]
theorem Hr {c:UInt8}{s:List UInt8}{f i:Nat}{o:List (List UInt8)}(hi:i<s.length)(hc:s[i]=c)(h:aK c s=o++j6 ((s.drop f).take (i-f)) (aK c (s.drop i))):aK c s=(o++[(s.drop f).take (i-f)])++j6 ((s.drop (i+1)).take (i+1-(i+1))) (aK c (s.drop (i+1))):=by
 rw[h,ny hi,aK,if_pos hc,ka,List.take_zero,ye (kU c _),j6]
 simp
theorem Kl {c:UInt8}{s:List UInt8}{f i:Nat}{o:List (List UInt8)}(hf:f≤i)(hi:i<s.length)(hc:s[i]≠c)(h:aK c s=o++j6 ((s.drop f).take (i-f)) (aK c (s.drop i))):aK c s=o++j6 ((s.drop f).take (i+1-f)) (aK c (s.drop (i+1))):=by
 rw[h,ny hi,aK,if_neg hc,C6 _ _ _ (kU c _)]
 congr 2
 rw[show i+1-f=i-f+1 by omega,b8 (by simp;omega)]
 simp[show f+(i-f)=i by omega]
theorem Gk (s:List UInt8)(c:UInt8)(n:Int)(hn:n=c.toNat)(hl:s.length≤2000000):ag Tryz.prog 21 [.str (bs s),.int .u8 n] [] (.lst .str ((aK c s).map bs)) []:=by
 have hsz:(bs s).size=s.length:=rfl
 refine ab aj Tryz.func21 rfl rfl true 0 4 rfl rfl rfl rfl fun K hK hb1 hb2=>?_;simp only[ae,enc,Nat.reduceAdd]
 clear hb1 hb2
 (repeat' first|refine st ?_|refine sa fun xe hxe=>?_|refine sb (fun hq=>?_) fun hq=>?_|exact aa)
 refine ah hK [] [0,1,5,6,7] (fun x:List (List UInt8)×Nat×Nat=>⟨[(0,.str (bs s)),(1,.int .u8 n),(5,.ref 4),(6,.int .i64 (x.2.1:Int)),(7,.int .i64 (x.2.2:Int))],[(4,.row 9 .str (x.1.map bs))],5⟩) (fun x=>(x.2.1≤x.2.2∧x.2.2≤s.length)∧x.1.length≤x.2.2∧aK c s=x.1++j6 ((s.drop x.2.1).take (x.2.2-x.2.1)) (aK c (s.drop x.2.2))) (fun x=>s.length-x.2.2) ([],0,0) ⟨⟨ax _,aW _⟩,ax _,by simp[ye (kU c s)]⟩ rfl ?_
 rintro⟨o,f,i⟩ ⟨⟨hf,hi⟩,ho,hc⟩
 dsimp only at hf hi ho hc⊢
 have hol:(o.map bs).length=o.length:=az ..
 by_cases hlt:i<s.length
 ·have hx:s.getD (i:Int).toNat 0=s[i]:=by
   rw[pf,aq,am hlt]
   rfl
  by_cases hxc:s[i]=c
  ·have hh:=Hr hlt hxc hc
   have hxn:(((s.getD (i:Int).toNat 0).toNat:Nat):Int)=n:=by rw[hx,hxc,hn]
   have he:(bs s).extract f i=bs ((s.drop f).take (i-f)):=po s f i
   have hm:(o++[(s.drop f).take (i-f)]).map bs=o.map bs++[(bs s).extract f i]:=by rw[he,ce];rfl
   generalize hO:o.map bs=O at *
   (repeat' first|refine st ?_|refine sa fun xe hxe=>?_|refine sb (fun hq=>?_) fun hq=>?_|exact aa)
   refine⟨(o++[(s.drop f).take (i-f)],i+1,i+1),⟨⟨by dsimp only;omega,by dsimp only;omega⟩,by simp;omega,hh⟩,by dsimp only;omega,?_⟩
   dsimp only
   rw[hm]
   rfl
  ·have hh:=Kl hf hlt hxc hc
   have hxn:¬(((s.getD (i:Int).toNat 0).toNat:Nat):Int)=n:=by
    rw[hx,hn]
    intro h
    exact hxc (UInt8.toNat_inj.1 (by omega))
   (repeat' first|refine st ?_|refine sa fun xe hxe=>?_|refine sb (fun hq=>?_) fun hq=>?_|exact aa)
   exact⟨(o,f,i+1),⟨⟨by dsimp only;omega,by dsimp only;omega⟩,by dsimp only;omega,hh⟩,by dsimp only;omega,rfl⟩
 ·obtain rfl:i=s.length:=by omega
  have he:=Hq c hf hc
  have hm:(aK c s).map bs=o.map bs++[(bs s).extract f s.length]:=by
   rw[he,ce,po,bp (by simp)]
   rfl
  rw[hm]
  generalize hO:o.map bs=O at *
  (repeat' first|refine st ?_|refine sa fun xe hxe=>?_|refine sb (fun hq=>?_) fun hq=>?_|exact aa)
  exact⟨rfl,rfl⟩
theorem oF {w:List UInt8}(h:¬(1≤w.length∧w.length≤3∧w.all ue=true)):sU w= -1:=if_neg h
theorem wI {w:List UInt8}{i:Nat}(hi:i<w.length)(hd:ue w[i]=false):w.all ue=false:=by
 rw[List.all_eq_false]
 exact⟨_,bd hi,by simpa using hd⟩
theorem Gw (ws:List (List UInt8))(k:Nat)(hl:ws.length≤2000000):ag Tryz.prog 34 [.lst .str (ws.map bs),.int .i64 (k:Int)] [] (.int .i64 (cA ws k)) []:=by
 have hml:(ws.map bs).length=ws.length:=az ..
 unfold cA
 by_cases hk:k<ws.length
 ·have hx:(ws.map bs)[k]?=some (bs (ws.getD k [])):=by rw[be,aq,am hk];rfl
  generalize ws.getD k []=w at *
  have hsz:(bs w).size=w.length:=rfl
  have hI:=nh ((bs w).size:Nat) 1 3
  cases hn:jS ((bs w).size:Nat) 1 3
  ·rw[hn] at hI
   have h13:¬(1≤w.length∧w.length≤3):=fun h=>by rw[aC.2 (by omega)] at hn;cases hn
   rw[oF fun h=>h13 ⟨h.1,h.2.1⟩]
   generalize hO:ws.map bs=O at *
   refine ab aj Tryz.func34 rfl rfl false 0 4 rfl rfl rfl rfl fun K hK hb1 hb2=>?_;simp only[ae,enc,Nat.reduceAdd]
   clear hb1 hb2
   (repeat' first|refine st ?_|refine sa fun xe hxe=>?_|refine sb (fun hq=>?_) fun hq=>?_|refine cr (hI) ?_|exact aa)
   exact⟨rfl,rfl⟩
  ·rw[hn] at hI
   have h13:=aC.1 hn
   have hno:∀i (h:i<w.length),ue w[i]=false→sU w= -1:=fun i h hd=>oF fun h2=>by rw[wI h hd] at h2;cases h2.2.2
   have hyes:w.all ue=true→sU w=l9 w:=fun h=>if_pos ⟨by omega,by omega,h⟩
   generalize hO:ws.map bs=O at *
   refine ab aj Tryz.func34 rfl rfl false 0 4 rfl rfl rfl rfl fun K hK hb1 hb2=>?_;simp only[ae,enc,Nat.reduceAdd]
   clear hb1 hb2
   (repeat' first|refine st ?_|refine sa fun xe hxe=>?_|refine sb (fun hq=>?_) fun hq=>?_|refine cr (hI) ?_|exact aa)
   refine ah hK [] [0,1,5,6] (fun i:Nat=>⟨[(0,.lst .str O),(1,.int .i64 (k:Int)),(5,.int .i64 (l9 (w.take i))),(6,.int .i64 (i:Int))],[],4⟩) (fun i=>i≤w.length∧(w.take i).all ue=true) (fun i=>w.length-i) 0 ⟨aW _,rfl⟩ rfl ?_
   rintro i ⟨hi,ha⟩
   by_cases hlt:i<w.length
   ·have hg:w.getD (i:Int).toNat 0=w[i]:=by
     rw[pf,aq,am hlt]
     rfl
    have hgb:((bs w).data.toList.getD (i:Int).toNat 0).toNat=(w.getD (i:Int).toNat 0).toNat:=rfl
    have ht:w.take (i+1)=w.take i++[w[i]]:=b8 hlt
    have hb:=vQ _ ha
    have hp:(10:Int)^(w.take i).length≤1000:=by
     have:(w.take i).length=0∨(w.take i).length=1∨(w.take i).length=2:=by rw[bP];omega
     rcases this with h|h|h<;>rw[h]<;>decide
    cases hd:ue w[i]
    ·rw[hno i hlt hd]
     simp only[ue,nw,decide_eq_false_iff_not] at hd
     rw[←hg] at hd
     generalize l9 (w.take i)=z at *
     by_cases hlo:(w.getD (i:Int).toNat 0).toNat<48
     ·(repeat' first|refine st ?_|refine sa fun xe hxe=>?_|refine sb (fun hq=>?_) fun hq=>?_|exact aa)
      exact⟨rfl,rfl⟩
     ·(repeat' first|refine st ?_|refine sa fun xe hxe=>?_|refine sb (fun hq=>?_) fun hq=>?_|exact aa)
      exact⟨rfl,rfl⟩
    ·have hn1:=pO (w.take i) w[i]
     have ha1:(w.take (i+1)).all ue=true:=by rw[ht,List.all_append,ha];simp[hd]
     rw[←ht,←hg] at hn1
     simp only[ue,aA,decide_eq_true_eq] at hd
     rw[←hg] at hd
     generalize l9 (w.take i)=z at *
     (repeat' first|refine st ?_|refine sa fun xe hxe=>?_|refine sb (fun hq=>?_) fun hq=>?_|exact aa)
     refine⟨i+1,⟨by omega,ha1⟩,by omega,?_⟩
     rw[hn1]
     rfl
   ·obtain rfl:i=w.length:=by omega
    rw[iN] at *
    rw[hyes ha]
    generalize l9 w=z at *
    (repeat' first|refine st ?_|refine sa fun xe hxe=>?_|refine sb (fun hq=>?_) fun hq=>?_|exact aa)
    exact⟨rfl,rfl⟩
 ·have e:ws.getD k []=[]:=by rw[aq,eg (by omega)];rfl
  rw[e,oF (by simp)]
  generalize hO:ws.map bs=O at *
  refine ab aj Tryz.func34 rfl rfl false 0 4 rfl rfl rfl rfl fun K hK hb1 hb2=>?_;simp only[ae,enc,Nat.reduceAdd]
  clear hb1 hb2
  (repeat' first|refine st ?_|refine sa fun xe hxe=>?_|refine sb (fun hq=>?_) fun hq=>?_|exact aa)
  exact⟨rfl,rfl⟩
theorem jN (n:Int)(h0:0≤n)(h1:n<10000):ag Tryz.prog 44 [.int .i64 n] [] (.str (bs (aQ n))) []:=L9 3 n h0 (by omega) (by omega)
theorem Ml (w:Wrl)(hw:WOK w):ag Tryz.prog 43 [bc w] [] (.str (bs (ni w))) []:=by
 have hpl:=hw.plen
 have hcl:=hw.len
 refine ab aj Tryz.func43 rfl rfl false 0 4 rfl rfl rfl rfl fun K hK hb1 hb2=>?_;simp only[ae,enc,Nat.reduceAdd]
 clear hb1 hb2
 (repeat' first|refine st ?_|refine sa fun xe hxe=>?_|refine sb (fun hq=>?_) fun hq=>?_|exact aa)
 refine ah hK [] [1,3,4] (fun i:Nat=>⟨[(1,.ptr 4 0),(3,.str (bs (cM w i))),(4,.int .i64 (i:Int))],[(4,.var 36 (bc w).cells)],5⟩) (fun i=>i≤w.props.length) (fun i=>w.props.length-i) 0 (aW _) rfl ?_
 intro i hi
 have hol:=kA w i
 by_cases hlt:i<w.props.length
 ·have hx:w.props[i]?=some (w.props.getD i p0):=by rw[aq,am hlt];rfl
  have hpm:w.props.getD i p0∈w.props:=br hx
  have hv:=bG (hw.pv _ hpm).1
  have hm:=hw.mem _ hpm
  have hs:cM w (i+1)=cM w i++tO i (w.props.getD i p0):=rfl
  have d1:=jN (i:Int) (by omega) (by omega)
  have l1:=(aO (i:Int)).2
  generalize w.props.getD i p0=p at *
  have d2:=jN p.v.round (by omega) (by omega)
  have d3:=jN p.v.author (by omega) (by omega)
  have d4:=jN p.v.digest (by omega) (by omega)
  have d5:=jN (p.members.length:Nat) (by omega) (by omega)
  have l2:=(aO p.v.round).2
  have l3:=(aO p.v.author).2
  have l4:=(aO p.v.digest).2
  have l5:=(aO (p.members.length:Nat)).2
  generalize cM w i=o at *
  have hb:∀x1 x2 x3 x4 x5:List UInt8,aQ (i:Int)=x1→aQ p.v.round=x2→aQ p.v.author=x3→aQ p.v.digest=x4→aQ (p.members.length:Nat)=x5→bs o++bs x1++⟨#[32]⟩++bs x2++⟨#[46]⟩++bs x3++⟨#[32]⟩++bs x4++⟨#[32,118,111,116,101,115,32]⟩++bs x5++⟨#[10]⟩=bs (cM w (i+1)):=by
   rintro x1 x2 x3 x4 x5 rfl rfl rfl rfl rfl
   rw[hs]
   apply iO
   simp[tO]
  have hb:=hb _ _ _ _ _ rfl rfl rfl rfl rfl
  generalize aQ (i:Int)=x1 at *
  generalize aQ p.v.round=x2 at *
  generalize aQ p.v.author=x3 at *
  generalize aQ p.v.digest=x4 at *
  generalize aQ (p.members.length:Nat)=x5 at *
  (repeat' first|((first|with_reducible refine aF ?_ (by assumption)|with_reducible refine aE ?_ (by assumption));conv=>whnf)|refine st ?_|refine sa fun xe hxe=>?_|refine sb (fun hq=>?_) fun hq=>?_|((with_reducible refine aG ?_)<;>conv=>whnf)|refine cr (d1) ?_|refine cr (d2) ?_|refine cr (d3) ?_|refine cr (d4) ?_|refine cr (d5) ?_|exact aa)
  refine⟨i+1,by omega,by omega,?_⟩
  rw[←hb]
  rfl
 ·obtain rfl:i=w.props.length:=by omega
  show At _ _ _ _ _ _
  (repeat' first|refine st ?_|refine sa fun xe hxe=>?_|refine sb (fun hq=>?_) fun hq=>?_|exact aa)
  exact⟨rfl,rfl⟩
theorem Mo (l:List Slt)(hl:∀s∈l,(0≤s.round∧s.round≤30)∧0≤s.author∧s.author<7)(hll:l.length≤1000000):ag Tryz.prog 45 [.lst .slt l] [] (.str (bs (bQ l))) []:=by
 refine ab aj Tryz.func45 rfl rfl false 0 4 rfl rfl rfl rfl fun K hK hb1 hb2=>?_;simp only[ae,enc,Nat.reduceAdd]
 clear hb1 hb2
 (repeat' first|refine st ?_|refine sa fun xe hxe=>?_|refine sb (fun hq=>?_) fun hq=>?_|exact aa)
 refine ah hK [] [0,3,4] (fun i:Nat=>⟨[(0,.lst .slt l),(3,.str (bs (bQ (l.take i)))),(4,.int .i64 (i:Int))],[],4⟩) (fun i=>i≤l.length) (fun i=>l.length-i) 0 (aW _) rfl ?_
 intro i hi
 have hol:=fg (l.take i)
 rw[bP,mz hi] at hol
 by_cases hlt:i<l.length
 ·have hx:l[i]?=some l[i]:=am hlt
  have hs:bQ (l.take (i+1))=bQ (l.take i)++jo l[i]:=by rw[b8 hlt,iZ]
  have hb:=hl _ (bd hlt)
  generalize l[i]=p at *
  have d2:=jN p.round (by omega) (by omega)
  have d3:=jN p.author (by omega) (by omega)
  have l2:=(aO p.round).2
  have l3:=(aO p.author).2
  generalize bQ (l.take i)=o at *
  have hb:∀x2 x3:List UInt8,aQ p.round=x2→aQ p.author=x3→bs o++⟨#[32]⟩++bs x2++⟨#[46]⟩++bs x3=bs (bQ (l.take (i+1))):=by
   rintro x2 x3 rfl rfl
   rw[hs]
   apply iO
   simp[jo]
  have hb:=hb _ _ rfl rfl
  generalize aQ p.round=x2 at *
  generalize aQ p.author=x3 at *
  (repeat' first|((first|with_reducible refine aF ?_ (by assumption)|with_reducible refine aE ?_ (by assumption));conv=>whnf)|refine st ?_|refine sa fun xe hxe=>?_|refine sb (fun hq=>?_) fun hq=>?_|((with_reducible refine aG ?_)<;>conv=>whnf)|refine cr (d2) ?_|refine cr (d3) ?_|exact aa)
  refine⟨i+1,by omega,by omega,?_⟩
  rw[←hb]
  rfl
 ·obtain rfl:i=l.length:=by omega
  rw[iN]
  (repeat' first|refine st ?_|refine sa fun xe hxe=>?_|refine sb (fun hq=>?_) fun hq=>?_|exact aa)
  exact⟨rfl,rfl⟩
theorem sM {w:Wrl}(hw:WOK w)(m:Nat):(linO w m).length≤10000011:=by
 have h1:=aO (m:Int)
 have h2:=fg (wo w m)
 have h3:=wv hw (m:Int)
 simp only[linO,aP,bF,dz]
 omega
theorem iY {w:Wrl}(hw:WOK w):∀n,(outOs w n).length≤10000011*n
 |0=>by simp[outOs]
 |n+1=>by
  have h1:=iY hw n
  have h2:=sM hw n
  unfold outOs
  split
  ·omega
  ·rw[aP]
   omega
theorem Mi (w:Wrl)(hw:WOK w):ag Tryz.prog 23 [bc w] [] (.str (bs (outO w))) []:=by
 have hcl:=hw.len
 have hvl:=hw.vlen
 refine ab aj Tryz.func23 rfl rfl false 0 4 rfl rfl rfl rfl fun K hK hb1 hb2=>?_;simp only[ae,enc,Nat.reduceAdd]
 clear hb1 hb2
 (repeat' first|refine st ?_|refine sa fun xe hxe=>?_|refine sb (fun hq=>?_) fun hq=>?_|exact aa)
 refine ah hK [] [1,3,4] (fun i:Nat=>⟨[(1,.ptr 4 0),(3,.str (bs (outOs w i))),(4,.int .i64 (i:Int))],[(4,.var 36 (bc w).cells)],5⟩) (fun i=>i≤w.com.length) (fun i=>w.com.length-i) 0 (aW _) rfl ?_
 intro i hi
 have hol:=iY hw i
 by_cases hlt:i<w.com.length
 ·by_cases hb:(i:Int)=w.bad
  ·have hs:outOs w (i+1)=outOs w i:=by rw[outOs,if_pos hb]
   generalize outOs w i=o at *
   (repeat' first|refine st ?_|refine sa fun xe hxe=>?_|refine sb (fun hq=>?_) fun hq=>?_|exact aa)
   refine⟨i+1,by omega,by omega,?_⟩
   rw[hs]
   rfl
  ·have hs:outOs w (i+1)=outOs w i++linO w i:=by rw[outOs,if_neg hb]
   have hx:w.views[i]?=some (w.views.getD i []):=by rw[aq,am (by omega)];rfl
   have hgl:=hw.vl _ (br hx)
   have hO:=NE w.com (w.views.getD i []) w.lead (by omega)
   rw[←NQ hw hlt] at hO
   have hwl:=wv hw (i:Int)
   have hS:=Mo _ (Cj hw (i:Int)) hwl
   have hsl:=fg (wo w (i:Int))
   have d1:=jN (i:Int) (by omega) (by omega)
   have l1:=(aO (i:Int)).2
   generalize outOs w i=o at *
   generalize w.views.getD i []=g at *
   have hb2:∀x1 x2:List UInt8,aQ (i:Int)=x1→bQ (wo w i)=x2→bs o++⟨#[111,114,100,101,114,32]⟩++bs x1++bs x2++⟨#[10]⟩=bs (outOs w (i+1)):=by
    rintro x1 x2 rfl rfl
    rw[hs]
    apply iO
    simp[linO]
   have hb2:=hb2 _ _ rfl rfl
   generalize aQ (i:Int)=x1 at *
   generalize bQ (wo w i)=x2 at *
   generalize wo w i=sl at *
   (repeat' first|((first|with_reducible refine aF ?_ (by assumption)|with_reducible refine aE ?_ (by assumption));conv=>whnf)|refine st ?_|refine sa fun xe hxe=>?_|refine sb (fun hq=>?_) fun hq=>?_|((with_reducible refine aG ?_)<;>conv=>whnf)|refine cr (d1) ?_|refine cr (hO) ?_|refine cr (hS) ?_|exact aa)
   refine⟨i+1,by omega,by omega,?_⟩
   rw[←hb2]
   rfl
 ·obtain rfl:i=w.com.length:=by omega
  show At _ _ _ _ _ _
  (repeat' first|refine st ?_|refine sa fun xe hxe=>?_|refine sb (fun hq=>?_) fun hq=>?_|exact aa)
  exact⟨rfl,rfl⟩
theorem Mb (r d:Int):ag Tryz.prog 39 [.int .i64 r,.int .i64 d] [] (cY (lb r d)) []:=by
 unfold lb
 refine ab aj Tryz.func39 rfl rfl true 0 4 rfl rfl rfl rfl fun K hK hb1 hb2=>?_;simp only[ae,enc,Nat.reduceAdd]
 clear hb1 hb2
 by_cases hr:0<r
 ·rw[if_pos hr]
  (repeat' first|refine st ?_|refine sa fun xe hxe=>?_|refine sb (fun hq=>?_) fun hq=>?_|exact aa)
  exact⟨rfl,rfl⟩
 ·rw[if_neg hr]
  (repeat' first|refine st ?_|refine sa fun xe hxe=>?_|refine sb (fun hq=>?_) fun hq=>?_|exact aa)
  exact⟨rfl,rfl⟩
theorem Jc:ag Tryz.prog 20 [] [] (bc MA) []:=by
 have hN:=Gv [1,1,1,1] [0,1,2,0,1,2,0,1] 3 (by decide)
 rw[show iE [1,1,1,1] [0,1,2,0,1,2,0,1] 3=true by decide+kernel,if_pos rfl] at hN
 have hN:ag Tryz.prog 33 [.lst (.int .i64) [1,1,1,1],.lst (.int .i64) [0,1,2,0,1,2,0,1],.int .i64 3] [] (.tup [bc MA,.bool true]) []:=hN
 generalize MA=w at *
 refine ab aj Tryz.func20 rfl rfl true 0 4 rfl rfl rfl rfl fun K hK hb1 hb2=>?_;simp only[ae,enc,Nat.reduceAdd]
 clear hb1 hb2
 (repeat' first|refine st ?_|refine sa fun xe hxe=>?_|refine sb (fun hq=>?_) fun hq=>?_|refine cr (hN) ?_|exact aa)
 exact⟨rfl,rfl⟩
theorem JL (k c:List UInt8):((bs k).toList==(bs c).toList)=decide (k=c):=by
 rw[AL,AL,d6]
 simp
set_option maxHeartbeats 4000000 in
theorem Mh (w:Wrl)(l:List UInt8)(hw:WOK w)(hl:l.length≤600):ag Tryz.prog 22 [bc w,.str (bs l)] [] (.tup [bc (bY w (aK 32 l)),.str (bs (dW w (aK 32 l)))]) []:=by
 have hC:=Gk l 32 32 rfl (by omega)
 have hle:=iQ 32 l
 have hlen:=eA 32 l
 generalize aK 32 l=ws at *
 have h1:=Gw ws 1 (by omega)
 have h2:=Gw ws 2 (by omega)
 have hx:(ws.map bs)[(0:Int).toNat]?=some (bs (ws.getD 0 [])):=by show (ws.map bs)[0]?=_;rw[be,aq,am (by omega)];rfl
 have hml:(ws.map bs).length=ws.length:=az ..
 have hbd:=BJ (ws.getD 1 [])
 have hbd2:=BJ (ws.getD 2 [])
 have hbd:-1≤cA ws 1∧cA ws 1≤999:=hbd
 have hbd2:-1≤cA ws 2∧cA ws 2≤999:=hbd2
 unfold bY dW
 generalize cA ws 1=a at *
 generalize cA ws 2=b at *
 generalize ws.getD 0 []=k at *
 generalize ws.map bs=O at *
 have hcl:=hw.len
 refine ab aj Tryz.func22 rfl rfl true 0 4 rfl rfl rfl rfl fun K hK hb1 hb2=>?_;simp only[ae,enc,Nat.reduceAdd]
 clear hb1 hb2
 have e1:=JL k CV
 by_cases k1:k=CV
 ·rw[if_pos k1,if_pos (show eU k from .inl k1)]
  rw[decide_eq_true k1] at e1
  have hP:=Ai w a b hw
  generalize eH w a b=u at *
  (repeat' first|((first|with_reducible refine aF ?_ (by assumption)|with_reducible refine aE ?_ (by assumption));conv=>whnf)|refine st ?_|refine sa fun xe hxe=>?_|refine sb (fun hq=>?_) fun hq=>?_|((with_reducible refine aG ?_)<;>conv=>whnf)|refine cr (hC) ?_|refine cr (h1) ?_|refine cr (h2) ?_|refine cr (hP) ?_|exact aa)
  exact⟨rfl,rfl⟩
 rw[decide_eq_false k1] at e1
 have e2:=JL k CW
 by_cases k2:k=CW
 ·rw[if_neg k1,if_pos k2,if_pos (show eU k from .inr (.inl k2))]
  rw[decide_eq_true k2] at e2
  have hP:=Aq w a b hw
  generalize eR w a b=u at *
  (repeat' first|((first|with_reducible refine aF ?_ (by assumption)|with_reducible refine aE ?_ (by assumption));conv=>whnf)|refine st ?_|refine sa fun xe hxe=>?_|refine sb (fun hq=>?_) fun hq=>?_|((with_reducible refine aG ?_)<;>conv=>whnf)|refine cr (hC) ?_|refine cr (h1) ?_|refine cr (h2) ?_|refine cr (hP) ?_|exact aa)
  exact⟨rfl,rfl⟩
 rw[decide_eq_false k2] at e2
 have e3:=JL k CT
 by_cases k3:k=CT
 ·rw[if_neg k1,if_neg k2,if_pos k3,if_pos (show eU k from .inr (.inr (.inl k3)))]
  rw[decide_eq_true k3] at e3
  have hP:=Ad w a b hw
  generalize dB w a b=u at *
  (repeat' first|((first|with_reducible refine aF ?_ (by assumption)|with_reducible refine aE ?_ (by assumption));conv=>whnf)|refine st ?_|refine sa fun xe hxe=>?_|refine sb (fun hq=>?_) fun hq=>?_|((with_reducible refine aG ?_)<;>conv=>whnf)|refine cr (hC) ?_|refine cr (h1) ?_|refine cr (h2) ?_|refine cr (hP) ?_|exact aa)
  exact⟨rfl,rfl⟩
 rw[decide_eq_false k3] at e3
 have e4:=JL k CU
 by_cases k4:k=CU
 ·rw[if_neg k1,if_neg k2,if_neg k3,if_pos k4,if_pos (show eU k from .inr (.inr (.inr (.inl k4))))]
  rw[decide_eq_true k4] at e4
  have hV:=Mb a b
  have hP:=Gs w (lb a b) hw (by unfold lb;split<;>simp)
  generalize iH w (lb a b)=u at *
  generalize lb a b=v at *
  (repeat' first|((first|with_reducible refine aF ?_ (by assumption)|with_reducible refine aE ?_ (by assumption));conv=>whnf)|refine st ?_|refine sa fun xe hxe=>?_|refine sb (fun hq=>?_) fun hq=>?_|((with_reducible refine aG ?_)<;>conv=>whnf)|refine cr (hC) ?_|refine cr (h1) ?_|refine cr (h2) ?_|refine cr (hV) ?_|refine cr (hP) ?_|exact aa)
  exact⟨rfl,rfl⟩
 rw[decide_eq_false k4] at e4
 have e5:=JL k CR
 by_cases k5:k=CR
 ·rw[if_neg k1,if_neg k2,if_neg k3,if_neg k4,if_pos k5,if_pos (show eU k from .inr (.inr (.inr (.inr (.inl k5)))))]
  rw[decide_eq_true k5] at e5
  have hP:=NB w ⟨5,0,a,v0⟩ hw (by simp[v0])
  have hP:ag Tryz.prog 40 [bc w,.agg [.int .i64 5,.int .i64 0,.int .i64 a,.int .i64 0,.int .i64 0,.lst (.int .i64) [],.int .i64 0]] [] (bc (iG w a)) []:=hP
  generalize iG w a=u at *
  (repeat' first|((first|with_reducible refine aF ?_ (by assumption)|with_reducible refine aE ?_ (by assumption));conv=>whnf)|refine st ?_|refine sa fun xe hxe=>?_|refine sb (fun hq=>?_) fun hq=>?_|((with_reducible refine aG ?_)<;>conv=>whnf)|refine cr (hC) ?_|refine cr (h1) ?_|refine cr (h2) ?_|refine cr (hP) ?_|exact aa)
  exact⟨rfl,rfl⟩
 rw[decide_eq_false k5] at e5
 have e6:=JL k CS
 have hI:=nh a 0 12
 by_cases k6:k=CS
 ·rw[if_neg k1,if_neg k2,if_neg k3,if_neg k4,if_neg k5,if_pos k6,if_pos (show eU k from .inr (.inr (.inr (.inr (.inr k6)))))]
  rw[decide_eq_true k6] at e6
  by_cases hr:0≤a∧a≤12
  ·rw[aC.2 hr] at hI
   rw[if_pos hr]
   have hP:=I4 w a.toNat hw (by omega)
   rw[Int.toNat_of_nonneg hr.1] at hP
   generalize bg w a.toNat=u at *
   (repeat' first|((first|with_reducible refine aF ?_ (by assumption)|with_reducible refine aE ?_ (by assumption));conv=>whnf)|refine st ?_|refine sa fun xe hxe=>?_|refine sb (fun hq=>?_) fun hq=>?_|((with_reducible refine aG ?_)<;>conv=>whnf)|refine cr (hC) ?_|refine cr (h1) ?_|refine cr (h2) ?_|refine cr (hI) ?_|refine cr (hP) ?_|exact aa)
   exact⟨rfl,rfl⟩
  ·have hv:jS a 0 12=false:=by
    cases h:jS a 0 12
    ·rfl
    ·exact absurd (aC.1 h) hr
   rw[hv] at hI
   rw[if_neg hr]
   (repeat' first|((first|with_reducible refine aF ?_ (by assumption)|with_reducible refine aE ?_ (by assumption));conv=>whnf)|refine st ?_|refine sa fun xe hxe=>?_|refine sb (fun hq=>?_) fun hq=>?_|((with_reducible refine aG ?_)<;>conv=>whnf)|refine cr (hC) ?_|refine cr (h1) ?_|refine cr (h2) ?_|refine cr (hI) ?_|exact aa)
   exact⟨rfl,rfl⟩
 rw[decide_eq_false k6] at e6
 rw[if_neg k1,if_neg k2,if_neg k3,if_neg k4,if_neg k5,if_neg k6,if_neg (show¬eU k from fun h=>by rcases h with h|h|h|h|h|h<;>contradiction)]
 have e7:=JL k qM
 by_cases k7:k=qM
 ·rw[if_pos k7]
  rw[decide_eq_true k7] at e7
  have hP:=Ml w hw
  generalize ni w=u at *
  (repeat' first|((first|with_reducible refine aF ?_ (by assumption)|with_reducible refine aE ?_ (by assumption));conv=>whnf)|refine st ?_|refine sa fun xe hxe=>?_|refine sb (fun hq=>?_) fun hq=>?_|((with_reducible refine aG ?_)<;>conv=>whnf)|refine cr (hC) ?_|refine cr (h1) ?_|refine cr (h2) ?_|refine cr (hP) ?_|exact aa)
  exact⟨rfl,rfl⟩
 ·rw[if_neg k7]
  rw[decide_eq_false k7] at e7
  (repeat' first|((first|with_reducible refine aF ?_ (by assumption)|with_reducible refine aE ?_ (by assumption));conv=>whnf)|refine st ?_|refine sa fun xe hxe=>?_|refine sb (fun hq=>?_) fun hq=>?_|((with_reducible refine aG ?_)<;>conv=>whnf)|refine cr (hC) ?_|refine cr (h1) ?_|refine cr (h2) ?_|exact aa)
  exact⟨rfl,rfl⟩
theorem Gr (t:List UInt8)(ht:t.length≤2000000):ag Tryz.prog 8 [.str (bs t)] [] (.str (bs (exT t))) []:=by
 have hsz:(bs t).size=t.length:=rfl
 unfold exT
 by_cases h6:600<t.length
 ·rw[if_pos h6]
  refine ab aj Tryz.func8 rfl rfl false 0 4 rfl rfl rfl rfl fun K hK hb1 hb2=>?_;simp only[ae,enc,Nat.reduceAdd]
  clear hb1 hb2
  (repeat' first|refine st ?_|refine sa fun xe hxe=>?_|refine sb (fun hq=>?_) fun hq=>?_|exact aa)
  exact⟨rfl,rfl⟩
 rw[if_neg h6]
 have hC:=Gk t 10 10 rfl (by omega)
 have hle:=iQ 10 t
 have hlen:=eA 10 t
 have hmem:=fQ 10 t
 generalize aK 10 t=ls at *
 have hml:(ls.map bs).length=ls.length:=az ..
 have hN:=Jc
 rw[List.dropLast_eq_take]
 refine ab aj Tryz.func8 rfl rfl false 0 4 rfl rfl rfl rfl fun K hK hb1 hb2=>?_;simp only[ae,enc,Nat.reduceAdd]
 clear hb1 hb2
 (repeat' first|refine st ?_|refine sa fun xe hxe=>?_|refine sb (fun hq=>?_) fun hq=>?_|refine cr (hC) ?_|refine cr (hN) ?_|exact aa)
 refine ah hK [] [3,4,5,6] (fun i:Nat=>⟨[(3,.ptr 4 0),(4,.str (bs (cf (ls.take i)).2)),(5,.lst .str (ls.map bs)),(6,.int .i64 (i:Int))],[(4,.var 36 (bc (cf (ls.take i)).1).cells)],5⟩) (fun i=>i+1≤ls.length) (fun i=>ls.length-i) 0 (by omega) rfl ?_
 intro i hi
 have hol:=s9 (ls.take i)
 rw[bP,mz (by omega)] at hol
 have hok:=rF (ls.take i)
 by_cases hlt:i+1<ls.length
 ·have hx:(ls.map bs)[i]?=some (bs ls[i]):=by rw[be,am (by omega)];rfl
  have hL:=Mh (cf (ls.take i)).1 ls[i] hok (by have:=hmem _ (bd (show i<ls.length by omega));omega)
  have hs:cf (ls.take (i+1))=qx (cf (ls.take i)) ls[i]:=by rw[b8 (by omega),i6]
  have hsl:=uG hok (aK 32 ls[i])
  have hb:bs (cf (ls.take (i+1))).2=bs (cf (ls.take i)).2++bs (dW (cf (ls.take i)).1 (aK 32 ls[i])):=by rw[hs,DH];rfl
  have hu:(cf (ls.take (i+1))).1=bY (cf (ls.take i)).1 (aK 32 ls[i]):=by rw[hs];rfl
  generalize hr':cf (ls.take (i+1))=r' at *
  generalize cf (ls.take i)=r at *
  generalize dW r.1 (aK 32 ls[i])=so at *
  generalize bY r.1 (aK 32 ls[i])=sw at *
  generalize ls[i]=l at *
  generalize ls.map bs=O at *
  obtain⟨rw1,ro⟩:=r
  dsimp only at *
  (repeat' first|((first|with_reducible refine aF ?_ (by assumption)|with_reducible refine aE ?_ (by assumption));conv=>whnf)|refine st ?_|refine sa fun xe hxe=>?_|refine sb (fun hq=>?_) fun hq=>?_|((with_reducible refine aG ?_)<;>conv=>whnf)|refine cr (hL) ?_|exact aa)
  refine⟨i+1,by omega,by omega,?_⟩
  rw[hr',hb,hu]
  rfl
 ·have hi2:i=ls.length-1:=by omega
  have hO:=Mi (cf (ls.take i)).1 hok
  have hOl:=iY hok (cf (ls.take i)).1.com.length
  have hcl:=hok.len
  have hOl:(outO (cf (ls.take i)).1).length≤10000011*(cf (ls.take i)).1.com.length:=hOl
  rw[←hi2]
  have hb:bs ((cf (ls.take i)).2++outO (cf (ls.take i)).1)=bs (cf (ls.take i)).2++bs (outO (cf (ls.take i)).1):=(DH _ _).symm
  rw[hb]
  generalize cf (ls.take i)=r at *
  generalize outO r.1=oo at *
  generalize ls.map bs=O at *
  obtain⟨rw1,ro⟩:=r
  dsimp only at *
  (repeat' first|((first|with_reducible refine aF ?_ (by assumption)|with_reducible refine aE ?_ (by assumption));conv=>whnf)|refine st ?_|refine sa fun xe hxe=>?_|refine sb (fun hq=>?_) fun hq=>?_|((with_reducible refine aG ?_)<;>conv=>whnf)|refine cr (hO) ?_|exact aa)
  exact⟨rfl,rfl⟩
end Go.Proofs.YtpefhoohfkeflacGreatDoor.Am
namespace Go.Proofs.YtpefhoohfkeflacGreatDoor.Am
open Go Go.RowKit
attribute [local irreducible] Mk ci Ari fB mA ju b9 cR iT fo At ag
set_option maxRecDepth 10000
theorem OB (b:List Int)(p:Int)(L:List ByteArray)(h:F4 b 0)(hp:0≤p∧p≤100000000)(hL:1≤L.length∧L.length≤1000)(hm:∀x∈L,x.size≤10):
  ∃s:ByteArray,s.size≤10∧ag Tryz.prog 24 [.ptr 4 0,.lst .str L] [(4,F3 b p)] (.str s) [(4,F3 b (p+1))]:=by
 obtain⟨v,hv,hc⟩:=LR b p L.length h hp (by omega)
 obtain⟨i,rfl⟩:∃i:Nat,v=i:=⟨v.toNat,by omega⟩
 have hi:i<L.length:=by omega
 have hx:L[i]?=some L[i]:=am hi
 refine⟨L[i],hm _ (bd hi),?_⟩
 generalize L[i]=s at *
 refine ab aj Tryz.func24 rfl rfl false 1 5 rfl rfl rfl rfl fun K hK hb1 hb2=>?_;simp only[ae,enc,Nat.reduceAdd]
 clear hb1 hb2
 (repeat' first|refine st ?_|refine sa fun xe hxe=>?_|refine sb (fun hq=>?_) fun hq=>?_|refine co (hc) ?_|exact aa)
 exact⟨rfl,rfl⟩
theorem LD (s:ByteArray)(n:Int)(hs:s.size=5)(hn:116≤n∧n≤121):∃o:ByteArray,o.size≤605∧ag Tryz.prog 14 [.str s,.int .i64 n] [] (.str o) []:=by
 suffices hs:∃r hout,(∃o:ByteArray,o.size≤605∧r= .str o∧hout=[])∧ag Tryz.prog 14 [.str s,.int .i64 n] [] r hout by
  obtain⟨r,hout,⟨v,hv,rfl,rfl⟩,h⟩:=hs
  exact⟨v,hv,h⟩
 refine lL aj Tryz.func14 rfl rfl true 0 4 rfl rfl rfl rfl (R:=fun r hout=>∃o:ByteArray,o.size≤605∧r= .str o∧hout=[]) (r0:=.str ⟨#[]⟩) (hout0:=[]) (⟨⟨#[]⟩,by decide,rfl,rfl⟩) fun K hK hb1 hb2=>?_;simp only[ae,enc,Nat.reduceAdd]
 clear hb1 hb2
 (repeat' first|refine st ?_|refine sa fun xe hxe=>?_|refine sb (fun hq=>?_) fun hq=>?_|exact aa)
 refine ah hK [] [0,1,5] (fun x:ByteArray×Nat×ByteArray=>⟨[(0,.str x.1),(1,.int .i64 (x.2.1:Int)),(5,.str x.2.2)],[],4⟩) (fun x=>x.2.2.size+x.1.size*x.2.1≤605∧x.2.1≤121∧x.1.size≤1210) (fun x=>x.2.1) (s,n.toNat,⟨#[]⟩) ⟨by dsimp only;rw[hs];show 0+_≤_;omega,by dsimp only;omega,by dsimp only;omega⟩ (by dsimp only;rw[show ((n.toNat:Nat):Int)=n by omega];rfl) ?_
 rintro⟨s,n,o⟩ ⟨h1,h2,h3⟩
 dsimp only at h1 h2 h3⊢
 have ho:o.size≤605:=by omega
 by_cases h0:n=0
 ·subst h0
  (repeat' first|refine st ?_|refine sa fun xe hxe=>?_|refine sb (fun hq=>?_) fun hq=>?_|exact aa)
  exact⟨o,ho,rfl,rfl⟩
 ·have hm:s.size≤605:=by
   have:=Nat.mul_le_mul_left s.size (show 1≤n by omega)
   omega
  have hr:((n:Int)).tmod 2=((n % 2:Nat):Int):=by rw[Int.tmod_eq_emod_of_nonneg (by omega)];omega
  have hd:((n:Int)).tdiv 2=((n/2:Nat):Int):=by rw[ml (by omega)];omega
  have hss:(s++s).size=s.size+s.size:=ByteArray.size_append
  have hos:(o++s).size=o.size+s.size:=ByteArray.size_append
  have e2:(s.size+s.size)*(n/2)=s.size*(2*(n/2)):=by rw[←Nat.two_mul,Nat.mul_comm 2 s.size,Nat.mul_assoc]
  rcases Nat.mod_two_eq_zero_or_one n with hp|hp
  ·rw[hp] at hr
   have e3:2*(n/2)=n:=by omega
   rw[e3] at e2
   (repeat' first|((first|with_reducible refine aF ?_ (by assumption)|with_reducible refine aE ?_ (by assumption));conv=>whnf)|refine st ?_|refine sa fun xe hxe=>?_|refine sb (fun hq=>?_) fun hq=>?_|((with_reducible refine aG ?_)<;>conv=>whnf)|exact aa)
   refine⟨(s++s,n/2,o),⟨?_,by dsimp only;omega,by dsimp only;omega⟩,by dsimp only;omega,by dsimp only;rw[hd]⟩
   dsimp only
   rw[hss,e2]
   exact h1
  ·rw[hp] at hr
   have e3:2*(n/2)+1=n:=by omega
   have e4:s.size*(2*(n/2))+s.size=s.size*n:=by rw[←Nat.mul_succ,Nat.succ_eq_add_one,e3]
   (repeat' first|((first|with_reducible refine aF ?_ (by assumption)|with_reducible refine aE ?_ (by assumption));conv=>whnf)|refine st ?_|refine sa fun xe hxe=>?_|refine sb (fun hq=>?_) fun hq=>?_|((with_reducible refine aG ?_)<;>conv=>whnf)|exact aa)
   refine⟨(s++s,n/2,o++s),⟨?_,by dsimp only;omega,by dsimp only;omega⟩,by dsimp only;omega,by dsimp only;rw[hd]⟩
   dsimp only
   rw[hss,hos,e2]
   omega
set_option maxHeartbeats 8000000 in
theorem M2 (b:List Int)(p:Int)(h:F4 b 0)(hp:0≤p∧p≤1000000):∃x:ByteArray×Int,(p≤x.2∧x.2≤p+10∧x.1.size≤40)∧ag Tryz.prog 13 [.ptr 4 0] [(4,F3 b p)] (.str x.1) [(4,F3 b x.2)]:=by
 suffices hs:∃r hout,(∃x:ByteArray×Int,(p≤x.2∧x.2≤p+10∧x.1.size≤40)∧r= .str x.1∧hout=[(4,F3 b x.2)])∧ag Tryz.prog 13 [.ptr 4 0] [(4,F3 b p)] r hout by
  obtain⟨r,hout,⟨v,hv,rfl,rfl⟩,h⟩:=hs
  exact⟨v,hv,h⟩
 refine lL aj Tryz.func13 rfl rfl true 1 5 rfl rfl rfl rfl (R:=fun r hout=>∃x:ByteArray×Int,(p≤x.2∧x.2≤p+10∧x.1.size≤40)∧r= .str x.1∧hout=[(4,F3 b x.2)]) (r0:=.str ⟨#[]⟩) (hout0:=[(4,F3 b p)]) (⟨(⟨#[]⟩,p),⟨by dsimp only;omega,by dsimp only;omega,aW 40⟩,rfl,rfl⟩) fun K hK hb1 hb2=>?_;simp only[ae,enc,Nat.reduceAdd]
 clear hb1 hb2
 (repeat' first|((first|with_reducible refine aF ?_ (by assumption)|with_reducible refine aE ?_ (by assumption));conv=>whnf)|refine st ?_|refine sa fun xe hxe=>?_|refine sb (fun hq=>?_) fun hq=>?_|((with_reducible refine aG ?_)<;>conv=>whnf)|((with_reducible refine ft ?_);(conv=>whnf);(first|refine n4 (OB b _ _ h (by omega) (by decide) (by decide)) fun xv hxv=>?_|refine n4 (LR b _ _ h (by omega) (by omega)) fun xv hxv=>?_);conv=>whnf)|exact aa)
 all_goals
  refine⟨(_,_),⟨?_,?_,?_⟩,rfl,rfl⟩
  ·dsimp only;omega
  ·dsimp only;omega
  ·dsimp only
   first|omega|(simp only[ByteArray.size_append,JG,aP,bF,dz,az];omega)
end Go.Proofs.YtpefhoohfkeflacGreatDoor.Am
namespace Go.Proofs.YtpefhoohfkeflacGreatDoor.Am
open Go
theorem AW (c:UInt8)(b:List UInt8):∀a:List UInt8,c∉a→aK c (a++c::b)=a::aK c b
 |[],_=>by simp[aK]
 |x::a,h=>by
  have hx:¬x=c:=fun e=>h (by simp[e])
  rw[gx,aK,if_neg hx,AW c b a fun hm=>h (by simp[hm])]
  rfl
theorem pq (c:UInt8):∀a:List UInt8,c∉a→aK c a=[a]
 |[],_=>rfl
 |x::a,h=>by
  have hx:¬x=c:=fun e=>h (by simp[e])
  rw[aK,if_neg hx,pq c a fun hm=>h (by simp[hm])]
  rfl
theorem r9 (c:UInt8):∀(l w:List UInt8),w∈aK c l→c∉w
 |[],w,h=>by simp[aK] at h;simp[h]
 |x::l,w,h=>by
  unfold aK at h
  split at h
  ·rcases aJ.1 h with rfl|h
   ·simp
   ·exact r9 c l w h
  ·rename_i hx
   have hne:=kU c l
   have ih:=r9 c l
   generalize aK c l=k at *
   cases k with
   |nil=>exact absurd rfl hne
   |cons y k=>
    simp only[j6,aJ] at h
    rcases h with rfl|h
    ·have:=ih y (by simp)
     simp only[List.singleton_append,aJ,not_or]
     exact⟨fun e=>hx e.symm,this⟩
    ·exact ih w (by simp[h])
def eY (ls:List (List UInt8)):List UInt8:=(ls.map fun l=>l++[10]).flatten
theorem ko (l:List UInt8)(ls:List (List UInt8)):eY (l::ls)=l++10::eY ls:=by simp[eY]
theorem mP (ls:List (List UInt8))(l:List UInt8):eY (ls++[l])=eY ls++(l++[10]):=by simp[eY]
theorem sd:∀(ls:List (List UInt8)) (b:List UInt8),(∀l∈ls,(10:UInt8)∉l)→aK 10 (eY ls++b)=ls++aK 10 b
 |[],b,_=>rfl
 |l::ls,b,h=>by
  rw[ko,bH,gx,AW 10 _ l (h l (by simp)),sd ls b fun x hx=>h x (by simp[hx])]
  rfl
def oz (t:List UInt8):List (List UInt8):=(aK 10 t).dropLast
theorem xU (t:List UInt8):∀l∈oz t,(10:UInt8)∉l:=fun l hl=>r9 10 t l (List.dropLast_subset _ hl)
theorem sC:∀t:List UInt8,∃l,t=eY (oz t)++l∧(10:UInt8)∉l
 |[]=>⟨[],rfl,by simp⟩
 |x::t=>by
  obtain⟨l,h1,h2⟩:=sC t
  have hne:=kU 10 t
  by_cases hx:x=10
  ·refine⟨l,?_,h2⟩
   have:oz (x::t)=[]::oz t:=by
    unfold oz
    rw[aK,if_pos hx,List.dropLast_cons_of_ne_nil hne]
   rw[this,ko,eo,gx,←h1,hx]
  ·unfold oz at h1⊢
   rw[aK,if_neg hx]
   generalize hk:aK 10 t=k at *
   cases k with
   |nil=>exact absurd rfl hne
   |cons y k=>
    cases k with
    |nil=>
     refine⟨x::t,rfl,?_⟩
     have:t=l:=by simpa[eY] using h1
     rw[aJ,not_or]
     exact⟨fun e=>hx e.symm,by rw[this];exact h2⟩
    |cons z k=>
     refine⟨l,?_,h2⟩
     have e1:(y::z::k).dropLast=y::(z::k).dropLast:=rfl
     have e2:(j6 [x] (y::z::k)).dropLast=(x::y)::(z::k).dropLast:=rfl
     rw[e1,ko] at h1
     rw[e2,ko,gx,gx,←h1]
theorem Ft (ls:List (List UInt8))(h:∀l∈ls,(10:UInt8)∉l):oz (eY ls)=ls:=by
 have:=sd ls [] h
 rw[gw] at this
 rw[oz,this]
 simp[aK]
noncomputable def outR (ls:List (List UInt8)):List UInt8:=(cf ls).2++outO (cf ls).1
theorem vj {t:List UInt8}(h:t.length≤600):exT t=outR (oz t):=by
 rw[exT,if_neg (by omega)]
 rfl
theorem HQ (t:List UInt8):(eY (oz t)).length≤t.length:=by
 obtain⟨l,h,-⟩:=sC t
 have:=congrArg List.length h
 rw[aP] at this
 omega
theorem J0 {w:Wrl}(hc:w.com.length=4)(hb:w.bad=3):outO w=linO w 0++linO w 1++linO w 2:=by
 unfold outO
 rw[hc]
 simp only[outOs,hb]
 simp
theorem uz:∀l:List Slt,(∀s∈l,(0≤s.round∧s.round≤30)∧0≤s.author∧s.author<7)→(10:UInt8)∉bQ l
 |[],_=>by simp[bQ]
 |s::l,h=>by
  have h1:=h s (by simp)
  have h2:=uz l fun x hx=>h x (by simp[hx])
  have d1:(10:UInt8)∉aQ s.round:=n9 10 (by decide) 3 _ (by omega)
  have d2:(10:UInt8)∉aQ s.author:=n9 10 (by decide) 3 _ (by omega)
  simp only[bQ,jo,bl,not_or]
  exact⟨⟨⟨⟨by decide,d1⟩,by decide⟩,d2⟩,h2⟩
noncomputable def linM (w:Wrl) (m:Nat):List UInt8:=e8++aQ m++bQ (wo w m)
theorem pI {w:Wrl}(hw:WOK w)(m:Nat)(hm:m<4):(10:UInt8)∉linM w m:=by
 have d1:(10:UInt8)∉aQ (m:Int):=n9 10 (by decide) 3 _ (by omega)
 simp only[linM,bl,not_or]
 exact⟨⟨by decide,d1⟩,uz _ (Cj hw m)⟩
theorem uy {w:Wrl}(hc:w.com.length=4)(hb:w.bad=3):outO w=eY [linM w 0,linM w 1,linM w 2]:=by
 rw[J0 hc hb]
 simp[eY,linO,linM]
theorem sZ (w:Wrl):∀n,∃ls,cM w n=eY ls
 |0=>⟨[],rfl⟩
 |n+1=>by
  obtain⟨ls,h⟩:=sZ w n
  refine⟨ls++[aQ n++[32]++aQ (w.props.getD n p0).v.round++[46]++aQ (w.props.getD n p0).v.author++[32]++aQ (w.props.getD n p0).v.digest++Lj++aQ (w.props.getD n p0).members.length],?_⟩
  rw[cM,h,mP]
  rfl
theorem Ak (w:Wrl)(ws:List (List UInt8)):∃ls,dW w ws=eY ls:=by
 unfold dW
 split
 ·exact⟨[],rfl⟩
 split
 ·exact sZ w _
 ·exact⟨[Bv],rfl⟩
theorem EI (a b:List (List UInt8)):eY (a++b)=eY a++eY b:=by simp[eY]
theorem Da (ls:List (List UInt8)):∃k,(cf ls).2=eY k:=by
 induction ls using cj with
 |h0=>exact⟨[],rfl⟩
 |h l x ih=>
  obtain⟨k,hk⟩:=ih
  obtain⟨j,hj⟩:=Ak (cf l).1 (aK 32 x)
  exact⟨k++j,by rw[i6,qx,hk,hj,EI]⟩
theorem C4 (ls:List (List UInt8)):∃h:List UInt8,(h=[]∨∃g,h=g++[10])∧(cf ls).2=h:=by
 obtain⟨k,hk⟩:=Da ls
 refine⟨_,?_,rfl⟩
 rw[hk]
 rcases List.eq_nil_or_concat k with rfl|⟨k,l,rfl⟩
 ·exact .inl rfl
 ·rw[List.concat_eq_append,mP,←bH]
  exact .inr ⟨_,rfl⟩
end Go.Proofs.YtpefhoohfkeflacGreatDoor.Am
namespace Go.Proofs.YtpefhoohfkeflacGreatDoor.Am
open Go Go.RowKit
theorem EJ {a l:List UInt8}(h:(10:UInt8)∉l):eY (oz (a++10::l))=a++[10]:=by
 obtain⟨x,h1,h2⟩:=sC a
 have hf:∀y∈oz a++[x],(10:UInt8)∉y:=fun y hy=>by
  rcases bl.1 hy with hy|hy
  ·exact xU a y hy
  ·rw[aY.1 hy];exact h2
 have e:a++10::l=eY (oz a++[x])++l:=by
  rw[mP,←bH,←h1]
  simp
 have e2:oz (a++10::l)=oz a++[x]:=by
  unfold oz
  rw[e,sd _ l hf,pq 10 l h,List.dropLast_concat]
  rfl
 rw[e2,mP,←bH,←h1]
theorem HR {t:List UInt8}(h:(10:UInt8)∉t):eY (oz t)=[]:=by
 unfold oz
 rw[pq 10 t h]
 rfl
theorem DQ (o:List UInt8)(j:Nat)(hj:j<o.length):(o.drop j).count 10=(o.drop (j+1)).count 10+(if o[j]=10 then 1 else 0):=by
 rw[ny hj,List.count_cons]
 simp only[beq_iff_eq]
attribute [local irreducible] Mk ci Ari fB mA ju b9 cR iT fo At ag
set_option maxRecDepth 10000
theorem MX (t:List UInt8)(ht:t.length≤2000000):ag Tryz.prog 9 [.str (bs t)] [] (.str (bs (eY (oz t)))) []:=by
 have hsz:(bs t).size=t.length:=rfl
 refine ab aj Tryz.func9 rfl rfl false 0 4 rfl rfl rfl rfl fun K hK hb1 hb2=>?_;simp only[ae,enc,Nat.reduceAdd]
 clear hb1 hb2
 (repeat' first|refine st ?_|refine sa fun xe hxe=>?_|refine sb (fun hq=>?_) fun hq=>?_|exact aa)
 refine ah hK [] [0,3] (fun i:Nat=>⟨[(0,.str (bs t)),(3,.int .i64 (i:Int))],[],4⟩) (fun i=>i≤t.length∧(10:UInt8)∉t.drop i) (fun i=>i) t.length ⟨ax _,by simp⟩ rfl ?_
 rintro i ⟨hi,hn⟩
 cases i with
 |zero=>
  rw[List.drop_zero] at hn
  rw[HR hn]
  (repeat' first|refine st ?_|refine sa fun xe hxe=>?_|refine sb (fun hq=>?_) fun hq=>?_|exact aa)
  exact⟨rfl,rfl⟩
 |succ j=>
  have hj:j<t.length:=by omega
  have hx:t.getD ((((j+1:Nat):Int)-1).toNat) 0=t[j]:=by
   rw[show (((j+1:Nat):Int)-1).toNat=j by omega,aq,am hj]
   rfl
  by_cases hc:t[j]=10
  ·have hxn:(((t.getD ((((j+1:Nat):Int)-1).toNat) 0).toNat:Nat):Int)=10:=by rw[hx,hc];rfl
   have he:(bs t).extract 0 (j+1)=bs (eY (oz t)):=by
    have e:t=t.take j++10::t.drop (j+1):=by rw[←hc,←ny hj,List.take_append_drop]
    rw[po]
    congr 1
    rw[e,EJ hn,←e,List.drop_zero,Nat.sub_zero,b8 hj,hc]
   (repeat' first|refine st ?_|refine sa fun xe hxe=>?_|refine sb (fun hq=>?_) fun hq=>?_|exact aa)
   exact⟨congrArg V.str he,rfl⟩
  ·have hxn:¬(((t.getD ((((j+1:Nat):Int)-1).toNat) 0).toNat:Nat):Int)=10:=by
    rw[hx]
    intro h
    exact hc (UInt8.toNat_inj.1 (by first|(have h2:(t[j].toNat:Int)=10:=h;show t[j].toNat=10;omega)|(have h2:(o[j].toNat:Int)=10:=h;show o[j].toNat=10;omega)))
   (repeat' first|refine st ?_|refine sa fun xe hxe=>?_|refine sb (fun hq=>?_) fun hq=>?_|exact aa)
   refine⟨j,⟨by omega,?_⟩,by omega,?_⟩
   ·rw[ny hj,aJ,not_or]
    exact⟨fun e=>hc e.symm,hn⟩
   ·rw[show ((j:Nat):Int)=((j+1:Nat):Int)-1 by omega]
theorem Np (h s:List UInt8)(hh:h=[]∨∃g,h=g++[10])(hs:s.count 10=3)(hl:(h++s).length≤200000000):ag Tryz.prog 10 [.str (bs (h++s))] [] (.str (bs s)) []:=by
 have hsz:(bs (h++s)).size=(h++s).length:=rfl
 have hd0:(h++s).drop h.length=s:=by simp
 have hcb:∀k,h.length≤k→((h++s).drop k).count 10≤3:=fun k hk=>by
  have e:(h++s).drop k=s.drop (k-h.length):=by rw[List.drop_append,List.drop_of_length_le hk,eo]
  rw[e,←hs]
  exact(List.drop_sublist _ _).count_le _
 have hol:h.length≤(h++s).length:=by simp
 have hfin:h=[]→h++s=s:=fun e=>by rw[e];rfl
 have hlast:∀j,h.length=j+1→(h++s)[j]?=some 10:=fun j hj=>by
  rcases hh with e|⟨g,e⟩
  ·rw[e] at hj;simp at hj
  ·have:j=g.length:=by rw[e] at hj;simp at hj;omega
   rw[e,this]
   simp
 generalize ho:h++s=o at *
 refine ab aj Tryz.func10 rfl rfl false 0 4 rfl rfl rfl rfl fun K hK hb1 hb2=>?_;simp only[ae,enc,Nat.reduceAdd]
 clear hb1 hb2
 (repeat' first|refine st ?_|refine sa fun xe hxe=>?_|refine sb (fun hq=>?_) fun hq=>?_|exact aa)
 refine ah hK [] [0,3,4] (fun k:Nat=>⟨[(0,.str (bs o)),(3,.int .i64 (((o.drop k).count 10:Nat):Int)),(4,.int .i64 ((k:Int)-1))],[],4⟩) (fun k=>k≤o.length∧h.length≤k) (fun k=>k) o.length ⟨ax _,hol⟩ (by rw[List.drop_length];rfl) ?_
 rintro k ⟨hk,hk2⟩
 have hc3:=hcb k hk2
 cases k with
 |zero=>
  have h0:h=[]:=nP.1 (by omega)
  rw[←hfin h0]
  (repeat' first|refine st ?_|refine sa fun xe hxe=>?_|refine sb (fun hq=>?_) fun hq=>?_|exact aa)
  exact⟨rfl,rfl⟩
 |succ j=>
  have hj:j<o.length:=by omega
  have hx:o.getD ((((j+1:Nat):Int)-1).toNat) 0=o[j]:=by
   rw[show (((j+1:Nat):Int)-1).toNat=j by omega,aq,am hj]
   rfl
  have hcd:=DQ o j hj
  by_cases hlt:h.length<j+1
  ·have hcj:=hcb j (by omega)
   by_cases hc:o[j]=10
   ·have hxn:(((o.getD ((((j+1:Nat):Int)-1).toNat) 0).toNat:Nat):Int)=10:=by rw[hx,hc];rfl
    rw[if_pos hc] at hcd
    have hst:(⟨[(0,.str (bs o)),(3,.int .i64 (((o.drop j).count 10:Nat):Int)),(4,.int .i64 ((j:Int)-1))],[],4⟩:VSt)=⟨[(0,.str (bs o)),(3,.int .i64 (((o.drop (j+1)).count 10:Nat)+1)),(4,.int .i64 (((j+1:Nat):Int)-1-1))],[],4⟩:=by
     rw[show ((j:Int)-1)=((j+1:Nat):Int)-1-1 by omega,hcd]
     rfl
    generalize (o.drop (j+1)).count 10=c at *
    (repeat' first|refine st ?_|refine sa fun xe hxe=>?_|refine sb (fun hq=>?_) fun hq=>?_|exact aa)
    exact⟨j,⟨by omega,by omega⟩,by omega,hst.symm⟩
   ·have hxn:¬(((o.getD ((((j+1:Nat):Int)-1).toNat) 0).toNat:Nat):Int)=10:=by
     rw[hx]
     intro h
     exact hc (UInt8.toNat_inj.1 (by first|(have h2:(t[j].toNat:Int)=10:=h;show t[j].toNat=10;omega)|(have h2:(o[j].toNat:Int)=10:=h;show o[j].toNat=10;omega)))
    rw[if_neg hc,js] at hcd
    have hst:(⟨[(0,.str (bs o)),(3,.int .i64 (((o.drop j).count 10:Nat):Int)),(4,.int .i64 ((j:Int)-1))],[],4⟩:VSt)=⟨[(0,.str (bs o)),(3,.int .i64 (((o.drop (j+1)).count 10:Nat):Int)),(4,.int .i64 (((j+1:Nat):Int)-1-1))],[],4⟩:=by
     rw[show ((j:Int)-1)=((j+1:Nat):Int)-1-1 by omega,hcd]
    generalize (o.drop (j+1)).count 10=c at *
    (repeat' first|refine st ?_|refine sa fun xe hxe=>?_|refine sb (fun hq=>?_) fun hq=>?_|exact aa)
    exact⟨j,⟨by omega,by omega⟩,by omega,hst.symm⟩
  ·have hhl:h.length=j+1:=by omega
   have hc:o[j]=10:=by have:=hlast j hhl;rw[am hj] at this;exact ar this
   have hxn:(((o.getD ((((j+1:Nat):Int)-1).toNat) 0).toNat:Nat):Int)=10:=by rw[hx,hc];rfl
   have hct:(o.drop (j+1)).count 10=3:=by rw[←hhl,hd0];exact hs
   have he:(bs o).extract (j+1) o.length=bs s:=by rw[po,←hhl,hd0,bp (by rw[←ho];simp)]
   rw[hct]
   (repeat' first|refine st ?_|refine sa fun xe hxe=>?_|refine sb (fun hq=>?_) fun hq=>?_|exact aa)
   rw[show ((((j+1:Nat):Int)-1+1).toNat)=j+1 by omega,hsz]
   exact⟨congrArg V.str he,rfl⟩
set_option maxHeartbeats 8000000 in
theorem D7 (c:List Int)(hc:∀x∈c,0≤x∧x≤255):∃o:ByteArray,o.size≤3000∧ag Tryz.prog 6 [.lst (.int .u8) c] [] (.str o) []:=by
 have h:=OC hc
 suffices hs:∃r hout,(∃o:ByteArray,o.size≤3000∧r= .str o∧hout=[])∧ag Tryz.prog 6 [.lst (.int .u8) c] [] r hout by
  obtain⟨r,hout,⟨v,hv,rfl,rfl⟩,h⟩:=hs
  exact⟨v,hv,h⟩
 refine lL aj Tryz.func6 rfl rfl true 0 4 rfl rfl rfl rfl (R:=fun r hout=>∃o:ByteArray,o.size≤3000∧r= .str o∧hout=[]) (r0:=.str ⟨#[]⟩) (hout0:=[]) (⟨⟨#[]⟩,aW 3000,rfl,rfl⟩) fun K hK hb1 hb2=>?_;simp only[ae,enc,Nat.reduceAdd]
 clear hb1 hb2
 (repeat' first|refine st ?_|refine sa fun xe hxe=>?_|refine sb (fun hq=>?_) fun hq=>?_|refine cr (LK _) ?_|exact aa)
 generalize c.take 2000=b at *
 refine ah hK [] [3,4,5] (fun x:Nat×ByteArray×Int=>⟨[(3,.ptr 4 0),(4,.str x.2.1),(5,.int .i64 (x.1:Int))],[(4,F3 b x.2.2)],5⟩) (fun x=>x.1≤23∧x.2.1.size≤41*x.1∧0≤x.2.2∧x.2.2≤11*x.1) (fun x=>24-x.1) (0,⟨#[]⟩,0) ⟨by dsimp only;omega,aW _,by dsimp only;omega,by dsimp only;omega⟩ rfl ?_
 rintro⟨i,o,p⟩ ⟨h1,h2,h3,h4⟩
 dsimp only at h1 h2 h3 h4⊢
 (repeat' first|((first|with_reducible refine aF ?_ (by assumption)|with_reducible refine aE ?_ (by assumption));conv=>whnf)|refine st ?_|refine sa fun xe hxe=>?_|refine sb (fun hq=>?_) fun hq=>?_|((with_reducible refine aG ?_)<;>conv=>whnf)|((with_reducible refine ft ?_);(conv=>whnf);(first|refine n4 (LR b _ _ h (by omega) (by omega)) fun xv hxv=>?_|refine n4 (M2 b _ h (by omega)) fun xv hxv=>?_|refine n4 (LD _ _ rfl (by omega)) fun xv hxv=>?_);conv=>whnf)|exact aa)
 ·refine⟨(i+1,o++xv.1++⟨#[10]⟩,xv.2),⟨by dsimp only;omega,?_,by dsimp only;omega,by dsimp only;omega⟩,by dsimp only;omega,rfl⟩
  dsimp only
  rw[ByteArray.size_append,ByteArray.size_append]
  show _+_+1≤_
  omega
 all_goals
  refine⟨_,?_,rfl,rfl⟩
  first|omega|(simp only[ByteArray.size_append];omega)
end Go.Proofs.YtpefhoohfkeflacGreatDoor.Am
namespace Go.Proofs.YtpefhoohfkeflacGreatDoor.Am
open Go Go.RowKit
variable {P:Program} {w0:World} {S:SD} {A:Nat→Prop} {N:Nat} {ρ:Id→Pl} {t:List (Nat×D)} {h:HL} {a:Act} {w:World} {K:Id→Prop} {Q:Exit→VSt→Prop} {σ:VSt}
theorem H7 {L:Id→Prop}{ok:Nat→Prop}{T:TypeId}{s:ByteArray}{v:Value}(h:C ρ L ok w (.ifc T (.agg [.str s])) v):v= .iface T (.agg #[.string s]):=by
 obtain⟨v',rfl,h1⟩:=h.ifc_inv
 obtain⟨vs,rfl,h2,h3⟩:=h1.agg_inv
 have h4:1=vs.size:=h2
 obtain⟨x,rfl⟩:=AG h4
 have h5:C ρ L ok w (.str s) x:=h3 0 Nat.one_pos
 rw[h5.str_inv]
theorem DA {Θ:TT}(hΘ:Θ.ok P){id:Nat}{ops:Array Oper}{l:List Oper}{od:Oper}{x:Tmp}{T:TypeId}{bt:ByteArray}(hops:ops.toList=l++[od])(hod:od.op= .panic (.tmp x)∧od.guard=none)
  (h:lv P Θ ops (fun _=>[]) false N l 0 [] σ (fun σ=>look (fL σ.t) x=some (.ifc T (.agg [.str bt]))∧Q (.panic [{v:=.iface T (.agg #[.string bt]),recovered:=false}]) σ)):At P N K (.region id ops false) Q σ:=by
 refine At.real fun hr=>?_
 have hfr:lG σ:=by obtain⟨w0,S,A,ρ0,a,w,hs⟩:=hr;exact hs.1
 obtain⟨σ',⟨q1,q3⟩,h2⟩:=nc hΘ hfr h
 obtain⟨L,l1,l2,l3,l4,l5,_⟩:=h2 [] fun h=>by cases h
 refine⟨_,σ',?_,fun _=>q3⟩
 rintro w0 S A ρ0 a w ⟨hn,hK,ρ,hρ,s⟩
 refine wp_region ?_
 have hll:L.length=l.length:=by rw[←l1,az]
 have hsz:ops.size=L.length+1:=by have:=congrArg List.length hops;simp only[nx,aP,mw] at this;omega
 have hget:∀i:Nat,ops[i]?=(l++[od])[i]?:=fun i=>by rw[←hops];simp
 rw[hsz,List.range_eq_range',List.range'_concat]
 simp only[iz,eX]
 refine sY L 0 _ _ _ a w ρ l2 hn hK hρ (fun i hi=>?_) s fun ρ' a' w' hρ' s'=>?_
 ·rw[eX,hget,cW (by omega),←l1,be]
 ·obtain⟨od1,od2⟩:=hod
  have s2:=s'.congr (t':=fL σ'.t) (h':=toH σ'.h) (fun x=>(l3 x)) (fun b=>(l4 b))
  have hv:=H7 (s2.tmp x _ q1).2
  have ho:ops[L.length]?=some od:=by rw[hget,hll,eJ (ax _)];simp
  simp only[wpOps,ho]
  have hwant:Region.wanted od (yielded ops a'.tmps)=true:=by simp[Region.wanted,od2]
  rw[if_pos hwant]
  left
  have hex:(execOp a'.eval od).run P w'= .halt (.panic (.iface T (.agg #[.string bt]))) w':=by
   have he:a'.eval (.tmp x)= .iface T (.agg #[.string bt]):=by
    rw[←hv];rfl
   obtain⟨dst,op,ty,pos,after,guard⟩:=od
   subst od1
   simp only[execOp,he]
   rfl
  unfold Oper.wp
  rw[hex,Oper.upon_panic]
  refine⟨rfl,l5,fun b hb=>?_,ρ',hρ',s2⟩
  have:=kK (fun _=>true) L 0 (toH σ.h) b (hK b hb)
  show Live (toH σ'.h) b
  unfold Live at this⊢
  rw[l4]
  exact this
theorem wS {f:FuncId}{fn:Func}{c:Code}(hf:P.funcs[f]?=some fn)(hb:fn.body=some c){x:ByteArray}{chain:List PanicEntry}(hN:2≤fn.ntmps)(hA:At P fn.ntmps (fun _=>False) c (fun e _=>e= .panic chain) ⟨[(1,.str x)],[],4⟩)
  (w:World) (v:Value) (hg:(∀g y,look Gl g=some y→g<w.heap.size∧∃ad,w.cell? ⟨g,0,none⟩=some (.iface y.1 (.pointer (some ad))))∧∀g zs,look Gt g=some zs→g<w.heap.size∧∃T fz,w.heap[g]?=some (.cells (zs.map (Value.int .u64)).toArray T fz)):
  Calls P f #[v,.string x] w fun e w'=>e= .panicked chain∧Below w.heap.size w w':=by
 obtain⟨e,σ',h1,h2⟩:=hA
 refine calls_of_wp hf hb ?_
 have hs0:SimS P w ⟨fun _=>False,[]⟩ (fun _=>True) fn.ntmps (fun _=>⟨0,0,0,0⟩) (fun _=>False) (VSt.toD ⟨[(1,.str x)],[],4⟩) {tmps:=#[v,.string x]++Array.replicate (fn.ntmps-2) undef,defers:=[]} w:=by
  refine⟨fun b _=>rfl,fun b hb=>hb.elim,fun _=>⟨0,0,0,0⟩,fun b hb=>rfl,fun _ _=>trivial,fun _ _=>trivial,Fr.refl _ _,rfl,by simp;omega,fun k d hk=>?_,fun b x hx=>(by cases hx),fun b x hx=>(by cases hx),fun b b' x x' hx=>(by cases hx),fun g y hx=>⟨⟨trivial,id,(hg.1 g y hx).1⟩,(hg.1 g y hx).2⟩,fun g zs hx=>⟨⟨trivial,id,(hg.2 g zs hx).1⟩,(hg.2 g zs hx).2⟩⟩
  have hk2:(if k=1 then some (D.str x) else none)=some d:=hk
  split at hk2
  ·rename_i e1
   subst e1
   obtain rfl:=ar hk2
   refine⟨by omega,?_⟩
   have:(#[v,.string x]++Array.replicate (fn.ntmps-2) undef).getD 1 undef= .string x:=by
    rw[bJ,uM (by simp)]
    rfl
   rw[this]
   exact C.str x
  ·cases hk2
 refine wp_mono (h1 _ _ _ _ _ w hs0) ?_
 rintro e' a' w' ⟨rfl,hs1⟩
 obtain rfl:=h2 ⟨_,_,_,_,_,_,hs1⟩
 obtain⟨-,-,ρ,-,s⟩:=hs1
 exact⟨s.defers,rfl,s.fr.os,s.fr.tape,s.fr.output,s.fr.size,fun k hk=>s.fr.block k hk id⟩

end Go.Proofs.YtpefhoohfkeflacGreatDoor.Am
