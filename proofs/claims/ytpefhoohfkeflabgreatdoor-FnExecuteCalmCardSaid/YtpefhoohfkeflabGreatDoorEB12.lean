/- Orders: heaps of vertices in the program. Orders: vertices sink in heaps. Orders: vertices come out of heaps in order. Orders: what a wave orders, vertex by vertex (plain laws). Orders: the program's orders. Orders: the program's OrderSlots, WorldOrder. Orders: slots held against each other. Orders: FnWorldOrder. Scripts: the specification's own functions. Scripts: what is drawn. Scripts: lines and last lines, plain. Scripts: a script is drawn; complete lines; last lines. The plain machine: a function that panics. -/
import Derived.Test.YtpefhoohfkeflabGreatDoorEB11
set_option linter.unusedSimpArgs false
set_option linter.unusedVariables false
set_option maxHeartbeats 1000000
namespace Go.Proofs.YtpefhoohfkeflabGreatDoor.Am
open Go
attribute [local irreducible] Mk ci Ari fF mI jx ca cR iW fv At ag wJ
set_option maxRecDepth 10000
def Θq:TT:=(154,⟨.slice 157,1,24,some .nils,some (.lst .odd),false⟩)::(157,⟨.struct [(73,0,4),(3,4,1)],5,56,some (.agg [.int .i64 0,.int .i64 0,.nils,.int .i64 0,.int .i64 0]),some .odd,false⟩)::(187,⟨.slice 73,1,24,some .nils,some (.lst .vtx),true⟩)::Θe
theorem dL:TT.ok Tryz.prog Θq:=TT.okB_ok (by kernel_rfl)
theorem kb {P Q:Prop}(h:Q)(s:Hid Q→P:=by
  intro h
  (first|(with_reducible first|apply dV|apply cU)|((first|with_reducible apply cJ dL|refine go ?_|(with_reducible first|apply df|apply dq|apply cH|apply cK|refine cI dL mixed (by kernel_rfl) ?_))<;>conv=>whnf))
  repeat(first|(with_reducible first|apply dV|apply cU)|((first|with_reducible apply cJ dL|refine go ?_|(with_reducible first|apply df|apply dq|apply cH|apply cK|refine cI dL mixed (by kernel_rfl) ?_))<;>conv=>whnf))
  exact h.h):P:=s ⟨h⟩
theorem Aj (xs:List Vtx):ag Tryz.prog 185 [.lst .vtx xs] [] (.int .i64 xs.length) []:=by
 refine ab dL Tryz.func185 rfl rfl false 0 4 rfl rfl rfl rfl fun K hK hb1 hb2=>?_;simp only[ae,enc,Nat.reduceAdd]
 clear hb1 hb2
 (repeat' first|refine kb ?_|refine sa fun xe hxe=>?_|refine sb (fun hq=>?_) fun hq=>?_|exact aa)
 exact⟨rfl,rfl⟩
theorem rK (xs:List Vtx)(i j:Nat)(x y:Vtx)(hi:xs[i]?=some x)(hj:xs[j]?=some y):ag Tryz.prog 250 [.lst .vtx xs,.int .i64 (i:Int),.int .i64 (j:Int)] [] (.bool (bef x y)) []:=by
 have hB:=vN x y
 refine ab dL Tryz.func250 rfl rfl false 0 4 rfl rfl rfl rfl fun K hK hb1 hb2=>?_;simp only[ae,enc,Nat.reduceAdd]
 clear hb1 hb2
 (repeat' first|refine kb ?_|refine sa fun xe hxe=>?_|refine sb (fun hq=>?_) fun hq=>?_|refine cr (hB) ?_|exact aa)
 exact⟨rfl,rfl⟩
theorem wb (xs:List Vtx)(i j:Nat)(x y:Vtx)(hi:xs[i]?=some x)(hj:xs[j]?=some y):ag Tryz.prog 253 [.ref 4,.int .i64 (i:Int),.int .i64 (j:Int)] [(4,.row 73 .vtx xs)] (.tup []) [(4,.row 73 .vtx (yH xs i j x y))]:=by
 have hxj:(xs.set i y)[j]?=some (if i=j then y else y):=by
  rw[dp]
  have:=(aR.1 hj).1
  by_cases e:i=j
  ·rw[if_pos e,if_pos (by omega),if_pos e]
  ·rw[if_neg e,if_neg e,hj]
 have h1:=(aR.1 hi).1
 have h2:=(aR.1 hj).1
 have h3:(xs.set i y).length=xs.length:=by simp
 refine ab dL Tryz.func253 rfl rfl false 1 5 rfl rfl rfl rfl fun K hK hb1 hb2=>?_;simp only[ae,enc,Nat.reduceAdd]
 clear hb1 hb2
 (repeat' first|refine kb ?_|refine sa fun xe hxe=>?_|refine sb (fun hq=>?_) fun hq=>?_|exact aa)
 exact⟨rfl,rfl⟩
abbrev qB (xs:List Vtx):VH:=[(4,.var 187 [.ref 5]),(5,.row 73 .vtx xs)]
abbrev qG (xs:List Vtx):VH:=[(4,.var 187 [.ref 6]),(5,.gone),(6,.row 73 .vtx xs)]
theorem I8 (xs:List Vtx)(v:Vtx)(hl:xs.length≤1000000):ag Tryz.prog 252 [.ptr 4 0,.ifc 73 (cZ v)] (qB xs) (.tup []) (qG (xs++[v])):=by
 refine ab dL Tryz.func252 rfl rfl false 2 6 rfl rfl rfl rfl fun K hK hb1 hb2=>?_;simp only[ae,enc,Nat.reduceAdd]
 clear hb1 hb2
 (repeat' first|refine kb ?_|refine sa fun xe hxe=>?_|refine sb (fun hq=>?_) fun hq=>?_|exact aa)
 exact⟨rfl,rfl⟩
theorem Mf (xs:List Vtx)(n:Nat)(v:Vtx)(hn:xs.length=n+1)(hl:n≤1000000)(hv:xs[n]?=some v):ag Tryz.prog 251 [.ptr 4 0] (qB xs) (.ifc 73 (cZ v)) (qG (xs.take n)):=by
 have e1:((xs.length:Int)-1).toNat=n:=by omega
 have hx:xs[((xs.length:Int)-1).toNat]?=some v:=by rw[e1];exact hv
 have hcut:lT xs none (some (.int .i64 ((xs.length:Int)-1))) 0 ((xs.length:Int)-1).toNat=xs.take n:=by rw[e1];rfl
 refine ab dL Tryz.func251 rfl rfl false 2 6 rfl rfl rfl rfl fun K hK hb1 hb2=>?_;simp only[ae,enc,Nat.reduceAdd]
 clear hb1 hb2
 (repeat' first|refine kb ?_|refine sa fun xe hxe=>?_|refine sb (fun hq=>?_) fun hq=>?_|exact aa)
 exact⟨rfl,by rw[←hcut]⟩
theorem Np (xs:List Vtx)(j:Nat)(hj:j<xs.length)(hl:xs.length≤1000000)(ha:xs.Pairwise fun a b=>bef a b=true):ag Tryz.prog 184 [.ifc 186 (.ptr 4 0),.int .i64 (j:Int)] (qB xs) (.tup []) (qB xs):=by
 have hm : kC Tryz.prog 186 "Less" = some (250, false) := by kernel_rfl
 refine ab dL Tryz.func184 rfl rfl false 2 6 rfl rfl rfl rfl fun K hK hb1 hb2=>?_;simp only[ae,enc,Nat.reduceAdd]
 clear hb1 hb2
 (repeat' first|refine kb ?_|refine sa fun xe hxe=>?_|refine sb (fun hq=>?_) fun hq=>?_|exact aa)
 refine ah hK [] [0,1] (fun _:Unit=>⟨[(0,.ifc 186 (.ptr 4 0)),(1,.int .i64 (j:Int))],qB xs,6⟩) (fun _=>True) (fun _=>0) () trivial rfl ?_
 intro _ _
 cases j with
 |zero=>
  have hq0:(((0:Nat):Int)-1).tdiv 2=((0:Nat):Int):=by decide
  (repeat' first|refine kb ?_|refine sa fun xe hxe=>?_|refine sb (fun hq=>?_) fun hq=>?_|exact aa)
  (try any_goals(first|exact absurd trivial hq|exact absurd rfl hq|exact absurd hq (by omega)|(exfalso;simp at hq;done)))
  exact⟨rfl,rfl⟩
 |succ j=>
  have e:(((j+1:Nat):Int)-1).tdiv 2=((j/2:Nat):Int):=by
   rw[my (by omega)]
   omega
  have hx:xs[j+1]?=some xs[j+1]:=am hj
  have hp:j/2<xs.length:=by omega
  have hy:xs[j/2]?=some xs[j/2]:=am hp
  have hL:=rK xs (j+1) (j/2) xs[j+1] xs[j/2] hx hy
  rw[n4 (qO.1 ha _ _ hp hj (by omega)),←e] at hL
  have hne:¬(((j+1:Nat):Int)-1).tdiv 2=((j+1:Nat):Int):=by rw[e];omega
  (repeat' first|refine kb ?_|refine sa fun xe hxe=>?_|refine sb (fun hq=>?_) fun hq=>?_|refine cr (hL) ?_|exact aa)
  (try any_goals(first|exact absurd trivial hq|exact absurd rfl hq|exact absurd hq (by omega)|(exfalso;simp at hq;done)))
  exact⟨rfl,rfl⟩
theorem Ic (xs:List Vtx)(v:Vtx)(hl:xs.length≤100000)(ha:(xs++[v]).Pairwise fun a b=>bef a b=true):ag Tryz.prog 157 [.ifc 186 (.ptr 4 0),.ifc 73 (cZ v)] (qB xs) (.tup []) (qG (xs++[v])):=by
 have hm : kC Tryz.prog 186 "Push" = some (252, true) := by kernel_rfl
 have hm2 : kC Tryz.prog 186 "Len" = some (185, false) := by kernel_rfl
 have hP:=I8 xs v (by omega)
 have hN:=Aj (xs++[v])
 have hpl:(xs++[v]).length=xs.length+1:=by simp
 have hU:=Np (xs++[v]) xs.length (by omega) (by omega) ha
 have e:(((xs++[v]).length:Nat):Int)-1=(xs.length:Int):=by omega
 rw[←e] at hU
 refine ab dL Tryz.func157 rfl rfl false 2 6 rfl rfl rfl rfl fun K hK hb1 hb2=>?_;simp only[ae,enc,Nat.reduceAdd]
 clear hb1 hb2
 (repeat' first|refine kb ?_|refine sa fun xe hxe=>?_|refine sb (fun hq=>?_) fun hq=>?_|refine cr (hN) ?_|refine co (hP) ?_|refine co (hU) ?_|exact aa)
 exact⟨rfl,rfl⟩
structure SDone (l0 l:List Vtx)(n:Nat):Prop where
 len:l.length=l0.length
 perm:(l.take n).Perm (l0.take n)
 rest:∀k,n≤k→l[k]?=l0[k]?
 heap:Heap l n
theorem tz {l0 l:List Vtx}{n i:Nat}(h:Sft l0 l n i)(hn:n≤2*i+1):SDone l0 l n:=by
 refine⟨h.len,h.perm,h.rest,?_⟩
 intro k a b k0 kn ha hb
 exact h.hp k a b k0 kn (by omega) ha hb
theorem kN {l0 l:List Vtx}{n i:Nat}(h:Sft l0 l n i){x y:Vtx}(hi:l[i]?=some x)(hb:bef y x=false)(hs:∀k z,0<k→k<n→(k-1)/2=i→l[k]?=some z→bef z y=false):SDone l0 l n:=
 ⟨h.len,h.perm,h.rest,Jl h hi fun k z k0 kn kp hz=>s5 (hs k z k0 kn kp hz) hb⟩
theorem JW {l:List Vtx}{n i:Nat}{a b:Vtx}(ha:l[2*i+1]?=some a)(hb:l[2*i+2]?=some b)(h:bef b a=true):∀k z,0<k→k<n→(k-1)/2=i→l[k]?=some z→bef z b=false:=fun k z k0 kn kp hz=>by
 rcases (show k=2*i+1∨k=2*i+2 by omega) with rfl|rfl
 ·rw[ha] at hz
  obtain rfl:=aq hz
  exact n4 h
 ·rw[hb] at hz
  obtain rfl:=aq hz
  rw[ck]
  intro h2
  rw[jL] at h2
  omega
theorem A2 {l:List Vtx}{n i:Nat}{a:Vtx}(ha:l[2*i+1]?=some a)(h:∀b,2*i+2<n→l[2*i+2]?=some b→bef b a=false):∀k z,0<k→k<n→(k-1)/2=i→l[k]?=some z→bef z a=false:=fun k z k0 kn kp hz=>by
 rcases (show k=2*i+1∨k=2*i+2 by omega) with rfl|rfl
 ·rw[ha] at hz
  obtain rfl:=aq hz
  rw[ck]
  intro h2
  rw[jL] at h2
  omega
 ·exact h z kn hz
theorem Mu {l0:List Vtx}{n:Nat}(hn:n≤l0.length):∀(m i:Nat) (l:List Vtx),n-i≤m→i<l0.length→Sft l0 l n i→∃ys,SDone l0 ys n:=by
 intro m
 induction m with
 |zero=>exact fun i l hm _ h=>⟨l,tz h (by omega)⟩
 |succ m ih=>
  intro i l hm hil h
  have hlen:=h.len
  by_cases h1:n≤2*i+1
  ·exact⟨l,tz h h1⟩
  have hx:l[i]?=some (l[i]'(by omega)):=am _
  have ha:l[2*i+1]?=some (l[2*i+1]'(by omega)):=am _
  generalize l[i]'(by omega)=x at *
  generalize l[2*i+1]'(by omega)=a at *
  by_cases h2:2*i+2<n
  ·have hb:l[2*i+2]?=some (l[2*i+2]'(by omega)):=am _
   generalize l[2*i+2]'(by omega)=b at *
   cases h3:bef b a
   ·have hs:=A2 (n:=n) ha fun b' _ hb'=>by rw[hb] at hb';obtain rfl:=aq hb';exact h3
    cases h4:bef a x
    ·exact⟨l,kN h hx h4 hs⟩
    ·exact ih _ _ (by omega) (by omega) (kM h hx ha (by omega) (by omega) (by omega) h4 hs)
   ·have hs:=JW (n:=n) ha hb h3
    cases h4:bef b x
    ·exact⟨l,kN h hx h4 hs⟩
    ·exact ih _ _ (by omega) (by omega) (kM h hx hb (by omega) (by omega) (by omega) h4 hs)
  ·have hs:=A2 (n:=n) ha fun b' h5 _=>absurd h5 h2
   cases h4:bef a x
   ·exact⟨l,kN h hx h4 hs⟩
   ·exact ih _ _ (by omega) (by omega) (kM h hx ha (by omega) (by omega) (by omega) h4 hs)
set_option maxHeartbeats 1000000 in
theorem Ib (zs:List Vtx)(n:Nat)(hn:n≤zs.length)(h0:0<zs.length)(hl:zs.length≤100000)(hS:Sft zs zs n 0):∃x:List Vtx×Bool,SDone zs x.1 n∧ag Tryz.prog 204 [.ifc 186 (.ptr 4 0),.int .i64 0,.int .i64 (n:Int)] (qB zs) (.bool x.2) (qB x.1):=by
 obtain⟨y0,hy0⟩:=Mu hn n 0 zs (by omega) h0 hS
 suffices hs:∃r hout,(∃x:List Vtx×Bool,SDone zs x.1 n∧r= .bool x.2∧hout=qB x.1)∧ag Tryz.prog 204 [.ifc 186 (.ptr 4 0),.int .i64 0,.int .i64 (n:Int)] (qB zs) r hout by
  obtain⟨r,hout,⟨v,hv,rfl,rfl⟩,h⟩:=hs
  exact⟨v,hv,h⟩
 have hm : kC Tryz.prog 186 "Less" = some (250, false) := by kernel_rfl
 have hm2 : kC Tryz.prog 186 "Swap" = some (253, false) := by kernel_rfl
 refine lS dL Tryz.func204 rfl rfl false 2 6 rfl rfl rfl rfl (R:=fun r hout=>∃x:List Vtx×Bool,SDone zs x.1 n∧r= .bool x.2∧hout=qB x.1) (r0:=.bool true) (hout0:=qB y0) (⟨(y0,true),hy0,rfl,rfl⟩) fun K hK hb1 hb2=>?_;simp only[ae,enc,Nat.reduceAdd]
 clear hb1 hb2
 (repeat' first|refine kb ?_|refine sa fun xe hxe=>?_|refine sb (fun hq=>?_) fun hq=>?_|exact aa)
 refine ah hK [] [0,1,2,7] (fun x:Nat×List Vtx=>⟨[(0,.ifc 186 (.ptr 4 0)),(1,.int .i64 0),(2,.int .i64 (n:Int)),(7,.int .i64 (x.1:Int))],qB x.2,6⟩) (fun x=>Sft zs x.2 n x.1∧x.1<zs.length) (fun x=>zs.length-x.1) (0,zs) ⟨hS,h0⟩ rfl ?_
 rintro⟨i,l⟩ ⟨h,hil⟩
 dsimp only at h hil⊢
 have hlen:=h.len
 by_cases h1:n≤2*i+1
 ·have hd:=tz h h1
  (repeat' first|refine kb ?_|refine sa fun xe hxe=>?_|refine sb (fun hq=>?_) fun hq=>?_|exact aa)
  (try any_goals(first|exact absurd trivial hq|exact absurd rfl hq|exact absurd hq (by omega)|(exfalso;simp at hq;done)))
  exact⟨(l,_),hd,rfl,rfl⟩
 have hx:l[i]?=some (l[i]'(by omega)):=am _
 have ha:l[2*i+1]?=some (l[2*i+1]'(by omega)):=am _
 generalize l[i]'(by omega)=x at *
 generalize l[2*i+1]'(by omega)=a at *
 have e1:((2*i+1:Nat):Int)=2*(i:Int)+1:=by omega
 have e2:((2*i+2:Nat):Int)=2*(i:Int)+1+1:=by omega
 have hLa:=rK l (2*i+1) i a x ha hx
 have hSa:=wb l i (2*i+1) x a hx ha
 rw[e1] at hLa hSa
 by_cases h2:2*i+2<n
 ·have hb:l[2*i+2]?=some (l[2*i+2]'(by omega)):=am _
  generalize l[2*i+2]'(by omega)=b at *
  have hLb:=rK l (2*i+2) (2*i+1) b a hb ha
  have hLc:=rK l (2*i+2) i b x hb hx
  have hSb:=wb l i (2*i+2) x b hx hb
  rw[e2,e1] at hLb
  rw[e2] at hLc hSb
  cases h3:bef b a
  ·have hs:=A2 (n:=n) ha fun b' _ hb'=>by rw[hb] at hb';obtain rfl:=aq hb';exact h3
   rw[h3] at hLb
   cases h4:bef a x
   ·have hd:=kN h hx h4 hs
    rw[h4] at hLa
    (repeat' first|refine kb ?_|refine sa fun xe hxe=>?_|refine sb (fun hq=>?_) fun hq=>?_|refine cr (hLb) ?_|refine cr (hLa) ?_|exact aa)
    (try any_goals(first|exact absurd trivial hq|exact absurd rfl hq|exact absurd hq (by omega)|(exfalso;simp at hq;done)))
    exact⟨(l,_),hd,rfl,rfl⟩
   ·have hst:=kM h hx ha (by omega) (by omega) (by omega) h4 hs
    rw[h4] at hLa
    generalize yH l i (2*i+1) x a=l2 at *
    (repeat' first|refine kb ?_|refine sa fun xe hxe=>?_|refine sb (fun hq=>?_) fun hq=>?_|refine cr (hLb) ?_|refine cr (hLa) ?_|refine co (hSa) ?_|exact aa)
    (try any_goals(first|exact absurd trivial hq|exact absurd rfl hq|exact absurd hq (by omega)|(exfalso;simp at hq;done)))
    exact⟨(2*i+1,l2),⟨hst,by dsimp only;omega⟩,by dsimp only;omega,by dsimp only;rw[e1]⟩
  ·have hs:=JW (n:=n) ha hb h3
   rw[h3] at hLb
   cases h4:bef b x
   ·have hd:=kN h hx h4 hs
    rw[h4] at hLc
    (repeat' first|refine kb ?_|refine sa fun xe hxe=>?_|refine sb (fun hq=>?_) fun hq=>?_|refine cr (hLb) ?_|refine cr (hLc) ?_|exact aa)
    (try any_goals(first|exact absurd trivial hq|exact absurd rfl hq|exact absurd hq (by omega)|(exfalso;simp at hq;done)))
    exact⟨(l,_),hd,rfl,rfl⟩
   ·have hst:=kM h hx hb (by omega) (by omega) (by omega) h4 hs
    rw[h4] at hLc
    generalize yH l i (2*i+2) x b=l2 at *
    (repeat' first|refine kb ?_|refine sa fun xe hxe=>?_|refine sb (fun hq=>?_) fun hq=>?_|refine cr (hLb) ?_|refine cr (hLc) ?_|refine co (hSb) ?_|exact aa)
    (try any_goals(first|exact absurd trivial hq|exact absurd rfl hq|exact absurd hq (by omega)|(exfalso;simp at hq;done)))
    exact⟨(2*i+2,l2),⟨hst,by dsimp only;omega⟩,by dsimp only;omega,by dsimp only;rw[e2]⟩
 ·have hs:=A2 (n:=n) ha fun b' h5 _=>absurd h5 h2
  cases h4:bef a x
  ·have hd:=kN h hx h4 hs
   rw[h4] at hLa
   (repeat' first|refine kb ?_|refine sa fun xe hxe=>?_|refine sb (fun hq=>?_) fun hq=>?_|refine cr (hLa) ?_|exact aa)
   (try any_goals(first|exact absurd trivial hq|exact absurd rfl hq|exact absurd hq (by omega)|(exfalso;simp at hq;done)))
   exact⟨(l,_),hd,rfl,rfl⟩
  ·have hst:=kM h hx ha (by omega) (by omega) (by omega) h4 hs
   rw[h4] at hLa
   generalize yH l i (2*i+1) x a=l2 at *
   (repeat' first|refine kb ?_|refine sa fun xe hxe=>?_|refine sb (fun hq=>?_) fun hq=>?_|refine cr (hLa) ?_|refine co (hSa) ?_|exact aa)
   (try any_goals(first|exact absurd trivial hq|exact absurd rfl hq|exact absurd hq (by omega)|(exfalso;simp at hq;done)))
   exact⟨(2*i+1,l2),⟨hst,by dsimp only;omega⟩,by dsimp only;omega,by dsimp only;rw[e1]⟩
theorem Jw {xs:List Vtx}{n:Nat}{r y:Vtx}(hn:xs.length=n+1)(hh:Heap xs xs.length)(hr:xs[0]?=some r)(hy:xs[n]?=some y):Sft (yH xs 0 n r y) (yH xs 0 n r y) n 0:=by
 refine NU fun k a b k0 kn kp ha hb=>?_
 rw[wr hr hy,if_neg (by omega),if_neg (by omega)] at ha
 rw[wr hr hy,if_neg (by omega),if_neg kp] at hb
 exact hh k a b k0 (by omega) ha hb
theorem KZ (xs:List Vtx)(n:Nat)(r:Vtx)(hn:xs.length=n+1)(hl:n≤10000)(hh:Heap xs xs.length)(hr:xs[0]?=some r):∃ys:List Vtx,(ys.length=n∧Heap ys n∧(r::ys).Perm xs)∧ag Tryz.prog 186 [.ifc 186 (.ptr 4 0)] (qB xs) (.ifc 73 (cZ r)) (qG ys):=by
 have hm : kC Tryz.prog 186 "Pop" = some (251, true) := by kernel_rfl
 have hm2 : kC Tryz.prog 186 "Len" = some (185, false) := by kernel_rfl
 have hm3 : kC Tryz.prog 186 "Swap" = some (253, false) := by kernel_rfl
 have hy:xs[n]?=some (xs[n]'(by omega)):=am _
 generalize xs[n]'(by omega)=y at *
 have hsf:=Jw hn hh hr hy
 have hsp:=yI hr hy
 have hsl:=Co xs 0 n r y
 have hsn:(yH xs 0 n r y)[n]?=some r:=by rw[wr hr hy,if_pos rfl]
 have hS:=wb xs 0 n r y hr hy
 generalize yH xs 0 n r y=zs at *
 obtain⟨⟨l,b⟩,hd,hD⟩:=Ib zs n (by omega) (by omega) (by omega) hsf
 dsimp only at hd hD
 have hll:=hd.len
 have hln:l[n]?=some r:=by rw[hd.rest n (ax _)];exact hsn
 have hP:=Mf l n r (by omega) (by omega) hln
 have hN:=Aj xs
 have e:((xs.length:Int)-1)=(n:Int):=by omega
 rw[←e] at hS hD
 have hzt:zs=zs.take n++[r]:=by
  have h1:zs=zs.take (n+1):=(bp (by omega)).symm
  obtain⟨h2,h3⟩:=aR.1 hsn
  rw[b9 h2,h3] at h1
  exact h1
 refine⟨l.take n,⟨by rw[bP];omega,?_,?_⟩,?_⟩
 ·intro k a b' k0 kn ha hb
  rw[er,if_pos kn] at ha
  rw[er,if_pos (by omega)] at hb
  exact hd.heap k a b' k0 kn ha hb
 ·have h1:(r::l.take n).Perm (r::zs.take n):=List.Perm.cons r hd.perm
  have h2:(r::zs.take n).Perm (zs.take n++[r]):=by
   have:=List.perm_append_comm (l₁:=[r]) (l₂:=zs.take n)
   simpa using this
  rw[←hzt] at h2
  exact h1.trans (h2.trans hsp)
 ·clear hzt
  refine ab dL Tryz.func186 rfl rfl false 2 6 rfl rfl rfl rfl fun K hK hb1 hb2=>?_;simp only[ae,enc,Nat.reduceAdd]
  clear hb1 hb2
  (repeat' first|refine kb ?_|refine sa fun xe hxe=>?_|refine sb (fun hq=>?_) fun hq=>?_|refine cr (hN) ?_|refine co (hS) ?_|refine co (hD) ?_|refine co (hP) ?_|exact aa)
  exact⟨rfl,rfl⟩
def NK (w:Int)(m:Nat)(ys:List Vtx)(os:List Odd):VSt:=match m with
 |0=>⟨[(0,.ptr 4 0),(1,.int .i64 w),(5,.ref 6)],qB ys++[(6,.row 157 .odd os)],7⟩
 |_+1=>⟨[(0,.ptr 4 0),(1,.int .i64 w),(5,.ref 6)],[(4,.var 187 [.ref 7]),(5,.gone),(6,.row 157 .odd os),(7,.row 73 .vtx ys)],8⟩
def qE (s:List Vtx):VH:=if s=[] then qB [] else qG []
theorem HQ (s xs:List Vtx)(w:Int)(hl:s.length≤10000)(hs:s.Pairwise fun a b=>bef a b=true)(hp:xs.Perm s)(hh:Heap xs xs.length):ag Tryz.prog 158 [.ptr 4 0,.int .i64 w] (qB xs) (.lst .odd (s.map fun v=>⟨v,w⟩)) (qE s):=by
 refine ab dL Tryz.func158 rfl rfl true 2 6 rfl rfl rfl rfl fun K hK hb1 hb2=>?_;simp only[ae,enc,Nat.reduceAdd]
 clear hb1 hb2
 (repeat' first|refine kb ?_|refine sa fun xe hxe=>?_|refine sb (fun hq=>?_) fun hq=>?_|exact aa)
 refine ah hK [] [0,1,5] (fun x:Nat×List Vtx=>NK w x.1 x.2 ((s.take x.1).map fun v=>⟨v,w⟩)) (fun x=>x.1≤s.length∧x.2.Perm (s.drop x.1)∧Heap x.2 x.2.length) (fun x=>s.length-x.1) (0,xs) ⟨aX _,by simpa using hp,hh⟩ rfl ?_
 rintro⟨m,ys⟩ ⟨hm,hpm,hhm⟩
 dsimp only at hm hpm hhm⊢
 have hyl:ys.length=s.length-m:=by rw[hpm.length_eq,lB]
 have hN:=Aj ys
 by_cases hlt:m<s.length
 ·obtain⟨v,hv⟩:∃v,s[m]?=some v:=⟨_,am hlt⟩
  have hvd:s.drop m=v::s.drop (m+1):=by
   obtain⟨h1,h2⟩:=aR.1 hv
   rw[←h2]
   exact nF h1
  have h3:s.take (m+1)=s.take m++[v]:=by
   obtain⟨h1,h2⟩:=aR.1 hv
   rw[←h2]
   exact b9 h1
  have hr:ys[0]?=some (ys[0]'(by omega)):=am _
  have hrv:ys[0]'(by omega)=v:=CY (s:=s.drop (m+1)) (x:=v) (by rw[←hvd];exact hs.sublist (List.drop_sublist _ _)) (by rw[←hvd];exact hpm) hhm hr
  rw[hrv] at hr
  obtain⟨zs,⟨z1,z2,z3⟩,hP⟩:=KZ ys (ys.length-1) v (by omega) (by omega) hhm hr
  have hzp:zs.Perm (s.drop (m+1)):=by
   have:=z3.trans hpm
   rw[hvd] at this
   exact List.Perm.cons_inv this
  have hsn:(s.take (m+1)).map (fun v=>(⟨v,w⟩:Odd))=(s.take m).map (fun v=>(⟨v,w⟩:Odd))++[⟨v,w⟩]:=by rw[h3,cf];rfl
  have htl:((s.take m).map (fun v=>(⟨v,w⟩:Odd))).length=m:=by simp;omega
  generalize hA:(s.take m).map (fun v=>(⟨v,w⟩:Odd))=A at *
  cases m with
  |zero=>
   unfold NK
   (repeat' first|refine kb ?_|refine sa fun xe hxe=>?_|refine sb (fun hq=>?_) fun hq=>?_|refine cr (hN) ?_|refine co (hP) ?_|exact aa)
   (try any_goals(first|exact absurd trivial hq|exact absurd rfl hq|exact absurd hq (by omega)|(exfalso;simp at hq;done)))
   exact⟨(0+1,zs),⟨by dsimp only;omega,hzp,by dsimp only;rw[z1];exact z2⟩,by dsimp only;omega,by dsimp only;rw[hsn]⟩
  |succ m=>
   unfold NK
   (repeat' first|refine kb ?_|refine sa fun xe hxe=>?_|refine sb (fun hq=>?_) fun hq=>?_|refine cr (hN) ?_|refine co (hP) ?_|exact aa)
   (try any_goals(first|exact absurd trivial hq|exact absurd rfl hq|exact absurd hq (by omega)|(exfalso;simp at hq;done)))
   exact⟨(m+1+1,zs),⟨by dsimp only;omega,hzp,by dsimp only;rw[z1];exact z2⟩,by dsimp only;omega,by dsimp only;rw[hsn]⟩
 ·obtain rfl:m=s.length:=by omega
  rw[iS]
  have hy0:ys=[]:=nU.1 (by omega)
  subst hy0
  cases hsc:s with
  |nil=>
   subst hsc
   unfold NK
   (repeat' first|refine kb ?_|refine sa fun xe hxe=>?_|refine sb (fun hq=>?_) fun hq=>?_|refine cr (hN) ?_|exact aa)
   (try any_goals(first|exact absurd trivial hq|exact absurd rfl hq|exact absurd hq (by omega)|(exfalso;simp at hq;done)))
   exact⟨rfl,rfl⟩
  |cons v s'=>
   have hE:qE (v::s')=qG []:=by unfold qE;rw[if_neg (by simp)]
   rw[hE]
   generalize (v::s').map (fun v=>(⟨v,w⟩:Odd))=A at *
   simp only[bF]
   unfold NK
   (repeat' first|refine kb ?_|refine sa fun xe hxe=>?_|refine sb (fun hq=>?_) fun hq=>?_|refine cr (hN) ?_|exact aa)
   (try any_goals(first|exact absurd trivial hq|exact absurd rfl hq|exact absurd hq (by omega)|(exfalso;simp at hq;done)))
   exact⟨rfl,rfl⟩
end Go.Proofs.YtpefhoohfkeflabGreatDoor.Am
namespace Go.Proofs.YtpefhoohfkeflabGreatDoor.Am
open Go
noncomputable def oddTo (g:List Vtx) (l:List Int):List Odd→List Nat→List Odd
 |os,[]=>os
 |os,w::ws=>oddTo g l (os++(ordW g l (os.map (·.v)) w).map fun v=>⟨v,(w:Int)⟩) ws
theorem BW (g:List Vtx)(l:List Int):∀(ws:List Nat) (os:List Odd),(oddTo g l os ws).map (·.v)=ordTo g l (os.map (·.v)) ws
 |[],os=>rfl
 |w::ws,os=>by
  rw[oddTo,BW g l ws,lm,cf,eu]
  congr 2
  exact List.map_id _
theorem uE (g:List Vtx)(l:List Int):∀(ws ws':List Nat) (os:List Odd),oddTo g l os (ws++ws')=oddTo g l (oddTo g l os ws) ws'
 |[],_,_=>rfl
 |w::ws,ws',os=>uE g l ws ws' _
open Classical in
noncomputable def dnF (g os:List Vtx):List Bool:=g.map fun v=>decide (v∈os)
open Classical in
theorem Em {g os:List Vtx}{i:Nat}{v:Vtx}(h:g[i]?=some v):(dnF g os)[i]?=some (decide (v∈os)):=by rw[dnF,bf,h];rfl
theorem Bb (g os:List Vtx):(dnF g os).length=g.length:=by simp[dnF]
open Classical in
theorem HO {c:List Int}{g:List Vtx}(hg:GraOK c g){os:List Vtx}{i:Nat}{v:Vtx}(h:g[i]?=some v):(dnF g os).set i true=dnF g (os++[v]):=by
 refine nW fun k=>?_
 rw[dp,Bb]
 have hi:=(aR.1 h).1
 by_cases e:i=k
 ·subst e
  rw[if_pos rfl,if_pos hi,Em h,decide_eq_true (by simp)]
 ·rw[if_neg e,dnF,dnF,bf,bf]
  cases hk:g[k]? with
  |none=>rfl
  |some x=>
   simp only[aI,aw]
   rw[dR,decide_eq_true_iff,decide_eq_true_iff,bh,aZ]
   refine⟨.inl,fun hx=>?_⟩
   rcases hx with hx|rfl
   ·exact hx
   ·exact absurd (EN hg h hk) e
open Classical in
theorem Nj (g:List Vtx):dnF g []=List.replicate g.length false:=by
 refine List.ext_getElem (by simp[dnF]) fun k h1 h2=>?_
 simp[dnF]
open Classical in
noncomputable def pvx (g:List Vtx) (k:Vtx):List Vtx:=g.filter fun v=>decide (Rv g k v)
open Classical in
theorem I7 (g:List Vtx)(k:Vtx):(pvx g k).length=(pst g k).length:=by
 unfold pvx pst
 rw[aA]
 have e:g=(List.range g.length).map fun i=>g.getD i v0:=by
  refine List.ext_getElem (by simp) fun i h1 h2=>?_
  simp[ar,am h1]
 conv=>lhs;rw[e]
 rw[List.filter_map,aA]
 simp only[←e]
 rfl
open Classical in
theorem Md {g:List Vtx}{k:Vtx}{j:Nat}{x:Int}(h:(pst g k)[j]?=some x):∃i:Nat,x=i∧∃v,g[i]?=some v∧(pvx g k)[j]?=some v:=by
 have hm:=B6.1 (br h)
 obtain⟨i,hi,v,hv,-⟩:=hm
 refine⟨i,hi,v,hv,?_⟩
 have e:g=(List.range g.length).map fun i=>g.getD i v0:=by
  refine List.ext_getElem (by simp) fun i h1 h2=>?_
  simp[ar,am h1]
 have e2:pvx g k=((List.range g.length).filter fun i=>decide (Rv g k (g.getD i v0))).map fun i=>g.getD i v0:=by
  unfold pvx
  conv=>lhs;rw[e]
  rw[List.filter_map]
  simp only[←e]
  rfl
 have e3:pst g k=((List.range g.length).filter fun i=>decide (Rv g k (g.getD i v0))).map fun i:Nat=>(i:Int):=rfl
 rw[e3,bf] at h
 rw[e2,bf]
 cases hf:((List.range g.length).filter fun i=>decide (Rv g k (g.getD i v0)))[j]? with
 |none=>rw[hf] at h;cases h
 |some m=>
  rw[hf] at h
  have hm:(m:Int)=x:=aq h
  obtain rfl:m=i:=by omega
  simp[ar,hv]
open Classical in
noncomputable def qvx (g:List Vtx) (k:Vtx) (w:Nat) (os:List Vtx) (j:Nat):List Vtx:=((pvx g k).take j).filter fun v=>decide (2*(w:Int)-7≤v.round) && decide (v∉os)
open Classical in
theorem Gd {g:List Vtx}{k v:Vtx}{w:Nat}{os:List Vtx}{j:Nat}(h:(pvx g k)[j]?=some v):qvx g k w os (j+1)=if 2*(w:Int)-7≤v.round∧v∉os then qvx g k w os j++[v] else qvx g k w os j:=by
 obtain⟨h1,h2⟩:=aR.1 h
 unfold qvx
 rw[b9 h1,h2,pk,nG,mB]
 by_cases c1:2*(w:Int)-7≤v.round<;>by_cases c2:v∉os<;>simp[c1,c2]
open Classical in
theorem I9 {g:List Vtx}{l:List Int}{k:Vtx}{w:Nat}{os:List Vtx}(hk:pN g l w=some k):qvx g k w os (pvx g k).length=ordW g l os w:=by
 unfold qvx ordW
 rw[hk,iS,pvx,List.filter_filter]
 refine mC fun v _=>?_
 exact Bool.and_comm _ _
theorem B7 {c:List Int}{g:List Vtx}(hg:GraOK c g)(k:Vtx)(w:Nat)(os:List Vtx)(j:Nat):(qvx g k w os j).Pairwise fun a b=>bef a b=true:=
 hg.pw.sublist (((qp).trans (List.take_sublist _ _)).trans (qp))
theorem Ja (g:List Vtx)(k:Vtx)(w:Nat)(os:List Vtx)(j:Nat):(qvx g k w os j).length≤g.length:=by
 unfold qvx pvx
 refine cu (mG _ _) ?_
 rw[bP]
 exact cu (Nat.min_le_right _ _) (mG _ _)
theorem Jb {c:List Int}{g:List Vtx}(hg:GraOK c g){k v:Vtx}{w:Nat}{os:List Vtx}{j:Nat}(h:(pvx g k)[j]?=some v):v∉qvx g k w os j:=fun hm=>by
 have h1:=(eM.1 hm).1
 obtain⟨i,hi,rfl⟩:=qn h1
 rw[bP] at hi
 rw[List.getElem_take] at h
 obtain⟨h2,h3⟩:=aR.1 h
 have hp:(pvx g k).Pairwise fun a b=>bef a b=true:=hg.pw.sublist qp
 have:=qO.1 hp i j (by omega) h2 (by omega)
 rw[h3,jL] at this
 omega
end Go.Proofs.YtpefhoohfkeflabGreatDoor.Am
namespace Go.Proofs.YtpefhoohfkeflabGreatDoor.Am
open Go
attribute [local irreducible] Mk ci Ari fF mI jx ca cR iW fv At ag wJ
set_option maxRecDepth 10000
theorem FZ (g:List Vtx)(l:List Int)(acc:List Vtx)(w:Nat):(ordW g l acc w).length≤g.length:=by
 unfold ordW
 split
 ·exact mG _ _
 ·exact aX _
theorem m6 (g:List Vtx)(l:List Int):∀(ws:List Nat) (os:List Odd),(oddTo g l os ws).length≤os.length+ws.length*g.length
 |[],os=>by simp[oddTo]
 |w::ws,os=>by
  have h:=m6 g l ws (os++(ordW g l (os.map (·.v)) w).map fun v=>⟨v,(w:Int)⟩)
  have h2:=FZ g l (os.map (·.v)) w
  simp only[aP,aA] at h
  simp only[oddTo,bF,Nat.succ_mul]
  omega
open Classical in
set_option maxHeartbeats 1000000 in
theorem Lp (c:List Int)(g:List Vtx)(l:List Int)(hg:GraOK c g)(hgl:g.length≤1000)(hl:leaS c l=true):ag Tryz.prog 115 [.agg [.ptr 4 0,.lst (.int .i64) l]] (gR c (db g)) (.lst .odd (oddTo g l [] (cmt c g l l.length).1)) (gR c (db g)):=by
 have hll:=(bR.1 hl).2
 have hn:=(fo g).1
 have hC:=K5 c g l hg (by omega) hl
 have hcl:=mP c g l hg.com l.length
 have hcm:=mO (g:=g) hg.com l l.length
 have hrl:((List.range (db g).nodes.length).map some).length=g.length:=by simp[hn]
 have hfit:le 1 (((((List.range (db g).nodes.length).map some).length:Nat):Int).toNat):=by rw[hrl];unfold le;omega
 generalize (cmt c g l l.length).1=W at *
 have hil:=gH W
 have hol:=fun i=>m6 g l (W.take i) []
 refine ab dL Tryz.func115 rfl rfl true 2 6 rfl rfl rfl rfl fun K hK hb1 hb2=>?_;simp only[ae,enc,Nat.reduceAdd]
 clear hb1 hb2
 (repeat' first|refine kb ?_|refine sa fun xe hxe=>?_|refine sb (fun hq=>?_) fun hq=>?_|refine co (hC) ?_|exact aa)
 clear hC
 refine ah hK [] [1,3,4,22,23,24] (fun i:Nat=>⟨[(1,.ptr 6 0),(3,.ref 7),(4,.ref 8),(22,.lst (.int .i64) (bO W)),(23,.int .i64 W.length),(24,.int .i64 (i:Int))],H3 c (db g) (.var 151 [.ptr 4 0,.lst (.int .i64) l])++[(7,.row 157 .odd (oddTo g l [] (W.take i))),(8,.row 4 .bool (dnF g ((oddTo g l [] (W.take i)).map (·.v))))],9⟩) (fun i=>i≤W.length) (fun i=>W.length-i) 0 (aX _) ?_ ?_
 ·have e:List.replicate ((((List.range (db g).nodes.length).map some).length:Int).toNat) false=dnF g ((oddTo g l [] (W.take 0)).map (·.v)):=by
   rw[List.take_zero,hrl]
   exact(Nj g).symm
  rw[←e,←hil]
  rfl
 intro i hi
 by_cases hlt:i<W.length
 ·obtain⟨w,hw⟩:∃w,W[i]?=some w:=⟨_,am hlt⟩
  have hwx:(bO W)[i]?=some (w:Int):=by rw[bO,bf,hw];rfl
  obtain⟨w1,w2,k,hk⟩:=hcm w (br hw)
  have htk:W.take (i+1)=W.take i++[w]:=by
   obtain⟨h1,h2⟩:=aR.1 hw
   rw[←h2];exact b9 h1
  have hap:=uE g l (W.take i) [w] []
  rw[←htk] at hap
  have hoi:=hol i
  rw[bP] at hoi
  have hoi2:(oddTo g l [] (W.take i)).length≤15000:=by
   refine cu hoi ?_
   simp only[dA,e8]
   exact cu (Nat.mul_le_mul (show min i W.length≤15 by omega) hgl) (by omega)
  obtain⟨n,hnn,hgn⟩:=q7 hg hl w1 w2 hk
  have hL:=vP c g l w n hg hl w1 w2 hnn
  have hP:=vQ c g hg (by omega) n k hgn
  have hkr:=(sS hk).2.1
  obtain⟨p0,hp0⟩:=lX hgn
  have hpl:=wa g k
  have hpv:=I7 g k
  clear htk hol hcm
  generalize oddTo g l [] (W.take i)=os at *
  have hap:oddTo g l [] (W.take (i+1))=os++(ordW g l (os.map (·.v)) w).map fun v=>⟨v,(w:Int)⟩:=hap
  (repeat' first|refine kb ?_|refine sa fun xe hxe=>?_|refine sb (fun hq=>?_) fun hq=>?_|refine co (hL) ?_|refine co (hP) ?_|exact aa)
  clear hL hP
  refine ah hK [] [1,3,4,6,7,9,22,23,24,41,42,43] (fun j:Nat=>⟨[(1,.ptr 6 0),(3,.ref 7),(4,.ref 8),(6,.int .i64 (w:Int)),(7,.hpo 0 (some n)),(9,.ptr 9 0),(22,.lst (.int .i64) (bO W)),(23,.int .i64 W.length),(24,.int .i64 (i:Int)),(41,.lst (.int .i64) (pst g k)),(42,.int .i64 (pst g k).length),(43,.int .i64 (j:Int))],H3 c (db g) (.var 151 [.ptr 4 0,.lst (.int .i64) l])++[(7,.row 157 .odd os),(8,.row 4 .bool (dnF g (os.map (·.v)++qvx g k w (os.map (·.v)) j))),(9,.var 187 [.ref 10]),(10,.row 73 .vtx (qvx g k w (os.map (·.v)) j))],11⟩) (fun j=>j≤(pst g k).length) (fun j=>(pst g k).length-j) 0 (aX _) ?_ ?_
  ·rw[show qvx g k w (os.map (·.v)) 0=[] from rfl,gy]
   rfl
  intro j hj
  have hql:=Ja g k w (os.map (·.v)) j
  have hdl:=Bb g (os.map (·.v)++qvx g k w (os.map (·.v)) j)
  by_cases hjl:j<(pst g k).length
  ·obtain⟨x,hx⟩:∃x,(pst g k)[j]?=some x:=⟨_,am hjl⟩
   obtain⟨ii,rfl,v,hv,hpx⟩:=Md hx
   have hsn:=Gd (w:=w) (os:=os.map (·.v)) hpx
   have hnew:=Jb hg (w:=w) (os:=os.map (·.v)) hpx
   have hiil:=(aR.1 hv).1
   obtain⟨p,hp⟩:=lX hv
   have hrg:=Ml (n:=(db g).nodes.length) (i:=ii) (by omega)
   have hda:=Em (os:=os.map (·.v)++qvx g k w (os.map (·.v)) j) hv
   have hds:=HO hg (os:=os.map (·.v)++qvx g k w (os.map (·.v)) j) hv
   rw[bH] at hds
   have hasc:=B7 hg k w (os.map (·.v)) (j+1)
   by_cases c1:v∈os.map (·.v)
   ·rw[decide_eq_true (bh.2 (.inl c1))] at hda
    rw[if_neg (fun h=>h.2 c1)] at hsn
    generalize hqq:qvx g k w (os.map (·.v)) j=qs at *
    (repeat' first|refine kb ?_|refine sa fun xe hxe=>?_|refine sb (fun hq=>?_) fun hq=>?_|exact aa)
    (try any_goals(first|exact absurd trivial hq|exact absurd rfl hq|exact absurd hq (by omega)|(exfalso;simp at hq;done)))
    exact⟨j+1,by omega,by omega,by rw[hsn];rfl⟩
   ·rw[decide_eq_false (fun h=>by rcases bh.1 h with h|h;exact c1 h;exact hnew h)] at hda
    by_cases c2:2*(w:Int)-7≤v.round
    ·have c2p:k.round-6≤v.round:=by omega
     rw[if_pos ⟨c2,c1⟩] at hsn
     rw[hsn] at hasc
     have hPu:=Ic (qvx g k w (os.map (·.v)) j) v (by omega) hasc
     rw[←hsn] at hPu hds
     generalize hq2:qvx g k w (os.map (·.v)) (j+1)=qs2 at *
     generalize hqq:qvx g k w (os.map (·.v)) j=qs at *
     (repeat' first|refine kb ?_|refine sa fun xe hxe=>?_|refine sb (fun hq=>?_) fun hq=>?_|refine co (hPu) ?_|exact aa)
     (try any_goals(first|exact absurd trivial hq|exact absurd rfl hq|exact absurd hq (by omega)|(exfalso;simp at hq;done)))
     exact⟨j+1,by omega,by omega,by rw[hq2,←hds];rfl⟩
    ·have c2p:¬k.round-6≤v.round:=by omega
     rw[if_neg (fun h=>c2 h.1)] at hsn
     generalize hqq:qvx g k w (os.map (·.v)) j=qs at *
     (repeat' first|refine kb ?_|refine sa fun xe hxe=>?_|refine sb (fun hq=>?_) fun hq=>?_|exact aa)
     (try any_goals(first|exact absurd trivial hq|exact absurd rfl hq|exact absurd hq (by omega)|(exfalso;simp at hq;done)))
     exact⟨j+1,by omega,by omega,by rw[hsn];rfl⟩
  ·obtain rfl:j=(pst g k).length:=by omega
   have hend:=I9 (os:=os.map (·.v)) hk
   rw[hpv] at hend
   have hasc:=B7 hg k w (os.map (·.v)) (pst g k).length
   rw[hend] at hasc hql
   rw[hend]
   have hD:=HQ (ordW g l (os.map (·.v)) w) (ordW g l (os.map (·.v)) w) (w:Int) (by omega) hasc (List.Perm.refl _) (E0 hasc)
   have hdd:(oddTo g l [] (W.take (i+1))).map (·.v)=os.map (·.v)++ordW g l (os.map (·.v)) w:=by
    rw[hap,cf,eu]
    congr 1
    exact List.map_id _
   have hml:((ordW g l (os.map (·.v)) w).map fun v=>(⟨v,(w:Int)⟩:Odd)).length=(ordW g l (os.map (·.v)) w).length:=by simp
   rw[←hdd]
   generalize hmm:((ordW g l (os.map (·.v)) w).map fun v=>(⟨v,(w:Int)⟩:Odd))=ms at *
   have hml2:ms.length≤g.length:=by omega
   cases hoe:ordW g l (os.map (·.v)) w with
   |nil=>
    rw[hoe] at hD hml
    rw[show qE []=qB [] from rfl] at hD
    (repeat' first|refine kb ?_|refine sa fun xe hxe=>?_|refine sb (fun hq=>?_) fun hq=>?_|refine co (hD) ?_|exact aa)
    (try any_goals(first|exact absurd trivial hq|exact absurd rfl hq|exact absurd hq (by omega)|(exfalso;simp at hq;done)))
    exact⟨i+1,by omega,by omega,by rw[hap];rfl⟩
   |cons v s'=>
    rw[hoe] at hD hml
    have hE:qE (v::s')=qG []:=by unfold qE;rw[if_neg (by simp)]
    rw[hE] at hD
    (repeat' first|refine kb ?_|refine sa fun xe hxe=>?_|refine sb (fun hq=>?_) fun hq=>?_|refine co (hD) ?_|exact aa)
    (try any_goals(first|exact absurd trivial hq|exact absurd rfl hq|exact absurd hq (by omega)|(exfalso;simp at hq;done)))
    exact⟨i+1,by omega,by omega,by rw[hap];rfl⟩
 ·obtain rfl:i=W.length:=by omega
  rw[iS]
  (repeat' first|refine kb ?_|refine sa fun xe hxe=>?_|refine sb (fun hq=>?_) fun hq=>?_|exact aa)
  exact⟨rfl,rfl⟩
end Go.Proofs.YtpefhoohfkeflabGreatDoor.Am
namespace Go.Proofs.YtpefhoohfkeflabGreatDoor.Am
open Go
attribute [local irreducible] Mk ci Ari fF mI jx ca cR iW fv At ag wJ
set_option maxRecDepth 10000
theorem Iw (v:Vtx):ag Tryz.prog 116 [cZ v] [] (.agg [.int .i64 v.round,.int .i64 v.author]) []:=by
 refine ab aj Tryz.func116 rfl rfl false 0 4 rfl rfl rfl rfl fun K hK hb1 hb2=>?_;simp only[ae,enc,Nat.reduceAdd]
 clear hb1 hb2
 (repeat' first|refine st ?_|refine sa fun xe hxe=>?_|refine sb (fun hq=>?_) fun hq=>?_|exact aa)
 exact⟨rfl,rfl⟩
theorem BX {c:List Int}{g:List Vtx}(l:List Int)(h:Cx c g l=true):(oddTo g l [] (cmt c g l l.length).1).map (fun o=>fl o.v)=ordS c g l:=by
 have e:=BW g l (cmt c g l l.length).1 []
 rw[ordS,h,if_pos rfl,ordG,show ([]:List Vtx)=([]:List Odd).map (·.v) from rfl,←e,eu]
 rfl
theorem Is (c:List Int)(l:List Int)(hc:comV c=true)(hl:leaS c l=true):ag Tryz.prog 115 [.agg [.ptr 4 0,.lst (.int .i64) l]] (gZ c j3) (.lst .odd []) (gZ c j3):=by
 have hC:=Ii c l hc hl
 refine ab dL Tryz.func115 rfl rfl true 1 5 rfl rfl rfl rfl fun K hK hb1 hb2=>?_;simp only[ae,enc,Nat.reduceAdd]
 clear hb1 hb2
 (repeat' first|refine kb ?_|refine sa fun xe hxe=>?_|refine sb (fun hq=>?_) fun hq=>?_|refine co (hC) ?_|exact aa)
 clear hC
 refine ah hK [] [1,3,4,22,23,24] (fun i:Nat=>⟨[(1,.ptr 5 0),(3,.ref 6),(4,.ref 7),(22,.lst (.int .i64) []),(23,.int .i64 0),(24,.int .i64 (i:Int))],O6 c j3 (.var 151 [.ptr 4 0,.lst (.int .i64) l])++[(6,.row 157 .odd []),(7,.row 4 .bool [])],8⟩) (fun i=>i=0) (fun i=>i) 0 rfl ?_ ?_
 ·rfl
 rintro i rfl
 (repeat' first|refine kb ?_|refine sa fun xe hxe=>?_|refine sb (fun hq=>?_) fun hq=>?_|exact aa)
 exact⟨rfl,rfl⟩
theorem Nx (c:List Int)(g:List Vtx)(l:List Int)(hgl:g.length≤1000):ag Tryz.prog 69 [.lst (.int .i64) c,.lst .vtx g,.lst (.int .i64) l] [] (.lst .slt (ordS c g l)) []:=by
 cases hw:Cx c g l
 ·have hN:=Ln c g l (by omega) hw
  have e:ordS c g l=[]:=by rw[ordS,hw];rfl
  rw[e]
  refine ab dL Tryz.func69 rfl rfl true 0 4 rfl rfl rfl rfl fun K hK hb1 hb2=>?_;simp only[ae,enc,Nat.reduceAdd]
  clear hb1 hb2
  (repeat' first|refine kb ?_|refine sa fun xe hxe=>?_|refine sb (fun hq=>?_) fun hq=>?_|refine cr (hN) ?_|exact aa)
  exact⟨rfl,rfl⟩
 ·obtain⟨hg,hl⟩:graS c g=true∧leaS c l=true:=by simpa[Cx] using hw
  have hok:=fX hg
  have hll:=(bR.1 hl).2
  have hos:=BX l hw
  have hol:=m6 g l (cmt c g l l.length).1 []
  have hcl:=mP c g l hok.com l.length
  have hol2:(oddTo g l [] (cmt c g l l.length).1).length≤15000:=by
   refine cu hol ?_
   simp only[dA,e8]
   exact cu (Nat.mul_le_mul (show (cmt c g l l.length).1.length≤15 by omega) hgl) (by omega)
  clear hol
  cases g with
  |nil=>
   have hN:=Lm c l hok.com hl
   have hC:=Is c l hok.com hl
   rw[A4 c l hok.com] at hos
   have e:ordS c [] l=[]:=hos.symm
   rw[e]
   refine ab dL Tryz.func69 rfl rfl true 0 4 rfl rfl rfl rfl fun K hK hb1 hb2=>?_;simp only[ae,enc,Nat.reduceAdd]
   clear hb1 hb2
   (repeat' first|refine kb ?_|refine sa fun xe hxe=>?_|refine sb (fun hq=>?_) fun hq=>?_|refine cr (hN) ?_|refine co (hC) ?_|exact aa)
   refine ah hK [] [7,24,25,26] (fun i:Nat=>⟨[(7,.ref 4),(24,.lst .odd []),(25,.int .i64 0),(26,.int .i64 (i:Int))],[(0,.fvar 190 (.nod 1) j3.nodes),(1,.frow 178 (.hp 0) j3.rows),(4,.row 67 .slt [])],5⟩) (fun i=>i=0) (fun i=>i) 0 rfl rfl ?_
   rintro i rfl
   (repeat' first|refine kb ?_|refine sa fun xe hxe=>?_|refine sb (fun hq=>?_) fun hq=>?_|exact aa)
   exact⟨rfl,rfl⟩
  |cons v g=>
   have hN:=Ll c v g l (by omega) hg hl
   have hC:=Lp c (v::g) l hok hgl hl
   rw[←hos]
   generalize oddTo (v::g) l [] (cmt c (v::g) l l.length).1=os at *
   refine ab dL Tryz.func69 rfl rfl true 0 4 rfl rfl rfl rfl fun K hK hb1 hb2=>?_;simp only[ae,enc,Nat.reduceAdd]
   clear hb1 hb2
   (repeat' first|refine kb ?_|refine sa fun xe hxe=>?_|refine sb (fun hq=>?_) fun hq=>?_|refine cr (hN) ?_|refine co (hC) ?_|exact aa)
   clear hN hC
   refine ah hK [] [7,24,25,26] (fun i:Nat=>⟨[(7,.ref 4),(24,.lst .odd os),(25,.int .i64 os.length),(26,.int .i64 (i:Int))],[(0,.fvar 190 (.nod 1) (db (v::g)).nodes),(1,.frow 178 (.hp 0) (db (v::g)).rows),(4,.row 67 .slt ((os.take i).map fun o=>fl o.v))],5⟩) (fun i=>i≤os.length) (fun i=>os.length-i) 0 (aX _) rfl ?_
   intro i hi
   by_cases hlt:i<os.length
   ·have hxe:os[i]?=some os[i]:=am hlt
    have h3:os.take (i+1)=os.take i++[os[i]]:=b9 hlt
    have hI:=Iw os[i].v
    have h4:(os.take (i+1)).map (fun o=>fl o.v)=(os.take i).map (fun o=>fl o.v)++[fl os[i].v]:=by rw[h3,cf];rfl
    have hal:((os.take i).map fun o=>fl o.v).length=i:=by simp;omega
    generalize hA:((os.take i).map fun o=>fl o.v)=A at *
    generalize os[i]=o at *
    (repeat' first|refine kb ?_|refine sa fun xe hxe=>?_|refine sb (fun hq=>?_) fun hq=>?_|refine cr (hI) ?_|exact aa)
    exact⟨i+1,by omega,by omega,by rw[h4];rfl⟩
   ·obtain rfl:i=os.length:=by omega
    rw[iS]
    (repeat' first|refine kb ?_|refine sa fun xe hxe=>?_|refine sb (fun hq=>?_) fun hq=>?_|exact aa)
    exact⟨rfl,rfl⟩
theorem J6 (w:Wrl)(m:Int)(hl:∀g∈w.views,g.length≤2000000):ag Tryz.prog 32 [bd w,.int .i64 m] [] (.lst .slt (wo w m)) []:=by
 have hV:=Ny w hl
 refine ab dL Tryz.func32 rfl rfl true 0 4 rfl rfl rfl rfl fun K hK hb1 hb2=>?_;simp only[ae,enc,Nat.reduceAdd]
 clear hb1 hb2
 cases hw:kT w
 ·rw[hw] at hV
  have e:wo w m=[]:=by rw[wo,hw];rfl
  rw[e]
  (repeat' first|refine kb ?_|refine sa fun xe hxe=>?_|refine sb (fun hq=>?_) fun hq=>?_|refine cr (hV) ?_|exact aa)
  exact⟨rfl,rfl⟩
 ·rw[hw] at hV
  have hok:=ig.1 hw
  have hvl:=hok.vlen
  cases hm:jV m 0 ((w.com.length:Int)-1)
  ·have e:wo w m=[]:=by rw[wo,hw,hm];rfl
   have hb:¬(0≤m∧m≤(w.com.length:Int)-1):=fun h=>by rw[aC.2 h] at hm;cases hm
   rw[e]
   by_cases h0:m<0
   ·(repeat' first|refine kb ?_|refine sa fun xe hxe=>?_|refine sb (fun hq=>?_) fun hq=>?_|refine cr (hV) ?_|exact aa)
    exact⟨rfl,rfl⟩
   ·(repeat' first|refine kb ?_|refine sa fun xe hxe=>?_|refine sb (fun hq=>?_) fun hq=>?_|refine cr (hV) ?_|exact aa)
    exact⟨rfl,rfl⟩
  ·have hb:=aC.1 hm
   have e:wo w m=ordS w.com (w.views.getD m.toNat []) w.lead:=by rw[wo,hw,hm];rfl
   have hx:w.views[m.toNat]?=some (w.views.getD m.toNat []):=by rw[ar,am (by omega)];rfl
   have hgl:=hok.vl _ (br hx)
   rw[e]
   generalize w.views.getD m.toNat []=g at *
   have hO:=Nx w.com g w.lead (by omega)
   (repeat' first|refine kb ?_|refine sa fun xe hxe=>?_|refine sb (fun hq=>?_) fun hq=>?_|refine cr (hV) ?_|refine cr (hO) ?_|exact aa)
   exact⟨rfl,rfl⟩
theorem FY (c:List Int)(g:List Vtx)(l:List Int)(hgl:g.length≤1000):(ordS c g l).length≤1000000:=by
 cases hw:Cx c g l
 ·rw[ordS,hw];simp
 ·obtain⟨hg,hl⟩:graS c g=true∧leaS c l=true:=by simpa[Cx] using hw
  have hok:=fX hg
  have hll:=(bR.1 hl).2
  have hol:=m6 g l (cmt c g l l.length).1 []
  have hcl:=mP c g l hok.com l.length
  rw[←BX l hw,aA]
  refine cu hol ?_
  simp only[dA,e8]
  exact cu (Nat.mul_le_mul (show (cmt c g l l.length).1.length≤15 by omega) hgl) (by omega)
theorem N6 {w:Wrl}(hw:WOK w){m:Nat}(hm:m<w.com.length):wo w (m:Int)=ordS w.com (w.views.getD m []) w.lead:=by
 rw[wo,ig.2 hw,aC.2 (by omega)]
 rfl
theorem wE {w:Wrl}(hw:WOK w)(m:Int):(wo w m).length≤1000000:=by
 rw[wo]
 split
 ·rename_i h
  simp only[az] at h
  have hb:=aC.1 h.2
  refine FY _ _ _ ?_
  have:=hw.vl _ (JB hw (m:=m.toNat) (by omega))
  omega
 ·simp
end Go.Proofs.YtpefhoohfkeflabGreatDoor.Am
namespace Go.Proofs.YtpefhoohfkeflabGreatDoor.Am
open Go
attribute [local irreducible] Mk ci Ari fF mI jx ca cR iW fv At ag
set_option maxRecDepth 10000
theorem aF {x y:ByteArray}{K:Prop}(k:K)(h:x.size+y.size≤9223372036854775807:=by first|omega|(simp only[ByteArray.size_append,DQ,aP,bF,dA,aA];omega)):ci (x.size+y.size≤9223372036854775807) K:=gd h k
theorem aE {b:Bool}{A B:Prop}(k:A)(h:b=true):jx b A B:=uk (fun _=>k) fun h2=>by rw[h] at h2;cases h2
theorem aD {b:Bool}{A B:Prop}(k:B)(h:b=false):jx b A B:=uk (fun h2=>by rw[h] at h2;cases h2) fun _=>k
theorem AD {x:ByteArray}{l:List UInt8}(h:x.data.toList=l):V.str x=V.str (bs l)∧([]:VH)=[]:=by
 subst h
 exact⟨rfl,rfl⟩
theorem On {n:Int}(h0:0≤n):UInt8.ofNat (48+n).toNat=UInt8.ofNat (48+n.toNat):=by rw[show (48+n).toNat=48+n.toNat by omega]
theorem Mr:∀(k:Nat) (n:Int),0≤n→n<10^(k+1)→k≤3→ag Tryz.prog 44 [.int .i64 n] [] (.str (bs (lF k n.toNat))) []:=by
 intro k
 induction k with
 |zero=>
  intro n h0 h1 _
  have h1:n<10:=by simpa using h1
  refine ab aj Tryz.func44 rfl rfl false 0 4 rfl rfl rfl rfl fun K hK hb1 hb2=>?_;simp only[ae,enc,Nat.reduceAdd]
  clear hb1 hb2
  (repeat' first|refine st ?_|refine sa fun xe hxe=>?_|refine sb (fun hq=>?_) fun hq=>?_|exact aa)
  refine AD ?_
  simp only[bI,ec,lF,On h0]
 |succ k ih=>
  intro n h0 h1 hk
  have hp:(10:Int)^(k+1+1)≤10000:=by
   have:k=0∨k=1∨k=2:=by omega
   rcases this with rfl|rfl|rfl<;>decide
  by_cases h10:n<10
  ·refine ab aj Tryz.func44 rfl rfl false 0 4 rfl rfl rfl rfl fun K hK hb1 hb2=>?_;simp only[ae,enc,Nat.reduceAdd]
   clear hb1 hb2
   (repeat' first|refine st ?_|refine sa fun xe hxe=>?_|refine sb (fun hq=>?_) fun hq=>?_|exact aa)
   refine AD ?_
   rw[lF,if_pos (by omega)]
   simp only[bI,ec,On h0]
  ·have ht:n.tdiv 10=n/10:=my h0
   have hr:n.tmod 10=n % 10:=Int.tmod_eq_emod_of_nonneg h0
   have hI:=ih (n.tdiv 10) (by omega) (by rw[Int.pow_succ] at h1;omega) (by omega)
   have hl:=(sr k (n.tdiv 10).toNat).2
   have hd:lF (k+1) n.toNat=lF k (n.tdiv 10).toNat++[UInt8.ofNat (48+n.tmod 10).toNat]:=by
    rw[lF,if_neg (by omega),hr,ht,On (by omega),show (n/10).toNat=n.toNat/10 by omega,show (n % 10).toNat=n.toNat % 10 by omega]
   generalize lF k (n.tdiv 10).toNat=d at *
   refine ab aj Tryz.func44 rfl rfl false 0 4 rfl rfl rfl rfl fun K hK hb1 hb2=>?_;simp only[ae,enc,Nat.reduceAdd]
   clear hb1 hb2
   (repeat' first|((first|with_reducible refine aE ?_ (by assumption)|with_reducible refine aD ?_ (by assumption));conv=>whnf)|refine st ?_|refine sa fun xe hxe=>?_|refine sb (fun hq=>?_) fun hq=>?_|((with_reducible refine aF ?_)<;>conv=>whnf)|refine cr (hI) ?_|exact aa)
   refine AD ?_
   rw[hd]
   simp
theorem HF (c:UInt8){s:List UInt8}{f:Nat}{o:List (List UInt8)}(hf:f≤s.length)(h:aJ c s=o++ka ((s.drop f).take (s.length-f)) (aJ c (s.drop s.length))):aJ c s=o++[s.drop f]:=by
 rw[h,List.drop_length,bp (by simp)]
 simp[aJ,ka]
theorem HG {c:UInt8}{s:List UInt8}{f i:Nat}{o:List (List UInt8)}(hi:i<s.length)(hc:s[i]=c)(h:aJ c s=o++ka ((s.drop f).take (i-f)) (aJ c (s.drop i))):aJ c s=(o++[(s.drop f).take (i-f)])++ka ((s.drop (i+1)).take (i+1-(i+1))) (aJ c (s.drop (i+1))):=by
 rw[h,nF hi,aJ,if_pos hc,kg,List.take_zero,yn (kY c _),ka]
 simp
theorem Kz {c:UInt8}{s:List UInt8}{f i:Nat}{o:List (List UInt8)}(hf:f≤i)(hi:i<s.length)(hc:s[i]≠c)(h:aJ c s=o++ka ((s.drop f).take (i-f)) (aJ c (s.drop i))):aJ c s=o++ka ((s.drop f).take (i+1-f)) (aJ c (s.drop (i+1))):=by
 rw[h,nF hi,aJ,if_neg hc,Di _ _ _ (kY c _)]
 congr 2
 rw[show i+1-f=i-f+1 by omega,b9 (by simp;omega)]
 simp[show f+(i-f)=i by omega]
theorem Gz (s:List UInt8)(c:UInt8)(n:Int)(hn:n=c.toNat)(hl:s.length≤2000000):ag Tryz.prog 21 [.str (bs s),.int .u8 n] [] (.lst .str ((aJ c s).map bs)) []:=by
 have hsz:(bs s).size=s.length:=rfl
 refine ab aj Tryz.func21 rfl rfl true 0 4 rfl rfl rfl rfl fun K hK hb1 hb2=>?_;simp only[ae,enc,Nat.reduceAdd]
 clear hb1 hb2
 (repeat' first|refine st ?_|refine sa fun xe hxe=>?_|refine sb (fun hq=>?_) fun hq=>?_|exact aa)
 refine ah hK [] [0,1,5,6,7] (fun x:List (List UInt8)×Nat×Nat=>⟨[(0,.str (bs s)),(1,.int .u8 n),(5,.ref 4),(6,.int .i64 (x.2.1:Int)),(7,.int .i64 (x.2.2:Int))],[(4,.row 9 .str (x.1.map bs))],5⟩) (fun x=>(x.2.1≤x.2.2∧x.2.2≤s.length)∧x.1.length≤x.2.2∧aJ c s=x.1++ka ((s.drop x.2.1).take (x.2.2-x.2.1)) (aJ c (s.drop x.2.2))) (fun x=>s.length-x.2.2) ([],0,0) ⟨⟨ax _,aX _⟩,ax _,by simp[yn (kY c s)]⟩ rfl ?_
 rintro⟨o,f,i⟩ ⟨⟨hf,hi⟩,ho,hc⟩
 dsimp only at hf hi ho hc⊢
 have hol:(o.map bs).length=o.length:=aA ..
 by_cases hlt:i<s.length
 ·have hx:s.getD (i:Int).toNat 0=s[i]:=by
   rw[pm,ar,am hlt]
   rfl
  by_cases hxc:s[i]=c
  ·have hh:=HG hlt hxc hc
   have hxn:(((s.getD (i:Int).toNat 0).toNat:Nat):Int)=n:=by rw[hx,hxc,hn]
   have he:(bs s).extract f i=bs ((s.drop f).take (i-f)):=lR s f i
   have hm:(o++[(s.drop f).take (i-f)]).map bs=o.map bs++[(bs s).extract f i]:=by rw[he,cf];rfl
   generalize hO:o.map bs=O at *
   (repeat' first|refine st ?_|refine sa fun xe hxe=>?_|refine sb (fun hq=>?_) fun hq=>?_|exact aa)
   refine⟨(o++[(s.drop f).take (i-f)],i+1,i+1),⟨⟨by dsimp only;omega,by dsimp only;omega⟩,by simp;omega,hh⟩,by dsimp only;omega,?_⟩
   dsimp only
   rw[hm]
   rfl
  ·have hh:=Kz hf hlt hxc hc
   have hxn:¬(((s.getD (i:Int).toNat 0).toNat:Nat):Int)=n:=by
    rw[hx,hn]
    intro h
    exact hxc (UInt8.toNat_inj.1 (by omega))
   (repeat' first|refine st ?_|refine sa fun xe hxe=>?_|refine sb (fun hq=>?_) fun hq=>?_|exact aa)
   exact⟨(o,f,i+1),⟨⟨by dsimp only;omega,by dsimp only;omega⟩,by dsimp only;omega,hh⟩,by dsimp only;omega,rfl⟩
 ·obtain rfl:i=s.length:=by omega
  have he:=HF c hf hc
  have hm:(aJ c s).map bs=o.map bs++[(bs s).extract f s.length]:=by
   rw[he,cf,lR,bp (by simp)]
   rfl
  rw[hm]
  generalize hO:o.map bs=O at *
  (repeat' first|refine st ?_|refine sa fun xe hxe=>?_|refine sb (fun hq=>?_) fun hq=>?_|exact aa)
  exact⟨rfl,rfl⟩
theorem oL {w:List UInt8}(h:¬(1≤w.length∧w.length≤3∧w.all um=true)):s7 w= -1:=if_neg h
theorem wQ {w:List UInt8}{i:Nat}(hi:i<w.length)(hd:um w[i]=false):w.all um=false:=by
 rw[List.all_eq_false]
 exact⟨_,be hi,by simpa using hd⟩
theorem GI (ws:List (List UInt8))(k:Nat)(hl:ws.length≤2000000):ag Tryz.prog 34 [.lst .str (ws.map bs),.int .i64 (k:Int)] [] (.int .i64 (cA ws k)) []:=by
 have hml:(ws.map bs).length=ws.length:=aA ..
 unfold cA
 by_cases hk:k<ws.length
 ·have hx:(ws.map bs)[k]?=some (bs (ws.getD k [])):=by rw[bf,ar,am hk];rfl
  generalize ws.getD k []=w at *
  have hsz:(bs w).size=w.length:=rfl
  have hI:=nv ((bs w).size:Nat) 1 3
  cases hn:jV ((bs w).size:Nat) 1 3
  ·rw[hn] at hI
   have h13:¬(1≤w.length∧w.length≤3):=fun h=>by rw[aC.2 (by omega)] at hn;cases hn
   rw[oL fun h=>h13 ⟨h.1,h.2.1⟩]
   generalize hO:ws.map bs=O at *
   refine ab aj Tryz.func34 rfl rfl false 0 4 rfl rfl rfl rfl fun K hK hb1 hb2=>?_;simp only[ae,enc,Nat.reduceAdd]
   clear hb1 hb2
   (repeat' first|refine st ?_|refine sa fun xe hxe=>?_|refine sb (fun hq=>?_) fun hq=>?_|refine cr (hI) ?_|exact aa)
   exact⟨rfl,rfl⟩
  ·rw[hn] at hI
   have h13:=aC.1 hn
   have hno:∀i (h:i<w.length),um w[i]=false→s7 w= -1:=fun i h hd=>oL fun h2=>by rw[wQ h hd] at h2;cases h2.2.2
   have hyes:w.all um=true→s7 w=mg w:=fun h=>if_pos ⟨by omega,by omega,h⟩
   generalize hO:ws.map bs=O at *
   refine ab aj Tryz.func34 rfl rfl false 0 4 rfl rfl rfl rfl fun K hK hb1 hb2=>?_;simp only[ae,enc,Nat.reduceAdd]
   clear hb1 hb2
   (repeat' first|refine st ?_|refine sa fun xe hxe=>?_|refine sb (fun hq=>?_) fun hq=>?_|refine cr (hI) ?_|exact aa)
   refine ah hK [] [0,1,5,6] (fun i:Nat=>⟨[(0,.lst .str O),(1,.int .i64 (k:Int)),(5,.int .i64 (mg (w.take i))),(6,.int .i64 (i:Int))],[],4⟩) (fun i=>i≤w.length∧(w.take i).all um=true) (fun i=>w.length-i) 0 ⟨aX _,rfl⟩ rfl ?_
   rintro i ⟨hi,ha⟩
   by_cases hlt:i<w.length
   ·have hg:w.getD (i:Int).toNat 0=w[i]:=by
     rw[pm,ar,am hlt]
     rfl
    have hgb:((bs w).data.toList.getD (i:Int).toNat 0).toNat=(w.getD (i:Int).toNat 0).toNat:=rfl
    have ht:w.take (i+1)=w.take i++[w[i]]:=b9 hlt
    have hb:=vY _ ha
    have hp:(10:Int)^(w.take i).length≤1000:=by
     have:(w.take i).length=0∨(w.take i).length=1∨(w.take i).length=2:=by rw[bP];omega
     rcases this with h|h|h<;>rw[h]<;>decide
    cases hd:um w[i]
    ·rw[hno i hlt hd]
     simp only[um,nD,decide_eq_false_iff_not] at hd
     rw[←hg] at hd
     generalize mg (w.take i)=z at *
     by_cases hlo:(w.getD (i:Int).toNat 0).toNat<48
     ·(repeat' first|refine st ?_|refine sa fun xe hxe=>?_|refine sb (fun hq=>?_) fun hq=>?_|exact aa)
      exact⟨rfl,rfl⟩
     ·(repeat' first|refine st ?_|refine sa fun xe hxe=>?_|refine sb (fun hq=>?_) fun hq=>?_|exact aa)
      exact⟨rfl,rfl⟩
    ·have hn1:=pU (w.take i) w[i]
     have ha1:(w.take (i+1)).all um=true:=by rw[ht,List.all_append,ha];simp[hd]
     rw[←ht,←hg] at hn1
     simp only[um,az,decide_eq_true_eq] at hd
     rw[←hg] at hd
     generalize mg (w.take i)=z at *
     (repeat' first|refine st ?_|refine sa fun xe hxe=>?_|refine sb (fun hq=>?_) fun hq=>?_|exact aa)
     refine⟨i+1,⟨by omega,ha1⟩,by omega,?_⟩
     rw[hn1]
     rfl
   ·obtain rfl:i=w.length:=by omega
    rw[iS] at *
    rw[hyes ha]
    generalize mg w=z at *
    (repeat' first|refine st ?_|refine sa fun xe hxe=>?_|refine sb (fun hq=>?_) fun hq=>?_|exact aa)
    exact⟨rfl,rfl⟩
 ·have e:ws.getD k []=[]:=by rw[ar,ep (by omega)];rfl
  rw[e,oL (by simp)]
  generalize hO:ws.map bs=O at *
  refine ab aj Tryz.func34 rfl rfl false 0 4 rfl rfl rfl rfl fun K hK hb1 hb2=>?_;simp only[ae,enc,Nat.reduceAdd]
  clear hb1 hb2
  (repeat' first|refine st ?_|refine sa fun xe hxe=>?_|refine sb (fun hq=>?_) fun hq=>?_|exact aa)
  exact⟨rfl,rfl⟩
theorem jQ (n:Int)(h0:0≤n)(h1:n<10000):ag Tryz.prog 44 [.int .i64 n] [] (.str (bs (aQ n))) []:=Mr 3 n h0 (by omega) (by omega)
theorem MC (w:Wrl)(hw:WOK w):ag Tryz.prog 43 [bd w] [] (.str (bs (nw w))) []:=by
 have hpl:=hw.plen
 have hcl:=hw.len
 refine ab aj Tryz.func43 rfl rfl false 0 4 rfl rfl rfl rfl fun K hK hb1 hb2=>?_;simp only[ae,enc,Nat.reduceAdd]
 clear hb1 hb2
 (repeat' first|refine st ?_|refine sa fun xe hxe=>?_|refine sb (fun hq=>?_) fun hq=>?_|exact aa)
 refine ah hK [] [1,3,4] (fun i:Nat=>⟨[(1,.ptr 4 0),(3,.str (bs (cM w i))),(4,.int .i64 (i:Int))],[(4,.var 36 (bd w).cells)],5⟩) (fun i=>i≤w.props.length) (fun i=>w.props.length-i) 0 (aX _) rfl ?_
 intro i hi
 have hol:=kF w i
 by_cases hlt:i<w.props.length
 ·have hx:w.props[i]?=some (w.props.getD i p0):=by rw[ar,am hlt];rfl
  have hpm:w.props.getD i p0∈w.props:=br hx
  have hv:=bG (hw.pv _ hpm).1
  have hm:=hw.mem _ hpm
  have hs:cM w (i+1)=cM w i++t6 i (w.props.getD i p0):=rfl
  have d1:=jQ (i:Int) (by omega) (by omega)
  have l1:=(aO (i:Int)).2
  generalize w.props.getD i p0=p at *
  have d2:=jQ p.v.round (by omega) (by omega)
  have d3:=jQ p.v.author (by omega) (by omega)
  have d4:=jQ p.v.digest (by omega) (by omega)
  have d5:=jQ (p.members.length:Nat) (by omega) (by omega)
  have l2:=(aO p.v.round).2
  have l3:=(aO p.v.author).2
  have l4:=(aO p.v.digest).2
  have l5:=(aO (p.members.length:Nat)).2
  generalize cM w i=o at *
  have hb:∀x1 x2 x3 x4 x5:List UInt8,aQ (i:Int)=x1→aQ p.v.round=x2→aQ p.v.author=x3→aQ p.v.digest=x4→aQ (p.members.length:Nat)=x5→bs o++bs x1++⟨#[32]⟩++bs x2++⟨#[46]⟩++bs x3++⟨#[32]⟩++bs x4++⟨#[32,118,111,116,101,115,32]⟩++bs x5++⟨#[10]⟩=bs (cM w (i+1)):=by
   rintro x1 x2 x3 x4 x5 rfl rfl rfl rfl rfl
   rw[hs]
   apply iE
   simp[t6]
  have hb:=hb _ _ _ _ _ rfl rfl rfl rfl rfl
  generalize aQ (i:Int)=x1 at *
  generalize aQ p.v.round=x2 at *
  generalize aQ p.v.author=x3 at *
  generalize aQ p.v.digest=x4 at *
  generalize aQ (p.members.length:Nat)=x5 at *
  (repeat' first|((first|with_reducible refine aE ?_ (by assumption)|with_reducible refine aD ?_ (by assumption));conv=>whnf)|refine st ?_|refine sa fun xe hxe=>?_|refine sb (fun hq=>?_) fun hq=>?_|((with_reducible refine aF ?_)<;>conv=>whnf)|refine cr (d1) ?_|refine cr (d2) ?_|refine cr (d3) ?_|refine cr (d4) ?_|refine cr (d5) ?_|exact aa)
  refine⟨i+1,by omega,by omega,?_⟩
  rw[←hb]
  rfl
 ·obtain rfl:i=w.props.length:=by omega
  show At _ _ _ _ _ _
  (repeat' first|refine st ?_|refine sa fun xe hxe=>?_|refine sb (fun hq=>?_) fun hq=>?_|exact aa)
  exact⟨rfl,rfl⟩
theorem MF (l:List Slt)(hl:∀s∈l,(0≤s.round∧s.round≤30)∧0≤s.author∧s.author<7)(hll:l.length≤1000000):ag Tryz.prog 45 [.lst .slt l] [] (.str (bs (bQ l))) []:=by
 refine ab aj Tryz.func45 rfl rfl false 0 4 rfl rfl rfl rfl fun K hK hb1 hb2=>?_;simp only[ae,enc,Nat.reduceAdd]
 clear hb1 hb2
 (repeat' first|refine st ?_|refine sa fun xe hxe=>?_|refine sb (fun hq=>?_) fun hq=>?_|exact aa)
 refine ah hK [] [0,3,4] (fun i:Nat=>⟨[(0,.lst .slt l),(3,.str (bs (bQ (l.take i)))),(4,.int .i64 (i:Int))],[],4⟩) (fun i=>i≤l.length) (fun i=>l.length-i) 0 (aX _) rfl ?_
 intro i hi
 have hol:=fj (l.take i)
 rw[bP,mH hi] at hol
 by_cases hlt:i<l.length
 ·have hx:l[i]?=some l[i]:=am hlt
  have hs:bQ (l.take (i+1))=bQ (l.take i)++jr l[i]:=by rw[b9 hlt,jb]
  have hb:=hl _ (be hlt)
  generalize l[i]=p at *
  have d2:=jQ p.round (by omega) (by omega)
  have d3:=jQ p.author (by omega) (by omega)
  have l2:=(aO p.round).2
  have l3:=(aO p.author).2
  generalize bQ (l.take i)=o at *
  have hb:∀x2 x3:List UInt8,aQ p.round=x2→aQ p.author=x3→bs o++⟨#[32]⟩++bs x2++⟨#[46]⟩++bs x3=bs (bQ (l.take (i+1))):=by
   rintro x2 x3 rfl rfl
   rw[hs]
   apply iE
   simp[jr]
  have hb:=hb _ _ rfl rfl
  generalize aQ p.round=x2 at *
  generalize aQ p.author=x3 at *
  (repeat' first|((first|with_reducible refine aE ?_ (by assumption)|with_reducible refine aD ?_ (by assumption));conv=>whnf)|refine st ?_|refine sa fun xe hxe=>?_|refine sb (fun hq=>?_) fun hq=>?_|((with_reducible refine aF ?_)<;>conv=>whnf)|refine cr (d2) ?_|refine cr (d3) ?_|exact aa)
  refine⟨i+1,by omega,by omega,?_⟩
  rw[←hb]
  rfl
 ·obtain rfl:i=l.length:=by omega
  rw[iS]
  (repeat' first|refine st ?_|refine sa fun xe hxe=>?_|refine sb (fun hq=>?_) fun hq=>?_|exact aa)
  exact⟨rfl,rfl⟩
theorem sU {w:Wrl}(hw:WOK w)(m:Nat):(linO w m).length≤10000011:=by
 have h1:=aO (m:Int)
 have h2:=fj (wo w m)
 have h3:=wE hw (m:Int)
 simp only[linO,aP,bF,dA]
 omega
theorem ja {w:Wrl}(hw:WOK w):∀n,(outOs w n).length≤10000011*n
 |0=>by simp[outOs]
 |n+1=>by
  have h1:=ja hw n
  have h2:=sU hw n
  unfold outOs
  split
  ·omega
  ·rw[aP]
   omega
theorem MA (w:Wrl)(hw:WOK w):ag Tryz.prog 23 [bd w] [] (.str (bs (outO w))) []:=by
 have hcl:=hw.len
 have hvl:=hw.vlen
 refine ab aj Tryz.func23 rfl rfl false 0 4 rfl rfl rfl rfl fun K hK hb1 hb2=>?_;simp only[ae,enc,Nat.reduceAdd]
 clear hb1 hb2
 (repeat' first|refine st ?_|refine sa fun xe hxe=>?_|refine sb (fun hq=>?_) fun hq=>?_|exact aa)
 refine ah hK [] [1,3,4] (fun i:Nat=>⟨[(1,.ptr 4 0),(3,.str (bs (outOs w i))),(4,.int .i64 (i:Int))],[(4,.var 36 (bd w).cells)],5⟩) (fun i=>i≤w.com.length) (fun i=>w.com.length-i) 0 (aX _) rfl ?_
 intro i hi
 have hol:=ja hw i
 by_cases hlt:i<w.com.length
 ·by_cases hb:(i:Int)=w.bad
  ·have hs:outOs w (i+1)=outOs w i:=by rw[outOs,if_pos hb]
   generalize outOs w i=o at *
   (repeat' first|refine st ?_|refine sa fun xe hxe=>?_|refine sb (fun hq=>?_) fun hq=>?_|exact aa)
   refine⟨i+1,by omega,by omega,?_⟩
   rw[hs]
   rfl
  ·have hs:outOs w (i+1)=outOs w i++linO w i:=by rw[outOs,if_neg hb]
   have hx:w.views[i]?=some (w.views.getD i []):=by rw[ar,am (by omega)];rfl
   have hgl:=hw.vl _ (br hx)
   have hO:=NW w.com (w.views.getD i []) w.lead (by omega)
   rw[←N6 hw hlt] at hO
   have hwl:=wE hw (i:Int)
   have hS:=MF _ (Cv hw (i:Int)) hwl
   have hsl:=fj (wo w (i:Int))
   have d1:=jQ (i:Int) (by omega) (by omega)
   have l1:=(aO (i:Int)).2
   generalize outOs w i=o at *
   generalize w.views.getD i []=g at *
   have hb2:∀x1 x2:List UInt8,aQ (i:Int)=x1→bQ (wo w i)=x2→bs o++⟨#[111,114,100,101,114,32]⟩++bs x1++bs x2++⟨#[10]⟩=bs (outOs w (i+1)):=by
    rintro x1 x2 rfl rfl
    rw[hs]
    apply iE
    simp[linO]
   have hb2:=hb2 _ _ rfl rfl
   generalize aQ (i:Int)=x1 at *
   generalize bQ (wo w i)=x2 at *
   generalize wo w i=sl at *
   (repeat' first|((first|with_reducible refine aE ?_ (by assumption)|with_reducible refine aD ?_ (by assumption));conv=>whnf)|refine st ?_|refine sa fun xe hxe=>?_|refine sb (fun hq=>?_) fun hq=>?_|((with_reducible refine aF ?_)<;>conv=>whnf)|refine cr (d1) ?_|refine cr (hO) ?_|refine cr (hS) ?_|exact aa)
   refine⟨i+1,by omega,by omega,?_⟩
   rw[←hb2]
   rfl
 ·obtain rfl:i=w.com.length:=by omega
  show At _ _ _ _ _ _
  (repeat' first|refine st ?_|refine sa fun xe hxe=>?_|refine sb (fun hq=>?_) fun hq=>?_|exact aa)
  exact⟨rfl,rfl⟩
theorem Mt (r d:Int):ag Tryz.prog 39 [.int .i64 r,.int .i64 d] [] (cZ (lg r d)) []:=by
 unfold lg
 refine ab aj Tryz.func39 rfl rfl true 0 4 rfl rfl rfl rfl fun K hK hb1 hb2=>?_;simp only[ae,enc,Nat.reduceAdd]
 clear hb1 hb2
 by_cases hr:0<r
 ·rw[if_pos hr]
  (repeat' first|refine st ?_|refine sa fun xe hxe=>?_|refine sb (fun hq=>?_) fun hq=>?_|exact aa)
  exact⟨rfl,rfl⟩
 ·rw[if_neg hr]
  (repeat' first|refine st ?_|refine sa fun xe hxe=>?_|refine sb (fun hq=>?_) fun hq=>?_|exact aa)
  exact⟨rfl,rfl⟩
theorem Jq:ag Tryz.prog 20 [] [] (bd yU) []:=by
 have hN:=GH [1,1,1,1] [0,1,2,0,1,2,0,1] 3 (by decide)
 rw[show iK [1,1,1,1] [0,1,2,0,1,2,0,1] 3=true by decide+kernel,if_pos rfl] at hN
 have hN:ag Tryz.prog 33 [.lst (.int .i64) [1,1,1,1],.lst (.int .i64) [0,1,2,0,1,2,0,1],.int .i64 3] [] (.tup [bd yU,.bool true]) []:=hN
 generalize yU=w at *
 refine ab aj Tryz.func20 rfl rfl true 0 4 rfl rfl rfl rfl fun K hK hb1 hb2=>?_;simp only[ae,enc,Nat.reduceAdd]
 clear hb1 hb2
 (repeat' first|refine st ?_|refine sa fun xe hxe=>?_|refine sb (fun hq=>?_) fun hq=>?_|refine cr (hN) ?_|exact aa)
 exact⟨rfl,rfl⟩
theorem JY (k c:List UInt8):((bs k).toList==(bs c).toList)=decide (k=c):=by
 rw[AY,AY,dR]
 simp
set_option maxHeartbeats 4000000 in
theorem Mz (w:Wrl)(l:List UInt8)(hw:WOK w)(hl:l.length≤600):ag Tryz.prog 22 [bd w,.str (bs l)] [] (.tup [bd (bV w (aJ 32 l)),.str (bs (dQ w (aJ 32 l)))]) []:=by
 have hC:=Gz l 32 32 rfl (by omega)
 have hle:=iU 32 l
 have hlen:=eC 32 l
 generalize aJ 32 l=ws at *
 have h1:=GI ws 1 (by omega)
 have h2:=GI ws 2 (by omega)
 have hx:(ws.map bs)[(0:Int).toNat]?=some (bs (ws.getD 0 [])):=by show (ws.map bs)[0]?=_;rw[bf,ar,am (by omega)];rfl
 have hml:(ws.map bs).length=ws.length:=aA ..
 have hbd:=BU (ws.getD 1 [])
 have hbd2:=BU (ws.getD 2 [])
 have hbd:-1≤cA ws 1∧cA ws 1≤999:=hbd
 have hbd2:-1≤cA ws 2∧cA ws 2≤999:=hbd2
 unfold bV dQ
 generalize cA ws 1=a at *
 generalize cA ws 2=b at *
 generalize ws.getD 0 []=k at *
 generalize ws.map bs=O at *
 have hcl:=hw.len
 refine ab aj Tryz.func22 rfl rfl true 0 4 rfl rfl rfl rfl fun K hK hb1 hb2=>?_;simp only[ae,enc,Nat.reduceAdd]
 clear hb1 hb2
 have e1:=JY k C7
 by_cases k1:k=C7
 ·rw[if_pos k1,if_pos (show eV k from .inl k1)]
  rw[decide_eq_true k1] at e1
  have hP:=Ay w a b hw
  generalize eJ w a b=u at *
  (repeat' first|((first|with_reducible refine aE ?_ (by assumption)|with_reducible refine aD ?_ (by assumption));conv=>whnf)|refine st ?_|refine sa fun xe hxe=>?_|refine sb (fun hq=>?_) fun hq=>?_|((with_reducible refine aF ?_)<;>conv=>whnf)|refine cr (hC) ?_|refine cr (h1) ?_|refine cr (h2) ?_|refine cr (hP) ?_|exact aa)
  exact⟨rfl,rfl⟩
 rw[decide_eq_false k1] at e1
 have e2:=JY k C8
 by_cases k2:k=C8
 ·rw[if_neg k1,if_pos k2,if_pos (show eV k from .inr (.inl k2))]
  rw[decide_eq_true k2] at e2
  have hP:=AE w a b hw
  generalize eS w a b=u at *
  (repeat' first|((first|with_reducible refine aE ?_ (by assumption)|with_reducible refine aD ?_ (by assumption));conv=>whnf)|refine st ?_|refine sa fun xe hxe=>?_|refine sb (fun hq=>?_) fun hq=>?_|((with_reducible refine aF ?_)<;>conv=>whnf)|refine cr (hC) ?_|refine cr (h1) ?_|refine cr (h2) ?_|refine cr (hP) ?_|exact aa)
  exact⟨rfl,rfl⟩
 rw[decide_eq_false k2] at e2
 have e3:=JY k C5
 by_cases k3:k=C5
 ·rw[if_neg k1,if_neg k2,if_pos k3,if_pos (show eV k from .inr (.inr (.inl k3)))]
  rw[decide_eq_true k3] at e3
  have hP:=As w a b hw
  generalize dD w a b=u at *
  (repeat' first|((first|with_reducible refine aE ?_ (by assumption)|with_reducible refine aD ?_ (by assumption));conv=>whnf)|refine st ?_|refine sa fun xe hxe=>?_|refine sb (fun hq=>?_) fun hq=>?_|((with_reducible refine aF ?_)<;>conv=>whnf)|refine cr (hC) ?_|refine cr (h1) ?_|refine cr (h2) ?_|refine cr (hP) ?_|exact aa)
  exact⟨rfl,rfl⟩
 rw[decide_eq_false k3] at e3
 have e4:=JY k C6
 by_cases k4:k=C6
 ·rw[if_neg k1,if_neg k2,if_neg k3,if_pos k4,if_pos (show eV k from .inr (.inr (.inr (.inl k4))))]
  rw[decide_eq_true k4] at e4
  have hV:=Mt a b
  have hP:=GF w (lg a b) hw (by unfold lg;split<;>simp)
  generalize iN w (lg a b)=u at *
  generalize lg a b=v at *
  (repeat' first|((first|with_reducible refine aE ?_ (by assumption)|with_reducible refine aD ?_ (by assumption));conv=>whnf)|refine st ?_|refine sa fun xe hxe=>?_|refine sb (fun hq=>?_) fun hq=>?_|((with_reducible refine aF ?_)<;>conv=>whnf)|refine cr (hC) ?_|refine cr (h1) ?_|refine cr (h2) ?_|refine cr (hV) ?_|refine cr (hP) ?_|exact aa)
  exact⟨rfl,rfl⟩
 rw[decide_eq_false k4] at e4
 have e5:=JY k C3
 by_cases k5:k=C3
 ·rw[if_neg k1,if_neg k2,if_neg k3,if_neg k4,if_pos k5,if_pos (show eV k from .inr (.inr (.inr (.inr (.inl k5)))))]
  rw[decide_eq_true k5] at e5
  have hP:=NT w ⟨5,0,a,v0⟩ hw (by simp[v0])
  have hP:ag Tryz.prog 40 [bd w,.agg [.int .i64 5,.int .i64 0,.int .i64 a,.int .i64 0,.int .i64 0,.lst (.int .i64) [],.int .i64 0]] [] (bd (iM w a)) []:=hP
  generalize iM w a=u at *
  (repeat' first|((first|with_reducible refine aE ?_ (by assumption)|with_reducible refine aD ?_ (by assumption));conv=>whnf)|refine st ?_|refine sa fun xe hxe=>?_|refine sb (fun hq=>?_) fun hq=>?_|((with_reducible refine aF ?_)<;>conv=>whnf)|refine cr (hC) ?_|refine cr (h1) ?_|refine cr (h2) ?_|refine cr (hP) ?_|exact aa)
  exact⟨rfl,rfl⟩
 rw[decide_eq_false k5] at e5
 have e6:=JY k C4
 have hI:=nv a 0 12
 by_cases k6:k=C4
 ·rw[if_neg k1,if_neg k2,if_neg k3,if_neg k4,if_neg k5,if_pos k6,if_pos (show eV k from .inr (.inr (.inr (.inr (.inr k6)))))]
  rw[decide_eq_true k6] at e6
  by_cases hr:0≤a∧a≤12
  ·rw[aC.2 hr] at hI
   rw[if_pos hr]
   have hP:=Ji w a.toNat hw (by omega)
   rw[Int.toNat_of_nonneg hr.1] at hP
   generalize aU w a.toNat=u at *
   (repeat' first|((first|with_reducible refine aE ?_ (by assumption)|with_reducible refine aD ?_ (by assumption));conv=>whnf)|refine st ?_|refine sa fun xe hxe=>?_|refine sb (fun hq=>?_) fun hq=>?_|((with_reducible refine aF ?_)<;>conv=>whnf)|refine cr (hC) ?_|refine cr (h1) ?_|refine cr (h2) ?_|refine cr (hI) ?_|refine cr (hP) ?_|exact aa)
   exact⟨rfl,rfl⟩
  ·have hv:jV a 0 12=false:=by
    cases h:jV a 0 12
    ·rfl
    ·exact absurd (aC.1 h) hr
   rw[hv] at hI
   rw[if_neg hr]
   (repeat' first|((first|with_reducible refine aE ?_ (by assumption)|with_reducible refine aD ?_ (by assumption));conv=>whnf)|refine st ?_|refine sa fun xe hxe=>?_|refine sb (fun hq=>?_) fun hq=>?_|((with_reducible refine aF ?_)<;>conv=>whnf)|refine cr (hC) ?_|refine cr (h1) ?_|refine cr (h2) ?_|refine cr (hI) ?_|exact aa)
   exact⟨rfl,rfl⟩
 rw[decide_eq_false k6] at e6
 rw[if_neg k1,if_neg k2,if_neg k3,if_neg k4,if_neg k5,if_neg k6,if_neg (show¬eV k from fun h=>by rcases h with h|h|h|h|h|h<;>contradiction)]
 have e7:=JY k qS
 by_cases k7:k=qS
 ·rw[if_pos k7]
  rw[decide_eq_true k7] at e7
  have hP:=MC w hw
  generalize nw w=u at *
  (repeat' first|((first|with_reducible refine aE ?_ (by assumption)|with_reducible refine aD ?_ (by assumption));conv=>whnf)|refine st ?_|refine sa fun xe hxe=>?_|refine sb (fun hq=>?_) fun hq=>?_|((with_reducible refine aF ?_)<;>conv=>whnf)|refine cr (hC) ?_|refine cr (h1) ?_|refine cr (h2) ?_|refine cr (hP) ?_|exact aa)
  exact⟨rfl,rfl⟩
 ·rw[if_neg k7]
  rw[decide_eq_false k7] at e7
  (repeat' first|((first|with_reducible refine aE ?_ (by assumption)|with_reducible refine aD ?_ (by assumption));conv=>whnf)|refine st ?_|refine sa fun xe hxe=>?_|refine sb (fun hq=>?_) fun hq=>?_|((with_reducible refine aF ?_)<;>conv=>whnf)|refine cr (hC) ?_|refine cr (h1) ?_|refine cr (h2) ?_|exact aa)
  exact⟨rfl,rfl⟩
theorem GE (t:List UInt8)(ht:t.length≤2000000):ag Tryz.prog 8 [.str (bs t)] [] (.str (bs (exT t))) []:=by
 have hsz:(bs t).size=t.length:=rfl
 unfold exT
 by_cases h6:600<t.length
 ·rw[if_pos h6]
  refine ab aj Tryz.func8 rfl rfl false 0 4 rfl rfl rfl rfl fun K hK hb1 hb2=>?_;simp only[ae,enc,Nat.reduceAdd]
  clear hb1 hb2
  (repeat' first|refine st ?_|refine sa fun xe hxe=>?_|refine sb (fun hq=>?_) fun hq=>?_|exact aa)
  exact⟨rfl,rfl⟩
 rw[if_neg h6]
 have hC:=Gz t 10 10 rfl (by omega)
 have hle:=iU 10 t
 have hlen:=eC 10 t
 have hmem:=fU 10 t
 generalize aJ 10 t=ls at *
 have hml:(ls.map bs).length=ls.length:=aA ..
 have hN:=Jq
 rw[List.dropLast_eq_take]
 refine ab aj Tryz.func8 rfl rfl false 0 4 rfl rfl rfl rfl fun K hK hb1 hb2=>?_;simp only[ae,enc,Nat.reduceAdd]
 clear hb1 hb2
 (repeat' first|refine st ?_|refine sa fun xe hxe=>?_|refine sb (fun hq=>?_) fun hq=>?_|refine cr (hC) ?_|refine cr (hN) ?_|exact aa)
 refine ah hK [] [3,4,5,6] (fun i:Nat=>⟨[(3,.ptr 4 0),(4,.str (bs (bW (ls.take i)).2)),(5,.lst .str (ls.map bs)),(6,.int .i64 (i:Int))],[(4,.var 36 (bd (bW (ls.take i)).1).cells)],5⟩) (fun i=>i+1≤ls.length) (fun i=>ls.length-i) 0 (by omega) rfl ?_
 intro i hi
 have hol:=tp (ls.take i)
 rw[bP,mH (by omega)] at hol
 have hok:=rM (ls.take i)
 by_cases hlt:i+1<ls.length
 ·have hx:(ls.map bs)[i]?=some (bs ls[i]):=by rw[bf,am (by omega)];rfl
  have hL:=Mz (bW (ls.take i)).1 ls[i] hok (by have:=hmem _ (be (show i<ls.length by omega));omega)
  have hs:bW (ls.take (i+1))=oF (bW (ls.take i)) ls[i]:=by rw[b9 (by omega),gS]
  have hsl:=uN hok (aJ 32 ls[i])
  have hb:bs (bW (ls.take (i+1))).2=bs (bW (ls.take i)).2++bs (dQ (bW (ls.take i)).1 (aJ 32 ls[i])):=by rw[hs,zi];rfl
  have hu:(bW (ls.take (i+1))).1=bV (bW (ls.take i)).1 (aJ 32 ls[i]):=by rw[hs];rfl
  generalize hr':bW (ls.take (i+1))=r' at *
  generalize bW (ls.take i)=r at *
  generalize dQ r.1 (aJ 32 ls[i])=so at *
  generalize bV r.1 (aJ 32 ls[i])=sw at *
  generalize ls[i]=l at *
  generalize ls.map bs=O at *
  obtain⟨rw1,ro⟩:=r
  dsimp only at *
  (repeat' first|((first|with_reducible refine aE ?_ (by assumption)|with_reducible refine aD ?_ (by assumption));conv=>whnf)|refine st ?_|refine sa fun xe hxe=>?_|refine sb (fun hq=>?_) fun hq=>?_|((with_reducible refine aF ?_)<;>conv=>whnf)|refine cr (hL) ?_|exact aa)
  refine⟨i+1,by omega,by omega,?_⟩
  rw[hr',hb,hu]
  rfl
 ·have hi2:i=ls.length-1:=by omega
  have hO:=MA (bW (ls.take i)).1 hok
  have hOl:=ja hok (bW (ls.take i)).1.com.length
  have hcl:=hok.len
  have hOl:(outO (bW (ls.take i)).1).length≤10000011*(bW (ls.take i)).1.com.length:=hOl
  rw[←hi2]
  have hb:bs ((bW (ls.take i)).2++outO (bW (ls.take i)).1)=bs (bW (ls.take i)).2++bs (outO (bW (ls.take i)).1):=(zi _ _).symm
  rw[hb]
  generalize bW (ls.take i)=r at *
  generalize outO r.1=oo at *
  generalize ls.map bs=O at *
  obtain⟨rw1,ro⟩:=r
  dsimp only at *
  (repeat' first|((first|with_reducible refine aE ?_ (by assumption)|with_reducible refine aD ?_ (by assumption));conv=>whnf)|refine st ?_|refine sa fun xe hxe=>?_|refine sb (fun hq=>?_) fun hq=>?_|((with_reducible refine aF ?_)<;>conv=>whnf)|refine cr (hO) ?_|exact aa)
  exact⟨rfl,rfl⟩
end Go.Proofs.YtpefhoohfkeflabGreatDoor.Am
namespace Go.Proofs.YtpefhoohfkeflabGreatDoor.Am
open Go Go.RowKit
attribute [local irreducible] Mk ci Ari fF mI jx ca cR iW fv At ag
set_option maxRecDepth 10000
theorem OS (b:List Int)(p:Int)(L:List ByteArray)(h:Gf b 0)(hp:0≤p∧p≤100000000)(hL:1≤L.length∧L.length≤1000)(hm:∀x∈L,x.size≤10):
  ∃s:ByteArray,s.size≤10∧ag Tryz.prog 24 [.ptr 4 0,.lst .str L] [(4,Ge b p)] (.str s) [(4,Ge b (p+1))]:=by
 obtain⟨v,hv,hc⟩:=L8 b p L.length h hp (by omega)
 obtain⟨i,rfl⟩:∃i:Nat,v=i:=⟨v.toNat,by omega⟩
 have hi:i<L.length:=by omega
 have hx:L[i]?=some L[i]:=am hi
 refine⟨L[i],hm _ (be hi),?_⟩
 generalize L[i]=s at *
 refine ab aj Tryz.func24 rfl rfl false 1 5 rfl rfl rfl rfl fun K hK hb1 hb2=>?_;simp only[ae,enc,Nat.reduceAdd]
 clear hb1 hb2
 (repeat' first|refine st ?_|refine sa fun xe hxe=>?_|refine sb (fun hq=>?_) fun hq=>?_|refine co (hc) ?_|exact aa)
 exact⟨rfl,rfl⟩
theorem LT (s:ByteArray)(n:Int)(hs:s.size=5)(hn:116≤n∧n≤121):∃o:ByteArray,o.size≤605∧ag Tryz.prog 14 [.str s,.int .i64 n] [] (.str o) []:=by
 suffices hs:∃r hout,(∃o:ByteArray,o.size≤605∧r= .str o∧hout=[])∧ag Tryz.prog 14 [.str s,.int .i64 n] [] r hout by
  obtain⟨r,hout,⟨v,hv,rfl,rfl⟩,h⟩:=hs
  exact⟨v,hv,h⟩
 refine lS aj Tryz.func14 rfl rfl true 0 4 rfl rfl rfl rfl (R:=fun r hout=>∃o:ByteArray,o.size≤605∧r= .str o∧hout=[]) (r0:=.str ⟨#[]⟩) (hout0:=[]) (⟨⟨#[]⟩,by decide,rfl,rfl⟩) fun K hK hb1 hb2=>?_;simp only[ae,enc,Nat.reduceAdd]
 clear hb1 hb2
 (repeat' first|refine st ?_|refine sa fun xe hxe=>?_|refine sb (fun hq=>?_) fun hq=>?_|exact aa)
 refine ah hK [] [0,1,5] (fun x:ByteArray×Nat×ByteArray=>⟨[(0,.str x.1),(1,.int .i64 (x.2.1:Int)),(5,.str x.2.2)],[],4⟩) (fun x=>x.2.2.size+x.1.size*x.2.1≤605∧x.2.1≤121∧x.1.size≤1210) (fun x=>x.2.1) (s,n.toNat,⟨#[]⟩) ⟨by dsimp only;rw[hs];show 0+_≤_;omega,by dsimp only;omega,by dsimp only;omega⟩ (by dsimp only;rw[show ((n.toNat:Nat):Int)=n by omega];rfl) ?_
 rintro⟨s,n,o⟩ ⟨h1,h2,h3⟩
 dsimp only at h1 h2 h3⊢
 have ho:o.size≤605:=by omega
 by_cases h0:n=0
 ·subst h0
  (repeat' first|refine st ?_|refine sa fun xe hxe=>?_|refine sb (fun hq=>?_) fun hq=>?_|exact aa)
  exact⟨o,ho,rfl,rfl⟩
 ·have hm:s.size≤605:=by
   have:=Nat.mul_le_mul_left s.size (show 1≤n by omega)
   omega
  have hr:((n:Int)).tmod 2=((n % 2:Nat):Int):=by rw[Int.tmod_eq_emod_of_nonneg (by omega)];omega
  have hd:((n:Int)).tdiv 2=((n/2:Nat):Int):=by rw[my (by omega)];omega
  have hss:(s++s).size=s.size+s.size:=ByteArray.size_append
  have hos:(o++s).size=o.size+s.size:=ByteArray.size_append
  have e2:(s.size+s.size)*(n/2)=s.size*(2*(n/2)):=by rw[←Nat.two_mul,Nat.mul_comm 2 s.size,Nat.mul_assoc]
  rcases Nat.mod_two_eq_zero_or_one n with hp|hp
  ·rw[hp] at hr
   have e3:2*(n/2)=n:=by omega
   rw[e3] at e2
   (repeat' first|((first|with_reducible refine aE ?_ (by assumption)|with_reducible refine aD ?_ (by assumption));conv=>whnf)|refine st ?_|refine sa fun xe hxe=>?_|refine sb (fun hq=>?_) fun hq=>?_|((with_reducible refine aF ?_)<;>conv=>whnf)|exact aa)
   refine⟨(s++s,n/2,o),⟨?_,by dsimp only;omega,by dsimp only;omega⟩,by dsimp only;omega,by dsimp only;rw[hd]⟩
   dsimp only
   rw[hss,e2]
   exact h1
  ·rw[hp] at hr
   have e3:2*(n/2)+1=n:=by omega
   have e4:s.size*(2*(n/2))+s.size=s.size*n:=by rw[←Nat.mul_succ,Nat.succ_eq_add_one,e3]
   (repeat' first|((first|with_reducible refine aE ?_ (by assumption)|with_reducible refine aD ?_ (by assumption));conv=>whnf)|refine st ?_|refine sa fun xe hxe=>?_|refine sb (fun hq=>?_) fun hq=>?_|((with_reducible refine aF ?_)<;>conv=>whnf)|exact aa)
   refine⟨(s++s,n/2,o++s),⟨?_,by dsimp only;omega,by dsimp only;omega⟩,by dsimp only;omega,by dsimp only;rw[hd]⟩
   dsimp only
   rw[hss,hos,e2]
   omega
set_option maxHeartbeats 8000000 in
theorem Ni (b:List Int)(p:Int)(h:Gf b 0)(hp:0≤p∧p≤1000000):∃x:ByteArray×Int,(p≤x.2∧x.2≤p+10∧x.1.size≤40)∧ag Tryz.prog 13 [.ptr 4 0] [(4,Ge b p)] (.str x.1) [(4,Ge b x.2)]:=by
 suffices hs:∃r hout,(∃x:ByteArray×Int,(p≤x.2∧x.2≤p+10∧x.1.size≤40)∧r= .str x.1∧hout=[(4,Ge b x.2)])∧ag Tryz.prog 13 [.ptr 4 0] [(4,Ge b p)] r hout by
  obtain⟨r,hout,⟨v,hv,rfl,rfl⟩,h⟩:=hs
  exact⟨v,hv,h⟩
 refine lS aj Tryz.func13 rfl rfl true 1 5 rfl rfl rfl rfl (R:=fun r hout=>∃x:ByteArray×Int,(p≤x.2∧x.2≤p+10∧x.1.size≤40)∧r= .str x.1∧hout=[(4,Ge b x.2)]) (r0:=.str ⟨#[]⟩) (hout0:=[(4,Ge b p)]) (⟨(⟨#[]⟩,p),⟨by dsimp only;omega,by dsimp only;omega,aX 40⟩,rfl,rfl⟩) fun K hK hb1 hb2=>?_;simp only[ae,enc,Nat.reduceAdd]
 clear hb1 hb2
 (repeat' first|((first|with_reducible refine aE ?_ (by assumption)|with_reducible refine aD ?_ (by assumption));conv=>whnf)|refine st ?_|refine sa fun xe hxe=>?_|refine sb (fun hq=>?_) fun hq=>?_|((with_reducible refine aF ?_)<;>conv=>whnf)|((with_reducible refine fy ?_);(conv=>whnf);(first|refine n9 (OS b _ _ h (by omega) (by decide) (by decide)) fun xv hxv=>?_|refine n9 (L8 b _ _ h (by omega) (by omega)) fun xv hxv=>?_);conv=>whnf)|exact aa)
 all_goals
  refine⟨(_,_),⟨?_,?_,?_⟩,rfl,rfl⟩
  ·dsimp only;omega
  ·dsimp only;omega
  ·dsimp only
   first|omega|(simp only[ByteArray.size_append,DQ,aP,bF,dA,aA];omega)
end Go.Proofs.YtpefhoohfkeflabGreatDoor.Am
namespace Go.Proofs.YtpefhoohfkeflabGreatDoor.Am
open Go
theorem A8 (c:UInt8)(b:List UInt8):∀a:List UInt8,c∉a→aJ c (a++c::b)=a::aJ c b
 |[],_=>by simp[aJ]
 |x::a,h=>by
  have hx:¬x=c:=fun e=>h (by simp[e])
  rw[gz,aJ,if_neg hx,A8 c b a fun hm=>h (by simp[hm])]
  rfl
theorem pB (c:UInt8):∀a:List UInt8,c∉a→aJ c a=[a]
 |[],_=>rfl
 |x::a,h=>by
  have hx:¬x=c:=fun e=>h (by simp[e])
  rw[aJ,if_neg hx,pB c a fun hm=>h (by simp[hm])]
  rfl
theorem sm (c:UInt8):∀(l w:List UInt8),w∈aJ c l→c∉w
 |[],w,h=>by simp[aJ] at h;simp[h]
 |x::l,w,h=>by
  unfold aJ at h
  split at h
  ·rcases aK.1 h with rfl|h
   ·simp
   ·exact sm c l w h
  ·rename_i hx
   have hne:=kY c l
   have ih:=sm c l
   generalize aJ c l=k at *
   cases k with
   |nil=>exact absurd rfl hne
   |cons y k=>
    simp only[ka,aK] at h
    rcases h with rfl|h
    ·have:=ih y (by simp)
     simp only[List.singleton_append,aK,not_or]
     exact⟨fun e=>hx e.symm,this⟩
    ·exact ih w (by simp[h])
def dC (ls:List (List UInt8)):List UInt8:=(ls.map fun l=>l++[10]).flatten
theorem kt (l:List UInt8)(ls:List (List UInt8)):dC (l::ls)=l++10::dC ls:=by simp[dC]
theorem ku (ls:List (List UInt8))(l:List UInt8):dC (ls++[l])=dC ls++(l++[10]):=by simp[dC]
theorem sq:∀(ls:List (List UInt8)) (b:List UInt8),(∀l∈ls,(10:UInt8)∉l)→aJ 10 (dC ls++b)=ls++aJ 10 b
 |[],b,_=>rfl
 |l::ls,b,h=>by
  rw[kt,bH,gz,A8 10 _ l (h l (by simp)),sq ls b fun x hx=>h x (by simp[hx])]
  rfl
def lI (t:List UInt8):List (List UInt8):=(aJ 10 t).dropLast
theorem x9 (t:List UInt8):∀l∈lI t,(10:UInt8)∉l:=fun l hl=>sm 10 t l (List.dropLast_subset _ hl)
theorem sK:∀t:List UInt8,∃l,t=dC (lI t)++l∧(10:UInt8)∉l
 |[]=>⟨[],rfl,by simp⟩
 |x::t=>by
  obtain⟨l,h1,h2⟩:=sK t
  have hne:=kY 10 t
  by_cases hx:x=10
  ·refine⟨l,?_,h2⟩
   have:lI (x::t)=[]::lI t:=by
    unfold lI
    rw[aJ,if_pos hx,List.dropLast_cons_of_ne_nil hne]
   rw[this,kt,dS,gz,←h1,hx]
  ·unfold lI at h1⊢
   rw[aJ,if_neg hx]
   generalize hk:aJ 10 t=k at *
   cases k with
   |nil=>exact absurd rfl hne
   |cons y k=>
    cases k with
    |nil=>
     refine⟨x::t,rfl,?_⟩
     have:t=l:=by simpa[dC] using h1
     rw[aK,not_or]
     exact⟨fun e=>hx e.symm,by rw[this];exact h2⟩
    |cons z k=>
     refine⟨l,?_,h2⟩
     have e1:(y::z::k).dropLast=y::(z::k).dropLast:=rfl
     have e2:(ka [x] (y::z::k)).dropLast=(x::y)::(z::k).dropLast:=rfl
     rw[e1,kt] at h1
     rw[e2,kt,gz,gz,←h1]
theorem FD (ls:List (List UInt8))(h:∀l∈ls,(10:UInt8)∉l):lI (dC ls)=ls:=by
 have:=sq ls [] h
 rw[gy] at this
 rw[lI,this]
 simp[aJ]
noncomputable def outR (ls:List (List UInt8)):List UInt8:=(bW ls).2++outO (bW ls).1
theorem zA {t:List UInt8}(h:t.length≤600):exT t=outR (lI t):=by
 rw[exT,if_neg (by omega)]
 rfl
theorem H5 (t:List UInt8):(dC (lI t)).length≤t.length:=by
 obtain⟨l,h,-⟩:=sK t
 have:=congrArg List.length h
 rw[aP] at this
 omega
theorem Kd {w:Wrl}(hc:w.com.length=4)(hb:w.bad=3):outO w=linO w 0++linO w 1++linO w 2:=by
 unfold outO
 rw[hc]
 simp only[outOs,hb]
 simp
theorem uG:∀l:List Slt,(∀s∈l,(0≤s.round∧s.round≤30)∧0≤s.author∧s.author<7)→(10:UInt8)∉bQ l
 |[],_=>by simp[bQ]
 |s::l,h=>by
  have h1:=h s (by simp)
  have h2:=uG l fun x hx=>h x (by simp[hx])
  have d1:(10:UInt8)∉aQ s.round:=oh 10 (by decide) 3 _ (by omega)
  have d2:(10:UInt8)∉aQ s.author:=oh 10 (by decide) 3 _ (by omega)
  simp only[bQ,jr,bh,not_or]
  exact⟨⟨⟨⟨by decide,d1⟩,by decide⟩,d2⟩,h2⟩
noncomputable def linM (w:Wrl) (m:Nat):List UInt8:=fa++aQ m++bQ (wo w m)
theorem pO {w:Wrl}(hw:WOK w)(m:Nat)(hm:m<4):(10:UInt8)∉linM w m:=by
 have d1:(10:UInt8)∉aQ (m:Int):=oh 10 (by decide) 3 _ (by omega)
 simp only[linM,bh,not_or]
 exact⟨⟨by decide,d1⟩,uG _ (Cv hw m)⟩
theorem pX {w:Wrl}(hc:w.com.length=4)(hb:w.bad=3):outO w=dC [linM w 0,linM w 1,linM w 2]:=by
 rw[Kd hc hb]
 simp[dC,linO,linM]
theorem ta (w:Wrl):∀n,∃ls,cM w n=dC ls
 |0=>⟨[],rfl⟩
 |n+1=>by
  obtain⟨ls,h⟩:=ta w n
  refine⟨ls++[aQ n++[32]++aQ (w.props.getD n p0).v.round++[46]++aQ (w.props.getD n p0).v.author++[32]++aQ (w.props.getD n p0).v.digest++Lz++aQ (w.props.getD n p0).members.length],?_⟩
  rw[cM,h,ku]
  rfl
theorem AA (w:Wrl)(ws:List (List UInt8)):∃ls,dQ w ws=dC ls:=by
 unfold dQ
 split
 ·exact⟨[],rfl⟩
 split
 ·exact ta w _
 ·exact⟨[qF],rfl⟩
theorem ET (a b:List (List UInt8)):dC (a++b)=dC a++dC b:=by simp[dC]
theorem Dm (ls:List (List UInt8)):∃k,(bW ls).2=dC k:=by
 induction ls using cj with
 |h0=>exact⟨[],rfl⟩
 |h l x ih=>
  obtain⟨k,hk⟩:=ih
  obtain⟨j,hj⟩:=AA (bW l).1 (aJ 32 x)
  exact⟨k++j,by rw[gS,oF,hk,hj,ET]⟩
theorem Dg (ls:List (List UInt8)):∃h:List UInt8,(h=[]∨∃g,h=g++[10])∧(bW ls).2=h:=by
 obtain⟨k,hk⟩:=Dm ls
 refine⟨_,?_,rfl⟩
 rw[hk]
 rcases List.eq_nil_or_concat k with rfl|⟨k,l,rfl⟩
 ·exact .inl rfl
 ·rw[List.concat_eq_append,ku,←bH]
  exact .inr ⟨_,rfl⟩
end Go.Proofs.YtpefhoohfkeflabGreatDoor.Am
namespace Go.Proofs.YtpefhoohfkeflabGreatDoor.Am
open Go Go.RowKit
theorem EU {a l:List UInt8}(h:(10:UInt8)∉l):dC (lI (a++10::l))=a++[10]:=by
 obtain⟨x,h1,h2⟩:=sK a
 have hf:∀y∈lI a++[x],(10:UInt8)∉y:=fun y hy=>by
  rcases bh.1 hy with hy|hy
  ·exact x9 a y hy
  ·rw[aZ.1 hy];exact h2
 have e:a++10::l=dC (lI a++[x])++l:=by
  rw[ku,←bH,←h1]
  simp
 have e2:lI (a++10::l)=lI a++[x]:=by
  unfold lI
  rw[e,sq _ l hf,pB 10 l h,List.dropLast_concat]
  rfl
 rw[e2,ku,←bH,←h1]
theorem H6 {t:List UInt8}(h:(10:UInt8)∉t):dC (lI t)=[]:=by
 unfold lI
 rw[pB 10 t h]
 rfl
theorem D2 (o:List UInt8)(j:Nat)(hj:j<o.length):(o.drop j).count 10=(o.drop (j+1)).count 10+(if o[j]=10 then 1 else 0):=by
 rw[nF hj,List.count_cons]
 simp only[beq_iff_eq]
attribute [local irreducible] Mk ci Ari fF mI jx ca cR iW fv At ag
set_option maxRecDepth 10000
theorem Nc (t:List UInt8)(ht:t.length≤2000000):ag Tryz.prog 9 [.str (bs t)] [] (.str (bs (dC (lI t)))) []:=by
 have hsz:(bs t).size=t.length:=rfl
 refine ab aj Tryz.func9 rfl rfl false 0 4 rfl rfl rfl rfl fun K hK hb1 hb2=>?_;simp only[ae,enc,Nat.reduceAdd]
 clear hb1 hb2
 (repeat' first|refine st ?_|refine sa fun xe hxe=>?_|refine sb (fun hq=>?_) fun hq=>?_|exact aa)
 refine ah hK [] [0,3] (fun i:Nat=>⟨[(0,.str (bs t)),(3,.int .i64 (i:Int))],[],4⟩) (fun i=>i≤t.length∧(10:UInt8)∉t.drop i) (fun i=>i) t.length ⟨ax _,by simp⟩ rfl ?_
 rintro i ⟨hi,hn⟩
 cases i with
 |zero=>
  rw[List.drop_zero] at hn
  rw[H6 hn]
  (repeat' first|refine st ?_|refine sa fun xe hxe=>?_|refine sb (fun hq=>?_) fun hq=>?_|exact aa)
  exact⟨rfl,rfl⟩
 |succ j=>
  have hj:j<t.length:=by omega
  have hx:t.getD ((((j+1:Nat):Int)-1).toNat) 0=t[j]:=by
   rw[show (((j+1:Nat):Int)-1).toNat=j by omega,ar,am hj]
   rfl
  by_cases hc:t[j]=10
  ·have hxn:(((t.getD ((((j+1:Nat):Int)-1).toNat) 0).toNat:Nat):Int)=10:=by rw[hx,hc];rfl
   have he:(bs t).extract 0 (j+1)=bs (dC (lI t)):=by
    have e:t=t.take j++10::t.drop (j+1):=by rw[←hc,←nF hj,List.take_append_drop]
    rw[lR]
    congr 1
    rw[e,EU hn,←e,List.drop_zero,Nat.sub_zero,b9 hj,hc]
   (repeat' first|refine st ?_|refine sa fun xe hxe=>?_|refine sb (fun hq=>?_) fun hq=>?_|exact aa)
   exact⟨congrArg V.str he,rfl⟩
  ·have hxn:¬(((t.getD ((((j+1:Nat):Int)-1).toNat) 0).toNat:Nat):Int)=10:=by
    rw[hx]
    intro h
    exact hc (UInt8.toNat_inj.1 (by first|(have h2:(t[j].toNat:Int)=10:=h;show t[j].toNat=10;omega)|(have h2:(o[j].toNat:Int)=10:=h;show o[j].toNat=10;omega)))
   (repeat' first|refine st ?_|refine sa fun xe hxe=>?_|refine sb (fun hq=>?_) fun hq=>?_|exact aa)
   refine⟨j,⟨by omega,?_⟩,by omega,?_⟩
   ·rw[nF hj,aK,not_or]
    exact⟨fun e=>hc e.symm,hn⟩
   ·rw[show ((j:Nat):Int)=((j+1:Nat):Int)-1 by omega]
theorem NG (h s:List UInt8)(hh:h=[]∨∃g,h=g++[10])(hs:s.count 10=3)(hl:(h++s).length≤200000000):ag Tryz.prog 10 [.str (bs (h++s))] [] (.str (bs s)) []:=by
 have hsz:(bs (h++s)).size=(h++s).length:=rfl
 have hd0:(h++s).drop h.length=s:=by simp
 have hcb:∀k,h.length≤k→((h++s).drop k).count 10≤3:=fun k hk=>by
  have e:(h++s).drop k=s.drop (k-h.length):=by rw[List.drop_append,List.drop_of_length_le hk,dS]
  rw[e,←hs]
  exact(List.drop_sublist _ _).count_le _
 have hol:h.length≤(h++s).length:=by simp
 have hfin:h=[]→h++s=s:=fun e=>by rw[e];rfl
 have hlast:∀j,h.length=j+1→(h++s)[j]?=some 10:=fun j hj=>by
  rcases hh with e|⟨g,e⟩
  ·rw[e] at hj;simp at hj
  ·have:j=g.length:=by rw[e] at hj;simp at hj;omega
   rw[e,this]
   simp
 generalize ho:h++s=o at *
 refine ab aj Tryz.func10 rfl rfl false 0 4 rfl rfl rfl rfl fun K hK hb1 hb2=>?_;simp only[ae,enc,Nat.reduceAdd]
 clear hb1 hb2
 (repeat' first|refine st ?_|refine sa fun xe hxe=>?_|refine sb (fun hq=>?_) fun hq=>?_|exact aa)
 refine ah hK [] [0,3,4] (fun k:Nat=>⟨[(0,.str (bs o)),(3,.int .i64 (((o.drop k).count 10:Nat):Int)),(4,.int .i64 ((k:Int)-1))],[],4⟩) (fun k=>k≤o.length∧h.length≤k) (fun k=>k) o.length ⟨ax _,hol⟩ (by rw[List.drop_length];rfl) ?_
 rintro k ⟨hk,hk2⟩
 have hc3:=hcb k hk2
 cases k with
 |zero=>
  have h0:h=[]:=nU.1 (by omega)
  rw[←hfin h0]
  (repeat' first|refine st ?_|refine sa fun xe hxe=>?_|refine sb (fun hq=>?_) fun hq=>?_|exact aa)
  exact⟨rfl,rfl⟩
 |succ j=>
  have hj:j<o.length:=by omega
  have hx:o.getD ((((j+1:Nat):Int)-1).toNat) 0=o[j]:=by
   rw[show (((j+1:Nat):Int)-1).toNat=j by omega,ar,am hj]
   rfl
  have hcd:=D2 o j hj
  by_cases hlt:h.length<j+1
  ·have hcj:=hcb j (by omega)
   by_cases hc:o[j]=10
   ·have hxn:(((o.getD ((((j+1:Nat):Int)-1).toNat) 0).toNat:Nat):Int)=10:=by rw[hx,hc];rfl
    rw[if_pos hc] at hcd
    have hst:(⟨[(0,.str (bs o)),(3,.int .i64 (((o.drop j).count 10:Nat):Int)),(4,.int .i64 ((j:Int)-1))],[],4⟩:VSt)=⟨[(0,.str (bs o)),(3,.int .i64 (((o.drop (j+1)).count 10:Nat)+1)),(4,.int .i64 (((j+1:Nat):Int)-1-1))],[],4⟩:=by
     rw[show ((j:Int)-1)=((j+1:Nat):Int)-1-1 by omega,hcd]
     rfl
    generalize (o.drop (j+1)).count 10=c at *
    (repeat' first|refine st ?_|refine sa fun xe hxe=>?_|refine sb (fun hq=>?_) fun hq=>?_|exact aa)
    exact⟨j,⟨by omega,by omega⟩,by omega,hst.symm⟩
   ·have hxn:¬(((o.getD ((((j+1:Nat):Int)-1).toNat) 0).toNat:Nat):Int)=10:=by
     rw[hx]
     intro h
     exact hc (UInt8.toNat_inj.1 (by first|(have h2:(t[j].toNat:Int)=10:=h;show t[j].toNat=10;omega)|(have h2:(o[j].toNat:Int)=10:=h;show o[j].toNat=10;omega)))
    rw[if_neg hc,jv] at hcd
    have hst:(⟨[(0,.str (bs o)),(3,.int .i64 (((o.drop j).count 10:Nat):Int)),(4,.int .i64 ((j:Int)-1))],[],4⟩:VSt)=⟨[(0,.str (bs o)),(3,.int .i64 (((o.drop (j+1)).count 10:Nat):Int)),(4,.int .i64 (((j+1:Nat):Int)-1-1))],[],4⟩:=by
     rw[show ((j:Int)-1)=((j+1:Nat):Int)-1-1 by omega,hcd]
    generalize (o.drop (j+1)).count 10=c at *
    (repeat' first|refine st ?_|refine sa fun xe hxe=>?_|refine sb (fun hq=>?_) fun hq=>?_|exact aa)
    exact⟨j,⟨by omega,by omega⟩,by omega,hst.symm⟩
  ·have hhl:h.length=j+1:=by omega
   have hc:o[j]=10:=by have:=hlast j hhl;rw[am hj] at this;exact aq this
   have hxn:(((o.getD ((((j+1:Nat):Int)-1).toNat) 0).toNat:Nat):Int)=10:=by rw[hx,hc];rfl
   have hct:(o.drop (j+1)).count 10=3:=by rw[←hhl,hd0];exact hs
   have he:(bs o).extract (j+1) o.length=bs s:=by rw[lR,←hhl,hd0,bp (by rw[←ho];simp)]
   rw[hct]
   (repeat' first|refine st ?_|refine sa fun xe hxe=>?_|refine sb (fun hq=>?_) fun hq=>?_|exact aa)
   rw[show ((((j+1:Nat):Int)-1+1).toNat)=j+1 by omega,hsz]
   exact⟨congrArg V.str he,rfl⟩
set_option maxHeartbeats 8000000 in
theorem Ej (c:List Int)(hc:∀x∈c,0≤x∧x≤255):∃o:ByteArray,o.size≤3000∧ag Tryz.prog 6 [.lst (.int .u8) c] [] (.str o) []:=by
 have h:=OU hc
 suffices hs:∃r hout,(∃o:ByteArray,o.size≤3000∧r= .str o∧hout=[])∧ag Tryz.prog 6 [.lst (.int .u8) c] [] r hout by
  obtain⟨r,hout,⟨v,hv,rfl,rfl⟩,h⟩:=hs
  exact⟨v,hv,h⟩
 refine lS aj Tryz.func6 rfl rfl true 0 4 rfl rfl rfl rfl (R:=fun r hout=>∃o:ByteArray,o.size≤3000∧r= .str o∧hout=[]) (r0:=.str ⟨#[]⟩) (hout0:=[]) (⟨⟨#[]⟩,aX 3000,rfl,rfl⟩) fun K hK hb1 hb2=>?_;simp only[ae,enc,Nat.reduceAdd]
 clear hb1 hb2
 (repeat' first|refine st ?_|refine sa fun xe hxe=>?_|refine sb (fun hq=>?_) fun hq=>?_|refine cr (L1 _) ?_|exact aa)
 generalize c.take 2000=b at *
 refine ah hK [] [3,4,5] (fun x:Nat×ByteArray×Int=>⟨[(3,.ptr 4 0),(4,.str x.2.1),(5,.int .i64 (x.1:Int))],[(4,Ge b x.2.2)],5⟩) (fun x=>x.1≤23∧x.2.1.size≤41*x.1∧0≤x.2.2∧x.2.2≤11*x.1) (fun x=>24-x.1) (0,⟨#[]⟩,0) ⟨by dsimp only;omega,aX _,by dsimp only;omega,by dsimp only;omega⟩ rfl ?_
 rintro⟨i,o,p⟩ ⟨h1,h2,h3,h4⟩
 dsimp only at h1 h2 h3 h4⊢
 (repeat' first|((first|with_reducible refine aE ?_ (by assumption)|with_reducible refine aD ?_ (by assumption));conv=>whnf)|refine st ?_|refine sa fun xe hxe=>?_|refine sb (fun hq=>?_) fun hq=>?_|((with_reducible refine aF ?_)<;>conv=>whnf)|((with_reducible refine fy ?_);(conv=>whnf);(first|refine n9 (L8 b _ _ h (by omega) (by omega)) fun xv hxv=>?_|refine n9 (Ni b _ h (by omega)) fun xv hxv=>?_|refine n9 (LT _ _ rfl (by omega)) fun xv hxv=>?_);conv=>whnf)|exact aa)
 ·refine⟨(i+1,o++xv.1++⟨#[10]⟩,xv.2),⟨by dsimp only;omega,?_,by dsimp only;omega,by dsimp only;omega⟩,by dsimp only;omega,rfl⟩
  dsimp only
  rw[ByteArray.size_append,ByteArray.size_append]
  show _+_+1≤_
  omega
 all_goals
  refine⟨_,?_,rfl,rfl⟩
  first|omega|(simp only[ByteArray.size_append];omega)
end Go.Proofs.YtpefhoohfkeflabGreatDoor.Am
namespace Go.Proofs.YtpefhoohfkeflabGreatDoor.Am
open Go Go.RowKit
variable {P:Program} {w0:World} {S:SD} {A:Nat→Prop} {N:Nat} {ρ:Id→Pl} {t:List (Nat×D)} {h:HL} {a:Act} {w:World} {K:Id→Prop} {Q:Exit→VSt→Prop} {σ:VSt}
theorem In {L:Id→Prop}{ok:Nat→Prop}{T:TypeId}{s:ByteArray}{v:Value}(h:C ρ L ok w (.ifc T (.agg [.str s])) v):v= .iface T (.agg #[.string s]):=by
 obtain⟨v',rfl,h1⟩:=h.ifc_inv
 obtain⟨vs,rfl,h2,h3⟩:=h1.agg_inv
 have h4:1=vs.size:=h2
 obtain⟨x,rfl⟩:=AT h4
 have h5:C ρ L ok w (.str s) x:=h3 0 Nat.one_pos
 rw[h5.str_inv]
theorem DM {Θ:TT}(hΘ:Θ.ok P){id:Nat}{ops:Array Oper}{l:List Oper}{od:Oper}{x:Tmp}{T:TypeId}{bt:ByteArray}(hops:ops.toList=l++[od])(hod:od.op= .panic (.tmp x)∧od.guard=none)
  (h:lA P Θ ops (fun _=>[]) false N l 0 [] σ (fun σ=>look (fP σ.t) x=some (.ifc T (.agg [.str bt]))∧Q (.panic [{v:=.iface T (.agg #[.string bt]),recovered:=false}]) σ)):At P N K (.region id ops false) Q σ:=by
 refine At.real fun hr=>?_
 have hfr:lM σ:=by obtain⟨w0,S,A,ρ0,a,w,hs⟩:=hr;exact hs.1
 obtain⟨σ',⟨q1,q3⟩,h2⟩:=nl hΘ hfr h
 obtain⟨L,l1,l2,l3,l4,l5,_⟩:=h2 [] fun h=>by cases h
 refine⟨_,σ',?_,fun _=>q3⟩
 rintro w0 S A ρ0 a w ⟨hn,hK,ρ,hρ,s⟩
 refine wp_region ?_
 have hll:L.length=l.length:=by rw[←l1,aA]
 have hsz:ops.size=L.length+1:=by have:=congrArg List.length hops;simp only[nE,aP,mF] at this;omega
 have hget:∀i:Nat,ops[i]?=(l++[od])[i]?:=fun i=>by rw[←hops];simp
 rw[hsz,List.range_eq_range',List.range'_concat]
 simp only[iF,e8]
 refine s9 L 0 _ _ _ a w ρ l2 hn hK hρ (fun i hi=>?_) s fun ρ' a' w' hρ' s'=>?_
 ·rw[e8,hget,cX (by omega),←l1,bf]
 ·obtain⟨od1,od2⟩:=hod
  have s2:=s'.congr (t':=fP σ'.t) (h':=toH σ'.h) (fun x=>(l3 x)) (fun b=>(l4 b))
  have hv:=In (s2.tmp x _ q1).2
  have ho:ops[L.length]?=some od:=by rw[hget,hll,eW (ax _)];simp
  simp only[wpOps,ho]
  have hwant:Region.wanted od (yielded ops a'.tmps)=true:=by simp[Region.wanted,od2]
  rw[if_pos hwant]
  left
  have hex:(execOp a'.eval od).run P w'= .halt (.panic (.iface T (.agg #[.string bt]))) w':=by
   have he:a'.eval (.tmp x)= .iface T (.agg #[.string bt]):=by
    rw[←hv];rfl
   obtain⟨dst,op,ty,pos,after,guard⟩:=od
   subst od1
   simp only[execOp,he]
   rfl
  unfold Oper.wp
  rw[hex,Oper.upon_panic]
  refine⟨rfl,l5,fun b hb=>?_,ρ',hρ',s2⟩
  have:=kO (fun _=>true) L 0 (toH σ.h) b (hK b hb)
  show Live (toH σ'.h) b
  unfold Live at this⊢
  rw[l4]
  exact this
theorem w4 {f:FuncId}{fn:Func}{c:Code}(hf:P.funcs[f]?=some fn)(hb:fn.body=some c){x:ByteArray}{chain:List PanicEntry}(hN:2≤fn.ntmps)(hA:At P fn.ntmps (fun _=>False) c (fun e _=>e= .panic chain) ⟨[(1,.str x)],[],4⟩)
  (w:World) (v:Value) (hg:(∀g y,look Gl g=some y→g<w.heap.size∧∃ad,w.cell? ⟨g,0,none⟩=some (.iface y.1 (.pointer (some ad))))∧∀g zs,look Gt g=some zs→g<w.heap.size∧∃T fz,w.heap[g]?=some (.cells (zs.map (Value.int .u64)).toArray T fz)):
  Calls P f #[v,.string x] w fun e w'=>e= .panicked chain∧Below w.heap.size w w':=by
 obtain⟨e,σ',h1,h2⟩:=hA
 refine calls_of_wp hf hb ?_
 have hs0:SimS P w ⟨fun _=>False,[]⟩ (fun _=>True) fn.ntmps (fun _=>⟨0,0,0,0⟩) (fun _=>False) (VSt.toD ⟨[(1,.str x)],[],4⟩) {tmps:=#[v,.string x]++Array.replicate (fn.ntmps-2) undef,defers:=[]} w:=by
  refine⟨fun b _=>rfl,fun b hb=>hb.elim,fun _=>⟨0,0,0,0⟩,fun b hb=>rfl,fun _ _=>trivial,fun _ _=>trivial,Fr.refl _ _,rfl,by simp;omega,fun k d hk=>?_,fun b x hx=>(by cases hx),fun b x hx=>(by cases hx),fun b b' x x' hx=>(by cases hx),fun g y hx=>⟨⟨trivial,id,(hg.1 g y hx).1⟩,(hg.1 g y hx).2⟩,fun g zs hx=>⟨⟨trivial,id,(hg.2 g zs hx).1⟩,(hg.2 g zs hx).2⟩⟩
  have hk2:(if k=1 then some (D.str x) else none)=some d:=hk
  split at hk2
  ·rename_i e1
   subst e1
   obtain rfl:=aq hk2
   refine⟨by omega,?_⟩
   have:(#[v,.string x]++Array.replicate (fn.ntmps-2) undef).getD 1 undef= .string x:=by
    rw[bK,uT (by simp)]
    rfl
   rw[this]
   exact C.str x
  ·cases hk2
 refine wp_mono (h1 _ _ _ _ _ w hs0) ?_
 rintro e' a' w' ⟨rfl,hs1⟩
 obtain rfl:=h2 ⟨_,_,_,_,_,_,hs1⟩
 obtain⟨-,-,ρ,-,s⟩:=hs1
 exact⟨s.defers,rfl,s.fr.os,s.fr.tape,s.fr.output,s.fr.size,fun k hk=>s.fr.block k hk id⟩

end Go.Proofs.YtpefhoohfkeflabGreatDoor.Am
