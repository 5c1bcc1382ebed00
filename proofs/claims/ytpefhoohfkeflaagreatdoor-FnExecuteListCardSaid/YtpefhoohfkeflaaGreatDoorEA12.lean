/- Orders: heaps of vertices in the program. Orders: vertices sink in heaps. Orders: vertices come out of heaps in order. Orders: what a wave orders, vertex by vertex (plain laws). Orders: the program's orders. Orders: the program's OrderSlots, WorldOrder. Orders: slots held against each other. Orders: FnWorldOrder. Scripts: the specification's own functions. Scripts: the library's functions on texts. Scripts: the console prints. -/
import Derived.Shelf.Strings.Count
import Derived.Shelf.Strings.Search3
import Derived.Shelf.Strconv.Itoa3
import Derived.Lib.AppendIntMem
import Derived.Test.YtpefhoohfkeflaaGreatDoorEA11
set_option linter.unusedSimpArgs false
set_option linter.unusedVariables false
set_option maxHeartbeats 1000000
namespace Go.Proofs.YtpefhoohfkeflaaGreatDoor.Am
open Go
attribute [local irreducible] Mk ck Ari fK mQ jM cd cX i7 fC At ag wR
set_option maxRecDepth 10000
def Θq:TT:=(159,⟨.slice 162,1,24,some .nils,some (.lst .odd),false⟩)::(162,⟨.struct [(58,0,4),(3,4,1)],5,56,some (.agg [.int .i64 0,.int .i64 0,.nils,.int .i64 0,.int .i64 0]),some .odd,false⟩)::(190,⟨.slice 58,1,24,some .nils,some (.lst .vtx),true⟩)::Θe
theorem dR:TT.ok Tryz.prog Θq:=TT.okB_ok (by kernel_rfl)
theorem km {P Q:Prop}(h:Q)(s:Hid Q→P:=by
  intro h
  (first|(with_reducible first|apply dZ|apply cZ)|((first|with_reducible apply cN dR|refine go ?_|(with_reducible first|apply dk|apply dy|apply cL|apply cO|refine cM dR mixed (by kernel_rfl) ?_))<;>conv=>whnf))
  repeat(first|(with_reducible first|apply dZ|apply cZ)|((first|with_reducible apply cN dR|refine go ?_|(with_reducible first|apply dk|apply dy|apply cL|apply cO|refine cM dR mixed (by kernel_rfl) ?_))<;>conv=>whnf))
  exact h.h):P:=s ⟨h⟩
theorem An (xs:List Vtx):ag Tryz.prog 187 [.lst .vtx xs] [] (.int .i64 xs.length) []:=by
 refine ab dR Tryz.func187 rfl rfl false 0 4 rfl rfl rfl rfl fun K hK hb1 hb2=>?_;simp only[ae,enc,Nat.reduceAdd]
 clear hb1 hb2
 (repeat' first|refine km ?_|refine sa fun xe hxe=>?_|refine sb (fun hq=>?_) fun hq=>?_|exact aa)
 exact⟨rfl,rfl⟩
theorem rM (xs:List Vtx)(i j:Nat)(x y:Vtx)(hi:xs[i]?=some x)(hj:xs[j]?=some y):ag Tryz.prog 250 [.lst .vtx xs,.int .i64 (i:Int),.int .i64 (j:Int)] [] (.bool (bef x y)) []:=by
 have hB:=vV x y
 refine ab dR Tryz.func250 rfl rfl false 0 4 rfl rfl rfl rfl fun K hK hb1 hb2=>?_;simp only[ae,enc,Nat.reduceAdd]
 clear hb1 hb2
 (repeat' first|refine km ?_|refine sa fun xe hxe=>?_|refine sb (fun hq=>?_) fun hq=>?_|refine cr (hB) ?_|exact aa)
 exact⟨rfl,rfl⟩
theorem wj (xs:List Vtx)(i j:Nat)(x y:Vtx)(hi:xs[i]?=some x)(hj:xs[j]?=some y):ag Tryz.prog 253 [.ref 4,.int .i64 (i:Int),.int .i64 (j:Int)] [(4,.row 58 .vtx xs)] (.tup []) [(4,.row 58 .vtx (yM xs i j x y))]:=by
 have hxj:(xs.set i y)[j]?=some (if i=j then y else y):=by
  rw[dx]
  have:=(aQ.1 hj).1
  by_cases e:i=j
  ·rw[if_pos e,if_pos (by omega),if_pos e]
  ·rw[if_neg e,if_neg e,hj]
 have h1:=(aQ.1 hi).1
 have h2:=(aQ.1 hj).1
 have h3:(xs.set i y).length=xs.length:=by simp
 refine ab dR Tryz.func253 rfl rfl false 1 5 rfl rfl rfl rfl fun K hK hb1 hb2=>?_;simp only[ae,enc,Nat.reduceAdd]
 clear hb1 hb2
 (repeat' first|refine km ?_|refine sa fun xe hxe=>?_|refine sb (fun hq=>?_) fun hq=>?_|exact aa)
 exact⟨rfl,rfl⟩
abbrev qB (xs:List Vtx):VH:=[(4,.var 190 [.ref 5]),(5,.row 58 .vtx xs)]
abbrev qG (xs:List Vtx):VH:=[(4,.var 190 [.ref 6]),(5,.gone),(6,.row 58 .vtx xs)]
theorem Ja (xs:List Vtx)(v:Vtx)(hl:xs.length≤1000000):ag Tryz.prog 252 [.ptr 4 0,.ifc 58 (de v)] (qB xs) (.tup []) (qG (xs++[v])):=by
 refine ab dR Tryz.func252 rfl rfl false 2 6 rfl rfl rfl rfl fun K hK hb1 hb2=>?_;simp only[ae,enc,Nat.reduceAdd]
 clear hb1 hb2
 (repeat' first|refine km ?_|refine sa fun xe hxe=>?_|refine sb (fun hq=>?_) fun hq=>?_|exact aa)
 exact⟨rfl,rfl⟩
theorem Mm (xs:List Vtx)(n:Nat)(v:Vtx)(hn:xs.length=n+1)(hl:n≤1000000)(hv:xs[n]?=some v):ag Tryz.prog 251 [.ptr 4 0] (qB xs) (.ifc 58 (de v)) (qG (xs.take n)):=by
 have e1:((xs.length:Int)-1).toNat=n:=by omega
 have hx:xs[((xs.length:Int)-1).toNat]?=some v:=by rw[e1];exact hv
 have hcut:ma xs none (some (.int .i64 ((xs.length:Int)-1))) 0 ((xs.length:Int)-1).toNat=xs.take n:=by rw[e1];rfl
 refine ab dR Tryz.func251 rfl rfl false 2 6 rfl rfl rfl rfl fun K hK hb1 hb2=>?_;simp only[ae,enc,Nat.reduceAdd]
 clear hb1 hb2
 (repeat' first|refine km ?_|refine sa fun xe hxe=>?_|refine sb (fun hq=>?_) fun hq=>?_|exact aa)
 exact⟨rfl,by rw[←hcut]⟩
theorem Nv (xs:List Vtx)(j:Nat)(hj:j<xs.length)(hl:xs.length≤1000000)(ha:xs.Pairwise fun a b=>bef a b=true):ag Tryz.prog 186 [.ifc 189 (.ptr 4 0),.int .i64 (j:Int)] (qB xs) (.tup []) (qB xs):=by
 have hm : kN Tryz.prog 189 "Less" = some (250, false) := by kernel_rfl
 refine ab dR Tryz.func186 rfl rfl false 2 6 rfl rfl rfl rfl fun K hK hb1 hb2=>?_;simp only[ae,enc,Nat.reduceAdd]
 clear hb1 hb2
 (repeat' first|refine km ?_|refine sa fun xe hxe=>?_|refine sb (fun hq=>?_) fun hq=>?_|exact aa)
 refine ah hK [] [0,1] (fun _:Unit=>⟨[(0,.ifc 189 (.ptr 4 0)),(1,.int .i64 (j:Int))],qB xs,6⟩) (fun _=>True) (fun _=>0) () trivial rfl ?_
 intro _ _
 cases j with
 |zero=>
  have hq0:(((0:Nat):Int)-1).tdiv 2=((0:Nat):Int):=by decide
  (repeat' first|refine km ?_|refine sa fun xe hxe=>?_|refine sb (fun hq=>?_) fun hq=>?_|exact aa)
  (try any_goals(first|exact absurd trivial hq|exact absurd rfl hq|exact absurd hq (by omega)|(exfalso;simp at hq;done)))
  exact⟨rfl,rfl⟩
 |succ j=>
  have e:(((j+1:Nat):Int)-1).tdiv 2=((j/2:Nat):Int):=by
   rw[jH (by omega)]
   omega
  have hx:xs[j+1]?=some xs[j+1]:=am hj
  have hp:j/2<xs.length:=by omega
  have hy:xs[j/2]?=some xs[j/2]:=am hp
  have hL:=rM xs (j+1) (j/2) xs[j+1] xs[j/2] hx hy
  rw[om (qR.1 ha _ _ hp hj (by omega)),←e] at hL
  have hne:¬(((j+1:Nat):Int)-1).tdiv 2=((j+1:Nat):Int):=by rw[e];omega
  (repeat' first|refine km ?_|refine sa fun xe hxe=>?_|refine sb (fun hq=>?_) fun hq=>?_|refine cr (hL) ?_|exact aa)
  (try any_goals(first|exact absurd trivial hq|exact absurd rfl hq|exact absurd hq (by omega)|(exfalso;simp at hq;done)))
  exact⟨rfl,rfl⟩
theorem Ig (xs:List Vtx)(v:Vtx)(hl:xs.length≤100000)(ha:(xs++[v]).Pairwise fun a b=>bef a b=true):ag Tryz.prog 160 [.ifc 189 (.ptr 4 0),.ifc 58 (de v)] (qB xs) (.tup []) (qG (xs++[v])):=by
 have hm : kN Tryz.prog 189 "Push" = some (252, true) := by kernel_rfl
 have hm2 : kN Tryz.prog 189 "Len" = some (187, false) := by kernel_rfl
 have hP:=Ja xs v (by omega)
 have hN:=An (xs++[v])
 have hpl:(xs++[v]).length=xs.length+1:=by simp
 have hU:=Nv (xs++[v]) xs.length (by omega) (by omega) ha
 have e:(((xs++[v]).length:Nat):Int)-1=(xs.length:Int):=by omega
 rw[←e] at hU
 refine ab dR Tryz.func160 rfl rfl false 2 6 rfl rfl rfl rfl fun K hK hb1 hb2=>?_;simp only[ae,enc,Nat.reduceAdd]
 clear hb1 hb2
 (repeat' first|refine km ?_|refine sa fun xe hxe=>?_|refine sb (fun hq=>?_) fun hq=>?_|refine cr (hN) ?_|refine co (hP) ?_|refine co (hU) ?_|exact aa)
 exact⟨rfl,rfl⟩
structure SDone (l0 l:List Vtx)(n:Nat):Prop where
 len:l.length=l0.length
 perm:(l.take n).Perm (l0.take n)
 rest:∀k,n≤k→l[k]?=l0[k]?
 heap:Heap l n
theorem tB {l0 l:List Vtx}{n i:Nat}(h:Sft l0 l n i)(hn:n≤2*i+1):SDone l0 l n:=by
 refine⟨h.len,h.perm,h.rest,?_⟩
 intro k a b k0 kn ha hb
 exact h.hp k a b k0 kn (by omega) ha hb
theorem kX {l0 l:List Vtx}{n i:Nat}(h:Sft l0 l n i){x y:Vtx}(hi:l[i]?=some x)(hb:bef y x=false)(hs:∀k z,0<k→k<n→(k-1)/2=i→l[k]?=some z→bef z y=false):SDone l0 l n:=
 ⟨h.len,h.perm,h.rest,Jp h hi fun k z k0 kn kp hz=>s5 (hs k z k0 kn kp hz) hb⟩
theorem J2 {l:List Vtx}{n i:Nat}{a b:Vtx}(ha:l[2*i+1]?=some a)(hb:l[2*i+2]?=some b)(h:bef b a=true):∀k z,0<k→k<n→(k-1)/2=i→l[k]?=some z→bef z b=false:=fun k z k0 kn kp hz=>by
 rcases (show k=2*i+1∨k=2*i+2 by omega) with rfl|rfl
 ·rw[ha] at hz
  obtain rfl:=ar hz
  exact om h
 ·rw[hb] at hz
  obtain rfl:=ar hz
  rw[cj]
  intro h2
  rw[jT] at h2
  omega
theorem A2 {l:List Vtx}{n i:Nat}{a:Vtx}(ha:l[2*i+1]?=some a)(h:∀b,2*i+2<n→l[2*i+2]?=some b→bef b a=false):∀k z,0<k→k<n→(k-1)/2=i→l[k]?=some z→bef z a=false:=fun k z k0 kn kp hz=>by
 rcases (show k=2*i+1∨k=2*i+2 by omega) with rfl|rfl
 ·rw[ha] at hz
  obtain rfl:=ar hz
  rw[cj]
  intro h2
  rw[jT] at h2
  omega
 ·exact h z kn hz
theorem Mz {l0:List Vtx}{n:Nat}(hn:n≤l0.length):∀(m i:Nat) (l:List Vtx),n-i≤m→i<l0.length→Sft l0 l n i→∃ys,SDone l0 ys n:=by
 intro m
 induction m with
 |zero=>exact fun i l hm _ h=>⟨l,tB h (by omega)⟩
 |succ m ih=>
  intro i l hm hil h
  have hlen:=h.len
  by_cases h1:n≤2*i+1
  ·exact⟨l,tB h h1⟩
  have hx:l[i]?=some (l[i]'(by omega)):=am _
  have ha:l[2*i+1]?=some (l[2*i+1]'(by omega)):=am _
  generalize l[i]'(by omega)=x at *
  generalize l[2*i+1]'(by omega)=a at *
  by_cases h2:2*i+2<n
  ·have hb:l[2*i+2]?=some (l[2*i+2]'(by omega)):=am _
   generalize l[2*i+2]'(by omega)=b at *
   cases h3:bef b a
   ·have hs:=A2 (n:=n) ha fun b' _ hb'=>by rw[hb] at hb';obtain rfl:=ar hb';exact h3
    cases h4:bef a x
    ·exact⟨l,kX h hx h4 hs⟩
    ·exact ih _ _ (by omega) (by omega) (kW h hx ha (by omega) (by omega) (by omega) h4 hs)
   ·have hs:=J2 (n:=n) ha hb h3
    cases h4:bef b x
    ·exact⟨l,kX h hx h4 hs⟩
    ·exact ih _ _ (by omega) (by omega) (kW h hx hb (by omega) (by omega) (by omega) h4 hs)
  ·have hs:=A2 (n:=n) ha fun b' h5 _=>absurd h5 h2
   cases h4:bef a x
   ·exact⟨l,kX h hx h4 hs⟩
   ·exact ih _ _ (by omega) (by omega) (kW h hx ha (by omega) (by omega) (by omega) h4 hs)
set_option maxHeartbeats 1000000 in
theorem If (zs:List Vtx)(n:Nat)(hn:n≤zs.length)(h0:0<zs.length)(hl:zs.length≤100000)(hS:Sft zs zs n 0):∃x:List Vtx×Bool,SDone zs x.1 n∧ag Tryz.prog 204 [.ifc 189 (.ptr 4 0),.int .i64 0,.int .i64 (n:Int)] (qB zs) (.bool x.2) (qB x.1):=by
 obtain⟨y0,hy0⟩:=Mz hn n 0 zs (by omega) h0 hS
 suffices hs:∃r hout,(∃x:List Vtx×Bool,SDone zs x.1 n∧r= .bool x.2∧hout=qB x.1)∧ag Tryz.prog 204 [.ifc 189 (.ptr 4 0),.int .i64 0,.int .i64 (n:Int)] (qB zs) r hout by
  obtain⟨r,hout,⟨v,hv,rfl,rfl⟩,h⟩:=hs
  exact⟨v,hv,h⟩
 have hm : kN Tryz.prog 189 "Less" = some (250, false) := by kernel_rfl
 have hm2 : kN Tryz.prog 189 "Swap" = some (253, false) := by kernel_rfl
 refine l9 dR Tryz.func204 rfl rfl false 2 6 rfl rfl rfl rfl (R:=fun r hout=>∃x:List Vtx×Bool,SDone zs x.1 n∧r= .bool x.2∧hout=qB x.1) (r0:=.bool true) (hout0:=qB y0) (⟨(y0,true),hy0,rfl,rfl⟩) fun K hK hb1 hb2=>?_;simp only[ae,enc,Nat.reduceAdd]
 clear hb1 hb2
 (repeat' first|refine km ?_|refine sa fun xe hxe=>?_|refine sb (fun hq=>?_) fun hq=>?_|exact aa)
 refine ah hK [] [0,1,2,7] (fun x:Nat×List Vtx=>⟨[(0,.ifc 189 (.ptr 4 0)),(1,.int .i64 0),(2,.int .i64 (n:Int)),(7,.int .i64 (x.1:Int))],qB x.2,6⟩) (fun x=>Sft zs x.2 n x.1∧x.1<zs.length) (fun x=>zs.length-x.1) (0,zs) ⟨hS,h0⟩ rfl ?_
 rintro⟨i,l⟩ ⟨h,hil⟩
 dsimp only at h hil⊢
 have hlen:=h.len
 by_cases h1:n≤2*i+1
 ·have hd:=tB h h1
  (repeat' first|refine km ?_|refine sa fun xe hxe=>?_|refine sb (fun hq=>?_) fun hq=>?_|exact aa)
  (try any_goals(first|exact absurd trivial hq|exact absurd rfl hq|exact absurd hq (by omega)|(exfalso;simp at hq;done)))
  exact⟨(l,_),hd,rfl,rfl⟩
 have hx:l[i]?=some (l[i]'(by omega)):=am _
 have ha:l[2*i+1]?=some (l[2*i+1]'(by omega)):=am _
 generalize l[i]'(by omega)=x at *
 generalize l[2*i+1]'(by omega)=a at *
 have e1:((2*i+1:Nat):Int)=2*(i:Int)+1:=by omega
 have e2:((2*i+2:Nat):Int)=2*(i:Int)+1+1:=by omega
 have hLa:=rM l (2*i+1) i a x ha hx
 have hSa:=wj l i (2*i+1) x a hx ha
 rw[e1] at hLa hSa
 by_cases h2:2*i+2<n
 ·have hb:l[2*i+2]?=some (l[2*i+2]'(by omega)):=am _
  generalize l[2*i+2]'(by omega)=b at *
  have hLb:=rM l (2*i+2) (2*i+1) b a hb ha
  have hLc:=rM l (2*i+2) i b x hb hx
  have hSb:=wj l i (2*i+2) x b hx hb
  rw[e2,e1] at hLb
  rw[e2] at hLc hSb
  cases h3:bef b a
  ·have hs:=A2 (n:=n) ha fun b' _ hb'=>by rw[hb] at hb';obtain rfl:=ar hb';exact h3
   rw[h3] at hLb
   cases h4:bef a x
   ·have hd:=kX h hx h4 hs
    rw[h4] at hLa
    (repeat' first|refine km ?_|refine sa fun xe hxe=>?_|refine sb (fun hq=>?_) fun hq=>?_|refine cr (hLb) ?_|refine cr (hLa) ?_|exact aa)
    (try any_goals(first|exact absurd trivial hq|exact absurd rfl hq|exact absurd hq (by omega)|(exfalso;simp at hq;done)))
    exact⟨(l,_),hd,rfl,rfl⟩
   ·have hst:=kW h hx ha (by omega) (by omega) (by omega) h4 hs
    rw[h4] at hLa
    generalize yM l i (2*i+1) x a=l2 at *
    (repeat' first|refine km ?_|refine sa fun xe hxe=>?_|refine sb (fun hq=>?_) fun hq=>?_|refine cr (hLb) ?_|refine cr (hLa) ?_|refine co (hSa) ?_|exact aa)
    (try any_goals(first|exact absurd trivial hq|exact absurd rfl hq|exact absurd hq (by omega)|(exfalso;simp at hq;done)))
    exact⟨(2*i+1,l2),⟨hst,by dsimp only;omega⟩,by dsimp only;omega,by dsimp only;rw[e1]⟩
  ·have hs:=J2 (n:=n) ha hb h3
   rw[h3] at hLb
   cases h4:bef b x
   ·have hd:=kX h hx h4 hs
    rw[h4] at hLc
    (repeat' first|refine km ?_|refine sa fun xe hxe=>?_|refine sb (fun hq=>?_) fun hq=>?_|refine cr (hLb) ?_|refine cr (hLc) ?_|exact aa)
    (try any_goals(first|exact absurd trivial hq|exact absurd rfl hq|exact absurd hq (by omega)|(exfalso;simp at hq;done)))
    exact⟨(l,_),hd,rfl,rfl⟩
   ·have hst:=kW h hx hb (by omega) (by omega) (by omega) h4 hs
    rw[h4] at hLc
    generalize yM l i (2*i+2) x b=l2 at *
    (repeat' first|refine km ?_|refine sa fun xe hxe=>?_|refine sb (fun hq=>?_) fun hq=>?_|refine cr (hLb) ?_|refine cr (hLc) ?_|refine co (hSb) ?_|exact aa)
    (try any_goals(first|exact absurd trivial hq|exact absurd rfl hq|exact absurd hq (by omega)|(exfalso;simp at hq;done)))
    exact⟨(2*i+2,l2),⟨hst,by dsimp only;omega⟩,by dsimp only;omega,by dsimp only;rw[e2]⟩
 ·have hs:=A2 (n:=n) ha fun b' h5 _=>absurd h5 h2
  cases h4:bef a x
  ·have hd:=kX h hx h4 hs
   rw[h4] at hLa
   (repeat' first|refine km ?_|refine sa fun xe hxe=>?_|refine sb (fun hq=>?_) fun hq=>?_|refine cr (hLa) ?_|exact aa)
   (try any_goals(first|exact absurd trivial hq|exact absurd rfl hq|exact absurd hq (by omega)|(exfalso;simp at hq;done)))
   exact⟨(l,_),hd,rfl,rfl⟩
  ·have hst:=kW h hx ha (by omega) (by omega) (by omega) h4 hs
   rw[h4] at hLa
   generalize yM l i (2*i+1) x a=l2 at *
   (repeat' first|refine km ?_|refine sa fun xe hxe=>?_|refine sb (fun hq=>?_) fun hq=>?_|refine cr (hLa) ?_|refine co (hSa) ?_|exact aa)
   (try any_goals(first|exact absurd trivial hq|exact absurd rfl hq|exact absurd hq (by omega)|(exfalso;simp at hq;done)))
   exact⟨(2*i+1,l2),⟨hst,by dsimp only;omega⟩,by dsimp only;omega,by dsimp only;rw[e1]⟩
theorem JB {xs:List Vtx}{n:Nat}{r y:Vtx}(hn:xs.length=n+1)(hh:Heap xs xs.length)(hr:xs[0]?=some r)(hy:xs[n]?=some y):Sft (yM xs 0 n r y) (yM xs 0 n r y) n 0:=by
 refine NX fun k a b k0 kn kp ha hb=>?_
 rw[wB hr hy,if_neg (by omega),if_neg (by omega)] at ha
 rw[wB hr hy,if_neg (by omega),if_neg kp] at hb
 exact hh k a b k0 (by omega) ha hb
theorem K7 (xs:List Vtx)(n:Nat)(r:Vtx)(hn:xs.length=n+1)(hl:n≤10000)(hh:Heap xs xs.length)(hr:xs[0]?=some r):∃ys:List Vtx,(ys.length=n∧Heap ys n∧(r::ys).Perm xs)∧ag Tryz.prog 188 [.ifc 189 (.ptr 4 0)] (qB xs) (.ifc 58 (de r)) (qG ys):=by
 have hm : kN Tryz.prog 189 "Pop" = some (251, true) := by kernel_rfl
 have hm2 : kN Tryz.prog 189 "Len" = some (187, false) := by kernel_rfl
 have hm3 : kN Tryz.prog 189 "Swap" = some (253, false) := by kernel_rfl
 have hy:xs[n]?=some (xs[n]'(by omega)):=am _
 generalize xs[n]'(by omega)=y at *
 have hsf:=JB hn hh hr hy
 have hsp:=yN hr hy
 have hsl:=Cr xs 0 n r y
 have hsn:(yM xs 0 n r y)[n]?=some r:=by rw[wB hr hy,if_pos rfl]
 have hS:=wj xs 0 n r y hr hy
 generalize yM xs 0 n r y=zs at *
 obtain⟨⟨l,b⟩,hd,hD⟩:=If zs n (by omega) (by omega) (by omega) hsf
 dsimp only at hd hD
 have hll:=hd.len
 have hln:l[n]?=some r:=by rw[hd.rest n (ax _)];exact hsn
 have hP:=Mm l n r (by omega) (by omega) hln
 have hN:=An xs
 have e:((xs.length:Int)-1)=(n:Int):=by omega
 rw[←e] at hS hD
 have hzt:zs=zs.take n++[r]:=by
  have h1:zs=zs.take (n+1):=(br (by omega)).symm
  obtain⟨h2,h3⟩:=aQ.1 hsn
  rw[ca h2,h3] at h1
  exact h1
 refine⟨l.take n,⟨by rw[bQ];omega,?_,?_⟩,?_⟩
 ·intro k a b' k0 kn ha hb
  rw[eA,if_pos kn] at ha
  rw[eA,if_pos (by omega)] at hb
  exact hd.heap k a b' k0 kn ha hb
 ·have h1:(r::l.take n).Perm (r::zs.take n):=List.Perm.cons r hd.perm
  have h2:(r::zs.take n).Perm (zs.take n++[r]):=by
   have:=List.perm_append_comm (l₁:=[r]) (l₂:=zs.take n)
   simpa using this
  rw[←hzt] at h2
  exact h1.trans (h2.trans hsp)
 ·clear hzt
  refine ab dR Tryz.func188 rfl rfl false 2 6 rfl rfl rfl rfl fun K hK hb1 hb2=>?_;simp only[ae,enc,Nat.reduceAdd]
  clear hb1 hb2
  (repeat' first|refine km ?_|refine sa fun xe hxe=>?_|refine sb (fun hq=>?_) fun hq=>?_|refine cr (hN) ?_|refine co (hS) ?_|refine co (hD) ?_|refine co (hP) ?_|exact aa)
  exact⟨rfl,rfl⟩
def NO (w:Int)(m:Nat)(ys:List Vtx)(os:List Odd):VSt:=match m with
 |0=>⟨[(0,.ptr 4 0),(1,.int .i64 w),(5,.ref 6)],qB ys++[(6,.row 162 .odd os)],7⟩
 |_+1=>⟨[(0,.ptr 4 0),(1,.int .i64 w),(5,.ref 6)],[(4,.var 190 [.ref 7]),(5,.gone),(6,.row 162 .odd os),(7,.row 58 .vtx ys)],8⟩
def qE (s:List Vtx):VH:=if s=[] then qB [] else qG []
theorem HU (s xs:List Vtx)(w:Int)(hl:s.length≤10000)(hs:s.Pairwise fun a b=>bef a b=true)(hp:xs.Perm s)(hh:Heap xs xs.length):ag Tryz.prog 161 [.ptr 4 0,.int .i64 w] (qB xs) (.lst .odd (s.map fun v=>⟨v,w⟩)) (qE s):=by
 refine ab dR Tryz.func161 rfl rfl true 2 6 rfl rfl rfl rfl fun K hK hb1 hb2=>?_;simp only[ae,enc,Nat.reduceAdd]
 clear hb1 hb2
 (repeat' first|refine km ?_|refine sa fun xe hxe=>?_|refine sb (fun hq=>?_) fun hq=>?_|exact aa)
 refine ah hK [] [0,1,5] (fun x:Nat×List Vtx=>NO w x.1 x.2 ((s.take x.1).map fun v=>⟨v,w⟩)) (fun x=>x.1≤s.length∧x.2.Perm (s.drop x.1)∧Heap x.2 x.2.length) (fun x=>s.length-x.1) (0,xs) ⟨aX _,by simpa using hp,hh⟩ rfl ?_
 rintro⟨m,ys⟩ ⟨hm,hpm,hhm⟩
 dsimp only at hm hpm hhm⊢
 have hyl:ys.length=s.length-m:=by rw[hpm.length_eq,lK]
 have hN:=An ys
 by_cases hlt:m<s.length
 ·obtain⟨v,hv⟩:∃v,s[m]?=some v:=⟨_,am hlt⟩
  have hvd:s.drop m=v::s.drop (m+1):=by
   obtain⟨h1,h2⟩:=aQ.1 hv
   rw[←h2]
   exact nQ h1
  have h3:s.take (m+1)=s.take m++[v]:=by
   obtain⟨h1,h2⟩:=aQ.1 hv
   rw[←h2]
   exact ca h1
  have hr:ys[0]?=some (ys[0]'(by omega)):=am _
  have hrv:ys[0]'(by omega)=v:=C1 (s:=s.drop (m+1)) (x:=v) (by rw[←hvd];exact hs.sublist (List.drop_sublist _ _)) (by rw[←hvd];exact hpm) hhm hr
  rw[hrv] at hr
  obtain⟨zs,⟨z1,z2,z3⟩,hP⟩:=K7 ys (ys.length-1) v (by omega) (by omega) hhm hr
  have hzp:zs.Perm (s.drop (m+1)):=by
   have:=z3.trans hpm
   rw[hvd] at this
   exact List.Perm.cons_inv this
  have hsn:(s.take (m+1)).map (fun v=>(⟨v,w⟩:Odd))=(s.take m).map (fun v=>(⟨v,w⟩:Odd))++[⟨v,w⟩]:=by rw[h3,cg];rfl
  have htl:((s.take m).map (fun v=>(⟨v,w⟩:Odd))).length=m:=by simp;omega
  generalize hA:(s.take m).map (fun v=>(⟨v,w⟩:Odd))=A at *
  cases m with
  |zero=>
   unfold NO
   (repeat' first|refine km ?_|refine sa fun xe hxe=>?_|refine sb (fun hq=>?_) fun hq=>?_|refine cr (hN) ?_|refine co (hP) ?_|exact aa)
   (try any_goals(first|exact absurd trivial hq|exact absurd rfl hq|exact absurd hq (by omega)|(exfalso;simp at hq;done)))
   exact⟨(0+1,zs),⟨by dsimp only;omega,hzp,by dsimp only;rw[z1];exact z2⟩,by dsimp only;omega,by dsimp only;rw[hsn]⟩
  |succ m=>
   unfold NO
   (repeat' first|refine km ?_|refine sa fun xe hxe=>?_|refine sb (fun hq=>?_) fun hq=>?_|refine cr (hN) ?_|refine co (hP) ?_|exact aa)
   (try any_goals(first|exact absurd trivial hq|exact absurd rfl hq|exact absurd hq (by omega)|(exfalso;simp at hq;done)))
   exact⟨(m+1+1,zs),⟨by dsimp only;omega,hzp,by dsimp only;rw[z1];exact z2⟩,by dsimp only;omega,by dsimp only;rw[hsn]⟩
 ·obtain rfl:m=s.length:=by omega
  rw[iH]
  have hy0:ys=[]:=n9.1 (by omega)
  subst hy0
  cases hsc:s with
  |nil=>
   subst hsc
   unfold NO
   (repeat' first|refine km ?_|refine sa fun xe hxe=>?_|refine sb (fun hq=>?_) fun hq=>?_|refine cr (hN) ?_|exact aa)
   (try any_goals(first|exact absurd trivial hq|exact absurd rfl hq|exact absurd hq (by omega)|(exfalso;simp at hq;done)))
   exact⟨rfl,rfl⟩
  |cons v s'=>
   have hE:qE (v::s')=qG []:=by unfold qE;rw[if_neg (by simp)]
   rw[hE]
   generalize (v::s').map (fun v=>(⟨v,w⟩:Odd))=A at *
   simp only[bH]
   unfold NO
   (repeat' first|refine km ?_|refine sa fun xe hxe=>?_|refine sb (fun hq=>?_) fun hq=>?_|refine cr (hN) ?_|exact aa)
   (try any_goals(first|exact absurd trivial hq|exact absurd rfl hq|exact absurd hq (by omega)|(exfalso;simp at hq;done)))
   exact⟨rfl,rfl⟩
end Go.Proofs.YtpefhoohfkeflaaGreatDoor.Am
namespace Go.Proofs.YtpefhoohfkeflaaGreatDoor.Am
open Go
noncomputable def oddTo (g:List Vtx) (l:List Int):List Odd→List Nat→List Odd
 |os,[]=>os
 |os,w::ws=>oddTo g l (os++(ordW g l (os.map (·.v)) w).map fun v=>⟨v,(w:Int)⟩) ws
theorem B0 (g:List Vtx)(l:List Int):∀(ws:List Nat) (os:List Odd),(oddTo g l os ws).map (·.v)=ordTo g l (os.map (·.v)) ws
 |[],os=>rfl
 |w::ws,os=>by
  rw[oddTo,B0 g l ws,nZ,cg,ep]
  congr 2
  exact List.map_id _
theorem uI (g:List Vtx)(l:List Int):∀(ws ws':List Nat) (os:List Odd),oddTo g l os (ws++ws')=oddTo g l (oddTo g l os ws) ws'
 |[],_,_=>rfl
 |w::ws,ws',os=>uI g l ws ws' _
open Classical in
noncomputable def dnF (g os:List Vtx):List Bool:=g.map fun v=>decide (v∈os)
open Classical in
theorem Et {g os:List Vtx}{i:Nat}{v:Vtx}(h:g[i]?=some v):(dnF g os)[i]?=some (decide (v∈os)):=by rw[dnF,bf,h];rfl
theorem Bc (g os:List Vtx):(dnF g os).length=g.length:=by simp[dnF]
open Classical in
theorem HR {c:List Int}{g:List Vtx}(hg:GraOK c g){os:List Vtx}{i:Nat}{v:Vtx}(h:g[i]?=some v):(dnF g os).set i true=dnF g (os++[v]):=by
 refine mJ fun k=>?_
 rw[dx,Bc]
 have hi:=(aQ.1 h).1
 by_cases e:i=k
 ·subst e
  rw[if_pos rfl,if_pos hi,Et h,decide_eq_true (by simp)]
 ·rw[if_neg e,dnF,dnF,bf,bf]
  cases hk:g[k]? with
  |none=>rfl
  |some x=>
   simp only[aJ,aw]
   rw[eo,decide_eq_true_iff,decide_eq_true_iff,bi,aY]
   refine⟨.inl,fun hx=>?_⟩
   rcases hx with hx|rfl
   ·exact hx
   ·exact absurd (ER hg h hk) e
open Classical in
theorem Np (g:List Vtx):dnF g []=List.replicate g.length false:=by
 refine List.ext_getElem (by simp[dnF]) fun k h1 h2=>?_
 simp[dnF]
open Classical in
noncomputable def pvx (g:List Vtx) (k:Vtx):List Vtx:=g.filter fun v=>decide (Rv g k v)
open Classical in
theorem I9 (g:List Vtx)(k:Vtx):(pvx g k).length=(pst g k).length:=by
 unfold pvx pst
 rw[az]
 have e:g=(List.range g.length).map fun i=>g.getD i v0:=by
  refine List.ext_getElem (by simp) fun i h1 h2=>?_
  simp[aq,am h1]
 conv=>lhs;rw[e]
 rw[List.filter_map,az]
 simp only[←e]
 rfl
open Classical in
theorem Mj {g:List Vtx}{k:Vtx}{j:Nat}{x:Int}(h:(pst g k)[j]?=some x):∃i:Nat,x=i∧∃v,g[i]?=some v∧(pvx g k)[j]?=some v:=by
 have hm:=Ca.1 (bn h)
 obtain⟨i,hi,v,hv,-⟩:=hm
 refine⟨i,hi,v,hv,?_⟩
 have e:g=(List.range g.length).map fun i=>g.getD i v0:=by
  refine List.ext_getElem (by simp) fun i h1 h2=>?_
  simp[aq,am h1]
 have e2:pvx g k=((List.range g.length).filter fun i=>decide (Rv g k (g.getD i v0))).map fun i=>g.getD i v0:=by
  unfold pvx
  conv=>lhs;rw[e]
  rw[List.filter_map]
  simp only[←e]
  rfl
 have e3:pst g k=((List.range g.length).filter fun i=>decide (Rv g k (g.getD i v0))).map fun i:Nat=>(i:Int):=rfl
 rw[e3,bf] at h
 rw[e2,bf]
 cases hf:((List.range g.length).filter fun i=>decide (Rv g k (g.getD i v0)))[j]? with
 |none=>rw[hf] at h;cases h
 |some m=>
  rw[hf] at h
  have hm:(m:Int)=x:=ar h
  obtain rfl:m=i:=by omega
  simp[aq,hv]
open Classical in
noncomputable def qvx (g:List Vtx) (k:Vtx) (w:Nat) (os:List Vtx) (j:Nat):List Vtx:=((pvx g k).take j).filter fun v=>decide (2*(w:Int)-7≤v.round) && decide (v∉os)
open Classical in
theorem Gh {g:List Vtx}{k v:Vtx}{w:Nat}{os:List Vtx}{j:Nat}(h:(pvx g k)[j]?=some v):qvx g k w os (j+1)=if 2*(w:Int)-7≤v.round∧v∉os then qvx g k w os j++[v] else qvx g k w os j:=by
 obtain⟨h1,h2⟩:=aQ.1 h
 unfold qvx
 rw[ca h1,h2,py,lP,mI]
 by_cases c1:2*(w:Int)-7≤v.round<;>by_cases c2:v∉os<;>simp[c1,c2]
open Classical in
theorem Jb {g:List Vtx}{l:List Int}{k:Vtx}{w:Nat}{os:List Vtx}(hk:qK g l w=some k):qvx g k w os (pvx g k).length=ordW g l os w:=by
 unfold qvx ordW
 rw[hk,iH,pvx,List.filter_filter]
 refine oc fun v _=>?_
 exact Bool.and_comm _ _
theorem Cb {c:List Int}{g:List Vtx}(hg:GraOK c g)(k:Vtx)(w:Nat)(os:List Vtx)(j:Nat):(qvx g k w os j).Pairwise fun a b=>bef a b=true:=
 hg.pw.sublist (((qu).trans (List.take_sublist _ _)).trans (qu))
theorem Jc (g:List Vtx)(k:Vtx)(w:Nat)(os:List Vtx)(j:Nat):(qvx g k w os j).length≤g.length:=by
 unfold qvx pvx
 refine cz (mN _ _) ?_
 rw[bQ]
 exact cz (Nat.min_le_right _ _) (mN _ _)
theorem Jd {c:List Int}{g:List Vtx}(hg:GraOK c g){k v:Vtx}{w:Nat}{os:List Vtx}{j:Nat}(h:(pvx g k)[j]?=some v):v∉qvx g k w os j:=fun hm=>by
 have h1:=(dW.1 hm).1
 obtain⟨i,hi,rfl⟩:=qt h1
 rw[bQ] at hi
 rw[List.getElem_take] at h
 obtain⟨h2,h3⟩:=aQ.1 h
 have hp:(pvx g k).Pairwise fun a b=>bef a b=true:=hg.pw.sublist qu
 have:=qR.1 hp i j (by omega) h2 (by omega)
 rw[h3,jT] at this
 omega
end Go.Proofs.YtpefhoohfkeflaaGreatDoor.Am
namespace Go.Proofs.YtpefhoohfkeflaaGreatDoor.Am
open Go
attribute [local irreducible] Mk ck Ari fK mQ jM cd cX i7 fC At ag wR
set_option maxRecDepth 10000
theorem F3 (g:List Vtx)(l:List Int)(acc:List Vtx)(w:Nat):(ordW g l acc w).length≤g.length:=by
 unfold ordW
 split
 ·exact mN _ _
 ·exact aX _
theorem ng (g:List Vtx)(l:List Int):∀(ws:List Nat) (os:List Odd),(oddTo g l os ws).length≤os.length+ws.length*g.length
 |[],os=>by simp[oddTo]
 |w::ws,os=>by
  have h:=ng g l ws (os++(ordW g l (os.map (·.v)) w).map fun v=>⟨v,(w:Int)⟩)
  have h2:=F3 g l (os.map (·.v)) w
  simp only[aO,az] at h
  simp only[oddTo,bH,Nat.succ_mul]
  omega
open Classical in
set_option maxHeartbeats 1000000 in
theorem Lw (c:List Int)(g:List Vtx)(l:List Int)(hg:GraOK c g)(hgl:g.length≤1000)(hl:leaS c l=true):ag Tryz.prog 127 [.agg [.ptr 4 0,.lst (.int .i64) l]] (gR c (dg g)) (.lst .odd (oddTo g l [] (cmt c g l l.length).1)) (gR c (dg g)):=by
 have hll:=(bS.1 hl).2
 have hn:=(fx g).1
 have hC:=Lc c g l hg (by omega) hl
 have hcl:=mY c g l hg.com l.length
 have hcm:=mX (g:=g) hg.com l l.length
 have hrl:((List.range (dg g).nodes.length).map some).length=g.length:=by simp[hn]
 have hfit:lw 1 (((((List.range (dg g).nodes.length).map some).length:Nat):Int).toNat):=by rw[hrl];unfold lw;omega
 generalize (cmt c g l l.length).1=W at *
 have hil:=gT W
 have hol:=fun i=>ng g l (W.take i) []
 refine ab dR Tryz.func127 rfl rfl true 2 6 rfl rfl rfl rfl fun K hK hb1 hb2=>?_;simp only[ae,enc,Nat.reduceAdd]
 clear hb1 hb2
 (repeat' first|refine km ?_|refine sa fun xe hxe=>?_|refine sb (fun hq=>?_) fun hq=>?_|refine co (hC) ?_|exact aa)
 clear hC
 refine ah hK [] [1,3,4,22,23,24] (fun i:Nat=>⟨[(1,.ptr 6 0),(3,.ref 7),(4,.ref 8),(22,.lst (.int .i64) (bP W)),(23,.int .i64 W.length),(24,.int .i64 (i:Int))],H7 c (dg g) (.var 156 [.ptr 4 0,.lst (.int .i64) l])++[(7,.row 162 .odd (oddTo g l [] (W.take i))),(8,.row 4 .bool (dnF g ((oddTo g l [] (W.take i)).map (·.v))))],9⟩) (fun i=>i≤W.length) (fun i=>W.length-i) 0 (aX _) ?_ ?_
 ·have e:List.replicate ((((List.range (dg g).nodes.length).map some).length:Int).toNat) false=dnF g ((oddTo g l [] (W.take 0)).map (·.v)):=by
   rw[List.take_zero,hrl]
   exact(Np g).symm
  rw[←e,←hil]
  rfl
 intro i hi
 by_cases hlt:i<W.length
 ·obtain⟨w,hw⟩:∃w,W[i]?=some w:=⟨_,am hlt⟩
  have hwx:(bP W)[i]?=some (w:Int):=by rw[bP,bf,hw];rfl
  obtain⟨w1,w2,k,hk⟩:=hcm w (bn hw)
  have htk:W.take (i+1)=W.take i++[w]:=by
   obtain⟨h1,h2⟩:=aQ.1 hw
   rw[←h2];exact ca h1
  have hap:=uI g l (W.take i) [w] []
  rw[←htk] at hap
  have hoi:=hol i
  rw[bQ] at hoi
  have hoi2:(oddTo g l [] (W.take i)).length≤15000:=by
   refine cz hoi ?_
   simp only[dG,fh]
   exact cz (Nat.mul_le_mul (show min i W.length≤15 by omega) hgl) (by omega)
  obtain⟨n,hnn,hgn⟩:=ra hg hl w1 w2 hk
  have hL:=vX c g l w n hg hl w1 w2 hnn
  have hP:=vY c g hg (by omega) n k hgn
  have hkr:=(sR hk).2.1
  obtain⟨p0,hp0⟩:=md hgn
  have hpl:=wi g k
  have hpv:=I9 g k
  clear htk hol hcm
  generalize oddTo g l [] (W.take i)=os at *
  have hap:oddTo g l [] (W.take (i+1))=os++(ordW g l (os.map (·.v)) w).map fun v=>⟨v,(w:Int)⟩:=hap
  (repeat' first|refine km ?_|refine sa fun xe hxe=>?_|refine sb (fun hq=>?_) fun hq=>?_|refine co (hL) ?_|refine co (hP) ?_|exact aa)
  clear hL hP
  refine ah hK [] [1,3,4,6,7,9,22,23,24,41,42,43] (fun j:Nat=>⟨[(1,.ptr 6 0),(3,.ref 7),(4,.ref 8),(6,.int .i64 (w:Int)),(7,.hpo 0 (some n)),(9,.ptr 9 0),(22,.lst (.int .i64) (bP W)),(23,.int .i64 W.length),(24,.int .i64 (i:Int)),(41,.lst (.int .i64) (pst g k)),(42,.int .i64 (pst g k).length),(43,.int .i64 (j:Int))],H7 c (dg g) (.var 156 [.ptr 4 0,.lst (.int .i64) l])++[(7,.row 162 .odd os),(8,.row 4 .bool (dnF g (os.map (·.v)++qvx g k w (os.map (·.v)) j))),(9,.var 190 [.ref 10]),(10,.row 58 .vtx (qvx g k w (os.map (·.v)) j))],11⟩) (fun j=>j≤(pst g k).length) (fun j=>(pst g k).length-j) 0 (aX _) ?_ ?_
  ·rw[show qvx g k w (os.map (·.v)) 0=[] from rfl,gG]
   rfl
  intro j hj
  have hql:=Jc g k w (os.map (·.v)) j
  have hdl:=Bc g (os.map (·.v)++qvx g k w (os.map (·.v)) j)
  by_cases hjl:j<(pst g k).length
  ·obtain⟨x,hx⟩:∃x,(pst g k)[j]?=some x:=⟨_,am hjl⟩
   obtain⟨ii,rfl,v,hv,hpx⟩:=Mj hx
   have hsn:=Gh (w:=w) (os:=os.map (·.v)) hpx
   have hnew:=Jd hg (w:=w) (os:=os.map (·.v)) hpx
   have hiil:=(aQ.1 hv).1
   obtain⟨p,hp⟩:=md hv
   have hrg:=Mr (n:=(dg g).nodes.length) (i:=ii) (by omega)
   have hda:=Et (os:=os.map (·.v)++qvx g k w (os.map (·.v)) j) hv
   have hds:=HR hg (os:=os.map (·.v)++qvx g k w (os.map (·.v)) j) hv
   rw[bJ] at hds
   have hasc:=Cb hg k w (os.map (·.v)) (j+1)
   by_cases c1:v∈os.map (·.v)
   ·rw[decide_eq_true (bi.2 (.inl c1))] at hda
    rw[if_neg (fun h=>h.2 c1)] at hsn
    generalize hqq:qvx g k w (os.map (·.v)) j=qs at *
    (repeat' first|refine km ?_|refine sa fun xe hxe=>?_|refine sb (fun hq=>?_) fun hq=>?_|exact aa)
    (try any_goals(first|exact absurd trivial hq|exact absurd rfl hq|exact absurd hq (by omega)|(exfalso;simp at hq;done)))
    exact⟨j+1,by omega,by omega,by rw[hsn];rfl⟩
   ·rw[decide_eq_false (fun h=>by rcases bi.1 h with h|h;exact c1 h;exact hnew h)] at hda
    by_cases c2:2*(w:Int)-7≤v.round
    ·have c2p:k.round-6≤v.round:=by omega
     rw[if_pos ⟨c2,c1⟩] at hsn
     rw[hsn] at hasc
     have hPu:=Ig (qvx g k w (os.map (·.v)) j) v (by omega) hasc
     rw[←hsn] at hPu hds
     generalize hq2:qvx g k w (os.map (·.v)) (j+1)=qs2 at *
     generalize hqq:qvx g k w (os.map (·.v)) j=qs at *
     (repeat' first|refine km ?_|refine sa fun xe hxe=>?_|refine sb (fun hq=>?_) fun hq=>?_|refine co (hPu) ?_|exact aa)
     (try any_goals(first|exact absurd trivial hq|exact absurd rfl hq|exact absurd hq (by omega)|(exfalso;simp at hq;done)))
     exact⟨j+1,by omega,by omega,by rw[hq2,←hds];rfl⟩
    ·have c2p:¬k.round-6≤v.round:=by omega
     rw[if_neg (fun h=>c2 h.1)] at hsn
     generalize hqq:qvx g k w (os.map (·.v)) j=qs at *
     (repeat' first|refine km ?_|refine sa fun xe hxe=>?_|refine sb (fun hq=>?_) fun hq=>?_|exact aa)
     (try any_goals(first|exact absurd trivial hq|exact absurd rfl hq|exact absurd hq (by omega)|(exfalso;simp at hq;done)))
     exact⟨j+1,by omega,by omega,by rw[hsn];rfl⟩
  ·obtain rfl:j=(pst g k).length:=by omega
   have hend:=Jb (os:=os.map (·.v)) hk
   rw[hpv] at hend
   have hasc:=Cb hg k w (os.map (·.v)) (pst g k).length
   rw[hend] at hasc hql
   rw[hend]
   have hD:=HU (ordW g l (os.map (·.v)) w) (ordW g l (os.map (·.v)) w) (w:Int) (by omega) hasc (List.Perm.refl _) (E5 hasc)
   have hdd:(oddTo g l [] (W.take (i+1))).map (·.v)=os.map (·.v)++ordW g l (os.map (·.v)) w:=by
    rw[hap,cg,ep]
    congr 1
    exact List.map_id _
   have hml:((ordW g l (os.map (·.v)) w).map fun v=>(⟨v,(w:Int)⟩:Odd)).length=(ordW g l (os.map (·.v)) w).length:=by simp
   rw[←hdd]
   generalize hmm:((ordW g l (os.map (·.v)) w).map fun v=>(⟨v,(w:Int)⟩:Odd))=ms at *
   have hml2:ms.length≤g.length:=by omega
   cases hoe:ordW g l (os.map (·.v)) w with
   |nil=>
    rw[hoe] at hD hml
    rw[show qE []=qB [] from rfl] at hD
    (repeat' first|refine km ?_|refine sa fun xe hxe=>?_|refine sb (fun hq=>?_) fun hq=>?_|refine co (hD) ?_|exact aa)
    (try any_goals(first|exact absurd trivial hq|exact absurd rfl hq|exact absurd hq (by omega)|(exfalso;simp at hq;done)))
    exact⟨i+1,by omega,by omega,by rw[hap];rfl⟩
   |cons v s'=>
    rw[hoe] at hD hml
    have hE:qE (v::s')=qG []:=by unfold qE;rw[if_neg (by simp)]
    rw[hE] at hD
    (repeat' first|refine km ?_|refine sa fun xe hxe=>?_|refine sb (fun hq=>?_) fun hq=>?_|refine co (hD) ?_|exact aa)
    (try any_goals(first|exact absurd trivial hq|exact absurd rfl hq|exact absurd hq (by omega)|(exfalso;simp at hq;done)))
    exact⟨i+1,by omega,by omega,by rw[hap];rfl⟩
 ·obtain rfl:i=W.length:=by omega
  rw[iH]
  (repeat' first|refine km ?_|refine sa fun xe hxe=>?_|refine sb (fun hq=>?_) fun hq=>?_|exact aa)
  exact⟨rfl,rfl⟩
end Go.Proofs.YtpefhoohfkeflaaGreatDoor.Am
namespace Go.Proofs.YtpefhoohfkeflaaGreatDoor.Am
open Go
attribute [local irreducible] Mk ck Ari fK mQ jM cd cX i7 fC At ag wR
set_option maxRecDepth 10000
theorem Iz (v:Vtx):ag Tryz.prog 128 [de v] [] (.agg [.int .i64 v.round,.int .i64 v.author]) []:=by
 refine ab aj Tryz.func128 rfl rfl false 0 4 rfl rfl rfl rfl fun K hK hb1 hb2=>?_;simp only[ae,enc,Nat.reduceAdd]
 clear hb1 hb2
 (repeat' first|refine st ?_|refine sa fun xe hxe=>?_|refine sb (fun hq=>?_) fun hq=>?_|exact aa)
 exact⟨rfl,rfl⟩
theorem B1 {c:List Int}{g:List Vtx}(l:List Int)(h:CA c g l=true):(oddTo g l [] (cmt c g l l.length).1).map (fun o=>iD o.v)=ordS c g l:=by
 have e:=B0 g l (cmt c g l l.length).1 []
 rw[ordS,h,if_pos rfl,ordG,show ([]:List Vtx)=([]:List Odd).map (·.v) from rfl,←e,ep]
 rfl
theorem Iv (c:List Int)(l:List Int)(hc:comV c=true)(hl:leaS c l=true):ag Tryz.prog 127 [.agg [.ptr 4 0,.lst (.int .i64) l]] (gZ c ka) (.lst .odd []) (gZ c ka):=by
 have hC:=Il c l hc hl
 refine ab dR Tryz.func127 rfl rfl true 1 5 rfl rfl rfl rfl fun K hK hb1 hb2=>?_;simp only[ae,enc,Nat.reduceAdd]
 clear hb1 hb2
 (repeat' first|refine km ?_|refine sa fun xe hxe=>?_|refine sb (fun hq=>?_) fun hq=>?_|refine co (hC) ?_|exact aa)
 clear hC
 refine ah hK [] [1,3,4,22,23,24] (fun i:Nat=>⟨[(1,.ptr 5 0),(3,.ref 6),(4,.ref 7),(22,.lst (.int .i64) []),(23,.int .i64 0),(24,.int .i64 (i:Int))],O5 c ka (.var 156 [.ptr 4 0,.lst (.int .i64) l])++[(6,.row 162 .odd []),(7,.row 4 .bool [])],8⟩) (fun i=>i=0) (fun i=>i) 0 rfl ?_ ?_
 ·rfl
 rintro i rfl
 (repeat' first|refine km ?_|refine sa fun xe hxe=>?_|refine sb (fun hq=>?_) fun hq=>?_|exact aa)
 exact⟨rfl,rfl⟩
theorem ND (c:List Int)(g:List Vtx)(l:List Int)(hgl:g.length≤1000):ag Tryz.prog 92 [.lst (.int .i64) c,.lst .vtx g,.lst (.int .i64) l] [] (.lst .slt (ordS c g l)) []:=by
 cases hw:CA c g l
 ·have hN:=Lu c g l (by omega) hw
  have e:ordS c g l=[]:=by rw[ordS,hw];rfl
  rw[e]
  refine ab dR Tryz.func92 rfl rfl true 0 4 rfl rfl rfl rfl fun K hK hb1 hb2=>?_;simp only[ae,enc,Nat.reduceAdd]
  clear hb1 hb2
  (repeat' first|refine km ?_|refine sa fun xe hxe=>?_|refine sb (fun hq=>?_) fun hq=>?_|refine cr (hN) ?_|exact aa)
  exact⟨rfl,rfl⟩
 ·obtain⟨hg,hl⟩:graS c g=true∧leaS c l=true:=by simpa[CA] using hw
  have hok:=eZ hg
  have hll:=(bS.1 hl).2
  have hos:=B1 l hw
  have hol:=ng g l (cmt c g l l.length).1 []
  have hcl:=mY c g l hok.com l.length
  have hol2:(oddTo g l [] (cmt c g l l.length).1).length≤15000:=by
   refine cz hol ?_
   simp only[dG,fh]
   exact cz (Nat.mul_le_mul (show (cmt c g l l.length).1.length≤15 by omega) hgl) (by omega)
  clear hol
  cases g with
  |nil=>
   have hN:=Lt c l hok.com hl
   have hC:=Iv c l hok.com hl
   rw[A4 c l hok.com] at hos
   have e:ordS c [] l=[]:=hos.symm
   rw[e]
   refine ab dR Tryz.func92 rfl rfl true 0 4 rfl rfl rfl rfl fun K hK hb1 hb2=>?_;simp only[ae,enc,Nat.reduceAdd]
   clear hb1 hb2
   (repeat' first|refine km ?_|refine sa fun xe hxe=>?_|refine sb (fun hq=>?_) fun hq=>?_|refine cr (hN) ?_|refine co (hC) ?_|exact aa)
   refine ah hK [] [7,24,25,26] (fun i:Nat=>⟨[(7,.ref 4),(24,.lst .odd []),(25,.int .i64 0),(26,.int .i64 (i:Int))],[(0,.fvar 193 (.nod 1) ka.nodes),(1,.frow 181 (.hp 0) ka.rows),(4,.row 79 .slt [])],5⟩) (fun i=>i=0) (fun i=>i) 0 rfl rfl ?_
   rintro i rfl
   (repeat' first|refine km ?_|refine sa fun xe hxe=>?_|refine sb (fun hq=>?_) fun hq=>?_|exact aa)
   exact⟨rfl,rfl⟩
  |cons v g=>
   have hN:=Ls c v g l (by omega) hg hl
   have hC:=Lw c (v::g) l hok hgl hl
   rw[←hos]
   generalize oddTo (v::g) l [] (cmt c (v::g) l l.length).1=os at *
   refine ab dR Tryz.func92 rfl rfl true 0 4 rfl rfl rfl rfl fun K hK hb1 hb2=>?_;simp only[ae,enc,Nat.reduceAdd]
   clear hb1 hb2
   (repeat' first|refine km ?_|refine sa fun xe hxe=>?_|refine sb (fun hq=>?_) fun hq=>?_|refine cr (hN) ?_|refine co (hC) ?_|exact aa)
   clear hN hC
   refine ah hK [] [7,24,25,26] (fun i:Nat=>⟨[(7,.ref 4),(24,.lst .odd os),(25,.int .i64 os.length),(26,.int .i64 (i:Int))],[(0,.fvar 193 (.nod 1) (dg (v::g)).nodes),(1,.frow 181 (.hp 0) (dg (v::g)).rows),(4,.row 79 .slt ((os.take i).map fun o=>iD o.v))],5⟩) (fun i=>i≤os.length) (fun i=>os.length-i) 0 (aX _) rfl ?_
   intro i hi
   by_cases hlt:i<os.length
   ·have hxe:os[i]?=some os[i]:=am hlt
    have h3:os.take (i+1)=os.take i++[os[i]]:=ca hlt
    have hI:=Iz os[i].v
    have h4:(os.take (i+1)).map (fun o=>iD o.v)=(os.take i).map (fun o=>iD o.v)++[iD os[i].v]:=by rw[h3,cg];rfl
    have hal:((os.take i).map fun o=>iD o.v).length=i:=by simp;omega
    generalize hA:((os.take i).map fun o=>iD o.v)=A at *
    generalize os[i]=o at *
    (repeat' first|refine km ?_|refine sa fun xe hxe=>?_|refine sb (fun hq=>?_) fun hq=>?_|refine cr (hI) ?_|exact aa)
    exact⟨i+1,by omega,by omega,by rw[h4];rfl⟩
   ·obtain rfl:i=os.length:=by omega
    rw[iH]
    (repeat' first|refine km ?_|refine sa fun xe hxe=>?_|refine sb (fun hq=>?_) fun hq=>?_|exact aa)
    exact⟨rfl,rfl⟩
theorem Ke (w:Wrl)(m:Int)(hl:∀g∈w.views,g.length≤2000000):ag Tryz.prog 45 [bd w,.int .i64 m] [] (.lst .slt (wo w m)) []:=by
 have hV:=NE w hl
 refine ab dR Tryz.func45 rfl rfl true 0 4 rfl rfl rfl rfl fun K hK hb1 hb2=>?_;simp only[ae,enc,Nat.reduceAdd]
 clear hb1 hb2
 cases hw:lg w
 ·rw[hw] at hV
  have e:wo w m=[]:=by rw[wo,hw];rfl
  rw[e]
  (repeat' first|refine km ?_|refine sa fun xe hxe=>?_|refine sb (fun hq=>?_) fun hq=>?_|refine cr (hV) ?_|exact aa)
  exact⟨rfl,rfl⟩
 ·rw[hw] at hV
  have hok:=i6.1 hw
  have hvl:=hok.vlen
  cases hm:j5 m 0 ((w.com.length:Int)-1)
  ·have e:wo w m=[]:=by rw[wo,hw,hm];rfl
   have hb:¬(0≤m∧m≤(w.com.length:Int)-1):=fun h=>by rw[aC.2 h] at hm;cases hm
   rw[e]
   by_cases h0:m<0
   ·(repeat' first|refine km ?_|refine sa fun xe hxe=>?_|refine sb (fun hq=>?_) fun hq=>?_|refine cr (hV) ?_|exact aa)
    exact⟨rfl,rfl⟩
   ·(repeat' first|refine km ?_|refine sa fun xe hxe=>?_|refine sb (fun hq=>?_) fun hq=>?_|refine cr (hV) ?_|exact aa)
    exact⟨rfl,rfl⟩
  ·have hb:=aC.1 hm
   have e:wo w m=ordS w.com (w.views.getD m.toNat []) w.lead:=by rw[wo,hw,hm];rfl
   have hx:w.views[m.toNat]?=some (w.views.getD m.toNat []):=by rw[aq,am (by omega)];rfl
   have hgl:=hok.vl _ (bn hx)
   rw[e]
   generalize w.views.getD m.toNat []=g at *
   have hO:=ND w.com g w.lead (by omega)
   (repeat' first|refine km ?_|refine sa fun xe hxe=>?_|refine sb (fun hq=>?_) fun hq=>?_|refine cr (hV) ?_|refine cr (hO) ?_|exact aa)
   exact⟨rfl,rfl⟩
theorem F2 (c:List Int)(g:List Vtx)(l:List Int)(hgl:g.length≤1000):(ordS c g l).length≤1000000:=by
 cases hw:CA c g l
 ·rw[ordS,hw];simp
 ·obtain⟨hg,hl⟩:graS c g=true∧leaS c l=true:=by simpa[CA] using hw
  have hok:=eZ hg
  have hll:=(bS.1 hl).2
  have hol:=ng g l (cmt c g l l.length).1 []
  have hcl:=mY c g l hok.com l.length
  rw[←B1 l hw,az]
  refine cz hol ?_
  simp only[dG,fh]
  exact cz (Nat.mul_le_mul (show (cmt c g l l.length).1.length≤15 by omega) hgl) (by omega)
theorem Hk {w:Wrl}(hw:WOK w){m:Nat}(hm:m<w.com.length):wo w (m:Int)=ordS w.com (w.views.getD m []) w.lead:=by
 rw[wo,i6.2 hw,aC.2 (by omega)]
 rfl
theorem wM {w:Wrl}(hw:WOK w)(m:Int):(wo w m).length≤1000000:=by
 rw[wo]
 split
 ·rename_i h
  simp only[aB] at h
  have hb:=aC.1 h.2
  refine F2 _ _ _ ?_
  have:=hw.vl _ (ny hw (m:=m.toNat) (by omega))
  omega
 ·simp
end Go.Proofs.YtpefhoohfkeflaaGreatDoor.Am
namespace Go.Proofs.YtpefhoohfkeflaaGreatDoor.Am
open Go
attribute [local irreducible] Mk ck Ari fK mQ jM cd cX i7 fC At ag
set_option maxRecDepth 10000
theorem aG {x y:ByteArray}{K:Prop}(k:K)(h:x.size+y.size≤9223372036854775807:=by first|omega|(simp only[ByteArray.size_append,JZ,aO,bH,dG,az];omega)):ck (x.size+y.size≤9223372036854775807) K:=gj h k
theorem aF {b:Bool}{A B:Prop}(k:A)(h:b=true):jM b A B:=um (fun _=>k) fun h2=>by rw[h] at h2;cases h2
theorem aE {b:Bool}{A B:Prop}(k:B)(h:b=false):jM b A B:=um (fun h2=>by rw[h] at h2;cases h2) fun _=>k
theorem AF {x:ByteArray}{l:List UInt8}(h:x.data.toList=l):V.str x=V.str (bs l)∧([]:VH)=[]:=by
 subst h
 exact⟨rfl,rfl⟩
theorem Oo {n:Int}(h0:0≤n):UInt8.ofNat (48+n).toNat=UInt8.ofNat (48+n.toNat):=by rw[show (48+n).toNat=48+n.toNat by omega]
theorem Mw:∀(k:Nat) (n:Int),0≤n→n<10^(k+1)→k≤3→ag Tryz.prog 35 [.int .i64 n] [] (.str (bs (lR k n.toNat))) []:=by
 intro k
 induction k with
 |zero=>
  intro n h0 h1 _
  have h1:n<10:=by simpa using h1
  refine ab aj Tryz.func35 rfl rfl false 0 4 rfl rfl rfl rfl fun K hK hb1 hb2=>?_;simp only[ae,enc,Nat.reduceAdd]
  clear hb1 hb2
  (repeat' first|refine st ?_|refine sa fun xe hxe=>?_|refine sb (fun hq=>?_) fun hq=>?_|exact aa)
  refine AF ?_
  simp only[bB,eD,lR,Oo h0]
 |succ k ih=>
  intro n h0 h1 hk
  have hp:(10:Int)^(k+1+1)≤10000:=by
   have:k=0∨k=1∨k=2:=by omega
   rcases this with rfl|rfl|rfl<;>decide
  by_cases h10:n<10
  ·refine ab aj Tryz.func35 rfl rfl false 0 4 rfl rfl rfl rfl fun K hK hb1 hb2=>?_;simp only[ae,enc,Nat.reduceAdd]
   clear hb1 hb2
   (repeat' first|refine st ?_|refine sa fun xe hxe=>?_|refine sb (fun hq=>?_) fun hq=>?_|exact aa)
   refine AF ?_
   rw[lR,if_pos (by omega)]
   simp only[bB,eD,Oo h0]
  ·have ht:n.tdiv 10=n/10:=jH h0
   have hr:n.tmod 10=n % 10:=Int.tmod_eq_emod_of_nonneg h0
   have hI:=ih (n.tdiv 10) (by omega) (by rw[Int.pow_succ] at h1;omega) (by omega)
   have hl:=(sq k (n.tdiv 10).toNat).2
   have hd:lR (k+1) n.toNat=lR k (n.tdiv 10).toNat++[UInt8.ofNat (48+n.tmod 10).toNat]:=by
    rw[lR,if_neg (by omega),hr,ht,Oo (by omega),show (n/10).toNat=n.toNat/10 by omega,show (n % 10).toNat=n.toNat % 10 by omega]
   generalize lR k (n.tdiv 10).toNat=d at *
   refine ab aj Tryz.func35 rfl rfl false 0 4 rfl rfl rfl rfl fun K hK hb1 hb2=>?_;simp only[ae,enc,Nat.reduceAdd]
   clear hb1 hb2
   (repeat' first|((first|with_reducible refine aF ?_ (by assumption)|with_reducible refine aE ?_ (by assumption));conv=>whnf)|refine st ?_|refine sa fun xe hxe=>?_|refine sb (fun hq=>?_) fun hq=>?_|((with_reducible refine aG ?_)<;>conv=>whnf)|refine cr (hI) ?_|exact aa)
   refine AF ?_
   rw[hd]
   simp
theorem HI (c:UInt8){s:List UInt8}{f:Nat}{o:List (List UInt8)}(hf:f≤s.length)(h:aK c s=o++kl ((s.drop f).take (s.length-f)) (aK c (s.drop s.length))):aK c s=o++[s.drop f]:=by
 rw[h,List.drop_length,br (by simp)]
 simp[aK,kl]
theorem HJ {c:UInt8}{s:List UInt8}{f i:Nat}{o:List (List UInt8)}(hi:i<s.length)(hc:s[i]=c)(h:aK c s=o++kl ((s.drop f).take (i-f)) (aK c (s.drop i))):aK c s=(o++[(s.drop f).take (i-f)])++kl ((s.drop (i+1)).take (i+1-(i+1))) (aK c (s.drop (i+1))):=by
 rw[h,nQ hi,aK,if_pos hc,kr,List.take_zero,yv (lp c _),kl]
 simp
theorem KH {c:UInt8}{s:List UInt8}{f i:Nat}{o:List (List UInt8)}(hf:f≤i)(hi:i<s.length)(hc:s[i]≠c)(h:aK c s=o++kl ((s.drop f).take (i-f)) (aK c (s.drop i))):aK c s=o++kl ((s.drop f).take (i+1-f)) (aK c (s.drop (i+1))):=by
 rw[h,nQ hi,aK,if_neg hc,Dl _ _ _ (lp c _)]
 congr 2
 rw[show i+1-f=i-f+1 by omega,ca (by simp;omega)]
 simp[show f+(i-f)=i by omega]
theorem GC (s:List UInt8)(c:UInt8)(n:Int)(hn:n=c.toNat)(hl:s.length≤2000000):ag Tryz.prog 12 [.str (bs s),.int .u8 n] [] (.lst .str ((aK c s).map bs)) []:=by
 have hsz:(bs s).size=s.length:=rfl
 refine ab aj Tryz.func12 rfl rfl true 0 4 rfl rfl rfl rfl fun K hK hb1 hb2=>?_;simp only[ae,enc,Nat.reduceAdd]
 clear hb1 hb2
 (repeat' first|refine st ?_|refine sa fun xe hxe=>?_|refine sb (fun hq=>?_) fun hq=>?_|exact aa)
 refine ah hK [] [0,1,5,6,7] (fun x:List (List UInt8)×Nat×Nat=>⟨[(0,.str (bs s)),(1,.int .u8 n),(5,.ref 4),(6,.int .i64 (x.2.1:Int)),(7,.int .i64 (x.2.2:Int))],[(4,.row 9 .str (x.1.map bs))],5⟩) (fun x=>(x.2.1≤x.2.2∧x.2.2≤s.length)∧x.1.length≤x.2.2∧aK c s=x.1++kl ((s.drop x.2.1).take (x.2.2-x.2.1)) (aK c (s.drop x.2.2))) (fun x=>s.length-x.2.2) ([],0,0) ⟨⟨ax _,aX _⟩,ax _,by simp[yv (lp c s)]⟩ rfl ?_
 rintro⟨o,f,i⟩ ⟨⟨hf,hi⟩,ho,hc⟩
 dsimp only at hf hi ho hc⊢
 have hol:(o.map bs).length=o.length:=az ..
 by_cases hlt:i<s.length
 ·have hx:s.getD (i:Int).toNat 0=s[i]:=by
   rw[mP,aq,am hlt]
   rfl
  by_cases hxc:s[i]=c
  ·have hh:=HJ hlt hxc hc
   have hxn:(((s.getD (i:Int).toNat 0).toNat:Nat):Int)=n:=by rw[hx,hxc,hn]
   have he:(bs s).extract f i=bs ((s.drop f).take (i-f)):=lk s f i
   have hm:(o++[(s.drop f).take (i-f)]).map bs=o.map bs++[(bs s).extract f i]:=by rw[he,cg];rfl
   generalize hO:o.map bs=O at *
   (repeat' first|refine st ?_|refine sa fun xe hxe=>?_|refine sb (fun hq=>?_) fun hq=>?_|exact aa)
   refine⟨(o++[(s.drop f).take (i-f)],i+1,i+1),⟨⟨by dsimp only;omega,by dsimp only;omega⟩,by simp;omega,hh⟩,by dsimp only;omega,?_⟩
   dsimp only
   rw[hm]
   rfl
  ·have hh:=KH hf hlt hxc hc
   have hxn:¬(((s.getD (i:Int).toNat 0).toNat:Nat):Int)=n:=by
    rw[hx,hn]
    intro h
    exact hxc (UInt8.toNat_inj.1 (by omega))
   (repeat' first|refine st ?_|refine sa fun xe hxe=>?_|refine sb (fun hq=>?_) fun hq=>?_|exact aa)
   exact⟨(o,f,i+1),⟨⟨by dsimp only;omega,by dsimp only;omega⟩,by dsimp only;omega,hh⟩,by dsimp only;omega,rfl⟩
 ·obtain rfl:i=s.length:=by omega
  have he:=HI c hf hc
  have hm:(aK c s).map bs=o.map bs++[(bs s).extract f s.length]:=by
   rw[he,cg,lk,br (by simp)]
   rfl
  rw[hm]
  generalize hO:o.map bs=O at *
  (repeat' first|refine st ?_|refine sa fun xe hxe=>?_|refine sb (fun hq=>?_) fun hq=>?_|exact aa)
  exact⟨rfl,rfl⟩
theorem oU {w:List UInt8}(h:¬(1≤w.length∧w.length≤3∧w.all uo=true)):s7 w= -1:=if_neg h
theorem wY {w:List UInt8}{i:Nat}(hi:i<w.length)(hd:uo w[i]=false):w.all uo=false:=by
 rw[List.all_eq_false]
 exact⟨_,be hi,by simpa using hd⟩
theorem GL (ws:List (List UInt8))(k:Nat)(hl:ws.length≤2000000):ag Tryz.prog 25 [.lst .str (ws.map bs),.int .i64 (k:Int)] [] (.int .i64 (cE ws k)) []:=by
 have hml:(ws.map bs).length=ws.length:=az ..
 unfold cE
 by_cases hk:k<ws.length
 ·have hx:(ws.map bs)[k]?=some (bs (ws.getD k [])):=by rw[bf,aq,am hk];rfl
  generalize ws.getD k []=w at *
  have hsz:(bs w).size=w.length:=rfl
  have hI:=nF ((bs w).size:Nat) 1 3
  cases hn:j5 ((bs w).size:Nat) 1 3
  ·rw[hn] at hI
   have h13:¬(1≤w.length∧w.length≤3):=fun h=>by rw[aC.2 (by omega)] at hn;cases hn
   rw[oU fun h=>h13 ⟨h.1,h.2.1⟩]
   generalize hO:ws.map bs=O at *
   refine ab aj Tryz.func25 rfl rfl false 0 4 rfl rfl rfl rfl fun K hK hb1 hb2=>?_;simp only[ae,enc,Nat.reduceAdd]
   clear hb1 hb2
   (repeat' first|refine st ?_|refine sa fun xe hxe=>?_|refine sb (fun hq=>?_) fun hq=>?_|refine cr (hI) ?_|exact aa)
   exact⟨rfl,rfl⟩
  ·rw[hn] at hI
   have h13:=aC.1 hn
   have hno:∀i (h:i<w.length),uo w[i]=false→s7 w= -1:=fun i h hd=>oU fun h2=>by rw[wY h hd] at h2;cases h2.2.2
   have hyes:w.all uo=true→s7 w=mq w:=fun h=>if_pos ⟨by omega,by omega,h⟩
   generalize hO:ws.map bs=O at *
   refine ab aj Tryz.func25 rfl rfl false 0 4 rfl rfl rfl rfl fun K hK hb1 hb2=>?_;simp only[ae,enc,Nat.reduceAdd]
   clear hb1 hb2
   (repeat' first|refine st ?_|refine sa fun xe hxe=>?_|refine sb (fun hq=>?_) fun hq=>?_|refine cr (hI) ?_|exact aa)
   refine ah hK [] [0,1,5,6] (fun i:Nat=>⟨[(0,.lst .str O),(1,.int .i64 (k:Int)),(5,.int .i64 (mq (w.take i))),(6,.int .i64 (i:Int))],[],4⟩) (fun i=>i≤w.length∧(w.take i).all uo=true) (fun i=>w.length-i) 0 ⟨aX _,rfl⟩ rfl ?_
   rintro i ⟨hi,ha⟩
   by_cases hlt:i<w.length
   ·have hg:w.getD (i:Int).toNat 0=w[i]:=by
     rw[mP,aq,am hlt]
     rfl
    have hgb:((bs w).data.toList.getD (i:Int).toNat 0).toNat=(w.getD (i:Int).toNat 0).toNat:=rfl
    have ht:w.take (i+1)=w.take i++[w[i]]:=ca hlt
    have hb:=wd _ ha
    have hp:(10:Int)^(w.take i).length≤1000:=by
     have:(w.take i).length=0∨(w.take i).length=1∨(w.take i).length=2:=by rw[bQ];omega
     rcases this with h|h|h<;>rw[h]<;>decide
    cases hd:uo w[i]
    ·rw[hno i hlt hd]
     simp only[uo,nO,decide_eq_false_iff_not] at hd
     rw[←hg] at hd
     generalize mq (w.take i)=z at *
     by_cases hlo:(w.getD (i:Int).toNat 0).toNat<48
     ·(repeat' first|refine st ?_|refine sa fun xe hxe=>?_|refine sb (fun hq=>?_) fun hq=>?_|exact aa)
      exact⟨rfl,rfl⟩
     ·(repeat' first|refine st ?_|refine sa fun xe hxe=>?_|refine sb (fun hq=>?_) fun hq=>?_|exact aa)
      exact⟨rfl,rfl⟩
    ·have hn1:=p8 (w.take i) w[i]
     have ha1:(w.take (i+1)).all uo=true:=by rw[ht,List.all_append,ha];simp[hd]
     rw[←ht,←hg] at hn1
     simp only[uo,aB,decide_eq_true_eq] at hd
     rw[←hg] at hd
     generalize mq (w.take i)=z at *
     (repeat' first|refine st ?_|refine sa fun xe hxe=>?_|refine sb (fun hq=>?_) fun hq=>?_|exact aa)
     refine⟨i+1,⟨by omega,ha1⟩,by omega,?_⟩
     rw[hn1]
     rfl
   ·obtain rfl:i=w.length:=by omega
    rw[iH] at *
    rw[hyes ha]
    generalize mq w=z at *
    (repeat' first|refine st ?_|refine sa fun xe hxe=>?_|refine sb (fun hq=>?_) fun hq=>?_|exact aa)
    exact⟨rfl,rfl⟩
 ·have e:ws.getD k []=[]:=by rw[aq,dP (by omega)];rfl
  rw[e,oU (by simp)]
  generalize hO:ws.map bs=O at *
  refine ab aj Tryz.func25 rfl rfl false 0 4 rfl rfl rfl rfl fun K hK hb1 hb2=>?_;simp only[ae,enc,Nat.reduceAdd]
  clear hb1 hb2
  (repeat' first|refine st ?_|refine sa fun xe hxe=>?_|refine sb (fun hq=>?_) fun hq=>?_|exact aa)
  exact⟨rfl,rfl⟩
theorem jY (n:Int)(h0:0≤n)(h1:n<10000):ag Tryz.prog 35 [.int .i64 n] [] (.str (bs (aR n))) []:=Mw 3 n h0 (by omega) (by omega)
theorem MH (w:Wrl)(hw:WOK w):ag Tryz.prog 34 [bd w] [] (.str (bs (nG w))) []:=by
 have hpl:=hw.plen
 have hcl:=hw.len
 refine ab aj Tryz.func34 rfl rfl false 0 4 rfl rfl rfl rfl fun K hK hb1 hb2=>?_;simp only[ae,enc,Nat.reduceAdd]
 clear hb1 hb2
 (repeat' first|refine st ?_|refine sa fun xe hxe=>?_|refine sb (fun hq=>?_) fun hq=>?_|exact aa)
 refine ah hK [] [1,3,4] (fun i:Nat=>⟨[(1,.ptr 4 0),(3,.str (bs (cR w i))),(4,.int .i64 (i:Int))],[(4,.var 31 (bd w).cells)],5⟩) (fun i=>i≤w.props.length) (fun i=>w.props.length-i) 0 (aX _) rfl ?_
 intro i hi
 have hol:=kQ w i
 by_cases hlt:i<w.props.length
 ·have hx:w.props[i]?=some (w.props.getD i p0):=by rw[aq,am hlt];rfl
  have hpm:w.props.getD i p0∈w.props:=bn hx
  have hv:=bG (hw.pv _ hpm).1
  have hm:=hw.mem _ hpm
  have hs:cR w (i+1)=cR w i++ua i (w.props.getD i p0):=rfl
  have d1:=jY (i:Int) (by omega) (by omega)
  have l1:=(aP (i:Int)).2
  generalize w.props.getD i p0=p at *
  have d2:=jY p.v.round (by omega) (by omega)
  have d3:=jY p.v.author (by omega) (by omega)
  have d4:=jY p.v.digest (by omega) (by omega)
  have d5:=jY (p.members.length:Nat) (by omega) (by omega)
  have l2:=(aP p.v.round).2
  have l3:=(aP p.v.author).2
  have l4:=(aP p.v.digest).2
  have l5:=(aP (p.members.length:Nat)).2
  generalize cR w i=o at *
  have hb:∀x1 x2 x3 x4 x5:List UInt8,aR (i:Int)=x1→aR p.v.round=x2→aR p.v.author=x3→aR p.v.digest=x4→aR (p.members.length:Nat)=x5→bs o++bs x1++⟨#[32]⟩++bs x2++⟨#[46]⟩++bs x3++⟨#[32]⟩++bs x4++⟨#[32,118,111,116,101,115,32]⟩++bs x5++⟨#[10]⟩=bs (cR w (i+1)):=by
   rintro x1 x2 x3 x4 x5 rfl rfl rfl rfl rfl
   rw[hs]
   apply iW
   simp[ua]
  have hb:=hb _ _ _ _ _ rfl rfl rfl rfl rfl
  generalize aR (i:Int)=x1 at *
  generalize aR p.v.round=x2 at *
  generalize aR p.v.author=x3 at *
  generalize aR p.v.digest=x4 at *
  generalize aR (p.members.length:Nat)=x5 at *
  (repeat' first|((first|with_reducible refine aF ?_ (by assumption)|with_reducible refine aE ?_ (by assumption));conv=>whnf)|refine st ?_|refine sa fun xe hxe=>?_|refine sb (fun hq=>?_) fun hq=>?_|((with_reducible refine aG ?_)<;>conv=>whnf)|refine cr (d1) ?_|refine cr (d2) ?_|refine cr (d3) ?_|refine cr (d4) ?_|refine cr (d5) ?_|exact aa)
  refine⟨i+1,by omega,by omega,?_⟩
  rw[←hb]
  rfl
 ·obtain rfl:i=w.props.length:=by omega
  show At _ _ _ _ _ _
  (repeat' first|refine st ?_|refine sa fun xe hxe=>?_|refine sb (fun hq=>?_) fun hq=>?_|exact aa)
  exact⟨rfl,rfl⟩
theorem MK (l:List Slt)(hl:∀s∈l,(0≤s.round∧s.round≤30)∧0≤s.author∧s.author<7)(hll:l.length≤1000000):ag Tryz.prog 36 [.lst .slt l] [] (.str (bs (bR l))) []:=by
 refine ab aj Tryz.func36 rfl rfl false 0 4 rfl rfl rfl rfl fun K hK hb1 hb2=>?_;simp only[ae,enc,Nat.reduceAdd]
 clear hb1 hb2
 (repeat' first|refine st ?_|refine sa fun xe hxe=>?_|refine sb (fun hq=>?_) fun hq=>?_|exact aa)
 refine ah hK [] [0,3,4] (fun i:Nat=>⟨[(0,.lst .slt l),(3,.str (bs (bR (l.take i)))),(4,.int .i64 (i:Int))],[],4⟩) (fun i=>i≤l.length) (fun i=>l.length-i) 0 (aX _) rfl ?_
 intro i hi
 have hol:=ft (l.take i)
 rw[bQ,mO hi] at hol
 by_cases hlt:i<l.length
 ·have hx:l[i]?=some l[i]:=am hlt
  have hs:bR (l.take (i+1))=bR (l.take i)++jx l[i]:=by rw[ca hlt,jh]
  have hb:=hl _ (be hlt)
  generalize l[i]=p at *
  have d2:=jY p.round (by omega) (by omega)
  have d3:=jY p.author (by omega) (by omega)
  have l2:=(aP p.round).2
  have l3:=(aP p.author).2
  generalize bR (l.take i)=o at *
  have hb:∀x2 x3:List UInt8,aR p.round=x2→aR p.author=x3→bs o++⟨#[32]⟩++bs x2++⟨#[46]⟩++bs x3=bs (bR (l.take (i+1))):=by
   rintro x2 x3 rfl rfl
   rw[hs]
   apply iW
   simp[jx]
  have hb:=hb _ _ rfl rfl
  generalize aR p.round=x2 at *
  generalize aR p.author=x3 at *
  (repeat' first|((first|with_reducible refine aF ?_ (by assumption)|with_reducible refine aE ?_ (by assumption));conv=>whnf)|refine st ?_|refine sa fun xe hxe=>?_|refine sb (fun hq=>?_) fun hq=>?_|((with_reducible refine aG ?_)<;>conv=>whnf)|refine cr (d2) ?_|refine cr (d3) ?_|exact aa)
  refine⟨i+1,by omega,by omega,?_⟩
  rw[←hb]
  rfl
 ·obtain rfl:i=l.length:=by omega
  rw[iH]
  (repeat' first|refine st ?_|refine sa fun xe hxe=>?_|refine sb (fun hq=>?_) fun hq=>?_|exact aa)
  exact⟨rfl,rfl⟩
theorem sT {w:Wrl}(hw:WOK w)(m:Nat):(linO w m).length≤10000011:=by
 have h1:=aP (m:Int)
 have h2:=ft (wo w m)
 have h3:=wM hw (m:Int)
 simp only[linO,aO,bH,dG]
 omega
theorem jg {w:Wrl}(hw:WOK w):∀n,(outOs w n).length≤10000011*n
 |0=>by simp[outOs]
 |n+1=>by
  have h1:=jg hw n
  have h2:=sT hw n
  unfold outOs
  split
  ·omega
  ·rw[aO]
   omega
theorem MF (w:Wrl)(hw:WOK w):ag Tryz.prog 14 [bd w] [] (.str (bs (outO w))) []:=by
 have hcl:=hw.len
 have hvl:=hw.vlen
 refine ab aj Tryz.func14 rfl rfl false 0 4 rfl rfl rfl rfl fun K hK hb1 hb2=>?_;simp only[ae,enc,Nat.reduceAdd]
 clear hb1 hb2
 (repeat' first|refine st ?_|refine sa fun xe hxe=>?_|refine sb (fun hq=>?_) fun hq=>?_|exact aa)
 refine ah hK [] [1,3,4] (fun i:Nat=>⟨[(1,.ptr 4 0),(3,.str (bs (outOs w i))),(4,.int .i64 (i:Int))],[(4,.var 31 (bd w).cells)],5⟩) (fun i=>i≤w.com.length) (fun i=>w.com.length-i) 0 (aX _) rfl ?_
 intro i hi
 have hol:=jg hw i
 by_cases hlt:i<w.com.length
 ·by_cases hb:(i:Int)=w.bad
  ·have hs:outOs w (i+1)=outOs w i:=by rw[outOs,if_pos hb]
   generalize outOs w i=o at *
   (repeat' first|refine st ?_|refine sa fun xe hxe=>?_|refine sb (fun hq=>?_) fun hq=>?_|exact aa)
   refine⟨i+1,by omega,by omega,?_⟩
   rw[hs]
   rfl
  ·have hs:outOs w (i+1)=outOs w i++linO w i:=by rw[outOs,if_neg hb]
   have hx:w.views[i]?=some (w.views.getD i []):=by rw[aq,am (by omega)];rfl
   have hgl:=hw.vl _ (bn hx)
   have hO:=NZ w.com (w.views.getD i []) w.lead (by omega)
   rw[←Hk hw hlt] at hO
   have hwl:=wM hw (i:Int)
   have hS:=MK _ (Cy hw (i:Int)) hwl
   have hsl:=ft (wo w (i:Int))
   have d1:=jY (i:Int) (by omega) (by omega)
   have l1:=(aP (i:Int)).2
   generalize outOs w i=o at *
   generalize w.views.getD i []=g at *
   have hb2:∀x1 x2:List UInt8,aR (i:Int)=x1→bR (wo w i)=x2→bs o++⟨#[111,114,100,101,114,32]⟩++bs x1++bs x2++⟨#[10]⟩=bs (outOs w (i+1)):=by
    rintro x1 x2 rfl rfl
    rw[hs]
    apply iW
    simp[linO]
   have hb2:=hb2 _ _ rfl rfl
   generalize aR (i:Int)=x1 at *
   generalize bR (wo w i)=x2 at *
   generalize wo w i=sl at *
   (repeat' first|((first|with_reducible refine aF ?_ (by assumption)|with_reducible refine aE ?_ (by assumption));conv=>whnf)|refine st ?_|refine sa fun xe hxe=>?_|refine sb (fun hq=>?_) fun hq=>?_|((with_reducible refine aG ?_)<;>conv=>whnf)|refine cr (d1) ?_|refine cr (hO) ?_|refine cr (hS) ?_|exact aa)
   refine⟨i+1,by omega,by omega,?_⟩
   rw[←hb2]
   rfl
 ·obtain rfl:i=w.com.length:=by omega
  show At _ _ _ _ _ _
  (repeat' first|refine st ?_|refine sa fun xe hxe=>?_|refine sb (fun hq=>?_) fun hq=>?_|exact aa)
  exact⟨rfl,rfl⟩
theorem My (r d:Int):ag Tryz.prog 30 [.int .i64 r,.int .i64 d] [] (de (lx r d)) []:=by
 unfold lx
 refine ab aj Tryz.func30 rfl rfl true 0 4 rfl rfl rfl rfl fun K hK hb1 hb2=>?_;simp only[ae,enc,Nat.reduceAdd]
 clear hb1 hb2
 by_cases hr:0<r
 ·rw[if_pos hr]
  (repeat' first|refine st ?_|refine sa fun xe hxe=>?_|refine sb (fun hq=>?_) fun hq=>?_|exact aa)
  exact⟨rfl,rfl⟩
 ·rw[if_neg hr]
  (repeat' first|refine st ?_|refine sa fun xe hxe=>?_|refine sb (fun hq=>?_) fun hq=>?_|exact aa)
  exact⟨rfl,rfl⟩
theorem Ju:ag Tryz.prog 11 [] [] (bd MW) []:=by
 have hN:=GK [1,1,1,1] [0,1,2,0,1,2,0,1] 3 (by decide)
 rw[show iP [1,1,1,1] [0,1,2,0,1,2,0,1] 3=true by decide+kernel,if_pos rfl] at hN
 have hN:ag Tryz.prog 24 [.lst (.int .i64) [1,1,1,1],.lst (.int .i64) [0,1,2,0,1,2,0,1],.int .i64 3] [] (.tup [bd MW,.bool true]) []:=hN
 generalize MW=w at *
 refine ab aj Tryz.func11 rfl rfl true 0 4 rfl rfl rfl rfl fun K hK hb1 hb2=>?_;simp only[ae,enc,Nat.reduceAdd]
 clear hb1 hb2
 (repeat' first|refine st ?_|refine sa fun xe hxe=>?_|refine sb (fun hq=>?_) fun hq=>?_|refine cr (hN) ?_|exact aa)
 exact⟨rfl,rfl⟩
theorem J6 (k c:List UInt8):((bs k).toList==(bs c).toList)=decide (k=c):=by
 rw[AZ,AZ,eo]
 simp
set_option maxHeartbeats 4000000 in
theorem ME (w:Wrl)(l:List UInt8)(hw:WOK w)(hl:l.length≤600):ag Tryz.prog 13 [bd w,.str (bs l)] [] (.tup [bd (bU w (aK 32 l)),.str (bs (ee w (aK 32 l)))]) []:=by
 have hC:=GC l 32 32 rfl (by omega)
 have hle:=iY 32 l
 have hlen:=eI 32 l
 generalize aK 32 l=ws at *
 have h1:=GL ws 1 (by omega)
 have h2:=GL ws 2 (by omega)
 have hx:(ws.map bs)[(0:Int).toNat]?=some (bs (ws.getD 0 [])):=by show (ws.map bs)[0]?=_;rw[bf,aq,am (by omega)];rfl
 have hml:(ws.map bs).length=ws.length:=az ..
 have hbd:=BY (ws.getD 1 [])
 have hbd2:=BY (ws.getD 2 [])
 have hbd:-1≤cE ws 1∧cE ws 1≤999:=hbd
 have hbd2:-1≤cE ws 2∧cE ws 2≤999:=hbd2
 unfold bU ee
 generalize cE ws 1=a at *
 generalize cE ws 2=b at *
 generalize ws.getD 0 []=k at *
 generalize ws.map bs=O at *
 have hcl:=hw.len
 refine ab aj Tryz.func13 rfl rfl true 0 4 rfl rfl rfl rfl fun K hK hb1 hb2=>?_;simp only[ae,enc,Nat.reduceAdd]
 clear hb1 hb2
 have e1:=J6 k Da
 by_cases k1:k=Da
 ·rw[if_pos k1,if_pos (show eN k from .inl k1)]
  rw[decide_eq_true k1] at e1
  have hP:=AA w a b hw
  generalize eS w a b=u at *
  (repeat' first|((first|with_reducible refine aF ?_ (by assumption)|with_reducible refine aE ?_ (by assumption));conv=>whnf)|refine st ?_|refine sa fun xe hxe=>?_|refine sb (fun hq=>?_) fun hq=>?_|((with_reducible refine aG ?_)<;>conv=>whnf)|refine cr (hC) ?_|refine cr (h1) ?_|refine cr (h2) ?_|refine cr (hP) ?_|exact aa)
  exact⟨rfl,rfl⟩
 rw[decide_eq_false k1] at e1
 have e2:=J6 k Db
 by_cases k2:k=Db
 ·rw[if_neg k1,if_pos k2,if_pos (show eN k from .inr (.inl k2))]
  rw[decide_eq_true k2] at e2
  have hP:=AG w a b hw
  generalize e9 w a b=u at *
  (repeat' first|((first|with_reducible refine aF ?_ (by assumption)|with_reducible refine aE ?_ (by assumption));conv=>whnf)|refine st ?_|refine sa fun xe hxe=>?_|refine sb (fun hq=>?_) fun hq=>?_|((with_reducible refine aG ?_)<;>conv=>whnf)|refine cr (hC) ?_|refine cr (h1) ?_|refine cr (h2) ?_|refine cr (hP) ?_|exact aa)
  exact⟨rfl,rfl⟩
 rw[decide_eq_false k2] at e2
 have e3:=J6 k C8
 by_cases k3:k=C8
 ·rw[if_neg k1,if_neg k2,if_pos k3,if_pos (show eN k from .inr (.inr (.inl k3)))]
  rw[decide_eq_true k3] at e3
  have hP:=Av w a b hw
  generalize dh w a b=u at *
  (repeat' first|((first|with_reducible refine aF ?_ (by assumption)|with_reducible refine aE ?_ (by assumption));conv=>whnf)|refine st ?_|refine sa fun xe hxe=>?_|refine sb (fun hq=>?_) fun hq=>?_|((with_reducible refine aG ?_)<;>conv=>whnf)|refine cr (hC) ?_|refine cr (h1) ?_|refine cr (h2) ?_|refine cr (hP) ?_|exact aa)
  exact⟨rfl,rfl⟩
 rw[decide_eq_false k3] at e3
 have e4:=J6 k C9
 by_cases k4:k=C9
 ·rw[if_neg k1,if_neg k2,if_neg k3,if_pos k4,if_pos (show eN k from .inr (.inr (.inr (.inl k4))))]
  rw[decide_eq_true k4] at e4
  have hV:=My a b
  have hP:=GI w (lx a b) hw (by unfold lx;split<;>simp)
  generalize iR w (lx a b)=u at *
  generalize lx a b=v at *
  (repeat' first|((first|with_reducible refine aF ?_ (by assumption)|with_reducible refine aE ?_ (by assumption));conv=>whnf)|refine st ?_|refine sa fun xe hxe=>?_|refine sb (fun hq=>?_) fun hq=>?_|((with_reducible refine aG ?_)<;>conv=>whnf)|refine cr (hC) ?_|refine cr (h1) ?_|refine cr (h2) ?_|refine cr (hV) ?_|refine cr (hP) ?_|exact aa)
  exact⟨rfl,rfl⟩
 rw[decide_eq_false k4] at e4
 have e5:=J6 k C6
 by_cases k5:k=C6
 ·rw[if_neg k1,if_neg k2,if_neg k3,if_neg k4,if_pos k5,if_pos (show eN k from .inr (.inr (.inr (.inr (.inl k5)))))]
  rw[decide_eq_true k5] at e5
  have hP:=NW w ⟨5,0,a,v0⟩ hw (by simp[v0])
  have hP:ag Tryz.prog 31 [bd w,.agg [.int .i64 5,.int .i64 0,.int .i64 a,.int .i64 0,.int .i64 0,.lst (.int .i64) [],.int .i64 0]] [] (bd (iQ w a)) []:=hP
  generalize iQ w a=u at *
  (repeat' first|((first|with_reducible refine aF ?_ (by assumption)|with_reducible refine aE ?_ (by assumption));conv=>whnf)|refine st ?_|refine sa fun xe hxe=>?_|refine sb (fun hq=>?_) fun hq=>?_|((with_reducible refine aG ?_)<;>conv=>whnf)|refine cr (hC) ?_|refine cr (h1) ?_|refine cr (h2) ?_|refine cr (hP) ?_|exact aa)
  exact⟨rfl,rfl⟩
 rw[decide_eq_false k5] at e5
 have e6:=J6 k C7
 have hI:=nF a 0 12
 by_cases k6:k=C7
 ·rw[if_neg k1,if_neg k2,if_neg k3,if_neg k4,if_neg k5,if_pos k6,if_pos (show eN k from .inr (.inr (.inr (.inr (.inr k6)))))]
  rw[decide_eq_true k6] at e6
  by_cases hr:0≤a∧a≤12
  ·rw[aC.2 hr] at hI
   rw[if_pos hr]
   have hP:=Jm w a.toNat hw (by omega)
   rw[Int.toNat_of_nonneg hr.1] at hP
   generalize aU w a.toNat=u at *
   (repeat' first|((first|with_reducible refine aF ?_ (by assumption)|with_reducible refine aE ?_ (by assumption));conv=>whnf)|refine st ?_|refine sa fun xe hxe=>?_|refine sb (fun hq=>?_) fun hq=>?_|((with_reducible refine aG ?_)<;>conv=>whnf)|refine cr (hC) ?_|refine cr (h1) ?_|refine cr (h2) ?_|refine cr (hI) ?_|refine cr (hP) ?_|exact aa)
   exact⟨rfl,rfl⟩
  ·have hv:j5 a 0 12=false:=by
    cases h:j5 a 0 12
    ·rfl
    ·exact absurd (aC.1 h) hr
   rw[hv] at hI
   rw[if_neg hr]
   (repeat' first|((first|with_reducible refine aF ?_ (by assumption)|with_reducible refine aE ?_ (by assumption));conv=>whnf)|refine st ?_|refine sa fun xe hxe=>?_|refine sb (fun hq=>?_) fun hq=>?_|((with_reducible refine aG ?_)<;>conv=>whnf)|refine cr (hC) ?_|refine cr (h1) ?_|refine cr (h2) ?_|refine cr (hI) ?_|exact aa)
   exact⟨rfl,rfl⟩
 rw[decide_eq_false k6] at e6
 rw[if_neg k1,if_neg k2,if_neg k3,if_neg k4,if_neg k5,if_neg k6,if_neg (show¬eN k from fun h=>by rcases h with h|h|h|h|h|h<;>contradiction)]
 have e7:=J6 k kf
 by_cases k7:k=kf
 ·rw[if_pos k7]
  rw[decide_eq_true k7] at e7
  have hP:=MH w hw
  generalize nG w=u at *
  (repeat' first|((first|with_reducible refine aF ?_ (by assumption)|with_reducible refine aE ?_ (by assumption));conv=>whnf)|refine st ?_|refine sa fun xe hxe=>?_|refine sb (fun hq=>?_) fun hq=>?_|((with_reducible refine aG ?_)<;>conv=>whnf)|refine cr (hC) ?_|refine cr (h1) ?_|refine cr (h2) ?_|refine cr (hP) ?_|exact aa)
  exact⟨rfl,rfl⟩
 ·rw[if_neg k7]
  rw[decide_eq_false k7] at e7
  (repeat' first|((first|with_reducible refine aF ?_ (by assumption)|with_reducible refine aE ?_ (by assumption));conv=>whnf)|refine st ?_|refine sa fun xe hxe=>?_|refine sb (fun hq=>?_) fun hq=>?_|((with_reducible refine aG ?_)<;>conv=>whnf)|refine cr (hC) ?_|refine cr (h1) ?_|refine cr (h2) ?_|exact aa)
  exact⟨rfl,rfl⟩
theorem GH (t:List UInt8)(ht:t.length≤2000000):ag Tryz.prog 6 [.str (bs t)] [] (.str (bs (exT t))) []:=by
 have hsz:(bs t).size=t.length:=rfl
 unfold exT
 by_cases h6:600<t.length
 ·rw[if_pos h6]
  refine ab aj Tryz.func6 rfl rfl false 0 4 rfl rfl rfl rfl fun K hK hb1 hb2=>?_;simp only[ae,enc,Nat.reduceAdd]
  clear hb1 hb2
  (repeat' first|refine st ?_|refine sa fun xe hxe=>?_|refine sb (fun hq=>?_) fun hq=>?_|exact aa)
  exact⟨rfl,rfl⟩
 rw[if_neg h6]
 have hC:=GC t 10 10 rfl (by omega)
 have hle:=iY 10 t
 have hlen:=eI 10 t
 have hmem:=gb 10 t
 generalize aK 10 t=ls at *
 have hml:(ls.map bs).length=ls.length:=az ..
 have hN:=Ju
 rw[List.dropLast_eq_take]
 refine ab aj Tryz.func6 rfl rfl false 0 4 rfl rfl rfl rfl fun K hK hb1 hb2=>?_;simp only[ae,enc,Nat.reduceAdd]
 clear hb1 hb2
 (repeat' first|refine st ?_|refine sa fun xe hxe=>?_|refine sb (fun hq=>?_) fun hq=>?_|refine cr (hC) ?_|refine cr (hN) ?_|exact aa)
 refine ah hK [] [3,4,5,6] (fun i:Nat=>⟨[(3,.ptr 4 0),(4,.str (bs (bT (ls.take i)).2)),(5,.lst .str (ls.map bs)),(6,.int .i64 (i:Int))],[(4,.var 31 (bd (bT (ls.take i)).1).cells)],5⟩) (fun i=>i+1≤ls.length) (fun i=>ls.length-i) 0 (by omega) rfl ?_
 intro i hi
 have hol:=tq (ls.take i)
 rw[bQ,mO (by omega)] at hol
 have hok:=o9 (ls.take i)
 by_cases hlt:i+1<ls.length
 ·have hx:(ls.map bs)[i]?=some (bs ls[i]):=by rw[bf,am (by omega)];rfl
  have hL:=ME (bT (ls.take i)).1 ls[i] hok (by have:=hmem _ (be (show i<ls.length by omega));omega)
  have hs:bT (ls.take (i+1))=nK (bT (ls.take i)) ls[i]:=by rw[ca (by omega),fR]
  have hsl:=uT hok (aK 32 ls[i])
  have hb:bs (bT (ls.take (i+1))).2=bs (bT (ls.take i)).2++bs (ee (bT (ls.take i)).1 (aK 32 ls[i])):=by rw[hs,vh];rfl
  have hu:(bT (ls.take (i+1))).1=bU (bT (ls.take i)).1 (aK 32 ls[i]):=by rw[hs];rfl
  generalize hr':bT (ls.take (i+1))=r' at *
  generalize bT (ls.take i)=r at *
  generalize ee r.1 (aK 32 ls[i])=so at *
  generalize bU r.1 (aK 32 ls[i])=sw at *
  generalize ls[i]=l at *
  generalize ls.map bs=O at *
  obtain⟨rw1,ro⟩:=r
  dsimp only at *
  (repeat' first|((first|with_reducible refine aF ?_ (by assumption)|with_reducible refine aE ?_ (by assumption));conv=>whnf)|refine st ?_|refine sa fun xe hxe=>?_|refine sb (fun hq=>?_) fun hq=>?_|((with_reducible refine aG ?_)<;>conv=>whnf)|refine cr (hL) ?_|exact aa)
  refine⟨i+1,by omega,by omega,?_⟩
  rw[hr',hb,hu]
  rfl
 ·have hi2:i=ls.length-1:=by omega
  have hO:=MF (bT (ls.take i)).1 hok
  have hOl:=jg hok (bT (ls.take i)).1.com.length
  have hcl:=hok.len
  have hOl:(outO (bT (ls.take i)).1).length≤10000011*(bT (ls.take i)).1.com.length:=hOl
  rw[←hi2]
  have hb:bs ((bT (ls.take i)).2++outO (bT (ls.take i)).1)=bs (bT (ls.take i)).2++bs (outO (bT (ls.take i)).1):=(vh _ _).symm
  rw[hb]
  generalize bT (ls.take i)=r at *
  generalize outO r.1=oo at *
  generalize ls.map bs=O at *
  obtain⟨rw1,ro⟩:=r
  dsimp only at *
  (repeat' first|((first|with_reducible refine aF ?_ (by assumption)|with_reducible refine aE ?_ (by assumption));conv=>whnf)|refine st ?_|refine sa fun xe hxe=>?_|refine sb (fun hq=>?_) fun hq=>?_|((with_reducible refine aG ?_)<;>conv=>whnf)|refine cr (hO) ?_|exact aa)
  exact⟨rfl,rfl⟩
end Go.Proofs.YtpefhoohfkeflaaGreatDoor.Am
namespace Go.Proofs.YtpefhoohfkeflaaGreatDoor.Am
open Go Go.Shelf Go.RowKit
attribute [local irreducible] Mk ck Ari fK mQ jM cd cX i7 fC At ag
set_option maxRecDepth 10000
theorem zu {P : Program} {f : FuncId} {ds : List D} {r : D} (hf : ∃ fn, P.funcs[f]? = some fn ∧ fn.body.isNone = false ∧ (fn.name == "runtime.NumGoroutine") = false)
  (h:∀(w:World) (ok:Nat→Prop) (ρ:Id→Pl) (vs:Array Value),ds.length=vs.size→(∀i,i<ds.length→C ρ (fun _=>False) ok w (ds.getD i .undef) (vs.getD i undef))→(∀g zs,look Gt g=some zs→∃T fz,w.heap[g]?=some (.cells (zs.map (Value.int .u64)).toArray T fz))→
   Calls P f vs w fun e w'=>∃u,e= .returned u∧Below w.heap.size w w'∧∀ok',Rep ok' w' r u):Con P f ds [] r []:=by
 refine⟨hf,fun w A ρ vs hs hl hc=>?_⟩
 have hno:∀b,¬Live [] b:=fun b h=>by cases h
 have hc':∀i,i<ds.length→C ρ (fun _=>False) (okOf A ρ [] w) w (ds.getD i .undef) (vs.getD i undef):=fun i hi=>(hc i hi).mono (fun b hb=>absurd hb (hno b)) (fun b hb=>⟨hb,rfl⟩)
 refine Calls.mono (h w (okOf A ρ [] w) ρ vs hl hc' fun g zs hx=>(hs.tab hx).2) ?_
 rintro e w' ⟨u,rfl,hb,hr⟩
 refine⟨u,ρ,rfl,fun b hb=>absurd hb (hno b),⟨hs.base,hs.inS,⟨hb.os,hb.tape,hb.output,hb.size,fun i hi _=>hb.block i hi⟩,rfl,rfl,?_,?_,?_,?_,hs.gl⟩,.pure (hr _)⟩
 ·intro k d h;cases h
 ·intro k d h;cases h
 ·intro k d h;cases h
 ·intro b b' x x' h;cases h
theorem w4 {vs:Array Value}(h:2=vs.size):∃v0 v1,vs= #[v0,v1]:=by
 refine⟨vs[0],vs[1],Array.ext (by simp;omega) fun i h1 h2=>?_⟩
 match i,h2 with
 |0,_=>rfl
 |1,_=>rfl
def yd:Go.Shelf.Ren:=⟨fun|138=>81|195=>118|218=>120|143=>82|219=>121|217=>145|225=>146|224=>147|267=>148|266=>169|314=>170|n=>n,fun|9=>9|3=>3|4=>4|5=>5|0=>0|46=>170|146=>202|51=>109|n=>n,fun|1=>0|n=>n⟩
theorem IG:Go.Proofs.Lays.n138 Tryz.prog yd where
  mixed:=by kernel_rfl
  f138:=Tryz.func81.trans (congrArg some (by kernel_rfl))
  f143:=Tryz.func82.trans (congrArg some (by kernel_rfl))
  f195:=Tryz.func118.trans (congrArg some (by kernel_rfl))
  f217:=Tryz.func145.trans (congrArg some (by kernel_rfl))
  f218:=Tryz.func120.trans (congrArg some (by kernel_rfl))
  f219:=Tryz.func121.trans (congrArg some (by kernel_rfl))
  f224:=Tryz.func147.trans (congrArg some (by kernel_rfl))
  f225:=Tryz.func146.trans (congrArg some (by kernel_rfl))
  f266:=Tryz.func169.trans (congrArg some (by kernel_rfl))
  f267:=Tryz.func148.trans (congrArg some (by kernel_rfl))
  f314:=Tryz.func170.trans (congrArg some (by kernel_rfl))
  t0:=Tryz.underlying0
  a0:=Tryz.isAgg0
  z0:=Tryz.sizeOf0
  v0:=Tryz.zeroValue0
  t3:=Tryz.underlying3
  a3:=Tryz.isAgg3
  z3:=Tryz.sizeOf3
  v3:=Tryz.zeroValue3
  t4:=Tryz.underlying4
  a4:=Tryz.isAgg4
  z4:=Tryz.sizeOf4
  v4:=Tryz.zeroValue4
  t5:=Tryz.underlying5
  a5:=Tryz.isAgg5
  z5:=Tryz.sizeOf5
  v5:=Tryz.zeroValue5
  t9:=Tryz.underlying9
  a9:=Tryz.isAgg9
  z9:=Tryz.sizeOf9
  v9:=Tryz.zeroValue9
  t46:=Tryz.underlying170
  a46:=Tryz.isAgg170
  z46:=Tryz.sizeOf170
  v46:=Tryz.zeroValue170
  t51:=Tryz.underlying109
  a51:=Tryz.isAgg109
  z51:=Tryz.sizeOf109
  v51:=Tryz.zeroValue109
  t146:=Tryz.underlying202
  a146:=Tryz.isAgg202
  z146:=Tryz.sizeOf202
  v146:=Tryz.zeroValue202
  g1:=by kernel_rfl
def ye:Go.Shelf.Ren:=⟨fun|143=>82|219=>121|217=>145|225=>146|224=>147|267=>148|266=>169|314=>170|n=>n,fun|9=>9|3=>3|4=>4|5=>5|46=>170|146=>202|51=>109|n=>n,fun|1=>0|n=>n⟩
theorem IH:Go.Proofs.Lays.n143 Tryz.prog ye where
  mixed:=by kernel_rfl
  f143:=Tryz.func82.trans (congrArg some (by kernel_rfl))
  f217:=Tryz.func145.trans (congrArg some (by kernel_rfl))
  f219:=Tryz.func121.trans (congrArg some (by kernel_rfl))
  f224:=Tryz.func147.trans (congrArg some (by kernel_rfl))
  f225:=Tryz.func146.trans (congrArg some (by kernel_rfl))
  f266:=Tryz.func169.trans (congrArg some (by kernel_rfl))
  f267:=Tryz.func148.trans (congrArg some (by kernel_rfl))
  f314:=Tryz.func170.trans (congrArg some (by kernel_rfl))
  t3:=Tryz.underlying3
  a3:=Tryz.isAgg3
  z3:=Tryz.sizeOf3
  v3:=Tryz.zeroValue3
  t4:=Tryz.underlying4
  a4:=Tryz.isAgg4
  z4:=Tryz.sizeOf4
  v4:=Tryz.zeroValue4
  t5:=Tryz.underlying5
  a5:=Tryz.isAgg5
  z5:=Tryz.sizeOf5
  v5:=Tryz.zeroValue5
  t9:=Tryz.underlying9
  a9:=Tryz.isAgg9
  z9:=Tryz.sizeOf9
  v9:=Tryz.zeroValue9
  t46:=Tryz.underlying170
  a46:=Tryz.isAgg170
  z46:=Tryz.sizeOf170
  v46:=Tryz.zeroValue170
  t51:=Tryz.underlying109
  a51:=Tryz.isAgg109
  z51:=Tryz.sizeOf109
  v51:=Tryz.zeroValue109
  t146:=Tryz.underlying202
  a146:=Tryz.isAgg202
  z146:=Tryz.sizeOf202
  v146:=Tryz.zeroValue202
  g1:=by kernel_rfl
theorem Ld (s:List UInt8)(c:UInt8):ag Tryz.prog 81 [.str (bs s),.str (bs [c])] [] (.int .i64 (s.count c:Nat)) []:=by
 unfold ag
 refine ja ⟨_,Tryz.func81,rfl,rfl⟩ fun w ok ρ vs hl hc=>?_
 obtain⟨v0,v1,rfl⟩:=w4 hl
 have h0:C ρ (fun _=>False) ok w (.str (bs s)) v0:=hc 0 Nat.zero_lt_two
 have h1:C ρ (fun _=>False) ok w (.str (bs [c])) v1:=hc 1 Nat.one_lt_two
 obtain rfl:=h0.str_inv
 obtain rfl:=h1.str_inv
 refine Calls.mono (Any.strings_Count_one IG (bs s) c w) ?_
 rintro e w' ⟨rfl,rfl⟩
 exact⟨_,rfl,Below.refl _ _,fun ok'=>.int _ _⟩
theorem Lp (s:List UInt8)(c:UInt8):ag Tryz.prog 82 [.str (bs s),.str (bs [c])] [] (.int .i64 (Lib.indexByte s c)) []:=by
 unfold ag
 refine ja ⟨_,Tryz.func82,rfl,rfl⟩ fun w ok ρ vs hl hc=>?_
 obtain⟨v0,v1,rfl⟩:=w4 hl
 have h0:C ρ (fun _=>False) ok w (.str (bs s)) v0:=hc 0 Nat.zero_lt_two
 have h1:C ρ (fun _=>False) ok w (.str (bs [c])) v1:=hc 1 Nat.one_lt_two
 obtain rfl:=h0.str_inv
 obtain rfl:=h1.str_inv
 refine Calls.mono (Any.strings_Index_one IH (bs s) c w) ?_
 rintro e w' ⟨rfl,rfl⟩
 exact⟨_,rfl,Below.refl _ _,fun ok'=>.int _ _⟩
theorem Ff (c:UInt8)(b:List UInt8):∀a:List UInt8,c∉a→Lib.indexByte (a++c::b) c=a.length
 |[],_=>by simp[Lib.indexByte]
 |x::a,h=>by
  have hx:¬x=c:=fun e=>h (by simp[e])
  have ih:=Ff c b a fun hm=>h (by simp[hm])
  simp only[gH,Lib.indexByte,ih,bH]
  simp[hx]<;>omega
theorem El (c:UInt8)(b:List UInt8):∀a:List UInt8,c∉a→aK c (a++c::b)=a::aK c b
 |[],_=>by simp[aK]
 |x::a,h=>by
  have hx:¬x=c:=fun e=>h (by simp[e])
  rw[gH,aK,if_neg hx,El c b a fun hm=>h (by simp[hm])]
  rfl
theorem xl (c:UInt8):∀a:List UInt8,c∉a→aK c a=[a]
 |[],_=>rfl
 |x::a,h=>by
  have hx:¬x=c:=fun e=>h (by simp[e])
  rw[aK,if_neg hx,xl c a fun hm=>h (by simp[hm])]
  rfl
def Θs:TT:=(33,⟨.slice 9,1,24,some .nils,some (.lst .str),true⟩)::Θ
theorem qv:TT.ok Tryz.prog Θs:=TT.okB_ok (by kernel_rfl)
theorem N1 {P Q:Prop}(h:Q)(s:Hid Q→P:=by
  intro h
  (first|(with_reducible first|apply dZ|apply cZ)|((first|with_reducible apply cN qv|refine go ?_|(with_reducible first|apply dk|apply dy|apply cL|apply cO|refine cM qv mixed (by kernel_rfl) ?_))<;>conv=>whnf))
  repeat(first|(with_reducible first|apply dZ|apply cZ)|((first|with_reducible apply cN qv|refine go ?_|(with_reducible first|apply dk|apply dy|apply cL|apply cO|refine cM qv mixed (by kernel_rfl) ?_))<;>conv=>whnf))
  exact h.h):P:=s ⟨h⟩
theorem Lo (s:List UInt8)(c:UInt8)(hl:s.length≤2000000):ag Tryz.prog 40 [.str (bs s),.str (bs [c]),.int .i64 0,.int .i64 (-1)] [] (.ref 4) [(4,.row 9 .str ((aK c s).map bs))]:=by
 have hsz:(bs s).size=s.length:=rfl
 have hs1:(bs [c]).size=1:=rfl
 have hcl:=List.count_le_length (a:=c) (l:=s)
 have hC:=Ld s c
 have e0:=(J6 [c] []).trans (decide_eq_false (by simp))
 refine ab qv Tryz.func40 rfl rfl false 0 4 rfl rfl rfl rfl fun K hK hb1 hb2=>?_;simp only[ae,enc,Nat.reduceAdd]
 clear hb1 hb2
 (repeat' first|((first|with_reducible refine aF ?_ (by assumption)|with_reducible refine aE ?_ (by assumption));conv=>whnf)|refine N1 ?_|refine sa fun xe hxe=>?_|refine sb (fun hq=>?_) fun hq=>?_|((with_reducible refine aG ?_)<;>conv=>whnf)|refine cr (hC) ?_|exact aa)
 rw[if_neg (by omega)]
 (repeat' first|((first|with_reducible refine aF ?_ (by assumption)|with_reducible refine aE ?_ (by assumption));conv=>whnf)|refine N1 ?_|refine sa fun xe hxe=>?_|refine sb (fun hq=>?_) fun hq=>?_|((with_reducible refine aG ?_)<;>conv=>whnf)|refine cr (hC) ?_|exact aa)
 clear hC
 have hN:(((s.count c:Nat):Int)+1).toNat=s.count c+1:=by omega
 rw[hN]
 refine ah hK [] [0,1,2,3,9,10] (fun x:List (List UInt8)×List UInt8=>⟨[(0,.str (bs x.2)),(1,.str (bs [c])),(2,.int .i64 0),(3,.int .i64 (((s.count c:Nat):Int)+1-1)),(9,.ref 4),(10,.int .i64 (x.1.length:Int))],[(4,.row 9 .str (x.1.map bs++(List.replicate (s.count c+1) (⟨#[]⟩:ByteArray)).drop x.1.length))],5⟩) (fun x=>aK c s=x.1++aK c x.2∧x.2.count c+x.1.length=s.count c∧x.2.length≤s.length) (fun x=>x.2.count c) ([],s) ⟨rfl,rfl,ax _⟩ (by(conv=>whnf);rfl) ?_
 rintro⟨dn,r⟩ ⟨h1,h2,h3⟩
 dsimp only at h1 h2 h3⊢
 have hln:(dn.map bs).length=dn.length:=az ..
 by_cases hlt:r.count c=0
 ·have hnc:c∉r:=List.count_eq_zero.1 hlt
  rw[xl c r hnc] at h1
  have hd:dn.length=s.count c:=by omega
  have hrow:dn.map bs++(List.replicate (s.count c+1) (⟨#[]⟩:ByteArray)).drop dn.length=dn.map bs++[⟨#[]⟩]:=by
   rw[hd,List.drop_replicate,Nat.add_sub_cancel_left]
   rfl
  have hset:(dn.map bs++[(⟨#[]⟩:ByteArray)]).set dn.length (bs r)=(aK c s).map bs:=by
   rw[h1,cg,List.set_append_right _ _ (by omega),hln,kr]
   rfl
  have hl2:(dn.map bs++[(⟨#[]⟩:ByteArray)]).length=s.count c+1:=by simp[hd]
  have hl3:((aK c s).map bs).length=s.count c+1:=by rw[az,eI]
  rw[hrow,←hset,hd]
  rw[hd] at hset
  rw[←hset] at hl3
  generalize dn.map bs++[(⟨#[]⟩:ByteArray)]=row at *
  generalize s.count c=m at *
  (repeat' first|((first|with_reducible refine aF ?_ (by assumption)|with_reducible refine aE ?_ (by assumption));conv=>whnf)|refine N1 ?_|refine sa fun xe hxe=>?_|refine sb (fun hq=>?_) fun hq=>?_|((with_reducible refine aG ?_)<;>conv=>whnf)|exact aa)
  refine⟨rfl,?_⟩
  have hcut:ma (row.set (m:Int).toNat (bs r)) none (some (V.int .i64 ((m:Int)+1))) 0 ((m:Int)+1).toNat=row.set m (bs r):=by
   rw[mP,show ((m:Int)+1).toNat=m+1 by omega]
   show List.take _ _=_
   exact br (by omega)
  rw[hcut]
 ·obtain⟨a,b,rfl,hna⟩:=List.eq_append_cons_of_mem (List.count_pos_iff.1 (Nat.pos_of_ne_zero hlt))
  have hI:=Lp (a++c::b) c
  rw[Ff c b a hna] at hI
  rw[El c b a hna] at h1
  have hcb:(a++c::b).count c=b.count c+1:=by
   rw[List.count_append,List.count_cons_self,List.count_eq_zero.2 hna]
   omega
  have hszr:(bs (a++c::b)).size=a.length+b.length+1:=by rw[Hz];simp;omega
  have he1:(bs (a++c::b)).extract 0 a.length=bs a:=by rw[lk];simp
  have hdr:(a++c::b).drop (a.length+1)=b:=by simp
  have he2:(bs (a++c::b)).extract (a.length+1) (bs (a++c::b)).size=bs b:=by rw[lk,hdr,br (by rw[hszr];omega)]
  have hal:a.length≤s.length:=by simp at h3;omega
  have hs:(dn.map bs++(List.replicate (s.count c+1) (⟨#[]⟩:ByteArray)).drop dn.length).set dn.length (bs a)=(dn++[a]).map bs++(List.replicate (s.count c+1) (⟨#[]⟩:ByteArray)).drop (dn++[a]).length:=by
   rw[tA _ _ _ hln (by rw[iG];omega),cg,aO]
   rfl
  have iO:dn.length<(dn.map bs++(List.replicate (s.count c+1) (⟨#[]⟩:ByteArray)).drop dn.length).length:=tc _ _ hln (by rw[iG];omega)
  have hbl:b.length≤s.length:=by simp at h3;omega
  generalize dn.map bs++(List.replicate (s.count c+1) (⟨#[]⟩:ByteArray)).drop dn.length=row at *
  generalize hr:a++c::b=r at *
  (repeat' first|((first|with_reducible refine aF ?_ (by assumption)|with_reducible refine aE ?_ (by assumption));conv=>whnf)|refine N1 ?_|refine sa fun xe hxe=>?_|refine sb (fun hq=>?_) fun hq=>?_|((with_reducible refine aG ?_)<;>conv=>whnf)|refine cr (hI) ?_|exact aa)
  refine⟨(dn++[a],b),⟨by dsimp only;rw[h1];simp,by simp;omega,hbl⟩,by dsimp only;omega,?_⟩
  dsimp only
  rw[←hs,←he1,←he2]
  simp only[aO,bH,dG]
  rfl
theorem pR (s:List UInt8)(c:UInt8)(hl:s.length≤2000000):ag Tryz.prog 16 [.str (bs s),.str (bs [c])] [] (.ref 4) [(4,.row 9 .str ((aK c s).map bs))]:=by
 have hG:=Lo s c hl
 refine ab qv Tryz.func16 rfl rfl false 0 4 rfl rfl rfl rfl fun K hK hb1 hb2=>?_;simp only[ae,enc,Nat.reduceAdd]
 clear hb1 hb2
 (repeat' first|refine N1 ?_|refine sa fun xe hxe=>?_|refine sb (fun hq=>?_) fun hq=>?_|refine cr (hG) ?_|exact aa)
 exact⟨rfl,rfl⟩
theorem kb (w:List UInt8)(hl:w.length≤2000000):ag Tryz.prog 85 [.str (bs w)] [] (.int .i64 (s7 w)) []:=by
 have hsz:(bs w).size=w.length:=rfl
 by_cases h13:1≤w.length∧w.length≤3
 ·have hno:∀i (h:i<w.length),uo w[i]=false→s7 w= -1:=fun i h hd=>oU fun h2=>by rw[wY h hd] at h2;cases h2.2.2
  have hyes:w.all uo=true→s7 w=mq w:=fun h=>if_pos ⟨by omega,by omega,h⟩
  refine ab aj Tryz.func85 rfl rfl false 0 4 rfl rfl rfl rfl fun K hK hb1 hb2=>?_;simp only[ae,enc,Nat.reduceAdd]
  clear hb1 hb2
  (repeat' first|refine st ?_|refine sa fun xe hxe=>?_|refine sb (fun hq=>?_) fun hq=>?_|exact aa)
  refine ah hK [] [0,3,4] (fun i:Nat=>⟨[(0,.str (bs w)),(3,.int .i64 (mq (w.take i))),(4,.int .i64 (i:Int))],[],4⟩) (fun i=>i≤w.length∧(w.take i).all uo=true) (fun i=>w.length-i) 0 ⟨aX _,rfl⟩ rfl ?_
  rintro i ⟨hi,ha⟩
  by_cases hlt:i<w.length
  ·have hg:w.getD (i:Int).toNat 0=w[i]:=by
    rw[mP,aq,am hlt]
    rfl
   have hgb:((bs w).data.toList.getD (i:Int).toNat 0).toNat=(w.getD (i:Int).toNat 0).toNat:=rfl
   have ht:w.take (i+1)=w.take i++[w[i]]:=ca hlt
   have hb:=wd _ ha
   have hp:(10:Int)^(w.take i).length≤1000:=by
    have:(w.take i).length=0∨(w.take i).length=1∨(w.take i).length=2:=by rw[bQ];omega
    rcases this with h|h|h<;>rw[h]<;>decide
   cases hd:uo w[i]
   ·rw[hno i hlt hd]
    simp only[uo,nO,decide_eq_false_iff_not] at hd
    rw[←hg] at hd
    generalize mq (w.take i)=z at *
    by_cases hlo:(w.getD (i:Int).toNat 0).toNat<48
    ·(repeat' first|refine st ?_|refine sa fun xe hxe=>?_|refine sb (fun hq=>?_) fun hq=>?_|exact aa)
     exact⟨rfl,rfl⟩
    ·(repeat' first|refine st ?_|refine sa fun xe hxe=>?_|refine sb (fun hq=>?_) fun hq=>?_|exact aa)
     exact⟨rfl,rfl⟩
   ·have hn1:=p8 (w.take i) w[i]
    have ha1:(w.take (i+1)).all uo=true:=by rw[ht,List.all_append,ha];simp[hd]
    rw[←ht,←hg] at hn1
    simp only[uo,aB,decide_eq_true_eq] at hd
    rw[←hg] at hd
    generalize mq (w.take i)=z at *
    (repeat' first|refine st ?_|refine sa fun xe hxe=>?_|refine sb (fun hq=>?_) fun hq=>?_|exact aa)
    refine⟨i+1,⟨by omega,ha1⟩,by omega,?_⟩
    rw[hn1]
    rfl
  ·obtain rfl:i=w.length:=by omega
   rw[iH] at *
   rw[hyes ha]
   generalize mq w=z at *
   (repeat' first|refine st ?_|refine sa fun xe hxe=>?_|refine sb (fun hq=>?_) fun hq=>?_|exact aa)
   exact⟨rfl,rfl⟩
 ·rw[oU fun h=>h13 ⟨h.1,h.2.1⟩]
  by_cases h1:w.length<1
  ·refine ab aj Tryz.func85 rfl rfl false 0 4 rfl rfl rfl rfl fun K hK hb1 hb2=>?_;simp only[ae,enc,Nat.reduceAdd]
   clear hb1 hb2
   (repeat' first|refine st ?_|refine sa fun xe hxe=>?_|refine sb (fun hq=>?_) fun hq=>?_|exact aa)
   exact⟨rfl,rfl⟩
  ·refine ab aj Tryz.func85 rfl rfl false 0 4 rfl rfl rfl rfl fun K hK hb1 hb2=>?_;simp only[ae,enc,Nat.reduceAdd]
   clear hb1 hb2
   (repeat' first|refine st ?_|refine sa fun xe hxe=>?_|refine sb (fun hq=>?_) fun hq=>?_|exact aa)
   exact⟨rfl,rfl⟩
theorem xn:∀(k n:Nat),n<10^(k+1)→lR k n=Lib.decDigits n
 |0,n,h=>by rw[Lib.decDigits,dif_pos (by simpa using h),lR]
 |k+1,n,h=>by
  rw[Lib.decDigits,lR]
  split
  ·rfl
  ·rw[xn k (n/10) (by rw[Nat.pow_succ] at h;exact Nat.div_lt_of_lt_mul (by rw[Nat.mul_comm];exact h))]
def yf:Go.Shelf.Ren:=⟨fun|246=>125|283=>153|284=>154|285=>155|286=>156|129=>179|317=>178|318=>180|319=>181|320=>182|337=>197|338=>198|n=>n,fun|2=>2|3=>3|9=>9|4=>4|171=>174|0=>0|53=>175|37=>24|5=>5|173=>178|212=>206|51=>109|20=>20|213=>207|46=>170|232=>237|233=>238|n=>n,fun|17=>4|18=>7|19=>8|n=>n⟩
theorem II:Go.Proofs.LaysM.n246 Tryz.prog yf where
  mixed:=by kernel_rfl
  f129:=Tryz.func179.trans (congrArg some (by kernel_rfl))
  f246:=Tryz.func125.trans (congrArg some (by kernel_rfl))
  f283:=Tryz.func153.trans (congrArg some (by kernel_rfl))
  f284:=Tryz.func154.trans (congrArg some (by kernel_rfl))
  f285:=Tryz.func155.trans (congrArg some (by kernel_rfl))
  f286:=Tryz.func156.trans (congrArg some (by kernel_rfl))
  f317:=Tryz.func178.trans (congrArg some (by kernel_rfl))
  f318:=Tryz.func180.trans (congrArg some (by kernel_rfl))
  f319:=Tryz.func181.trans (congrArg some (by kernel_rfl))
  f320:=Tryz.func182.trans (congrArg some (by kernel_rfl))
  f337:=Tryz.func197.trans (congrArg some (by kernel_rfl))
  f338:=Tryz.func198.trans (congrArg some (by kernel_rfl))
  t0:=Tryz.underlying0
  a0:=Tryz.isAgg0
  z0:=Tryz.sizeOf0
  v0:=Tryz.zeroValue0
  t2:=Tryz.underlying2
  a2:=Tryz.isAgg2
  z2:=Tryz.sizeOf2
  v2:=Tryz.zeroValue2
  t3:=Tryz.underlying3
  a3:=Tryz.isAgg3
  z3:=Tryz.sizeOf3
  v3:=Tryz.zeroValue3
  t4:=Tryz.underlying4
  a4:=Tryz.isAgg4
  z4:=Tryz.sizeOf4
  v4:=Tryz.zeroValue4
  t5:=Tryz.underlying5
  a5:=Tryz.isAgg5
  z5:=Tryz.sizeOf5
  v5:=Tryz.zeroValue5
  t9:=Tryz.underlying9
  a9:=Tryz.isAgg9
  z9:=Tryz.sizeOf9
  v9:=Tryz.zeroValue9
  t20:=Tryz.underlying20
  a20:=Tryz.isAgg20
  z20:=Tryz.sizeOf20
  v20:=Tryz.zeroValue20
  t37:=Tryz.underlying24
  a37:=Tryz.isAgg24
  z37:=Tryz.sizeOf24
  v37:=Tryz.zeroValue24
  t46:=Tryz.underlying170
  a46:=Tryz.isAgg170
  z46:=Tryz.sizeOf170
  v46:=Tryz.zeroValue170
  t51:=Tryz.underlying109
  a51:=Tryz.isAgg109
  z51:=Tryz.sizeOf109
  v51:=Tryz.zeroValue109
  t53:=Tryz.underlying175
  a53:=Tryz.isAgg175
  z53:=Tryz.sizeOf175
  v53:=Tryz.zeroValue175
  t171:=Tryz.underlying174
  a171:=Tryz.isAgg174
  z171:=Tryz.sizeOf174
  v171:=Tryz.zeroValue174
  t173:=Tryz.underlying178
  a173:=Tryz.isAgg178
  z173:=Tryz.sizeOf178
  v173:=Tryz.zeroValue178
  t212:=Tryz.underlying206
  a212:=Tryz.isAgg206
  z212:=Tryz.sizeOf206
  v212:=Tryz.zeroValue206
  t213:=Tryz.underlying207
  a213:=Tryz.isAgg207
  z213:=Tryz.sizeOf207
  t232:=Tryz.underlying237
  a232:=Tryz.isAgg237
  z232:=Tryz.sizeOf237
  v232:=Tryz.zeroValue237
  t233:=Tryz.underlying238
  a233:=Tryz.isAgg238
  z233:=Tryz.sizeOf238
  v233:=Tryz.zeroValue238
  g17:=by kernel_rfl
  g18:=by kernel_rfl
  g19:=by kernel_rfl
  i0:=by kernel_rfl
  i2:=by kernel_rfl
  i3:=by kernel_rfl
  i4:=by kernel_rfl
  i5:=by kernel_rfl
  i9:=by kernel_rfl
  i20:=by kernel_rfl
  i37:=by kernel_rfl
  i46:=by kernel_rfl
  i51:=by kernel_rfl
  i53:=by kernel_rfl
  i171:=by kernel_rfl
  i173:=by kernel_rfl
  i212:=by kernel_rfl
  i232:=by kernel_rfl
  i233:=by kernel_rfl
  m17:=by kernel_rfl
  m18:=by kernel_rfl
  m19:=by kernel_rfl
theorem OG : Tryz.prog.globalNamed "internal/strconv.uint64pow10" = some 4 := by kernel_rfl
theorem Ln (n:Int)(h0:0≤n)(h1:n<10000):ag Tryz.prog 125 [.int .i64 n,.int .i64 10] [] (.str (bs (aR n))) []:=by
 unfold ag
 refine zu ⟨_,Tryz.func125,rfl,rfl⟩ fun w ok ρ vs hl hc ht=>?_
 obtain⟨v0,v1,rfl⟩:=w4 hl
 have e0:C ρ (fun _=>False) ok w (.int .i64 n) v0:=hc 0 Nat.zero_lt_two
 have e1:C ρ (fun _=>False) ok w (.int .i64 10) v1:=hc 1 Nat.one_lt_two
 obtain rfl:=e0.int_inv
 obtain rfl:=e1.int_inv
 obtain⟨T,fz,hh⟩:=ht 4 _ rfl
 have htab : Lib.TabIs Tryz.prog w "internal/strconv.uint64pow10" .u64 Lib.pow10Tab := by
  unfold Lib.TabIs World.var?
  rw[OG]
  simp only[bc,hh]
  rfl
 refine Calls.mono (Any.internal_strconv_FormatInt_10 II n (by omega) (by omega) w htab) ?_
 rintro e w' ⟨rfl,k,os,rfl⟩
 refine⟨_,rfl,?_,fun ok'=>?_⟩
 ·exact Lib.below_grow _ w (ax _) k os
 ·have:Lib.itoa n=aR n:=by rw[Lib.itoa,if_neg (by omega),aR,xn 3 _ (by omega)]
  rw[this]
  exact .str _
theorem dI (n:Int)(h0:0≤n)(h1:n<10000):ag Tryz.prog 44 [.int .i64 n] [] (.str (bs (aR n))) []:=by
 have hF:=Ln n h0 h1
 have hI:ag Tryz.prog 90 [.int .i64 n] [] (.str (bs (aR n))) []:=by
  generalize aR n=d at *
  refine ab aj Tryz.func90 rfl rfl false 0 4 rfl rfl rfl rfl fun K hK hb1 hb2=>?_;simp only[ae,enc,Nat.reduceAdd]
  clear hb1 hb2
  (repeat' first|refine st ?_|refine sa fun xe hxe=>?_|refine sb (fun hq=>?_) fun hq=>?_|refine cr (hF) ?_|exact aa)
  exact⟨rfl,rfl⟩
 generalize aR n=d at *
 refine ab aj Tryz.func44 rfl rfl false 0 4 rfl rfl rfl rfl fun K hK hb1 hb2=>?_;simp only[ae,enc,Nat.reduceAdd]
 clear hb1 hb2
 (repeat' first|refine st ?_|refine sa fun xe hxe=>?_|refine sb (fun hq=>?_) fun hq=>?_|refine cr (hI) ?_|exact aa)
 exact⟨rfl,rfl⟩
end Go.Proofs.YtpefhoohfkeflaaGreatDoor.Am
namespace Go.Proofs.YtpefhoohfkeflaaGreatDoor.Am
open Go Go.RowKit
attribute [local irreducible] Mk ck Ari fK mQ jM cd cX i7 fC At ag
set_option maxRecDepth 10000
theorem Kd (w:Wrl)(o:List UInt8)(hlen:o.length≤1000000000):ag Tryz.prog 84 [.ptr 4 5,.int .u8 10] (bN w o) .nili (jN w (o++[10])):=by
 have hC:=Nx w o
 have hn:fm (o++[10])=fm o++[10]:=yo o [10]
 have hl:=kP o
 unfold jN
 rw[hn]
 refine ab aj Tryz.func84 rfl rfl false 2 6 rfl rfl rfl rfl fun K hK hb1 hb2=>?_;simp only[ae,enc,Nat.reduceAdd]
 clear hb1 hb2
 (repeat' first|refine st ?_|refine sa fun xe hxe=>?_|refine sb (fun hq=>?_) fun hq=>?_|refine co (hC) ?_|exact aa)
 exact⟨rfl,rfl⟩
theorem nV (w:Wrl)(o l:List UInt8)(hl0:l≠[])(hlen:o.length+l.length≤900000000):ag Tryz.prog 42 [.ptr 4 0,.str (bs l)] (bN w o) (.tup []) (jN w (o++l++[10])):=by
 have h1:=NG w o l hl0 (by omega)
 have h2:=Kd w (o++l) (by rw[aO];omega)
 generalize o++l++[10]=o2 at *
 generalize o++l=o1 at *
 refine ab aj Tryz.func42 rfl rfl false 2 6 rfl rfl rfl rfl fun K hK hb1 hb2=>?_;simp only[ae,enc,Nat.reduceAdd]
 clear hb1 hb2
 (repeat' first|refine st ?_|refine sa fun xe hxe=>?_|refine sb (fun hq=>?_) fun hq=>?_|refine co (h1) ?_|refine co (h2) ?_|exact aa)
 exact⟨rfl,rfl⟩
theorem zU (w:Wrl)(l:List UInt8)(hl0:l≠[])(hlen:l.length≤900000000):ag Tryz.prog 42 [.ptr 4 0,.str (bs l)] (dz w) (.tup []) (bN w (l++[10])):=by
 have h1:=NF w l hl0 (by omega)
 have h2:=Kd w l (by omega)
 refine ab aj Tryz.func42 rfl rfl false 1 5 rfl rfl rfl rfl fun K hK hb1 hb2=>?_;simp only[ae,enc,Nat.reduceAdd]
 clear hb1 hb2
 (repeat' first|refine st ?_|refine sa fun xe hxe=>?_|refine sb (fun hq=>?_) fun hq=>?_|refine co (h1) ?_|refine co (h2) ?_|exact aa)
 exact⟨rfl,rfl⟩

end Go.Proofs.YtpefhoohfkeflaaGreatDoor.Am
