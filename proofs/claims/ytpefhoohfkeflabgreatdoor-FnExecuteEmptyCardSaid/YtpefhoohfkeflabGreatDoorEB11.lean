/- Orders: leaders, votes, committed waves of the program. Orders: committed waves of the program. Orders: all committed waves of the program. Orders: the laws' waves and orders. Orders: the laws' orders. Runs: impl's quiet rounds. Quiet periods: the reference's WorldCalm, what is drawn; the law of invalid runs. Orders: the laws' orders, slot by slot. Scripts: what a session does, plain. Orders: heaps of vertices (plain laws). -/
import Derived.Test.YtpefhoohfkeflabGreatDoorEB10
set_option linter.unusedSimpArgs false
set_option linter.unusedVariables false
set_option maxHeartbeats 1000000
namespace Go.Proofs.YtpefhoohfkeflabGreatDoor.Am
open Go
attribute [local irreducible] Mk ci Ari fF mI jx ca cR iW fv At ag
set_option maxRecDepth 10000
def Θe:TT:=(107,⟨.ifc,1,16,some .nili,none,false⟩)::Θg
theorem dK:TT.ok Tryz.prog Θe:=TT.okB_ok (by kernel_rfl)
theorem nA {P Q:Prop}(h:Q)(s:Hid Q→P:=by
  intro h
  (first|(with_reducible first|apply dV|apply cU)|((first|with_reducible apply cJ dK|refine go ?_|(with_reducible first|apply df|apply dq|apply cH|apply cK|refine cI dK mixed (by kernel_rfl) ?_))<;>conv=>whnf))
  repeat(first|(with_reducible first|apply dV|apply cU)|((first|with_reducible apply cJ dK|refine go ?_|(with_reducible first|apply df|apply dq|apply cH|apply cK|refine cI dK mixed (by kernel_rfl) ?_))<;>conv=>whnf))
  exact h.h):P:=s ⟨h⟩
abbrev HU (c:List Int)(s:GS):VH:=[(1,.frow 178 (.hp 0) s.rows),(0,.fvar 190 (.nod 1) s.nodes)]
abbrev CQ (c:List Int)(s:GS):VH:=[(0,.fvar 190 (.nod 1) s.nodes),(1,.frow 178 (.hp 0) s.rows)]
theorem Jm (c:List Int)(s:GS)(k:Nat):ag Tryz.prog 228 [.hro 1 none,.hpo 0 (some k)] (HU c s) (.int .i64 (-1)) (CQ c s):=by
 refine ab eO Tryz.func228 rfl rfl false 0 4 rfl rfl rfl rfl fun K hK hb1 hb2=>?_;simp only[ae,enc,Nat.reduceAdd]
 clear hb1 hb2
 (repeat' first|refine jU ?_|refine sa fun xe hxe=>?_|refine sb (fun hq=>?_) fun hq=>?_|exact aa)
 refine ah hK [] [0,1,7,8] (fun i:Nat=>⟨[(0,.hro 1 none),(1,.hpo 0 (some k)),(7,.int .i64 0),(8,.int .i64 (i:Int))],CQ c s,4⟩) (fun i=>i=0) (fun i=>i) 0 rfl rfl ?_
 rintro i rfl
 (repeat' first|refine jU ?_|refine sa fun xe hxe=>?_|refine sb (fun hq=>?_) fun hq=>?_|exact aa)
 exact⟨rfl,rfl⟩
theorem Mv (c:List Int)(s:GS)(r k:Nat)(xs:List (Option Nat))(hr:s.rows[r]?=some xs)(hxs:∀o∈xs,∃q,o=some q∧q<s.nodes.length)(hk:k<s.nodes.length)(hl:xs.length≤1000000):ag Tryz.prog 228 [.hro 1 (some r),.hpo 0 (some k)] (HU c s) (.int .i64 (match xs.findIdx? (fun o=>o==some k) with|some i=>(i:Int)|none=>-1)) (CQ c s):=by
 have hkx:s.nodes[k]?=some s.nodes[k]:=am hk
 generalize s.nodes[k]=nk at *
 refine ab eO Tryz.func228 rfl rfl false 0 4 rfl rfl rfl rfl fun K hK hb1 hb2=>?_;simp only[ae,enc,Nat.reduceAdd]
 clear hb1 hb2
 (repeat' first|refine jU ?_|refine sa fun xe hxe=>?_|refine sb (fun hq=>?_) fun hq=>?_|exact aa)
 refine ah hK [] [0,1,7,8] (fun i:Nat=>⟨[(0,.hro 1 (some r)),(1,.hpo 0 (some k)),(7,.int .i64 xs.length),(8,.int .i64 (i:Int))],CQ c s,4⟩) (fun i=>i≤xs.length∧∀o∈xs.take i,(o==some k)=false) (fun i=>xs.length-i) 0 ⟨by simp,by simp⟩ rfl ?_
 rintro i ⟨hi,hall⟩
 by_cases hlt:i<xs.length
 ·have hxe:xs[i]?=some xs[i]:=am hlt
  have h3:xs.take (i+1)=xs.take i++[xs[i]]:=b9 hlt
  have h4:=rd (l:=xs) (p:=fun o=>o==some k) hxe hall
  obtain⟨q,hq,hql⟩:=hxs _ (br hxe)
  have hqx:s.nodes[q]?=some s.nodes[q]:=am hql
  rw[hq] at hxe h3 h4
  generalize s.nodes[q]=nq at *
  by_cases he:k=q
  ·subst he
   (repeat' first|refine jU ?_|refine sa fun xe hxe=>?_|refine sb (fun hq=>?_) fun hq=>?_|exact aa)
   refine⟨?_,rfl⟩
   rw[h4 (by simp)]
  ·(repeat' first|refine jU ?_|refine sa fun xe hxe=>?_|refine sb (fun hq=>?_) fun hq=>?_|exact aa)
   exact⟨i+1,⟨by omega,by rw[h3];exact bL hall (by simpa using fun h=>he h.symm)⟩,by omega,rfl⟩
 ·(repeat' first|refine jU ?_|refine sa fun xe hxe=>?_|refine sb (fun hq=>?_) fun hq=>?_|exact aa)
  refine⟨?_,rfl⟩
  rw[bp (by omega)] at hall
  rw[pj.2 hall]
theorem Jj (c:List Int)(s:GS)(k:Nat):ag Tryz.prog 214 [.hro 1 none,.hpo 0 (some k)] (HU c s) (.bool false) (CQ c s):=by
 refine ab eO Tryz.func214 rfl rfl false 0 4 rfl rfl rfl rfl fun K hK hb1 hb2=>?_;simp only[ae,enc,Nat.reduceAdd]
 clear hb1 hb2
 (repeat' first|refine jU ?_|refine sa fun xe hxe=>?_|refine sb (fun hq=>?_) fun hq=>?_|refine co (Jm c s k) ?_|exact aa)
 exact⟨rfl,rfl⟩
theorem Mp (c:List Int)(s:GS)(r k:Nat)(xs:List (Option Nat))(hr:s.rows[r]?=some xs)(hxs:∀o∈xs,∃q,o=some q∧q<s.nodes.length)(hk:k<s.nodes.length)(hl:xs.length≤1000000):ag Tryz.prog 214 [.hro 1 (some r),.hpo 0 (some k)] (HU c s) (.bool (xs.contains (some k))) (CQ c s):=by
 have hI:=Mv c s r k xs hr hxs hk hl
 refine ab eO Tryz.func214 rfl rfl false 0 4 rfl rfl rfl rfl fun K hK hb1 hb2=>?_;simp only[ae,enc,Nat.reduceAdd]
 clear hb1 hb2
 cases h:xs.findIdx? (fun o=>o==some k) with
 |none=>
  rw[h] at hI
  have e:xs.contains (some k)=false:=by
   rw[ck]
   intro h2
   have:=pj.1 h _ (iz.1 h2)
   simp at this
  rw[e]
  (repeat' first|refine jU ?_|refine sa fun xe hxe=>?_|refine sb (fun hq=>?_) fun hq=>?_|refine co (hI) ?_|exact aa)
  exact⟨rfl,rfl⟩
 |some i=>
  rw[h] at hI
  obtain⟨hi,h1,-⟩:=wF.1 h
  have e:xs.contains (some k)=true:=iz.2 (by rw[←(beq_iff_eq.1 h1)];exact be hi)
  rw[e]
  (repeat' first|refine jU ?_|refine sa fun xe hxe=>?_|refine sb (fun hq=>?_) fun hq=>?_|refine co (hI) ?_|exact aa)
  exact⟨rfl,rfl⟩
def Od (xs ys:List Int)(i:Nat):Prop:=ys.length=xs.length∧∀k,k<xs.length→ys[k]?=if k<i∨xs.length-i≤k then xs[xs.length-1-k]? else xs[k]?
theorem Jh {xs ys:List Int}{i:Nat}(h:Od xs ys i)(hi:xs.length≤2*i+1):ys=xs.reverse:=by
 refine nW fun k=>?_
 rcases cG k xs.length with hk|hk
 ·rw[h.2 k hk,List.getElem?_reverse hk]
  split
  ·rfl
  ·congr 1;omega
 ·rw[ep (by rw[h.1];exact hk),ep (by simpa using hk)]
theorem Gs {xs ys:List Int}{i:Nat}{a b:Int}(h:Od xs ys i)(hi:2*i+1<xs.length)(ha:ys[i]?=some a)(hb:ys[xs.length-1-i]?=some b):Od xs ((ys.set i b).set (xs.length-1-i) a) (i+1):=by
 obtain⟨h1,h2⟩:=h
 have ea:=h2 i (by omega)
 have eb:=h2 (xs.length-1-i) (by omega)
 rw[if_neg (by omega)] at ea eb
 refine⟨by simp[h1],fun k hk=>?_⟩
 rw[dp,dp,jt]
 by_cases e1:xs.length-1-i=k
 ·rw[if_pos e1,if_pos (by omega),if_pos (by omega),←ha,ea]
  congr 1;omega
 ·rw[if_neg e1]
  by_cases e2:i=k
  ·rw[if_pos e2,if_pos (by omega),if_pos (by omega),←hb,eb]
   congr 1;omega
  ·rw[if_neg e2,h2 k hk]
   by_cases e3:k<i∨xs.length-i≤k
   ·rw[if_pos e3,if_pos (by omega)]
   ·rw[if_neg e3,if_neg (by omega)]
theorem Lq (xs:List Int)(hl:xs.length≤1000000):ag Tryz.prog 203 [.ref 4] [(4,.row 3 (.int .i64) xs)] (.tup []) [(4,.row 3 (.int .i64) xs.reverse)]:=by
 refine ab aj Tryz.func203 rfl rfl false 1 5 rfl rfl rfl rfl fun K hK hb1 hb2=>?_;simp only[ae,enc,Nat.reduceAdd]
 clear hb1 hb2
 (repeat' first|refine st ?_|refine sa fun xe hxe=>?_|refine sb (fun hq=>?_) fun hq=>?_|exact aa)
 refine ah hK [] [0,2,3] (fun x:Nat×List Int=>⟨[(0,.ref 4),(2,.int .i64 (x.1:Int)),(3,.int .i64 ((xs.length:Int)-1-x.1))],[(4,.row 3 (.int .i64) x.2)],5⟩) (fun x=>Od xs x.2 x.1∧2*x.1≤xs.length+1) (fun x=>xs.length-x.1) (0,xs) ⟨⟨rfl,fun k hk=>by rw[if_neg (by omega)]⟩,by simp⟩ (by rw[show ((xs.length:Int)-1-((0:Nat):Int))=(xs.length:Int)-1 by omega];rfl) ?_
 rintro⟨i,ys⟩ ⟨hR,hi⟩
 dsimp only at hR hi⊢
 have hyl:=hR.1
 by_cases hlt:2*i+1<xs.length
 ·have hxa:ys[i]?=some ys[i]:=am (by omega)
  have hjb:xs.length-1-i<ys.length:=by omega
  have hxb:ys[xs.length-1-i]?=some ys[xs.length-1-i]:=am hjb
  have hst:=Gs hR hlt hxa hxb
  generalize hj:xs.length-1-i=j at *
  have hje:((xs.length:Int)-1-(i:Int))=(j:Int):=by omega
  rw[hje]
  generalize ys[i]=a at *
  generalize ys[j]=b at *
  have hxc:(ys.set i b)[j]?=some b:=by rw[dp,if_neg (by omega)];exact hxb
  have hsl:(ys.set i b).length=ys.length:=by simp
  (repeat' first|refine st ?_|refine sa fun xe hxe=>?_|refine sb (fun hq=>?_) fun hq=>?_|exact aa)
  exact⟨(i+1,(ys.set i b).set j a),⟨hst,by dsimp only;omega⟩,by dsimp only;omega,by rw[show ((xs.length:Int)-1-((i+1:Nat):Int))=(j:Int)-1 by omega];rfl⟩
 ·have hfin:=Jh hR (by omega)
  (repeat' first|refine st ?_|refine sa fun xe hxe=>?_|refine sb (fun hq=>?_) fun hq=>?_|exact aa)
  exact⟨rfl,by rw[hfin]⟩
theorem rv {c l:List Int}(hl:leaS c l=true){w:Nat}(h1:1≤w)(h2:w≤l.length):0≤gn l w∧gn l w<c.length:=by
 have hx:=m3 h1 h2
 exact(bR.1 hl).1 _ (br hx)
theorem zc {c:List Int}{g:List Vtx}(hg:GraOK c g){l:List Int}(hl:leaS c l=true){w:Nat}(h1:1≤w)(h2:w≤l.length):(db g).at (2*(w:Int)-1) (gn l w)=g.findIdx? (e9 (2*(w:Int)-1) (gn l w)):=by
 have h7:=(ay.1 hg.com).2
 have hm:=rv hl h1 h2
 have hll:=(bR.1 hl).2
 exact xH hg (by omega) (by omega)
theorem q7 {c:List Int}{g:List Vtx}(hg:GraOK c g){l:List Int}(hl:leaS c l=true){w:Nat}(h1:1≤w)(h2:w≤l.length){k:Vtx}(hk:pN g l w=some k):∃n:Nat,(db g).at (2*(w:Int)-1) (gn l w)=some n∧g[n]?=some k:=by
 obtain⟨a1,a2,a3⟩:=sS hk
 obtain⟨i,hi⟩:=iR a1
 have:=nK hg hi
 rw[a2,a3] at this
 exact⟨i,by rw[zc hg hl h1 h2,this],hi⟩
theorem AW {c:List Int}{g:List Vtx}(hg:GraOK c g){l:List Int}(hl:leaS c l=true){w:Nat}(h1:1≤w)(h2:w≤l.length)(hk:pN g l w=none):(db g).at (2*(w:Int)-1) (gn l w)=none:=by
 rw[zc hg hl h1 h2,pj]
 intro x hx
 have:=List.find?_eq_none.1 hk x hx
 simpa using this
theorem vP (c:List Int)(g:List Vtx)(l:List Int)(w n:Nat)(hg:GraOK c g)(hl:leaS c l=true)(h1:1≤w)(h2:w≤l.length)(ha:(db g).at (2*(w:Int)-1) (gn l w)=some n):ag Tryz.prog 155 [.agg [.ptr 4 0,.lst (.int .i64) l],.int .i64 (w:Int)] (gR c (db g)) (.tup [.hpo 0 (some n),.nili]) (gR c (db g)):=by
 have h7:=(ay.1 hg.com).2
 have hx:=m3 h1 h2
 have hll:=(bR.1 hl).2
 have hA:=nI c (db g) (2*(w:Int)-1) (gn l w) (fo g).2 h7.2 (aC.2 (by omega)) (aC.2 (by have:=rv hl h1 h2;omega))
 rw[ha] at hA
 have hin1:(none:Option Nat).isNone=true:=rfl
 have hin2:(some n:Option Nat).isNone=false:=rfl
 refine ab dK Tryz.func155 rfl rfl false 2 6 rfl rfl rfl rfl fun K hK hb1 hb2=>?_;simp only[ae,enc,Nat.reduceAdd]
 clear hb1 hb2
 (repeat' first|refine nA ?_|refine sa fun xe hxe=>?_|refine sb (fun hq=>?_) fun hq=>?_|refine co (hA) ?_|exact aa)
 exact⟨rfl,rfl⟩
theorem Fh (c:List Int)(g:List Vtx)(l:List Int)(w:Nat)(hg:GraOK c g)(hl:leaS c l=true)(h1:1≤w)(h2:w≤l.length)(ha:(db g).at (2*(w:Int)-1) (gn l w)=none):ag Tryz.prog 155 [.agg [.ptr 4 0,.lst (.int .i64) l],.int .i64 (w:Int)] (gR c (db g)) (.tup [.nilp,.gv 6]) (gR c (db g)):=by
 have h7:=(ay.1 hg.com).2
 have hx:=m3 h1 h2
 have hll:=(bR.1 hl).2
 have hA:=nI c (db g) (2*(w:Int)-1) (gn l w) (fo g).2 h7.2 (aC.2 (by omega)) (aC.2 (by have:=rv hl h1 h2;omega))
 rw[ha] at hA
 have hin1:(none:Option Nat).isNone=true:=rfl
 refine ab dK Tryz.func155 rfl rfl false 2 6 rfl rfl rfl rfl fun K hK hb1 hb2=>?_;simp only[ae,enc,Nat.reduceAdd]
 clear hb1 hb2
 (repeat' first|refine nA ?_|refine sa fun xe hxe=>?_|refine sb (fun hq=>?_) fun hq=>?_|refine co (hA) ?_|exact aa)
 exact⟨rfl,rfl⟩
theorem Lj (c:List Int)(l:List Int)(w:Nat)(hc:comV c=true)(hl:leaS c l=true)(h1:1≤w)(h2:w≤l.length):ag Tryz.prog 155 [.agg [.ptr 4 0,.lst (.int .i64) l],.int .i64 (w:Int)] (gZ c j3) (.tup [.nilp,.gv 6]) (gZ c j3):=by
 have h7:=(ay.1 hc).2
 have hx:=m3 h1 h2
 have hll:=(bR.1 hl).2
 have hA:=DO c j3 (2*(w:Int)-1) (gn l w) iA h7.2 (aC.2 (by omega)) (aC.2 (by have:=rv hl h1 h2;omega))
 rw[zJ] at hA
 have hin1:(none:Option Nat).isNone=true:=rfl
 refine ab dK Tryz.func155 rfl rfl false 1 5 rfl rfl rfl rfl fun K hK hb1 hb2=>?_;simp only[ae,enc,Nat.reduceAdd]
 clear hb1 hb2
 (repeat' first|refine nA ?_|refine sa fun xe hxe=>?_|refine sb (fun hq=>?_) fun hq=>?_|refine co (hA) ?_|exact aa)
 exact⟨rfl,rfl⟩
def N3 (g:List Vtx)(l:List Int)(w:Nat)(a:Int):Bool:=g.any fun v=>(v.round==2*(w:Int) && v.author==a) && v.parents.contains (gn l w)
def Dz (g:List Vtx)(l:List Int)(w n:Nat):List Int:=((List.range n).filter fun a:Nat=>N3 g l w (a:Int)).map fun a:Nat=>(a:Int)
theorem G9 (g:List Vtx)(l:List Int)(w n:Nat):Dz g l w (n+1)=if N3 g l w (n:Int)=true then Dz g l w n++[(n:Int)] else Dz g l w n:=by
 simp only[Dz,mA,pk,cf,nG,mB]
 split<;>simp
theorem JD (g:List Vtx)(l:List Int)(w n:Nat):(Dz g l w n).length≤n:=by
 unfold Dz
 rw[aA]
 exact cu (mG _ _) (by simp)
theorem MQ {c:List Int}{g:List Vtx}(hg:GraOK c g)(l:List Int)(w:Nat):Dz g l w c.length=tM g l w:=by
 refine u4 ?_ (JE hg.pw l w) fun a=>?_
 ·unfold Dz
  rw[mw]
  exact(List.Pairwise.filter _ List.pairwise_lt_range).imp fun h=>by omega
 ·rw[JG,Dz,aB]
  simp only[eM,eN,N3,eZ,az,beq_iff_eq,iz]
  constructor
  ·rintro⟨n,⟨hn,v,hv,⟨h1,h2⟩,h3⟩,rfl⟩
   exact⟨v,hv,h1,h3,h2⟩
  ·rintro⟨v,hv,h1,h2,rfl⟩
   have:=(bG (hg.vtx v hv)).2.1
   exact⟨v.author.toNat,⟨by omega,v,hv,⟨h1,by omega⟩,h2⟩,by omega⟩
theorem G7 {g:List Vtx}{l:List Int}{w:Nat}{a:Int}(h:g.findIdx? (e9 (2*(w:Int)) a)=none):N3 g l w a=false:=by
 rw[ck]
 intro h2
 obtain⟨v,hv,h3⟩:=eZ.1 h2
 simp only[az] at h3
 have:=pj.1 h v hv
 rw[show e9 (2*(w:Int)) a v=true by simp only[e9,az];exact h3.1] at this
 cases this
theorem G8 {c:List Int}{g:List Vtx}(hg:GraOK c g){l:List Int}{w n q:Nat}{a:Int}{v:Vtx}(hq:g.findIdx? (e9 (2*(w:Int)) a)=some q)(hv:g[q]?=some v)(hn:g.findIdx? (e9 (2*(w:Int)-1) (gn l w))=some n):N3 g l w a=(pix g v).contains (some n):=by
 obtain⟨x,x1,x2,x3⟩:=kx hq
 rw[hv] at x1
 obtain rfl:=aq x1
 obtain⟨k,k1,k2,k3⟩:=kx hn
 rw[dR,iz]
 constructor
 ·intro h
  obtain⟨u,hu,h3⟩:=eZ.1 h
  simp only[az,beq_iff_eq,iz] at h3
  obtain⟨⟨h4,h5⟩,h6⟩:=h3
  have e:=rJ hg.pw hu (br hv) (by omega) (by omega)
  subst e
  exact aB.2 ⟨gn l w,h6,by rw[x2];exact hn⟩
 ·intro h
  obtain⟨b,hb,h3⟩:=aB.1 h
  obtain⟨y,y1,y2,y3⟩:=kx h3
  rw[k1] at y1
  obtain rfl:=aq y1
  refine eZ.2 ⟨v,br hv,?_⟩
  simp only[az,beq_iff_eq,iz]
  exact⟨⟨x2,x3⟩,by rw[←k3,y3];exact hb⟩
theorem IV {c:List Int}{g:List Vtx}(hg:GraOK c g){q:Nat}{v:Vtx}(hv:g[q]?=some v):∀o∈pix g v,∃k,o=some k∧k<(db g).nodes.length:=fun o ho=>by
 obtain⟨k,x,e,h1,-⟩:=oQ hg (br hv) ho
 exact⟨k,e,by rw[(fo g).1];exact(aR.1 h1).1⟩
theorem Lt (c:List Int)(g:List Vtx)(l:List Int)(w:Nat)(hg:GraOK c g)(hl:leaS c l=true)(h1:1≤w)(h2:w≤l.length)(ha:(db g).at (2*(w:Int)-1) (gn l w)=none):ag Tryz.prog 199 [.agg [.ptr 4 0,.lst (.int .i64) l],.int .i64 (w:Int)] (gR c (db g)) (.tup [.int .i64 0,.gv 6]) (gR c (db g)):=by
 have hL:=Fh c g l w hg hl h1 h2 ha
 refine ab dK Tryz.func199 rfl rfl false 2 6 rfl rfl rfl rfl fun K hK hb1 hb2=>?_;simp only[ae,enc,Nat.reduceAdd]
 clear hb1 hb2
 (repeat' first|refine nA ?_|refine sa fun xe hxe=>?_|refine sb (fun hq=>?_) fun hq=>?_|refine co (hL) ?_|exact aa)
 exact⟨rfl,rfl⟩
theorem Lv (c:List Int)(l:List Int)(w:Nat)(hc:comV c=true)(hl:leaS c l=true)(h1:1≤w)(h2:w≤l.length):ag Tryz.prog 199 [.agg [.ptr 4 0,.lst (.int .i64) l],.int .i64 (w:Int)] (gZ c j3) (.tup [.int .i64 0,.gv 6]) (gZ c j3):=by
 have hL:=Lj c l w hc hl h1 h2
 refine ab dK Tryz.func199 rfl rfl false 1 5 rfl rfl rfl rfl fun K hK hb1 hb2=>?_;simp only[ae,enc,Nat.reduceAdd]
 clear hb1 hb2
 (repeat' first|refine nA ?_|refine sa fun xe hxe=>?_|refine sb (fun hq=>?_) fun hq=>?_|refine co (hL) ?_|exact aa)
 exact⟨rfl,rfl⟩
theorem Lu (c:List Int)(g:List Vtx)(l:List Int)(w n:Nat)(hg:GraOK c g)(hl:leaS c l=true)(h1:1≤w)(h2:w≤l.length)(ha:(db g).at (2*(w:Int)-1) (gn l w)=some n):ag Tryz.prog 199 [.agg [.ptr 4 0,.lst (.int .i64) l],.int .i64 (w:Int)] (gR c (db g)) (.tup [.int .i64 (lL c (tM g l w)),.nili]) (gR c (db g)):=by
 have hL:=vP c g l w n hg hl h1 h2 ha
 have h7:=(ay.1 hg.com).2
 have hcm:=(ay.1 hg.com).1
 have hll:=(bR.1 hl).2
 have hgn:=(fo g).1
 have hfn:=ha
 rw[zc hg hl h1 h2] at hfn
 obtain⟨k,hk,-,-⟩:=kx hfn
 have hnl:n<(db g).nodes.length:=by rw[hgn];exact(aR.1 hk).1
 have hr:jV (2*(w:Int)) 0 30=true:=aC.2 (by omega)
 rw[←MQ hg l w]
 refine ab dK Tryz.func199 rfl rfl false 2 6 rfl rfl rfl rfl fun K hK hb1 hb2=>?_;simp only[ae,enc,Nat.reduceAdd]
 clear hb1 hb2
 (repeat' first|refine nA ?_|refine sa fun xe hxe=>?_|refine sb (fun hq=>?_) fun hq=>?_|refine co (hL) ?_|exact aa)
 refine ah hK [] [1,2,6,8,25,26,27] (fun i:Nat=>⟨[(1,.int .i64 (w:Int)),(2,.ptr 6 0),(6,.hpo 0 (some n)),(8,.int .i64 (lL c (Dz g l w i))),(25,.lst (.int .i64) c),(26,.int .i64 c.length),(27,.int .i64 (i:Int))],H3 c (db g) (.var 151 [.ptr 4 0,.lst (.int .i64) l]),7⟩) (fun i=>i≤c.length) (fun i=>c.length-i) 0 (aX _) rfl ?_
 intro i hi
 have hwb:=wB (ms:=Dz g l w i) hg.com
 have hwl:=JD g l w i
 by_cases hlt:i<c.length
 ·have hm:du c i=true:=aC.2 (by omega)
  have hA:=nI c (db g) (2*(w:Int)) (i:Int) (fo g).2 h7.2 hr hm
  have hfd:=xH hg (aC.1 hr) (a:=(i:Int)) (by omega)
  have hsn:=G9 g l w i
  have hwn:=tH c (Dz g l w i) (i:Int)
  have hca:c[i]?=some (c.getD i 0):=by rw[ar,am hlt];rfl
  have hcb:=hcm _ (br hca)
  rw[show ((i:Int)).toNat=i by omega] at hwn
  cases h3:(db g).at (2*(w:Int)) (i:Int) with
  |none=>
   have hin1:(none:Option Nat).isNone=true:=rfl
   rw[h3] at hA
   rw[hfd] at h3
   rw[G7 h3,if_neg (by simp)] at hsn
   (repeat' first|refine nA ?_|refine sa fun xe hxe=>?_|refine sb (fun hq=>?_) fun hq=>?_|refine co (hA) ?_|exact aa)
   exact⟨i+1,by omega,by omega,by rw[hsn];rfl⟩
  |some q=>
   have hin2:(some q:Option Nat).isNone=false:=rfl
   rw[h3] at hA
   rw[hfd] at h3
   obtain⟨v,hv,-,-⟩:=kx h3
   obtain⟨p,hp,hrow⟩:=xI hg hv
   have hvb:=G8 hg (l:=l) h3 hv hfn
   rcases hrow with⟨hpn,rfl⟩|⟨r,rfl,hrow⟩
   ·have hC:=Jj c (db g) n
    have e:(pix g v).contains (some n)=false:=by rw[pix,hpn];rfl
    rw[hvb,e,if_neg (by simp)] at hsn
    (repeat' first|refine nA ?_|refine sa fun xe hxe=>?_|refine sb (fun hq=>?_) fun hq=>?_|refine co (hA) ?_|refine co (hC) ?_|exact aa)
    exact⟨i+1,by omega,by omega,by rw[hsn];rfl⟩
   ·have hC:=Mp c (db g) r n (pix g v) hrow (IV hg hv) hnl (by
     unfold pix
     rw[aA]
     have:=eF (bG (hg.vtx v (br hv))).2.2.1
     omega)
    rw[hvb] at hsn
    cases hb:(pix g v).contains (some n)
    ·rw[hb] at hC
     rw[hb,if_neg (by simp)] at hsn
     (repeat' first|refine nA ?_|refine sa fun xe hxe=>?_|refine sb (fun hq=>?_) fun hq=>?_|refine co (hA) ?_|refine co (hC) ?_|exact aa)
     exact⟨i+1,by omega,by omega,by rw[hsn];rfl⟩
    ·rw[hb] at hC
     rw[hb,if_pos rfl] at hsn
     generalize c.getD i 0=cx at *
     generalize lL c (Dz g l w i)=wx at *
     (repeat' first|refine nA ?_|refine sa fun xe hxe=>?_|refine sb (fun hq=>?_) fun hq=>?_|refine co (hA) ?_|refine co (hC) ?_|exact aa)
     exact⟨i+1,by omega,by omega,by rw[hsn,hwn];rfl⟩
 ·obtain rfl:i=c.length:=by omega
  (repeat' first|refine nA ?_|refine sa fun xe hxe=>?_|refine sb (fun hq=>?_) fun hq=>?_|exact aa)
  exact⟨rfl,rfl⟩
theorem Lr (c:List Int)(hc:comV c=true):ag Tryz.prog 200 [.lst (.int .i64) c] [] (.int .i64 (DE c)) []:=by
 have h1:=ly hc
 have h3:(qL c).tdiv 3+1=DE c:=rfl
 have h2:=o7 hc
 refine ab aj Tryz.func200 rfl rfl false 0 4 rfl rfl rfl rfl fun K hK hb1 hb2=>?_;simp only[ae,enc,Nat.reduceAdd]
 (repeat' first|refine st ?_|refine sa fun xe hxe=>?_|refine sb (fun hq=>?_) fun hq=>?_|refine cr (zU _ hc) ?_|exact aa)
 exact⟨rfl,rfl⟩
theorem Lc (c:List Int)(g:List Vtx)(l:List Int)(w:Nat)(hg:GraOK c g)(hl:leaS c l=true)(h1:1≤w)(h2:w≤l.length):ag Tryz.prog 181 [.agg [.ptr 4 0,.lst (.int .i64) l],.int .i64 (w:Int)] (gR c (db g)) (.bool (yX c g l w)) (gR c (db g)):=by
 have hS:=Lr c hg.com
 have hsp:=o7 hg.com
 cases hk:pN g l w with
 |none=>
  have hL:=Lt c g l w hg hl h1 h2 (AW hg hl h1 h2 hk)
  have e:yX c g l w=false:=by
   rw[yX,qW,hk]
   exact decide_eq_false (by simp;omega)
  rw[e]
  refine ab dK Tryz.func181 rfl rfl false 2 6 rfl rfl rfl rfl fun K hK hb1 hb2=>?_;simp only[ae,enc,Nat.reduceAdd]
  clear hb1 hb2
  (repeat' first|refine nA ?_|refine sa fun xe hxe=>?_|refine sb (fun hq=>?_) fun hq=>?_|refine cr (hS) ?_|refine co (hL) ?_|exact aa)
  exact⟨rfl,rfl⟩
 |some k=>
  obtain⟨n,hn,-⟩:=q7 hg hl h1 h2 hk
  have hL:=Lu c g l w n hg hl h1 h2 hn
  have e:yX c g l w=decide (DE c≤lL c (tM g l w)):=by rw[yX,qW,hk];rfl
  rw[e]
  generalize lL c (tM g l w)=x at *
  by_cases hle:DE c≤x
  ·rw[decide_eq_true hle]
   refine ab dK Tryz.func181 rfl rfl false 2 6 rfl rfl rfl rfl fun K hK hb1 hb2=>?_;simp only[ae,enc,Nat.reduceAdd]
   clear hb1 hb2
   (repeat' first|refine nA ?_|refine sa fun xe hxe=>?_|refine sb (fun hq=>?_) fun hq=>?_|refine cr (hS) ?_|refine co (hL) ?_|exact aa)
   exact⟨by simp[hle],rfl⟩
  ·rw[decide_eq_false hle]
   refine ab dK Tryz.func181 rfl rfl false 2 6 rfl rfl rfl rfl fun K hK hb1 hb2=>?_;simp only[ae,enc,Nat.reduceAdd]
   clear hb1 hb2
   (repeat' first|refine nA ?_|refine sa fun xe hxe=>?_|refine sb (fun hq=>?_) fun hq=>?_|refine cr (hS) ?_|refine co (hL) ?_|exact aa)
   exact⟨by simp[hle],rfl⟩
theorem Il (c:List Int)(l:List Int)(w:Nat)(hc:comV c=true)(hl:leaS c l=true)(h1:1≤w)(h2:w≤l.length):ag Tryz.prog 181 [.agg [.ptr 4 0,.lst (.int .i64) l],.int .i64 (w:Int)] (gZ c j3) (.bool false) (gZ c j3):=by
 have hL:=Lv c l w hc hl h1 h2
 refine ab dK Tryz.func181 rfl rfl false 1 5 rfl rfl rfl rfl fun K hK hb1 hb2=>?_;simp only[ae,enc,Nat.reduceAdd]
 clear hb1 hb2
 (repeat' first|refine nA ?_|refine sa fun xe hxe=>?_|refine sb (fun hq=>?_) fun hq=>?_|refine co (hL) ?_|exact aa)
 exact⟨rfl,rfl⟩
def bO (ws:List Nat):List Int:=ws.map fun w:Nat=>(w:Int)
theorem pI (a b:List Nat):bO (a++b)=bO a++bO b:=by simp[bO]
theorem gH (a:List Nat):(bO a).length=a.length:=by simp[bO]
theorem I4 {c:List Int}{g:List Vtx}(hg:GraOK c g){u v:Vtx}{n:Nat}(hv:g[n]?=some v):(pst g u).contains (n:Int)=true↔Rv g u v:=by
 rw[iz,B6]
 constructor
 ·rintro⟨i,hi,x,hx,hr⟩
  obtain rfl:n=i:=by omega
  rw[hv] at hx
  obtain rfl:=aq hx
  exact hr
 ·intro hr
  exact⟨n,rfl,v,hv,hr⟩
theorem Mb (g:List Vtx)(u:Vtx):(pst g u).Pairwise (· ≤ ·):=(I3 g u).imp fun h=>Int.le_of_lt h
open Classical in
theorem xm {g:List Vtx}{l:List Int}{last x:Nat}(h:x≤last)(cur:Vtx):dwn g l last x cur=[]:=by
 cases x with
 |zero=>rfl
 |succ x=>unfold dwn;rw[if_pos h]
open Classical in
theorem Eo {g:List Vtx}{l:List Int}{last x:Nat}(h:last<x+1){cur:Vtx}(hk:pN g l (x+1)=none):dwn g l last (x+1) cur=dwn g l last x cur:=by
 conv=>lhs;unfold dwn
 rw[if_neg (by omega),hk]
open Classical in
theorem xl {g:List Vtx}{l:List Int}{last x:Nat}(h:last<x+1){cur k:Vtx}(hk:pN g l (x+1)=some k)(hr:¬Rv g cur k):dwn g l last (x+1) cur=dwn g l last x cur:=by
 conv=>lhs;unfold dwn
 rw[if_neg (by omega),hk]
 exact if_neg hr
open Classical in
theorem xn {g:List Vtx}{l:List Int}{last x:Nat}(h:last<x+1){cur k:Vtx}(hk:pN g l (x+1)=some k)(hr:Rv g cur k):dwn g l last (x+1) cur=dwn g l last x k++[x+1]:=by
 conv=>lhs;unfold dwn
 rw[if_neg (by omega),hk]
 exact if_pos hr
theorem K4 (c:List Int)(g:List Vtx)(l:List Int)(w last:Nat)(hg:GraOK c g)(hgl:g.length≤1000000)(hl:leaS c l=true)(h1:1≤w)(h2:w≤l.length)(hw:last<w){k0:Vtx}(hk0:pN g l w=some k0):ag Tryz.prog 182 [.agg [.ptr 4 0,.lst (.int .i64) l],.int .i64 (w:Int),.int .i64 (last:Int)] (gR c (db g)) (.lst (.int .i64) (bO (chn g l w last))) (gR c (db g)):=by
 have hll:=(bR.1 hl).2
 obtain⟨n0,hn0,hg0⟩:=q7 hg hl h1 h2 hk0
 have hL:=vP c g l w n0 hg hl h1 h2 hn0
 have hP:=vQ c g hg hgl n0 k0 hg0
 have hch:chn g l w last=dwn g l last (w-1) k0++[w]:=by unfold chn;rw[hk0]
 have hpl0:=wa g k0
 refine ab dK Tryz.func182 rfl rfl true 2 6 rfl rfl rfl rfl fun K hK hb1 hb2=>?_;simp only[ae,enc,Nat.reduceAdd]
 clear hb1 hb2
 (repeat' first|refine nA ?_|refine sa fun xe hxe=>?_|refine sb (fun hq=>?_) fun hq=>?_|refine co (hL) ?_|refine co (hP) ?_|exact aa)
 refine ah hK [] [2,3,9,10,11] (fun x:Nat×Vtx×List Nat=>⟨[(2,.int .i64 (last:Int)),(3,.ptr 6 0),(9,.ref 7),(10,.lst (.int .i64) (pst g x.2.1)),(11,.int .i64 (x.1:Int))],H3 c (db g) (.var 151 [.ptr 4 0,.lst (.int .i64) l])++[(7,.row 3 (.int .i64) ((w:Int)::(bO x.2.2).reverse))],8⟩) (fun x=>x.2.1∈g∧last≤x.1∧x.1<w∧x.2.2.length+x.1≤w∧dwn g l last (w-1) k0=dwn g l last x.1 x.2.1++x.2.2) (fun x=>x.1) (w-1,k0,[]) ⟨br hg0,by dsimp only;omega,by dsimp only;omega,by dsimp only;simp only[dA];omega,by simp⟩ ?_ ?_
 ·dsimp only
  rw[show (((w-1:Nat):Int))=(w:Int)-1 by omega]
  rfl
 rintro⟨x,cur,acc⟩ ⟨hcur,hx1,hx2,hx3,hdw⟩
 dsimp only at hcur hx1 hx2 hx3 hdw⊢
 have hil:=gH acc
 have hrl:((w:Int)::(bO acc).reverse).length=acc.length+1:=by simp[hil]
 by_cases hlt:last<x
 ·obtain⟨y,rfl⟩:∃y,x=y+1:=⟨x-1,by omega⟩
  have e1:((y+1:Nat):Int)-1=(y:Int):=by omega
  cases hk:pN g l (y+1) with
  |none=>
   have hL2:=Fh c g l (y+1) hg hl (by omega) (by omega) (AW hg hl (by omega) (by omega) hk)
   have hE:=KJ
   rw[Eo (by omega) hk] at hdw
   generalize hrow:((w:Int)::(bO acc).reverse)=row at *
   (repeat' first|refine nA ?_|refine sa fun xe hxe=>?_|refine sb (fun hq=>?_) fun hq=>?_|refine cr (hE) ?_|refine co (hL2) ?_|exact aa)
   refine⟨(y,cur,acc),⟨hcur,by dsimp only;omega,by dsimp only;omega,by dsimp only;omega,hdw⟩,by dsimp only;omega,?_⟩
   rw[e1]
   dsimp only
   rw[hrow]
   rfl
  |some k=>
   obtain⟨n,hn,hgn⟩:=q7 hg hl (by omega) (by omega) hk
   have hL2:=vP c g l (y+1) n hg hl (by omega) (by omega) hn
   have hE:=KI
   have hB:=E5 (pst g cur) (n:Int) (Mb g cur) (by have:=wa g cur;omega)
   obtain⟨p,hp⟩:=lX hgn
   have hix:=I4 hg (u:=cur) hgn
   by_cases hr:Rv g cur k
   ·rw[hix.2 hr] at hB
    have hP2:=vQ c g hg hgl n k hgn
    rw[xn (by omega) hk hr,bH] at hdw
    have hrow2:((w:Int)::(bO acc).reverse)++[((y+1:Nat):Int)]=(w:Int)::(bO ((y+1)::acc)).reverse:=by simp[bO]
    generalize hrow:((w:Int)::(bO acc).reverse)=row at *
    (repeat' first|refine nA ?_|refine sa fun xe hxe=>?_|refine sb (fun hq=>?_) fun hq=>?_|refine cr (hE) ?_|refine cr (hB) ?_|refine co (hL2) ?_|refine co (hP2) ?_|exact aa)
    refine⟨(y,k,(y+1)::acc),⟨br hgn,by dsimp only;omega,by dsimp only;omega,by dsimp only;simp only[bF];omega,hdw⟩,by dsimp only;omega,?_⟩
    rw[e1]
    dsimp only
    rw[←hrow2]
    rfl
   ·rw[show (pst g cur).contains (n:Int)=false from by rw[ck];exact fun h=>hr (hix.1 h)] at hB
    rw[xl (by omega) hk hr] at hdw
    generalize hrow:((w:Int)::(bO acc).reverse)=row at *
    (repeat' first|refine nA ?_|refine sa fun xe hxe=>?_|refine sb (fun hq=>?_) fun hq=>?_|refine cr (hE) ?_|refine cr (hB) ?_|refine co (hL2) ?_|exact aa)
    refine⟨(y,cur,acc),⟨hcur,by dsimp only;omega,by dsimp only;omega,by dsimp only;omega,hdw⟩,by dsimp only;omega,?_⟩
    rw[e1]
    dsimp only
    rw[hrow]
    rfl
 ·rw[xm (x:=x) (by omega) cur,dS] at hdw
  have hR:=Lq ((w:Int)::(bO acc).reverse) (by omega)
  have hfin:((w:Int)::(bO acc).reverse).reverse=bO (chn g l w last):=by
   rw[hch,hdw,pI,List.reverse_cons,List.reverse_reverse];rfl
  (repeat' first|refine nA ?_|refine sa fun xe hxe=>?_|refine sb (fun hq=>?_) fun hq=>?_|refine co (hR) ?_|exact aa)
  exact⟨by rw[hfin],rfl⟩
end Go.Proofs.YtpefhoohfkeflabGreatDoor.Am
namespace Go.Proofs.YtpefhoohfkeflabGreatDoor.Am
open Go
attribute [local irreducible] Mk ci Ari fF mI jx ca cR iW fv At ag
set_option maxRecDepth 10000
theorem u5:∀{l:List Nat} {a b:Nat},l.Pairwise (· < ·)→(∀x∈l,a<x∧x≤b)→l.length≤b-a
 |[],_,_,_,_=>aX _
 |x::l,a,b,h,hb=>by
  obtain⟨h1,h2⟩:=iB.1 h
  have hx:=hb x (by simp)
  have:=u5 (a:=x) (b:=b) h2 fun y hy=>⟨h1 y hy,(hb y (by simp[hy])).2⟩
  simp only[bF]
  omega
theorem mP (c:List Int)(g:List Vtx)(l:List Int)(hc:comV c=true)(n:Nat):(cmt c g l n).1.length≤n:=by
 have h1:=mO (g:=g) hc l n
 have:=u5 (a:=0) (b:=n) (oa c g l n).2.1 fun x hx=>⟨by have:=(h1 x hx).1;omega,(h1 x hx).2.1⟩
 omega
theorem Hy (g:List Vtx)(l:List Int){w last:Nat}(h:last<w):(chn g l w last).length≤w:=by
 obtain⟨h1,h2⟩:=A3 g l h
 have:=u5 h1 h2
 omega
theorem vd {c:List Int}{g:List Vtx}{l:List Int}{n:Nat}(h:yX c g l (n+1)=true):cmt c g l (n+1)=((cmt c g l n).1++chn g l (n+1) (cmt c g l n).2,n+1):=by
 conv=>lhs;unfold cmt
 rw[if_pos h]
theorem jZ {c:List Int}{g:List Vtx}{l:List Int}{n:Nat}(h:yX c g l (n+1)=false):cmt c g l (n+1)=cmt c g l n:=by
 conv=>lhs;unfold cmt
 rw[if_neg (by rw[h];simp)]
theorem A4 (c:List Int)(l:List Int)(hc:comV c=true):∀n:Nat,cmt c [] l n=([],0)
 |0=>rfl
 |n+1=>by
  have h:yX c [] l (n+1)=false:=by
   rw[ck]
   intro h
   obtain⟨k,hk,-⟩:=q9 hc h
   cases hk
  rw[jZ h,A4 c l hc n]
theorem K5 (c:List Int)(g:List Vtx)(l:List Int)(hg:GraOK c g)(hgl:g.length≤1000000)(hl:leaS c l=true):ag Tryz.prog 154 [.agg [.ptr 4 0,.lst (.int .i64) l]] (gR c (db g)) (.lst (.int .i64) (bO (cmt c g l l.length).1)) (gR c (db g)):=by
 have hll:=(bR.1 hl).2
 refine ab dK Tryz.func154 rfl rfl true 2 6 rfl rfl rfl rfl fun K hK hb1 hb2=>?_;simp only[ae,enc,Nat.reduceAdd]
 clear hb1 hb2
 (repeat' first|refine nA ?_|refine sa fun xe hxe=>?_|refine sb (fun hq=>?_) fun hq=>?_|exact aa)
 refine ah hK [] [1,3,4,5] (fun n:Nat=>⟨[(1,.ptr 6 0),(3,.ref 7),(4,.int .i64 ((cmt c g l n).2:Int)),(5,.int .i64 ((n:Int)+1))],H3 c (db g) (.var 151 [.ptr 4 0,.lst (.int .i64) l])++[(7,.row 3 (.int .i64) (bO (cmt c g l n).1))],8⟩) (fun n=>n≤l.length) (fun n=>l.length-n) 0 (aX _) ?_ ?_
 ·rw[show (((0:Nat):Int)+1)=1 from rfl]
  rfl
 intro n hn
 have hcl:=mP c g l hg.com n
 have hil:=gH (cmt c g l n).1
 have hc2:=(oa c g l n).1
 by_cases hlt:n<l.length
 ·have hD:=Lc c g l (n+1) hg hl (by omega) (by omega)
  have e1:(((n+1:Nat)):Int)=(n:Int)+1:=by omega
  cases hd:yX c g l (n+1)
  ·rw[hd,e1] at hD
   have hcn:=jZ hd
   (repeat' first|refine nA ?_|refine sa fun xe hxe=>?_|refine sb (fun hq=>?_) fun hq=>?_|refine co (hD) ?_|exact aa)
   exact⟨n+1,by omega,by omega,by rw[hcn,e1];rfl⟩
  ·obtain⟨k,hk,-⟩:=q9 hg.com hd
   have hC:=K4 c g l (n+1) (cmt c g l n).2 hg hgl hl (by omega) (by omega) (by omega) hk
   have hkl:=Hy g l (w:=n+1) (last:=(cmt c g l n).2) (by omega)
   have hkl2:=gH (chn g l (n+1) (cmt c g l n).2)
   rw[hd,e1] at hD
   rw[e1] at hC
   have hcn:=vd hd
   have hap:=pI (cmt c g l n).1 (chn g l (n+1) (cmt c g l n).2)
   generalize hA:bO (cmt c g l n).1=A at *
   generalize hB:bO (chn g l (n+1) (cmt c g l n).2)=B at *
   (repeat' first|refine nA ?_|refine sa fun xe hxe=>?_|refine sb (fun hq=>?_) fun hq=>?_|refine co (hD) ?_|refine co (hC) ?_|exact aa)
   exact⟨n+1,by omega,by omega,by rw[hcn];dsimp only;rw[hap,e1];rfl⟩
 ·obtain rfl:n=l.length:=by omega
  (repeat' first|refine nA ?_|refine sa fun xe hxe=>?_|refine sb (fun hq=>?_) fun hq=>?_|exact aa)
  exact⟨rfl,rfl⟩
theorem Ii (c:List Int)(l:List Int)(hc:comV c=true)(hl:leaS c l=true):ag Tryz.prog 154 [.agg [.ptr 4 0,.lst (.int .i64) l]] (gZ c j3) (.lst (.int .i64) []) (gZ c j3):=by
 have hll:=(bR.1 hl).2
 refine ab dK Tryz.func154 rfl rfl true 1 5 rfl rfl rfl rfl fun K hK hb1 hb2=>?_;simp only[ae,enc,Nat.reduceAdd]
 clear hb1 hb2
 (repeat' first|refine nA ?_|refine sa fun xe hxe=>?_|refine sb (fun hq=>?_) fun hq=>?_|exact aa)
 refine ah hK [] [1,3,4,5] (fun n:Nat=>⟨[(1,.ptr 5 0),(3,.ref 6),(4,.int .i64 0),(5,.int .i64 ((n:Int)+1))],O6 c j3 (.var 151 [.ptr 4 0,.lst (.int .i64) l])++[(6,.row 3 (.int .i64) [])],7⟩) (fun n=>n≤l.length) (fun n=>l.length-n) 0 (aX _) ?_ ?_
 ·rw[show (((0:Nat):Int)+1)=1 from rfl]
  rfl
 intro n hn
 by_cases hlt:n<l.length
 ·have hD:=Il c l (n+1) hc hl (by omega) (by omega)
  have e1:(((n+1:Nat)):Int)=(n:Int)+1:=by omega
  rw[e1] at hD
  (repeat' first|refine nA ?_|refine sa fun xe hxe=>?_|refine sb (fun hq=>?_) fun hq=>?_|refine co (hD) ?_|exact aa)
  exact⟨n+1,by omega,by omega,by rw[e1];rfl⟩
 ·(repeat' first|refine nA ?_|refine sa fun xe hxe=>?_|refine sb (fun hq=>?_) fun hq=>?_|exact aa)
  exact⟨rfl,rfl⟩
def Cx (c:List Int)(g:List Vtx)(l:List Int):Bool:=graS c g && leaS c l
theorem Ln (c:List Int)(g:List Vtx)(l:List Int)(hgl:g.length≤1000000)(h:Cx c g l=false):ag Tryz.prog 114 [.lst (.int .i64) c,.lst .vtx g,.lst (.int .i64) l] [] (.tup [.agg [.nilp,.nils],.gv 1]) []:=by
 have hL:=vV c g (by omega)
 have hV:=rr c l
 refine ab dK Tryz.func114 rfl rfl false 0 4 rfl rfl rfl rfl fun K hK hb1 hb2=>?_;simp only[ae,enc,Nat.reduceAdd]
 clear hb1 hb2
 cases hg:graS c g
 ·simp only[DD,DC,hg,eY,if_false] at hL
  (repeat' first|refine nA ?_|refine sa fun xe hxe=>?_|refine sb (fun hq=>?_) fun hq=>?_|refine cr (hL) ?_|refine cr (hV) ?_|exact aa)
  exact⟨rfl,rfl⟩
 ·have hok:=fX hg
  simp only[DD,DC,hg,if_true] at hL
  rw[Cx,hg,d9] at h
  rw[hok.com,h] at hV
  cases g with
  |nil=>
   (repeat' first|refine nA ?_|refine sa fun xe hxe=>?_|refine sb (fun hq=>?_) fun hq=>?_|refine cr (hL) ?_|refine cr (hV) ?_|exact aa)
   exact⟨rfl,rfl⟩
  |cons v g=>
   (repeat' first|refine nA ?_|refine sa fun xe hxe=>?_|refine sb (fun hq=>?_) fun hq=>?_|refine cr (hL) ?_|refine cr (hV) ?_|exact aa)
   exact⟨rfl,rfl⟩
theorem Ll (c:List Int)(v:Vtx)(g:List Vtx)(l:List Int)(hgl:(v::g).length≤1000000)(hg:graS c (v::g)=true)(hl:leaS c l=true):ag Tryz.prog 114 [.lst (.int .i64) c,.lst .vtx (v::g),.lst (.int .i64) l] [] (.tup [.agg [.ptr 4 0,.lst (.int .i64) l],.nili]) (gR c (db (v::g))):=by
 have hL:=vV c (v::g) (by omega)
 have hV:=rr c l
 have hok:=fX hg
 simp only[DD,DC,hg,if_true] at hL
 rw[hok.com,hl] at hV
 refine ab dK Tryz.func114 rfl rfl false 0 4 rfl rfl rfl rfl fun K hK hb1 hb2=>?_;simp only[ae,enc,Nat.reduceAdd]
 clear hb1 hb2
 (repeat' first|refine nA ?_|refine sa fun xe hxe=>?_|refine sb (fun hq=>?_) fun hq=>?_|refine cr (hL) ?_|refine cr (hV) ?_|exact aa)
 exact⟨rfl,rfl⟩
theorem Lm (c:List Int)(l:List Int)(hc:comV c=true)(hl:leaS c l=true):ag Tryz.prog 114 [.lst (.int .i64) c,.lst .vtx [],.lst (.int .i64) l] [] (.tup [.agg [.ptr 4 0,.lst (.int .i64) l],.nili]) (gZ c j3):=by
 have hg:graS c []=true:=by simp[graS,hc,eB]
 have hL:=vV c [] (by simp)
 have hV:=rr c l
 simp only[DD,DC,hg,if_true] at hL
 rw[hc,hl] at hV
 refine ab dK Tryz.func114 rfl rfl false 0 4 rfl rfl rfl rfl fun K hK hb1 hb2=>?_;simp only[ae,enc,Nat.reduceAdd]
 clear hb1 hb2
 (repeat' first|refine nA ?_|refine sa fun xe hxe=>?_|refine sb (fun hq=>?_) fun hq=>?_|refine cr (hL) ?_|refine cr (hV) ?_|exact aa)
 exact⟨rfl,rfl⟩
noncomputable def cmw (c:List Int) (g:List Vtx) (l:List Int):List Nat:=if Cx c g l then(cmt c g l l.length).1 else[]
open Classical in
theorem OW (c:List Int)(g:List Vtx)(l:List Int)(hg:GraOK c g)(hgl:g.length≤1000000)(hl:leaS c l=true):ag Tryz.prog 159 [.lst (.int .i64) c,.lst .vtx g,.lst (.int .i64) l] [] (.lst (.int .i64) (bO (cmt c g l l.length).1)) []:=by
 have hll:=(bR.1 hl).2
 have hS:=NZ c hg.com
 have hsp:=o7 hg.com
 refine ab aj Tryz.func159 rfl rfl true 0 4 rfl rfl rfl rfl fun K hK hb1 hb2=>?_;simp only[ae,enc,Nat.reduceAdd]
 clear hb1 hb2
 (repeat' first|refine st ?_|refine sa fun xe hxe=>?_|refine sb (fun hq=>?_) fun hq=>?_|exact aa)
 refine ah hK [] [0,1,2,7,8,9] (fun n:Nat=>⟨[(0,.lst (.int .i64) c),(1,.lst .vtx g),(2,.lst (.int .i64) l),(7,.ref 4),(8,.int .i64 ((cmt c g l n).2:Int)),(9,.int .i64 ((n:Int)+1))],[(4,.row 3 (.int .i64) (bO (cmt c g l n).1))],5⟩) (fun n=>n≤l.length) (fun n=>l.length-n) 0 (aX _) rfl ?_
 intro n hn
 have hcl:=mP c g l hg.com n
 have hil:=gH (cmt c g l n).1
 have hc2:=(oa c g l n).1
 by_cases hlt:n<l.length
 ·have hV:=N4 c g l (n+1) hg hgl (by omega) (by omega) (by omega)
  have e1:(((n+1:Nat)):Int)=(n:Int)+1:=by omega
  have hdd:yX c g l (n+1)=decide (DE c≤qW c g l (n+1)):=rfl
  rw[e1] at hV
  by_cases hd:yX c g l (n+1)=true
  ·obtain⟨k0,hk0,-⟩:=q9 hg.com hd
   have hcn:=vd hd
   have hap:=pI (cmt c g l n).1 (chn g l (n+1) (cmt c g l n).2)
   have hch:chn g l (n+1) (cmt c g l n).2=dwn g l (cmt c g l n).2 n k0++[n+1]:=by unfold chn;rw[hk0];rfl
   rw[hdd] at hd
   have hd:=of_decide_eq_true hd
   obtain⟨n0,hn0,hg0⟩:=m4 hg hk0
   have hL:=BK g l (n+1) (by omega) (by omega) (by omega)
   rw[hn0,e1] at hL
   have hP:=Ah c g hg hgl n0 k0 hg0
   generalize qW c g l (n+1)=vt at *
   generalize hA:bO (cmt c g l n).1=A at *
   generalize hla:(cmt c g l n).2=last at *
   (repeat' first|refine st ?_|refine sa fun xe hxe=>?_|refine sb (fun hq=>?_) fun hq=>?_|refine cr (hV) ?_|refine cr (hS) ?_|refine cr (hL) ?_|refine cr (hP) ?_|exact aa)
   clear hV hL hP hS
   refine ah hK [] [0,1,2,7,8,9,10,11,12] (fun x:Nat×Vtx×List Nat=>⟨[(0,.lst (.int .i64) c),(1,.lst .vtx g),(2,.lst (.int .i64) l),(7,.ref 4),(8,.int .i64 (last:Int)),(9,.int .i64 ((n:Int)+1)),(10,.ref 5),(11,.lst .bool (pfl g x.2.1)),(12,.int .i64 (x.1:Int))],[(4,.row 3 (.int .i64) A),(5,.row 3 (.int .i64) (bO (x.2.2++[n+1])))],6⟩) (fun x=>x.2.1∈g∧last≤x.1∧x.1≤n∧x.2.2.length+x.1≤n∧dwn g l last n k0=dwn g l last x.1 x.2.1++x.2.2) (fun x=>x.1) (n,k0,[]) ⟨br hg0,hc2,ax _,by simp,by simp⟩ ?_ ?_
   ·dsimp only
    rw[show ((n:Int)+1-1)=(n:Int) by omega,dS,show bO [n+1]=[(n:Int)+1] from by rw[←e1];rfl]
    rfl
   rintro⟨x,cur,acc⟩ ⟨hcur,hx1,hx2,hx3,hdw⟩
   dsimp only at hcur hx1 hx2 hx3 hdw⊢
   have hrl:(bO (acc++[n+1])).length=acc.length+1:=by rw[gH];simp
   by_cases hlt2:last<x
   ·obtain⟨y,rfl⟩:∃y,x=y+1:=⟨x-1,by omega⟩
    have e2:((y+1:Nat):Int)-1=(y:Int):=by omega
    have hL:=BK g l (y+1) (by omega) (by omega) (by omega)
    cases hk:pN g l (y+1) with
    |none=>
     rw[uw hk] at hL
     rw[Eo (by omega) hk] at hdw
     generalize hrow:bO (acc++[n+1])=row at *
     (repeat' first|refine st ?_|refine sa fun xe hxe=>?_|refine sb (fun hq=>?_) fun hq=>?_|refine cr (hL) ?_|exact aa)
     refine⟨(y,cur,acc),⟨hcur,by dsimp only;omega,by dsimp only;omega,by dsimp only;omega,hdw⟩,by dsimp only;omega,?_⟩
     rw[e2]
     dsimp only
     rw[hrow]
    |some k=>
     obtain⟨m,hm,hgm⟩:=m4 hg hk
     rw[hm] at hL
     have hpf:=Ai (u:=cur) hgm
     by_cases hr:Rv g cur k
     ·rw[decide_eq_true hr] at hpf
      have hP:=Ah c g hg hgl m k hgm
      rw[xn (by omega) hk hr,bH] at hdw
      have hrow2:[((y+1:Nat):Int)]++bO (acc++[n+1])=bO (((y+1)::acc)++[n+1]):=rfl
      generalize hrow:bO (acc++[n+1])=row at *
      (repeat' first|refine st ?_|refine sa fun xe hxe=>?_|refine sb (fun hq=>?_) fun hq=>?_|refine cr (hL) ?_|refine cr (hP) ?_|exact aa)
      refine⟨(y,k,(y+1)::acc),⟨br hgm,by dsimp only;omega,by dsimp only;omega,by dsimp only;simp only[bF];omega,hdw⟩,by dsimp only;omega,?_⟩
      rw[e2]
      dsimp only
      rw[←hrow2]
     ·rw[decide_eq_false hr] at hpf
      rw[xl (by omega) hk hr] at hdw
      generalize hrow:bO (acc++[n+1])=row at *
      (repeat' first|refine st ?_|refine sa fun xe hxe=>?_|refine sb (fun hq=>?_) fun hq=>?_|refine cr (hL) ?_|exact aa)
      refine⟨(y,cur,acc),⟨hcur,by dsimp only;omega,by dsimp only;omega,by dsimp only;omega,hdw⟩,by dsimp only;omega,?_⟩
      rw[e2]
      dsimp only
      rw[hrow]
   ·rw[xm (x:=x) (by omega) cur,dS] at hdw
    have hfin:bO (acc++[n+1])=bO (chn g l (n+1) last):=by rw[hch,hdw]
    rw[hfin]
    rw[hfin] at hrl
    generalize hB:bO (chn g l (n+1) last)=B at *
    have hAl:A.length≤n:=by omega
    (repeat' first|refine st ?_|refine sa fun xe hxe=>?_|refine sb (fun hq=>?_) fun hq=>?_|exact aa)
    exact⟨n+1,by omega,by omega,by rw[hcn];dsimp only;rw[hap,e1]⟩
  ·have hd2:yX c g l (n+1)=false:=by simpa using hd
   have hcn:=jZ hd2
   rw[hdd] at hd2
   have hd2:=of_decide_eq_false hd2
   generalize qW c g l (n+1)=vt at *
   (repeat' first|refine st ?_|refine sa fun xe hxe=>?_|refine sb (fun hq=>?_) fun hq=>?_|refine cr (hV) ?_|refine cr (hS) ?_|exact aa)
   exact⟨n+1,by omega,by omega,by rw[hcn,e1]⟩
 ·obtain rfl:n=l.length:=by omega
  (repeat' first|refine st ?_|refine sa fun xe hxe=>?_|refine sb (fun hq=>?_) fun hq=>?_|exact aa)
  exact⟨rfl,rfl⟩
end Go.Proofs.YtpefhoohfkeflabGreatDoor.Am
namespace Go.Proofs.YtpefhoohfkeflabGreatDoor.Am
open Go
attribute [local irreducible] Mk ci Ari fF mI jx ca cR iW fv At ag
set_option maxRecDepth 10000
noncomputable def wvS (g:List Vtx) (l:List Int) (ws:List Nat) (w:Nat) (j:Nat):List Int:=(g.take j).map (wvk g l (ws++[w]))++(g.drop j).map (wvk g l ws)
theorem JO (g:List Vtx)(l:List Int)(ws:List Nat)(w j:Nat):(wvS g l ws w j).length=g.length:=by
 simp only[wvS,aP,aA,bP,lB]
 omega
theorem N7 (g:List Vtx)(l:List Int)(ws:List Nat)(w:Nat):wvS g l ws w 0=g.map (wvk g l ws):=by simp[wvS]
theorem JN (g:List Vtx)(l:List Int)(ws:List Nat)(w:Nat):wvS g l ws w g.length=g.map (wvk g l (ws++[w])):=by simp[wvS]
theorem Hj {g:List Vtx}{l:List Int}{ws:List Nat}{w j:Nat}{v:Vtx}(h:g[j]?=some v):(wvS g l ws w j)[j]?=some (wvk g l ws v):=by
 have hj:=(aR.1 h).1
 rw[wvS,eW (by simp;omega)]
 simp only[aA,bP,bf,nV]
 rw[show j+(j-min j g.length)=j by omega,h]
 rfl
theorem Cw {g:List Vtx}{l:List Int}{ws:List Nat}{w j:Nat}{v:Vtx}(h:g[j]?=some v):(wvS g l ws w j).set j (wvk g l (ws++[w]) v)=wvS g l ws w (j+1):=by
 obtain⟨hj,hv⟩:=aR.1 h
 have e1:g.take (j+1)=g.take j++[v]:=by rw[←hv];exact b9 hj
 have e2:g.drop j=v::g.drop (j+1):=by rw[←hv];exact(nF hj)
 have e3:(List.map (wvk g l (ws++[w])) (g.take j)).length=j:=by simp;omega
 rw[wvS,wvS,e1,e2,cf,bI,List.set_append_right _ _ (by omega),e3,kg,List.set_cons_zero,bH]
 rfl
theorem Hk {g:List Vtx}{l:List Int}{ws:List Nat}{w j:Nat}{v:Vtx}(h:g[j]?=some v)(he:wvk g l (ws++[w]) v=wvk g l ws v):wvS g l ws w j=wvS g l ws w (j+1):=by
 have h1:=Cw (l:=l) (ws:=ws) (w:=w) h
 rw[he] at h1
 rw[←h1]
 refine(nW fun k=>?_)
 rw[dp]
 by_cases e:j=k
 ·subst e
  have:=Hj (l:=l) (ws:=ws) (w:=w) h
  rw[if_pos rfl,if_pos (aR.1 this).1,this]
 ·rw[if_neg e]
theorem JP (g:List Vtx)(l:List Int)(v:Vtx):wvk g l [] v=0:=rfl
open Classical in
theorem NP (c:List Int)(g:List Vtx)(l:List Int)(hg:GraOK c g)(hgl:g.length≤1000000)(hl:leaS c l=true):ag Tryz.prog 128 [.lst (.int .i64) c,.lst .vtx g,.lst (.int .i64) l] [] (.lst (.int .i64) (g.map (wvk g l (cmt c g l l.length).1))) []:=by
 have hll:=(bR.1 hl).2
 have hW:=OW c g l hg hgl hl
 have hcl:=mP c g l hg.com l.length
 have hcm:=mO (g:=g) hg.com l l.length
 have hfit:le 8 (((g.length:Nat):Int).toNat):=by unfold le;omega
 generalize (cmt c g l l.length).1=W at *
 have hil:=gH W
 refine ab aj Tryz.func128 rfl rfl true 0 4 rfl rfl rfl rfl fun K hK hb1 hb2=>?_;simp only[ae,enc,Nat.reduceAdd]
 clear hb1 hb2
 (repeat' first|refine st ?_|refine sa fun xe hxe=>?_|refine sb (fun hq=>?_) fun hq=>?_|refine cr (hW) ?_|exact aa)
 refine ah hK [] [1,2,7,8,9] (fun i:Nat=>⟨[(1,.lst .vtx g),(2,.lst (.int .i64) l),(7,.ref 4),(8,.lst (.int .i64) (bO W)),(9,.int .i64 (i:Int))],[(4,.row 3 (.int .i64) (g.map (wvk g l (W.take i))))],5⟩) (fun i=>i≤W.length) (fun i=>W.length-i) 0 (aX _) ?_ ?_
 ·have e:List.replicate ((g.length:Int).toNat) (0:Int)=g.map (wvk g l (W.take 0)):=by
   rw[List.take_zero,show ((g.length:Int).toNat)=g.length by omega]
   refine(List.ext_getElem (by simp) fun k h1 h2=>?_)
   simp[JP]
  rw[←e]
  rfl
 intro i hi
 by_cases hlt:i<W.length
 ·obtain⟨w,hw⟩:∃w,W[i]?=some w:=⟨_,am hlt⟩
  have hwx:(bO W)[i]?=some (w:Int):=by rw[bO,bf,hw];rfl
  obtain⟨w1,w2,k,hk⟩:=hcm w (br hw)
  have htk:W.take (i+1)=W.take i++[w]:=by
   obtain⟨h1,h2⟩:=aR.1 hw
   rw[←h2];exact b9 h1
  have hpos:∀x∈W.take i,1≤x:=fun x hx=>(hcm x (jX hx)).1
  obtain⟨n,hn,hgn⟩:=m4 hg hk
  have hL:=BK g l w w1 w2 (by omega)
  rw[hn] at hL
  have hP:=Ah c g hg hgl n k hgn
  generalize W.take i=ws at *
  (repeat' first|refine st ?_|refine sa fun xe hxe=>?_|refine sb (fun hq=>?_) fun hq=>?_|refine cr (hL) ?_|refine cr (hP) ?_|exact aa)
  clear hL hP hW
  refine ah hK [] [1,2,7,8,9,10,11] (fun j:Nat=>⟨[(1,.lst .vtx g),(2,.lst (.int .i64) l),(7,.ref 4),(8,.lst (.int .i64) (bO W)),(9,.int .i64 (i:Int)),(10,.lst .bool (pfl g k)),(11,.int .i64 (j:Int))],[(4,.row 3 (.int .i64) (wvS g l ws w j))],5⟩) (fun j=>j≤g.length) (fun j=>g.length-j) 0 (aX _) (by rw[N7];rfl) ?_
  intro j hj
  have hrl:=JO g l ws w j
  by_cases hjl:j<g.length
  ·have hxe:g[j]?=some g[j]:=am hjl
   have hpf:=Ai (u:=k) hxe
   have hat:=Hj (l:=l) (ws:=ws) (w:=w) hxe
   have hst:=Cw (l:=l) (ws:=ws) (w:=w) hxe
   have hsk:=Hk (l:=l) (ws:=ws) (w:=w) hxe
   have hvr:=(bG (hg.vtx _ (br hxe))).1
   have hsn:=tJ g l ws w g[j] hpos
   have hiw:yY g l w g[j]↔Rv g k g[j]∧2*(w:Int)-7≤g[j].round:=by
    unfold yY
    rw[hk]
    exact⟨fun ⟨k',e,h1,h2⟩=>by obtain rfl:=aq e;exact⟨h1,h2⟩,fun ⟨h1,h2⟩=>⟨k,rfl,h1,h2⟩⟩
   generalize g[j]=v at *
   generalize wvk g l ws v=o at *
   generalize wvk g l (ws++[w]) v=o2 at *
   generalize hrow:wvS g l ws w j=row at *
   by_cases hr:Rv g k v
   ·rw[decide_eq_true hr] at hpf
    by_cases ho:o=0
    ·by_cases hd:2*(w:Int)-7≤v.round
     ·rw[if_pos ⟨ho,hiw.2 ⟨hr,hd⟩⟩] at hsn
      rw[hsn] at hst
      (repeat' first|refine st ?_|refine sa fun xe hxe=>?_|refine sb (fun hq=>?_) fun hq=>?_|exact aa)
      (try any_goals(first|exact absurd trivial hq|exact absurd rfl hq|exact absurd hq (by omega)|(exfalso;simp at hq;done)))
      exact⟨j+1,by omega,by omega,by rw[←hst];rfl⟩
     ·rw[if_neg (fun h=>hd (hiw.1 h.2).2)] at hsn
      have hsk:=hsk hsn
      (repeat' first|refine st ?_|refine sa fun xe hxe=>?_|refine sb (fun hq=>?_) fun hq=>?_|exact aa)
      (try any_goals(first|exact absurd trivial hq|exact absurd rfl hq|exact absurd hq (by omega)|(exfalso;simp at hq;done)))
      exact⟨j+1,by omega,by omega,by rw[←hsk];rfl⟩
    ·rw[if_neg (fun h=>ho h.1)] at hsn
     have hsk:=hsk hsn
     (repeat' first|refine st ?_|refine sa fun xe hxe=>?_|refine sb (fun hq=>?_) fun hq=>?_|exact aa)
     (try any_goals(first|exact absurd trivial hq|exact absurd rfl hq|exact absurd hq (by omega)|(exfalso;simp at hq;done)))
     exact⟨j+1,by omega,by omega,by rw[←hsk];rfl⟩
   ·rw[decide_eq_false hr] at hpf
    rw[if_neg (fun h=>hr (hiw.1 h.2).1)] at hsn
    have hsk:=hsk hsn
    (repeat' first|refine st ?_|refine sa fun xe hxe=>?_|refine sb (fun hq=>?_) fun hq=>?_|exact aa)
    (try any_goals(first|exact absurd trivial hq|exact absurd rfl hq|exact absurd hq (by omega)|(exfalso;simp at hq;done)))
    exact⟨j+1,by omega,by omega,by rw[←hsk];rfl⟩
  ·obtain rfl:j=g.length:=by omega
   have hend:=JN g l ws w
   rw[←htk] at hend
   rw[hend]
   (repeat' first|refine st ?_|refine sa fun xe hxe=>?_|refine sb (fun hq=>?_) fun hq=>?_|exact aa)
   (try any_goals(first|exact absurd trivial hq|exact absurd rfl hq|exact absurd hq (by omega)|(exfalso;simp at hq;done)))
   exact⟨i+1,by omega,by omega,rfl⟩
 ·obtain rfl:i=W.length:=by omega
  rw[iS]
  (repeat' first|refine st ?_|refine sa fun xe hxe=>?_|refine sb (fun hq=>?_) fun hq=>?_|exact aa)
  (try any_goals(first|exact absurd trivial hq|exact absurd rfl hq|exact absurd hq (by omega)|(exfalso;simp at hq;done)))
  exact⟨rfl,rfl⟩
theorem Cj (xs:List Int)(w:Int)(n:Nat):(yZ xs w n).length≤n:=by
 unfold yZ
 rw[aA]
 exact cu (mG _ _) (by simp)
theorem qa (xs:List Int):∀m:Nat,(jR xs m).length≤m*xs.length
 |0=>by simp[jR]
 |m+1=>by
  rw[tv,aP]
  have h1:=qa xs m
  have h2:=Cj xs ((m+1:Nat):Int) xs.length
  rw[Nat.succ_mul]
  omega
theorem Ms {xs:List Int}{w:Int}{n:Nat}:∀x∈yZ xs w n,0≤x∧x<n:=by
 intro x hx
 obtain⟨i,hi,rfl⟩:=aB.1 hx
 have:=eN.1 (eM.1 hi).1
 omega
theorem GC {xs:List Int}{m:Nat}:∀x∈jR xs m,0≤x∧x<xs.length:=by
 intro x hx
 obtain⟨w,-,hw⟩:=d8.1 hx
 exact Ms x hw
theorem NQ (c:List Int)(g:List Vtx)(l:List Int)(hg:GraOK c g)(hgl:g.length≤10000)(hl:leaS c l=true):ag Tryz.prog 92 [.lst (.int .i64) c,.lst .vtx g,.lst (.int .i64) l] [] (.lst (.int .i64) (jR (g.map (wvk g l (cmt c g l l.length).1)) l.length)) []:=by
 have hll:=(bR.1 hl).2
 have hW:=NP c g l hg (by omega) hl
 have hxl:(g.map (wvk g l (cmt c g l l.length).1)).length=g.length:=by simp
 generalize g.map (wvk g l (cmt c g l l.length).1)=xs at *
 refine ab aj Tryz.func92 rfl rfl true 0 4 rfl rfl rfl rfl fun K hK hb1 hb2=>?_;simp only[ae,enc,Nat.reduceAdd]
 clear hb1 hb2
 (repeat' first|refine st ?_|refine sa fun xe hxe=>?_|refine sb (fun hq=>?_) fun hq=>?_|refine cr (hW) ?_|exact aa)
 clear hW
 refine ah hK [] [1,2,7,8,9] (fun m:Nat=>⟨[(1,.lst .vtx g),(2,.lst (.int .i64) l),(7,.ref 4),(8,.lst (.int .i64) xs),(9,.int .i64 ((m:Int)+1))],[(4,.row 3 (.int .i64) (jR xs m))],5⟩) (fun m=>m≤l.length) (fun m=>l.length-m) 0 (aX _) rfl ?_
 intro m hm
 have hsl:=qa xs m
 have hsl2:(jR xs m).length≤150000:=by
  refine cu hsl ?_
  rw[hxl]
  exact cu (Nat.mul_le_mul (show m≤15 by omega) hgl) (by omega)
 have hsn:=tv xs m
 by_cases hlt:m<l.length
 ·have e1:(((m+1:Nat)):Int)=(m:Int)+1:=by omega
  rw[e1] at hsn
  generalize hA:jR xs m=A at *
  (repeat' first|refine st ?_|refine sa fun xe hxe=>?_|refine sb (fun hq=>?_) fun hq=>?_|exact aa)
  refine ah hK [] [1,2,7,8,9,10] (fun j:Nat=>⟨[(1,.lst .vtx g),(2,.lst (.int .i64) l),(7,.ref 4),(8,.lst (.int .i64) xs),(9,.int .i64 ((m:Int)+1)),(10,.int .i64 (j:Int))],[(4,.row 3 (.int .i64) (A++yZ xs ((m:Int)+1) j))],5⟩) (fun j=>j≤g.length) (fun j=>g.length-j) 0 (aX _) (by rw[show yZ xs ((m:Int)+1) 0=[] from rfl,gy];rfl) ?_
  intro j hj
  have hjl:=Cj xs ((m:Int)+1) j
  have hal:(A++yZ xs ((m:Int)+1) j).length=A.length+(yZ xs ((m:Int)+1) j).length:=by simp
  by_cases hjlt:j<g.length
  ·have hxe:xs[j]?=some xs[j]:=am (by omega)
   have hsj:=GD (w:=(m:Int)+1) hxe
   generalize xs[j]=x at *
   by_cases hx:x=(m:Int)+1
   ·rw[if_pos hx] at hsj
    generalize hB:A++yZ xs ((m:Int)+1) j=B at *
    (repeat' first|refine st ?_|refine sa fun xe hxe=>?_|refine sb (fun hq=>?_) fun hq=>?_|exact aa)
    (try any_goals(first|exact absurd trivial hq|exact absurd rfl hq|exact absurd hq (by omega)|(exfalso;simp at hq;done)))
    exact⟨j+1,by omega,by omega,by rw[hsj,←bH,hB];rfl⟩
   ·rw[if_neg hx] at hsj
    generalize hB:A++yZ xs ((m:Int)+1) j=B at *
    (repeat' first|refine st ?_|refine sa fun xe hxe=>?_|refine sb (fun hq=>?_) fun hq=>?_|exact aa)
    (try any_goals(first|exact absurd trivial hq|exact absurd rfl hq|exact absurd hq (by omega)|(exfalso;simp at hq;done)))
    exact⟨j+1,by omega,by omega,by rw[hsj,hB];rfl⟩
  ·obtain rfl:j=g.length:=by omega
   rw[←hxl,←hsn]
   (repeat' first|refine st ?_|refine sa fun xe hxe=>?_|refine sb (fun hq=>?_) fun hq=>?_|exact aa)
   (try any_goals(first|exact absurd trivial hq|exact absurd rfl hq|exact absurd hq (by omega)|(exfalso;simp at hq;done)))
   exact⟨m+1,by omega,by omega,by rw[e1]⟩
 ·obtain rfl:m=l.length:=by omega
  (repeat' first|refine st ?_|refine sa fun xe hxe=>?_|refine sb (fun hq=>?_) fun hq=>?_|exact aa)
  (try any_goals(first|exact absurd trivial hq|exact absurd rfl hq|exact absurd hq (by omega)|(exfalso;simp at hq;done)))
  exact⟨rfl,rfl⟩
end Go.Proofs.YtpefhoohfkeflabGreatDoor.Am
namespace Go.Proofs.YtpefhoohfkeflabGreatDoor.Am
open Go
attribute [local irreducible] Mk ci Ari fF mI jx ca cR iW fv At ag
set_option maxRecDepth 10000
def wI (k:Int)(m i:Nat):Evt:=⟨k,m,i,v0⟩
def wH (k:Int)(w:Wrl)(i:Nat):Nat→Wrl
 |0=>w
 |m+1=>jw (wH k w i m) (wI k m i)
def om (k:Int)(w:Wrl):Nat→Wrl
 |0=>w
 |i+1=>wH k (om k w i) i (om k w i).com.length
def Hw (k:Int)(w:Wrl)(i:Nat)(b:Bool):Nat→Bool
 |0=>b
 |m+1=>Hw k w i b m||tS (wH k w i m) (wI k m i)
def AZ (k:Int)(w:Wrl):Nat→Bool
 |0=>false
 |i+1=>Hw k (om k w i) i (AZ k w i) (om k w i).com.length
theorem vn {k:Int}{w:Wrl}(h:WOK w)(i:Nat):∀m,WOK (wH k w i m)
 |0=>h
 |m+1=>Ap (vn h i m) _
theorem zx {k:Int}{w:Wrl}(h:WOK w):∀i,WOK (om k w i)
 |0=>h
 |i+1=>vn (zx h i) i _
theorem NR (w:Wrl)(m i:Nat):jw w (wI 2 m i)=eS w m i:=rfl
theorem NS (w:Wrl)(m i:Nat):jw w (wI 3 m i)=dD w m i:=rfl
theorem Ep (w:Wrl)(i:Nat):∀m,wH 2 w i m=iP w i m
 |0=>rfl
 |m+1=>by rw[wH,NR,Ep w i m];rfl
theorem Et (w:Wrl):∀i,om 2 w i=dd w i
 |0=>rfl
 |i+1=>by rw[om,Ep,Et w i];rfl
theorem Be (w:Wrl)(i:Nat):∀m,wH 3 w i m=dN w i m
 |0=>rfl
 |m+1=>by rw[wH,NS,Be w i m];rfl
theorem Bf (w:Wrl):∀i,om 3 w i=ce w i
 |0=>rfl
 |i+1=>by rw[om,Be,Bf w i];rfl
theorem HR {k:Int}(hk:k=2∨k=3)(w:Wrl)(i m:Nat):(wH k w i m).com=w.com∧(wH k w i m).props.length=w.props.length:=by
 rcases hk with rfl|rfl
 ·rw[Ep]
  exact np w i m
 ·rw[Be]
  exact⟨(kk w i m).1,by rw[(kk w i m).2]⟩
theorem HS {k:Int}(hk:k=2∨k=3)(w:Wrl)(i:Nat):(om k w i).com=w.com∧(om k w i).props.length=w.props.length:=by
 rcases hk with rfl|rfl
 ·rw[Et]
  exact fE w i
 ·rw[Bf]
  exact⟨(eI w i).1,by rw[(eI w i).2]⟩
theorem Nb {w:Wrl}(h:WOK w)(m i:Nat):tS w (wI 3 m i)=decide (fN w<fN (dD w m i)):=by
 have e:tS w (wI 3 m i)=fe w m i:=rfl
 rw[e]
 rcases lw h m i with⟨h1,h2⟩|⟨h1,h2⟩
 ·rw[h1,h2];simp
 ·rw[h1,h2];simp
theorem JU {w:Wrl}(h:WOK w)(i:Nat){b:Bool}{n:Nat}(hn:n≤fN w)(hb:b=decide (n<fN w)):∀m,Hw 3 w i b m=decide (n<fN (dN w i m))∧n≤fN (dN w i m)
 |0=>⟨hb,hn⟩
 |m+1=>by
  obtain⟨h1,h2⟩:=JU h i hn hb m
  have h3:=lU h i m
  rw[Hw,h1,Be,Nb h3]
  have h4:fN (dN w i m)≤fN (dN w i (m+1)):=by
   rcases lw h3 m i with⟨-,e⟩|⟨-,e⟩
   ·show _≤fN (dD _ _ _);rw[e];exact ax _
   ·show _≤fN (dD _ _ _);rw[e];omega
  refine⟨?_,by omega⟩
  rw[dR,cN,decide_eq_true_iff,decide_eq_true_iff,decide_eq_true_iff]
  show _∨fN (dN w i m)<fN (dN w i (m+1))↔_
  omega
theorem JV {w:Wrl}(h:WOK w):∀i,AZ 3 w i=decide (fN w<fN (ce w i))∧fN w≤fN (ce w i)
 |0=>⟨by rw[AZ,ce];simp,ax _⟩
 |i+1=>by
  obtain⟨h1,h2⟩:=JV h i
  have:=JU (kG h i) i h2 h1 (ce w i).com.length
  rw[AZ,Bf]
  exact this
abbrev Xm:Type:=List (Option (List Int))×List PplM
theorem Bk (w:Wrl)(xss:List (Option (List Int)))(ms:List PplM)(hw:WOK w)(hR:Rel w.props xss ms){k:Int}(hk:k=2∨k=3)(m i:Nat):∃x:Xm,(Rel (jw w (wI k m i)).props x.1 x.2∧xss.length≤x.1.length)∧ag Tryz.prog 147 [.ptr 4 0,tY (wI k m i)] (rW 0 w xss ms) (.bool (tS w (wI k m i))) (rW 0 (jw w (wI k m i)) x.1 x.2):=by
 refine vM w xss ms hw hR (wI k m i) ?_
 unfold wN wI
 rcases hk with rfl|rfl<;>rfl
theorem Er {k:Int}(hk:k=2∨k=3){w:Wrl}(hw:WOK w)(i:Nat){x:Xm}(hR:Rel w.props x.1 x.2):∀m,∃y:Xm,Rel (wH k w i m).props y.1 y.2∧x.1.length≤y.1.length
 |0=>⟨x,hR,ax _⟩
 |m+1=>by
  obtain⟨y,h1,h2⟩:=Er hk hw i hR m
  obtain⟨z,⟨h3,h4⟩,-⟩:=Bk _ y.1 y.2 (vn hw i m) h1 hk m i
  exact⟨z,h3,cu h2 h4⟩
theorem Eu {k:Int}(hk:k=2∨k=3){w:Wrl}(hw:WOK w){x:Xm}(hR:Rel w.props x.1 x.2):∀i,∃y:Xm,Rel (om k w i).props y.1 y.2∧x.1.length≤y.1.length
 |0=>⟨x,hR,ax _⟩
 |i+1=>by
  obtain⟨y,h1,h2⟩:=Eu hk hw hR i
  obtain⟨z,h3,h4⟩:=Er hk (zx hw i) i h1 (om k w i).com.length
  exact⟨z,h3,cu h2 h4⟩
theorem CR {w u:Wrl}(h:u.views.length=w.views.length):bA (VB.fvari 143 217 (.ob .vtx) (w.views.map aT))≤bA (VB.fvari 143 217 (.ob .vtx) (u.views.map aT)):=by
 show (w.views.map aT).length≤(u.views.map aT).length
 rw[aA,aA,h]
 exact ax _
theorem vC {xs ys:List (Option (List Int))}(h:xs.length≤ys.length):bA (VB.frowx 3 (.int .i64) xs)≤bA (VB.frowx 3 (.int .i64) ys):=h
set_option maxHeartbeats 1000000 in
theorem BB {k:Int}(hk:k=2∨k=3)(w:Wrl)(x0:Xm)(hw:WOK w)(hR:Rel w.props x0.1 x0.2):∃x:Xm,(Rel (om k w w.props.length).props x.1 x.2∧x0.1.length≤x.1.length)∧ag Tryz.prog 149 [.ptr 4 0,.int .i64 k] (rW 0 w x0.1 x0.2) (.bool (AZ k w w.props.length)) (rW 0 (om k w w.props.length) x.1 x.2):=by
 obtain⟨y0,hy0⟩:=Eu hk hw hR w.props.length
 suffices hs:∃r hout,(∃x:Xm,(Rel (om k w w.props.length).props x.1 x.2∧x0.1.length≤x.1.length)∧r= .bool (AZ k w w.props.length)∧hout=rW 0 (om k w w.props.length) x.1 x.2)∧ag Tryz.prog 149 [.ptr 4 0,.int .i64 k] (rW 0 w x0.1 x0.2) r hout by
  obtain⟨r,hout,⟨v,hv,rfl,rfl⟩,h⟩:=hs
  exact⟨v,hv,h⟩
 refine lS bS Tryz.func149 rfl rfl false 3 7 rfl rfl rfl rfl (R:=fun r hout=>∃x:Xm,(Rel (om k w w.props.length).props x.1 x.2∧x0.1.length≤x.1.length)∧r= .bool (AZ k w w.props.length)∧hout=rW 0 (om k w w.props.length) x.1 x.2) (r0:=.bool (AZ k w w.props.length)) (hout0:=rW 0 (om k w w.props.length) y0.1 y0.2) (⟨y0,hy0,rfl,rfl⟩) fun K hK hb1 hb2=>?_;simp only[ae,enc,Nat.reduceAdd]
 clear hb1 hb2
 have h7:=hw.len
 have hpl:=hw.plen
 have hml:=hR.len
 (repeat' first|refine cg ?_|refine sa fun xe hxe=>?_|refine sb (fun hq=>?_) fun hq=>?_|exact aa)
 refine ah hK [] [0,1,5,12,13] (fun x:Nat×Xm=>⟨[(0,.ptr 4 0),(1,.int .i64 k),(5,.bool (AZ k w x.1)),(12,.int .i64 w.props.length),(13,.int .i64 (x.1:Int))],rW 0 (om k w x.1) x.2.1 x.2.2,7⟩) (fun x=>x.1≤w.props.length∧Rel (om k w x.1).props x.2.1 x.2.2∧x0.1.length≤x.2.1.length) (fun x=>w.props.length-x.1) (0,x0) ⟨aX _,hR,ax _⟩ (by rw[←hml];rfl) ?_
 rintro⟨i,xs,ms⟩ ⟨hi,hRi,hxi⟩
 dsimp only at hi hRi hxi⊢
 have hoi:=zx (k:=k) hw i
 have hci:=HS hk w i
 have hsu:om k w (i+1)=wH k (om k w i) i (om k w i).com.length:=rfl
 have hsc:AZ k w (i+1)=Hw k (om k w i) i (AZ k w i) (om k w i).com.length:=rfl
 by_cases hlt:i<w.props.length
 ·generalize om k w i=y at *
  generalize AZ k w i=b at *
  have hyc:y.com.length=w.com.length:=by rw[hci.1]
  (repeat' first|refine cg ?_|refine sa fun xe hxe=>?_|refine sb (fun hq=>?_) fun hq=>?_|exact aa)
  refine ah hK [] [0,1,5,6,12,13,20,21] (fun x:Nat×Xm=>⟨[(0,.ptr 4 0),(1,.int .i64 k),(5,.bool (Hw k y i b x.1)),(6,.int .i64 (i:Int)),(12,.int .i64 w.props.length),(13,.int .i64 (i:Int)),(20,.int .i64 y.com.length),(21,.int .i64 (x.1:Int))],rW 0 (wH k y i x.1) x.2.1 x.2.2,7⟩) (fun x=>x.1≤y.com.length∧Rel (wH k y i x.1).props x.2.1 x.2.2∧x0.1.length≤x.2.1.length) (fun x=>y.com.length-x.1) (0,xs,ms) ⟨aX _,hRi,hxi⟩ rfl ?_
  rintro⟨m,xs,ms⟩ ⟨hm,hRm,hxm⟩
  dsimp only at hm hRm hxm⊢
  have hom:=vn (k:=k) hoi i m
  have hcm:=HR hk y i m
  have hmu:wH k y i (m+1)=jw (wH k y i m) (wI k m i):=rfl
  have hmc:Hw k y i b (m+1)=(Hw k y i b m||tS (wH k y i m) (wI k m i)):=rfl
  by_cases hml:m<y.com.length
  ·generalize wH k y i m=z at *
   generalize Hw k y i b m=b2 at *
   obtain⟨⟨xs',ms'⟩,⟨hR',hx⟩,hC⟩:=Bk z xs ms hom hRm hk m i
   have hF0:=HZ (w:=z) (e:=wI k m i)
   have hF1:=vC hx
   have hC:ag Tryz.prog 147 [.ptr 4 0,.agg [.int .i64 k,.int .i64 (m:Int),.int .i64 (i:Int),.int .i64 0,.int .i64 0,.lst (.int .i64) [],.int .i64 0]] (rW 0 z xs ms) (.bool (tS z (wI k m i))) (rW 0 (jw z (wI k m i)) xs' ms'):=hC
   cases hcg:tS z (wI k m i)
   ·rw[hcg] at hC hmc
    rw[kf] at hmc
    (repeat' first|refine cg ?_|refine sa fun xe hxe=>?_|refine sb (fun hq=>?_) fun hq=>?_|refine cr (hC) ?_|exact aa)
    refine⟨(m+1,xs',ms'),⟨by dsimp only;omega,by dsimp only;rw[hmu];exact hR',by dsimp only at hx⊢;omega⟩,by dsimp only;omega,?_⟩
    dsimp only
    rw[hmu,hmc]
    rfl
   ·rw[hcg] at hC hmc
    rw[Bool.or_true] at hmc
    (repeat' first|refine cg ?_|refine sa fun xe hxe=>?_|refine sb (fun hq=>?_) fun hq=>?_|refine cr (hC) ?_|exact aa)
    refine⟨(m+1,xs',ms'),⟨by dsimp only;omega,by dsimp only;rw[hmu];exact hR',by dsimp only at hx⊢;omega⟩,by dsimp only;omega,?_⟩
    dsimp only
    rw[hmu,hmc]
    rfl
  ·obtain rfl:m=y.com.length:=by omega
   rw[←hsu] at hRm
   rw[←hsu,←hsc]
   generalize hz:om k w (i+1)=z at *
   generalize hb:AZ k w (i+1)=b2 at *
   (repeat' first|refine cg ?_|refine sa fun xe hxe=>?_|refine sb (fun hq=>?_) fun hq=>?_|exact aa)
   refine⟨(i+1,xs,ms),⟨by dsimp only;omega,by dsimp only;rw[hz];exact hRm,hxm⟩,by dsimp only;omega,?_⟩
   dsimp only
   rw[hz,hb]
   rfl
 ·obtain rfl:i=w.props.length:=by omega
  (repeat' first|refine cg ?_|refine sa fun xe hxe=>?_|refine sb (fun hq=>?_) fun hq=>?_|exact aa)
  exact⟨(xs,ms),⟨hRi,hxi⟩,rfl,rfl⟩
theorem Fq (w:Wrl)(x0:Xm)(hw:WOK w)(hR:Rel w.props x0.1 x0.2):∃x:Xm,(Rel (iw w).props x.1 x.2∧x0.1.length≤x.1.length)∧ag Tryz.prog 149 [.ptr 4 0,.int .i64 2] (rW 0 w x0.1 x0.2) (.bool (AZ 2 w w.props.length)) (rW 0 (iw w) x.1 x.2):=by
 have h:=BB (k:=2) (.inl rfl) w x0 hw hR
 rw[Et] at h
 exact h
theorem zO (w:Wrl)(x0:Xm)(hw:WOK w)(hR:Rel w.props x0.1 x0.2):∃x:Xm,(Rel (pass w).props x.1 x.2∧x0.1.length≤x.1.length)∧ag Tryz.prog 149 [.ptr 4 0,.int .i64 3] (rW 0 w x0.1 x0.2) (.bool (decide (fN w<fN (pass w)))) (rW 0 (pass w) x.1 x.2):=by
 have h:=BB (k:=3) (.inr rfl) w x0 hw hR
 rw[Bf,(JV hw _).1] at h
 exact h
theorem MD:∀(n:Nat) {w:Wrl},1519-fN w≤n→∀{x:Xm},WOK w→Rel w.props x.1 x.2→∃y:Xm,Rel (cV w).props y.1 y.2∧x.1.length≤y.1.length:=by
 intro n
 induction n with
 |zero=>
  intro w hn x hw hR
  obtain⟨y,h,-⟩:=zO w x hw hR
  rw[cV]
  split
  ·omega
  ·exact⟨y,h⟩
 |succ n ih=>
  intro w hn x hw hR
  obtain⟨y,⟨h1,h2⟩,-⟩:=zO w x hw hR
  rw[cV]
  split
  ·obtain⟨z,h3,h4⟩:=ih (by omega) (oP hw) h1
   exact⟨z,h3,cu h2 h4⟩
  ·exact⟨y,h1,h2⟩
theorem wj:∀(n:Nat) {w:Wrl},1519-fN w≤n→(cV w).com=w.com:=by
 intro n
 induction n with
 |zero=>
  intro w hn
  rw[cV]
  split
  ·omega
  ·exact(eI w _).1
 |succ n ih=>
  intro w hn
  rw[cV]
  split
  ·rw[ih (by omega)];exact(eI w _).1
  ·exact(eI w _).1
theorem jd {w u:Wrl}(hw:WOK w)(hu:WOK u)(h:u.com=w.com):u.views.length=w.views.length:=by rw[hu.vlen,hw.vlen,h]
set_option maxHeartbeats 1000000 in
theorem zT (w:Wrl)(x0:Xm)(hw:WOK w)(hR:Rel w.props x0.1 x0.2):∃x:Xm,(Rel (cV w).props x.1 x.2∧x0.1.length≤x.1.length)∧ag Tryz.prog 148 [.ptr 4 0] (rW 0 w x0.1 x0.2) (.tup []) (rW 0 (cV w) x.1 x.2):=by
 obtain⟨y0,hy0⟩:=MD _ (ax _) hw hR
 suffices hs:∃r hout,(∃x:Xm,(Rel (cV w).props x.1 x.2∧x0.1.length≤x.1.length)∧r= .tup []∧hout=rW 0 (cV w) x.1 x.2)∧ag Tryz.prog 148 [.ptr 4 0] (rW 0 w x0.1 x0.2) r hout by
  obtain⟨r,hout,⟨v,hv,rfl,rfl⟩,h⟩:=hs
  exact⟨v,hv,h⟩
 refine lS bS Tryz.func148 rfl rfl false 3 7 rfl rfl rfl rfl (R:=fun r hout=>∃x:Xm,(Rel (cV w).props x.1 x.2∧x0.1.length≤x.1.length)∧r= .tup []∧hout=rW 0 (cV w) x.1 x.2) (r0:=.tup []) (hout0:=rW 0 (cV w) y0.1 y0.2) (⟨y0,hy0,rfl,rfl⟩) fun K hK hb1 hb2=>?_;simp only[ae,enc,Nat.reduceAdd]
 clear hb1 hb2
 (repeat' first|refine cg ?_|refine sa fun xe hxe=>?_|refine sb (fun hq=>?_) fun hq=>?_|exact aa)
 refine ah hK [] [0] (fun x:Wrl×Xm=>⟨[(0,.ptr 4 0)],rW 0 x.1 x.2.1 x.2.2,7⟩) (fun x=>WOK x.1∧(Rel x.1.props x.2.1 x.2.2∧x0.1.length≤x.2.1.length)∧x.1.com=w.com∧cV x.1=cV w) (fun x=>1520-fN x.1) (w,x0) ⟨hw,⟨hR,ax _⟩,rfl,rfl⟩ rfl ?_
 rintro⟨u,xs,ms⟩ ⟨hu,⟨hRu,hxu⟩,huc,hus⟩
 dsimp only at hu hRu hxu huc hus⊢
 obtain⟨⟨xs',ms'⟩,⟨hR',hx⟩,hC⟩:=zO u (xs,ms) hu hRu
 dsimp only at hR' hx hC
 have hpo:=oP hu
 have hpc:(pass u).com=u.com:=(eI u _).1
 have hF0:=CR (jd hu hpo hpc)
 have hF1:=vC hx
 have htl:=ww hpo
 have htx:=ww hu
 have e1:fN u<fN (pass u)→cV u=cV (pass u):=fun hh=>by
  rw[cV]
  exact dif_pos ⟨hh,htl⟩
 have e2:¬fN u<fN (pass u)→cV u=pass u:=fun hh=>by
  rw[cV]
  exact dif_neg fun h9=>hh h9.1
 generalize pass u=z at *
 by_cases hh:fN u<fN z
 ·rw[decide_eq_true hh] at hC
  (repeat' first|refine cg ?_|refine sa fun xe hxe=>?_|refine sb (fun hq=>?_) fun hq=>?_|refine cr (hC) ?_|exact aa)
  exact⟨(z,xs',ms'),⟨hpo,⟨hR',by dsimp only at hx⊢;omega⟩,by rw[hpc];exact huc,by rw[←e1 hh];exact hus⟩,by dsimp only;omega,rfl⟩
 ·rw[decide_eq_false hh] at hC
  have e3:=e2 hh
  (repeat' first|refine cg ?_|refine sa fun xe hxe=>?_|refine sb (fun hq=>?_) fun hq=>?_|refine cr (hC) ?_|exact aa)
  refine⟨(xs',ms'),⟨?_,?_⟩,rfl,?_⟩
  ·rw[←hus,e3];exact hR'
  ·dsimp only;omega
  ·rw[←hus,e3]
theorem w7 {w:Wrl}:∀r,(aU w r).com=w.com
 |0=>wj _ (ax _)
 |r+1=>by
  have h1:∀u:Wrl,(fk u).com=u.com:=fun u=>(wj _ (ax _)).trans (fE u _).1
  show (fk _).com=_
  rw[h1,m9,h1]
  exact w7 r
set_option maxHeartbeats 4000000 in
theorem Ig (w:Wrl)(r:Int)(hl:∀g∈w.views,g.length≤2000000)(hr:-1000000≤r∧r≤1000000):ag Tryz.prog 112 [bd w,.int .i64 r] [] (if decide (0≤r∧r≤12) && kT w then bd (aU w r.toNat) else JL) []:=by
 have he:=nu w
 refine ab bS Tryz.func112 rfl rfl true 0 4 rfl rfl rfl rfl fun K hK hb1 hb2=>?_;simp only[ae,enc,Nat.reduceAdd]
 clear hb1 hb2
 by_cases hr0:r<0
 ·(repeat' first|refine cg ?_|refine sa fun xe hxe=>?_|refine sb (fun hq=>?_) fun hq=>?_|exact aa)
  rw[decide_eq_false (p:=0≤r∧r≤12) (by omega)]
  exact⟨rfl,rfl⟩
 by_cases hr1:12<r
 ·(repeat' first|refine cg ?_|refine sa fun xe hxe=>?_|refine sb (fun hq=>?_) fun hq=>?_|exact aa)
  rw[decide_eq_false (p:=0≤r∧r≤12) (by omega)]
  exact⟨rfl,rfl⟩
 rw[decide_eq_true (p:=0≤r∧r≤12) (by omega),d9]
 cases hp:gq w
 ·have hO:=Fl w hl hp
  rw[hp,iD] at he
  (repeat' first|refine cg ?_|refine sa fun xe hxe=>?_|refine sb (fun hq=>?_) fun hq=>?_|refine cr (hO) ?_|exact aa)
  rw[he]
  exact⟨rfl,rfl⟩
 have hO:=Fm w hl hp
 cases hs:kT w
 ·rw[hs] at hO
  (repeat' first|refine cg ?_|refine sa fun xe hxe=>?_|refine sb (fun hq=>?_) fun hq=>?_|refine cr (hO) ?_|exact aa)
  exact⟨rfl,rfl⟩
 rw[hs] at hO
 have hw:=ig.1 hs
 obtain⟨⟨xs0,ms0⟩,⟨hR0,hx0⟩,hC0⟩:=zT w (w.props.map fun p=>some p.members,ua w.props) hw (Mg _)
 dsimp only at hR0 hx0 hC0
 have hF0:=CR (jd hw (iX hw 0) (w7 0))
 have hF1:=vC hx0
 rw[show cV w=aU w 0 from rfl] at hR0 hC0
 (repeat' first|refine cg ?_|refine sa fun xe hxe=>?_|refine sb (fun hq=>?_) fun hq=>?_|refine cr (hO) ?_|refine cr (hC0) ?_|exact aa)
 clear hO hC0 hF0 hF1
 refine ah hK [] [4,5,26,27] (fun x:Nat×Xm=>⟨[(4,.ptr 4 0),(5,.ptr 5 0),(26,.int .i64 r),(27,.int .i64 (x.1:Int))],rP (aU w x.1).com (aU w x.1).lead (aU w x.1).bad ((aU w x.1).views.map aT) x.2.1 x.2.2,8⟩) (fun x=>x.1≤r.toNat∧Rel (aU w x.1).props x.2.1 x.2.2) (fun x=>r.toNat-x.1) (0,xs0,ms0) ⟨aX _,hR0⟩ (by(conv=>whnf);rfl) ?_
 rintro⟨k,xs,ms⟩ ⟨hk,hRk⟩
 dsimp only at hk hRk⊢
 have hco:=iX hw k
 have hcs:aU w (k+1)=fk (dk (fk (aU w k)) k (fk (aU w k)).com.length):=rfl
 have h1c:∀u:Wrl,(fk u).com=u.com:=fun u=>(wj _ (ax _)).trans (fE u _).1
 by_cases hlt:(k:Int)<r
 ·generalize aU w k=x at *
  obtain⟨⟨xs1,ms1⟩,⟨hR1,hx1⟩,hC1⟩:=Fq x (xs,ms) hco hRk
  dsimp only at hR1 hx1 hC1
  have hvo:WOK (iw x):=gT hco x.props.length
  have hvc:(iw x).com=x.com:=(fE x _).1
  obtain⟨⟨xs2,ms2⟩,⟨hR2,hx2⟩,hC2⟩:=zT (iw x) (xs1,ms1) hvo hR1
  dsimp only at hR2 hx2 hC2
  have hro:=oY hco
  have hF0:=CR (jd hco hvo hvc)
  have hF1:=vC hx1
  have hF2:=CR (w:=iw x) (jd hvo hro ((h1c x).trans hvc.symm))
  have hF3:=vC hx2
  rw[show cV (iw x)=fk x from rfl] at hR2 hC2
  have hxc:=h1c x
  generalize iw x=x1 at *
  generalize fk x=y at *
  (repeat' first|refine cg ?_|refine sa fun xe hxe=>?_|refine sb (fun hq=>?_) fun hq=>?_|refine cr (hC1) ?_|refine cr (hC2) ?_|exact aa)
  clear hC1 hC2 hF0 hF1 hF2 hF3
  refine ah hK [] [4,5,7,26,27,38,39] (fun q:Nat×Xm=>⟨[(4,.ptr 4 0),(5,.ptr 5 0),(7,.int .i64 (k:Int)),(26,.int .i64 r),(27,.int .i64 (k:Int)),(38,.int .i64 y.com.length),(39,.int .i64 (q.1:Int))],rP (dk y k q.1).com (dk y k q.1).lead (dk y k q.1).bad ((dk y k q.1).views.map aT) q.2.1 q.2.2,8⟩) (fun q=>q.1≤y.com.length∧Rel (dk y k q.1).props q.2.1 q.2.2) (fun q=>y.com.length-q.1) (0,xs2,ms2) ⟨aX _,hR2⟩ (by(conv=>whnf);rfl) ?_
  rintro⟨m,xs3,ms3⟩ ⟨hm,hR3⟩
  dsimp only at hm hR3⊢
  have hdc:=m9 y k m
  have hdo:=oT hro k m
  have hyl:=hro.len
  have hds:dk y k (m+1)=eJ (dk y k m) m (7*k+m):=rfl
  by_cases hml:m<y.com.length
  ·generalize dk y k m=z at *
   have hsd:jw z ⟨1,m,7*k+m,v0⟩=eJ z m (7*k+m):=rfl
   have hF0:=HZ (w:=z) (e:=⟨1,m,7*k+m,v0⟩)
   rw[hsd] at hF0
   cases ha:wN z ⟨1,m,7*k+m,v0⟩
   ·obtain⟨⟨xs4,ms4⟩,⟨hR4,hx4⟩,hC4⟩:=vM z _ _ hdo hR3 ⟨1,m,7*k+m,v0⟩ ha
    have hcg:tS z ⟨1,m,7*k+m,v0⟩=false:=rfl
    rw[hsd] at hR4 hC4
    rw[hcg] at hC4
    have hF1:=vC hx4
    have hC4:ag Tryz.prog 147 [.ptr 4 0,.agg [.int .i64 1,.int .i64 (m:Int),.int .i64 (7*k+m),.int .i64 0,.int .i64 0,.lst (.int .i64) [],.int .i64 0]] (rW 0 z xs3 ms3) (.bool false) (rW 0 (eJ z m (7*k+m)) xs4 ms4):=hC4
    generalize eJ z m (7*k+m)=z2 at *
    (repeat' first|refine cg ?_|refine sa fun xe hxe=>?_|refine sb (fun hq=>?_) fun hq=>?_|refine cr (hC4) ?_|exact aa)
    refine⟨(m+1,xs4,ms4),⟨by dsimp only;omega,by dsimp only;rw[hds];exact hR4⟩,by dsimp only;omega,?_⟩
    dsimp only
    rw[hds]
    rfl
   ·obtain⟨⟨xs4,ms4⟩,⟨hR4,hx4⟩,hC4⟩:=Bz z _ _ hdo hR3 ⟨1,m,7*k+m,v0⟩ ha
    rw[hsd] at hR4 hC4
    have hF1:=vC hx4
    have hC4:ag Tryz.prog 147 [.ptr 4 0,.agg [.int .i64 1,.int .i64 (m:Int),.int .i64 (7*k+m),.int .i64 0,.int .i64 0,.lst (.int .i64) [],.int .i64 0]] (rW 0 z xs3 ms3) (.bool true) (Oc 0 (eJ z m (7*k+m)) xs4 ms4):=hC4
    generalize eJ z m (7*k+m)=z2 at *
    (repeat' first|refine cg ?_|refine sa fun xe hxe=>?_|refine sb (fun hq=>?_) fun hq=>?_|refine cr (hC4) ?_|exact aa)
    refine⟨(m+1,xs4,ms4),⟨by dsimp only;omega,by dsimp only;rw[hds];exact hR4⟩,by dsimp only;omega,?_⟩
    dsimp only
    rw[hds]
    rfl
  ·obtain rfl:m=y.com.length:=by omega
   have hzc:(dk y k y.com.length).com.length=y.com.length:=by rw[hdc]
   generalize dk y k y.com.length=z at *
   obtain⟨⟨xs4,ms4⟩,⟨hR4,hx4⟩,hC4⟩:=Fq z (xs3,ms3) hdo hR3
   dsimp only at hR4 hx4 hC4
   have hvo4:WOK (iw z):=gT hdo z.props.length
   have hvc4:(iw z).com=z.com:=(fE z _).1
   obtain⟨⟨xs5,ms5⟩,⟨hR5,hx5⟩,hC5⟩:=zT (iw z) (xs4,ms4) hvo4 hR4
   dsimp only at hR5 hx5 hC5
   have hro4:=oY hdo
   have hF0:=CR (jd hdo hvo4 hvc4)
   have hF1:=vC hx4
   have hF2:=CR (w:=iw z) (jd hvo4 hro4 ((h1c z).trans hvc4.symm))
   have hF3:=vC hx5
   rw[show cV (iw z)=fk z from rfl] at hR5 hC5
   generalize iw z=z1 at *
   generalize fk z=z2 at *
   (repeat' first|refine cg ?_|refine sa fun xe hxe=>?_|refine sb (fun hq=>?_) fun hq=>?_|refine cr (hC4) ?_|refine cr (hC5) ?_|exact aa)
   refine⟨(k+1,xs5,ms5),⟨by dsimp only;omega,by dsimp only;rw[hcs];exact hR5⟩,by dsimp only;omega,?_⟩
   dsimp only
   rw[hcs]
   rfl
 ·obtain rfl:k=r.toNat:=by omega
  have hW:=vT 0 (aU w r.toNat) xs ms hco hRk
  generalize aU w r.toNat=x at *
  (repeat' first|refine cg ?_|refine sa fun xe hxe=>?_|refine sb (fun hq=>?_) fun hq=>?_|refine cr (hW) ?_|exact aa)
  exact⟨rfl,rfl⟩
theorem NV (c:List Int)(g:List Vtx)(l:List Int):ag Tryz.prog 91 [.lst (.int .i64) c,.lst .vtx g,.lst (.int .i64) l] [] (.bool (Cx c g l)) []:=by
 have hG:=EW c g
 have hL:=J8 c l
 have e:Cx c g l=(graS c g && leaS c l):=rfl
 rw[e]
 refine ab aj Tryz.func91 rfl rfl false 0 4 rfl rfl rfl rfl fun K hK hb1 hb2=>?_;simp only[ae,enc,Nat.reduceAdd]
 clear hb1 hb2
 cases hg:graS c g
 ·rw[hg] at hG
  (repeat' first|refine st ?_|refine sa fun xe hxe=>?_|refine sb (fun hq=>?_) fun hq=>?_|refine cr (hG) ?_|refine cr (hL) ?_|exact aa)
  exact⟨rfl,rfl⟩
 ·rw[hg] at hG
  (repeat' first|refine st ?_|refine sa fun xe hxe=>?_|refine sb (fun hq=>?_) fun hq=>?_|refine cr (hG) ?_|refine cr (hL) ?_|exact aa)
  exact⟨rfl,rfl⟩
noncomputable def ordS (c:List Int) (g:List Vtx) (l:List Int):List Slt:=if Cx c g l then(ordG c g l).map fl else[]
theorem NW (c:List Int)(g:List Vtx)(l:List Int)(hgl:g.length≤10000):ag Tryz.prog 46 [.lst (.int .i64) c,.lst .vtx g,.lst (.int .i64) l] [] (.lst .slt (ordS c g l)) []:=by
 have hO:=NV c g l
 refine ab aj Tryz.func46 rfl rfl true 0 4 rfl rfl rfl rfl fun K hK hb1 hb2=>?_;simp only[ae,enc,Nat.reduceAdd]
 clear hb1 hb2
 cases hw:Cx c g l
 ·rw[hw] at hO
  have e:ordS c g l=[]:=by rw[ordS,hw];rfl
  rw[e]
  (repeat' first|refine st ?_|refine sa fun xe hxe=>?_|refine sb (fun hq=>?_) fun hq=>?_|refine cr (hO) ?_|exact aa)
  exact⟨rfl,rfl⟩
 ·rw[hw] at hO
  obtain⟨hg,hl⟩:graS c g=true∧leaS c l=true:=by simpa[Cx] using hw
  have hok:=fX hg
  have hll:=(bR.1 hl).2
  have hL:=NQ c g l hok hgl hl
  have hso:=Jk (g:=g) hok.com l
  have e:ordS c g l=(ordG c g l).map fl:=by rw[ordS,hw];rfl
  have hsi:=GC (xs:=g.map (wvk g l (cmt c g l l.length).1)) (m:=l.length)
  have hsl:=qa (g.map (wvk g l (cmt c g l l.length).1)) l.length
  rw[aA] at hsi hsl
  have hsl2:(jR (g.map (wvk g l (cmt c g l l.length).1)) l.length).length≤150000:=cu hsl (cu (Nat.mul_le_mul hll hgl) (by omega))
  rw[e,←hso]
  generalize jR (g.map (wvk g l (cmt c g l l.length).1)) l.length=L at *
  (repeat' first|refine st ?_|refine sa fun xe hxe=>?_|refine sb (fun hq=>?_) fun hq=>?_|refine cr (hO) ?_|refine cr (hL) ?_|exact aa)
  clear hO hL
  refine ah hK [] [1,7,8,9] (fun i:Nat=>⟨[(1,.lst .vtx g),(7,.ref 4),(8,.lst (.int .i64) L),(9,.int .i64 (i:Int))],[(4,.row 67 .slt ((L.take i).map fun i=>fl (g.getD i.toNat v0)))],5⟩) (fun i=>i≤L.length) (fun i=>L.length-i) 0 (aX _) rfl ?_
  intro i hi
  by_cases hlt:i<L.length
  ·have hxe:L[i]?=some L[i]:=am hlt
   have h3:L.take (i+1)=L.take i++[L[i]]:=b9 hlt
   have hb:=hsi _ (be hlt)
   generalize L[i]=x at *
   have hxg:g[x.toNat]?=some (g.getD x.toNat v0):=by rw[ar,am (by omega)];rfl
   have hrl:((L.take i).map fun i=>fl (g.getD i.toNat v0)).length=i:=by simp;omega
   have h4:(L.take (i+1)).map (fun i=>fl (g.getD i.toNat v0))=(L.take i).map (fun i=>fl (g.getD i.toNat v0))++[fl (g.getD x.toNat v0)]:=by rw[h3,cf];rfl
   generalize hA:((L.take i).map fun i=>fl (g.getD i.toNat v0))=A at *
   generalize g.getD x.toNat v0=v at *
   (repeat' first|refine st ?_|refine sa fun xe hxe=>?_|refine sb (fun hq=>?_) fun hq=>?_|exact aa)
   (try any_goals(first|exact absurd trivial hq|exact absurd rfl hq|exact absurd hq (by omega)|(exfalso;simp at hq;done)))
   exact⟨i+1,by omega,by omega,by rw[h4];rfl⟩
  ·obtain rfl:i=L.length:=by omega
   rw[iS]
   (repeat' first|refine st ?_|refine sa fun xe hxe=>?_|refine sb (fun hq=>?_) fun hq=>?_|exact aa)
   (try any_goals(first|exact absurd trivial hq|exact absurd rfl hq|exact absurd hq (by omega)|(exfalso;simp at hq;done)))
   exact⟨rfl,rfl⟩
noncomputable def wo (w:Wrl) (m:Int):List Slt:=if kT w && jV m 0 ((w.com.length:Int)-1) then ordS w.com (w.views.getD m.toNat []) w.lead else[]
end Go.Proofs.YtpefhoohfkeflabGreatDoor.Am
namespace Go.Proofs.YtpefhoohfkeflabGreatDoor.Am
open Go
abbrev C7:List UInt8:=[112,114,111,112,111,115,101]
abbrev C8:List UInt8:=[118,111,116,101]
abbrev C5:List UInt8:=[100,101,108,105,118,101,114]
abbrev C6:List UInt8:=[102,111,114,103,101]
abbrev C3:List UInt8:=[98,97,100,118,111,116,101]
abbrev C4:List UInt8:=[99,97,108,109]
abbrev qS:List UInt8:=[108,105,115,116]
abbrev qF:List UInt8:=[119,104,97,116]
abbrev Lz:List UInt8:=[32,118,111,116,101,115,32]
abbrev fa:List UInt8:=[111,114,100,101,114,32]
abbrev ND:List UInt8:=[116,111,111,32,108,111,110,103,10]
def t6 (i:Nat)(p:Ppl):List UInt8:=aQ i++[32]++aQ p.v.round++[46]++aQ p.v.author++[32]++aQ p.v.digest++Lz++aQ p.members.length++[10]
def cM (w:Wrl):Nat→List UInt8
 |0=>[]
 |n+1=>cM w n++t6 n (w.props.getD n p0)
def nw (w:Wrl):List UInt8:=cM w w.props.length
def jr (s:Slt):List UInt8:=[32]++aQ s.round++[46]++aQ s.author
def bQ:List Slt→List UInt8
 |[]=>[]
 |s::l=>jr s++bQ l
theorem jb (s:Slt):∀l:List Slt,bQ (l++[s])=bQ l++jr s
 |[]=>by simp[bQ]
 |x::l=>by rw[gz,bQ,bQ,jb s l,bH]
noncomputable def linO (w:Wrl) (m:Nat):List UInt8:=fa++aQ m++bQ (wo w m)++[10]
noncomputable def outOs (w:Wrl):Nat→List UInt8
 |0=>[]
 |n+1=>if(n:Int)=w.bad then outOs w n else outOs w n++linO w n
noncomputable def outO (w:Wrl):List UInt8:=outOs w w.com.length
def lg (r d:Int):Vtx:=⟨r,3,if 0<r then[0,1,2] else[],d⟩
def bV (w:Wrl)(ws:List (List UInt8)):Wrl:=
 if ws.getD 0 []=C7 then eJ w (cA ws 1) (cA ws 2) else if ws.getD 0 []=C8 then eS w (cA ws 1) (cA ws 2) else if ws.getD 0 []=C5 then dD w (cA ws 1) (cA ws 2) else
 if ws.getD 0 []=C6 then iN w (lg (cA ws 1) (cA ws 2)) else if ws.getD 0 []=C3 then iM w (cA ws 1) else if ws.getD 0 []=C4 then(if 0≤cA ws 1∧cA ws 1≤12 then aU w (cA ws 1).toNat else w) else w
def eV (k:List UInt8):Prop:=k=C7∨k=C8∨k=C5∨k=C6∨k=C3∨k=C4
instance (k:List UInt8):Decidable (eV k):=by unfold eV;infer_instance
def dQ (w:Wrl)(ws:List (List UInt8)):List UInt8:=if eV (ws.getD 0 []) then[] else if ws.getD 0 []=qS then nw w else qF++[10]
def oF (r:Wrl×List UInt8)(l:List UInt8):Wrl×List UInt8:=(bV r.1 (aJ 32 l),r.2++dQ r.1 (aJ 32 l))
def yU:Wrl:=LV [1,1,1,1] [0,1,2,0,1,2,0,1] 3
def bW (ls:List (List UInt8)):Wrl×List UInt8:=ls.foldl oF (yU,[])
noncomputable def exT (t:List UInt8):List UInt8:=if 600<t.length then ND else(bW (aJ 10 t).dropLast).2++outO (bW (aJ 10 t).dropLast).1
theorem gS (ls:List (List UInt8))(l:List UInt8):bW (ls++[l])=oF (bW ls) l:=by simp[bW]
theorem GP {w:Wrl}(h:WOK w)(ws:List (List UInt8)):WOK (bV w ws):=by
 unfold bV
 split
 ·exact we h _ _
 split
 ·exact wg h _ _
 split
 ·exact rN h _ _
 split
 ·exact Ce h _
 split
 ·exact Cc h _
 split
 ·split
  ·exact iX h _
  ·exact h
 ·exact h
theorem Hc:WOK yU:=ig.1 (by decide+kernel)
theorem rM (ls:List (List UInt8)):WOK (bW ls).1:=by
 induction ls using cj with
 |h0=>exact Hc
 |h l x ih=>rw[gS];exact GP ih _
theorem GK:∀(n:Nat) {w:Wrl},1519-fN w≤n→(cV w).lead=w.lead∧(cV w).bad=w.bad∧(cV w).com=w.com:=by
 have hd:∀(w:Wrl) (i:Int) (n:Nat),(dN w i n).lead=w.lead∧(dN w i n).bad=w.bad∧(dN w i n).com=w.com:=by
  intro w i n
  induction n with
  |zero=>exact⟨rfl,rfl,rfl⟩
  |succ n ih=>
   have:=oZ (dN w i n) n i
   exact⟨this.2.2.2.trans ih.1,this.2.2.1.trans ih.2.1,this.1.trans ih.2.2⟩
 have hp:∀(w:Wrl) (k:Nat),(ce w k).lead=w.lead∧(ce w k).bad=w.bad∧(ce w k).com=w.com:=by
  intro w k
  induction k with
  |zero=>exact⟨rfl,rfl,rfl⟩
  |succ k ih=>
   have:=hd (ce w k) k (ce w k).com.length
   exact⟨this.1.trans ih.1,this.2.1.trans ih.2.1,this.2.2.trans ih.2.2⟩
 intro n
 induction n with
 |zero=>
  intro w hn
  rw[cV]
  split
  ·omega
  ·exact hp _ _
 |succ n ih=>
  intro w hn
  rw[cV]
  split
  ·have h1:=ih (w:=pass w) (by omega)
   have h2:=hp w w.props.length
   exact⟨h1.1.trans h2.1,h1.2.1.trans h2.2.1,h1.2.2.trans h2.2.2⟩
  ·exact hp _ _
theorem F9 (w:Wrl)(m d:Int):(eJ w m d).lead=w.lead∧(eJ w m d).bad=w.bad∧(eJ w m d).com=w.com:=by unfold eJ;split<;>exact⟨rfl,rfl,rfl⟩
theorem G5 (w:Wrl)(m d:Int):(eS w m d).lead=w.lead∧(eS w m d).bad=w.bad∧(eS w m d).com=w.com:=by unfold eS;split<;>exact⟨rfl,rfl,rfl⟩
theorem Ca (w:Wrl):(fk w).lead=w.lead∧(fk w).bad=w.bad∧(fk w).com=w.com:=by
 have hv:∀(w:Wrl) (i:Int) (n:Nat),(iP w i n).lead=w.lead∧(iP w i n).bad=w.bad∧(iP w i n).com=w.com:=by
  intro w i n
  induction n with
  |zero=>exact⟨rfl,rfl,rfl⟩
  |succ n ih=>
   have:=G5 (iP w i n) n i
   exact⟨this.1.trans ih.1,this.2.1.trans ih.2.1,this.2.2.trans ih.2.2⟩
 have hs:∀(w:Wrl) (k:Nat),(dd w k).lead=w.lead∧(dd w k).bad=w.bad∧(dd w k).com=w.com:=by
  intro w k
  induction k with
  |zero=>exact⟨rfl,rfl,rfl⟩
  |succ k ih=>
   have:=hv (dd w k) k (dd w k).com.length
   exact⟨this.1.trans ih.1,this.2.1.trans ih.2.1,this.2.2.trans ih.2.2⟩
 have h1:=GK _ (w:=iw w) (ax _)
 have h2:=hs w w.props.length
 exact⟨h1.1.trans h2.1,h1.2.1.trans h2.2.1,h1.2.2.trans h2.2.2⟩
theorem q8 (w:Wrl):∀r,(aU w r).lead=w.lead∧(aU w r).bad=w.bad∧(aU w r).com=w.com
 |0=>GK _ (ax _)
 |r+1=>by
  have hp:∀(w:Wrl) (r n:Nat),(dk w r n).lead=w.lead∧(dk w r n).bad=w.bad∧(dk w r n).com=w.com:=by
   intro w r n
   induction n with
   |zero=>exact⟨rfl,rfl,rfl⟩
   |succ n ih=>
    have:=F9 (dk w r n) n (7*r+n)
    exact⟨this.1.trans ih.1,this.2.1.trans ih.2.1,this.2.2.trans ih.2.2⟩
  have h1:=Ca (dk (fk (aU w r)) r (fk (aU w r)).com.length)
  have h2:=hp (fk (aU w r)) r (fk (aU w r)).com.length
  have h3:=Ca (aU w r)
  have h4:=q8 w r
  exact⟨h1.1.trans (h2.1.trans (h3.1.trans h4.1)),h1.2.1.trans (h2.2.1.trans (h3.2.1.trans h4.2.1)),h1.2.2.trans (h2.2.2.trans (h3.2.2.trans h4.2.2))⟩
theorem GO (w:Wrl)(ws:List (List UInt8)):(bV w ws).lead=w.lead∧(bV w ws).bad=w.bad∧(bV w ws).com=w.com:=by
 unfold bV
 split
 ·exact F9 _ _ _
 split
 ·exact G5 _ _ _
 split
 ·have:=oZ w (cA ws 1) (cA ws 2)
  exact⟨this.2.2.2,this.2.2.1,this.1⟩
 split
 ·unfold iN;split<;>exact⟨rfl,rfl,rfl⟩
 split
 ·unfold iM;split<;>exact⟨rfl,rfl,rfl⟩
 split
 ·split
  ·exact q8 _ _
  ·exact⟨rfl,rfl,rfl⟩
 ·exact⟨rfl,rfl,rfl⟩
theorem Cb (ls:List (List UInt8)):(bW ls).1.lead=[0,1,2,0,1,2,0,1]∧(bW ls).1.bad=3∧(bW ls).1.com=[1,1,1,1]:=by
 induction ls using cj with
 |h0=>exact⟨rfl,rfl,rfl⟩
 |h l x ih=>
  rw[gS]
  have:=GO (bW l).1 (aJ 32 x)
  exact⟨this.1.trans ih.1,this.2.1.trans ih.2.1,this.2.2.trans ih.2.2⟩
theorem sV (i:Nat)(p:Ppl):(t6 i p).length≤31:=by
 have h1:=aO i
 have h2:=aO p.v.round
 have h3:=aO p.v.author
 have h4:=aO p.v.digest
 have h5:=aO p.members.length
 simp only[t6,aP,bF,dA]
 omega
theorem kF (w:Wrl):∀n,(cM w n).length≤31*n
 |0=>by simp[cM]
 |n+1=>by
  have h1:=kF w n
  have h2:=sV n (w.props.getD n p0)
  simp only[cM,aP]
  omega
theorem Dq (s:Slt):(jr s).length≤10:=by
 have h2:=aO s.round
 have h3:=aO s.author
 simp only[jr,aP,bF,dA]
 omega
theorem fj:∀l:List Slt,(bQ l).length≤10*l.length
 |[]=>by simp[bQ]
 |s::l=>by
  have h1:=fj l
  have h2:=Dq s
  simp only[bQ,aP,bF]
  omega
theorem uN {w:Wrl}(h:WOK w)(ws:List (List UInt8)):(dQ w ws).length≤6820:=by
 unfold dQ
 split
 ·simp
 split
 ·have:=kF w w.props.length
  have:=h.plen
  unfold nw
  omega
 ·simp
theorem tp (ls:List (List UInt8)):(bW ls).2.length≤6820*ls.length:=by
 induction ls using cj with
 |h0=>exact ax _
 |h l x ih=>
  rw[gS]
  have h1:=uN (rM l) (aJ 32 x)
  simp only[oF,aP,bF,dA]
  omega
theorem Af {g:List Vtx}{l:List Int}:∀(ws:List Nat) (acc:List Vtx),(∀v∈acc,v∈g)→∀v∈ordTo g l acc ws,v∈g
 |[],acc,h=>h
 |w::ws,acc,h=>by
  rw[lm]
  refine Af ws _ fun v hv=>?_
  rcases bh.1 hv with hv|hv
  ·exact h v hv
  ·unfold ordW at hv
   split at hv
   ·exact(eM.1 hv).1
   ·cases hv
theorem Cv {w:Wrl}(hw:WOK w)(m:Int):∀s∈wo w m,(0≤s.round∧s.round≤30)∧0≤s.author∧s.author<7:=by
 intro s hs
 unfold wo at hs
 split at hs
 ·unfold ordS at hs
  split at hs
  ·rename_i hc hv
   obtain⟨v,hv1,rfl⟩:=aB.1 hs
   have hvg:=Af _ _ (fun v hv=>by cases hv) v hv1
   have hg:graS w.com (w.views.getD m.toNat [])=true:=by
    simp only[Cx,az] at hv
    exact hv.1
   have h1:=bG ((fX hg).vtx v hvg)
   have h2:=hw.len
   exact⟨h1.1,h1.2.1.1,by show v.author<7;omega⟩
  ·cases hs
 ·cases hs
theorem jL {a b:Vtx}:bef a b=true↔a.round<b.round∨(a.round=b.round∧a.author<b.author):=by
 simp only[bef,cN,az,decide_eq_true_eq]
theorem DS {a b:Vtx}(c:Vtx)(h:bef a b=true):bef a c=true∨bef c b=true:=by
 rw[jL] at *
 rw[jL]
 omega
theorem n4 {a b:Vtx}(h:bef a b=true):bef b a=false:=by
 rw[ck]
 rw[jL] at h
 intro h2
 rw[jL] at h2
 omega
theorem s5 {a b c:Vtx}(h1:bef a b=false)(h2:bef b c=false):bef a c=false:=by
 rw[ck]
 intro h
 rcases DS b h with h3|h3
 ·rw[h3] at h1;cases h1
 ·rw[h3] at h2;cases h2
def yH (l:List Vtx)(i j:Nat)(x y:Vtx):List Vtx:=(l.set i y).set j x
theorem Co (l:List Vtx)(i j:Nat)(x y:Vtx):(yH l i j x y).length=l.length:=by simp[yH]
theorem wr {l:List Vtx}{i j:Nat}{x y:Vtx}(hi:l[i]?=some x)(hj:l[j]?=some y)(k:Nat):(yH l i j x y)[k]?=if k=j then some x else if k=i then some y else l[k]?:=by
 have h1:=(aR.1 hi).1
 have h2:=(aR.1 hj).1
 unfold yH
 rw[dp,dp]
 by_cases e1:k=j
 ·subst e1
  rw[if_pos rfl,if_pos (by rw[jt];exact h2),if_pos rfl]
 ·rw[if_neg (by omega),if_neg e1]
  by_cases e2:k=i
  ·subst e2
   rw[if_pos rfl,if_pos h1,if_pos rfl]
  ·rw[if_neg (by omega),if_neg e2]
theorem yI {l:List Vtx}{i j:Nat}{x y:Vtx}(hi:l[i]?=some x)(hj:l[j]?=some y):(yH l i j x y).Perm l:=by
 obtain⟨h1,rfl⟩:=aR.1 hi
 obtain⟨h2,rfl⟩:=aR.1 hj
 exact List.set_set_perm h1 h2
theorem GU {l:List Vtx}{i j n:Nat}{x y:Vtx}(hi:i<n)(hj:j<n):(yH l i j x y).take n=yH (l.take n) i j x y:=by
 unfold yH
 rw[List.take_set,List.take_set]
def Heap (l:List Vtx)(n:Nat):Prop:=∀k x y,0<k→k<n→l[k]?=some x→l[(k-1)/2]?=some y→bef x y=false
theorem CZ {l:List Vtx}{n:Nat}(h:Heap l n)(hn:n≤l.length){r:Vtx}(hr:l[0]?=some r):∀(k:Nat) (x:Vtx),k<n→l[k]?=some x→bef x r=false:=by
 intro k
 induction k using Nat.strongRecOn with
 |ind k ih=>
  intro x hk hx
  by_cases h0:k=0
  ·subst h0
   rw[hr] at hx
   obtain rfl:=aq hx
   rw[ck]
   intro h2
   rw[jL] at h2
   omega
  ·have hp:l[(k-1)/2]?=some (l[(k-1)/2]'(by omega)):=am _
   exact s5 (h k x _ (by omega) hk hx hp) (ih _ (by omega) _ (by omega) hp)
structure Sft (l0 l:List Vtx)(n i:Nat):Prop where
 len:l.length=l0.length
 perm:(l.take n).Perm (l0.take n)
 rest:∀k,n≤k→l[k]?=l0[k]?
 hp:∀k x y,0<k→k<n→(k-1)/2≠i→l[k]?=some x→l[(k-1)/2]?=some y→bef x y=false
 gp:∀k x y,0<i→0<k→k<n→(k-1)/2=i→l[k]?=some x→l[(i-1)/2]?=some y→bef x y=false
theorem NU {l:List Vtx}{n:Nat}(h:∀k x y,0<k→k<n→(k-1)/2≠0→l[k]?=some x→l[(k-1)/2]?=some y→bef x y=false):Sft l l n 0:=
 ⟨rfl,List.Perm.refl _,fun _ _=>rfl,h,fun _ _ _ h0=>absurd h0 (Nat.lt_irrefl 0)⟩
theorem kM {l0 l:List Vtx}{n i j:Nat}(h:Sft l0 l n i){x y:Vtx}(hi:l[i]?=some x)(hj:l[j]?=some y)(hjn:j<n)(h0:0<j)(hij:(j-1)/2=i)(hb:bef y x=true)
  (hs:∀k z,0<k→k<n→(k-1)/2=i→l[k]?=some z→bef z y=false):Sft l0 (yH l i j x y) n j:=by
 have hin:i<n:=by omega
 have fS:=wr hi hj
 refine⟨by rw[Co,h.len],?_,fun k hk=>?_,fun k a b k0 kn kp ha hbb=>?_,fun k a b j0 k0 kn kp ha hbb=>?_⟩
 ·rw[GU hin hjn]
  refine(yI ?_ ?_).trans h.perm
  ·rw[er,if_pos hin];exact hi
  ·rw[er,if_pos hjn];exact hj
 ·rw[fS,if_neg (by omega),if_neg (by omega)]
  exact h.rest k hk
 ·rw[fS] at ha hbb
  rw[if_neg kp] at hbb
  by_cases e1:(k-1)/2=i
  ·rw[if_pos e1] at hbb
   obtain rfl:=aq hbb
   by_cases e2:k=j
   ·rw[if_pos e2] at ha
    obtain rfl:=aq ha
    exact n4 hb
   ·rw[if_neg e2,if_neg (by omega)] at ha
    exact hs k a k0 kn e1 ha
  ·rw[if_neg e1] at hbb
   rw[if_neg (show¬k=j by intro e;rw[e] at e1;exact e1 hij)] at ha
   by_cases e2:k=i
   ·subst e2
    rw[if_pos rfl] at ha
    obtain rfl:=aq ha
    exact h.gp j y b k0 h0 hjn hij hj hbb
   ·rw[if_neg e2] at ha
    exact h.hp k a b k0 kn e1 ha hbb
 ·rw[fS] at ha hbb
  rw[hij,if_neg (by omega),if_pos rfl] at hbb
  obtain rfl:=aq hbb
  rw[if_neg (by omega),if_neg (by omega)] at ha
  exact h.hp k a y k0 kn (by omega) ha (by rw[kp];exact hj)
theorem Jl {l0 l:List Vtx}{n i:Nat}(h:Sft l0 l n i){x:Vtx}(hi:l[i]?=some x)(hs:∀k z,0<k→k<n→(k-1)/2=i→l[k]?=some z→bef z x=false):Heap l n:=fun k a b k0 kn ha hb=>by
 by_cases e:(k-1)/2=i
 ·rw[e,hi] at hb
  obtain rfl:=aq hb
  exact hs k a k0 kn e ha
 ·exact h.hp k a b k0 kn e ha hb
theorem E0 {l:List Vtx}(h:l.Pairwise fun a b=>bef a b=true):Heap l l.length:=fun k x y k0 kn hx hy=>by
 have h1:=(aR.1 hx)
 have h2:=(aR.1 hy)
 obtain⟨a1,rfl⟩:=h1
 obtain⟨a2,rfl⟩:=h2
 exact n4 (qO.1 h _ _ a2 a1 (by omega))
theorem CY {s l:List Vtx}{x:Vtx}(hs:(x::s).Pairwise fun a b=>bef a b=true)(hp:l.Perm (x::s))(hh:Heap l l.length){r:Vtx}(hr:l[0]?=some r):r=x:=by
 have hx:x∈l:=hp.mem_iff.2 (by simp)
 obtain⟨k,hk⟩:=iR hx
 have h1:=CZ hh (ax _) hr k x (aR.1 hk).1 hk
 have h2:r∈x::s:=hp.mem_iff.1 (br hr)
 rcases aK.1 h2 with h2|h2
 ·exact h2
 ·have:=(iB.1 hs).1 r h2
  rw[this] at h1
  cases h1

end Go.Proofs.YtpefhoohfkeflabGreatDoor.Am
