/- Orders: leaders, votes, committed waves of the program. Orders: committed waves of the program. Orders: all committed waves of the program. Orders: the laws' waves and orders. Orders: the laws' orders. Runs: impl's quiet rounds. Quiet periods: the reference's WorldCalm, what is drawn; the law of invalid runs. Orders: the laws' orders, slot by slot. Scripts: what a session does, plain. Orders: heaps of vertices (plain laws). -/
import Derived.Test.YtpefhoohfkeflaaGreatDoorEA10
set_option linter.unusedSimpArgs false
set_option linter.unusedVariables false
set_option maxHeartbeats 1000000
namespace Go.Proofs.YtpefhoohfkeflaaGreatDoor.Am
open Go
attribute [local irreducible] Mk ck Ari fK mQ jM cd cX i7 fC At ag
set_option maxRecDepth 10000
def Θe:TT:=(127,⟨.ifc,1,16,some .nili,none,false⟩)::Θg
theorem dQ:TT.ok Tryz.prog Θe:=TT.okB_ok (by kernel_rfl)
theorem nL {P Q:Prop}(h:Q)(s:Hid Q→P:=by
  intro h
  (first|(with_reducible first|apply dZ|apply cZ)|((first|with_reducible apply cN dQ|refine go ?_|(with_reducible first|apply dk|apply dy|apply cL|apply cO|refine cM dQ mixed (by kernel_rfl) ?_))<;>conv=>whnf))
  repeat(first|(with_reducible first|apply dZ|apply cZ)|((first|with_reducible apply cN dQ|refine go ?_|(with_reducible first|apply dk|apply dy|apply cL|apply cO|refine cM dQ mixed (by kernel_rfl) ?_))<;>conv=>whnf))
  exact h.h):P:=s ⟨h⟩
abbrev HX (c:List Int)(s:GS):VH:=[(1,.frow 181 (.hp 0) s.rows),(0,.fvar 193 (.nod 1) s.nodes)]
abbrev CT (c:List Int)(s:GS):VH:=[(0,.fvar 193 (.nod 1) s.nodes),(1,.frow 181 (.hp 0) s.rows)]
theorem Jq (c:List Int)(s:GS)(k:Nat):ag Tryz.prog 228 [.hro 1 none,.hpo 0 (some k)] (HX c s) (.int .i64 (-1)) (CT c s):=by
 refine ab eW Tryz.func228 rfl rfl false 0 4 rfl rfl rfl rfl fun K hK hb1 hb2=>?_;simp only[ae,enc,Nat.reduceAdd]
 clear hb1 hb2
 (repeat' first|refine j4 ?_|refine sa fun xe hxe=>?_|refine sb (fun hq=>?_) fun hq=>?_|exact aa)
 refine ah hK [] [0,1,7,8] (fun i:Nat=>⟨[(0,.hro 1 none),(1,.hpo 0 (some k)),(7,.int .i64 0),(8,.int .i64 (i:Int))],CT c s,4⟩) (fun i=>i=0) (fun i=>i) 0 rfl rfl ?_
 rintro i rfl
 (repeat' first|refine j4 ?_|refine sa fun xe hxe=>?_|refine sb (fun hq=>?_) fun hq=>?_|exact aa)
 exact⟨rfl,rfl⟩
theorem MA (c:List Int)(s:GS)(r k:Nat)(xs:List (Option Nat))(hr:s.rows[r]?=some xs)(hxs:∀o∈xs,∃q,o=some q∧q<s.nodes.length)(hk:k<s.nodes.length)(hl:xs.length≤1000000):ag Tryz.prog 228 [.hro 1 (some r),.hpo 0 (some k)] (HX c s) (.int .i64 (match xs.findIdx? (fun o=>o==some k) with|some i=>(i:Int)|none=>-1)) (CT c s):=by
 have hkx:s.nodes[k]?=some s.nodes[k]:=am hk
 generalize s.nodes[k]=nk at *
 refine ab eW Tryz.func228 rfl rfl false 0 4 rfl rfl rfl rfl fun K hK hb1 hb2=>?_;simp only[ae,enc,Nat.reduceAdd]
 clear hb1 hb2
 (repeat' first|refine j4 ?_|refine sa fun xe hxe=>?_|refine sb (fun hq=>?_) fun hq=>?_|exact aa)
 refine ah hK [] [0,1,7,8] (fun i:Nat=>⟨[(0,.hro 1 (some r)),(1,.hpo 0 (some k)),(7,.int .i64 xs.length),(8,.int .i64 (i:Int))],CT c s,4⟩) (fun i=>i≤xs.length∧∀o∈xs.take i,(o==some k)=false) (fun i=>xs.length-i) 0 ⟨by simp,by simp⟩ rfl ?_
 rintro i ⟨hi,hall⟩
 by_cases hlt:i<xs.length
 ·have hxe:xs[i]?=some xs[i]:=am hlt
  have h3:xs.take (i+1)=xs.take i++[xs[i]]:=ca hlt
  have h4:=rk (l:=xs) (p:=fun o=>o==some k) hxe hall
  obtain⟨q,hq,hql⟩:=hxs _ (bn hxe)
  have hqx:s.nodes[q]?=some s.nodes[q]:=am hql
  rw[hq] at hxe h3 h4
  generalize s.nodes[q]=nq at *
  by_cases he:k=q
  ·subst he
   (repeat' first|refine j4 ?_|refine sa fun xe hxe=>?_|refine sb (fun hq=>?_) fun hq=>?_|exact aa)
   refine⟨?_,rfl⟩
   rw[h4 (by simp)]
  ·(repeat' first|refine j4 ?_|refine sa fun xe hxe=>?_|refine sb (fun hq=>?_) fun hq=>?_|exact aa)
   exact⟨i+1,⟨by omega,by rw[h3];exact bM hall (by simpa using fun h=>he h.symm)⟩,by omega,rfl⟩
 ·(repeat' first|refine j4 ?_|refine sa fun xe hxe=>?_|refine sb (fun hq=>?_) fun hq=>?_|exact aa)
  refine⟨?_,rfl⟩
  rw[br (by omega)] at hall
  rw[px.2 hall]
theorem Jn (c:List Int)(s:GS)(k:Nat):ag Tryz.prog 214 [.hro 1 none,.hpo 0 (some k)] (HX c s) (.bool false) (CT c s):=by
 refine ab eW Tryz.func214 rfl rfl false 0 4 rfl rfl rfl rfl fun K hK hb1 hb2=>?_;simp only[ae,enc,Nat.reduceAdd]
 clear hb1 hb2
 (repeat' first|refine j4 ?_|refine sa fun xe hxe=>?_|refine sb (fun hq=>?_) fun hq=>?_|refine co (Jq c s k) ?_|exact aa)
 exact⟨rfl,rfl⟩
theorem Mu (c:List Int)(s:GS)(r k:Nat)(xs:List (Option Nat))(hr:s.rows[r]?=some xs)(hxs:∀o∈xs,∃q,o=some q∧q<s.nodes.length)(hk:k<s.nodes.length)(hl:xs.length≤1000000):ag Tryz.prog 214 [.hro 1 (some r),.hpo 0 (some k)] (HX c s) (.bool (xs.contains (some k))) (CT c s):=by
 have hI:=MA c s r k xs hr hxs hk hl
 refine ab eW Tryz.func214 rfl rfl false 0 4 rfl rfl rfl rfl fun K hK hb1 hb2=>?_;simp only[ae,enc,Nat.reduceAdd]
 clear hb1 hb2
 cases h:xs.findIdx? (fun o=>o==some k) with
 |none=>
  rw[h] at hI
  have e:xs.contains (some k)=false:=by
   rw[cj]
   intro h2
   have:=px.1 h _ (iF.1 h2)
   simp at this
  rw[e]
  (repeat' first|refine j4 ?_|refine sa fun xe hxe=>?_|refine sb (fun hq=>?_) fun hq=>?_|refine co (hI) ?_|exact aa)
  exact⟨rfl,rfl⟩
 |some i=>
  rw[h] at hI
  obtain⟨hi,h1,-⟩:=wN.1 h
  have e:xs.contains (some k)=true:=iF.2 (by rw[←(beq_iff_eq.1 h1)];exact be hi)
  rw[e]
  (repeat' first|refine j4 ?_|refine sa fun xe hxe=>?_|refine sb (fun hq=>?_) fun hq=>?_|refine co (hI) ?_|exact aa)
  exact⟨rfl,rfl⟩
def Of (xs ys:List Int)(i:Nat):Prop:=ys.length=xs.length∧∀k,k<xs.length→ys[k]?=if k<i∨xs.length-i≤k then xs[xs.length-1-k]? else xs[k]?
theorem Jk {xs ys:List Int}{i:Nat}(h:Of xs ys i)(hi:xs.length≤2*i+1):ys=xs.reverse:=by
 refine mJ fun k=>?_
 rcases ct k xs.length with hk|hk
 ·rw[h.2 k hk,List.getElem?_reverse hk]
  split
  ·rfl
  ·congr 1;omega
 ·rw[dP (by rw[h.1];exact hk),dP (by simpa using hk)]
theorem Gw {xs ys:List Int}{i:Nat}{a b:Int}(h:Of xs ys i)(hi:2*i+1<xs.length)(ha:ys[i]?=some a)(hb:ys[xs.length-1-i]?=some b):Of xs ((ys.set i b).set (xs.length-1-i) a) (i+1):=by
 obtain⟨h1,h2⟩:=h
 have ea:=h2 i (by omega)
 have eb:=h2 (xs.length-1-i) (by omega)
 rw[if_neg (by omega)] at ea eb
 refine⟨by simp[h1],fun k hk=>?_⟩
 rw[dx,dx,jI]
 by_cases e1:xs.length-1-i=k
 ·rw[if_pos e1,if_pos (by omega),if_pos (by omega),←ha,ea]
  congr 1;omega
 ·rw[if_neg e1]
  by_cases e2:i=k
  ·rw[if_pos e2,if_pos (by omega),if_pos (by omega),←hb,eb]
   congr 1;omega
  ·rw[if_neg e2,h2 k hk]
   by_cases e3:k<i∨xs.length-i≤k
   ·rw[if_pos e3,if_pos (by omega)]
   ·rw[if_neg e3,if_neg (by omega)]
theorem Lx (xs:List Int)(hl:xs.length≤1000000):ag Tryz.prog 203 [.ref 4] [(4,.row 3 (.int .i64) xs)] (.tup []) [(4,.row 3 (.int .i64) xs.reverse)]:=by
 refine ab aj Tryz.func203 rfl rfl false 1 5 rfl rfl rfl rfl fun K hK hb1 hb2=>?_;simp only[ae,enc,Nat.reduceAdd]
 clear hb1 hb2
 (repeat' first|refine st ?_|refine sa fun xe hxe=>?_|refine sb (fun hq=>?_) fun hq=>?_|exact aa)
 refine ah hK [] [0,2,3] (fun x:Nat×List Int=>⟨[(0,.ref 4),(2,.int .i64 (x.1:Int)),(3,.int .i64 ((xs.length:Int)-1-x.1))],[(4,.row 3 (.int .i64) x.2)],5⟩) (fun x=>Of xs x.2 x.1∧2*x.1≤xs.length+1) (fun x=>xs.length-x.1) (0,xs) ⟨⟨rfl,fun k hk=>by rw[if_neg (by omega)]⟩,by simp⟩ (by rw[show ((xs.length:Int)-1-((0:Nat):Int))=(xs.length:Int)-1 by omega];rfl) ?_
 rintro⟨i,ys⟩ ⟨hR,hi⟩
 dsimp only at hR hi⊢
 have hyl:=hR.1
 by_cases hlt:2*i+1<xs.length
 ·have hxa:ys[i]?=some ys[i]:=am (by omega)
  have hjb:xs.length-1-i<ys.length:=by omega
  have hxb:ys[xs.length-1-i]?=some ys[xs.length-1-i]:=am hjb
  have hst:=Gw hR hlt hxa hxb
  generalize hj:xs.length-1-i=j at *
  have hje:((xs.length:Int)-1-(i:Int))=(j:Int):=by omega
  rw[hje]
  generalize ys[i]=a at *
  generalize ys[j]=b at *
  have hxc:(ys.set i b)[j]?=some b:=by rw[dx,if_neg (by omega)];exact hxb
  have hsl:(ys.set i b).length=ys.length:=by simp
  (repeat' first|refine st ?_|refine sa fun xe hxe=>?_|refine sb (fun hq=>?_) fun hq=>?_|exact aa)
  exact⟨(i+1,(ys.set i b).set j a),⟨hst,by dsimp only;omega⟩,by dsimp only;omega,by rw[show ((xs.length:Int)-1-((i+1:Nat):Int))=(j:Int)-1 by omega];rfl⟩
 ·have hfin:=Jk hR (by omega)
  (repeat' first|refine st ?_|refine sa fun xe hxe=>?_|refine sb (fun hq=>?_) fun hq=>?_|exact aa)
  exact⟨rfl,by rw[hfin]⟩
theorem ry {c l:List Int}(hl:leaS c l=true){w:Nat}(h1:1≤w)(h2:w≤l.length):0≤gx l w∧gx l w<c.length:=by
 have hx:=nc h1 h2
 exact(bS.1 hl).1 _ (bn hx)
theorem zg {c:List Int}{g:List Vtx}(hg:GraOK c g){l:List Int}(hl:leaS c l=true){w:Nat}(h1:1≤w)(h2:w≤l.length):(dg g).at (2*(w:Int)-1) (gx l w)=g.findIdx? (fl (2*(w:Int)-1) (gx l w)):=by
 have h7:=(ay.1 hg.com).2
 have hm:=ry hl h1 h2
 have hll:=(bS.1 hl).2
 exact xO hg (by omega) (by omega)
theorem ra {c:List Int}{g:List Vtx}(hg:GraOK c g){l:List Int}(hl:leaS c l=true){w:Nat}(h1:1≤w)(h2:w≤l.length){k:Vtx}(hk:qK g l w=some k):∃n:Nat,(dg g).at (2*(w:Int)-1) (gx l w)=some n∧g[n]?=some k:=by
 obtain⟨a1,a2,a3⟩:=sR hk
 obtain⟨i,hi⟩:=gw a1
 have:=nU hg hi
 rw[a2,a3] at this
 exact⟨i,by rw[zg hg hl h1 h2,this],hi⟩
theorem AX {c:List Int}{g:List Vtx}(hg:GraOK c g){l:List Int}(hl:leaS c l=true){w:Nat}(h1:1≤w)(h2:w≤l.length)(hk:qK g l w=none):(dg g).at (2*(w:Int)-1) (gx l w)=none:=by
 rw[zg hg hl h1 h2,px]
 intro x hx
 have:=List.find?_eq_none.1 hk x hx
 simpa using this
theorem vX (c:List Int)(g:List Vtx)(l:List Int)(w n:Nat)(hg:GraOK c g)(hl:leaS c l=true)(h1:1≤w)(h2:w≤l.length)(ha:(dg g).at (2*(w:Int)-1) (gx l w)=some n):ag Tryz.prog 158 [.agg [.ptr 4 0,.lst (.int .i64) l],.int .i64 (w:Int)] (gR c (dg g)) (.tup [.hpo 0 (some n),.nili]) (gR c (dg g)):=by
 have h7:=(ay.1 hg.com).2
 have hx:=nc h1 h2
 have hll:=(bS.1 hl).2
 have hA:=nS c (dg g) (2*(w:Int)-1) (gx l w) (fx g).2 h7.2 (aC.2 (by omega)) (aC.2 (by have:=ry hl h1 h2;omega))
 rw[ha] at hA
 have hin1:(none:Option Nat).isNone=true:=rfl
 have hin2:(some n:Option Nat).isNone=false:=rfl
 refine ab dQ Tryz.func158 rfl rfl false 2 6 rfl rfl rfl rfl fun K hK hb1 hb2=>?_;simp only[ae,enc,Nat.reduceAdd]
 clear hb1 hb2
 (repeat' first|refine nL ?_|refine sa fun xe hxe=>?_|refine sb (fun hq=>?_) fun hq=>?_|refine co (hA) ?_|exact aa)
 exact⟨rfl,rfl⟩
theorem Fl (c:List Int)(g:List Vtx)(l:List Int)(w:Nat)(hg:GraOK c g)(hl:leaS c l=true)(h1:1≤w)(h2:w≤l.length)(ha:(dg g).at (2*(w:Int)-1) (gx l w)=none):ag Tryz.prog 158 [.agg [.ptr 4 0,.lst (.int .i64) l],.int .i64 (w:Int)] (gR c (dg g)) (.tup [.nilp,.gv 6]) (gR c (dg g)):=by
 have h7:=(ay.1 hg.com).2
 have hx:=nc h1 h2
 have hll:=(bS.1 hl).2
 have hA:=nS c (dg g) (2*(w:Int)-1) (gx l w) (fx g).2 h7.2 (aC.2 (by omega)) (aC.2 (by have:=ry hl h1 h2;omega))
 rw[ha] at hA
 have hin1:(none:Option Nat).isNone=true:=rfl
 refine ab dQ Tryz.func158 rfl rfl false 2 6 rfl rfl rfl rfl fun K hK hb1 hb2=>?_;simp only[ae,enc,Nat.reduceAdd]
 clear hb1 hb2
 (repeat' first|refine nL ?_|refine sa fun xe hxe=>?_|refine sb (fun hq=>?_) fun hq=>?_|refine co (hA) ?_|exact aa)
 exact⟨rfl,rfl⟩
theorem Lq (c:List Int)(l:List Int)(w:Nat)(hc:comV c=true)(hl:leaS c l=true)(h1:1≤w)(h2:w≤l.length):ag Tryz.prog 158 [.agg [.ptr 4 0,.lst (.int .i64) l],.int .i64 (w:Int)] (gZ c ka) (.tup [.nilp,.gv 6]) (gZ c ka):=by
 have h7:=(ay.1 hc).2
 have hx:=nc h1 h2
 have hll:=(bS.1 hl).2
 have hA:=DV c ka (2*(w:Int)-1) (gx l w) iG h7.2 (aC.2 (by omega)) (aC.2 (by have:=ry hl h1 h2;omega))
 rw[zN] at hA
 have hin1:(none:Option Nat).isNone=true:=rfl
 refine ab dQ Tryz.func158 rfl rfl false 1 5 rfl rfl rfl rfl fun K hK hb1 hb2=>?_;simp only[ae,enc,Nat.reduceAdd]
 clear hb1 hb2
 (repeat' first|refine nL ?_|refine sa fun xe hxe=>?_|refine sb (fun hq=>?_) fun hq=>?_|refine co (hA) ?_|exact aa)
 exact⟨rfl,rfl⟩
def N6 (g:List Vtx)(l:List Int)(w:Nat)(a:Int):Bool:=g.any fun v=>(v.round==2*(w:Int) && v.author==a) && v.parents.contains (gx l w)
def DE (g:List Vtx)(l:List Int)(w n:Nat):List Int:=((List.range n).filter fun a:Nat=>N6 g l w (a:Int)).map fun a:Nat=>(a:Int)
theorem Hd (g:List Vtx)(l:List Int)(w n:Nat):DE g l w (n+1)=if N6 g l w (n:Int)=true then DE g l w n++[(n:Int)] else DE g l w n:=by
 simp only[DE,mH,py,cg,lP,mI]
 split<;>simp
theorem JI (g:List Vtx)(l:List Int)(w n:Nat):(DE g l w n).length≤n:=by
 unfold DE
 rw[az]
 exact cz (mN _ _) (by simp)
theorem MV {c:List Int}{g:List Vtx}(hg:GraOK c g)(l:List Int)(w:Nat):DE g l w c.length=tQ g l w:=by
 refine vd ?_ (JJ hg.pw l w) fun a=>?_
 ·unfold DE
  rw[lL]
  exact(List.Pairwise.filter _ List.pairwise_lt_range).imp fun h=>by omega
 ·rw[JL,DE,aD]
  simp only[dW,eC,N6,fU,aB,beq_iff_eq,iF]
  constructor
  ·rintro⟨n,⟨hn,v,hv,⟨h1,h2⟩,h3⟩,rfl⟩
   exact⟨v,hv,h1,h3,h2⟩
  ·rintro⟨v,hv,h1,h2,rfl⟩
   have:=(bG (hg.vtx v hv)).2.1
   exact⟨v.author.toNat,⟨by omega,v,hv,⟨h1,by omega⟩,h2⟩,by omega⟩
theorem Hb {g:List Vtx}{l:List Int}{w:Nat}{a:Int}(h:g.findIdx? (fl (2*(w:Int)) a)=none):N6 g l w a=false:=by
 rw[cj]
 intro h2
 obtain⟨v,hv,h3⟩:=fU.1 h2
 simp only[aB] at h3
 have:=px.1 h v hv
 rw[show fl (2*(w:Int)) a v=true by simp only[fl,aB];exact h3.1] at this
 cases this
theorem Hc {c:List Int}{g:List Vtx}(hg:GraOK c g){l:List Int}{w n q:Nat}{a:Int}{v:Vtx}(hq:g.findIdx? (fl (2*(w:Int)) a)=some q)(hv:g[q]?=some v)(hn:g.findIdx? (fl (2*(w:Int)-1) (gx l w))=some n):N6 g l w a=(pix g v).contains (some n):=by
 obtain⟨x,x1,x2,x3⟩:=kI hq
 rw[hv] at x1
 obtain rfl:=ar x1
 obtain⟨k,k1,k2,k3⟩:=kI hn
 rw[eo,iF]
 constructor
 ·intro h
  obtain⟨u,hu,h3⟩:=fU.1 h
  simp only[aB,beq_iff_eq,iF] at h3
  obtain⟨⟨h4,h5⟩,h6⟩:=h3
  have e:=rL hg.pw hu (bn hv) (by omega) (by omega)
  subst e
  exact aD.2 ⟨gx l w,h6,by rw[x2];exact hn⟩
 ·intro h
  obtain⟨b,hb,h3⟩:=aD.1 h
  obtain⟨y,y1,y2,y3⟩:=kI h3
  rw[k1] at y1
  obtain rfl:=ar y1
  refine fU.2 ⟨v,bn hv,?_⟩
  simp only[aB,beq_iff_eq,iF]
  exact⟨⟨x2,x3⟩,by rw[←k3,y3];exact hb⟩
theorem IX {c:List Int}{g:List Vtx}(hg:GraOK c g){q:Nat}{v:Vtx}(hv:g[q]?=some v):∀o∈pix g v,∃k,o=some k∧k<(dg g).nodes.length:=fun o ho=>by
 obtain⟨k,x,e,h1,-⟩:=oY hg (bn hv) ho
 exact⟨k,e,by rw[(fx g).1];exact(aQ.1 h1).1⟩
theorem LA (c:List Int)(g:List Vtx)(l:List Int)(w:Nat)(hg:GraOK c g)(hl:leaS c l=true)(h1:1≤w)(h2:w≤l.length)(ha:(dg g).at (2*(w:Int)-1) (gx l w)=none):ag Tryz.prog 199 [.agg [.ptr 4 0,.lst (.int .i64) l],.int .i64 (w:Int)] (gR c (dg g)) (.tup [.int .i64 0,.gv 6]) (gR c (dg g)):=by
 have hL:=Fl c g l w hg hl h1 h2 ha
 refine ab dQ Tryz.func199 rfl rfl false 2 6 rfl rfl rfl rfl fun K hK hb1 hb2=>?_;simp only[ae,enc,Nat.reduceAdd]
 clear hb1 hb2
 (repeat' first|refine nL ?_|refine sa fun xe hxe=>?_|refine sb (fun hq=>?_) fun hq=>?_|refine co (hL) ?_|exact aa)
 exact⟨rfl,rfl⟩
theorem LC (c:List Int)(l:List Int)(w:Nat)(hc:comV c=true)(hl:leaS c l=true)(h1:1≤w)(h2:w≤l.length):ag Tryz.prog 199 [.agg [.ptr 4 0,.lst (.int .i64) l],.int .i64 (w:Int)] (gZ c ka) (.tup [.int .i64 0,.gv 6]) (gZ c ka):=by
 have hL:=Lq c l w hc hl h1 h2
 refine ab dQ Tryz.func199 rfl rfl false 1 5 rfl rfl rfl rfl fun K hK hb1 hb2=>?_;simp only[ae,enc,Nat.reduceAdd]
 clear hb1 hb2
 (repeat' first|refine nL ?_|refine sa fun xe hxe=>?_|refine sb (fun hq=>?_) fun hq=>?_|refine co (hL) ?_|exact aa)
 exact⟨rfl,rfl⟩
theorem LB (c:List Int)(g:List Vtx)(l:List Int)(w n:Nat)(hg:GraOK c g)(hl:leaS c l=true)(h1:1≤w)(h2:w≤l.length)(ha:(dg g).at (2*(w:Int)-1) (gx l w)=some n):ag Tryz.prog 199 [.agg [.ptr 4 0,.lst (.int .i64) l],.int .i64 (w:Int)] (gR c (dg g)) (.tup [.int .i64 (fo c (tQ g l w)),.nili]) (gR c (dg g)):=by
 have hL:=vX c g l w n hg hl h1 h2 ha
 have h7:=(ay.1 hg.com).2
 have hcm:=(ay.1 hg.com).1
 have hll:=(bS.1 hl).2
 have hgn:=(fx g).1
 have hfn:=ha
 rw[zg hg hl h1 h2] at hfn
 obtain⟨k,hk,-,-⟩:=kI hfn
 have hnl:n<(dg g).nodes.length:=by rw[hgn];exact(aQ.1 hk).1
 have hr:j5 (2*(w:Int)) 0 30=true:=aC.2 (by omega)
 rw[←MV hg l w]
 refine ab dQ Tryz.func199 rfl rfl false 2 6 rfl rfl rfl rfl fun K hK hb1 hb2=>?_;simp only[ae,enc,Nat.reduceAdd]
 clear hb1 hb2
 (repeat' first|refine nL ?_|refine sa fun xe hxe=>?_|refine sb (fun hq=>?_) fun hq=>?_|refine co (hL) ?_|exact aa)
 refine ah hK [] [1,2,6,8,25,26,27] (fun i:Nat=>⟨[(1,.int .i64 (w:Int)),(2,.ptr 6 0),(6,.hpo 0 (some n)),(8,.int .i64 (fo c (DE g l w i))),(25,.lst (.int .i64) c),(26,.int .i64 c.length),(27,.int .i64 (i:Int))],H7 c (dg g) (.var 156 [.ptr 4 0,.lst (.int .i64) l]),7⟩) (fun i=>i≤c.length) (fun i=>c.length-i) 0 (aX _) rfl ?_
 intro i hi
 have hwb:=wH (ms:=DE g l w i) hg.com
 have hwl:=JI g l w i
 by_cases hlt:i<c.length
 ·have hm:dB c i=true:=aC.2 (by omega)
  have hA:=nS c (dg g) (2*(w:Int)) (i:Int) (fx g).2 h7.2 hr hm
  have hfd:=xO hg (aC.1 hr) (a:=(i:Int)) (by omega)
  have hsn:=Hd g l w i
  have hwn:=tL c (DE g l w i) (i:Int)
  have hca:c[i]?=some (c.getD i 0):=by rw[aq,am hlt];rfl
  have hcb:=hcm _ (bn hca)
  rw[show ((i:Int)).toNat=i by omega] at hwn
  cases h3:(dg g).at (2*(w:Int)) (i:Int) with
  |none=>
   have hin1:(none:Option Nat).isNone=true:=rfl
   rw[h3] at hA
   rw[hfd] at h3
   rw[Hb h3,if_neg (by simp)] at hsn
   (repeat' first|refine nL ?_|refine sa fun xe hxe=>?_|refine sb (fun hq=>?_) fun hq=>?_|refine co (hA) ?_|exact aa)
   exact⟨i+1,by omega,by omega,by rw[hsn];rfl⟩
  |some q=>
   have hin2:(some q:Option Nat).isNone=false:=rfl
   rw[h3] at hA
   rw[hfd] at h3
   obtain⟨v,hv,-,-⟩:=kI h3
   obtain⟨p,hp,hrow⟩:=xP hg hv
   have hvb:=Hc hg (l:=l) h3 hv hfn
   rcases hrow with⟨hpn,rfl⟩|⟨r,rfl,hrow⟩
   ·have hC:=Jn c (dg g) n
    have e:(pix g v).contains (some n)=false:=by rw[pix,hpn];rfl
    rw[hvb,e,if_neg (by simp)] at hsn
    (repeat' first|refine nL ?_|refine sa fun xe hxe=>?_|refine sb (fun hq=>?_) fun hq=>?_|refine co (hA) ?_|refine co (hC) ?_|exact aa)
    exact⟨i+1,by omega,by omega,by rw[hsn];rfl⟩
   ·have hC:=Mu c (dg g) r n (pix g v) hrow (IX hg hv) hnl (by
     unfold pix
     rw[az]
     have:=eO (bG (hg.vtx v (bn hv))).2.2.1
     omega)
    rw[hvb] at hsn
    cases hb:(pix g v).contains (some n)
    ·rw[hb] at hC
     rw[hb,if_neg (by simp)] at hsn
     (repeat' first|refine nL ?_|refine sa fun xe hxe=>?_|refine sb (fun hq=>?_) fun hq=>?_|refine co (hA) ?_|refine co (hC) ?_|exact aa)
     exact⟨i+1,by omega,by omega,by rw[hsn];rfl⟩
    ·rw[hb] at hC
     rw[hb,if_pos rfl] at hsn
     generalize c.getD i 0=cx at *
     generalize fo c (DE g l w i)=wx at *
     (repeat' first|refine nL ?_|refine sa fun xe hxe=>?_|refine sb (fun hq=>?_) fun hq=>?_|refine co (hA) ?_|refine co (hC) ?_|exact aa)
     exact⟨i+1,by omega,by omega,by rw[hsn,hwn];rfl⟩
 ·obtain rfl:i=c.length:=by omega
  (repeat' first|refine nL ?_|refine sa fun xe hxe=>?_|refine sb (fun hq=>?_) fun hq=>?_|exact aa)
  exact⟨rfl,rfl⟩
theorem Ly (c:List Int)(hc:comV c=true):ag Tryz.prog 200 [.lst (.int .i64) c] [] (.int .i64 (DJ c)) []:=by
 have h1:=jz hc
 have h3:(n6 c).tdiv 3+1=DJ c:=rfl
 have h2:=ph hc
 refine ab aj Tryz.func200 rfl rfl false 0 4 rfl rfl rfl rfl fun K hK hb1 hb2=>?_;simp only[ae,enc,Nat.reduceAdd]
 (repeat' first|refine st ?_|refine sa fun xe hxe=>?_|refine sb (fun hq=>?_) fun hq=>?_|refine cr (zY _ hc) ?_|exact aa)
 exact⟨rfl,rfl⟩
theorem Lj (c:List Int)(g:List Vtx)(l:List Int)(w:Nat)(hg:GraOK c g)(hl:leaS c l=true)(h1:1≤w)(h2:w≤l.length):ag Tryz.prog 183 [.agg [.ptr 4 0,.lst (.int .i64) l],.int .i64 (w:Int)] (gR c (dg g)) (.bool (zz c g l w)) (gR c (dg g)):=by
 have hS:=Ly c hg.com
 have hsp:=ph hg.com
 cases hk:qK g l w with
 |none=>
  have hL:=LA c g l w hg hl h1 h2 (AX hg hl h1 h2 hk)
  have e:zz c g l w=false:=by
   rw[zz,qZ,hk]
   exact decide_eq_false (by simp;omega)
  rw[e]
  refine ab dQ Tryz.func183 rfl rfl false 2 6 rfl rfl rfl rfl fun K hK hb1 hb2=>?_;simp only[ae,enc,Nat.reduceAdd]
  clear hb1 hb2
  (repeat' first|refine nL ?_|refine sa fun xe hxe=>?_|refine sb (fun hq=>?_) fun hq=>?_|refine cr (hS) ?_|refine co (hL) ?_|exact aa)
  exact⟨rfl,rfl⟩
 |some k=>
  obtain⟨n,hn,-⟩:=ra hg hl h1 h2 hk
  have hL:=LB c g l w n hg hl h1 h2 hn
  have e:zz c g l w=decide (DJ c≤fo c (tQ g l w)):=by rw[zz,qZ,hk];rfl
  rw[e]
  generalize fo c (tQ g l w)=x at *
  by_cases hle:DJ c≤x
  ·rw[decide_eq_true hle]
   refine ab dQ Tryz.func183 rfl rfl false 2 6 rfl rfl rfl rfl fun K hK hb1 hb2=>?_;simp only[ae,enc,Nat.reduceAdd]
   clear hb1 hb2
   (repeat' first|refine nL ?_|refine sa fun xe hxe=>?_|refine sb (fun hq=>?_) fun hq=>?_|refine cr (hS) ?_|refine co (hL) ?_|exact aa)
   exact⟨by simp[hle],rfl⟩
  ·rw[decide_eq_false hle]
   refine ab dQ Tryz.func183 rfl rfl false 2 6 rfl rfl rfl rfl fun K hK hb1 hb2=>?_;simp only[ae,enc,Nat.reduceAdd]
   clear hb1 hb2
   (repeat' first|refine nL ?_|refine sa fun xe hxe=>?_|refine sb (fun hq=>?_) fun hq=>?_|refine cr (hS) ?_|refine co (hL) ?_|exact aa)
   exact⟨by simp[hle],rfl⟩
theorem Io (c:List Int)(l:List Int)(w:Nat)(hc:comV c=true)(hl:leaS c l=true)(h1:1≤w)(h2:w≤l.length):ag Tryz.prog 183 [.agg [.ptr 4 0,.lst (.int .i64) l],.int .i64 (w:Int)] (gZ c ka) (.bool false) (gZ c ka):=by
 have hL:=LC c l w hc hl h1 h2
 refine ab dQ Tryz.func183 rfl rfl false 1 5 rfl rfl rfl rfl fun K hK hb1 hb2=>?_;simp only[ae,enc,Nat.reduceAdd]
 clear hb1 hb2
 (repeat' first|refine nL ?_|refine sa fun xe hxe=>?_|refine sb (fun hq=>?_) fun hq=>?_|refine co (hL) ?_|exact aa)
 exact⟨rfl,rfl⟩
def bP (ws:List Nat):List Int:=ws.map fun w:Nat=>(w:Int)
theorem pQ (a b:List Nat):bP (a++b)=bP a++bP b:=by simp[bP]
theorem gT (a:List Nat):(bP a).length=a.length:=by simp[bP]
theorem I6 {c:List Int}{g:List Vtx}(hg:GraOK c g){u v:Vtx}{n:Nat}(hv:g[n]?=some v):(pst g u).contains (n:Int)=true↔Rv g u v:=by
 rw[iF,Ca]
 constructor
 ·rintro⟨i,hi,x,hx,hr⟩
  obtain rfl:n=i:=by omega
  rw[hv] at hx
  obtain rfl:=ar hx
  exact hr
 ·intro hr
  exact⟨n,rfl,v,hv,hr⟩
theorem Mh (g:List Vtx)(u:Vtx):(pst g u).Pairwise (· ≤ ·):=(I5 g u).imp fun h=>Int.le_of_lt h
open Classical in
theorem xw {g:List Vtx}{l:List Int}{last x:Nat}(h:x≤last)(cur:Vtx):dwn g l last x cur=[]:=by
 cases x with
 |zero=>rfl
 |succ x=>unfold dwn;rw[if_pos h]
open Classical in
theorem Ev {g:List Vtx}{l:List Int}{last x:Nat}(h:last<x+1){cur:Vtx}(hk:qK g l (x+1)=none):dwn g l last (x+1) cur=dwn g l last x cur:=by
 conv=>lhs;unfold dwn
 rw[if_neg (by omega),hk]
open Classical in
theorem xu {g:List Vtx}{l:List Int}{last x:Nat}(h:last<x+1){cur k:Vtx}(hk:qK g l (x+1)=some k)(hr:¬Rv g cur k):dwn g l last (x+1) cur=dwn g l last x cur:=by
 conv=>lhs;unfold dwn
 rw[if_neg (by omega),hk]
 exact if_neg hr
open Classical in
theorem xx {g:List Vtx}{l:List Int}{last x:Nat}(h:last<x+1){cur k:Vtx}(hk:qK g l (x+1)=some k)(hr:Rv g cur k):dwn g l last (x+1) cur=dwn g l last x k++[x+1]:=by
 conv=>lhs;unfold dwn
 rw[if_neg (by omega),hk]
 exact if_pos hr
theorem Lb (c:List Int)(g:List Vtx)(l:List Int)(w last:Nat)(hg:GraOK c g)(hgl:g.length≤1000000)(hl:leaS c l=true)(h1:1≤w)(h2:w≤l.length)(hw:last<w){k0:Vtx}(hk0:qK g l w=some k0):ag Tryz.prog 184 [.agg [.ptr 4 0,.lst (.int .i64) l],.int .i64 (w:Int),.int .i64 (last:Int)] (gR c (dg g)) (.lst (.int .i64) (bP (chn g l w last))) (gR c (dg g)):=by
 have hll:=(bS.1 hl).2
 obtain⟨n0,hn0,hg0⟩:=ra hg hl h1 h2 hk0
 have hL:=vX c g l w n0 hg hl h1 h2 hn0
 have hP:=vY c g hg hgl n0 k0 hg0
 have hch:chn g l w last=dwn g l last (w-1) k0++[w]:=by unfold chn;rw[hk0]
 have hpl0:=wi g k0
 refine ab dQ Tryz.func184 rfl rfl true 2 6 rfl rfl rfl rfl fun K hK hb1 hb2=>?_;simp only[ae,enc,Nat.reduceAdd]
 clear hb1 hb2
 (repeat' first|refine nL ?_|refine sa fun xe hxe=>?_|refine sb (fun hq=>?_) fun hq=>?_|refine co (hL) ?_|refine co (hP) ?_|exact aa)
 refine ah hK [] [2,3,9,10,11] (fun x:Nat×Vtx×List Nat=>⟨[(2,.int .i64 (last:Int)),(3,.ptr 6 0),(9,.ref 7),(10,.lst (.int .i64) (pst g x.2.1)),(11,.int .i64 (x.1:Int))],H7 c (dg g) (.var 156 [.ptr 4 0,.lst (.int .i64) l])++[(7,.row 3 (.int .i64) ((w:Int)::(bP x.2.2).reverse))],8⟩) (fun x=>x.2.1∈g∧last≤x.1∧x.1<w∧x.2.2.length+x.1≤w∧dwn g l last (w-1) k0=dwn g l last x.1 x.2.1++x.2.2) (fun x=>x.1) (w-1,k0,[]) ⟨bn hg0,by dsimp only;omega,by dsimp only;omega,by dsimp only;simp only[dG];omega,by simp⟩ ?_ ?_
 ·dsimp only
  rw[show (((w-1:Nat):Int))=(w:Int)-1 by omega]
  rfl
 rintro⟨x,cur,acc⟩ ⟨hcur,hx1,hx2,hx3,hdw⟩
 dsimp only at hcur hx1 hx2 hx3 hdw⊢
 have hil:=gT acc
 have hrl:((w:Int)::(bP acc).reverse).length=acc.length+1:=by simp[hil]
 by_cases hlt:last<x
 ·obtain⟨y,rfl⟩:∃y,x=y+1:=⟨x-1,by omega⟩
  have e1:((y+1:Nat):Int)-1=(y:Int):=by omega
  cases hk:qK g l (y+1) with
  |none=>
   have hL2:=Fl c g l (y+1) hg hl (by omega) (by omega) (AX hg hl (by omega) (by omega) hk)
   have hE:=KQ
   rw[Ev (by omega) hk] at hdw
   generalize hrow:((w:Int)::(bP acc).reverse)=row at *
   (repeat' first|refine nL ?_|refine sa fun xe hxe=>?_|refine sb (fun hq=>?_) fun hq=>?_|refine cr (hE) ?_|refine co (hL2) ?_|exact aa)
   refine⟨(y,cur,acc),⟨hcur,by dsimp only;omega,by dsimp only;omega,by dsimp only;omega,hdw⟩,by dsimp only;omega,?_⟩
   rw[e1]
   dsimp only
   rw[hrow]
   rfl
  |some k=>
   obtain⟨n,hn,hgn⟩:=ra hg hl (by omega) (by omega) hk
   have hL2:=vX c g l (y+1) n hg hl (by omega) (by omega) hn
   have hE:=KP
   have hB:=E9 (pst g cur) (n:Int) (Mh g cur) (by have:=wi g cur;omega)
   obtain⟨p,hp⟩:=md hgn
   have hix:=I6 hg (u:=cur) hgn
   by_cases hr:Rv g cur k
   ·rw[hix.2 hr] at hB
    have hP2:=vY c g hg hgl n k hgn
    rw[xx (by omega) hk hr,bJ] at hdw
    have hrow2:((w:Int)::(bP acc).reverse)++[((y+1:Nat):Int)]=(w:Int)::(bP ((y+1)::acc)).reverse:=by simp[bP]
    generalize hrow:((w:Int)::(bP acc).reverse)=row at *
    (repeat' first|refine nL ?_|refine sa fun xe hxe=>?_|refine sb (fun hq=>?_) fun hq=>?_|refine cr (hE) ?_|refine cr (hB) ?_|refine co (hL2) ?_|refine co (hP2) ?_|exact aa)
    refine⟨(y,k,(y+1)::acc),⟨bn hgn,by dsimp only;omega,by dsimp only;omega,by dsimp only;simp only[bH];omega,hdw⟩,by dsimp only;omega,?_⟩
    rw[e1]
    dsimp only
    rw[←hrow2]
    rfl
   ·rw[show (pst g cur).contains (n:Int)=false from by rw[cj];exact fun h=>hr (hix.1 h)] at hB
    rw[xu (by omega) hk hr] at hdw
    generalize hrow:((w:Int)::(bP acc).reverse)=row at *
    (repeat' first|refine nL ?_|refine sa fun xe hxe=>?_|refine sb (fun hq=>?_) fun hq=>?_|refine cr (hE) ?_|refine cr (hB) ?_|refine co (hL2) ?_|exact aa)
    refine⟨(y,cur,acc),⟨hcur,by dsimp only;omega,by dsimp only;omega,by dsimp only;omega,hdw⟩,by dsimp only;omega,?_⟩
    rw[e1]
    dsimp only
    rw[hrow]
    rfl
 ·rw[xw (x:=x) (by omega) cur,eB] at hdw
  have hR:=Lx ((w:Int)::(bP acc).reverse) (by omega)
  have hfin:((w:Int)::(bP acc).reverse).reverse=bP (chn g l w last):=by
   rw[hch,hdw,pQ,List.reverse_cons,List.reverse_reverse];rfl
  (repeat' first|refine nL ?_|refine sa fun xe hxe=>?_|refine sb (fun hq=>?_) fun hq=>?_|refine co (hR) ?_|exact aa)
  exact⟨by rw[hfin],rfl⟩
end Go.Proofs.YtpefhoohfkeflaaGreatDoor.Am
namespace Go.Proofs.YtpefhoohfkeflaaGreatDoor.Am
open Go
attribute [local irreducible] Mk ck Ari fK mQ jM cd cX i7 fC At ag
set_option maxRecDepth 10000
theorem vf:∀{l:List Nat} {a b:Nat},l.Pairwise (· < ·)→(∀x∈l,a<x∧x≤b)→l.length≤b-a
 |[],_,_,_,_=>aX _
 |x::l,a,b,h,hb=>by
  obtain⟨h1,h2⟩:=fv.1 h
  have hx:=hb x (by simp)
  have:=vf (a:=x) (b:=b) h2 fun y hy=>⟨h1 y hy,(hb y (by simp[hy])).2⟩
  simp only[bH]
  omega
theorem mY (c:List Int)(g:List Vtx)(l:List Int)(hc:comV c=true)(n:Nat):(cmt c g l n).1.length≤n:=by
 have h1:=mX (g:=g) hc l n
 have:=vf (a:=0) (b:=n) (ov c g l n).2.1 fun x hx=>⟨by have:=(h1 x hx).1;omega,(h1 x hx).2.1⟩
 omega
theorem HB (g:List Vtx)(l:List Int){w last:Nat}(h:last<w):(chn g l w last).length≤w:=by
 obtain⟨h1,h2⟩:=A3 g l h
 have:=vf h1 h2
 omega
theorem A5 {c:List Int}{g:List Vtx}{l:List Int}{n:Nat}(h:zz c g l (n+1)=true):cmt c g l (n+1)=((cmt c g l n).1++chn g l (n+1) (cmt c g l n).2,n+1):=by
 conv=>lhs;unfold cmt
 rw[if_pos h]
theorem zp {c:List Int}{g:List Vtx}{l:List Int}{n:Nat}(h:zz c g l (n+1)=false):cmt c g l (n+1)=cmt c g l n:=by
 conv=>lhs;unfold cmt
 rw[if_neg (by rw[h];simp)]
theorem A4 (c:List Int)(l:List Int)(hc:comV c=true):∀n:Nat,cmt c [] l n=([],0)
 |0=>rfl
 |n+1=>by
  have h:zz c [] l (n+1)=false:=by
   rw[cj]
   intro h
   obtain⟨k,hk,-⟩:=rd hc h
   cases hk
  rw[zp h,A4 c l hc n]
theorem Lc (c:List Int)(g:List Vtx)(l:List Int)(hg:GraOK c g)(hgl:g.length≤1000000)(hl:leaS c l=true):ag Tryz.prog 157 [.agg [.ptr 4 0,.lst (.int .i64) l]] (gR c (dg g)) (.lst (.int .i64) (bP (cmt c g l l.length).1)) (gR c (dg g)):=by
 have hll:=(bS.1 hl).2
 refine ab dQ Tryz.func157 rfl rfl true 2 6 rfl rfl rfl rfl fun K hK hb1 hb2=>?_;simp only[ae,enc,Nat.reduceAdd]
 clear hb1 hb2
 (repeat' first|refine nL ?_|refine sa fun xe hxe=>?_|refine sb (fun hq=>?_) fun hq=>?_|exact aa)
 refine ah hK [] [1,3,4,5] (fun n:Nat=>⟨[(1,.ptr 6 0),(3,.ref 7),(4,.int .i64 ((cmt c g l n).2:Int)),(5,.int .i64 ((n:Int)+1))],H7 c (dg g) (.var 156 [.ptr 4 0,.lst (.int .i64) l])++[(7,.row 3 (.int .i64) (bP (cmt c g l n).1))],8⟩) (fun n=>n≤l.length) (fun n=>l.length-n) 0 (aX _) ?_ ?_
 ·rw[show (((0:Nat):Int)+1)=1 from rfl]
  rfl
 intro n hn
 have hcl:=mY c g l hg.com n
 have hil:=gT (cmt c g l n).1
 have hc2:=(ov c g l n).1
 by_cases hlt:n<l.length
 ·have hD:=Lj c g l (n+1) hg hl (by omega) (by omega)
  have e1:(((n+1:Nat)):Int)=(n:Int)+1:=by omega
  cases hd:zz c g l (n+1)
  ·rw[hd,e1] at hD
   have hcn:=zp hd
   (repeat' first|refine nL ?_|refine sa fun xe hxe=>?_|refine sb (fun hq=>?_) fun hq=>?_|refine co (hD) ?_|exact aa)
   exact⟨n+1,by omega,by omega,by rw[hcn,e1];rfl⟩
  ·obtain⟨k,hk,-⟩:=rd hg.com hd
   have hC:=Lb c g l (n+1) (cmt c g l n).2 hg hgl hl (by omega) (by omega) (by omega) hk
   have hkl:=HB g l (w:=n+1) (last:=(cmt c g l n).2) (by omega)
   have hkl2:=gT (chn g l (n+1) (cmt c g l n).2)
   rw[hd,e1] at hD
   rw[e1] at hC
   have hcn:=A5 hd
   have hap:=pQ (cmt c g l n).1 (chn g l (n+1) (cmt c g l n).2)
   generalize hA:bP (cmt c g l n).1=A at *
   generalize hB:bP (chn g l (n+1) (cmt c g l n).2)=B at *
   (repeat' first|refine nL ?_|refine sa fun xe hxe=>?_|refine sb (fun hq=>?_) fun hq=>?_|refine co (hD) ?_|refine co (hC) ?_|exact aa)
   exact⟨n+1,by omega,by omega,by rw[hcn];dsimp only;rw[hap,e1];rfl⟩
 ·obtain rfl:n=l.length:=by omega
  (repeat' first|refine nL ?_|refine sa fun xe hxe=>?_|refine sb (fun hq=>?_) fun hq=>?_|exact aa)
  exact⟨rfl,rfl⟩
theorem Il (c:List Int)(l:List Int)(hc:comV c=true)(hl:leaS c l=true):ag Tryz.prog 157 [.agg [.ptr 4 0,.lst (.int .i64) l]] (gZ c ka) (.lst (.int .i64) []) (gZ c ka):=by
 have hll:=(bS.1 hl).2
 refine ab dQ Tryz.func157 rfl rfl true 1 5 rfl rfl rfl rfl fun K hK hb1 hb2=>?_;simp only[ae,enc,Nat.reduceAdd]
 clear hb1 hb2
 (repeat' first|refine nL ?_|refine sa fun xe hxe=>?_|refine sb (fun hq=>?_) fun hq=>?_|exact aa)
 refine ah hK [] [1,3,4,5] (fun n:Nat=>⟨[(1,.ptr 5 0),(3,.ref 6),(4,.int .i64 0),(5,.int .i64 ((n:Int)+1))],O5 c ka (.var 156 [.ptr 4 0,.lst (.int .i64) l])++[(6,.row 3 (.int .i64) [])],7⟩) (fun n=>n≤l.length) (fun n=>l.length-n) 0 (aX _) ?_ ?_
 ·rw[show (((0:Nat):Int)+1)=1 from rfl]
  rfl
 intro n hn
 by_cases hlt:n<l.length
 ·have hD:=Io c l (n+1) hc hl (by omega) (by omega)
  have e1:(((n+1:Nat)):Int)=(n:Int)+1:=by omega
  rw[e1] at hD
  (repeat' first|refine nL ?_|refine sa fun xe hxe=>?_|refine sb (fun hq=>?_) fun hq=>?_|refine co (hD) ?_|exact aa)
  exact⟨n+1,by omega,by omega,by rw[e1];rfl⟩
 ·(repeat' first|refine nL ?_|refine sa fun xe hxe=>?_|refine sb (fun hq=>?_) fun hq=>?_|exact aa)
  exact⟨rfl,rfl⟩
def CA (c:List Int)(g:List Vtx)(l:List Int):Bool:=graS c g && leaS c l
theorem Lu (c:List Int)(g:List Vtx)(l:List Int)(hgl:g.length≤1000000)(h:CA c g l=false):ag Tryz.prog 126 [.lst (.int .i64) c,.lst .vtx g,.lst (.int .i64) l] [] (.tup [.agg [.nilp,.nils],.gv 1]) []:=by
 have hL:=wa c g (by omega)
 have hV:=rv c l
 refine ab dQ Tryz.func126 rfl rfl false 0 4 rfl rfl rfl rfl fun K hK hb1 hb2=>?_;simp only[ae,enc,Nat.reduceAdd]
 clear hb1 hb2
 cases hg:graS c g
 ·simp only[DI,DH,hg,fg,if_false] at hL
  (repeat' first|refine nL ?_|refine sa fun xe hxe=>?_|refine sb (fun hq=>?_) fun hq=>?_|refine cr (hL) ?_|refine cr (hV) ?_|exact aa)
  exact⟨rfl,rfl⟩
 ·have hok:=eZ hg
  simp only[DI,DH,hg,if_true] at hL
  rw[CA,hg,dX] at h
  rw[hok.com,h] at hV
  cases g with
  |nil=>
   (repeat' first|refine nL ?_|refine sa fun xe hxe=>?_|refine sb (fun hq=>?_) fun hq=>?_|refine cr (hL) ?_|refine cr (hV) ?_|exact aa)
   exact⟨rfl,rfl⟩
  |cons v g=>
   (repeat' first|refine nL ?_|refine sa fun xe hxe=>?_|refine sb (fun hq=>?_) fun hq=>?_|refine cr (hL) ?_|refine cr (hV) ?_|exact aa)
   exact⟨rfl,rfl⟩
theorem Ls (c:List Int)(v:Vtx)(g:List Vtx)(l:List Int)(hgl:(v::g).length≤1000000)(hg:graS c (v::g)=true)(hl:leaS c l=true):ag Tryz.prog 126 [.lst (.int .i64) c,.lst .vtx (v::g),.lst (.int .i64) l] [] (.tup [.agg [.ptr 4 0,.lst (.int .i64) l],.nili]) (gR c (dg (v::g))):=by
 have hL:=wa c (v::g) (by omega)
 have hV:=rv c l
 have hok:=eZ hg
 simp only[DI,DH,hg,if_true] at hL
 rw[hok.com,hl] at hV
 refine ab dQ Tryz.func126 rfl rfl false 0 4 rfl rfl rfl rfl fun K hK hb1 hb2=>?_;simp only[ae,enc,Nat.reduceAdd]
 clear hb1 hb2
 (repeat' first|refine nL ?_|refine sa fun xe hxe=>?_|refine sb (fun hq=>?_) fun hq=>?_|refine cr (hL) ?_|refine cr (hV) ?_|exact aa)
 exact⟨rfl,rfl⟩
theorem Lt (c:List Int)(l:List Int)(hc:comV c=true)(hl:leaS c l=true):ag Tryz.prog 126 [.lst (.int .i64) c,.lst .vtx [],.lst (.int .i64) l] [] (.tup [.agg [.ptr 4 0,.lst (.int .i64) l],.nili]) (gZ c ka):=by
 have hg:graS c []=true:=by simp[graS,hc,eH]
 have hL:=wa c [] (by simp)
 have hV:=rv c l
 simp only[DI,DH,hg,if_true] at hL
 rw[hc,hl] at hV
 refine ab dQ Tryz.func126 rfl rfl false 0 4 rfl rfl rfl rfl fun K hK hb1 hb2=>?_;simp only[ae,enc,Nat.reduceAdd]
 clear hb1 hb2
 (repeat' first|refine nL ?_|refine sa fun xe hxe=>?_|refine sb (fun hq=>?_) fun hq=>?_|refine cr (hL) ?_|refine cr (hV) ?_|exact aa)
 exact⟨rfl,rfl⟩
noncomputable def cmw (c:List Int) (g:List Vtx) (l:List Int):List Nat:=if CA c g l then(cmt c g l l.length).1 else[]
open Classical in
theorem OV (c:List Int)(g:List Vtx)(l:List Int)(hg:GraOK c g)(hgl:g.length≤1000000)(hl:leaS c l=true):ag Tryz.prog 129 [.lst (.int .i64) c,.lst .vtx g,.lst (.int .i64) l] [] (.lst (.int .i64) (bP (cmt c g l l.length).1)) []:=by
 have hll:=(bS.1 hl).2
 have hS:=N2 c hg.com
 have hsp:=ph hg.com
 refine ab aj Tryz.func129 rfl rfl true 0 4 rfl rfl rfl rfl fun K hK hb1 hb2=>?_;simp only[ae,enc,Nat.reduceAdd]
 clear hb1 hb2
 (repeat' first|refine st ?_|refine sa fun xe hxe=>?_|refine sb (fun hq=>?_) fun hq=>?_|exact aa)
 refine ah hK [] [0,1,2,7,8,9] (fun n:Nat=>⟨[(0,.lst (.int .i64) c),(1,.lst .vtx g),(2,.lst (.int .i64) l),(7,.ref 4),(8,.int .i64 ((cmt c g l n).2:Int)),(9,.int .i64 ((n:Int)+1))],[(4,.row 3 (.int .i64) (bP (cmt c g l n).1))],5⟩) (fun n=>n≤l.length) (fun n=>l.length-n) 0 (aX _) rfl ?_
 intro n hn
 have hcl:=mY c g l hg.com n
 have hil:=gT (cmt c g l n).1
 have hc2:=(ov c g l n).1
 by_cases hlt:n<l.length
 ·have hV:=N7 c g l (n+1) hg hgl (by omega) (by omega) (by omega)
  have e1:(((n+1:Nat)):Int)=(n:Int)+1:=by omega
  have hdd:zz c g l (n+1)=decide (DJ c≤qZ c g l (n+1)):=rfl
  rw[e1] at hV
  by_cases hd:zz c g l (n+1)=true
  ·obtain⟨k0,hk0,-⟩:=rd hg.com hd
   have hcn:=A5 hd
   have hap:=pQ (cmt c g l n).1 (chn g l (n+1) (cmt c g l n).2)
   have hch:chn g l (n+1) (cmt c g l n).2=dwn g l (cmt c g l n).2 n k0++[n+1]:=by unfold chn;rw[hk0];rfl
   rw[hdd] at hd
   have hd:=of_decide_eq_true hd
   obtain⟨n0,hn0,hg0⟩:=nd hg hk0
   have hL:=BN g l (n+1) (by omega) (by omega) (by omega)
   rw[hn0,e1] at hL
   have hP:=Ak c g hg hgl n0 k0 hg0
   generalize qZ c g l (n+1)=vt at *
   generalize hA:bP (cmt c g l n).1=A at *
   generalize hla:(cmt c g l n).2=last at *
   (repeat' first|refine st ?_|refine sa fun xe hxe=>?_|refine sb (fun hq=>?_) fun hq=>?_|refine cr (hV) ?_|refine cr (hS) ?_|refine cr (hL) ?_|refine cr (hP) ?_|exact aa)
   clear hV hL hP hS
   refine ah hK [] [0,1,2,7,8,9,10,11,12] (fun x:Nat×Vtx×List Nat=>⟨[(0,.lst (.int .i64) c),(1,.lst .vtx g),(2,.lst (.int .i64) l),(7,.ref 4),(8,.int .i64 (last:Int)),(9,.int .i64 ((n:Int)+1)),(10,.ref 5),(11,.lst .bool (pfl g x.2.1)),(12,.int .i64 (x.1:Int))],[(4,.row 3 (.int .i64) A),(5,.row 3 (.int .i64) (bP (x.2.2++[n+1])))],6⟩) (fun x=>x.2.1∈g∧last≤x.1∧x.1≤n∧x.2.2.length+x.1≤n∧dwn g l last n k0=dwn g l last x.1 x.2.1++x.2.2) (fun x=>x.1) (n,k0,[]) ⟨bn hg0,hc2,ax _,by simp,by simp⟩ ?_ ?_
   ·dsimp only
    rw[show ((n:Int)+1-1)=(n:Int) by omega,eB,show bP [n+1]=[(n:Int)+1] from by rw[←e1];rfl]
    rfl
   rintro⟨x,cur,acc⟩ ⟨hcur,hx1,hx2,hx3,hdw⟩
   dsimp only at hcur hx1 hx2 hx3 hdw⊢
   have hrl:(bP (acc++[n+1])).length=acc.length+1:=by rw[gT];simp
   by_cases hlt2:last<x
   ·obtain⟨y,rfl⟩:∃y,x=y+1:=⟨x-1,by omega⟩
    have e2:((y+1:Nat):Int)-1=(y:Int):=by omega
    have hL:=BN g l (y+1) (by omega) (by omega) (by omega)
    cases hk:qK g l (y+1) with
    |none=>
     rw[uA hk] at hL
     rw[Ev (by omega) hk] at hdw
     generalize hrow:bP (acc++[n+1])=row at *
     (repeat' first|refine st ?_|refine sa fun xe hxe=>?_|refine sb (fun hq=>?_) fun hq=>?_|refine cr (hL) ?_|exact aa)
     refine⟨(y,cur,acc),⟨hcur,by dsimp only;omega,by dsimp only;omega,by dsimp only;omega,hdw⟩,by dsimp only;omega,?_⟩
     rw[e2]
     dsimp only
     rw[hrow]
    |some k=>
     obtain⟨m,hm,hgm⟩:=nd hg hk
     rw[hm] at hL
     have hpf:=Al (u:=cur) hgm
     by_cases hr:Rv g cur k
     ·rw[decide_eq_true hr] at hpf
      have hP:=Ak c g hg hgl m k hgm
      rw[xx (by omega) hk hr,bJ] at hdw
      have hrow2:[((y+1:Nat):Int)]++bP (acc++[n+1])=bP (((y+1)::acc)++[n+1]):=rfl
      generalize hrow:bP (acc++[n+1])=row at *
      (repeat' first|refine st ?_|refine sa fun xe hxe=>?_|refine sb (fun hq=>?_) fun hq=>?_|refine cr (hL) ?_|refine cr (hP) ?_|exact aa)
      refine⟨(y,k,(y+1)::acc),⟨bn hgm,by dsimp only;omega,by dsimp only;omega,by dsimp only;simp only[bH];omega,hdw⟩,by dsimp only;omega,?_⟩
      rw[e2]
      dsimp only
      rw[←hrow2]
     ·rw[decide_eq_false hr] at hpf
      rw[xu (by omega) hk hr] at hdw
      generalize hrow:bP (acc++[n+1])=row at *
      (repeat' first|refine st ?_|refine sa fun xe hxe=>?_|refine sb (fun hq=>?_) fun hq=>?_|refine cr (hL) ?_|exact aa)
      refine⟨(y,cur,acc),⟨hcur,by dsimp only;omega,by dsimp only;omega,by dsimp only;omega,hdw⟩,by dsimp only;omega,?_⟩
      rw[e2]
      dsimp only
      rw[hrow]
   ·rw[xw (x:=x) (by omega) cur,eB] at hdw
    have hfin:bP (acc++[n+1])=bP (chn g l (n+1) last):=by rw[hch,hdw]
    rw[hfin]
    rw[hfin] at hrl
    generalize hB:bP (chn g l (n+1) last)=B at *
    have hAl:A.length≤n:=by omega
    (repeat' first|refine st ?_|refine sa fun xe hxe=>?_|refine sb (fun hq=>?_) fun hq=>?_|exact aa)
    exact⟨n+1,by omega,by omega,by rw[hcn];dsimp only;rw[hap,e1]⟩
  ·have hd2:zz c g l (n+1)=false:=by simpa using hd
   have hcn:=zp hd2
   rw[hdd] at hd2
   have hd2:=of_decide_eq_false hd2
   generalize qZ c g l (n+1)=vt at *
   (repeat' first|refine st ?_|refine sa fun xe hxe=>?_|refine sb (fun hq=>?_) fun hq=>?_|refine cr (hV) ?_|refine cr (hS) ?_|exact aa)
   exact⟨n+1,by omega,by omega,by rw[hcn,e1]⟩
 ·obtain rfl:n=l.length:=by omega
  (repeat' first|refine st ?_|refine sa fun xe hxe=>?_|refine sb (fun hq=>?_) fun hq=>?_|exact aa)
  exact⟨rfl,rfl⟩
end Go.Proofs.YtpefhoohfkeflaaGreatDoor.Am
namespace Go.Proofs.YtpefhoohfkeflaaGreatDoor.Am
open Go
attribute [local irreducible] Mk ck Ari fK mQ jM cd cX i7 fC At ag
set_option maxRecDepth 10000
noncomputable def wvS (g:List Vtx) (l:List Int) (ws:List Nat) (w:Nat) (j:Nat):List Int:=(g.take j).map (wvk g l (ws++[w]))++(g.drop j).map (wvk g l ws)
theorem JT (g:List Vtx)(l:List Int)(ws:List Nat)(w j:Nat):(wvS g l ws w j).length=g.length:=by
 simp only[wvS,aO,az,bQ,lK]
 omega
theorem N9 (g:List Vtx)(l:List Int)(ws:List Nat)(w:Nat):wvS g l ws w 0=g.map (wvk g l ws):=by simp[wvS]
theorem JS (g:List Vtx)(l:List Int)(ws:List Nat)(w:Nat):wvS g l ws w g.length=g.map (wvk g l (ws++[w])):=by simp[wvS]
theorem Hm {g:List Vtx}{l:List Int}{ws:List Nat}{w j:Nat}{v:Vtx}(h:g[j]?=some v):(wvS g l ws w j)[j]?=some (wvk g l ws v):=by
 have hj:=(aQ.1 h).1
 rw[wvS,fb (by simp;omega)]
 simp only[az,bQ,bf,oa]
 rw[show j+(j-min j g.length)=j by omega,h]
 rfl
theorem Cz {g:List Vtx}{l:List Int}{ws:List Nat}{w j:Nat}{v:Vtx}(h:g[j]?=some v):(wvS g l ws w j).set j (wvk g l (ws++[w]) v)=wvS g l ws w (j+1):=by
 obtain⟨hj,hv⟩:=aQ.1 h
 have e1:g.take (j+1)=g.take j++[v]:=by rw[←hv];exact ca hj
 have e2:g.drop j=v::g.drop (j+1):=by rw[←hv];exact(nQ hj)
 have e3:(List.map (wvk g l (ws++[w])) (g.take j)).length=j:=by simp;omega
 rw[wvS,wvS,e1,e2,cg,bB,List.set_append_right _ _ (by omega),e3,kr,List.set_cons_zero,bJ]
 rfl
theorem Hn {g:List Vtx}{l:List Int}{ws:List Nat}{w j:Nat}{v:Vtx}(h:g[j]?=some v)(he:wvk g l (ws++[w]) v=wvk g l ws v):wvS g l ws w j=wvS g l ws w (j+1):=by
 have h1:=Cz (l:=l) (ws:=ws) (w:=w) h
 rw[he] at h1
 rw[←h1]
 refine(mJ fun k=>?_)
 rw[dx]
 by_cases e:j=k
 ·subst e
  have:=Hm (l:=l) (ws:=ws) (w:=w) h
  rw[if_pos rfl,if_pos (aQ.1 this).1,this]
 ·rw[if_neg e]
theorem JU (g:List Vtx)(l:List Int)(v:Vtx):wvk g l [] v=0:=rfl
open Classical in
theorem NS (c:List Int)(g:List Vtx)(l:List Int)(hg:GraOK c g)(hgl:g.length≤1000000)(hl:leaS c l=true):ag Tryz.prog 104 [.lst (.int .i64) c,.lst .vtx g,.lst (.int .i64) l] [] (.lst (.int .i64) (g.map (wvk g l (cmt c g l l.length).1))) []:=by
 have hll:=(bS.1 hl).2
 have hW:=OV c g l hg hgl hl
 have hcl:=mY c g l hg.com l.length
 have hcm:=mX (g:=g) hg.com l l.length
 have hfit:lw 8 (((g.length:Nat):Int).toNat):=by unfold lw;omega
 generalize (cmt c g l l.length).1=W at *
 have hil:=gT W
 refine ab aj Tryz.func104 rfl rfl true 0 4 rfl rfl rfl rfl fun K hK hb1 hb2=>?_;simp only[ae,enc,Nat.reduceAdd]
 clear hb1 hb2
 (repeat' first|refine st ?_|refine sa fun xe hxe=>?_|refine sb (fun hq=>?_) fun hq=>?_|refine cr (hW) ?_|exact aa)
 refine ah hK [] [1,2,7,8,9] (fun i:Nat=>⟨[(1,.lst .vtx g),(2,.lst (.int .i64) l),(7,.ref 4),(8,.lst (.int .i64) (bP W)),(9,.int .i64 (i:Int))],[(4,.row 3 (.int .i64) (g.map (wvk g l (W.take i))))],5⟩) (fun i=>i≤W.length) (fun i=>W.length-i) 0 (aX _) ?_ ?_
 ·have e:List.replicate ((g.length:Int).toNat) (0:Int)=g.map (wvk g l (W.take 0)):=by
   rw[List.take_zero,show ((g.length:Int).toNat)=g.length by omega]
   refine(List.ext_getElem (by simp) fun k h1 h2=>?_)
   simp[JU]
  rw[←e]
  rfl
 intro i hi
 by_cases hlt:i<W.length
 ·obtain⟨w,hw⟩:∃w,W[i]?=some w:=⟨_,am hlt⟩
  have hwx:(bP W)[i]?=some (w:Int):=by rw[bP,bf,hw];rfl
  obtain⟨w1,w2,k,hk⟩:=hcm w (bn hw)
  have htk:W.take (i+1)=W.take i++[w]:=by
   obtain⟨h1,h2⟩:=aQ.1 hw
   rw[←h2];exact ca h1
  have hpos:∀x∈W.take i,1≤x:=fun x hx=>(hcm x (j7 hx)).1
  obtain⟨n,hn,hgn⟩:=nd hg hk
  have hL:=BN g l w w1 w2 (by omega)
  rw[hn] at hL
  have hP:=Ak c g hg hgl n k hgn
  generalize W.take i=ws at *
  (repeat' first|refine st ?_|refine sa fun xe hxe=>?_|refine sb (fun hq=>?_) fun hq=>?_|refine cr (hL) ?_|refine cr (hP) ?_|exact aa)
  clear hL hP hW
  refine ah hK [] [1,2,7,8,9,10,11] (fun j:Nat=>⟨[(1,.lst .vtx g),(2,.lst (.int .i64) l),(7,.ref 4),(8,.lst (.int .i64) (bP W)),(9,.int .i64 (i:Int)),(10,.lst .bool (pfl g k)),(11,.int .i64 (j:Int))],[(4,.row 3 (.int .i64) (wvS g l ws w j))],5⟩) (fun j=>j≤g.length) (fun j=>g.length-j) 0 (aX _) (by rw[N9];rfl) ?_
  intro j hj
  have hrl:=JT g l ws w j
  by_cases hjl:j<g.length
  ·have hxe:g[j]?=some g[j]:=am hjl
   have hpf:=Al (u:=k) hxe
   have hat:=Hm (l:=l) (ws:=ws) (w:=w) hxe
   have hst:=Cz (l:=l) (ws:=ws) (w:=w) hxe
   have hsk:=Hn (l:=l) (ws:=ws) (w:=w) hxe
   have hvr:=(bG (hg.vtx _ (bn hxe))).1
   have hsn:=tM g l ws w g[j] hpos
   have hiw:y7 g l w g[j]↔Rv g k g[j]∧2*(w:Int)-7≤g[j].round:=by
    unfold y7
    rw[hk]
    exact⟨fun ⟨k',e,h1,h2⟩=>by obtain rfl:=ar e;exact⟨h1,h2⟩,fun ⟨h1,h2⟩=>⟨k,rfl,h1,h2⟩⟩
   generalize g[j]=v at *
   generalize wvk g l ws v=o at *
   generalize wvk g l (ws++[w]) v=o2 at *
   generalize hrow:wvS g l ws w j=row at *
   by_cases hr:Rv g k v
   ·rw[decide_eq_true hr] at hpf
    by_cases ho:o=0
    ·by_cases hd:2*(w:Int)-7≤v.round
     ·rw[if_pos ⟨ho,hiw.2 ⟨hr,hd⟩⟩] at hsn
      rw[hsn] at hst
      (repeat' first|refine st ?_|refine sa fun xe hxe=>?_|refine sb (fun hq=>?_) fun hq=>?_|exact aa)
      (try any_goals(first|exact absurd trivial hq|exact absurd rfl hq|exact absurd hq (by omega)|(exfalso;simp at hq;done)))
      exact⟨j+1,by omega,by omega,by rw[←hst];rfl⟩
     ·rw[if_neg (fun h=>hd (hiw.1 h.2).2)] at hsn
      have hsk:=hsk hsn
      (repeat' first|refine st ?_|refine sa fun xe hxe=>?_|refine sb (fun hq=>?_) fun hq=>?_|exact aa)
      (try any_goals(first|exact absurd trivial hq|exact absurd rfl hq|exact absurd hq (by omega)|(exfalso;simp at hq;done)))
      exact⟨j+1,by omega,by omega,by rw[←hsk];rfl⟩
    ·rw[if_neg (fun h=>ho h.1)] at hsn
     have hsk:=hsk hsn
     (repeat' first|refine st ?_|refine sa fun xe hxe=>?_|refine sb (fun hq=>?_) fun hq=>?_|exact aa)
     (try any_goals(first|exact absurd trivial hq|exact absurd rfl hq|exact absurd hq (by omega)|(exfalso;simp at hq;done)))
     exact⟨j+1,by omega,by omega,by rw[←hsk];rfl⟩
   ·rw[decide_eq_false hr] at hpf
    rw[if_neg (fun h=>hr (hiw.1 h.2).1)] at hsn
    have hsk:=hsk hsn
    (repeat' first|refine st ?_|refine sa fun xe hxe=>?_|refine sb (fun hq=>?_) fun hq=>?_|exact aa)
    (try any_goals(first|exact absurd trivial hq|exact absurd rfl hq|exact absurd hq (by omega)|(exfalso;simp at hq;done)))
    exact⟨j+1,by omega,by omega,by rw[←hsk];rfl⟩
  ·obtain rfl:j=g.length:=by omega
   have hend:=JS g l ws w
   rw[←htk] at hend
   rw[hend]
   (repeat' first|refine st ?_|refine sa fun xe hxe=>?_|refine sb (fun hq=>?_) fun hq=>?_|exact aa)
   (try any_goals(first|exact absurd trivial hq|exact absurd rfl hq|exact absurd hq (by omega)|(exfalso;simp at hq;done)))
   exact⟨i+1,by omega,by omega,rfl⟩
 ·obtain rfl:i=W.length:=by omega
  rw[iH]
  (repeat' first|refine st ?_|refine sa fun xe hxe=>?_|refine sb (fun hq=>?_) fun hq=>?_|exact aa)
  (try any_goals(first|exact absurd trivial hq|exact absurd rfl hq|exact absurd hq (by omega)|(exfalso;simp at hq;done)))
  exact⟨rfl,rfl⟩
theorem Cm (xs:List Int)(w:Int)(n:Nat):(y8 xs w n).length≤n:=by
 unfold y8
 rw[az]
 exact cz (mN _ _) (by simp)
theorem qg (xs:List Int):∀m:Nat,(jZ xs m).length≤m*xs.length
 |0=>by simp[jZ]
 |m+1=>by
  rw[tx,aO]
  have h1:=qg xs m
  have h2:=Cm xs ((m+1:Nat):Int) xs.length
  rw[Nat.succ_mul]
  omega
theorem Mx {xs:List Int}{w:Int}{n:Nat}:∀x∈y8 xs w n,0≤x∧x<n:=by
 intro x hx
 obtain⟨i,hi,rfl⟩:=aD.1 hx
 have:=eC.1 (dW.1 hi).1
 omega
theorem GF {xs:List Int}{m:Nat}:∀x∈jZ xs m,0≤x∧x<xs.length:=by
 intro x hx
 obtain⟨w,-,hw⟩:=en.1 hx
 exact Mx x hw
theorem NT (c:List Int)(g:List Vtx)(l:List Int)(hg:GraOK c g)(hgl:g.length≤10000)(hl:leaS c l=true):ag Tryz.prog 69 [.lst (.int .i64) c,.lst .vtx g,.lst (.int .i64) l] [] (.lst (.int .i64) (jZ (g.map (wvk g l (cmt c g l l.length).1)) l.length)) []:=by
 have hll:=(bS.1 hl).2
 have hW:=NS c g l hg (by omega) hl
 have hxl:(g.map (wvk g l (cmt c g l l.length).1)).length=g.length:=by simp
 generalize g.map (wvk g l (cmt c g l l.length).1)=xs at *
 refine ab aj Tryz.func69 rfl rfl true 0 4 rfl rfl rfl rfl fun K hK hb1 hb2=>?_;simp only[ae,enc,Nat.reduceAdd]
 clear hb1 hb2
 (repeat' first|refine st ?_|refine sa fun xe hxe=>?_|refine sb (fun hq=>?_) fun hq=>?_|refine cr (hW) ?_|exact aa)
 clear hW
 refine ah hK [] [1,2,7,8,9] (fun m:Nat=>⟨[(1,.lst .vtx g),(2,.lst (.int .i64) l),(7,.ref 4),(8,.lst (.int .i64) xs),(9,.int .i64 ((m:Int)+1))],[(4,.row 3 (.int .i64) (jZ xs m))],5⟩) (fun m=>m≤l.length) (fun m=>l.length-m) 0 (aX _) rfl ?_
 intro m hm
 have hsl:=qg xs m
 have hsl2:(jZ xs m).length≤150000:=by
  refine cz hsl ?_
  rw[hxl]
  exact cz (Nat.mul_le_mul (show m≤15 by omega) hgl) (by omega)
 have hsn:=tx xs m
 by_cases hlt:m<l.length
 ·have e1:(((m+1:Nat)):Int)=(m:Int)+1:=by omega
  rw[e1] at hsn
  generalize hA:jZ xs m=A at *
  (repeat' first|refine st ?_|refine sa fun xe hxe=>?_|refine sb (fun hq=>?_) fun hq=>?_|exact aa)
  refine ah hK [] [1,2,7,8,9,10] (fun j:Nat=>⟨[(1,.lst .vtx g),(2,.lst (.int .i64) l),(7,.ref 4),(8,.lst (.int .i64) xs),(9,.int .i64 ((m:Int)+1)),(10,.int .i64 (j:Int))],[(4,.row 3 (.int .i64) (A++y8 xs ((m:Int)+1) j))],5⟩) (fun j=>j≤g.length) (fun j=>g.length-j) 0 (aX _) (by rw[show y8 xs ((m:Int)+1) 0=[] from rfl,gG];rfl) ?_
  intro j hj
  have hjl:=Cm xs ((m:Int)+1) j
  have hal:(A++y8 xs ((m:Int)+1) j).length=A.length+(y8 xs ((m:Int)+1) j).length:=by simp
  by_cases hjlt:j<g.length
  ·have hxe:xs[j]?=some xs[j]:=am (by omega)
   have hsj:=GG (w:=(m:Int)+1) hxe
   generalize xs[j]=x at *
   by_cases hx:x=(m:Int)+1
   ·rw[if_pos hx] at hsj
    generalize hB:A++y8 xs ((m:Int)+1) j=B at *
    (repeat' first|refine st ?_|refine sa fun xe hxe=>?_|refine sb (fun hq=>?_) fun hq=>?_|exact aa)
    (try any_goals(first|exact absurd trivial hq|exact absurd rfl hq|exact absurd hq (by omega)|(exfalso;simp at hq;done)))
    exact⟨j+1,by omega,by omega,by rw[hsj,←bJ,hB];rfl⟩
   ·rw[if_neg hx] at hsj
    generalize hB:A++y8 xs ((m:Int)+1) j=B at *
    (repeat' first|refine st ?_|refine sa fun xe hxe=>?_|refine sb (fun hq=>?_) fun hq=>?_|exact aa)
    (try any_goals(first|exact absurd trivial hq|exact absurd rfl hq|exact absurd hq (by omega)|(exfalso;simp at hq;done)))
    exact⟨j+1,by omega,by omega,by rw[hsj,hB];rfl⟩
  ·obtain rfl:j=g.length:=by omega
   rw[←hxl,←hsn]
   (repeat' first|refine st ?_|refine sa fun xe hxe=>?_|refine sb (fun hq=>?_) fun hq=>?_|exact aa)
   (try any_goals(first|exact absurd trivial hq|exact absurd rfl hq|exact absurd hq (by omega)|(exfalso;simp at hq;done)))
   exact⟨m+1,by omega,by omega,by rw[e1]⟩
 ·obtain rfl:m=l.length:=by omega
  (repeat' first|refine st ?_|refine sa fun xe hxe=>?_|refine sb (fun hq=>?_) fun hq=>?_|exact aa)
  (try any_goals(first|exact absurd trivial hq|exact absurd rfl hq|exact absurd hq (by omega)|(exfalso;simp at hq;done)))
  exact⟨rfl,rfl⟩
end Go.Proofs.YtpefhoohfkeflaaGreatDoor.Am
namespace Go.Proofs.YtpefhoohfkeflaaGreatDoor.Am
open Go
attribute [local irreducible] Mk ck Ari fK mQ jM cd cX i7 fC At ag
set_option maxRecDepth 10000
def wQ (k:Int)(m i:Nat):Evt:=⟨k,m,i,v0⟩
def wP (k:Int)(w:Wrl)(i:Nat):Nat→Wrl
 |0=>w
 |m+1=>jL (wP k w i m) (wQ k m i)
def oD (k:Int)(w:Wrl):Nat→Wrl
 |0=>w
 |i+1=>wP k (oD k w i) i (oD k w i).com.length
def HA (k:Int)(w:Wrl)(i:Nat)(b:Bool):Nat→Bool
 |0=>b
 |m+1=>HA k w i b m||tY (wP k w i m) (wQ k m i)
def A0 (k:Int)(w:Wrl):Nat→Bool
 |0=>false
 |i+1=>HA k (oD k w i) i (A0 k w i) (oD k w i).com.length
theorem vC {k:Int}{w:Wrl}(h:WOK w)(i:Nat):∀m,WOK (wP k w i m)
 |0=>h
 |m+1=>Ar (vC h i m) _
theorem zD {k:Int}{w:Wrl}(h:WOK w):∀i,WOK (oD k w i)
 |0=>h
 |i+1=>vC (zD h i) i _
theorem NU (w:Wrl)(m i:Nat):jL w (wQ 2 m i)=e9 w m i:=rfl
theorem NV (w:Wrl)(m i:Nat):jL w (wQ 3 m i)=dh w m i:=rfl
theorem Ew (w:Wrl)(i:Nat):∀m,wP 2 w i m=iU w i m
 |0=>rfl
 |m+1=>by rw[wP,NU,Ew w i m];rfl
theorem Ey (w:Wrl):∀i,oD 2 w i=di w i
 |0=>rfl
 |i+1=>by rw[oD,Ew,Ey w i];rfl
theorem Bf (w:Wrl)(i:Nat):∀m,wP 3 w i m=cQ w i m
 |0=>rfl
 |m+1=>by rw[wP,NV,Bf w i m];rfl
theorem Bg (w:Wrl):∀i,oD 3 w i=bI w i
 |0=>rfl
 |i+1=>by rw[oD,Bf,Bg w i];rfl
theorem HV {k:Int}(hk:k=2∨k=3)(w:Wrl)(i m:Nat):(wP k w i m).com=w.com∧(wP k w i m).props.length=w.props.length:=by
 rcases hk with rfl|rfl
 ·rw[Ew]
  exact nC w i m
 ·rw[Bf]
  exact⟨(kx w i m).1,by rw[(kx w i m).2]⟩
theorem HW {k:Int}(hk:k=2∨k=3)(w:Wrl)(i:Nat):(oD k w i).com=w.com∧(oD k w i).props.length=w.props.length:=by
 rcases hk with rfl|rfl
 ·rw[Ey]
  exact fJ w i
 ·rw[Bg]
  exact⟨(eR w i).1,by rw[(eR w i).2]⟩
theorem Nj {w:Wrl}(h:WOK w)(m i:Nat):tY w (wQ 3 m i)=decide (eu w<eu (dh w m i)):=by
 have e:tY w (wQ 3 m i)=eJ w m i:=rfl
 rw[e]
 rcases ig h m i with⟨h1,h2⟩|⟨h1,h2⟩
 ·rw[h1,h2];simp
 ·rw[h1,h2];simp
theorem J0 {w:Wrl}(h:WOK w)(i:Nat){b:Bool}{n:Nat}(hn:n≤eu w)(hb:b=decide (n<eu w)):∀m,HA 3 w i b m=decide (n<eu (cQ w i m))∧n≤eu (cQ w i m)
 |0=>⟨hb,hn⟩
 |m+1=>by
  obtain⟨h1,h2⟩:=J0 h i hn hb m
  have h3:=ky h i m
  rw[HA,h1,Bf,Nj h3]
  have h4:eu (cQ w i m)≤eu (cQ w i (m+1)):=by
   rcases ig h3 m i with⟨-,e⟩|⟨-,e⟩
   ·show _≤eu (dh _ _ _);rw[e];exact ax _
   ·show _≤eu (dh _ _ _);rw[e];omega
  refine⟨?_,by omega⟩
  rw[eo,cK,decide_eq_true_iff,decide_eq_true_iff,decide_eq_true_iff]
  show _∨eu (cQ w i m)<eu (cQ w i (m+1))↔_
  omega
theorem J1 {w:Wrl}(h:WOK w):∀i,A0 3 w i=decide (eu w<eu (bI w i))∧eu w≤eu (bI w i)
 |0=>⟨by rw[A0,bI];simp,ax _⟩
 |i+1=>by
  obtain⟨h1,h2⟩:=J1 h i
  have:=J0 (ji h i) i h2 h1 (bI w i).com.length
  rw[A0,Bg]
  exact this
abbrev Xm:Type:=List (Option (List Int))×List PplM
theorem Bl (w:Wrl)(xss:List (Option (List Int)))(ms:List PplM)(hw:WOK w)(hR:Rel w.props xss ms){k:Int}(hk:k=2∨k=3)(m i:Nat):∃x:Xm,(Rel (jL w (wQ k m i)).props x.1 x.2∧xss.length≤x.1.length)∧ag Tryz.prog 150 [.ptr 4 0,t7 (wQ k m i)] (rW 0 w xss ms) (.bool (tY w (wQ k m i))) (rW 0 (jL w (wQ k m i)) x.1 x.2):=by
 refine vU w xss ms hw hR (wQ k m i) ?_
 unfold wV wQ
 rcases hk with rfl|rfl<;>rfl
theorem Ex {k:Int}(hk:k=2∨k=3){w:Wrl}(hw:WOK w)(i:Nat){x:Xm}(hR:Rel w.props x.1 x.2):∀m,∃y:Xm,Rel (wP k w i m).props y.1 y.2∧x.1.length≤y.1.length
 |0=>⟨x,hR,ax _⟩
 |m+1=>by
  obtain⟨y,h1,h2⟩:=Ex hk hw i hR m
  obtain⟨z,⟨h3,h4⟩,-⟩:=Bl _ y.1 y.2 (vC hw i m) h1 hk m i
  exact⟨z,h3,cz h2 h4⟩
theorem Ez {k:Int}(hk:k=2∨k=3){w:Wrl}(hw:WOK w){x:Xm}(hR:Rel w.props x.1 x.2):∀i,∃y:Xm,Rel (oD k w i).props y.1 y.2∧x.1.length≤y.1.length
 |0=>⟨x,hR,ax _⟩
 |i+1=>by
  obtain⟨y,h1,h2⟩:=Ez hk hw hR i
  obtain⟨z,h3,h4⟩:=Ex hk (zD hw i) i h1 (oD k w i).com.length
  exact⟨z,h3,cz h2 h4⟩
theorem CU {w u:Wrl}(h:u.views.length=w.views.length):bA (VB.fvari 148 217 (.ob .vtx) (w.views.map aT))≤bA (VB.fvari 148 217 (.ob .vtx) (u.views.map aT)):=by
 show (w.views.map aT).length≤(u.views.map aT).length
 rw[az,az,h]
 exact ax _
theorem vK {xs ys:List (Option (List Int))}(h:xs.length≤ys.length):bA (VB.frowx 3 (.int .i64) xs)≤bA (VB.frowx 3 (.int .i64) ys):=h
set_option maxHeartbeats 1000000 in
theorem BC {k:Int}(hk:k=2∨k=3)(w:Wrl)(x0:Xm)(hw:WOK w)(hR:Rel w.props x0.1 x0.2):∃x:Xm,(Rel (oD k w w.props.length).props x.1 x.2∧x0.1.length≤x.1.length)∧ag Tryz.prog 152 [.ptr 4 0,.int .i64 k] (rW 0 w x0.1 x0.2) (.bool (A0 k w w.props.length)) (rW 0 (oD k w w.props.length) x.1 x.2):=by
 obtain⟨y0,hy0⟩:=Ez hk hw hR w.props.length
 suffices hs:∃r hout,(∃x:Xm,(Rel (oD k w w.props.length).props x.1 x.2∧x0.1.length≤x.1.length)∧r= .bool (A0 k w w.props.length)∧hout=rW 0 (oD k w w.props.length) x.1 x.2)∧ag Tryz.prog 152 [.ptr 4 0,.int .i64 k] (rW 0 w x0.1 x0.2) r hout by
  obtain⟨r,hout,⟨v,hv,rfl,rfl⟩,h⟩:=hs
  exact⟨v,hv,h⟩
 refine l9 bV Tryz.func152 rfl rfl false 3 7 rfl rfl rfl rfl (R:=fun r hout=>∃x:Xm,(Rel (oD k w w.props.length).props x.1 x.2∧x0.1.length≤x.1.length)∧r= .bool (A0 k w w.props.length)∧hout=rW 0 (oD k w w.props.length) x.1 x.2) (r0:=.bool (A0 k w w.props.length)) (hout0:=rW 0 (oD k w w.props.length) y0.1 y0.2) (⟨y0,hy0,rfl,rfl⟩) fun K hK hb1 hb2=>?_;simp only[ae,enc,Nat.reduceAdd]
 clear hb1 hb2
 have h7:=hw.len
 have hpl:=hw.plen
 have hml:=hR.len
 (repeat' first|refine ch ?_|refine sa fun xe hxe=>?_|refine sb (fun hq=>?_) fun hq=>?_|exact aa)
 refine ah hK [] [0,1,5,12,13] (fun x:Nat×Xm=>⟨[(0,.ptr 4 0),(1,.int .i64 k),(5,.bool (A0 k w x.1)),(12,.int .i64 w.props.length),(13,.int .i64 (x.1:Int))],rW 0 (oD k w x.1) x.2.1 x.2.2,7⟩) (fun x=>x.1≤w.props.length∧Rel (oD k w x.1).props x.2.1 x.2.2∧x0.1.length≤x.2.1.length) (fun x=>w.props.length-x.1) (0,x0) ⟨aX _,hR,ax _⟩ (by rw[←hml];rfl) ?_
 rintro⟨i,xs,ms⟩ ⟨hi,hRi,hxi⟩
 dsimp only at hi hRi hxi⊢
 have hoi:=zD (k:=k) hw i
 have hci:=HW hk w i
 have hsu:oD k w (i+1)=wP k (oD k w i) i (oD k w i).com.length:=rfl
 have hsc:A0 k w (i+1)=HA k (oD k w i) i (A0 k w i) (oD k w i).com.length:=rfl
 by_cases hlt:i<w.props.length
 ·generalize oD k w i=y at *
  generalize A0 k w i=b at *
  have hyc:y.com.length=w.com.length:=by rw[hci.1]
  (repeat' first|refine ch ?_|refine sa fun xe hxe=>?_|refine sb (fun hq=>?_) fun hq=>?_|exact aa)
  refine ah hK [] [0,1,5,6,12,13,20,21] (fun x:Nat×Xm=>⟨[(0,.ptr 4 0),(1,.int .i64 k),(5,.bool (HA k y i b x.1)),(6,.int .i64 (i:Int)),(12,.int .i64 w.props.length),(13,.int .i64 (i:Int)),(20,.int .i64 y.com.length),(21,.int .i64 (x.1:Int))],rW 0 (wP k y i x.1) x.2.1 x.2.2,7⟩) (fun x=>x.1≤y.com.length∧Rel (wP k y i x.1).props x.2.1 x.2.2∧x0.1.length≤x.2.1.length) (fun x=>y.com.length-x.1) (0,xs,ms) ⟨aX _,hRi,hxi⟩ rfl ?_
  rintro⟨m,xs,ms⟩ ⟨hm,hRm,hxm⟩
  dsimp only at hm hRm hxm⊢
  have hom:=vC (k:=k) hoi i m
  have hcm:=HV hk y i m
  have hmu:wP k y i (m+1)=jL (wP k y i m) (wQ k m i):=rfl
  have hmc:HA k y i b (m+1)=(HA k y i b m||tY (wP k y i m) (wQ k m i)):=rfl
  by_cases hml:m<y.com.length
  ·generalize wP k y i m=z at *
   generalize HA k y i b m=b2 at *
   obtain⟨⟨xs',ms'⟩,⟨hR',hx⟩,hC⟩:=Bl z xs ms hom hRm hk m i
   have hF0:=H3 (w:=z) (e:=wQ k m i)
   have hF1:=vK hx
   have hC:ag Tryz.prog 150 [.ptr 4 0,.agg [.int .i64 k,.int .i64 (m:Int),.int .i64 (i:Int),.int .i64 0,.int .i64 0,.lst (.int .i64) [],.int .i64 0]] (rW 0 z xs ms) (.bool (tY z (wQ k m i))) (rW 0 (jL z (wQ k m i)) xs' ms'):=hC
   cases hcg:tY z (wQ k m i)
   ·rw[hcg] at hC hmc
    rw[kq] at hmc
    (repeat' first|refine ch ?_|refine sa fun xe hxe=>?_|refine sb (fun hq=>?_) fun hq=>?_|refine cr (hC) ?_|exact aa)
    refine⟨(m+1,xs',ms'),⟨by dsimp only;omega,by dsimp only;rw[hmu];exact hR',by dsimp only at hx⊢;omega⟩,by dsimp only;omega,?_⟩
    dsimp only
    rw[hmu,hmc]
    rfl
   ·rw[hcg] at hC hmc
    rw[Bool.or_true] at hmc
    (repeat' first|refine ch ?_|refine sa fun xe hxe=>?_|refine sb (fun hq=>?_) fun hq=>?_|refine cr (hC) ?_|exact aa)
    refine⟨(m+1,xs',ms'),⟨by dsimp only;omega,by dsimp only;rw[hmu];exact hR',by dsimp only at hx⊢;omega⟩,by dsimp only;omega,?_⟩
    dsimp only
    rw[hmu,hmc]
    rfl
  ·obtain rfl:m=y.com.length:=by omega
   rw[←hsu] at hRm
   rw[←hsu,←hsc]
   generalize hz:oD k w (i+1)=z at *
   generalize hb:A0 k w (i+1)=b2 at *
   (repeat' first|refine ch ?_|refine sa fun xe hxe=>?_|refine sb (fun hq=>?_) fun hq=>?_|exact aa)
   refine⟨(i+1,xs,ms),⟨by dsimp only;omega,by dsimp only;rw[hz];exact hRm,hxm⟩,by dsimp only;omega,?_⟩
   dsimp only
   rw[hz,hb]
   rfl
 ·obtain rfl:i=w.props.length:=by omega
  (repeat' first|refine ch ?_|refine sa fun xe hxe=>?_|refine sb (fun hq=>?_) fun hq=>?_|exact aa)
  exact⟨(xs,ms),⟨hRi,hxi⟩,rfl,rfl⟩
theorem Fu (w:Wrl)(x0:Xm)(hw:WOK w)(hR:Rel w.props x0.1 x0.2):∃x:Xm,(Rel (iS w).props x.1 x.2∧x0.1.length≤x.1.length)∧ag Tryz.prog 152 [.ptr 4 0,.int .i64 2] (rW 0 w x0.1 x0.2) (.bool (A0 2 w w.props.length)) (rW 0 (iS w) x.1 x.2):=by
 have h:=BC (k:=2) (.inl rfl) w x0 hw hR
 rw[Ey] at h
 exact h
theorem zS (w:Wrl)(x0:Xm)(hw:WOK w)(hR:Rel w.props x0.1 x0.2):∃x:Xm,(Rel (pass w).props x.1 x.2∧x0.1.length≤x.1.length)∧ag Tryz.prog 152 [.ptr 4 0,.int .i64 3] (rW 0 w x0.1 x0.2) (.bool (decide (eu w<eu (pass w)))) (rW 0 (pass w) x.1 x.2):=by
 have h:=BC (k:=3) (.inr rfl) w x0 hw hR
 rw[Bg,(J1 hw _).1] at h
 exact h
theorem MI:∀(n:Nat) {w:Wrl},1519-eu w≤n→∀{x:Xm},WOK w→Rel w.props x.1 x.2→∃y:Xm,Rel (cW w).props y.1 y.2∧x.1.length≤y.1.length:=by
 intro n
 induction n with
 |zero=>
  intro w hn x hw hR
  obtain⟨y,h,-⟩:=zS w x hw hR
  rw[cW]
  split
  ·omega
  ·exact⟨y,h⟩
 |succ n ih=>
  intro w hn x hw hR
  obtain⟨y,⟨h1,h2⟩,-⟩:=zS w x hw hR
  rw[cW]
  split
  ·obtain⟨z,h3,h4⟩:=ih (by omega) (lB hw) h1
   exact⟨z,h3,cz h2 h4⟩
  ·exact⟨y,h1,h2⟩
theorem wu:∀(n:Nat) {w:Wrl},1519-eu w≤n→(cW w).com=w.com:=by
 intro n
 induction n with
 |zero=>
  intro w hn
  rw[cW]
  split
  ·omega
  ·exact(eR w _).1
 |succ n ih=>
  intro w hn
  rw[cW]
  split
  ·rw[ih (by omega)];exact(eR w _).1
  ·exact(eR w _).1
theorem jl {w u:Wrl}(hw:WOK w)(hu:WOK u)(h:u.com=w.com):u.views.length=w.views.length:=by rw[hu.vlen,hw.vlen,h]
set_option maxHeartbeats 1000000 in
theorem zX (w:Wrl)(x0:Xm)(hw:WOK w)(hR:Rel w.props x0.1 x0.2):∃x:Xm,(Rel (cW w).props x.1 x.2∧x0.1.length≤x.1.length)∧ag Tryz.prog 151 [.ptr 4 0] (rW 0 w x0.1 x0.2) (.tup []) (rW 0 (cW w) x.1 x.2):=by
 obtain⟨y0,hy0⟩:=MI _ (ax _) hw hR
 suffices hs:∃r hout,(∃x:Xm,(Rel (cW w).props x.1 x.2∧x0.1.length≤x.1.length)∧r= .tup []∧hout=rW 0 (cW w) x.1 x.2)∧ag Tryz.prog 151 [.ptr 4 0] (rW 0 w x0.1 x0.2) r hout by
  obtain⟨r,hout,⟨v,hv,rfl,rfl⟩,h⟩:=hs
  exact⟨v,hv,h⟩
 refine l9 bV Tryz.func151 rfl rfl false 3 7 rfl rfl rfl rfl (R:=fun r hout=>∃x:Xm,(Rel (cW w).props x.1 x.2∧x0.1.length≤x.1.length)∧r= .tup []∧hout=rW 0 (cW w) x.1 x.2) (r0:=.tup []) (hout0:=rW 0 (cW w) y0.1 y0.2) (⟨y0,hy0,rfl,rfl⟩) fun K hK hb1 hb2=>?_;simp only[ae,enc,Nat.reduceAdd]
 clear hb1 hb2
 (repeat' first|refine ch ?_|refine sa fun xe hxe=>?_|refine sb (fun hq=>?_) fun hq=>?_|exact aa)
 refine ah hK [] [0] (fun x:Wrl×Xm=>⟨[(0,.ptr 4 0)],rW 0 x.1 x.2.1 x.2.2,7⟩) (fun x=>WOK x.1∧(Rel x.1.props x.2.1 x.2.2∧x0.1.length≤x.2.1.length)∧x.1.com=w.com∧cW x.1=cW w) (fun x=>1520-eu x.1) (w,x0) ⟨hw,⟨hR,ax _⟩,rfl,rfl⟩ rfl ?_
 rintro⟨u,xs,ms⟩ ⟨hu,⟨hRu,hxu⟩,huc,hus⟩
 dsimp only at hu hRu hxu huc hus⊢
 obtain⟨⟨xs',ms'⟩,⟨hR',hx⟩,hC⟩:=zS u (xs,ms) hu hRu
 dsimp only at hR' hx hC
 have hpo:=lB hu
 have hpc:(pass u).com=u.com:=(eR u _).1
 have hF0:=CU (jl hu hpo hpc)
 have hF1:=vK hx
 have htl:=tH hpo
 have htx:=tH hu
 have e1:eu u<eu (pass u)→cW u=cW (pass u):=fun hh=>by
  rw[cW]
  exact dif_pos ⟨hh,htl⟩
 have e2:¬eu u<eu (pass u)→cW u=pass u:=fun hh=>by
  rw[cW]
  exact dif_neg fun h9=>hh h9.1
 generalize pass u=z at *
 by_cases hh:eu u<eu z
 ·rw[decide_eq_true hh] at hC
  (repeat' first|refine ch ?_|refine sa fun xe hxe=>?_|refine sb (fun hq=>?_) fun hq=>?_|refine cr (hC) ?_|exact aa)
  exact⟨(z,xs',ms'),⟨hpo,⟨hR',by dsimp only at hx⊢;omega⟩,by rw[hpc];exact huc,by rw[←e1 hh];exact hus⟩,by dsimp only;omega,rfl⟩
 ·rw[decide_eq_false hh] at hC
  have e3:=e2 hh
  (repeat' first|refine ch ?_|refine sa fun xe hxe=>?_|refine sb (fun hq=>?_) fun hq=>?_|refine cr (hC) ?_|exact aa)
  refine⟨(xs',ms'),⟨?_,?_⟩,rfl,?_⟩
  ·rw[←hus,e3];exact hR'
  ·dsimp only;omega
  ·rw[←hus,e3]
theorem xd {w:Wrl}:∀r,(aU w r).com=w.com
 |0=>wu _ (ax _)
 |r+1=>by
  have h1:∀u:Wrl,(gz u).com=u.com:=fun u=>(wu _ (ax _)).trans (fJ u _).1
  show (gz _).com=_
  rw[h1,nj,h1]
  exact xd r
set_option maxHeartbeats 4000000 in
theorem Ij (w:Wrl)(r:Int)(hl:∀g∈w.views,g.length≤2000000)(hr:-1000000≤r∧r≤1000000):ag Tryz.prog 124 [bd w,.int .i64 r] [] (if decide (0≤r∧r≤12) && lg w then bd (aU w r.toNat) else JQ) []:=by
 have he:=nE w
 refine ab bV Tryz.func124 rfl rfl true 0 4 rfl rfl rfl rfl fun K hK hb1 hb2=>?_;simp only[ae,enc,Nat.reduceAdd]
 clear hb1 hb2
 by_cases hr0:r<0
 ·(repeat' first|refine ch ?_|refine sa fun xe hxe=>?_|refine sb (fun hq=>?_) fun hq=>?_|exact aa)
  rw[decide_eq_false (p:=0≤r∧r≤12) (by omega)]
  exact⟨rfl,rfl⟩
 by_cases hr1:12<r
 ·(repeat' first|refine ch ?_|refine sa fun xe hxe=>?_|refine sb (fun hq=>?_) fun hq=>?_|exact aa)
  rw[decide_eq_false (p:=0≤r∧r≤12) (by omega)]
  exact⟨rfl,rfl⟩
 rw[decide_eq_true (p:=0≤r∧r≤12) (by omega),dX]
 cases hp:gy w
 ·have hO:=Fp w hl hp
  rw[hp,iJ] at he
  (repeat' first|refine ch ?_|refine sa fun xe hxe=>?_|refine sb (fun hq=>?_) fun hq=>?_|refine cr (hO) ?_|exact aa)
  rw[he]
  exact⟨rfl,rfl⟩
 have hO:=Fq w hl hp
 cases hs:lg w
 ·rw[hs] at hO
  (repeat' first|refine ch ?_|refine sa fun xe hxe=>?_|refine sb (fun hq=>?_) fun hq=>?_|refine cr (hO) ?_|exact aa)
  exact⟨rfl,rfl⟩
 rw[hs] at hO
 have hw:=i6.1 hs
 obtain⟨⟨xs0,ms0⟩,⟨hR0,hx0⟩,hC0⟩:=zX w (w.props.map fun p=>some p.members,ud w.props) hw (Mn _)
 dsimp only at hR0 hx0 hC0
 have hF0:=CU (jl hw (gM hw 0) (xd 0))
 have hF1:=vK hx0
 rw[show cW w=aU w 0 from rfl] at hR0 hC0
 (repeat' first|refine ch ?_|refine sa fun xe hxe=>?_|refine sb (fun hq=>?_) fun hq=>?_|refine cr (hO) ?_|refine cr (hC0) ?_|exact aa)
 clear hO hC0 hF0 hF1
 refine ah hK [] [4,5,26,27] (fun x:Nat×Xm=>⟨[(4,.ptr 4 0),(5,.ptr 5 0),(26,.int .i64 r),(27,.int .i64 (x.1:Int))],rP (aU w x.1).com (aU w x.1).lead (aU w x.1).bad ((aU w x.1).views.map aT) x.2.1 x.2.2,8⟩) (fun x=>x.1≤r.toNat∧Rel (aU w x.1).props x.2.1 x.2.2) (fun x=>r.toNat-x.1) (0,xs0,ms0) ⟨aX _,hR0⟩ (by(conv=>whnf);rfl) ?_
 rintro⟨k,xs,ms⟩ ⟨hk,hRk⟩
 dsimp only at hk hRk⊢
 have hco:=gM hw k
 have hcs:aU w (k+1)=gz (dL (gz (aU w k)) k (gz (aU w k)).com.length):=rfl
 have h1c:∀u:Wrl,(gz u).com=u.com:=fun u=>(wu _ (ax _)).trans (fJ u _).1
 by_cases hlt:(k:Int)<r
 ·generalize aU w k=x at *
  obtain⟨⟨xs1,ms1⟩,⟨hR1,hx1⟩,hC1⟩:=Fu x (xs,ms) hco hRk
  dsimp only at hR1 hx1 hC1
  have hvo:WOK (iS x):=fT hco x.props.length
  have hvc:(iS x).com=x.com:=(fJ x _).1
  obtain⟨⟨xs2,ms2⟩,⟨hR2,hx2⟩,hC2⟩:=zX (iS x) (xs1,ms1) hvo hR1
  dsimp only at hR2 hx2 hC2
  have hro:=nt hco
  have hF0:=CU (jl hco hvo hvc)
  have hF1:=vK hx1
  have hF2:=CU (w:=iS x) (jl hvo hro ((h1c x).trans hvc.symm))
  have hF3:=vK hx2
  rw[show cW (iS x)=gz x from rfl] at hR2 hC2
  have hxc:=h1c x
  generalize iS x=x1 at *
  generalize gz x=y at *
  (repeat' first|refine ch ?_|refine sa fun xe hxe=>?_|refine sb (fun hq=>?_) fun hq=>?_|refine cr (hC1) ?_|refine cr (hC2) ?_|exact aa)
  clear hC1 hC2 hF0 hF1 hF2 hF3
  refine ah hK [] [4,5,7,26,27,38,39] (fun q:Nat×Xm=>⟨[(4,.ptr 4 0),(5,.ptr 5 0),(7,.int .i64 (k:Int)),(26,.int .i64 r),(27,.int .i64 (k:Int)),(38,.int .i64 y.com.length),(39,.int .i64 (q.1:Int))],rP (dL y k q.1).com (dL y k q.1).lead (dL y k q.1).bad ((dL y k q.1).views.map aT) q.2.1 q.2.2,8⟩) (fun q=>q.1≤y.com.length∧Rel (dL y k q.1).props q.2.1 q.2.2) (fun q=>y.com.length-q.1) (0,xs2,ms2) ⟨aX _,hR2⟩ (by(conv=>whnf);rfl) ?_
  rintro⟨m,xs3,ms3⟩ ⟨hm,hR3⟩
  dsimp only at hm hR3⊢
  have hdc:=nj y k m
  have hdo:=mt hro k m
  have hyl:=hro.len
  have hds:dL y k (m+1)=eS (dL y k m) m (7*k+m):=rfl
  by_cases hml:m<y.com.length
  ·generalize dL y k m=z at *
   have hsd:jL z ⟨1,m,7*k+m,v0⟩=eS z m (7*k+m):=rfl
   have hF0:=H3 (w:=z) (e:=⟨1,m,7*k+m,v0⟩)
   rw[hsd] at hF0
   cases ha:wV z ⟨1,m,7*k+m,v0⟩
   ·obtain⟨⟨xs4,ms4⟩,⟨hR4,hx4⟩,hC4⟩:=vU z _ _ hdo hR3 ⟨1,m,7*k+m,v0⟩ ha
    have hcg:tY z ⟨1,m,7*k+m,v0⟩=false:=rfl
    rw[hsd] at hR4 hC4
    rw[hcg] at hC4
    have hF1:=vK hx4
    have hC4:ag Tryz.prog 150 [.ptr 4 0,.agg [.int .i64 1,.int .i64 (m:Int),.int .i64 (7*k+m),.int .i64 0,.int .i64 0,.lst (.int .i64) [],.int .i64 0]] (rW 0 z xs3 ms3) (.bool false) (rW 0 (eS z m (7*k+m)) xs4 ms4):=hC4
    generalize eS z m (7*k+m)=z2 at *
    (repeat' first|refine ch ?_|refine sa fun xe hxe=>?_|refine sb (fun hq=>?_) fun hq=>?_|refine cr (hC4) ?_|exact aa)
    refine⟨(m+1,xs4,ms4),⟨by dsimp only;omega,by dsimp only;rw[hds];exact hR4⟩,by dsimp only;omega,?_⟩
    dsimp only
    rw[hds]
    rfl
   ·obtain⟨⟨xs4,ms4⟩,⟨hR4,hx4⟩,hC4⟩:=BA z _ _ hdo hR3 ⟨1,m,7*k+m,v0⟩ ha
    rw[hsd] at hR4 hC4
    have hF1:=vK hx4
    have hC4:ag Tryz.prog 150 [.ptr 4 0,.agg [.int .i64 1,.int .i64 (m:Int),.int .i64 (7*k+m),.int .i64 0,.int .i64 0,.lst (.int .i64) [],.int .i64 0]] (rW 0 z xs3 ms3) (.bool true) (Oe 0 (eS z m (7*k+m)) xs4 ms4):=hC4
    generalize eS z m (7*k+m)=z2 at *
    (repeat' first|refine ch ?_|refine sa fun xe hxe=>?_|refine sb (fun hq=>?_) fun hq=>?_|refine cr (hC4) ?_|exact aa)
    refine⟨(m+1,xs4,ms4),⟨by dsimp only;omega,by dsimp only;rw[hds];exact hR4⟩,by dsimp only;omega,?_⟩
    dsimp only
    rw[hds]
    rfl
  ·obtain rfl:m=y.com.length:=by omega
   have hzc:(dL y k y.com.length).com.length=y.com.length:=by rw[hdc]
   generalize dL y k y.com.length=z at *
   obtain⟨⟨xs4,ms4⟩,⟨hR4,hx4⟩,hC4⟩:=Fu z (xs3,ms3) hdo hR3
   dsimp only at hR4 hx4 hC4
   have hvo4:WOK (iS z):=fT hdo z.props.length
   have hvc4:(iS z).com=z.com:=(fJ z _).1
   obtain⟨⟨xs5,ms5⟩,⟨hR5,hx5⟩,hC5⟩:=zX (iS z) (xs4,ms4) hvo4 hR4
   dsimp only at hR5 hx5 hC5
   have hro4:=nt hdo
   have hF0:=CU (jl hdo hvo4 hvc4)
   have hF1:=vK hx4
   have hF2:=CU (w:=iS z) (jl hvo4 hro4 ((h1c z).trans hvc4.symm))
   have hF3:=vK hx5
   rw[show cW (iS z)=gz z from rfl] at hR5 hC5
   generalize iS z=z1 at *
   generalize gz z=z2 at *
   (repeat' first|refine ch ?_|refine sa fun xe hxe=>?_|refine sb (fun hq=>?_) fun hq=>?_|refine cr (hC4) ?_|refine cr (hC5) ?_|exact aa)
   refine⟨(k+1,xs5,ms5),⟨by dsimp only;omega,by dsimp only;rw[hcs];exact hR5⟩,by dsimp only;omega,?_⟩
   dsimp only
   rw[hcs]
   rfl
 ·obtain rfl:k=r.toNat:=by omega
  have hW:=v8 0 (aU w r.toNat) xs ms hco hRk
  generalize aU w r.toNat=x at *
  (repeat' first|refine ch ?_|refine sa fun xe hxe=>?_|refine sb (fun hq=>?_) fun hq=>?_|refine cr (hW) ?_|exact aa)
  exact⟨rfl,rfl⟩
theorem NY (c:List Int)(g:List Vtx)(l:List Int):ag Tryz.prog 68 [.lst (.int .i64) c,.lst .vtx g,.lst (.int .i64) l] [] (.bool (CA c g l)) []:=by
 have hG:=E0 c g
 have hL:=Kg c l
 have e:CA c g l=(graS c g && leaS c l):=rfl
 rw[e]
 refine ab aj Tryz.func68 rfl rfl false 0 4 rfl rfl rfl rfl fun K hK hb1 hb2=>?_;simp only[ae,enc,Nat.reduceAdd]
 clear hb1 hb2
 cases hg:graS c g
 ·rw[hg] at hG
  (repeat' first|refine st ?_|refine sa fun xe hxe=>?_|refine sb (fun hq=>?_) fun hq=>?_|refine cr (hG) ?_|refine cr (hL) ?_|exact aa)
  exact⟨rfl,rfl⟩
 ·rw[hg] at hG
  (repeat' first|refine st ?_|refine sa fun xe hxe=>?_|refine sb (fun hq=>?_) fun hq=>?_|refine cr (hG) ?_|refine cr (hL) ?_|exact aa)
  exact⟨rfl,rfl⟩
noncomputable def ordS (c:List Int) (g:List Vtx) (l:List Int):List Slt:=if CA c g l then(ordG c g l).map iD else[]
theorem NZ (c:List Int)(g:List Vtx)(l:List Int)(hgl:g.length≤10000):ag Tryz.prog 37 [.lst (.int .i64) c,.lst .vtx g,.lst (.int .i64) l] [] (.lst .slt (ordS c g l)) []:=by
 have hO:=NY c g l
 refine ab aj Tryz.func37 rfl rfl true 0 4 rfl rfl rfl rfl fun K hK hb1 hb2=>?_;simp only[ae,enc,Nat.reduceAdd]
 clear hb1 hb2
 cases hw:CA c g l
 ·rw[hw] at hO
  have e:ordS c g l=[]:=by rw[ordS,hw];rfl
  rw[e]
  (repeat' first|refine st ?_|refine sa fun xe hxe=>?_|refine sb (fun hq=>?_) fun hq=>?_|refine cr (hO) ?_|exact aa)
  exact⟨rfl,rfl⟩
 ·rw[hw] at hO
  obtain⟨hg,hl⟩:graS c g=true∧leaS c l=true:=by simpa[CA] using hw
  have hok:=eZ hg
  have hll:=(bS.1 hl).2
  have hL:=NT c g l hok hgl hl
  have hso:=Jo (g:=g) hok.com l
  have e:ordS c g l=(ordG c g l).map iD:=by rw[ordS,hw];rfl
  have hsi:=GF (xs:=g.map (wvk g l (cmt c g l l.length).1)) (m:=l.length)
  have hsl:=qg (g.map (wvk g l (cmt c g l l.length).1)) l.length
  rw[az] at hsi hsl
  have hsl2:(jZ (g.map (wvk g l (cmt c g l l.length).1)) l.length).length≤150000:=cz hsl (cz (Nat.mul_le_mul hll hgl) (by omega))
  rw[e,←hso]
  generalize jZ (g.map (wvk g l (cmt c g l l.length).1)) l.length=L at *
  (repeat' first|refine st ?_|refine sa fun xe hxe=>?_|refine sb (fun hq=>?_) fun hq=>?_|refine cr (hO) ?_|refine cr (hL) ?_|exact aa)
  clear hO hL
  refine ah hK [] [1,7,8,9] (fun i:Nat=>⟨[(1,.lst .vtx g),(7,.ref 4),(8,.lst (.int .i64) L),(9,.int .i64 (i:Int))],[(4,.row 79 .slt ((L.take i).map fun i=>iD (g.getD i.toNat v0)))],5⟩) (fun i=>i≤L.length) (fun i=>L.length-i) 0 (aX _) rfl ?_
  intro i hi
  by_cases hlt:i<L.length
  ·have hxe:L[i]?=some L[i]:=am hlt
   have h3:L.take (i+1)=L.take i++[L[i]]:=ca hlt
   have hb:=hsi _ (be hlt)
   generalize L[i]=x at *
   have hxg:g[x.toNat]?=some (g.getD x.toNat v0):=by rw[aq,am (by omega)];rfl
   have hrl:((L.take i).map fun i=>iD (g.getD i.toNat v0)).length=i:=by simp;omega
   have h4:(L.take (i+1)).map (fun i=>iD (g.getD i.toNat v0))=(L.take i).map (fun i=>iD (g.getD i.toNat v0))++[iD (g.getD x.toNat v0)]:=by rw[h3,cg];rfl
   generalize hA:((L.take i).map fun i=>iD (g.getD i.toNat v0))=A at *
   generalize g.getD x.toNat v0=v at *
   (repeat' first|refine st ?_|refine sa fun xe hxe=>?_|refine sb (fun hq=>?_) fun hq=>?_|exact aa)
   (try any_goals(first|exact absurd trivial hq|exact absurd rfl hq|exact absurd hq (by omega)|(exfalso;simp at hq;done)))
   exact⟨i+1,by omega,by omega,by rw[h4];rfl⟩
  ·obtain rfl:i=L.length:=by omega
   rw[iH]
   (repeat' first|refine st ?_|refine sa fun xe hxe=>?_|refine sb (fun hq=>?_) fun hq=>?_|exact aa)
   (try any_goals(first|exact absurd trivial hq|exact absurd rfl hq|exact absurd hq (by omega)|(exfalso;simp at hq;done)))
   exact⟨rfl,rfl⟩
noncomputable def wo (w:Wrl) (m:Int):List Slt:=if lg w && j5 m 0 ((w.com.length:Int)-1) then ordS w.com (w.views.getD m.toNat []) w.lead else[]
end Go.Proofs.YtpefhoohfkeflaaGreatDoor.Am
namespace Go.Proofs.YtpefhoohfkeflaaGreatDoor.Am
open Go
abbrev Da:List UInt8:=[112,114,111,112,111,115,101]
abbrev Db:List UInt8:=[118,111,116,101]
abbrev C8:List UInt8:=[100,101,108,105,118,101,114]
abbrev C9:List UInt8:=[102,111,114,103,101]
abbrev C6:List UInt8:=[98,97,100,118,111,116,101]
abbrev C7:List UInt8:=[99,97,108,109]
abbrev kf:List UInt8:=[108,105,115,116]
abbrev BJ:List UInt8:=[119,104,97,116]
abbrev LF:List UInt8:=[32,118,111,116,101,115,32]
abbrev cw:List UInt8:=[111,114,100,101,114,32]
abbrev NI:List UInt8:=[116,111,111,32,108,111,110,103,10]
def ua (i:Nat)(p:Ppl):List UInt8:=aR i++[32]++aR p.v.round++[46]++aR p.v.author++[32]++aR p.v.digest++LF++aR p.members.length++[10]
def cR (w:Wrl):Nat→List UInt8
 |0=>[]
 |n+1=>cR w n++ua n (w.props.getD n p0)
def nG (w:Wrl):List UInt8:=cR w w.props.length
def jx (s:Slt):List UInt8:=[32]++aR s.round++[46]++aR s.author
def bR:List Slt→List UInt8
 |[]=>[]
 |s::l=>jx s++bR l
theorem jh (s:Slt):∀l:List Slt,bR (l++[s])=bR l++jx s
 |[]=>by simp[bR]
 |x::l=>by rw[gH,bR,bR,jh s l,bJ]
noncomputable def linO (w:Wrl) (m:Nat):List UInt8:=cw++aR m++bR (wo w m)++[10]
noncomputable def outOs (w:Wrl):Nat→List UInt8
 |0=>[]
 |n+1=>if(n:Int)=w.bad then outOs w n else outOs w n++linO w n
noncomputable def outO (w:Wrl):List UInt8:=outOs w w.com.length
def lx (r d:Int):Vtx:=⟨r,3,if 0<r then[0,1,2] else[],d⟩
def bU (w:Wrl)(ws:List (List UInt8)):Wrl:=
 if ws.getD 0 []=Da then eS w (cE ws 1) (cE ws 2) else if ws.getD 0 []=Db then e9 w (cE ws 1) (cE ws 2) else if ws.getD 0 []=C8 then dh w (cE ws 1) (cE ws 2) else
 if ws.getD 0 []=C9 then iR w (lx (cE ws 1) (cE ws 2)) else if ws.getD 0 []=C6 then iQ w (cE ws 1) else if ws.getD 0 []=C7 then(if 0≤cE ws 1∧cE ws 1≤12 then aU w (cE ws 1).toNat else w) else w
def eN (k:List UInt8):Prop:=k=Da∨k=Db∨k=C8∨k=C9∨k=C6∨k=C7
instance (k:List UInt8):Decidable (eN k):=by unfold eN;infer_instance
def ee (w:Wrl)(ws:List (List UInt8)):List UInt8:=if eN (ws.getD 0 []) then[] else if ws.getD 0 []=kf then nG w else BJ++[10]
def nK (r:Wrl×List UInt8)(l:List UInt8):Wrl×List UInt8:=(bU r.1 (aK 32 l),r.2++ee r.1 (aK 32 l))
def MW:Wrl:=L2 [1,1,1,1] [0,1,2,0,1,2,0,1] 3
def bT (ls:List (List UInt8)):Wrl×List UInt8:=ls.foldl nK (MW,[])
noncomputable def exT (t:List UInt8):List UInt8:=if 600<t.length then NI else(bT (aK 10 t).dropLast).2++outO (bT (aK 10 t).dropLast).1
theorem fR (ls:List (List UInt8))(l:List UInt8):bT (ls++[l])=nK (bT ls) l:=by simp[bT]
theorem GT {w:Wrl}(h:WOK w)(ws:List (List UInt8)):WOK (bU w ws):=by
 unfold bU
 split
 ·exact wn h _ _
 split
 ·exact wq h _ _
 split
 ·exact rO h _ _
 split
 ·exact Ch h _
 split
 ·exact Cf h _
 split
 ·split
  ·exact gM h _
  ·exact h
 ·exact h
theorem MX:WOK MW:=i6.1 (by decide+kernel)
theorem o9 (ls:List (List UInt8)):WOK (bT ls).1:=by
 induction ls using cq with
 |h0=>exact MX
 |h l x ih=>rw[fR];exact GT ih _
theorem GN:∀(n:Nat) {w:Wrl},1519-eu w≤n→(cW w).lead=w.lead∧(cW w).bad=w.bad∧(cW w).com=w.com:=by
 have hd:∀(w:Wrl) (i:Int) (n:Nat),(cQ w i n).lead=w.lead∧(cQ w i n).bad=w.bad∧(cQ w i n).com=w.com:=by
  intro w i n
  induction n with
  |zero=>exact⟨rfl,rfl,rfl⟩
  |succ n ih=>
   have:=pb (cQ w i n) n i
   exact⟨this.2.2.2.trans ih.1,this.2.2.1.trans ih.2.1,this.1.trans ih.2.2⟩
 have hp:∀(w:Wrl) (k:Nat),(bI w k).lead=w.lead∧(bI w k).bad=w.bad∧(bI w k).com=w.com:=by
  intro w k
  induction k with
  |zero=>exact⟨rfl,rfl,rfl⟩
  |succ k ih=>
   have:=hd (bI w k) k (bI w k).com.length
   exact⟨this.1.trans ih.1,this.2.1.trans ih.2.1,this.2.2.trans ih.2.2⟩
 intro n
 induction n with
 |zero=>
  intro w hn
  rw[cW]
  split
  ·omega
  ·exact hp _ _
 |succ n ih=>
  intro w hn
  rw[cW]
  split
  ·have h1:=ih (w:=pass w) (by omega)
   have h2:=hp w w.props.length
   exact⟨h1.1.trans h2.1,h1.2.1.trans h2.2.1,h1.2.2.trans h2.2.2⟩
  ·exact hp _ _
theorem Gc (w:Wrl)(m d:Int):(eS w m d).lead=w.lead∧(eS w m d).bad=w.bad∧(eS w m d).com=w.com:=by unfold eS;split<;>exact⟨rfl,rfl,rfl⟩
theorem G9 (w:Wrl)(m d:Int):(e9 w m d).lead=w.lead∧(e9 w m d).bad=w.bad∧(e9 w m d).com=w.com:=by unfold e9;split<;>exact⟨rfl,rfl,rfl⟩
theorem Ce (w:Wrl):(gz w).lead=w.lead∧(gz w).bad=w.bad∧(gz w).com=w.com:=by
 have hv:∀(w:Wrl) (i:Int) (n:Nat),(iU w i n).lead=w.lead∧(iU w i n).bad=w.bad∧(iU w i n).com=w.com:=by
  intro w i n
  induction n with
  |zero=>exact⟨rfl,rfl,rfl⟩
  |succ n ih=>
   have:=G9 (iU w i n) n i
   exact⟨this.1.trans ih.1,this.2.1.trans ih.2.1,this.2.2.trans ih.2.2⟩
 have hs:∀(w:Wrl) (k:Nat),(di w k).lead=w.lead∧(di w k).bad=w.bad∧(di w k).com=w.com:=by
  intro w k
  induction k with
  |zero=>exact⟨rfl,rfl,rfl⟩
  |succ k ih=>
   have:=hv (di w k) k (di w k).com.length
   exact⟨this.1.trans ih.1,this.2.1.trans ih.2.1,this.2.2.trans ih.2.2⟩
 have h1:=GN _ (w:=iS w) (ax _)
 have h2:=hs w w.props.length
 exact⟨h1.1.trans h2.1,h1.2.1.trans h2.2.1,h1.2.2.trans h2.2.2⟩
theorem rb (w:Wrl):∀r,(aU w r).lead=w.lead∧(aU w r).bad=w.bad∧(aU w r).com=w.com
 |0=>GN _ (ax _)
 |r+1=>by
  have hp:∀(w:Wrl) (r n:Nat),(dL w r n).lead=w.lead∧(dL w r n).bad=w.bad∧(dL w r n).com=w.com:=by
   intro w r n
   induction n with
   |zero=>exact⟨rfl,rfl,rfl⟩
   |succ n ih=>
    have:=Gc (dL w r n) n (7*r+n)
    exact⟨this.1.trans ih.1,this.2.1.trans ih.2.1,this.2.2.trans ih.2.2⟩
  have h1:=Ce (dL (gz (aU w r)) r (gz (aU w r)).com.length)
  have h2:=hp (gz (aU w r)) r (gz (aU w r)).com.length
  have h3:=Ce (aU w r)
  have h4:=rb w r
  exact⟨h1.1.trans (h2.1.trans (h3.1.trans h4.1)),h1.2.1.trans (h2.2.1.trans (h3.2.1.trans h4.2.1)),h1.2.2.trans (h2.2.2.trans (h3.2.2.trans h4.2.2))⟩
theorem GR (w:Wrl)(ws:List (List UInt8)):(bU w ws).lead=w.lead∧(bU w ws).bad=w.bad∧(bU w ws).com=w.com:=by
 unfold bU
 split
 ·exact Gc _ _ _
 split
 ·exact G9 _ _ _
 split
 ·have:=pb w (cE ws 1) (cE ws 2)
  exact⟨this.2.2.2,this.2.2.1,this.1⟩
 split
 ·unfold iR;split<;>exact⟨rfl,rfl,rfl⟩
 split
 ·unfold iQ;split<;>exact⟨rfl,rfl,rfl⟩
 split
 ·split
  ·exact rb _ _
  ·exact⟨rfl,rfl,rfl⟩
 ·exact⟨rfl,rfl,rfl⟩
theorem wm (ls:List (List UInt8)):(bT ls).1.lead=[0,1,2,0,1,2,0,1]∧(bT ls).1.bad=3∧(bT ls).1.com=[1,1,1,1]:=by
 induction ls using cq with
 |h0=>exact⟨rfl,rfl,rfl⟩
 |h l x ih=>
  rw[fR]
  have:=GR (bT l).1 (aK 32 x)
  exact⟨this.1.trans ih.1,this.2.1.trans ih.2.1,this.2.2.trans ih.2.2⟩
theorem sU (i:Nat)(p:Ppl):(ua i p).length≤31:=by
 have h1:=aP i
 have h2:=aP p.v.round
 have h3:=aP p.v.author
 have h4:=aP p.v.digest
 have h5:=aP p.members.length
 simp only[ua,aO,bH,dG]
 omega
theorem kQ (w:Wrl):∀n,(cR w n).length≤31*n
 |0=>by simp[cR]
 |n+1=>by
  have h1:=kQ w n
  have h2:=sU n (w.props.getD n p0)
  simp only[cR,aO]
  omega
theorem Dt (s:Slt):(jx s).length≤10:=by
 have h2:=aP s.round
 have h3:=aP s.author
 simp only[jx,aO,bH,dG]
 omega
theorem ft:∀l:List Slt,(bR l).length≤10*l.length
 |[]=>by simp[bR]
 |s::l=>by
  have h1:=ft l
  have h2:=Dt s
  simp only[bR,aO,bH]
  omega
theorem uT {w:Wrl}(h:WOK w)(ws:List (List UInt8)):(ee w ws).length≤6820:=by
 unfold ee
 split
 ·simp
 split
 ·have:=kQ w w.props.length
  have:=h.plen
  unfold nG
  omega
 ·simp
theorem tq (ls:List (List UInt8)):(bT ls).2.length≤6820*ls.length:=by
 induction ls using cq with
 |h0=>exact ax _
 |h l x ih=>
  rw[fR]
  have h1:=uT (o9 l) (aK 32 x)
  simp only[nK,aO,bH,dG]
  omega
theorem F5 {g:List Vtx}{l:List Int}:∀(ws:List Nat) (acc:List Vtx),(∀v∈acc,v∈g)→∀v∈ordTo g l acc ws,v∈g
 |[],acc,h=>h
 |w::ws,acc,h=>by
  rw[nZ]
  refine F5 ws _ fun v hv=>?_
  rcases bi.1 hv with hv|hv
  ·exact h v hv
  ·unfold ordW at hv
   split at hv
   ·exact(dW.1 hv).1
   ·cases hv
theorem Cy {w:Wrl}(hw:WOK w)(m:Int):∀s∈wo w m,(0≤s.round∧s.round≤30)∧0≤s.author∧s.author<7:=by
 intro s hs
 unfold wo at hs
 split at hs
 ·unfold ordS at hs
  split at hs
  ·rename_i hc hv
   obtain⟨v,hv1,rfl⟩:=aD.1 hs
   have hvg:=F5 _ _ (fun v hv=>by cases hv) v hv1
   have hg:graS w.com (w.views.getD m.toNat [])=true:=by
    simp only[CA,aB] at hv
    exact hv.1
   have h1:=bG ((eZ hg).vtx v hvg)
   have h2:=hw.len
   exact⟨h1.1,h1.2.1.1,by show v.author<7;omega⟩
  ·cases hs
 ·cases hs
theorem jT {a b:Vtx}:bef a b=true↔a.round<b.round∨(a.round=b.round∧a.author<b.author):=by
 simp only[bef,cK,aB,decide_eq_true_eq]
theorem DY {a b:Vtx}(c:Vtx)(h:bef a b=true):bef a c=true∨bef c b=true:=by
 rw[jT] at *
 rw[jT]
 omega
theorem om {a b:Vtx}(h:bef a b=true):bef b a=false:=by
 rw[cj]
 rw[jT] at h
 intro h2
 rw[jT] at h2
 omega
theorem s5 {a b c:Vtx}(h1:bef a b=false)(h2:bef b c=false):bef a c=false:=by
 rw[cj]
 intro h
 rcases DY b h with h3|h3
 ·rw[h3] at h1;cases h1
 ·rw[h3] at h2;cases h2
def yM (l:List Vtx)(i j:Nat)(x y:Vtx):List Vtx:=(l.set i y).set j x
theorem Cr (l:List Vtx)(i j:Nat)(x y:Vtx):(yM l i j x y).length=l.length:=by simp[yM]
theorem wB {l:List Vtx}{i j:Nat}{x y:Vtx}(hi:l[i]?=some x)(hj:l[j]?=some y)(k:Nat):(yM l i j x y)[k]?=if k=j then some x else if k=i then some y else l[k]?:=by
 have h1:=(aQ.1 hi).1
 have h2:=(aQ.1 hj).1
 unfold yM
 rw[dx,dx]
 by_cases e1:k=j
 ·subst e1
  rw[if_pos rfl,if_pos (by rw[jI];exact h2),if_pos rfl]
 ·rw[if_neg (by omega),if_neg e1]
  by_cases e2:k=i
  ·subst e2
   rw[if_pos rfl,if_pos h1,if_pos rfl]
  ·rw[if_neg (by omega),if_neg e2]
theorem yN {l:List Vtx}{i j:Nat}{x y:Vtx}(hi:l[i]?=some x)(hj:l[j]?=some y):(yM l i j x y).Perm l:=by
 obtain⟨h1,rfl⟩:=aQ.1 hi
 obtain⟨h2,rfl⟩:=aQ.1 hj
 exact List.set_set_perm h1 h2
theorem GX {l:List Vtx}{i j n:Nat}{x y:Vtx}(hi:i<n)(hj:j<n):(yM l i j x y).take n=yM (l.take n) i j x y:=by
 unfold yM
 rw[List.take_set,List.take_set]
def Heap (l:List Vtx)(n:Nat):Prop:=∀k x y,0<k→k<n→l[k]?=some x→l[(k-1)/2]?=some y→bef x y=false
theorem C2 {l:List Vtx}{n:Nat}(h:Heap l n)(hn:n≤l.length){r:Vtx}(hr:l[0]?=some r):∀(k:Nat) (x:Vtx),k<n→l[k]?=some x→bef x r=false:=by
 intro k
 induction k using Nat.strongRecOn with
 |ind k ih=>
  intro x hk hx
  by_cases h0:k=0
  ·subst h0
   rw[hr] at hx
   obtain rfl:=ar hx
   rw[cj]
   intro h2
   rw[jT] at h2
   omega
  ·have hp:l[(k-1)/2]?=some (l[(k-1)/2]'(by omega)):=am _
   exact s5 (h k x _ (by omega) hk hx hp) (ih _ (by omega) _ (by omega) hp)
structure Sft (l0 l:List Vtx)(n i:Nat):Prop where
 len:l.length=l0.length
 perm:(l.take n).Perm (l0.take n)
 rest:∀k,n≤k→l[k]?=l0[k]?
 hp:∀k x y,0<k→k<n→(k-1)/2≠i→l[k]?=some x→l[(k-1)/2]?=some y→bef x y=false
 gp:∀k x y,0<i→0<k→k<n→(k-1)/2=i→l[k]?=some x→l[(i-1)/2]?=some y→bef x y=false
theorem NX {l:List Vtx}{n:Nat}(h:∀k x y,0<k→k<n→(k-1)/2≠0→l[k]?=some x→l[(k-1)/2]?=some y→bef x y=false):Sft l l n 0:=
 ⟨rfl,List.Perm.refl _,fun _ _=>rfl,h,fun _ _ _ h0=>absurd h0 (Nat.lt_irrefl 0)⟩
theorem kW {l0 l:List Vtx}{n i j:Nat}(h:Sft l0 l n i){x y:Vtx}(hi:l[i]?=some x)(hj:l[j]?=some y)(hjn:j<n)(h0:0<j)(hij:(j-1)/2=i)(hb:bef y x=true)
  (hs:∀k z,0<k→k<n→(k-1)/2=i→l[k]?=some z→bef z y=false):Sft l0 (yM l i j x y) n j:=by
 have hin:i<n:=by omega
 have fZ:=wB hi hj
 refine⟨by rw[Cr,h.len],?_,fun k hk=>?_,fun k a b k0 kn kp ha hbb=>?_,fun k a b j0 k0 kn kp ha hbb=>?_⟩
 ·rw[GX hin hjn]
  refine(yN ?_ ?_).trans h.perm
  ·rw[eA,if_pos hin];exact hi
  ·rw[eA,if_pos hjn];exact hj
 ·rw[fZ,if_neg (by omega),if_neg (by omega)]
  exact h.rest k hk
 ·rw[fZ] at ha hbb
  rw[if_neg kp] at hbb
  by_cases e1:(k-1)/2=i
  ·rw[if_pos e1] at hbb
   obtain rfl:=ar hbb
   by_cases e2:k=j
   ·rw[if_pos e2] at ha
    obtain rfl:=ar ha
    exact om hb
   ·rw[if_neg e2,if_neg (by omega)] at ha
    exact hs k a k0 kn e1 ha
  ·rw[if_neg e1] at hbb
   rw[if_neg (show¬k=j by intro e;rw[e] at e1;exact e1 hij)] at ha
   by_cases e2:k=i
   ·subst e2
    rw[if_pos rfl] at ha
    obtain rfl:=ar ha
    exact h.gp j y b k0 h0 hjn hij hj hbb
   ·rw[if_neg e2] at ha
    exact h.hp k a b k0 kn e1 ha hbb
 ·rw[fZ] at ha hbb
  rw[hij,if_neg (by omega),if_pos rfl] at hbb
  obtain rfl:=ar hbb
  rw[if_neg (by omega),if_neg (by omega)] at ha
  exact h.hp k a y k0 kn (by omega) ha (by rw[kp];exact hj)
theorem Jp {l0 l:List Vtx}{n i:Nat}(h:Sft l0 l n i){x:Vtx}(hi:l[i]?=some x)(hs:∀k z,0<k→k<n→(k-1)/2=i→l[k]?=some z→bef z x=false):Heap l n:=fun k a b k0 kn ha hb=>by
 by_cases e:(k-1)/2=i
 ·rw[e,hi] at hb
  obtain rfl:=ar hb
  exact hs k a k0 kn e ha
 ·exact h.hp k a b k0 kn e ha hb
theorem E5 {l:List Vtx}(h:l.Pairwise fun a b=>bef a b=true):Heap l l.length:=fun k x y k0 kn hx hy=>by
 have h1:=(aQ.1 hx)
 have h2:=(aQ.1 hy)
 obtain⟨a1,rfl⟩:=h1
 obtain⟨a2,rfl⟩:=h2
 exact om (qR.1 h _ _ a2 a1 (by omega))
theorem C1 {s l:List Vtx}{x:Vtx}(hs:(x::s).Pairwise fun a b=>bef a b=true)(hp:l.Perm (x::s))(hh:Heap l l.length){r:Vtx}(hr:l[0]?=some r):r=x:=by
 have hx:x∈l:=hp.mem_iff.2 (by simp)
 obtain⟨k,hk⟩:=gw hx
 have h1:=C2 hh (ax _) hr k x (aQ.1 hk).1 hk
 have h2:r∈x::s:=hp.mem_iff.1 (bn hr)
 rcases aA.1 h2 with h2|h2
 ·exact h2
 ·have:=(fv.1 hs).1 r h2
  rw[this] at h1
  cases h1

end Go.Proofs.YtpefhoohfkeflaaGreatDoor.Am
