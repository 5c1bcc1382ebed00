/- Orders: leaders, votes, committed waves of the program. Orders: committed waves of the program. Orders: all committed waves of the program. Orders: the laws' waves and orders. Orders: the laws' orders. Runs: impl's quiet rounds. Quiet periods: the reference's WorldCalm, what is drawn; the law of invalid runs. Orders: the laws' orders, slot by slot. Scripts: what a session does, plain. Orders: heaps of vertices (plain laws). -/
import Derived.Test.YtpefhoohfkeflacGreatDoorEC10
set_option linter.unusedSimpArgs false
set_option linter.unusedVariables false
set_option maxHeartbeats 1000000
namespace Go.Proofs.YtpefhoohfkeflacGreatDoor.Am
open Go
attribute [local irreducible] Mk ci Ari fB mA ju b9 cR iT fo At ag
set_option maxRecDepth 10000
def Θe:TT:=(107,⟨.ifc,1,16,some .nili,none,false⟩)::Θg
theorem dJ:TT.ok Tryz.prog Θe:=TT.okB_ok (by kernel_rfl)
theorem nt {P Q:Prop}(h:Q)(s:Hid Q→P:=by
  intro h
  (first|(with_reducible first|apply dQ|apply cU)|((first|with_reducible apply cJ dJ|refine go ?_|(with_reducible first|apply df|apply dp|apply cH|apply cK|refine cI dJ mixed (by kernel_rfl) ?_))<;>conv=>whnf))
  repeat(first|(with_reducible first|apply dQ|apply cU)|((first|with_reducible apply cJ dJ|refine go ?_|(with_reducible first|apply df|apply dp|apply cH|apply cK|refine cI dJ mixed (by kernel_rfl) ?_))<;>conv=>whnf))
  exact h.h):P:=s ⟨h⟩
abbrev HE (c:List Int)(s:GS):VH:=[(1,.frow 178 (.hp 0) s.rows),(0,.fvar 190 (.nod 1) s.nodes)]
abbrev CE (c:List Int)(s:GS):VH:=[(0,.fvar 190 (.nod 1) s.nodes),(1,.frow 178 (.hp 0) s.rows)]
theorem I8 (c:List Int)(s:GS)(k:Nat):ag Tryz.prog 228 [.hro 1 none,.hpo 0 (some k)] (HE c s) (.int .i64 (-1)) (CE c s):=by
 refine ab eN Tryz.func228 rfl rfl false 0 4 rfl rfl rfl rfl fun K hK hb1 hb2=>?_;simp only[ae,enc,Nat.reduceAdd]
 clear hb1 hb2
 (repeat' first|refine jR ?_|refine sa fun xe hxe=>?_|refine sb (fun hq=>?_) fun hq=>?_|exact aa)
 refine ah hK [] [0,1,7,8] (fun i:Nat=>⟨[(0,.hro 1 none),(1,.hpo 0 (some k)),(7,.int .i64 0),(8,.int .i64 (i:Int))],CE c s,4⟩) (fun i=>i=0) (fun i=>i) 0 rfl rfl ?_
 rintro i rfl
 (repeat' first|refine jR ?_|refine sa fun xe hxe=>?_|refine sb (fun hq=>?_) fun hq=>?_|exact aa)
 exact⟨rfl,rfl⟩
theorem Md (c:List Int)(s:GS)(r k:Nat)(xs:List (Option Nat))(hr:s.rows[r]?=some xs)(hxs:∀o∈xs,∃q,o=some q∧q<s.nodes.length)(hk:k<s.nodes.length)(hl:xs.length≤1000000):ag Tryz.prog 228 [.hro 1 (some r),.hpo 0 (some k)] (HE c s) (.int .i64 (match xs.findIdx? (fun o=>o==some k) with|some i=>(i:Int)|none=>-1)) (CE c s):=by
 have hkx:s.nodes[k]?=some s.nodes[k]:=am hk
 generalize s.nodes[k]=nk at *
 refine ab eN Tryz.func228 rfl rfl false 0 4 rfl rfl rfl rfl fun K hK hb1 hb2=>?_;simp only[ae,enc,Nat.reduceAdd]
 clear hb1 hb2
 (repeat' first|refine jR ?_|refine sa fun xe hxe=>?_|refine sb (fun hq=>?_) fun hq=>?_|exact aa)
 refine ah hK [] [0,1,7,8] (fun i:Nat=>⟨[(0,.hro 1 (some r)),(1,.hpo 0 (some k)),(7,.int .i64 xs.length),(8,.int .i64 (i:Int))],CE c s,4⟩) (fun i=>i≤xs.length∧∀o∈xs.take i,(o==some k)=false) (fun i=>xs.length-i) 0 ⟨by simp,by simp⟩ rfl ?_
 rintro i ⟨hi,hall⟩
 by_cases hlt:i<xs.length
 ·have hxe:xs[i]?=some xs[i]:=am hlt
  have h3:xs.take (i+1)=xs.take i++[xs[i]]:=b8 hlt
  have h4:=qY (l:=xs) (p:=fun o=>o==some k) hxe hall
  obtain⟨q,hq,hql⟩:=hxs _ (br hxe)
  have hqx:s.nodes[q]?=some s.nodes[q]:=am hql
  rw[hq] at hxe h3 h4
  generalize s.nodes[q]=nq at *
  by_cases he:k=q
  ·subst he
   (repeat' first|refine jR ?_|refine sa fun xe hxe=>?_|refine sb (fun hq=>?_) fun hq=>?_|exact aa)
   refine⟨?_,rfl⟩
   rw[h4 (by simp)]
  ·(repeat' first|refine jR ?_|refine sa fun xe hxe=>?_|refine sb (fun hq=>?_) fun hq=>?_|exact aa)
   exact⟨i+1,⟨by omega,by rw[h3];exact bL hall (by simpa using fun h=>he h.symm)⟩,by omega,rfl⟩
 ·(repeat' first|refine jR ?_|refine sa fun xe hxe=>?_|refine sb (fun hq=>?_) fun hq=>?_|exact aa)
  refine⟨?_,rfl⟩
  rw[bp (by omega)] at hall
  rw[pd.2 hall]
theorem I5 (c:List Int)(s:GS)(k:Nat):ag Tryz.prog 214 [.hro 1 none,.hpo 0 (some k)] (HE c s) (.bool false) (CE c s):=by
 refine ab eN Tryz.func214 rfl rfl false 0 4 rfl rfl rfl rfl fun K hK hb1 hb2=>?_;simp only[ae,enc,Nat.reduceAdd]
 clear hb1 hb2
 (repeat' first|refine jR ?_|refine sa fun xe hxe=>?_|refine sb (fun hq=>?_) fun hq=>?_|refine co (I8 c s k) ?_|exact aa)
 exact⟨rfl,rfl⟩
theorem L7 (c:List Int)(s:GS)(r k:Nat)(xs:List (Option Nat))(hr:s.rows[r]?=some xs)(hxs:∀o∈xs,∃q,o=some q∧q<s.nodes.length)(hk:k<s.nodes.length)(hl:xs.length≤1000000):ag Tryz.prog 214 [.hro 1 (some r),.hpo 0 (some k)] (HE c s) (.bool (xs.contains (some k))) (CE c s):=by
 have hI:=Md c s r k xs hr hxs hk hl
 refine ab eN Tryz.func214 rfl rfl false 0 4 rfl rfl rfl rfl fun K hK hb1 hb2=>?_;simp only[ae,enc,Nat.reduceAdd]
 clear hb1 hb2
 cases h:xs.findIdx? (fun o=>o==some k) with
 |none=>
  rw[h] at hI
  have e:xs.contains (some k)=false:=by
   rw[ck]
   intro h2
   have:=pd.1 h _ (ir.1 h2)
   simp at this
  rw[e]
  (repeat' first|refine jR ?_|refine sa fun xe hxe=>?_|refine sb (fun hq=>?_) fun hq=>?_|refine co (hI) ?_|exact aa)
  exact⟨rfl,rfl⟩
 |some i=>
  rw[h] at hI
  obtain⟨hi,h1,-⟩:=ww.1 h
  have e:xs.contains (some k)=true:=ir.2 (by rw[←(beq_iff_eq.1 h1)];exact bd hi)
  rw[e]
  (repeat' first|refine jR ?_|refine sa fun xe hxe=>?_|refine sb (fun hq=>?_) fun hq=>?_|refine co (hI) ?_|exact aa)
  exact⟨rfl,rfl⟩
def NX (xs ys:List Int)(i:Nat):Prop:=ys.length=xs.length∧∀k,k<xs.length→ys[k]?=if k<i∨xs.length-i≤k then xs[xs.length-1-k]? else xs[k]?
theorem I3 {xs ys:List Int}{i:Nat}(h:NX xs ys i)(hi:xs.length≤2*i+1):ys=xs.reverse:=by
 refine nS fun k=>?_
 rcases cG k xs.length with hk|hk
 ·rw[h.2 k hk,List.getElem?_reverse hk]
  split
  ·rfl
  ·congr 1;omega
 ·rw[eg (by rw[h.1];exact hk),eg (by simpa using hk)]
theorem Ge {xs ys:List Int}{i:Nat}{a b:Int}(h:NX xs ys i)(hi:2*i+1<xs.length)(ha:ys[i]?=some a)(hb:ys[xs.length-1-i]?=some b):NX xs ((ys.set i b).set (xs.length-1-i) a) (i+1):=by
 obtain⟨h1,h2⟩:=h
 have ea:=h2 i (by omega)
 have eb:=h2 (xs.length-1-i) (by omega)
 rw[if_neg (by omega)] at ea eb
 refine⟨by simp[h1],fun k hk=>?_⟩
 rw[dm,dm,jq]
 by_cases e1:xs.length-1-i=k
 ·rw[if_pos e1,if_pos (by omega),if_pos (by omega),←ha,ea]
  congr 1;omega
 ·rw[if_neg e1]
  by_cases e2:i=k
  ·rw[if_pos e2,if_pos (by omega),if_pos (by omega),←hb,eb]
   congr 1;omega
  ·rw[if_neg e2,h2 k hk]
   by_cases e3:k<i∨xs.length-i≤k
   ·rw[if_pos e3,if_pos (by omega)]
   ·rw[if_neg e3,if_neg (by omega)]
theorem Lb (xs:List Int)(hl:xs.length≤1000000):ag Tryz.prog 203 [.ref 4] [(4,.row 3 (.int .i64) xs)] (.tup []) [(4,.row 3 (.int .i64) xs.reverse)]:=by
 refine ab aj Tryz.func203 rfl rfl false 1 5 rfl rfl rfl rfl fun K hK hb1 hb2=>?_;simp only[ae,enc,Nat.reduceAdd]
 clear hb1 hb2
 (repeat' first|refine st ?_|refine sa fun xe hxe=>?_|refine sb (fun hq=>?_) fun hq=>?_|exact aa)
 refine ah hK [] [0,2,3] (fun x:Nat×List Int=>⟨[(0,.ref 4),(2,.int .i64 (x.1:Int)),(3,.int .i64 ((xs.length:Int)-1-x.1))],[(4,.row 3 (.int .i64) x.2)],5⟩) (fun x=>NX xs x.2 x.1∧2*x.1≤xs.length+1) (fun x=>xs.length-x.1) (0,xs) ⟨⟨rfl,fun k hk=>by rw[if_neg (by omega)]⟩,by simp⟩ (by rw[show ((xs.length:Int)-1-((0:Nat):Int))=(xs.length:Int)-1 by omega];rfl) ?_
 rintro⟨i,ys⟩ ⟨hR,hi⟩
 dsimp only at hR hi⊢
 have hyl:=hR.1
 by_cases hlt:2*i+1<xs.length
 ·have hxa:ys[i]?=some ys[i]:=am (by omega)
  have hjb:xs.length-1-i<ys.length:=by omega
  have hxb:ys[xs.length-1-i]?=some ys[xs.length-1-i]:=am hjb
  have hst:=Ge hR hlt hxa hxb
  generalize hj:xs.length-1-i=j at *
  have hje:((xs.length:Int)-1-(i:Int))=(j:Int):=by omega
  rw[hje]
  generalize ys[i]=a at *
  generalize ys[j]=b at *
  have hxc:(ys.set i b)[j]?=some b:=by rw[dm,if_neg (by omega)];exact hxb
  have hsl:(ys.set i b).length=ys.length:=by simp
  (repeat' first|refine st ?_|refine sa fun xe hxe=>?_|refine sb (fun hq=>?_) fun hq=>?_|exact aa)
  exact⟨(i+1,(ys.set i b).set j a),⟨hst,by dsimp only;omega⟩,by dsimp only;omega,by rw[show ((xs.length:Int)-1-((i+1:Nat):Int))=(j:Int)-1 by omega];rfl⟩
 ·have hfin:=I3 hR (by omega)
  (repeat' first|refine st ?_|refine sa fun xe hxe=>?_|refine sb (fun hq=>?_) fun hq=>?_|exact aa)
  exact⟨rfl,by rw[hfin]⟩
theorem rl {c l:List Int}(hl:leaS c l=true){w:Nat}(h1:1≤w)(h2:w≤l.length):0≤gj l w∧gj l w<c.length:=by
 have hx:=mT h1 h2
 exact(bR.1 hl).1 _ (br hx)
theorem yU {c:List Int}{g:List Vtx}(hg:GraOK c g){l:List Int}(hl:leaS c l=true){w:Nat}(h1:1≤w)(h2:w≤l.length):(da g).at (2*(w:Int)-1) (gj l w)=g.findIdx? (eZ (2*(w:Int)-1) (gj l w)):=by
 have h7:=(ay.1 hg.com).2
 have hm:=rl hl h1 h2
 have hll:=(bR.1 hl).2
 exact xw hg (by omega) (by omega)
theorem qU {c:List Int}{g:List Vtx}(hg:GraOK c g){l:List Int}(hl:leaS c l=true){w:Nat}(h1:1≤w)(h2:w≤l.length){k:Vtx}(hk:qw g l w=some k):∃n:Nat,(da g).at (2*(w:Int)-1) (gj l w)=some n∧g[n]?=some k:=by
 obtain⟨a1,a2,a3⟩:=sK hk
 obtain⟨i,hi⟩:=iM a1
 have:=nE hg hi
 rw[a2,a3] at this
 exact⟨i,by rw[yU hg hl h1 h2,this],hi⟩
theorem AJ {c:List Int}{g:List Vtx}(hg:GraOK c g){l:List Int}(hl:leaS c l=true){w:Nat}(h1:1≤w)(h2:w≤l.length)(hk:qw g l w=none):(da g).at (2*(w:Int)-1) (gj l w)=none:=by
 rw[yU hg hl h1 h2,pd]
 intro x hx
 have:=List.find?_eq_none.1 hk x hx
 simpa using this
theorem vI (c:List Int)(g:List Vtx)(l:List Int)(w n:Nat)(hg:GraOK c g)(hl:leaS c l=true)(h1:1≤w)(h2:w≤l.length)(ha:(da g).at (2*(w:Int)-1) (gj l w)=some n):ag Tryz.prog 155 [.agg [.ptr 4 0,.lst (.int .i64) l],.int .i64 (w:Int)] (gR c (da g)) (.tup [.hpo 0 (some n),.nili]) (gR c (da g)):=by
 have h7:=(ay.1 hg.com).2
 have hx:=mT h1 h2
 have hll:=(bR.1 hl).2
 have hA:=nB c (da g) (2*(w:Int)-1) (gj l w) (fj g).2 h7.2 (aC.2 (by omega)) (aC.2 (by have:=rl hl h1 h2;omega))
 rw[ha] at hA
 have hin1:(none:Option Nat).isNone=true:=rfl
 have hin2:(some n:Option Nat).isNone=false:=rfl
 refine ab dJ Tryz.func155 rfl rfl false 2 6 rfl rfl rfl rfl fun K hK hb1 hb2=>?_;simp only[ae,enc,Nat.reduceAdd]
 clear hb1 hb2
 (repeat' first|refine nt ?_|refine sa fun xe hxe=>?_|refine sb (fun hq=>?_) fun hq=>?_|refine co (hA) ?_|exact aa)
 exact⟨rfl,rfl⟩
theorem E6 (c:List Int)(g:List Vtx)(l:List Int)(w:Nat)(hg:GraOK c g)(hl:leaS c l=true)(h1:1≤w)(h2:w≤l.length)(ha:(da g).at (2*(w:Int)-1) (gj l w)=none):ag Tryz.prog 155 [.agg [.ptr 4 0,.lst (.int .i64) l],.int .i64 (w:Int)] (gR c (da g)) (.tup [.nilp,.gv 6]) (gR c (da g)):=by
 have h7:=(ay.1 hg.com).2
 have hx:=mT h1 h2
 have hll:=(bR.1 hl).2
 have hA:=nB c (da g) (2*(w:Int)-1) (gj l w) (fj g).2 h7.2 (aC.2 (by omega)) (aC.2 (by have:=rl hl h1 h2;omega))
 rw[ha] at hA
 have hin1:(none:Option Nat).isNone=true:=rfl
 refine ab dJ Tryz.func155 rfl rfl false 2 6 rfl rfl rfl rfl fun K hK hb1 hb2=>?_;simp only[ae,enc,Nat.reduceAdd]
 clear hb1 hb2
 (repeat' first|refine nt ?_|refine sa fun xe hxe=>?_|refine sb (fun hq=>?_) fun hq=>?_|refine co (hA) ?_|exact aa)
 exact⟨rfl,rfl⟩
theorem K4 (c:List Int)(l:List Int)(w:Nat)(hc:comV c=true)(hl:leaS c l=true)(h1:1≤w)(h2:w≤l.length):ag Tryz.prog 155 [.agg [.ptr 4 0,.lst (.int .i64) l],.int .i64 (w:Int)] (gZ c jX) (.tup [.nilp,.gv 6]) (gZ c jX):=by
 have h7:=(ay.1 hc).2
 have hx:=mT h1 h2
 have hll:=(bR.1 hl).2
 have hA:=DC c jX (2*(w:Int)-1) (gj l w) iu h7.2 (aC.2 (by omega)) (aC.2 (by have:=rl hl h1 h2;omega))
 rw[zu] at hA
 have hin1:(none:Option Nat).isNone=true:=rfl
 refine ab dJ Tryz.func155 rfl rfl false 1 5 rfl rfl rfl rfl fun K hK hb1 hb2=>?_;simp only[ae,enc,Nat.reduceAdd]
 clear hb1 hb2
 (repeat' first|refine nt ?_|refine sa fun xe hxe=>?_|refine sb (fun hq=>?_) fun hq=>?_|refine co (hA) ?_|exact aa)
 exact⟨rfl,rfl⟩
def NN (g:List Vtx)(l:List Int)(w:Nat)(a:Int):Bool:=g.any fun v=>(v.round==2*(w:Int) && v.author==a) && v.parents.contains (gj l w)
def Dn (g:List Vtx)(l:List Int)(w n:Nat):List Int:=((List.range n).filter fun a:Nat=>NN g l w (a:Int)).map fun a:Nat=>(a:Int)
theorem GX (g:List Vtx)(l:List Int)(w n:Nat):Dn g l w (n+1)=if NN g l w (n:Int)=true then Dn g l w n++[(n:Int)] else Dn g l w n:=by
 simp only[Dn,mn,pe,ce,nz,mo]
 split<;>simp
theorem Jp (g:List Vtx)(l:List Int)(w n:Nat):(Dn g l w n).length≤n:=by
 unfold Dn
 rw[az]
 exact cu (my _ _) (by simp)
theorem Mz {c:List Int}{g:List Vtx}(hg:GraOK c g)(l:List Int)(w:Nat):Dn g l w c.length=tD g l w:=by
 refine uU ?_ (Jq hg.pw l w) fun a=>?_
 ·unfold Dn
  rw[mj]
  exact(List.Pairwise.filter _ List.pairwise_lt_range).imp fun h=>by omega
 ·rw[Js,Dn,aB]
  simp only[eL,eM,NN,fJ,aA,beq_iff_eq,ir]
  constructor
  ·rintro⟨n,⟨hn,v,hv,⟨h1,h2⟩,h3⟩,rfl⟩
   exact⟨v,hv,h1,h3,h2⟩
  ·rintro⟨v,hv,h1,h2,rfl⟩
   have:=(bG (hg.vtx v hv)).2.1
   exact⟨v.author.toNat,⟨by omega,v,hv,⟨h1,by omega⟩,h2⟩,by omega⟩
theorem GV {g:List Vtx}{l:List Int}{w:Nat}{a:Int}(h:g.findIdx? (eZ (2*(w:Int)) a)=none):NN g l w a=false:=by
 rw[ck]
 intro h2
 obtain⟨v,hv,h3⟩:=fJ.1 h2
 simp only[aA] at h3
 have:=pd.1 h v hv
 rw[show eZ (2*(w:Int)) a v=true by simp only[eZ,aA];exact h3.1] at this
 cases this
theorem GW {c:List Int}{g:List Vtx}(hg:GraOK c g){l:List Int}{w n q:Nat}{a:Int}{v:Vtx}(hq:g.findIdx? (eZ (2*(w:Int)) a)=some q)(hv:g[q]?=some v)(hn:g.findIdx? (eZ (2*(w:Int)-1) (gj l w))=some n):NN g l w a=(pix g v).contains (some n):=by
 obtain⟨x,x1,x2,x3⟩:=kt hq
 rw[hv] at x1
 obtain rfl:=ar x1
 obtain⟨k,k1,k2,k3⟩:=kt hn
 rw[d6,ir]
 constructor
 ·intro h
  obtain⟨u,hu,h3⟩:=fJ.1 h
  simp only[aA,beq_iff_eq,ir] at h3
  obtain⟨⟨h4,h5⟩,h6⟩:=h3
  have e:=rC hg.pw hu (br hv) (by omega) (by omega)
  subst e
  exact aB.2 ⟨gj l w,h6,by rw[x2];exact hn⟩
 ·intro h
  obtain⟨b,hb,h3⟩:=aB.1 h
  obtain⟨y,y1,y2,y3⟩:=kt h3
  rw[k1] at y1
  obtain rfl:=ar y1
  refine fJ.2 ⟨v,br hv,?_⟩
  simp only[aA,beq_iff_eq,ir]
  exact⟨⟨x2,x3⟩,by rw[←k3,y3];exact hb⟩
theorem IH {c:List Int}{g:List Vtx}(hg:GraOK c g){q:Nat}{v:Vtx}(hv:g[q]?=some v):∀o∈pix g v,∃k,o=some k∧k<(da g).nodes.length:=fun o ho=>by
 obtain⟨k,x,e,h1,-⟩:=oK hg (br hv) ho
 exact⟨k,e,by rw[(fj g).1];exact(aR.1 h1).1⟩
theorem Le (c:List Int)(g:List Vtx)(l:List Int)(w:Nat)(hg:GraOK c g)(hl:leaS c l=true)(h1:1≤w)(h2:w≤l.length)(ha:(da g).at (2*(w:Int)-1) (gj l w)=none):ag Tryz.prog 199 [.agg [.ptr 4 0,.lst (.int .i64) l],.int .i64 (w:Int)] (gR c (da g)) (.tup [.int .i64 0,.gv 6]) (gR c (da g)):=by
 have hL:=E6 c g l w hg hl h1 h2 ha
 refine ab dJ Tryz.func199 rfl rfl false 2 6 rfl rfl rfl rfl fun K hK hb1 hb2=>?_;simp only[ae,enc,Nat.reduceAdd]
 clear hb1 hb2
 (repeat' first|refine nt ?_|refine sa fun xe hxe=>?_|refine sb (fun hq=>?_) fun hq=>?_|refine co (hL) ?_|exact aa)
 exact⟨rfl,rfl⟩
theorem Lg (c:List Int)(l:List Int)(w:Nat)(hc:comV c=true)(hl:leaS c l=true)(h1:1≤w)(h2:w≤l.length):ag Tryz.prog 199 [.agg [.ptr 4 0,.lst (.int .i64) l],.int .i64 (w:Int)] (gZ c jX) (.tup [.int .i64 0,.gv 6]) (gZ c jX):=by
 have hL:=K4 c l w hc hl h1 h2
 refine ab dJ Tryz.func199 rfl rfl false 1 5 rfl rfl rfl rfl fun K hK hb1 hb2=>?_;simp only[ae,enc,Nat.reduceAdd]
 clear hb1 hb2
 (repeat' first|refine nt ?_|refine sa fun xe hxe=>?_|refine sb (fun hq=>?_) fun hq=>?_|refine co (hL) ?_|exact aa)
 exact⟨rfl,rfl⟩
theorem Lf (c:List Int)(g:List Vtx)(l:List Int)(w n:Nat)(hg:GraOK c g)(hl:leaS c l=true)(h1:1≤w)(h2:w≤l.length)(ha:(da g).at (2*(w:Int)-1) (gj l w)=some n):ag Tryz.prog 199 [.agg [.ptr 4 0,.lst (.int .i64) l],.int .i64 (w:Int)] (gR c (da g)) (.tup [.int .i64 (lF c (tD g l w)),.nili]) (gR c (da g)):=by
 have hL:=vI c g l w n hg hl h1 h2 ha
 have h7:=(ay.1 hg.com).2
 have hcm:=(ay.1 hg.com).1
 have hll:=(bR.1 hl).2
 have hgn:=(fj g).1
 have hfn:=ha
 rw[yU hg hl h1 h2] at hfn
 obtain⟨k,hk,-,-⟩:=kt hfn
 have hnl:n<(da g).nodes.length:=by rw[hgn];exact(aR.1 hk).1
 have hr:jS (2*(w:Int)) 0 30=true:=aC.2 (by omega)
 rw[←Mz hg l w]
 refine ab dJ Tryz.func199 rfl rfl false 2 6 rfl rfl rfl rfl fun K hK hb1 hb2=>?_;simp only[ae,enc,Nat.reduceAdd]
 clear hb1 hb2
 (repeat' first|refine nt ?_|refine sa fun xe hxe=>?_|refine sb (fun hq=>?_) fun hq=>?_|refine co (hL) ?_|exact aa)
 refine ah hK [] [1,2,6,8,25,26,27] (fun i:Nat=>⟨[(1,.int .i64 (w:Int)),(2,.ptr 6 0),(6,.hpo 0 (some n)),(8,.int .i64 (lF c (Dn g l w i))),(25,.lst (.int .i64) c),(26,.int .i64 c.length),(27,.int .i64 (i:Int))],HO c (da g) (.var 151 [.ptr 4 0,.lst (.int .i64) l]),7⟩) (fun i=>i≤c.length) (fun i=>c.length-i) 0 (aW _) rfl ?_
 intro i hi
 have hwb:=wq (ms:=Dn g l w i) hg.com
 have hwl:=Jp g l w i
 by_cases hlt:i<c.length
 ·have hm:dt c i=true:=aC.2 (by omega)
  have hA:=nB c (da g) (2*(w:Int)) (i:Int) (fj g).2 h7.2 hr hm
  have hfd:=xw hg (aC.1 hr) (a:=(i:Int)) (by omega)
  have hsn:=GX g l w i
  have hwn:=tz c (Dn g l w i) (i:Int)
  have hca:c[i]?=some (c.getD i 0):=by rw[aq,am hlt];rfl
  have hcb:=hcm _ (br hca)
  rw[show ((i:Int)).toNat=i by omega] at hwn
  cases h3:(da g).at (2*(w:Int)) (i:Int) with
  |none=>
   have hin1:(none:Option Nat).isNone=true:=rfl
   rw[h3] at hA
   rw[hfd] at h3
   rw[GV h3,if_neg (by simp)] at hsn
   (repeat' first|refine nt ?_|refine sa fun xe hxe=>?_|refine sb (fun hq=>?_) fun hq=>?_|refine co (hA) ?_|exact aa)
   exact⟨i+1,by omega,by omega,by rw[hsn];rfl⟩
  |some q=>
   have hin2:(some q:Option Nat).isNone=false:=rfl
   rw[h3] at hA
   rw[hfd] at h3
   obtain⟨v,hv,-,-⟩:=kt h3
   obtain⟨p,hp,hrow⟩:=xx hg hv
   have hvb:=GW hg (l:=l) h3 hv hfn
   rcases hrow with⟨hpn,rfl⟩|⟨r,rfl,hrow⟩
   ·have hC:=I5 c (da g) n
    have e:(pix g v).contains (some n)=false:=by rw[pix,hpn];rfl
    rw[hvb,e,if_neg (by simp)] at hsn
    (repeat' first|refine nt ?_|refine sa fun xe hxe=>?_|refine sb (fun hq=>?_) fun hq=>?_|refine co (hA) ?_|refine co (hC) ?_|exact aa)
    exact⟨i+1,by omega,by omega,by rw[hsn];rfl⟩
   ·have hC:=L7 c (da g) r n (pix g v) hrow (IH hg hv) hnl (by
     unfold pix
     rw[az]
     have:=eD (bG (hg.vtx v (br hv))).2.2.1
     omega)
    rw[hvb] at hsn
    cases hb:(pix g v).contains (some n)
    ·rw[hb] at hC
     rw[hb,if_neg (by simp)] at hsn
     (repeat' first|refine nt ?_|refine sa fun xe hxe=>?_|refine sb (fun hq=>?_) fun hq=>?_|refine co (hA) ?_|refine co (hC) ?_|exact aa)
     exact⟨i+1,by omega,by omega,by rw[hsn];rfl⟩
    ·rw[hb] at hC
     rw[hb,if_pos rfl] at hsn
     generalize c.getD i 0=cx at *
     generalize lF c (Dn g l w i)=wx at *
     (repeat' first|refine nt ?_|refine sa fun xe hxe=>?_|refine sb (fun hq=>?_) fun hq=>?_|refine co (hA) ?_|refine co (hC) ?_|exact aa)
     exact⟨i+1,by omega,by omega,by rw[hsn,hwn];rfl⟩
 ·obtain rfl:i=c.length:=by omega
  (repeat' first|refine nt ?_|refine sa fun xe hxe=>?_|refine sb (fun hq=>?_) fun hq=>?_|exact aa)
  exact⟨rfl,rfl⟩
theorem Lc (c:List Int)(hc:comV c=true):ag Tryz.prog 200 [.lst (.int .i64) c] [] (.int .i64 (Ds c)) []:=by
 have h1:=lr hc
 have h3:(qD c).tdiv 3+1=Ds c:=rfl
 have h2:=oX hc
 refine ab aj Tryz.func200 rfl rfl false 0 4 rfl rfl rfl rfl fun K hK hb1 hb2=>?_;simp only[ae,enc,Nat.reduceAdd]
 (repeat' first|refine st ?_|refine sa fun xe hxe=>?_|refine sb (fun hq=>?_) fun hq=>?_|refine cr (zH _ hc) ?_|exact aa)
 exact⟨rfl,rfl⟩
theorem KW (c:List Int)(g:List Vtx)(l:List Int)(w:Nat)(hg:GraOK c g)(hl:leaS c l=true)(h1:1≤w)(h2:w≤l.length):ag Tryz.prog 181 [.agg [.ptr 4 0,.lst (.int .i64) l],.int .i64 (w:Int)] (gR c (da g)) (.bool (ze c g l w)) (gR c (da g)):=by
 have hS:=Lc c hg.com
 have hsp:=oX hg.com
 cases hk:qw g l w with
 |none=>
  have hL:=Le c g l w hg hl h1 h2 (AJ hg hl h1 h2 hk)
  have e:ze c g l w=false:=by
   rw[ze,qQ,hk]
   exact decide_eq_false (by simp;omega)
  rw[e]
  refine ab dJ Tryz.func181 rfl rfl false 2 6 rfl rfl rfl rfl fun K hK hb1 hb2=>?_;simp only[ae,enc,Nat.reduceAdd]
  clear hb1 hb2
  (repeat' first|refine nt ?_|refine sa fun xe hxe=>?_|refine sb (fun hq=>?_) fun hq=>?_|refine cr (hS) ?_|refine co (hL) ?_|exact aa)
  exact⟨rfl,rfl⟩
 |some k=>
  obtain⟨n,hn,-⟩:=qU hg hl h1 h2 hk
  have hL:=Lf c g l w n hg hl h1 h2 hn
  have e:ze c g l w=decide (Ds c≤lF c (tD g l w)):=by rw[ze,qQ,hk];rfl
  rw[e]
  generalize lF c (tD g l w)=x at *
  by_cases hle:Ds c≤x
  ·rw[decide_eq_true hle]
   refine ab dJ Tryz.func181 rfl rfl false 2 6 rfl rfl rfl rfl fun K hK hb1 hb2=>?_;simp only[ae,enc,Nat.reduceAdd]
   clear hb1 hb2
   (repeat' first|refine nt ?_|refine sa fun xe hxe=>?_|refine sb (fun hq=>?_) fun hq=>?_|refine cr (hS) ?_|refine co (hL) ?_|exact aa)
   exact⟨by simp[hle],rfl⟩
  ·rw[decide_eq_false hle]
   refine ab dJ Tryz.func181 rfl rfl false 2 6 rfl rfl rfl rfl fun K hK hb1 hb2=>?_;simp only[ae,enc,Nat.reduceAdd]
   clear hb1 hb2
   (repeat' first|refine nt ?_|refine sa fun xe hxe=>?_|refine sb (fun hq=>?_) fun hq=>?_|refine cr (hS) ?_|refine co (hL) ?_|exact aa)
   exact⟨by simp[hle],rfl⟩
theorem H5 (c:List Int)(l:List Int)(w:Nat)(hc:comV c=true)(hl:leaS c l=true)(h1:1≤w)(h2:w≤l.length):ag Tryz.prog 181 [.agg [.ptr 4 0,.lst (.int .i64) l],.int .i64 (w:Int)] (gZ c jX) (.bool false) (gZ c jX):=by
 have hL:=Lg c l w hc hl h1 h2
 refine ab dJ Tryz.func181 rfl rfl false 1 5 rfl rfl rfl rfl fun K hK hb1 hb2=>?_;simp only[ae,enc,Nat.reduceAdd]
 clear hb1 hb2
 (repeat' first|refine nt ?_|refine sa fun xe hxe=>?_|refine sb (fun hq=>?_) fun hq=>?_|refine co (hL) ?_|exact aa)
 exact⟨rfl,rfl⟩
def bO (ws:List Nat):List Int:=ws.map fun w:Nat=>(w:Int)
theorem pD (a b:List Nat):bO (a++b)=bO a++bO b:=by simp[bO]
theorem gD (a:List Nat):(bO a).length=a.length:=by simp[bO]
theorem IQ {c:List Int}{g:List Vtx}(hg:GraOK c g){u v:Vtx}{n:Nat}(hv:g[n]?=some v):(pst g u).contains (n:Int)=true↔Rv g u v:=by
 rw[ir,BV]
 constructor
 ·rintro⟨i,hi,x,hx,hr⟩
  obtain rfl:n=i:=by omega
  rw[hv] at hx
  obtain rfl:=ar hx
  exact hr
 ·intro hr
  exact⟨n,rfl,v,hv,hr⟩
theorem LU (g:List Vtx)(u:Vtx):(pst g u).Pairwise (· ≤ ·):=(IP g u).imp fun h=>Int.le_of_lt h
open Classical in
theorem xb {g:List Vtx}{l:List Int}{last x:Nat}(h:x≤last)(cur:Vtx):dwn g l last x cur=[]:=by
 cases x with
 |zero=>rfl
 |succ x=>unfold dwn;rw[if_pos h]
open Classical in
theorem Ec {g:List Vtx}{l:List Int}{last x:Nat}(h:last<x+1){cur:Vtx}(hk:qw g l (x+1)=none):dwn g l last (x+1) cur=dwn g l last x cur:=by
 conv=>lhs;unfold dwn
 rw[if_neg (by omega),hk]
open Classical in
theorem xa {g:List Vtx}{l:List Int}{last x:Nat}(h:last<x+1){cur k:Vtx}(hk:qw g l (x+1)=some k)(hr:¬Rv g cur k):dwn g l last (x+1) cur=dwn g l last x cur:=by
 conv=>lhs;unfold dwn
 rw[if_neg (by omega),hk]
 exact if_neg hr
open Classical in
theorem xc {g:List Vtx}{l:List Int}{last x:Nat}(h:last<x+1){cur k:Vtx}(hk:qw g l (x+1)=some k)(hr:Rv g cur k):dwn g l last (x+1) cur=dwn g l last x k++[x+1]:=by
 conv=>lhs;unfold dwn
 rw[if_neg (by omega),hk]
 exact if_pos hr
theorem KO (c:List Int)(g:List Vtx)(l:List Int)(w last:Nat)(hg:GraOK c g)(hgl:g.length≤1000000)(hl:leaS c l=true)(h1:1≤w)(h2:w≤l.length)(hw:last<w){k0:Vtx}(hk0:qw g l w=some k0):ag Tryz.prog 182 [.agg [.ptr 4 0,.lst (.int .i64) l],.int .i64 (w:Int),.int .i64 (last:Int)] (gR c (da g)) (.lst (.int .i64) (bO (chn g l w last))) (gR c (da g)):=by
 have hll:=(bR.1 hl).2
 obtain⟨n0,hn0,hg0⟩:=qU hg hl h1 h2 hk0
 have hL:=vI c g l w n0 hg hl h1 h2 hn0
 have hP:=vJ c g hg hgl n0 k0 hg0
 have hch:chn g l w last=dwn g l last (w-1) k0++[w]:=by unfold chn;rw[hk0]
 have hpl0:=vU g k0
 refine ab dJ Tryz.func182 rfl rfl true 2 6 rfl rfl rfl rfl fun K hK hb1 hb2=>?_;simp only[ae,enc,Nat.reduceAdd]
 clear hb1 hb2
 (repeat' first|refine nt ?_|refine sa fun xe hxe=>?_|refine sb (fun hq=>?_) fun hq=>?_|refine co (hL) ?_|refine co (hP) ?_|exact aa)
 refine ah hK [] [2,3,9,10,11] (fun x:Nat×Vtx×List Nat=>⟨[(2,.int .i64 (last:Int)),(3,.ptr 6 0),(9,.ref 7),(10,.lst (.int .i64) (pst g x.2.1)),(11,.int .i64 (x.1:Int))],HO c (da g) (.var 151 [.ptr 4 0,.lst (.int .i64) l])++[(7,.row 3 (.int .i64) ((w:Int)::(bO x.2.2).reverse))],8⟩) (fun x=>x.2.1∈g∧last≤x.1∧x.1<w∧x.2.2.length+x.1≤w∧dwn g l last (w-1) k0=dwn g l last x.1 x.2.1++x.2.2) (fun x=>x.1) (w-1,k0,[]) ⟨br hg0,by dsimp only;omega,by dsimp only;omega,by dsimp only;simp only[dz];omega,by simp⟩ ?_ ?_
 ·dsimp only
  rw[show (((w-1:Nat):Int))=(w:Int)-1 by omega]
  rfl
 rintro⟨x,cur,acc⟩ ⟨hcur,hx1,hx2,hx3,hdw⟩
 dsimp only at hcur hx1 hx2 hx3 hdw⊢
 have hil:=gD acc
 have hrl:((w:Int)::(bO acc).reverse).length=acc.length+1:=by simp[hil]
 by_cases hlt:last<x
 ·obtain⟨y,rfl⟩:∃y,x=y+1:=⟨x-1,by omega⟩
  have e1:((y+1:Nat):Int)-1=(y:Int):=by omega
  cases hk:qw g l (y+1) with
  |none=>
   have hL2:=E6 c g l (y+1) hg hl (by omega) (by omega) (AJ hg hl (by omega) (by omega) hk)
   have hE:=Ku
   rw[Ec (by omega) hk] at hdw
   generalize hrow:((w:Int)::(bO acc).reverse)=row at *
   (repeat' first|refine nt ?_|refine sa fun xe hxe=>?_|refine sb (fun hq=>?_) fun hq=>?_|refine cr (hE) ?_|refine co (hL2) ?_|exact aa)
   refine⟨(y,cur,acc),⟨hcur,by dsimp only;omega,by dsimp only;omega,by dsimp only;omega,hdw⟩,by dsimp only;omega,?_⟩
   rw[e1]
   dsimp only
   rw[hrow]
   rfl
  |some k=>
   obtain⟨n,hn,hgn⟩:=qU hg hl (by omega) (by omega) hk
   have hL2:=vI c g l (y+1) n hg hl (by omega) (by omega) hn
   have hE:=Kt
   have hB:=ET (pst g cur) (n:Int) (LU g cur) (by have:=vU g cur;omega)
   obtain⟨p,hp⟩:=lQ hgn
   have hix:=IQ hg (u:=cur) hgn
   by_cases hr:Rv g cur k
   ·rw[hix.2 hr] at hB
    have hP2:=vJ c g hg hgl n k hgn
    rw[xc (by omega) hk hr,bH] at hdw
    have hrow2:((w:Int)::(bO acc).reverse)++[((y+1:Nat):Int)]=(w:Int)::(bO ((y+1)::acc)).reverse:=by simp[bO]
    generalize hrow:((w:Int)::(bO acc).reverse)=row at *
    (repeat' first|refine nt ?_|refine sa fun xe hxe=>?_|refine sb (fun hq=>?_) fun hq=>?_|refine cr (hE) ?_|refine cr (hB) ?_|refine co (hL2) ?_|refine co (hP2) ?_|exact aa)
    refine⟨(y,k,(y+1)::acc),⟨br hgn,by dsimp only;omega,by dsimp only;omega,by dsimp only;simp only[bF];omega,hdw⟩,by dsimp only;omega,?_⟩
    rw[e1]
    dsimp only
    rw[←hrow2]
    rfl
   ·rw[show (pst g cur).contains (n:Int)=false from by rw[ck];exact fun h=>hr (hix.1 h)] at hB
    rw[xa (by omega) hk hr] at hdw
    generalize hrow:((w:Int)::(bO acc).reverse)=row at *
    (repeat' first|refine nt ?_|refine sa fun xe hxe=>?_|refine sb (fun hq=>?_) fun hq=>?_|refine cr (hE) ?_|refine cr (hB) ?_|refine co (hL2) ?_|exact aa)
    refine⟨(y,cur,acc),⟨hcur,by dsimp only;omega,by dsimp only;omega,by dsimp only;omega,hdw⟩,by dsimp only;omega,?_⟩
    rw[e1]
    dsimp only
    rw[hrow]
    rfl
 ·rw[xb (x:=x) (by omega) cur,eo] at hdw
  have hR:=Lb ((w:Int)::(bO acc).reverse) (by omega)
  have hfin:((w:Int)::(bO acc).reverse).reverse=bO (chn g l w last):=by
   rw[hch,hdw,pD,List.reverse_cons,List.reverse_reverse];rfl
  (repeat' first|refine nt ?_|refine sa fun xe hxe=>?_|refine sb (fun hq=>?_) fun hq=>?_|refine co (hR) ?_|exact aa)
  exact⟨by rw[hfin],rfl⟩
end Go.Proofs.YtpefhoohfkeflacGreatDoor.Am
namespace Go.Proofs.YtpefhoohfkeflacGreatDoor.Am
open Go
attribute [local irreducible] Mk ci Ari fB mA ju b9 cR iT fo At ag
set_option maxRecDepth 10000
theorem uV:∀{l:List Nat} {a b:Nat},l.Pairwise (· < ·)→(∀x∈l,a<x∧x≤b)→l.length≤b-a
 |[],_,_,_,_=>aW _
 |x::l,a,b,h,hb=>by
  obtain⟨h1,h2⟩:=iv.1 h
  have hx:=hb x (by simp)
  have:=uV (a:=x) (b:=b) h2 fun y hy=>⟨h1 y hy,(hb y (by simp[hy])).2⟩
  simp only[bF]
  omega
theorem mH (c:List Int)(g:List Vtx)(l:List Int)(hc:comV c=true)(n:Nat):(cmt c g l n).1.length≤n:=by
 have h1:=mG (g:=g) hc l n
 have:=uV (a:=0) (b:=n) (n5 c g l n).2.1 fun x hx=>⟨by have:=(h1 x hx).1;omega,(h1 x hx).2.1⟩
 omega
theorem Hj (g:List Vtx)(l:List Int){w last:Nat}(h:last<w):(chn g l w last).length≤w:=by
 obtain⟨h1,h2⟩:=AQ g l h
 have:=uV h1 h2
 omega
theorem AS {c:List Int}{g:List Vtx}{l:List Int}{n:Nat}(h:ze c g l (n+1)=true):cmt c g l (n+1)=((cmt c g l n).1++chn g l (n+1) (cmt c g l n).2,n+1):=by
 conv=>lhs;unfold cmt
 rw[if_pos h]
theorem y6 {c:List Int}{g:List Vtx}{l:List Int}{n:Nat}(h:ze c g l (n+1)=false):cmt c g l (n+1)=cmt c g l n:=by
 conv=>lhs;unfold cmt
 rw[if_neg (by rw[h];simp)]
theorem AR (c:List Int)(l:List Int)(hc:comV c=true):∀n:Nat,cmt c [] l n=([],0)
 |0=>rfl
 |n+1=>by
  have h:ze c [] l (n+1)=false:=by
   rw[ck]
   intro h
   obtain⟨k,hk,-⟩:=qV hc h
   cases hk
  rw[y6 h,AR c l hc n]
theorem KP (c:List Int)(g:List Vtx)(l:List Int)(hg:GraOK c g)(hgl:g.length≤1000000)(hl:leaS c l=true):ag Tryz.prog 154 [.agg [.ptr 4 0,.lst (.int .i64) l]] (gR c (da g)) (.lst (.int .i64) (bO (cmt c g l l.length).1)) (gR c (da g)):=by
 have hll:=(bR.1 hl).2
 refine ab dJ Tryz.func154 rfl rfl true 2 6 rfl rfl rfl rfl fun K hK hb1 hb2=>?_;simp only[ae,enc,Nat.reduceAdd]
 clear hb1 hb2
 (repeat' first|refine nt ?_|refine sa fun xe hxe=>?_|refine sb (fun hq=>?_) fun hq=>?_|exact aa)
 refine ah hK [] [1,3,4,5] (fun n:Nat=>⟨[(1,.ptr 6 0),(3,.ref 7),(4,.int .i64 ((cmt c g l n).2:Int)),(5,.int .i64 ((n:Int)+1))],HO c (da g) (.var 151 [.ptr 4 0,.lst (.int .i64) l])++[(7,.row 3 (.int .i64) (bO (cmt c g l n).1))],8⟩) (fun n=>n≤l.length) (fun n=>l.length-n) 0 (aW _) ?_ ?_
 ·rw[show (((0:Nat):Int)+1)=1 from rfl]
  rfl
 intro n hn
 have hcl:=mH c g l hg.com n
 have hil:=gD (cmt c g l n).1
 have hc2:=(n5 c g l n).1
 by_cases hlt:n<l.length
 ·have hD:=KW c g l (n+1) hg hl (by omega) (by omega)
  have e1:(((n+1:Nat)):Int)=(n:Int)+1:=by omega
  cases hd:ze c g l (n+1)
  ·rw[hd,e1] at hD
   have hcn:=y6 hd
   (repeat' first|refine nt ?_|refine sa fun xe hxe=>?_|refine sb (fun hq=>?_) fun hq=>?_|refine co (hD) ?_|exact aa)
   exact⟨n+1,by omega,by omega,by rw[hcn,e1];rfl⟩
  ·obtain⟨k,hk,-⟩:=qV hg.com hd
   have hC:=KO c g l (n+1) (cmt c g l n).2 hg hgl hl (by omega) (by omega) (by omega) hk
   have hkl:=Hj g l (w:=n+1) (last:=(cmt c g l n).2) (by omega)
   have hkl2:=gD (chn g l (n+1) (cmt c g l n).2)
   rw[hd,e1] at hD
   rw[e1] at hC
   have hcn:=AS hd
   have hap:=pD (cmt c g l n).1 (chn g l (n+1) (cmt c g l n).2)
   generalize hA:bO (cmt c g l n).1=A at *
   generalize hB:bO (chn g l (n+1) (cmt c g l n).2)=B at *
   (repeat' first|refine nt ?_|refine sa fun xe hxe=>?_|refine sb (fun hq=>?_) fun hq=>?_|refine co (hD) ?_|refine co (hC) ?_|exact aa)
   exact⟨n+1,by omega,by omega,by rw[hcn];dsimp only;rw[hap,e1];rfl⟩
 ·obtain rfl:n=l.length:=by omega
  (repeat' first|refine nt ?_|refine sa fun xe hxe=>?_|refine sb (fun hq=>?_) fun hq=>?_|exact aa)
  exact⟨rfl,rfl⟩
theorem H2 (c:List Int)(l:List Int)(hc:comV c=true)(hl:leaS c l=true):ag Tryz.prog 154 [.agg [.ptr 4 0,.lst (.int .i64) l]] (gZ c jX) (.lst (.int .i64) []) (gZ c jX):=by
 have hll:=(bR.1 hl).2
 refine ab dJ Tryz.func154 rfl rfl true 1 5 rfl rfl rfl rfl fun K hK hb1 hb2=>?_;simp only[ae,enc,Nat.reduceAdd]
 clear hb1 hb2
 (repeat' first|refine nt ?_|refine sa fun xe hxe=>?_|refine sb (fun hq=>?_) fun hq=>?_|exact aa)
 refine ah hK [] [1,3,4,5] (fun n:Nat=>⟨[(1,.ptr 5 0),(3,.ref 6),(4,.int .i64 0),(5,.int .i64 ((n:Int)+1))],OO c jX (.var 151 [.ptr 4 0,.lst (.int .i64) l])++[(6,.row 3 (.int .i64) [])],7⟩) (fun n=>n≤l.length) (fun n=>l.length-n) 0 (aW _) ?_ ?_
 ·rw[show (((0:Nat):Int)+1)=1 from rfl]
  rfl
 intro n hn
 by_cases hlt:n<l.length
 ·have hD:=H5 c l (n+1) hc hl (by omega) (by omega)
  have e1:(((n+1:Nat)):Int)=(n:Int)+1:=by omega
  rw[e1] at hD
  (repeat' first|refine nt ?_|refine sa fun xe hxe=>?_|refine sb (fun hq=>?_) fun hq=>?_|refine co (hD) ?_|exact aa)
  exact⟨n+1,by omega,by omega,by rw[e1];rfl⟩
 ·(repeat' first|refine nt ?_|refine sa fun xe hxe=>?_|refine sb (fun hq=>?_) fun hq=>?_|exact aa)
  exact⟨rfl,rfl⟩
def Cl (c:List Int)(g:List Vtx)(l:List Int):Bool:=graS c g && leaS c l
theorem K8 (c:List Int)(g:List Vtx)(l:List Int)(hgl:g.length≤1000000)(h:Cl c g l=false):ag Tryz.prog 114 [.lst (.int .i64) c,.lst .vtx g,.lst (.int .i64) l] [] (.tup [.agg [.nilp,.nils],.gv 1]) []:=by
 have hL:=vN c g (by omega)
 have hV:=rg c l
 refine ab dJ Tryz.func114 rfl rfl false 0 4 rfl rfl rfl rfl fun K hK hb1 hb2=>?_;simp only[ae,enc,Nat.reduceAdd]
 clear hb1 hb2
 cases hg:graS c g
 ·simp only[Dr,Dq,hg,eW,if_false] at hL
  (repeat' first|refine nt ?_|refine sa fun xe hxe=>?_|refine sb (fun hq=>?_) fun hq=>?_|refine cr (hL) ?_|refine cr (hV) ?_|exact aa)
  exact⟨rfl,rfl⟩
 ·have hok:=fT hg
  simp only[Dr,Dq,hg,if_true] at hL
  rw[Cl,hg,d7] at h
  rw[hok.com,h] at hV
  cases g with
  |nil=>
   (repeat' first|refine nt ?_|refine sa fun xe hxe=>?_|refine sb (fun hq=>?_) fun hq=>?_|refine cr (hL) ?_|refine cr (hV) ?_|exact aa)
   exact⟨rfl,rfl⟩
  |cons v g=>
   (repeat' first|refine nt ?_|refine sa fun xe hxe=>?_|refine sb (fun hq=>?_) fun hq=>?_|refine cr (hL) ?_|refine cr (hV) ?_|exact aa)
   exact⟨rfl,rfl⟩
theorem K6 (c:List Int)(v:Vtx)(g:List Vtx)(l:List Int)(hgl:(v::g).length≤1000000)(hg:graS c (v::g)=true)(hl:leaS c l=true):ag Tryz.prog 114 [.lst (.int .i64) c,.lst .vtx (v::g),.lst (.int .i64) l] [] (.tup [.agg [.ptr 4 0,.lst (.int .i64) l],.nili]) (gR c (da (v::g))):=by
 have hL:=vN c (v::g) (by omega)
 have hV:=rg c l
 have hok:=fT hg
 simp only[Dr,Dq,hg,if_true] at hL
 rw[hok.com,hl] at hV
 refine ab dJ Tryz.func114 rfl rfl false 0 4 rfl rfl rfl rfl fun K hK hb1 hb2=>?_;simp only[ae,enc,Nat.reduceAdd]
 clear hb1 hb2
 (repeat' first|refine nt ?_|refine sa fun xe hxe=>?_|refine sb (fun hq=>?_) fun hq=>?_|refine cr (hL) ?_|refine cr (hV) ?_|exact aa)
 exact⟨rfl,rfl⟩
theorem K7 (c:List Int)(l:List Int)(hc:comV c=true)(hl:leaS c l=true):ag Tryz.prog 114 [.lst (.int .i64) c,.lst .vtx [],.lst (.int .i64) l] [] (.tup [.agg [.ptr 4 0,.lst (.int .i64) l],.nili]) (gZ c jX):=by
 have hg:graS c []=true:=by simp[graS,hc,ey]
 have hL:=vN c [] (by simp)
 have hV:=rg c l
 simp only[Dr,Dq,hg,if_true] at hL
 rw[hc,hl] at hV
 refine ab dJ Tryz.func114 rfl rfl false 0 4 rfl rfl rfl rfl fun K hK hb1 hb2=>?_;simp only[ae,enc,Nat.reduceAdd]
 clear hb1 hb2
 (repeat' first|refine nt ?_|refine sa fun xe hxe=>?_|refine sb (fun hq=>?_) fun hq=>?_|refine cr (hL) ?_|refine cr (hV) ?_|exact aa)
 exact⟨rfl,rfl⟩
noncomputable def cmw (c:List Int) (g:List Vtx) (l:List Int):List Nat:=if Cl c g l then(cmt c g l l.length).1 else[]
open Classical in
theorem OE (c:List Int)(g:List Vtx)(l:List Int)(hg:GraOK c g)(hgl:g.length≤1000000)(hl:leaS c l=true):ag Tryz.prog 159 [.lst (.int .i64) c,.lst .vtx g,.lst (.int .i64) l] [] (.lst (.int .i64) (bO (cmt c g l l.length).1)) []:=by
 have hll:=(bR.1 hl).2
 have hS:=NH c hg.com
 have hsp:=oX hg.com
 refine ab aj Tryz.func159 rfl rfl true 0 4 rfl rfl rfl rfl fun K hK hb1 hb2=>?_;simp only[ae,enc,Nat.reduceAdd]
 clear hb1 hb2
 (repeat' first|refine st ?_|refine sa fun xe hxe=>?_|refine sb (fun hq=>?_) fun hq=>?_|exact aa)
 refine ah hK [] [0,1,2,7,8,9] (fun n:Nat=>⟨[(0,.lst (.int .i64) c),(1,.lst .vtx g),(2,.lst (.int .i64) l),(7,.ref 4),(8,.int .i64 ((cmt c g l n).2:Int)),(9,.int .i64 ((n:Int)+1))],[(4,.row 3 (.int .i64) (bO (cmt c g l n).1))],5⟩) (fun n=>n≤l.length) (fun n=>l.length-n) 0 (aW _) rfl ?_
 intro n hn
 have hcl:=mH c g l hg.com n
 have hil:=gD (cmt c g l n).1
 have hc2:=(n5 c g l n).1
 by_cases hlt:n<l.length
 ·have hV:=NO c g l (n+1) hg hgl (by omega) (by omega) (by omega)
  have e1:(((n+1:Nat)):Int)=(n:Int)+1:=by omega
  have hdd:ze c g l (n+1)=decide (Ds c≤qQ c g l (n+1)):=rfl
  rw[e1] at hV
  by_cases hd:ze c g l (n+1)=true
  ·obtain⟨k0,hk0,-⟩:=qV hg.com hd
   have hcn:=AS hd
   have hap:=pD (cmt c g l n).1 (chn g l (n+1) (cmt c g l n).2)
   have hch:chn g l (n+1) (cmt c g l n).2=dwn g l (cmt c g l n).2 n k0++[n+1]:=by unfold chn;rw[hk0];rfl
   rw[hdd] at hd
   have hd:=of_decide_eq_true hd
   obtain⟨n0,hn0,hg0⟩:=mU hg hk0
   have hL:=Bz g l (n+1) (by omega) (by omega) (by omega)
   rw[hn0,e1] at hL
   have hP:=zX c g hg hgl n0 k0 hg0
   generalize qQ c g l (n+1)=vt at *
   generalize hA:bO (cmt c g l n).1=A at *
   generalize hla:(cmt c g l n).2=last at *
   (repeat' first|refine st ?_|refine sa fun xe hxe=>?_|refine sb (fun hq=>?_) fun hq=>?_|refine cr (hV) ?_|refine cr (hS) ?_|refine cr (hL) ?_|refine cr (hP) ?_|exact aa)
   clear hV hL hP hS
   refine ah hK [] [0,1,2,7,8,9,10,11,12] (fun x:Nat×Vtx×List Nat=>⟨[(0,.lst (.int .i64) c),(1,.lst .vtx g),(2,.lst (.int .i64) l),(7,.ref 4),(8,.int .i64 (last:Int)),(9,.int .i64 ((n:Int)+1)),(10,.ref 5),(11,.lst .bool (pfl g x.2.1)),(12,.int .i64 (x.1:Int))],[(4,.row 3 (.int .i64) A),(5,.row 3 (.int .i64) (bO (x.2.2++[n+1])))],6⟩) (fun x=>x.2.1∈g∧last≤x.1∧x.1≤n∧x.2.2.length+x.1≤n∧dwn g l last n k0=dwn g l last x.1 x.2.1++x.2.2) (fun x=>x.1) (n,k0,[]) ⟨br hg0,hc2,ax _,by simp,by simp⟩ ?_ ?_
   ·dsimp only
    rw[show ((n:Int)+1-1)=(n:Int) by omega,eo,show bO [n+1]=[(n:Int)+1] from by rw[←e1];rfl]
    rfl
   rintro⟨x,cur,acc⟩ ⟨hcur,hx1,hx2,hx3,hdw⟩
   dsimp only at hcur hx1 hx2 hx3 hdw⊢
   have hrl:(bO (acc++[n+1])).length=acc.length+1:=by rw[gD];simp
   by_cases hlt2:last<x
   ·obtain⟨y,rfl⟩:∃y,x=y+1:=⟨x-1,by omega⟩
    have e2:((y+1:Nat):Int)-1=(y:Int):=by omega
    have hL:=Bz g l (y+1) (by omega) (by omega) (by omega)
    cases hk:qw g l (y+1) with
    |none=>
     rw[um hk] at hL
     rw[Ec (by omega) hk] at hdw
     generalize hrow:bO (acc++[n+1])=row at *
     (repeat' first|refine st ?_|refine sa fun xe hxe=>?_|refine sb (fun hq=>?_) fun hq=>?_|refine cr (hL) ?_|exact aa)
     refine⟨(y,cur,acc),⟨hcur,by dsimp only;omega,by dsimp only;omega,by dsimp only;omega,hdw⟩,by dsimp only;omega,?_⟩
     rw[e2]
     dsimp only
     rw[hrow]
    |some k=>
     obtain⟨m,hm,hgm⟩:=mU hg hk
     rw[hm] at hL
     have hpf:=zY (u:=cur) hgm
     by_cases hr:Rv g cur k
     ·rw[decide_eq_true hr] at hpf
      have hP:=zX c g hg hgl m k hgm
      rw[xc (by omega) hk hr,bH] at hdw
      have hrow2:[((y+1:Nat):Int)]++bO (acc++[n+1])=bO (((y+1)::acc)++[n+1]):=rfl
      generalize hrow:bO (acc++[n+1])=row at *
      (repeat' first|refine st ?_|refine sa fun xe hxe=>?_|refine sb (fun hq=>?_) fun hq=>?_|refine cr (hL) ?_|refine cr (hP) ?_|exact aa)
      refine⟨(y,k,(y+1)::acc),⟨br hgm,by dsimp only;omega,by dsimp only;omega,by dsimp only;simp only[bF];omega,hdw⟩,by dsimp only;omega,?_⟩
      rw[e2]
      dsimp only
      rw[←hrow2]
     ·rw[decide_eq_false hr] at hpf
      rw[xa (by omega) hk hr] at hdw
      generalize hrow:bO (acc++[n+1])=row at *
      (repeat' first|refine st ?_|refine sa fun xe hxe=>?_|refine sb (fun hq=>?_) fun hq=>?_|refine cr (hL) ?_|exact aa)
      refine⟨(y,cur,acc),⟨hcur,by dsimp only;omega,by dsimp only;omega,by dsimp only;omega,hdw⟩,by dsimp only;omega,?_⟩
      rw[e2]
      dsimp only
      rw[hrow]
   ·rw[xb (x:=x) (by omega) cur,eo] at hdw
    have hfin:bO (acc++[n+1])=bO (chn g l (n+1) last):=by rw[hch,hdw]
    rw[hfin]
    rw[hfin] at hrl
    generalize hB:bO (chn g l (n+1) last)=B at *
    have hAl:A.length≤n:=by omega
    (repeat' first|refine st ?_|refine sa fun xe hxe=>?_|refine sb (fun hq=>?_) fun hq=>?_|exact aa)
    exact⟨n+1,by omega,by omega,by rw[hcn];dsimp only;rw[hap,e1]⟩
  ·have hd2:ze c g l (n+1)=false:=by simpa using hd
   have hcn:=y6 hd2
   rw[hdd] at hd2
   have hd2:=of_decide_eq_false hd2
   generalize qQ c g l (n+1)=vt at *
   (repeat' first|refine st ?_|refine sa fun xe hxe=>?_|refine sb (fun hq=>?_) fun hq=>?_|refine cr (hV) ?_|refine cr (hS) ?_|exact aa)
   exact⟨n+1,by omega,by omega,by rw[hcn,e1]⟩
 ·obtain rfl:n=l.length:=by omega
  (repeat' first|refine st ?_|refine sa fun xe hxe=>?_|refine sb (fun hq=>?_) fun hq=>?_|exact aa)
  exact⟨rfl,rfl⟩
end Go.Proofs.YtpefhoohfkeflacGreatDoor.Am
namespace Go.Proofs.YtpefhoohfkeflacGreatDoor.Am
open Go
attribute [local irreducible] Mk ci Ari fB mA ju b9 cR iT fo At ag
set_option maxRecDepth 10000
noncomputable def wvS (g:List Vtx) (l:List Int) (ws:List Nat) (w:Nat) (j:Nat):List Int:=(g.take j).map (wvk g l (ws++[w]))++(g.drop j).map (wvk g l ws)
theorem JA (g:List Vtx)(l:List Int)(ws:List Nat)(w j:Nat):(wvS g l ws w j).length=g.length:=by
 simp only[wvS,aP,az,bP,lw]
 omega
theorem NR (g:List Vtx)(l:List Int)(ws:List Nat)(w:Nat):wvS g l ws w 0=g.map (wvk g l ws):=by simp[wvS]
theorem Jz (g:List Vtx)(l:List Int)(ws:List Nat)(w:Nat):wvS g l ws w g.length=g.map (wvk g l (ws++[w])):=by simp[wvS]
theorem G5 {g:List Vtx}{l:List Int}{ws:List Nat}{w j:Nat}{v:Vtx}(h:g[j]?=some v):(wvS g l ws w j)[j]?=some (wvk g l ws v):=by
 have hj:=(aR.1 h).1
 rw[wvS,eJ (by simp;omega)]
 simp only[az,bP,be,nQ]
 rw[show j+(j-min j g.length)=j by omega,h]
 rfl
theorem Ck {g:List Vtx}{l:List Int}{ws:List Nat}{w j:Nat}{v:Vtx}(h:g[j]?=some v):(wvS g l ws w j).set j (wvk g l (ws++[w]) v)=wvS g l ws w (j+1):=by
 obtain⟨hj,hv⟩:=aR.1 h
 have e1:g.take (j+1)=g.take j++[v]:=by rw[←hv];exact b8 hj
 have e2:g.drop j=v::g.drop (j+1):=by rw[←hv];exact(ny hj)
 have e3:(List.map (wvk g l (ws++[w])) (g.take j)).length=j:=by simp;omega
 rw[wvS,wvS,e1,e2,ce,bK,List.set_append_right _ _ (by omega),e3,ka,List.set_cons_zero,bH]
 rfl
theorem G6 {g:List Vtx}{l:List Int}{ws:List Nat}{w j:Nat}{v:Vtx}(h:g[j]?=some v)(he:wvk g l (ws++[w]) v=wvk g l ws v):wvS g l ws w j=wvS g l ws w (j+1):=by
 have h1:=Ck (l:=l) (ws:=ws) (w:=w) h
 rw[he] at h1
 rw[←h1]
 refine(nS fun k=>?_)
 rw[dm]
 by_cases e:j=k
 ·subst e
  have:=G5 (l:=l) (ws:=ws) (w:=w) h
  rw[if_pos rfl,if_pos (aR.1 this).1,this]
 ·rw[if_neg e]
theorem JB (g:List Vtx)(l:List Int)(v:Vtx):wvk g l [] v=0:=rfl
open Classical in
theorem Nx (c:List Int)(g:List Vtx)(l:List Int)(hg:GraOK c g)(hgl:g.length≤1000000)(hl:leaS c l=true):ag Tryz.prog 128 [.lst (.int .i64) c,.lst .vtx g,.lst (.int .i64) l] [] (.lst (.int .i64) (g.map (wvk g l (cmt c g l l.length).1))) []:=by
 have hll:=(bR.1 hl).2
 have hW:=OE c g l hg hgl hl
 have hcl:=mH c g l hg.com l.length
 have hcm:=mG (g:=g) hg.com l l.length
 have hfit:kZ 8 (((g.length:Nat):Int).toNat):=by unfold kZ;omega
 generalize (cmt c g l l.length).1=W at *
 have hil:=gD W
 refine ab aj Tryz.func128 rfl rfl true 0 4 rfl rfl rfl rfl fun K hK hb1 hb2=>?_;simp only[ae,enc,Nat.reduceAdd]
 clear hb1 hb2
 (repeat' first|refine st ?_|refine sa fun xe hxe=>?_|refine sb (fun hq=>?_) fun hq=>?_|refine cr (hW) ?_|exact aa)
 refine ah hK [] [1,2,7,8,9] (fun i:Nat=>⟨[(1,.lst .vtx g),(2,.lst (.int .i64) l),(7,.ref 4),(8,.lst (.int .i64) (bO W)),(9,.int .i64 (i:Int))],[(4,.row 3 (.int .i64) (g.map (wvk g l (W.take i))))],5⟩) (fun i=>i≤W.length) (fun i=>W.length-i) 0 (aW _) ?_ ?_
 ·have e:List.replicate ((g.length:Int).toNat) (0:Int)=g.map (wvk g l (W.take 0)):=by
   rw[List.take_zero,show ((g.length:Int).toNat)=g.length by omega]
   refine(List.ext_getElem (by simp) fun k h1 h2=>?_)
   simp[JB]
  rw[←e]
  rfl
 intro i hi
 by_cases hlt:i<W.length
 ·obtain⟨w,hw⟩:∃w,W[i]?=some w:=⟨_,am hlt⟩
  have hwx:(bO W)[i]?=some (w:Int):=by rw[bO,be,hw];rfl
  obtain⟨w1,w2,k,hk⟩:=hcm w (br hw)
  have htk:W.take (i+1)=W.take i++[w]:=by
   obtain⟨h1,h2⟩:=aR.1 hw
   rw[←h2];exact b8 h1
  have hpos:∀x∈W.take i,1≤x:=fun x hx=>(hcm x (jU hx)).1
  obtain⟨n,hn,hgn⟩:=mU hg hk
  have hL:=Bz g l w w1 w2 (by omega)
  rw[hn] at hL
  have hP:=zX c g hg hgl n k hgn
  generalize W.take i=ws at *
  (repeat' first|refine st ?_|refine sa fun xe hxe=>?_|refine sb (fun hq=>?_) fun hq=>?_|refine cr (hL) ?_|refine cr (hP) ?_|exact aa)
  clear hL hP hW
  refine ah hK [] [1,2,7,8,9,10,11] (fun j:Nat=>⟨[(1,.lst .vtx g),(2,.lst (.int .i64) l),(7,.ref 4),(8,.lst (.int .i64) (bO W)),(9,.int .i64 (i:Int)),(10,.lst .bool (pfl g k)),(11,.int .i64 (j:Int))],[(4,.row 3 (.int .i64) (wvS g l ws w j))],5⟩) (fun j=>j≤g.length) (fun j=>g.length-j) 0 (aW _) (by rw[NR];rfl) ?_
  intro j hj
  have hrl:=JA g l ws w j
  by_cases hjl:j<g.length
  ·have hxe:g[j]?=some g[j]:=am hjl
   have hpf:=zY (u:=k) hxe
   have hat:=G5 (l:=l) (ws:=ws) (w:=w) hxe
   have hst:=Ck (l:=l) (ws:=ws) (w:=w) hxe
   have hsk:=G6 (l:=l) (ws:=ws) (w:=w) hxe
   have hvr:=(bG (hg.vtx _ (br hxe))).1
   have hsn:=tA g l ws w g[j] hpos
   have hiw:yK g l w g[j]↔Rv g k g[j]∧2*(w:Int)-7≤g[j].round:=by
    unfold yK
    rw[hk]
    exact⟨fun ⟨k',e,h1,h2⟩=>by obtain rfl:=ar e;exact⟨h1,h2⟩,fun ⟨h1,h2⟩=>⟨k,rfl,h1,h2⟩⟩
   generalize g[j]=v at *
   generalize wvk g l ws v=o at *
   generalize wvk g l (ws++[w]) v=o2 at *
   generalize hrow:wvS g l ws w j=row at *
   by_cases hr:Rv g k v
   ·rw[decide_eq_true hr] at hpf
    by_cases ho:o=0
    ·by_cases hd:2*(w:Int)-7≤v.round
     ·rw[if_pos ⟨ho,hiw.2 ⟨hr,hd⟩⟩] at hsn
      rw[hsn] at hst
      (repeat' first|refine st ?_|refine sa fun xe hxe=>?_|refine sb (fun hq=>?_) fun hq=>?_|exact aa)
      (try any_goals(first|exact absurd trivial hq|exact absurd rfl hq|exact absurd hq (by omega)|(exfalso;simp at hq;done)))
      exact⟨j+1,by omega,by omega,by rw[←hst];rfl⟩
     ·rw[if_neg (fun h=>hd (hiw.1 h.2).2)] at hsn
      have hsk:=hsk hsn
      (repeat' first|refine st ?_|refine sa fun xe hxe=>?_|refine sb (fun hq=>?_) fun hq=>?_|exact aa)
      (try any_goals(first|exact absurd trivial hq|exact absurd rfl hq|exact absurd hq (by omega)|(exfalso;simp at hq;done)))
      exact⟨j+1,by omega,by omega,by rw[←hsk];rfl⟩
    ·rw[if_neg (fun h=>ho h.1)] at hsn
     have hsk:=hsk hsn
     (repeat' first|refine st ?_|refine sa fun xe hxe=>?_|refine sb (fun hq=>?_) fun hq=>?_|exact aa)
     (try any_goals(first|exact absurd trivial hq|exact absurd rfl hq|exact absurd hq (by omega)|(exfalso;simp at hq;done)))
     exact⟨j+1,by omega,by omega,by rw[←hsk];rfl⟩
   ·rw[decide_eq_false hr] at hpf
    rw[if_neg (fun h=>hr (hiw.1 h.2).1)] at hsn
    have hsk:=hsk hsn
    (repeat' first|refine st ?_|refine sa fun xe hxe=>?_|refine sb (fun hq=>?_) fun hq=>?_|exact aa)
    (try any_goals(first|exact absurd trivial hq|exact absurd rfl hq|exact absurd hq (by omega)|(exfalso;simp at hq;done)))
    exact⟨j+1,by omega,by omega,by rw[←hsk];rfl⟩
  ·obtain rfl:j=g.length:=by omega
   have hend:=Jz g l ws w
   rw[←htk] at hend
   rw[hend]
   (repeat' first|refine st ?_|refine sa fun xe hxe=>?_|refine sb (fun hq=>?_) fun hq=>?_|exact aa)
   (try any_goals(first|exact absurd trivial hq|exact absurd rfl hq|exact absurd hq (by omega)|(exfalso;simp at hq;done)))
   exact⟨i+1,by omega,by omega,rfl⟩
 ·obtain rfl:i=W.length:=by omega
  rw[iN]
  (repeat' first|refine st ?_|refine sa fun xe hxe=>?_|refine sb (fun hq=>?_) fun hq=>?_|exact aa)
  (try any_goals(first|exact absurd trivial hq|exact absurd rfl hq|exact absurd hq (by omega)|(exfalso;simp at hq;done)))
  exact⟨rfl,rfl⟩
theorem B7 (xs:List Int)(w:Int)(n:Nat):(yL xs w n).length≤n:=by
 unfold yL
 rw[az]
 exact cu (my _ _) (by simp)
theorem pW (xs:List Int):∀m:Nat,(jO xs m).length≤m*xs.length
 |0=>by simp[jO]
 |m+1=>by
  rw[te,aP]
  have h1:=pW xs m
  have h2:=B7 xs ((m+1:Nat):Int) xs.length
  rw[Nat.succ_mul]
  omega
theorem Ma {xs:List Int}{w:Int}{n:Nat}:∀x∈yL xs w n,0≤x∧x<n:=by
 intro x hx
 obtain⟨i,hi,rfl⟩:=aB.1 hx
 have:=eM.1 (eL.1 hi).1
 omega
theorem Gp {xs:List Int}{m:Nat}:∀x∈jO xs m,0≤x∧x<xs.length:=by
 intro x hx
 obtain⟨w,-,hw⟩:=dZ.1 hx
 exact Ma x hw
theorem Ny (c:List Int)(g:List Vtx)(l:List Int)(hg:GraOK c g)(hgl:g.length≤10000)(hl:leaS c l=true):ag Tryz.prog 92 [.lst (.int .i64) c,.lst .vtx g,.lst (.int .i64) l] [] (.lst (.int .i64) (jO (g.map (wvk g l (cmt c g l l.length).1)) l.length)) []:=by
 have hll:=(bR.1 hl).2
 have hW:=Nx c g l hg (by omega) hl
 have hxl:(g.map (wvk g l (cmt c g l l.length).1)).length=g.length:=by simp
 generalize g.map (wvk g l (cmt c g l l.length).1)=xs at *
 refine ab aj Tryz.func92 rfl rfl true 0 4 rfl rfl rfl rfl fun K hK hb1 hb2=>?_;simp only[ae,enc,Nat.reduceAdd]
 clear hb1 hb2
 (repeat' first|refine st ?_|refine sa fun xe hxe=>?_|refine sb (fun hq=>?_) fun hq=>?_|refine cr (hW) ?_|exact aa)
 clear hW
 refine ah hK [] [1,2,7,8,9] (fun m:Nat=>⟨[(1,.lst .vtx g),(2,.lst (.int .i64) l),(7,.ref 4),(8,.lst (.int .i64) xs),(9,.int .i64 ((m:Int)+1))],[(4,.row 3 (.int .i64) (jO xs m))],5⟩) (fun m=>m≤l.length) (fun m=>l.length-m) 0 (aW _) rfl ?_
 intro m hm
 have hsl:=pW xs m
 have hsl2:(jO xs m).length≤150000:=by
  refine cu hsl ?_
  rw[hxl]
  exact cu (Nat.mul_le_mul (show m≤15 by omega) hgl) (by omega)
 have hsn:=te xs m
 by_cases hlt:m<l.length
 ·have e1:(((m+1:Nat)):Int)=(m:Int)+1:=by omega
  rw[e1] at hsn
  generalize hA:jO xs m=A at *
  (repeat' first|refine st ?_|refine sa fun xe hxe=>?_|refine sb (fun hq=>?_) fun hq=>?_|exact aa)
  refine ah hK [] [1,2,7,8,9,10] (fun j:Nat=>⟨[(1,.lst .vtx g),(2,.lst (.int .i64) l),(7,.ref 4),(8,.lst (.int .i64) xs),(9,.int .i64 ((m:Int)+1)),(10,.int .i64 (j:Int))],[(4,.row 3 (.int .i64) (A++yL xs ((m:Int)+1) j))],5⟩) (fun j=>j≤g.length) (fun j=>g.length-j) 0 (aW _) (by rw[show yL xs ((m:Int)+1) 0=[] from rfl,gw];rfl) ?_
  intro j hj
  have hjl:=B7 xs ((m:Int)+1) j
  have hal:(A++yL xs ((m:Int)+1) j).length=A.length+(yL xs ((m:Int)+1) j).length:=by simp
  by_cases hjlt:j<g.length
  ·have hxe:xs[j]?=some xs[j]:=am (by omega)
   have hsj:=Gq (w:=(m:Int)+1) hxe
   generalize xs[j]=x at *
   by_cases hx:x=(m:Int)+1
   ·rw[if_pos hx] at hsj
    generalize hB:A++yL xs ((m:Int)+1) j=B at *
    (repeat' first|refine st ?_|refine sa fun xe hxe=>?_|refine sb (fun hq=>?_) fun hq=>?_|exact aa)
    (try any_goals(first|exact absurd trivial hq|exact absurd rfl hq|exact absurd hq (by omega)|(exfalso;simp at hq;done)))
    exact⟨j+1,by omega,by omega,by rw[hsj,←bH,hB];rfl⟩
   ·rw[if_neg hx] at hsj
    generalize hB:A++yL xs ((m:Int)+1) j=B at *
    (repeat' first|refine st ?_|refine sa fun xe hxe=>?_|refine sb (fun hq=>?_) fun hq=>?_|exact aa)
    (try any_goals(first|exact absurd trivial hq|exact absurd rfl hq|exact absurd hq (by omega)|(exfalso;simp at hq;done)))
    exact⟨j+1,by omega,by omega,by rw[hsj,hB];rfl⟩
  ·obtain rfl:j=g.length:=by omega
   rw[←hxl,←hsn]
   (repeat' first|refine st ?_|refine sa fun xe hxe=>?_|refine sb (fun hq=>?_) fun hq=>?_|exact aa)
   (try any_goals(first|exact absurd trivial hq|exact absurd rfl hq|exact absurd hq (by omega)|(exfalso;simp at hq;done)))
   exact⟨m+1,by omega,by omega,by rw[e1]⟩
 ·obtain rfl:m=l.length:=by omega
  (repeat' first|refine st ?_|refine sa fun xe hxe=>?_|refine sb (fun hq=>?_) fun hq=>?_|exact aa)
  (try any_goals(first|exact absurd trivial hq|exact absurd rfl hq|exact absurd hq (by omega)|(exfalso;simp at hq;done)))
  exact⟨rfl,rfl⟩
end Go.Proofs.YtpefhoohfkeflacGreatDoor.Am
namespace Go.Proofs.YtpefhoohfkeflacGreatDoor.Am
open Go
attribute [local irreducible] Mk ci Ari fB mA ju b9 cR iT fo At ag
set_option maxRecDepth 10000
def wA (k:Int)(m i:Nat):Evt:=⟨k,m,i,v0⟩
def wz (k:Int)(w:Wrl)(i:Nat):Nat→Wrl
 |0=>w
 |m+1=>jt (wz k w i m) (wA k m i)
def oc (k:Int)(w:Wrl):Nat→Wrl
 |0=>w
 |i+1=>wz k (oc k w i) i (oc k w i).com.length
def Hi (k:Int)(w:Wrl)(i:Nat)(b:Bool):Nat→Bool
 |0=>b
 |m+1=>Hi k w i b m||tJ (wz k w i m) (wA k m i)
def AM (k:Int)(w:Wrl):Nat→Bool
 |0=>false
 |i+1=>Hi k (oc k w i) i (AM k w i) (oc k w i).com.length
theorem vb {k:Int}{w:Wrl}(h:WOK w)(i:Nat):∀m,WOK (wz k w i m)
 |0=>h
 |m+1=>Aa (vb h i m) _
theorem zi {k:Int}{w:Wrl}(h:WOK w):∀i,WOK (oc k w i)
 |0=>h
 |i+1=>vb (zi h i) i _
theorem Nz (w:Wrl)(m i:Nat):jt w (wA 2 m i)=eR w m i:=rfl
theorem NA (w:Wrl)(m i:Nat):jt w (wA 3 m i)=dB w m i:=rfl
theorem Ed (w:Wrl)(i:Nat):∀m,wz 2 w i m=iK w i m
 |0=>rfl
 |m+1=>by rw[wz,Nz,Ed w i m];rfl
theorem Ef (w:Wrl):∀i,oc 2 w i=dd w i
 |0=>rfl
 |i+1=>by rw[oc,Ed,Ef w i];rfl
theorem A2 (w:Wrl)(i:Nat):∀m,wz 3 w i m=dM w i m
 |0=>rfl
 |m+1=>by rw[wz,NA,A2 w i m];rfl
theorem A3 (w:Wrl):∀i,oc 3 w i=cd w i
 |0=>rfl
 |i+1=>by rw[oc,A2,A3 w i];rfl
theorem HB {k:Int}(hk:k=2∨k=3)(w:Wrl)(i m:Nat):(wz k w i m).com=w.com∧(wz k w i m).props.length=w.props.length:=by
 rcases hk with rfl|rfl
 ·rw[Ed]
  exact nd w i m
 ·rw[A2]
  exact⟨(kh w i m).1,by rw[(kh w i m).2]⟩
theorem HC {k:Int}(hk:k=2∨k=3)(w:Wrl)(i:Nat):(oc k w i).com=w.com∧(oc k w i).props.length=w.props.length:=by
 rcases hk with rfl|rfl
 ·rw[Ef]
  exact fA w i
 ·rw[A3]
  exact⟨(eG w i).1,by rw[(eG w i).2]⟩
theorem MW {w:Wrl}(h:WOK w)(m i:Nat):tJ w (wA 3 m i)=decide (gf w<gf (dB w m i)):=by
 have e:tJ w (wA 3 m i)=fa w m i:=rfl
 rw[e]
 rcases lp h m i with⟨h1,h2⟩|⟨h1,h2⟩
 ·rw[h1,h2];simp
 ·rw[h1,h2];simp
theorem JH {w:Wrl}(h:WOK w)(i:Nat){b:Bool}{n:Nat}(hn:n≤gf w)(hb:b=decide (n<gf w)):∀m,Hi 3 w i b m=decide (n<gf (dM w i m))∧n≤gf (dM w i m)
 |0=>⟨hb,hn⟩
 |m+1=>by
  obtain⟨h1,h2⟩:=JH h i hn hb m
  have h3:=lN h i m
  rw[Hi,h1,A2,MW h3]
  have h4:gf (dM w i m)≤gf (dM w i (m+1)):=by
   rcases lp h3 m i with⟨-,e⟩|⟨-,e⟩
   ·show _≤gf (dB _ _ _);rw[e];exact ax _
   ·show _≤gf (dB _ _ _);rw[e];omega
  refine⟨?_,by omega⟩
  rw[d6,cN,decide_eq_true_iff,decide_eq_true_iff,decide_eq_true_iff]
  show _∨gf (dM w i m)<gf (dM w i (m+1))↔_
  omega
theorem JI {w:Wrl}(h:WOK w):∀i,AM 3 w i=decide (gf w<gf (cd w i))∧gf w≤gf (cd w i)
 |0=>⟨by rw[AM,cd];simp,ax _⟩
 |i+1=>by
  obtain⟨h1,h2⟩:=JI h i
  have:=JH (kC h i) i h2 h1 (cd w i).com.length
  rw[AM,A3]
  exact this
abbrev Xm:Type:=List (Option (List Int))×List PplM
theorem A8 (w:Wrl)(xss:List (Option (List Int)))(ms:List PplM)(hw:WOK w)(hR:Rel w.props xss ms){k:Int}(hk:k=2∨k=3)(m i:Nat):∃x:Xm,(Rel (jt w (wA k m i)).props x.1 x.2∧xss.length≤x.1.length)∧ag Tryz.prog 147 [.ptr 4 0,tM (wA k m i)] (rW 0 w xss ms) (.bool (tJ w (wA k m i))) (rW 0 (jt w (wA k m i)) x.1 x.2):=by
 refine vF w xss ms hw hR (wA k m i) ?_
 unfold wF wA
 rcases hk with rfl|rfl<;>rfl
theorem Ee {k:Int}(hk:k=2∨k=3){w:Wrl}(hw:WOK w)(i:Nat){x:Xm}(hR:Rel w.props x.1 x.2):∀m,∃y:Xm,Rel (wz k w i m).props y.1 y.2∧x.1.length≤y.1.length
 |0=>⟨x,hR,ax _⟩
 |m+1=>by
  obtain⟨y,h1,h2⟩:=Ee hk hw i hR m
  obtain⟨z,⟨h3,h4⟩,-⟩:=A8 _ y.1 y.2 (vb hw i m) h1 hk m i
  exact⟨z,h3,cu h2 h4⟩
theorem Eg {k:Int}(hk:k=2∨k=3){w:Wrl}(hw:WOK w){x:Xm}(hR:Rel w.props x.1 x.2):∀i,∃y:Xm,Rel (oc k w i).props y.1 y.2∧x.1.length≤y.1.length
 |0=>⟨x,hR,ax _⟩
 |i+1=>by
  obtain⟨y,h1,h2⟩:=Eg hk hw hR i
  obtain⟨z,h3,h4⟩:=Ee hk (zi hw i) i h1 (oc k w i).com.length
  exact⟨z,h3,cu h2 h4⟩
theorem CF {w u:Wrl}(h:u.views.length=w.views.length):bz (VB.fvari 143 217 (.ob .vtx) (w.views.map aT))≤bz (VB.fvari 143 217 (.ob .vtx) (u.views.map aT)):=by
 show (w.views.map aT).length≤(u.views.map aT).length
 rw[az,az,h]
 exact ax _
theorem vo {xs ys:List (Option (List Int))}(h:xs.length≤ys.length):bz (VB.frowx 3 (.int .i64) xs)≤bz (VB.frowx 3 (.int .i64) ys):=h
set_option maxHeartbeats 1000000 in
theorem Bp {k:Int}(hk:k=2∨k=3)(w:Wrl)(x0:Xm)(hw:WOK w)(hR:Rel w.props x0.1 x0.2):∃x:Xm,(Rel (oc k w w.props.length).props x.1 x.2∧x0.1.length≤x.1.length)∧ag Tryz.prog 149 [.ptr 4 0,.int .i64 k] (rW 0 w x0.1 x0.2) (.bool (AM k w w.props.length)) (rW 0 (oc k w w.props.length) x.1 x.2):=by
 obtain⟨y0,hy0⟩:=Eg hk hw hR w.props.length
 suffices hs:∃r hout,(∃x:Xm,(Rel (oc k w w.props.length).props x.1 x.2∧x0.1.length≤x.1.length)∧r= .bool (AM k w w.props.length)∧hout=rW 0 (oc k w w.props.length) x.1 x.2)∧ag Tryz.prog 149 [.ptr 4 0,.int .i64 k] (rW 0 w x0.1 x0.2) r hout by
  obtain⟨r,hout,⟨v,hv,rfl,rfl⟩,h⟩:=hs
  exact⟨v,hv,h⟩
 refine lL bS Tryz.func149 rfl rfl false 3 7 rfl rfl rfl rfl (R:=fun r hout=>∃x:Xm,(Rel (oc k w w.props.length).props x.1 x.2∧x0.1.length≤x.1.length)∧r= .bool (AM k w w.props.length)∧hout=rW 0 (oc k w w.props.length) x.1 x.2) (r0:=.bool (AM k w w.props.length)) (hout0:=rW 0 (oc k w w.props.length) y0.1 y0.2) (⟨y0,hy0,rfl,rfl⟩) fun K hK hb1 hb2=>?_;simp only[ae,enc,Nat.reduceAdd]
 clear hb1 hb2
 have h7:=hw.len
 have hpl:=hw.plen
 have hml:=hR.len
 (repeat' first|refine cg ?_|refine sa fun xe hxe=>?_|refine sb (fun hq=>?_) fun hq=>?_|exact aa)
 refine ah hK [] [0,1,5,12,13] (fun x:Nat×Xm=>⟨[(0,.ptr 4 0),(1,.int .i64 k),(5,.bool (AM k w x.1)),(12,.int .i64 w.props.length),(13,.int .i64 (x.1:Int))],rW 0 (oc k w x.1) x.2.1 x.2.2,7⟩) (fun x=>x.1≤w.props.length∧Rel (oc k w x.1).props x.2.1 x.2.2∧x0.1.length≤x.2.1.length) (fun x=>w.props.length-x.1) (0,x0) ⟨aW _,hR,ax _⟩ (by rw[←hml];rfl) ?_
 rintro⟨i,xs,ms⟩ ⟨hi,hRi,hxi⟩
 dsimp only at hi hRi hxi⊢
 have hoi:=zi (k:=k) hw i
 have hci:=HC hk w i
 have hsu:oc k w (i+1)=wz k (oc k w i) i (oc k w i).com.length:=rfl
 have hsc:AM k w (i+1)=Hi k (oc k w i) i (AM k w i) (oc k w i).com.length:=rfl
 by_cases hlt:i<w.props.length
 ·generalize oc k w i=y at *
  generalize AM k w i=b at *
  have hyc:y.com.length=w.com.length:=by rw[hci.1]
  (repeat' first|refine cg ?_|refine sa fun xe hxe=>?_|refine sb (fun hq=>?_) fun hq=>?_|exact aa)
  refine ah hK [] [0,1,5,6,12,13,20,21] (fun x:Nat×Xm=>⟨[(0,.ptr 4 0),(1,.int .i64 k),(5,.bool (Hi k y i b x.1)),(6,.int .i64 (i:Int)),(12,.int .i64 w.props.length),(13,.int .i64 (i:Int)),(20,.int .i64 y.com.length),(21,.int .i64 (x.1:Int))],rW 0 (wz k y i x.1) x.2.1 x.2.2,7⟩) (fun x=>x.1≤y.com.length∧Rel (wz k y i x.1).props x.2.1 x.2.2∧x0.1.length≤x.2.1.length) (fun x=>y.com.length-x.1) (0,xs,ms) ⟨aW _,hRi,hxi⟩ rfl ?_
  rintro⟨m,xs,ms⟩ ⟨hm,hRm,hxm⟩
  dsimp only at hm hRm hxm⊢
  have hom:=vb (k:=k) hoi i m
  have hcm:=HB hk y i m
  have hmu:wz k y i (m+1)=jt (wz k y i m) (wA k m i):=rfl
  have hmc:Hi k y i b (m+1)=(Hi k y i b m||tJ (wz k y i m) (wA k m i)):=rfl
  by_cases hml:m<y.com.length
  ·generalize wz k y i m=z at *
   generalize Hi k y i b m=b2 at *
   obtain⟨⟨xs',ms'⟩,⟨hR',hx⟩,hC⟩:=A8 z xs ms hom hRm hk m i
   have hF0:=HJ (w:=z) (e:=wA k m i)
   have hF1:=vo hx
   have hC:ag Tryz.prog 147 [.ptr 4 0,.agg [.int .i64 k,.int .i64 (m:Int),.int .i64 (i:Int),.int .i64 0,.int .i64 0,.lst (.int .i64) [],.int .i64 0]] (rW 0 z xs ms) (.bool (tJ z (wA k m i))) (rW 0 (jt z (wA k m i)) xs' ms'):=hC
   cases hcg:tJ z (wA k m i)
   ·rw[hcg] at hC hmc
    rw[j9] at hmc
    (repeat' first|refine cg ?_|refine sa fun xe hxe=>?_|refine sb (fun hq=>?_) fun hq=>?_|refine cr (hC) ?_|exact aa)
    refine⟨(m+1,xs',ms'),⟨by dsimp only;omega,by dsimp only;rw[hmu];exact hR',by dsimp only at hx⊢;omega⟩,by dsimp only;omega,?_⟩
    dsimp only
    rw[hmu,hmc]
    rfl
   ·rw[hcg] at hC hmc
    rw[Bool.or_true] at hmc
    (repeat' first|refine cg ?_|refine sa fun xe hxe=>?_|refine sb (fun hq=>?_) fun hq=>?_|refine cr (hC) ?_|exact aa)
    refine⟨(m+1,xs',ms'),⟨by dsimp only;omega,by dsimp only;rw[hmu];exact hR',by dsimp only at hx⊢;omega⟩,by dsimp only;omega,?_⟩
    dsimp only
    rw[hmu,hmc]
    rfl
  ·obtain rfl:m=y.com.length:=by omega
   rw[←hsu] at hRm
   rw[←hsu,←hsc]
   generalize hz:oc k w (i+1)=z at *
   generalize hb:AM k w (i+1)=b2 at *
   (repeat' first|refine cg ?_|refine sa fun xe hxe=>?_|refine sb (fun hq=>?_) fun hq=>?_|exact aa)
   refine⟨(i+1,xs,ms),⟨by dsimp only;omega,by dsimp only;rw[hz];exact hRm,hxm⟩,by dsimp only;omega,?_⟩
   dsimp only
   rw[hz,hb]
   rfl
 ·obtain rfl:i=w.props.length:=by omega
  (repeat' first|refine cg ?_|refine sa fun xe hxe=>?_|refine sb (fun hq=>?_) fun hq=>?_|exact aa)
  exact⟨(xs,ms),⟨hRi,hxi⟩,rfl,rfl⟩
theorem Fe (w:Wrl)(x0:Xm)(hw:WOK w)(hR:Rel w.props x0.1 x0.2):∃x:Xm,(Rel (iI w).props x.1 x.2∧x0.1.length≤x.1.length)∧ag Tryz.prog 149 [.ptr 4 0,.int .i64 2] (rW 0 w x0.1 x0.2) (.bool (AM 2 w w.props.length)) (rW 0 (iI w) x.1 x.2):=by
 have h:=Bp (k:=2) (.inl rfl) w x0 hw hR
 rw[Ef] at h
 exact h
theorem zA (w:Wrl)(x0:Xm)(hw:WOK w)(hR:Rel w.props x0.1 x0.2):∃x:Xm,(Rel (pass w).props x.1 x.2∧x0.1.length≤x.1.length)∧ag Tryz.prog 149 [.ptr 4 0,.int .i64 3] (rW 0 w x0.1 x0.2) (.bool (decide (gf w<gf (pass w)))) (rW 0 (pass w) x.1 x.2):=by
 have h:=Bp (k:=3) (.inr rfl) w x0 hw hR
 rw[A3,(JI hw _).1] at h
 exact h
theorem Mm:∀(n:Nat) {w:Wrl},1519-gf w≤n→∀{x:Xm},WOK w→Rel w.props x.1 x.2→∃y:Xm,Rel (db w).props y.1 y.2∧x.1.length≤y.1.length:=by
 intro n
 induction n with
 |zero=>
  intro w hn x hw hR
  obtain⟨y,h,-⟩:=zA w x hw hR
  rw[db]
  split
  ·omega
  ·exact⟨y,h⟩
 |succ n ih=>
  intro w hn x hw hR
  obtain⟨y,⟨h1,h2⟩,-⟩:=zA w x hw hR
  rw[db]
  split
  ·obtain⟨z,h3,h4⟩:=ih (by omega) (oJ hw) h1
   exact⟨z,h3,cu h2 h4⟩
  ·exact⟨y,h1,h2⟩
theorem wa:∀(n:Nat) {w:Wrl},1519-gf w≤n→(db w).com=w.com:=by
 intro n
 induction n with
 |zero=>
  intro w hn
  rw[db]
  split
  ·omega
  ·exact(eG w _).1
 |succ n ih=>
  intro w hn
  rw[db]
  split
  ·rw[ih (by omega)];exact(eG w _).1
  ·exact(eG w _).1
theorem ja {w u:Wrl}(hw:WOK w)(hu:WOK u)(h:u.com=w.com):u.views.length=w.views.length:=by rw[hu.vlen,hw.vlen,h]
set_option maxHeartbeats 1000000 in
theorem zG (w:Wrl)(x0:Xm)(hw:WOK w)(hR:Rel w.props x0.1 x0.2):∃x:Xm,(Rel (db w).props x.1 x.2∧x0.1.length≤x.1.length)∧ag Tryz.prog 148 [.ptr 4 0] (rW 0 w x0.1 x0.2) (.tup []) (rW 0 (db w) x.1 x.2):=by
 obtain⟨y0,hy0⟩:=Mm _ (ax _) hw hR
 suffices hs:∃r hout,(∃x:Xm,(Rel (db w).props x.1 x.2∧x0.1.length≤x.1.length)∧r= .tup []∧hout=rW 0 (db w) x.1 x.2)∧ag Tryz.prog 148 [.ptr 4 0] (rW 0 w x0.1 x0.2) r hout by
  obtain⟨r,hout,⟨v,hv,rfl,rfl⟩,h⟩:=hs
  exact⟨v,hv,h⟩
 refine lL bS Tryz.func148 rfl rfl false 3 7 rfl rfl rfl rfl (R:=fun r hout=>∃x:Xm,(Rel (db w).props x.1 x.2∧x0.1.length≤x.1.length)∧r= .tup []∧hout=rW 0 (db w) x.1 x.2) (r0:=.tup []) (hout0:=rW 0 (db w) y0.1 y0.2) (⟨y0,hy0,rfl,rfl⟩) fun K hK hb1 hb2=>?_;simp only[ae,enc,Nat.reduceAdd]
 clear hb1 hb2
 (repeat' first|refine cg ?_|refine sa fun xe hxe=>?_|refine sb (fun hq=>?_) fun hq=>?_|exact aa)
 refine ah hK [] [0] (fun x:Wrl×Xm=>⟨[(0,.ptr 4 0)],rW 0 x.1 x.2.1 x.2.2,7⟩) (fun x=>WOK x.1∧(Rel x.1.props x.2.1 x.2.2∧x0.1.length≤x.2.1.length)∧x.1.com=w.com∧db x.1=db w) (fun x=>1520-gf x.1) (w,x0) ⟨hw,⟨hR,ax _⟩,rfl,rfl⟩ rfl ?_
 rintro⟨u,xs,ms⟩ ⟨hu,⟨hRu,hxu⟩,huc,hus⟩
 dsimp only at hu hRu hxu huc hus⊢
 obtain⟨⟨xs',ms'⟩,⟨hR',hx⟩,hC⟩:=zA u (xs,ms) hu hRu
 dsimp only at hR' hx hC
 have hpo:=oJ hu
 have hpc:(pass u).com=u.com:=(eG u _).1
 have hF0:=CF (ja hu hpo hpc)
 have hF1:=vo hx
 have htl:=wk hpo
 have htx:=wk hu
 have e1:gf u<gf (pass u)→db u=db (pass u):=fun hh=>by
  rw[db]
  exact dif_pos ⟨hh,htl⟩
 have e2:¬gf u<gf (pass u)→db u=pass u:=fun hh=>by
  rw[db]
  exact dif_neg fun h9=>hh h9.1
 generalize pass u=z at *
 by_cases hh:gf u<gf z
 ·rw[decide_eq_true hh] at hC
  (repeat' first|refine cg ?_|refine sa fun xe hxe=>?_|refine sb (fun hq=>?_) fun hq=>?_|refine cr (hC) ?_|exact aa)
  exact⟨(z,xs',ms'),⟨hpo,⟨hR',by dsimp only at hx⊢;omega⟩,by rw[hpc];exact huc,by rw[←e1 hh];exact hus⟩,by dsimp only;omega,rfl⟩
 ·rw[decide_eq_false hh] at hC
  have e3:=e2 hh
  (repeat' first|refine cg ?_|refine sa fun xe hxe=>?_|refine sb (fun hq=>?_) fun hq=>?_|refine cr (hC) ?_|exact aa)
  refine⟨(xs',ms'),⟨?_,?_⟩,rfl,?_⟩
  ·rw[←hus,e3];exact hR'
  ·dsimp only;omega
  ·rw[←hus,e3]
theorem wT {w:Wrl}:∀r,(bg w r).com=w.com
 |0=>wa _ (ax _)
 |r+1=>by
  have h1:∀u:Wrl,(gm u).com=u.com:=fun u=>(wa _ (ax _)).trans (fA u _).1
  show (gm _).com=_
  rw[h1,mZ,h1]
  exact wT r
set_option maxHeartbeats 4000000 in
theorem H0 (w:Wrl)(r:Int)(hl:∀g∈w.views,g.length≤2000000)(hr:-1000000≤r∧r≤1000000):ag Tryz.prog 112 [bc w,.int .i64 r] [] (if decide (0≤r∧r≤12) && kP w then bc (bg w r.toNat) else Jx) []:=by
 have he:=ng w
 refine ab bS Tryz.func112 rfl rfl true 0 4 rfl rfl rfl rfl fun K hK hb1 hb2=>?_;simp only[ae,enc,Nat.reduceAdd]
 clear hb1 hb2
 by_cases hr0:r<0
 ·(repeat' first|refine cg ?_|refine sa fun xe hxe=>?_|refine sb (fun hq=>?_) fun hq=>?_|exact aa)
  rw[decide_eq_false (p:=0≤r∧r≤12) (by omega)]
  exact⟨rfl,rfl⟩
 by_cases hr1:12<r
 ·(repeat' first|refine cg ?_|refine sa fun xe hxe=>?_|refine sb (fun hq=>?_) fun hq=>?_|exact aa)
  rw[decide_eq_false (p:=0≤r∧r≤12) (by omega)]
  exact⟨rfl,rfl⟩
 rw[decide_eq_true (p:=0≤r∧r≤12) (by omega),d7]
 cases hp:gk w
 ·have hO:=Fa w hl hp
  rw[hp,iy] at he
  (repeat' first|refine cg ?_|refine sa fun xe hxe=>?_|refine sb (fun hq=>?_) fun hq=>?_|refine cr (hO) ?_|exact aa)
  rw[he]
  exact⟨rfl,rfl⟩
 have hO:=Fb w hl hp
 cases hs:kP w
 ·rw[hs] at hO
  (repeat' first|refine cg ?_|refine sa fun xe hxe=>?_|refine sb (fun hq=>?_) fun hq=>?_|refine cr (hO) ?_|exact aa)
  exact⟨rfl,rfl⟩
 rw[hs] at hO
 have hw:=iS.1 hs
 obtain⟨⟨xs0,ms0⟩,⟨hR0,hx0⟩,hC0⟩:=zG w (w.props.map fun p=>some p.members,tS w.props) hw (LZ _)
 dsimp only at hR0 hx0 hC0
 have hF0:=CF (ja hw (kg hw 0) (wT 0))
 have hF1:=vo hx0
 rw[show db w=bg w 0 from rfl] at hR0 hC0
 (repeat' first|refine cg ?_|refine sa fun xe hxe=>?_|refine sb (fun hq=>?_) fun hq=>?_|refine cr (hO) ?_|refine cr (hC0) ?_|exact aa)
 clear hO hC0 hF0 hF1
 refine ah hK [] [4,5,26,27] (fun x:Nat×Xm=>⟨[(4,.ptr 4 0),(5,.ptr 5 0),(26,.int .i64 r),(27,.int .i64 (x.1:Int))],rP (bg w x.1).com (bg w x.1).lead (bg w x.1).bad ((bg w x.1).views.map aT) x.2.1 x.2.2,8⟩) (fun x=>x.1≤r.toNat∧Rel (bg w x.1).props x.2.1 x.2.2) (fun x=>r.toNat-x.1) (0,xs0,ms0) ⟨aW _,hR0⟩ (by(conv=>whnf);rfl) ?_
 rintro⟨k,xs,ms⟩ ⟨hk,hRk⟩
 dsimp only at hk hRk⊢
 have hco:=kg hw k
 have hcs:bg w (k+1)=gm (dF (gm (bg w k)) k (gm (bg w k)).com.length):=rfl
 have h1c:∀u:Wrl,(gm u).com=u.com:=fun u=>(wa _ (ax _)).trans (fA u _).1
 by_cases hlt:(k:Int)<r
 ·generalize bg w k=x at *
  obtain⟨⟨xs1,ms1⟩,⟨hR1,hx1⟩,hC1⟩:=Fe x (xs,ms) hco hRk
  dsimp only at hR1 hx1 hC1
  have hvo:WOK (iI x):=gL hco x.props.length
  have hvc:(iI x).com=x.com:=(fA x _).1
  obtain⟨⟨xs2,ms2⟩,⟨hR2,hx2⟩,hC2⟩:=zG (iI x) (xs1,ms1) hvo hR1
  dsimp only at hR2 hx2 hC2
  have hro:=oS hco
  have hF0:=CF (ja hco hvo hvc)
  have hF1:=vo hx1
  have hF2:=CF (w:=iI x) (ja hvo hro ((h1c x).trans hvc.symm))
  have hF3:=vo hx2
  rw[show db (iI x)=gm x from rfl] at hR2 hC2
  have hxc:=h1c x
  generalize iI x=x1 at *
  generalize gm x=y at *
  (repeat' first|refine cg ?_|refine sa fun xe hxe=>?_|refine sb (fun hq=>?_) fun hq=>?_|refine cr (hC1) ?_|refine cr (hC2) ?_|exact aa)
  clear hC1 hC2 hF0 hF1 hF2 hF3
  refine ah hK [] [4,5,7,26,27,38,39] (fun q:Nat×Xm=>⟨[(4,.ptr 4 0),(5,.ptr 5 0),(7,.int .i64 (k:Int)),(26,.int .i64 r),(27,.int .i64 (k:Int)),(38,.int .i64 y.com.length),(39,.int .i64 (q.1:Int))],rP (dF y k q.1).com (dF y k q.1).lead (dF y k q.1).bad ((dF y k q.1).views.map aT) q.2.1 q.2.2,8⟩) (fun q=>q.1≤y.com.length∧Rel (dF y k q.1).props q.2.1 q.2.2) (fun q=>y.com.length-q.1) (0,xs2,ms2) ⟨aW _,hR2⟩ (by(conv=>whnf);rfl) ?_
  rintro⟨m,xs3,ms3⟩ ⟨hm,hR3⟩
  dsimp only at hm hR3⊢
  have hdc:=mZ y k m
  have hdo:=oN hro k m
  have hyl:=hro.len
  have hds:dF y k (m+1)=eH (dF y k m) m (7*k+m):=rfl
  by_cases hml:m<y.com.length
  ·generalize dF y k m=z at *
   have hsd:jt z ⟨1,m,7*k+m,v0⟩=eH z m (7*k+m):=rfl
   have hF0:=HJ (w:=z) (e:=⟨1,m,7*k+m,v0⟩)
   rw[hsd] at hF0
   cases ha:wF z ⟨1,m,7*k+m,v0⟩
   ·obtain⟨⟨xs4,ms4⟩,⟨hR4,hx4⟩,hC4⟩:=vF z _ _ hdo hR3 ⟨1,m,7*k+m,v0⟩ ha
    have hcg:tJ z ⟨1,m,7*k+m,v0⟩=false:=rfl
    rw[hsd] at hR4 hC4
    rw[hcg] at hC4
    have hF1:=vo hx4
    have hC4:ag Tryz.prog 147 [.ptr 4 0,.agg [.int .i64 1,.int .i64 (m:Int),.int .i64 (7*k+m),.int .i64 0,.int .i64 0,.lst (.int .i64) [],.int .i64 0]] (rW 0 z xs3 ms3) (.bool false) (rW 0 (eH z m (7*k+m)) xs4 ms4):=hC4
    generalize eH z m (7*k+m)=z2 at *
    (repeat' first|refine cg ?_|refine sa fun xe hxe=>?_|refine sb (fun hq=>?_) fun hq=>?_|refine cr (hC4) ?_|exact aa)
    refine⟨(m+1,xs4,ms4),⟨by dsimp only;omega,by dsimp only;rw[hds];exact hR4⟩,by dsimp only;omega,?_⟩
    dsimp only
    rw[hds]
    rfl
   ·obtain⟨⟨xs4,ms4⟩,⟨hR4,hx4⟩,hC4⟩:=Bn z _ _ hdo hR3 ⟨1,m,7*k+m,v0⟩ ha
    rw[hsd] at hR4 hC4
    have hF1:=vo hx4
    have hC4:ag Tryz.prog 147 [.ptr 4 0,.agg [.int .i64 1,.int .i64 (m:Int),.int .i64 (7*k+m),.int .i64 0,.int .i64 0,.lst (.int .i64) [],.int .i64 0]] (rW 0 z xs3 ms3) (.bool true) (NW 0 (eH z m (7*k+m)) xs4 ms4):=hC4
    generalize eH z m (7*k+m)=z2 at *
    (repeat' first|refine cg ?_|refine sa fun xe hxe=>?_|refine sb (fun hq=>?_) fun hq=>?_|refine cr (hC4) ?_|exact aa)
    refine⟨(m+1,xs4,ms4),⟨by dsimp only;omega,by dsimp only;rw[hds];exact hR4⟩,by dsimp only;omega,?_⟩
    dsimp only
    rw[hds]
    rfl
  ·obtain rfl:m=y.com.length:=by omega
   have hzc:(dF y k y.com.length).com.length=y.com.length:=by rw[hdc]
   generalize dF y k y.com.length=z at *
   obtain⟨⟨xs4,ms4⟩,⟨hR4,hx4⟩,hC4⟩:=Fe z (xs3,ms3) hdo hR3
   dsimp only at hR4 hx4 hC4
   have hvo4:WOK (iI z):=gL hdo z.props.length
   have hvc4:(iI z).com=z.com:=(fA z _).1
   obtain⟨⟨xs5,ms5⟩,⟨hR5,hx5⟩,hC5⟩:=zG (iI z) (xs4,ms4) hvo4 hR4
   dsimp only at hR5 hx5 hC5
   have hro4:=oS hdo
   have hF0:=CF (ja hdo hvo4 hvc4)
   have hF1:=vo hx4
   have hF2:=CF (w:=iI z) (ja hvo4 hro4 ((h1c z).trans hvc4.symm))
   have hF3:=vo hx5
   rw[show db (iI z)=gm z from rfl] at hR5 hC5
   generalize iI z=z1 at *
   generalize gm z=z2 at *
   (repeat' first|refine cg ?_|refine sa fun xe hxe=>?_|refine sb (fun hq=>?_) fun hq=>?_|refine cr (hC4) ?_|refine cr (hC5) ?_|exact aa)
   refine⟨(k+1,xs5,ms5),⟨by dsimp only;omega,by dsimp only;rw[hcs];exact hR5⟩,by dsimp only;omega,?_⟩
   dsimp only
   rw[hcs]
   rfl
 ·obtain rfl:k=r.toNat:=by omega
  have hW:=vM 0 (bg w r.toNat) xs ms hco hRk
  generalize bg w r.toNat=x at *
  (repeat' first|refine cg ?_|refine sa fun xe hxe=>?_|refine sb (fun hq=>?_) fun hq=>?_|refine cr (hW) ?_|exact aa)
  exact⟨rfl,rfl⟩
theorem ND (c:List Int)(g:List Vtx)(l:List Int):ag Tryz.prog 91 [.lst (.int .i64) c,.lst .vtx g,.lst (.int .i64) l] [] (.bool (Cl c g l)) []:=by
 have hG:=EL c g
 have hL:=JV c l
 have e:Cl c g l=(graS c g && leaS c l):=rfl
 rw[e]
 refine ab aj Tryz.func91 rfl rfl false 0 4 rfl rfl rfl rfl fun K hK hb1 hb2=>?_;simp only[ae,enc,Nat.reduceAdd]
 clear hb1 hb2
 cases hg:graS c g
 ·rw[hg] at hG
  (repeat' first|refine st ?_|refine sa fun xe hxe=>?_|refine sb (fun hq=>?_) fun hq=>?_|refine cr (hG) ?_|refine cr (hL) ?_|exact aa)
  exact⟨rfl,rfl⟩
 ·rw[hg] at hG
  (repeat' first|refine st ?_|refine sa fun xe hxe=>?_|refine sb (fun hq=>?_) fun hq=>?_|refine cr (hG) ?_|refine cr (hL) ?_|exact aa)
  exact⟨rfl,rfl⟩
noncomputable def ordS (c:List Int) (g:List Vtx) (l:List Int):List Slt:=if Cl c g l then(ordG c g l).map ip else[]
theorem NE (c:List Int)(g:List Vtx)(l:List Int)(hgl:g.length≤10000):ag Tryz.prog 46 [.lst (.int .i64) c,.lst .vtx g,.lst (.int .i64) l] [] (.lst .slt (ordS c g l)) []:=by
 have hO:=ND c g l
 refine ab aj Tryz.func46 rfl rfl true 0 4 rfl rfl rfl rfl fun K hK hb1 hb2=>?_;simp only[ae,enc,Nat.reduceAdd]
 clear hb1 hb2
 cases hw:Cl c g l
 ·rw[hw] at hO
  have e:ordS c g l=[]:=by rw[ordS,hw];rfl
  rw[e]
  (repeat' first|refine st ?_|refine sa fun xe hxe=>?_|refine sb (fun hq=>?_) fun hq=>?_|refine cr (hO) ?_|exact aa)
  exact⟨rfl,rfl⟩
 ·rw[hw] at hO
  obtain⟨hg,hl⟩:graS c g=true∧leaS c l=true:=by simpa[Cl] using hw
  have hok:=fT hg
  have hll:=(bR.1 hl).2
  have hL:=Ny c g l hok hgl hl
  have hso:=I6 (g:=g) hok.com l
  have e:ordS c g l=(ordG c g l).map ip:=by rw[ordS,hw];rfl
  have hsi:=Gp (xs:=g.map (wvk g l (cmt c g l l.length).1)) (m:=l.length)
  have hsl:=pW (g.map (wvk g l (cmt c g l l.length).1)) l.length
  rw[az] at hsi hsl
  have hsl2:(jO (g.map (wvk g l (cmt c g l l.length).1)) l.length).length≤150000:=cu hsl (cu (Nat.mul_le_mul hll hgl) (by omega))
  rw[e,←hso]
  generalize jO (g.map (wvk g l (cmt c g l l.length).1)) l.length=L at *
  (repeat' first|refine st ?_|refine sa fun xe hxe=>?_|refine sb (fun hq=>?_) fun hq=>?_|refine cr (hO) ?_|refine cr (hL) ?_|exact aa)
  clear hO hL
  refine ah hK [] [1,7,8,9] (fun i:Nat=>⟨[(1,.lst .vtx g),(7,.ref 4),(8,.lst (.int .i64) L),(9,.int .i64 (i:Int))],[(4,.row 67 .slt ((L.take i).map fun i=>ip (g.getD i.toNat v0)))],5⟩) (fun i=>i≤L.length) (fun i=>L.length-i) 0 (aW _) rfl ?_
  intro i hi
  by_cases hlt:i<L.length
  ·have hxe:L[i]?=some L[i]:=am hlt
   have h3:L.take (i+1)=L.take i++[L[i]]:=b8 hlt
   have hb:=hsi _ (bd hlt)
   generalize L[i]=x at *
   have hxg:g[x.toNat]?=some (g.getD x.toNat v0):=by rw[aq,am (by omega)];rfl
   have hrl:((L.take i).map fun i=>ip (g.getD i.toNat v0)).length=i:=by simp;omega
   have h4:(L.take (i+1)).map (fun i=>ip (g.getD i.toNat v0))=(L.take i).map (fun i=>ip (g.getD i.toNat v0))++[ip (g.getD x.toNat v0)]:=by rw[h3,ce];rfl
   generalize hA:((L.take i).map fun i=>ip (g.getD i.toNat v0))=A at *
   generalize g.getD x.toNat v0=v at *
   (repeat' first|refine st ?_|refine sa fun xe hxe=>?_|refine sb (fun hq=>?_) fun hq=>?_|exact aa)
   (try any_goals(first|exact absurd trivial hq|exact absurd rfl hq|exact absurd hq (by omega)|(exfalso;simp at hq;done)))
   exact⟨i+1,by omega,by omega,by rw[h4];rfl⟩
  ·obtain rfl:i=L.length:=by omega
   rw[iN]
   (repeat' first|refine st ?_|refine sa fun xe hxe=>?_|refine sb (fun hq=>?_) fun hq=>?_|exact aa)
   (try any_goals(first|exact absurd trivial hq|exact absurd rfl hq|exact absurd hq (by omega)|(exfalso;simp at hq;done)))
   exact⟨rfl,rfl⟩
noncomputable def wo (w:Wrl) (m:Int):List Slt:=if kP w && jS m 0 ((w.com.length:Int)-1) then ordS w.com (w.views.getD m.toNat []) w.lead else[]
end Go.Proofs.YtpefhoohfkeflacGreatDoor.Am
namespace Go.Proofs.YtpefhoohfkeflacGreatDoor.Am
open Go
abbrev CV:List UInt8:=[112,114,111,112,111,115,101]
abbrev CW:List UInt8:=[118,111,116,101]
abbrev CT:List UInt8:=[100,101,108,105,118,101,114]
abbrev CU:List UInt8:=[102,111,114,103,101]
abbrev CR:List UInt8:=[98,97,100,118,111,116,101]
abbrev CS:List UInt8:=[99,97,108,109]
abbrev qM:List UInt8:=[108,105,115,116]
abbrev Bv:List UInt8:=[119,104,97,116]
abbrev Lj:List UInt8:=[32,118,111,116,101,115,32]
abbrev e8:List UInt8:=[111,114,100,101,114,32]
abbrev Fg:List UInt8:=[116,111,111,32,108,111,110,103,10]
def tO (i:Nat)(p:Ppl):List UInt8:=aQ i++[32]++aQ p.v.round++[46]++aQ p.v.author++[32]++aQ p.v.digest++Lj++aQ p.members.length++[10]
def cM (w:Wrl):Nat→List UInt8
 |0=>[]
 |n+1=>cM w n++tO n (w.props.getD n p0)
def ni (w:Wrl):List UInt8:=cM w w.props.length
def jo (s:Slt):List UInt8:=[32]++aQ s.round++[46]++aQ s.author
def bQ:List Slt→List UInt8
 |[]=>[]
 |s::l=>jo s++bQ l
theorem iZ (s:Slt):∀l:List Slt,bQ (l++[s])=bQ l++jo s
 |[]=>by simp[bQ]
 |x::l=>by rw[gx,bQ,bQ,iZ s l,bH]
noncomputable def linO (w:Wrl) (m:Nat):List UInt8:=e8++aQ m++bQ (wo w m)++[10]
noncomputable def outOs (w:Wrl):Nat→List UInt8
 |0=>[]
 |n+1=>if(n:Int)=w.bad then outOs w n else outOs w n++linO w n
noncomputable def outO (w:Wrl):List UInt8:=outOs w w.com.length
def lb (r d:Int):Vtx:=⟨r,3,if 0<r then[0,1,2] else[],d⟩
def bY (w:Wrl)(ws:List (List UInt8)):Wrl:=
 if ws.getD 0 []=CV then eH w (cA ws 1) (cA ws 2) else if ws.getD 0 []=CW then eR w (cA ws 1) (cA ws 2) else if ws.getD 0 []=CT then dB w (cA ws 1) (cA ws 2) else
 if ws.getD 0 []=CU then iH w (lb (cA ws 1) (cA ws 2)) else if ws.getD 0 []=CR then iG w (cA ws 1) else if ws.getD 0 []=CS then(if 0≤cA ws 1∧cA ws 1≤12 then bg w (cA ws 1).toNat else w) else w
def eU (k:List UInt8):Prop:=k=CV∨k=CW∨k=CT∨k=CU∨k=CR∨k=CS
instance (k:List UInt8):Decidable (eU k):=by unfold eU;infer_instance
def dW (w:Wrl)(ws:List (List UInt8)):List UInt8:=if eU (ws.getD 0 []) then[] else if ws.getD 0 []=qM then ni w else Bv++[10]
def qx (r:Wrl×List UInt8)(l:List UInt8):Wrl×List UInt8:=(bY r.1 (aK 32 l),r.2++dW r.1 (aK 32 l))
def MA:Wrl:=LF [1,1,1,1] [0,1,2,0,1,2,0,1] 3
def cf (ls:List (List UInt8)):Wrl×List UInt8:=ls.foldl qx (MA,[])
noncomputable def exT (t:List UInt8):List UInt8:=if 600<t.length then Fg else(cf (aK 10 t).dropLast).2++outO (cf (aK 10 t).dropLast).1
theorem i6 (ls:List (List UInt8))(l:List UInt8):cf (ls++[l])=qx (cf ls) l:=by simp[cf]
theorem GD {w:Wrl}(h:WOK w)(ws:List (List UInt8)):WOK (bY w ws):=by
 unfold bY
 split
 ·exact vZ h _ _
 split
 ·exact v7 h _ _
 split
 ·exact rG h _ _
 split
 ·exact B2 h _
 split
 ·exact B0 h _
 split
 ·split
  ·exact kg h _
  ·exact h
 ·exact h
theorem MB:WOK MA:=iS.1 (by decide+kernel)
theorem rF (ls:List (List UInt8)):WOK (cf ls).1:=by
 induction ls using cj with
 |h0=>exact MB
 |h l x ih=>rw[i6];exact GD ih _
theorem Gy:∀(n:Nat) {w:Wrl},1519-gf w≤n→(db w).lead=w.lead∧(db w).bad=w.bad∧(db w).com=w.com:=by
 have hd:∀(w:Wrl) (i:Int) (n:Nat),(dM w i n).lead=w.lead∧(dM w i n).bad=w.bad∧(dM w i n).com=w.com:=by
  intro w i n
  induction n with
  |zero=>exact⟨rfl,rfl,rfl⟩
  |succ n ih=>
   have:=oT (dM w i n) n i
   exact⟨this.2.2.2.trans ih.1,this.2.2.1.trans ih.2.1,this.1.trans ih.2.2⟩
 have hp:∀(w:Wrl) (k:Nat),(cd w k).lead=w.lead∧(cd w k).bad=w.bad∧(cd w k).com=w.com:=by
  intro w k
  induction k with
  |zero=>exact⟨rfl,rfl,rfl⟩
  |succ k ih=>
   have:=hd (cd w k) k (cd w k).com.length
   exact⟨this.1.trans ih.1,this.2.1.trans ih.2.1,this.2.2.trans ih.2.2⟩
 intro n
 induction n with
 |zero=>
  intro w hn
  rw[db]
  split
  ·omega
  ·exact hp _ _
 |succ n ih=>
  intro w hn
  rw[db]
  split
  ·have h1:=ih (w:=pass w) (by omega)
   have h2:=hp w w.props.length
   exact⟨h1.1.trans h2.1,h1.2.1.trans h2.2.1,h1.2.2.trans h2.2.2⟩
  ·exact hp _ _
theorem FY (w:Wrl)(m d:Int):(eH w m d).lead=w.lead∧(eH w m d).bad=w.bad∧(eH w m d).com=w.com:=by unfold eH;split<;>exact⟨rfl,rfl,rfl⟩
theorem GT (w:Wrl)(m d:Int):(eR w m d).lead=w.lead∧(eR w m d).bad=w.bad∧(eR w m d).com=w.com:=by unfold eR;split<;>exact⟨rfl,rfl,rfl⟩
theorem BZ (w:Wrl):(gm w).lead=w.lead∧(gm w).bad=w.bad∧(gm w).com=w.com:=by
 have hv:∀(w:Wrl) (i:Int) (n:Nat),(iK w i n).lead=w.lead∧(iK w i n).bad=w.bad∧(iK w i n).com=w.com:=by
  intro w i n
  induction n with
  |zero=>exact⟨rfl,rfl,rfl⟩
  |succ n ih=>
   have:=GT (iK w i n) n i
   exact⟨this.1.trans ih.1,this.2.1.trans ih.2.1,this.2.2.trans ih.2.2⟩
 have hs:∀(w:Wrl) (k:Nat),(dd w k).lead=w.lead∧(dd w k).bad=w.bad∧(dd w k).com=w.com:=by
  intro w k
  induction k with
  |zero=>exact⟨rfl,rfl,rfl⟩
  |succ k ih=>
   have:=hv (dd w k) k (dd w k).com.length
   exact⟨this.1.trans ih.1,this.2.1.trans ih.2.1,this.2.2.trans ih.2.2⟩
 have h1:=Gy _ (w:=iI w) (ax _)
 have h2:=hs w w.props.length
 exact⟨h1.1.trans h2.1,h1.2.1.trans h2.2.1,h1.2.2.trans h2.2.2⟩
theorem AN (w:Wrl):∀r,(bg w r).lead=w.lead∧(bg w r).bad=w.bad∧(bg w r).com=w.com
 |0=>Gy _ (ax _)
 |r+1=>by
  have hp:∀(w:Wrl) (r n:Nat),(dF w r n).lead=w.lead∧(dF w r n).bad=w.bad∧(dF w r n).com=w.com:=by
   intro w r n
   induction n with
   |zero=>exact⟨rfl,rfl,rfl⟩
   |succ n ih=>
    have:=FY (dF w r n) n (7*r+n)
    exact⟨this.1.trans ih.1,this.2.1.trans ih.2.1,this.2.2.trans ih.2.2⟩
  have h1:=BZ (dF (gm (bg w r)) r (gm (bg w r)).com.length)
  have h2:=hp (gm (bg w r)) r (gm (bg w r)).com.length
  have h3:=BZ (bg w r)
  have h4:=AN w r
  exact⟨h1.1.trans (h2.1.trans (h3.1.trans h4.1)),h1.2.1.trans (h2.2.1.trans (h3.2.1.trans h4.2.1)),h1.2.2.trans (h2.2.2.trans (h3.2.2.trans h4.2.2))⟩
theorem GC (w:Wrl)(ws:List (List UInt8)):(bY w ws).lead=w.lead∧(bY w ws).bad=w.bad∧(bY w ws).com=w.com:=by
 unfold bY
 split
 ·exact FY _ _ _
 split
 ·exact GT _ _ _
 split
 ·have:=oT w (cA ws 1) (cA ws 2)
  exact⟨this.2.2.2,this.2.2.1,this.1⟩
 split
 ·unfold iH;split<;>exact⟨rfl,rfl,rfl⟩
 split
 ·unfold iG;split<;>exact⟨rfl,rfl,rfl⟩
 split
 ·split
  ·exact AN _ _
  ·exact⟨rfl,rfl,rfl⟩
 ·exact⟨rfl,rfl,rfl⟩
theorem vY (ls:List (List UInt8)):(cf ls).1.lead=[0,1,2,0,1,2,0,1]∧(cf ls).1.bad=3∧(cf ls).1.com=[1,1,1,1]:=by
 induction ls using cj with
 |h0=>exact⟨rfl,rfl,rfl⟩
 |h l x ih=>
  rw[i6]
  have:=GC (cf l).1 (aK 32 x)
  exact⟨this.1.trans ih.1,this.2.1.trans ih.2.1,this.2.2.trans ih.2.2⟩
theorem sN (i:Nat)(p:Ppl):(tO i p).length≤31:=by
 have h1:=aO i
 have h2:=aO p.v.round
 have h3:=aO p.v.author
 have h4:=aO p.v.digest
 have h5:=aO p.members.length
 simp only[tO,aP,bF,dz]
 omega
theorem kA (w:Wrl):∀n,(cM w n).length≤31*n
 |0=>by simp[cM]
 |n+1=>by
  have h1:=kA w n
  have h2:=sN n (w.props.getD n p0)
  simp only[cM,aP]
  omega
theorem De (s:Slt):(jo s).length≤10:=by
 have h2:=aO s.round
 have h3:=aO s.author
 simp only[jo,aP,bF,dz]
 omega
theorem fg:∀l:List Slt,(bQ l).length≤10*l.length
 |[]=>by simp[bQ]
 |s::l=>by
  have h1:=fg l
  have h2:=De s
  simp only[bQ,aP,bF]
  omega
theorem uG {w:Wrl}(h:WOK w)(ws:List (List UInt8)):(dW w ws).length≤6820:=by
 unfold dW
 split
 ·simp
 split
 ·have:=kA w w.props.length
  have:=h.plen
  unfold ni
  omega
 ·simp
theorem s9 (ls:List (List UInt8)):(cf ls).2.length≤6820*ls.length:=by
 induction ls using cj with
 |h0=>exact ax _
 |h l x ih=>
  rw[i6]
  have h1:=uG (rF l) (aK 32 x)
  simp only[qx,aP,bF,dz]
  omega
theorem zV {g:List Vtx}{l:List Int}:∀(ws:List Nat) (acc:List Vtx),(∀v∈acc,v∈g)→∀v∈ordTo g l acc ws,v∈g
 |[],acc,h=>h
 |w::ws,acc,h=>by
  rw[nJ]
  refine zV ws _ fun v hv=>?_
  rcases bl.1 hv with hv|hv
  ·exact h v hv
  ·unfold ordW at hv
   split at hv
   ·exact(eL.1 hv).1
   ·cases hv
theorem Cj {w:Wrl}(hw:WOK w)(m:Int):∀s∈wo w m,(0≤s.round∧s.round≤30)∧0≤s.author∧s.author<7:=by
 intro s hs
 unfold wo at hs
 split at hs
 ·unfold ordS at hs
  split at hs
  ·rename_i hc hv
   obtain⟨v,hv1,rfl⟩:=aB.1 hs
   have hvg:=zV _ _ (fun v hv=>by cases hv) v hv1
   have hg:graS w.com (w.views.getD m.toNat [])=true:=by
    simp only[Cl,aA] at hv
    exact hv.1
   have h1:=bG ((fT hg).vtx v hvg)
   have h2:=hw.len
   exact⟨h1.1,h1.2.1.1,by show v.author<7;omega⟩
  ·cases hs
 ·cases hs
theorem jI {a b:Vtx}:bef a b=true↔a.round<b.round∨(a.round=b.round∧a.author<b.author):=by
 simp only[bef,cN,aA,decide_eq_true_eq]
theorem DF {a b:Vtx}(c:Vtx)(h:bef a b=true):bef a c=true∨bef c b=true:=by
 rw[jI] at *
 rw[jI]
 omega
theorem nX {a b:Vtx}(h:bef a b=true):bef b a=false:=by
 rw[ck]
 rw[jI] at h
 intro h2
 rw[jI] at h2
 omega
theorem sS {a b c:Vtx}(h1:bef a b=false)(h2:bef b c=false):bef a c=false:=by
 rw[ck]
 intro h
 rcases DF b h with h3|h3
 ·rw[h3] at h1;cases h1
 ·rw[h3] at h2;cases h2
def yw (l:List Vtx)(i j:Nat)(x y:Vtx):List Vtx:=(l.set i y).set j x
theorem Cc (l:List Vtx)(i j:Nat)(x y:Vtx):(yw l i j x y).length=l.length:=by simp[yw]
theorem wh {l:List Vtx}{i j:Nat}{x y:Vtx}(hi:l[i]?=some x)(hj:l[j]?=some y)(k:Nat):(yw l i j x y)[k]?=if k=j then some x else if k=i then some y else l[k]?:=by
 have h1:=(aR.1 hi).1
 have h2:=(aR.1 hj).1
 unfold yw
 rw[dm,dm]
 by_cases e1:k=j
 ·subst e1
  rw[if_pos rfl,if_pos (by rw[jq];exact h2),if_pos rfl]
 ·rw[if_neg (by omega),if_neg e1]
  by_cases e2:k=i
  ·subst e2
   rw[if_pos rfl,if_pos h1,if_pos rfl]
  ·rw[if_neg (by omega),if_neg e2]
theorem yx {l:List Vtx}{i j:Nat}{x y:Vtx}(hi:l[i]?=some x)(hj:l[j]?=some y):(yw l i j x y).Perm l:=by
 obtain⟨h1,rfl⟩:=aR.1 hi
 obtain⟨h2,rfl⟩:=aR.1 hj
 exact List.set_set_perm h1 h2
theorem GH {l:List Vtx}{i j n:Nat}{x y:Vtx}(hi:i<n)(hj:j<n):(yw l i j x y).take n=yw (l.take n) i j x y:=by
 unfold yw
 rw[List.take_set,List.take_set]
def Heap (l:List Vtx)(n:Nat):Prop:=∀k x y,0<k→k<n→l[k]?=some x→l[(k-1)/2]?=some y→bef x y=false
theorem CN {l:List Vtx}{n:Nat}(h:Heap l n)(hn:n≤l.length){r:Vtx}(hr:l[0]?=some r):∀(k:Nat) (x:Vtx),k<n→l[k]?=some x→bef x r=false:=by
 intro k
 induction k using Nat.strongRecOn with
 |ind k ih=>
  intro x hk hx
  by_cases h0:k=0
  ·subst h0
   rw[hr] at hx
   obtain rfl:=ar hx
   rw[ck]
   intro h2
   rw[jI] at h2
   omega
  ·have hp:l[(k-1)/2]?=some (l[(k-1)/2]'(by omega)):=am _
   exact sS (h k x _ (by omega) hk hx hp) (ih _ (by omega) _ (by omega) hp)
structure Sft (l0 l:List Vtx)(n i:Nat):Prop where
 len:l.length=l0.length
 perm:(l.take n).Perm (l0.take n)
 rest:∀k,n≤k→l[k]?=l0[k]?
 hp:∀k x y,0<k→k<n→(k-1)/2≠i→l[k]?=some x→l[(k-1)/2]?=some y→bef x y=false
 gp:∀k x y,0<i→0<k→k<n→(k-1)/2=i→l[k]?=some x→l[(i-1)/2]?=some y→bef x y=false
theorem NC {l:List Vtx}{n:Nat}(h:∀k x y,0<k→k<n→(k-1)/2≠0→l[k]?=some x→l[(k-1)/2]?=some y→bef x y=false):Sft l l n 0:=
 ⟨rfl,List.Perm.refl _,fun _ _=>rfl,h,fun _ _ _ h0=>absurd h0 (Nat.lt_irrefl 0)⟩
theorem kI {l0 l:List Vtx}{n i j:Nat}(h:Sft l0 l n i){x y:Vtx}(hi:l[i]?=some x)(hj:l[j]?=some y)(hjn:j<n)(h0:0<j)(hij:(j-1)/2=i)(hb:bef y x=true)
  (hs:∀k z,0<k→k<n→(k-1)/2=i→l[k]?=some z→bef z y=false):Sft l0 (yw l i j x y) n j:=by
 have hin:i<n:=by omega
 have fO:=wh hi hj
 refine⟨by rw[Cc,h.len],?_,fun k hk=>?_,fun k a b k0 kn kp ha hbb=>?_,fun k a b j0 k0 kn kp ha hbb=>?_⟩
 ·rw[GH hin hjn]
  refine(yx ?_ ?_).trans h.perm
  ·rw[en,if_pos hin];exact hi
  ·rw[en,if_pos hjn];exact hj
 ·rw[fO,if_neg (by omega),if_neg (by omega)]
  exact h.rest k hk
 ·rw[fO] at ha hbb
  rw[if_neg kp] at hbb
  by_cases e1:(k-1)/2=i
  ·rw[if_pos e1] at hbb
   obtain rfl:=ar hbb
   by_cases e2:k=j
   ·rw[if_pos e2] at ha
    obtain rfl:=ar ha
    exact nX hb
   ·rw[if_neg e2,if_neg (by omega)] at ha
    exact hs k a k0 kn e1 ha
  ·rw[if_neg e1] at hbb
   rw[if_neg (show¬k=j by intro e;rw[e] at e1;exact e1 hij)] at ha
   by_cases e2:k=i
   ·subst e2
    rw[if_pos rfl] at ha
    obtain rfl:=ar ha
    exact h.gp j y b k0 h0 hjn hij hj hbb
   ·rw[if_neg e2] at ha
    exact h.hp k a b k0 kn e1 ha hbb
 ·rw[fO] at ha hbb
  rw[hij,if_neg (by omega),if_pos rfl] at hbb
  obtain rfl:=ar hbb
  rw[if_neg (by omega),if_neg (by omega)] at ha
  exact h.hp k a y k0 kn (by omega) ha (by rw[kp];exact hj)
theorem I7 {l0 l:List Vtx}{n i:Nat}(h:Sft l0 l n i){x:Vtx}(hi:l[i]?=some x)(hs:∀k z,0<k→k<n→(k-1)/2=i→l[k]?=some z→bef z x=false):Heap l n:=fun k a b k0 kn ha hb=>by
 by_cases e:(k-1)/2=i
 ·rw[e,hi] at hb
  obtain rfl:=ar hb
  exact hs k a k0 kn e ha
 ·exact h.hp k a b k0 kn e ha hb
theorem EP {l:List Vtx}(h:l.Pairwise fun a b=>bef a b=true):Heap l l.length:=fun k x y k0 kn hx hy=>by
 have h1:=(aR.1 hx)
 have h2:=(aR.1 hy)
 obtain⟨a1,rfl⟩:=h1
 obtain⟨a2,rfl⟩:=h2
 exact nX (qI.1 h _ _ a2 a1 (by omega))
theorem CM {s l:List Vtx}{x:Vtx}(hs:(x::s).Pairwise fun a b=>bef a b=true)(hp:l.Perm (x::s))(hh:Heap l l.length){r:Vtx}(hr:l[0]?=some r):r=x:=by
 have hx:x∈l:=hp.mem_iff.2 (by simp)
 obtain⟨k,hk⟩:=iM hx
 have h1:=CN hh (ax _) hr k x (aR.1 hk).1 hk
 have h2:r∈x::s:=hp.mem_iff.1 (br hr)
 rcases aJ.1 h2 with h2|h2
 ·exact h2
 ·have:=(iv.1 hs).1 r h2
  rw[this] at h1
  cases h1

end Go.Proofs.YtpefhoohfkeflacGreatDoor.Am
