/- Orders: leaders, votes, committed waves of the program. Orders: heaps of vertices (plain laws). Orders: heaps of vertices in the program. Orders: vertices sink in heaps. Orders: vertices come out of heaps in order. Orders: what a wave orders, vertex by vertex (plain laws). Orders: committed waves of the program. Orders: all committed waves of the program. Orders: the program's orders. Orders: the laws' waves and orders. Orders: the laws' orders. Runs: impl's quiet rounds. -/
import Derived.Test.YthmfppknagbkeaaGreatDoorA410
set_option linter.unusedSimpArgs false
set_option linter.unusedVariables false
set_option maxHeartbeats 1000000
namespace Go.Proofs.YthmfppknagbkeaaGreatDoor.Am
open Go
attribute [local irreducible] Mk bk Ari eD ky iB br b8 fY er At af
set_option maxRecDepth 10000
def Θe:TT:=(128,⟨.ifc,1,16,some .nili,none,false⟩)::Θg
theorem ck:TT.ok Tryz.prog Θe:=TT.okB_ok (by kernel_rfl)
theorem ku {P Q:Prop}(h:Q)(s:Hid Q→P:=by
  intro h
  (first|(with_reducible first|apply d7|apply dx)|((first|with_reducible apply cM ck|refine go ?_|(with_reducible first|apply dB|apply dt|apply cK|apply cN|refine cL ck mixed (by kernel_rfl) ?_))<;>conv=>whnf))
  repeat(first|(with_reducible first|apply d7|apply dx)|((first|with_reducible apply cM ck|refine go ?_|(with_reducible first|apply dB|apply dt|apply cK|apply cN|refine cL ck mixed (by kernel_rfl) ?_))<;>conv=>whnf))
  exact h.h):P:=s ⟨h⟩
abbrev Dg (c:List Int)(s:GS):VH:=[(1,.frow 166 (.hp 0) s.rows),(0,.fvar 178 (.nod 1) s.nodes)]
abbrev yA (c:List Int)(s:GS):VH:=[(0,.fvar 178 (.nod 1) s.nodes),(1,.frow 166 (.hp 0) s.rows)]
theorem EI (c:List Int)(s:GS)(k:Nat):af Tryz.prog 225 [.hro 1 none,.hpo 0 (some k)] (Dg c s) (.int .i64 (-1)) (yA c s):=by
 refine aa di Tryz.func225 rfl rfl false 0 4 rfl rfl rfl rfl fun K hK hb1 hb2=>?_;simp only[ae,enc,Nat.reduceAdd]
 clear hb1 hb2
 (repeat' first|refine gt ?_|refine sa fun xe hxe=>?_|refine sb (fun hq=>?_) fun hq=>?_|exact True.intro)
 refine ab hK [] [0,1,7,8] (fun i:Nat=>⟨[(0,.hro 1 none),(1,.hpo 0 (some k)),(7,.int .i64 0),(8,.int .i64 (i:Int))],yA c s,4⟩) (fun i=>i=0) (fun i=>i) 0 rfl rfl ?_
 rintro i rfl
 (repeat' first|refine gt ?_|refine sa fun xe hxe=>?_|refine sb (fun hq=>?_) fun hq=>?_|exact True.intro)
 exact⟨rfl,rfl⟩
theorem Ha (c:List Int)(s:GS)(r k:Nat)(xs:List (Option Nat))(hr:s.rows[r]?=some xs)(hxs:∀o∈xs,∃q,o=some q∧q<s.nodes.length)(hk:k<s.nodes.length)(hl:xs.length≤1000000):af Tryz.prog 225 [.hro 1 (some r),.hpo 0 (some k)] (Dg c s) (.int .i64 (match xs.findIdx? (fun o=>o==some k) with|some i=>(i:Int)|none=>-1)) (yA c s):=by
 have hkx:s.nodes[k]?=some s.nodes[k]:=List.getElem?_eq_getElem hk
 generalize s.nodes[k]=nk at *
 refine aa di Tryz.func225 rfl rfl false 0 4 rfl rfl rfl rfl fun K hK hb1 hb2=>?_;simp only[ae,enc,Nat.reduceAdd]
 clear hb1 hb2
 (repeat' first|refine gt ?_|refine sa fun xe hxe=>?_|refine sb (fun hq=>?_) fun hq=>?_|exact True.intro)
 refine ab hK [] [0,1,7,8] (fun i:Nat=>⟨[(0,.hro 1 (some r)),(1,.hpo 0 (some k)),(7,.int .i64 xs.length),(8,.int .i64 (i:Int))],yA c s,4⟩) (fun i=>i≤xs.length∧∀o∈xs.take i,(o==some k)=false) (fun i=>xs.length-i) 0 ⟨by simp,by simp⟩ rfl ?_
 rintro i ⟨hi,hall⟩
 by_cases hlt:i<xs.length
 ·have hxe:xs[i]?=some xs[i]:=List.getElem?_eq_getElem hlt
  have h3:xs.take (i+1)=xs.take i++[xs[i]]:=List.take_succ_eq_append_getElem hlt
  have h4:=ny (l:=xs) (p:=fun o=>o==some k) hxe hall
  obtain⟨q,hq,hql⟩:=hxs _ (List.mem_of_getElem? hxe)
  have hqx:s.nodes[q]?=some s.nodes[q]:=List.getElem?_eq_getElem hql
  rw[hq] at hxe h3 h4
  generalize s.nodes[q]=nq at *
  by_cases he:k=q
  ·subst he
   (repeat' first|refine gt ?_|refine sa fun xe hxe=>?_|refine sb (fun hq=>?_) fun hq=>?_|exact True.intro)
   refine⟨?_,rfl⟩
   rw[h4 (by simp)]
  ·(repeat' first|refine gt ?_|refine sa fun xe hxe=>?_|refine sb (fun hq=>?_) fun hq=>?_|exact True.intro)
   exact⟨i+1,⟨by omega,by rw[h3];exact aP hall (by simpa using fun h=>he h.symm)⟩,by omega,rfl⟩
 ·(repeat' first|refine gt ?_|refine sa fun xe hxe=>?_|refine sb (fun hq=>?_) fun hq=>?_|exact True.intro)
  refine⟨?_,rfl⟩
  rw[List.take_of_length_le (by omega)] at hall
  rw[List.findIdx?_eq_none_iff.2 hall]
theorem EG (c:List Int)(s:GS)(k:Nat):af Tryz.prog 220 [.hro 1 none,.hpo 0 (some k)] (Dg c s) (.bool false) (yA c s):=by
 refine aa di Tryz.func220 rfl rfl false 0 4 rfl rfl rfl rfl fun K hK hb1 hb2=>?_;simp only[ae,enc,Nat.reduceAdd]
 clear hb1 hb2
 (repeat' first|refine gt ?_|refine sa fun xe hxe=>?_|refine sb (fun hq=>?_) fun hq=>?_|refine co (EI c s k) ?_|exact True.intro)
 exact⟨rfl,rfl⟩
theorem G6 (c:List Int)(s:GS)(r k:Nat)(xs:List (Option Nat))(hr:s.rows[r]?=some xs)(hxs:∀o∈xs,∃q,o=some q∧q<s.nodes.length)(hk:k<s.nodes.length)(hl:xs.length≤1000000):af Tryz.prog 220 [.hro 1 (some r),.hpo 0 (some k)] (Dg c s) (.bool (xs.contains (some k))) (yA c s):=by
 have hI:=Ha c s r k xs hr hxs hk hl
 refine aa di Tryz.func220 rfl rfl false 0 4 rfl rfl rfl rfl fun K hK hb1 hb2=>?_;simp only[ae,enc,Nat.reduceAdd]
 clear hb1 hb2
 cases h:xs.findIdx? (fun o=>o==some k) with
 |none=>
  rw[h] at hI
  have e:xs.contains (some k)=false:=by
   rw[Bool.eq_false_iff]
   intro h2
   have:=List.findIdx?_eq_none_iff.1 h _ (List.contains_iff_mem.1 h2)
   simp at this
  rw[e]
  (repeat' first|refine gt ?_|refine sa fun xe hxe=>?_|refine sb (fun hq=>?_) fun hq=>?_|refine co (hI) ?_|exact True.intro)
  exact⟨rfl,rfl⟩
 |some i=>
  rw[h] at hI
  obtain⟨hi,h1,-⟩:=List.findIdx?_eq_some_iff_getElem.1 h
  have e:xs.contains (some k)=true:=List.contains_iff_mem.2 (by rw[←(beq_iff_eq.1 h1)];exact List.getElem_mem hi)
  rw[e]
  (repeat' first|refine gt ?_|refine sa fun xe hxe=>?_|refine sb (fun hq=>?_) fun hq=>?_|refine co (hI) ?_|exact True.intro)
  exact⟨rfl,rfl⟩
def IB (xs ys:List Int)(i:Nat):Prop:=ys.length=xs.length∧∀k,k<xs.length→ys[k]?=if k<i∨xs.length-i≤k then xs[xs.length-1-k]? else xs[k]?
theorem EC {xs ys:List Int}{i:Nat}(h:IB xs ys i)(hi:xs.length≤2*i+1):ys=xs.reverse:=by
 refine List.ext_getElem? fun k=>?_
 rcases Nat.lt_or_ge k xs.length with hk|hk
 ·rw[h.2 k hk,List.getElem?_reverse hk]
  split
  ·rfl
  ·congr 1;omega
 ·rw[List.getElem?_eq_none (by rw[h.1];exact hk),List.getElem?_eq_none (by simpa using hk)]
theorem B3 {xs ys:List Int}{i:Nat}{a b:Int}(h:IB xs ys i)(hi:2*i+1<xs.length)(ha:ys[i]?=some a)(hb:ys[xs.length-1-i]?=some b):IB xs ((ys.set i b).set (xs.length-1-i) a) (i+1):=by
 obtain⟨h1,h2⟩:=h
 have ea:=h2 i (by omega)
 have eb:=h2 (xs.length-1-i) (by omega)
 rw[if_neg (by omega)] at ea eb
 refine⟨by simp[h1],fun k hk=>?_⟩
 rw[List.getElem?_set,List.getElem?_set,List.length_set]
 by_cases e1:xs.length-1-i=k
 ·rw[if_pos e1,if_pos (by omega),if_pos (by omega),←ha,ea]
  congr 1;omega
 ·rw[if_neg e1]
  by_cases e2:i=k
  ·rw[if_pos e2,if_pos (by omega),if_pos (by omega),←hb,eb]
   congr 1;omega
  ·rw[if_neg e2,h2 k hk]
   by_cases e3:k<i∨xs.length-i≤k
   ·rw[if_pos e3,if_pos (by omega)]
   ·rw[if_neg e3,if_neg (by omega)]
theorem Gu (xs:List Int)(hl:xs.length≤1000000):af Tryz.prog 207 [.ref 4] [(4,.row 3 (.int .i64) xs)] (.tup []) [(4,.row 3 (.int .i64) xs.reverse)]:=by
 refine aa al Tryz.func207 rfl rfl false 1 5 rfl rfl rfl rfl fun K hK hb1 hb2=>?_;simp only[ae,enc,Nat.reduceAdd]
 clear hb1 hb2
 (repeat' first|refine st ?_|refine sa fun xe hxe=>?_|refine sb (fun hq=>?_) fun hq=>?_|exact True.intro)
 refine ab hK [] [0,2,3] (fun x:Nat×List Int=>⟨[(0,.ref 4),(2,.int .i64 (x.1:Int)),(3,.int .i64 ((xs.length:Int)-1-x.1))],[(4,.row 3 (.int .i64) x.2)],5⟩) (fun x=>IB xs x.2 x.1∧2*x.1≤xs.length+1) (fun x=>xs.length-x.1) (0,xs) ⟨⟨rfl,fun k hk=>by rw[if_neg (by omega)]⟩,by simp⟩ (by rw[show ((xs.length:Int)-1-((0:Nat):Int))=(xs.length:Int)-1 by omega];rfl) ?_
 rintro⟨i,ys⟩ ⟨hR,hi⟩
 dsimp only at hR hi⊢
 have hyl:=hR.1
 by_cases hlt:2*i+1<xs.length
 ·have hxa:ys[i]?=some ys[i]:=List.getElem?_eq_getElem (by omega)
  have hjb:xs.length-1-i<ys.length:=by omega
  have hxb:ys[xs.length-1-i]?=some ys[xs.length-1-i]:=List.getElem?_eq_getElem hjb
  have hst:=B3 hR hlt hxa hxb
  generalize hj:xs.length-1-i=j at *
  have hje:((xs.length:Int)-1-(i:Int))=(j:Int):=by omega
  rw[hje]
  generalize ys[i]=a at *
  generalize ys[j]=b at *
  have hxc:(ys.set i b)[j]?=some b:=by rw[List.getElem?_set,if_neg (by omega)];exact hxb
  have uT:(ys.set i b).length=ys.length:=by simp
  (repeat' first|refine st ?_|refine sa fun xe hxe=>?_|refine sb (fun hq=>?_) fun hq=>?_|exact True.intro)
  exact⟨(i+1,(ys.set i b).set j a),⟨hst,by dsimp only;omega⟩,by dsimp only;omega,by rw[show ((xs.length:Int)-1-((i+1:Nat):Int))=(j:Int)-1 by omega];rfl⟩
 ·have hfin:=EC hR (by omega)
  (repeat' first|refine st ?_|refine sa fun xe hxe=>?_|refine sb (fun hq=>?_) fun hq=>?_|exact True.intro)
  exact⟨rfl,by rw[hfin]⟩
theorem nL {c l:List Int}(hl:leaS c l=true){w:Nat}(h1:1≤w)(h2:w≤l.length):0≤fO l w∧fO l w<c.length:=by
 have hx:=nK h1 h2
 exact(be.1 hl).1 _ (List.mem_of_getElem? hx)
theorem u7 {c:List Int}{g:List Vtx}(hg:GraOK c g){l:List Int}(hl:leaS c l=true){w:Nat}(h1:1≤w)(h2:w≤l.length):(bM g).at (2*(w:Int)-1) (fO l w)=g.findIdx? (dO (2*(w:Int)-1) (fO l w)):=by
 have h7:=(ao.1 hg.com).2
 have hm:=nL hl h1 h2
 have hll:=(be.1 hl).2
 exact tN hg (by omega) (by omega)
theorem np {c:List Int}{g:List Vtx}(hg:GraOK c g){l:List Int}(hl:leaS c l=true){w:Nat}(h1:1≤w)(h2:w≤l.length){k:Vtx}(hk:j7 g l w=some k):∃n:Nat,(bM g).at (2*(w:Int)-1) (fO l w)=some n∧g[n]?=some k:=by
 obtain⟨a1,a2,a3⟩:=cg hk
 obtain⟨i,hi⟩:=List.getElem?_of_mem a1
 have:=mt hg hi
 rw[a2,a3] at this
 exact⟨i,by rw[u7 hg hl h1 h2,this],hi⟩
theorem wU {c:List Int}{g:List Vtx}(hg:GraOK c g){l:List Int}(hl:leaS c l=true){w:Nat}(h1:1≤w)(h2:w≤l.length)(hk:j7 g l w=none):(bM g).at (2*(w:Int)-1) (fO l w)=none:=by
 rw[u7 hg hl h1 h2,List.findIdx?_eq_none_iff]
 intro x hx
 have:=List.find?_eq_none.1 hk x hx
 simpa using this
theorem rO (c:List Int)(g:List Vtx)(l:List Int)(w n:Nat)(hg:GraOK c g)(hl:leaS c l=true)(h1:1≤w)(h2:w≤l.length)(ha:(bM g).at (2*(w:Int)-1) (fO l w)=some n):af Tryz.prog 143 [.agg [.ptr 4 0,.lst (.int .i64) l],.int .i64 (w:Int)] (gR c (bM g)) (.tup [.hpo 0 (some n),.nili]) (gR c (bM g)):=by
 have h7:=(ao.1 hg.com).2
 have hx:=nK h1 h2
 have hll:=(be.1 hl).2
 have hA:=kA c (bM g) (2*(w:Int)-1) (fO l w) (dD g).2 h7.2 (ar.2 (by omega)) (ar.2 (by have:=nL hl h1 h2;omega))
 rw[ha] at hA
 have hin1:(none:Option Nat).isNone=true:=rfl
 have hin2:(some n:Option Nat).isNone=false:=rfl
 refine aa ck Tryz.func143 rfl rfl false 2 6 rfl rfl rfl rfl fun K hK hb1 hb2=>?_;simp only[ae,enc,Nat.reduceAdd]
 clear hb1 hb2
 (repeat' first|refine ku ?_|refine sa fun xe hxe=>?_|refine sb (fun hq=>?_) fun hq=>?_|refine co (hA) ?_|exact True.intro)
 exact⟨rfl,rfl⟩
theorem A2 (c:List Int)(g:List Vtx)(l:List Int)(w:Nat)(hg:GraOK c g)(hl:leaS c l=true)(h1:1≤w)(h2:w≤l.length)(ha:(bM g).at (2*(w:Int)-1) (fO l w)=none):af Tryz.prog 143 [.agg [.ptr 4 0,.lst (.int .i64) l],.int .i64 (w:Int)] (gR c (bM g)) (.tup [.nilp,.gv 2]) (gR c (bM g)):=by
 have h7:=(ao.1 hg.com).2
 have hx:=nK h1 h2
 have hll:=(be.1 hl).2
 have hA:=kA c (bM g) (2*(w:Int)-1) (fO l w) (dD g).2 h7.2 (ar.2 (by omega)) (ar.2 (by have:=nL hl h1 h2;omega))
 rw[ha] at hA
 have hin1:(none:Option Nat).isNone=true:=rfl
 refine aa ck Tryz.func143 rfl rfl false 2 6 rfl rfl rfl rfl fun K hK hb1 hb2=>?_;simp only[ae,enc,Nat.reduceAdd]
 clear hb1 hb2
 (repeat' first|refine ku ?_|refine sa fun xe hxe=>?_|refine sb (fun hq=>?_) fun hq=>?_|refine co (hA) ?_|exact True.intro)
 exact⟨rfl,rfl⟩
theorem Gp (c:List Int)(l:List Int)(w:Nat)(hc:comV c=true)(hl:leaS c l=true)(h1:1≤w)(h2:w≤l.length):af Tryz.prog 143 [.agg [.ptr 4 0,.lst (.int .i64) l],.int .i64 (w:Int)] (gZ c gz) (.tup [.nilp,.gv 2]) (gZ c gz):=by
 have h7:=(ao.1 hc).2
 have hx:=nK h1 h2
 have hll:=(be.1 hl).2
 have hA:=zC c gz (2*(w:Int)-1) (fO l w) List.length_replicate h7.2 (ar.2 (by omega)) (ar.2 (by have:=nL hl h1 h2;omega))
 rw[vF] at hA
 have hin1:(none:Option Nat).isNone=true:=rfl
 refine aa ck Tryz.func143 rfl rfl false 1 5 rfl rfl rfl rfl fun K hK hb1 hb2=>?_;simp only[ae,enc,Nat.reduceAdd]
 clear hb1 hb2
 (repeat' first|refine ku ?_|refine sa fun xe hxe=>?_|refine sb (fun hq=>?_) fun hq=>?_|refine co (hA) ?_|exact True.intro)
 exact⟨rfl,rfl⟩
def Iq (g:List Vtx)(l:List Int)(w:Nat)(a:Int):Bool:=g.any fun v=>(v.round==2*(w:Int) && v.author==a) && v.parents.contains (fO l w)
def zj (g:List Vtx)(l:List Int)(w n:Nat):List Int:=((List.range n).filter fun a:Nat=>Iq g l w (a:Int)).map fun a:Nat=>(a:Int)
theorem CE (g:List Vtx)(l:List Int)(w n:Nat):zj g l w (n+1)=if Iq g l w (n:Int)=true then zj g l w n++[(n:Int)] else zj g l w n:=by
 simp only[zj,List.range_succ,List.filter_append,List.map_append,List.filter_cons,List.filter_nil]
 split<;>simp
theorem EV (g:List Vtx)(l:List Int)(w n:Nat):(zj g l w n).length≤n:=by
 unfold zj
 rw[List.length_map]
 exact Nat.le_trans (List.length_filter_le _ _) (by simp)
theorem Hp {c:List Int}{g:List Vtx}(hg:GraOK c g)(l:List Int)(w:Nat):zj g l w c.length=zq g l w:=by
 refine qN ?_ (n4 hg.pw l w) fun a=>?_
 ·unfold zj
  rw[List.pairwise_map]
  exact(List.Pairwise.filter _ List.pairwise_lt_range).imp fun h=>by omega
 ·rw[lY,zj,List.mem_map]
  simp only[List.mem_filter,List.mem_range,Iq,List.any_eq_true,Bool.and_eq_true,beq_iff_eq,List.contains_iff_mem]
  constructor
  ·rintro⟨n,⟨hn,v,hv,⟨h1,h2⟩,h3⟩,rfl⟩
   exact⟨v,hv,h1,h3,h2⟩
  ·rintro⟨v,hv,h1,h2,rfl⟩
   have:=(bc (hg.vtx v hv)).2.1
   exact⟨v.author.toNat,⟨by omega,v,hv,⟨h1,by omega⟩,h2⟩,by omega⟩
theorem CC {g:List Vtx}{l:List Int}{w:Nat}{a:Int}(h:g.findIdx? (dO (2*(w:Int)) a)=none):Iq g l w a=false:=by
 rw[Bool.eq_false_iff]
 intro h2
 obtain⟨v,hv,h3⟩:=List.any_eq_true.1 h2
 simp only[Bool.and_eq_true] at h3
 have:=List.findIdx?_eq_none_iff.1 h v hv
 rw[show dO (2*(w:Int)) a v=true by simp only[dO,Bool.and_eq_true];exact h3.1] at this
 cases this
theorem CD {c:List Int}{g:List Vtx}(hg:GraOK c g){l:List Int}{w n q:Nat}{a:Int}{v:Vtx}(hq:g.findIdx? (dO (2*(w:Int)) a)=some q)(hv:g[q]?=some v)(hn:g.findIdx? (dO (2*(w:Int)-1) (fO l w))=some n):Iq g l w a=(pix g v).contains (some n):=by
 obtain⟨x,x1,x2,x3⟩:=ij hq
 rw[hv] at x1
 obtain rfl:=Option.some.inj x1
 obtain⟨k,k1,k2,k3⟩:=ij hn
 rw[Bool.eq_iff_iff,List.contains_iff_mem]
 constructor
 ·intro h
  obtain⟨u,hu,h3⟩:=List.any_eq_true.1 h
  simp only[Bool.and_eq_true,beq_iff_eq,List.contains_iff_mem] at h3
  obtain⟨⟨h4,h5⟩,h6⟩:=h3
  have e:=kf hg.pw hu (List.mem_of_getElem? hv) (by omega) (by omega)
  subst e
  exact List.mem_map.2 ⟨fO l w,h6,by rw[x2];exact hn⟩
 ·intro h
  obtain⟨b,hb,h3⟩:=List.mem_map.1 h
  obtain⟨y,y1,y2,y3⟩:=ij h3
  rw[k1] at y1
  obtain rfl:=Option.some.inj y1
  refine List.any_eq_true.2 ⟨v,List.mem_of_getElem? hv,?_⟩
  simp only[Bool.and_eq_true,beq_iff_eq,List.contains_iff_mem]
  exact⟨⟨x2,x3⟩,by rw[←k3,y3];exact hb⟩
theorem Ec {c:List Int}{g:List Vtx}(hg:GraOK c g){q:Nat}{v:Vtx}(hv:g[q]?=some v):∀o∈pix g v,∃k,o=some k∧k<(bM g).nodes.length:=fun o ho=>by
 obtain⟨k,x,e,h1,-⟩:=r9 hg (List.mem_of_getElem? hv) ho
 exact⟨k,e,by rw[(dD g).1];exact(List.getElem?_eq_some_iff.1 h1).1⟩
theorem Gw (c:List Int)(g:List Vtx)(l:List Int)(w:Nat)(hg:GraOK c g)(hl:leaS c l=true)(h1:1≤w)(h2:w≤l.length)(ha:(bM g).at (2*(w:Int)-1) (fO l w)=none):af Tryz.prog 205 [.agg [.ptr 4 0,.lst (.int .i64) l],.int .i64 (w:Int)] (gR c (bM g)) (.tup [.int .i64 0,.gv 2]) (gR c (bM g)):=by
 have hL:=A2 c g l w hg hl h1 h2 ha
 refine aa ck Tryz.func205 rfl rfl false 2 6 rfl rfl rfl rfl fun K hK hb1 hb2=>?_;simp only[ae,enc,Nat.reduceAdd]
 clear hb1 hb2
 (repeat' first|refine ku ?_|refine sa fun xe hxe=>?_|refine sb (fun hq=>?_) fun hq=>?_|refine co (hL) ?_|exact True.intro)
 exact⟨rfl,rfl⟩
theorem Gy (c:List Int)(l:List Int)(w:Nat)(hc:comV c=true)(hl:leaS c l=true)(h1:1≤w)(h2:w≤l.length):af Tryz.prog 205 [.agg [.ptr 4 0,.lst (.int .i64) l],.int .i64 (w:Int)] (gZ c gz) (.tup [.int .i64 0,.gv 2]) (gZ c gz):=by
 have hL:=Gp c l w hc hl h1 h2
 refine aa ck Tryz.func205 rfl rfl false 1 5 rfl rfl rfl rfl fun K hK hb1 hb2=>?_;simp only[ae,enc,Nat.reduceAdd]
 clear hb1 hb2
 (repeat' first|refine ku ?_|refine sa fun xe hxe=>?_|refine sb (fun hq=>?_) fun hq=>?_|refine co (hL) ?_|exact True.intro)
 exact⟨rfl,rfl⟩
theorem Gx (c:List Int)(g:List Vtx)(l:List Int)(w n:Nat)(hg:GraOK c g)(hl:leaS c l=true)(h1:1≤w)(h2:w≤l.length)(ha:(bM g).at (2*(w:Int)-1) (fO l w)=some n):af Tryz.prog 205 [.agg [.ptr 4 0,.lst (.int .i64) l],.int .i64 (w:Int)] (gR c (bM g)) (.tup [.int .i64 (cR c (zq g l w)),.nili]) (gR c (bM g)):=by
 have hL:=rO c g l w n hg hl h1 h2 ha
 have h7:=(ao.1 hg.com).2
 have hcm:=(ao.1 hg.com).1
 have hll:=(be.1 hl).2
 have hgn:=(dD g).1
 have hfn:=ha
 rw[u7 hg hl h1 h2] at hfn
 obtain⟨k,hk,-,-⟩:=ij hfn
 have hnl:n<(bM g).nodes.length:=by rw[hgn];exact(List.getElem?_eq_some_iff.1 hk).1
 have hr:gM (2*(w:Int)) 0 30=true:=ar.2 (by omega)
 rw[←Hp hg l w]
 refine aa ck Tryz.func205 rfl rfl false 2 6 rfl rfl rfl rfl fun K hK hb1 hb2=>?_;simp only[ae,enc,Nat.reduceAdd]
 clear hb1 hb2
 (repeat' first|refine ku ?_|refine sa fun xe hxe=>?_|refine sb (fun hq=>?_) fun hq=>?_|refine co (hL) ?_|exact True.intro)
 refine ab hK [] [1,2,6,8,25,26,27] (fun i:Nat=>⟨[(1,.int .i64 (w:Int)),(2,.ptr 6 0),(6,.hpo 0 (some n)),(8,.int .i64 (cR c (zj g l w i))),(25,.lst (.int .i64) c),(26,.int .i64 c.length),(27,.int .i64 (i:Int))],Dp c (bM g) (.var 126 [.ptr 4 0,.lst (.int .i64) l]),7⟩) (fun i=>i≤c.length) (fun i=>c.length-i) 0 (Nat.zero_le _) rfl ?_
 intro i hi
 have hwb:=wJ (ms:=zj g l w i) hg.com
 have hwl:=EV g l w i
 by_cases hlt:i<c.length
 ·have hm:bY c i=true:=ar.2 (by omega)
  have hA:=kA c (bM g) (2*(w:Int)) (i:Int) (dD g).2 h7.2 hr hm
  have hfd:=tN hg (ar.1 hr) (a:=(i:Int)) (by omega)
  have hsn:=CE g l w i
  have hwn:=uS c (zj g l w i) (i:Int)
  have hca:c[i]?=some (c.getD i 0):=by rw[List.getD_eq_getElem?_getD,List.getElem?_eq_getElem hlt];rfl
  have hcb:=hcm _ (List.mem_of_getElem? hca)
  rw[show ((i:Int)).toNat=i by omega] at hwn
  cases h3:(bM g).at (2*(w:Int)) (i:Int) with
  |none=>
   have hin1:(none:Option Nat).isNone=true:=rfl
   rw[h3] at hA
   rw[hfd] at h3
   rw[CC h3,if_neg (by simp)] at hsn
   (repeat' first|refine ku ?_|refine sa fun xe hxe=>?_|refine sb (fun hq=>?_) fun hq=>?_|refine co (hA) ?_|exact True.intro)
   exact⟨i+1,by omega,by omega,by rw[hsn];rfl⟩
  |some q=>
   have hin2:(some q:Option Nat).isNone=false:=rfl
   rw[h3] at hA
   rw[hfd] at h3
   obtain⟨v,hv,-,-⟩:=ij h3
   obtain⟨p,hp,hrow⟩:=tO hg hv
   have hvb:=CD hg (l:=l) h3 hv hfn
   rcases hrow with⟨hpn,rfl⟩|⟨r,rfl,hrow⟩
   ·have hC:=EG c (bM g) n
    have e:(pix g v).contains (some n)=false:=by rw[pix,hpn];rfl
    rw[hvb,e,if_neg (by simp)] at hsn
    (repeat' first|refine ku ?_|refine sa fun xe hxe=>?_|refine sb (fun hq=>?_) fun hq=>?_|refine co (hA) ?_|refine co (hC) ?_|exact True.intro)
    exact⟨i+1,by omega,by omega,by rw[hsn];rfl⟩
   ·have hC:=G6 c (bM g) r n (pix g v) hrow (Ec hg hv) hnl (by
     unfold pix
     rw[List.length_map]
     have:=dA (bc (hg.vtx v (List.mem_of_getElem? hv))).2.2.1
     omega)
    rw[hvb] at hsn
    cases hb:(pix g v).contains (some n)
    ·rw[hb] at hC
     rw[hb,if_neg (by simp)] at hsn
     (repeat' first|refine ku ?_|refine sa fun xe hxe=>?_|refine sb (fun hq=>?_) fun hq=>?_|refine co (hA) ?_|refine co (hC) ?_|exact True.intro)
     exact⟨i+1,by omega,by omega,by rw[hsn];rfl⟩
    ·rw[hb] at hC
     rw[hb,if_pos rfl] at hsn
     generalize c.getD i 0=cx at *
     generalize cR c (zj g l w i)=wx at *
     (repeat' first|refine ku ?_|refine sa fun xe hxe=>?_|refine sb (fun hq=>?_) fun hq=>?_|refine co (hA) ?_|refine co (hC) ?_|exact True.intro)
     exact⟨i+1,by omega,by omega,by rw[hsn,hwn];rfl⟩
 ·obtain rfl:i=c.length:=by omega
  (repeat' first|refine ku ?_|refine sa fun xe hxe=>?_|refine sb (fun hq=>?_) fun hq=>?_|exact True.intro)
  exact⟨rfl,rfl⟩
theorem A9 (c:List Int)(hc:comV c=true):af Tryz.prog 68 [.lst (.int .i64) c] [] (.int .i64 (uU c)) []:=by
 have h1:=en hc
 have h3:(jf c).tdiv 3+1=uU c:=rfl
 have h2:=lP hc
 refine aa al Tryz.func68 rfl rfl false 0 4 rfl rfl rfl rfl fun K hK hb1 hb2=>?_;simp only[ae,enc,Nat.reduceAdd]
 (repeat' first|refine st ?_|refine sa fun xe hxe=>?_|refine sb (fun hq=>?_) fun hq=>?_|refine cr (vR _ hc) ?_|exact True.intro)
 exact⟨rfl,rfl⟩
theorem Gj (c:List Int)(g:List Vtx)(l:List Int)(w:Nat)(hg:GraOK c g)(hl:leaS c l=true)(h1:1≤w)(h2:w≤l.length):af Tryz.prog 182 [.agg [.ptr 4 0,.lst (.int .i64) l],.int .i64 (w:Int)] (gR c (bM g)) (.bool (pI c g l w)) (gR c (bM g)):=by
 have hS:=A9 c hg.com
 have hsp:=lP hg.com
 cases hk:j7 g l w with
 |none=>
  have hL:=Gw c g l w hg hl h1 h2 (wU hg hl h1 h2 hk)
  have e:pI c g l w=false:=by
   rw[pI,CF,hk]
   exact decide_eq_false (by simp;omega)
  rw[e]
  refine aa ck Tryz.func182 rfl rfl false 2 6 rfl rfl rfl rfl fun K hK hb1 hb2=>?_;simp only[ae,enc,Nat.reduceAdd]
  clear hb1 hb2
  (repeat' first|refine ku ?_|refine sa fun xe hxe=>?_|refine sb (fun hq=>?_) fun hq=>?_|refine cr (hS) ?_|refine co (hL) ?_|exact True.intro)
  exact⟨rfl,rfl⟩
 |some k=>
  obtain⟨n,hn,-⟩:=np hg hl h1 h2 hk
  have hL:=Gx c g l w n hg hl h1 h2 hn
  have e:pI c g l w=decide (uU c≤cR c (zq g l w)):=by rw[pI,CF,hk];rfl
  rw[e]
  generalize cR c (zq g l w)=x at *
  by_cases hle:uU c≤x
  ·rw[decide_eq_true hle]
   refine aa ck Tryz.func182 rfl rfl false 2 6 rfl rfl rfl rfl fun K hK hb1 hb2=>?_;simp only[ae,enc,Nat.reduceAdd]
   clear hb1 hb2
   (repeat' first|refine ku ?_|refine sa fun xe hxe=>?_|refine sb (fun hq=>?_) fun hq=>?_|refine cr (hS) ?_|refine co (hL) ?_|exact True.intro)
   exact⟨by simp[hle],rfl⟩
  ·rw[decide_eq_false hle]
   refine aa ck Tryz.func182 rfl rfl false 2 6 rfl rfl rfl rfl fun K hK hb1 hb2=>?_;simp only[ae,enc,Nat.reduceAdd]
   clear hb1 hb2
   (repeat' first|refine ku ?_|refine sa fun xe hxe=>?_|refine sb (fun hq=>?_) fun hq=>?_|refine cr (hS) ?_|refine co (hL) ?_|exact True.intro)
   exact⟨by simp[hle],rfl⟩
theorem DK (c:List Int)(l:List Int)(w:Nat)(hc:comV c=true)(hl:leaS c l=true)(h1:1≤w)(h2:w≤l.length):af Tryz.prog 182 [.agg [.ptr 4 0,.lst (.int .i64) l],.int .i64 (w:Int)] (gZ c gz) (.bool false) (gZ c gz):=by
 have hL:=Gy c l w hc hl h1 h2
 refine aa ck Tryz.func182 rfl rfl false 1 5 rfl rfl rfl rfl fun K hK hb1 hb2=>?_;simp only[ae,enc,Nat.reduceAdd]
 clear hb1 hb2
 (repeat' first|refine ku ?_|refine sa fun xe hxe=>?_|refine sb (fun hq=>?_) fun hq=>?_|refine co (hL) ?_|exact True.intro)
 exact⟨rfl,rfl⟩
end Go.Proofs.YthmfppknagbkeaaGreatDoor.Am
namespace Go.Proofs.YthmfppknagbkeaaGreatDoor.Am
open Go
theorem ge {a b:Vtx}:bef a b=true↔a.round<b.round∨(a.round=b.round∧a.author<b.author):=by
 simp only[bef,Bool.or_eq_true,Bool.and_eq_true,decide_eq_true_eq]
theorem zF {a b:Vtx}(c:Vtx)(h:bef a b=true):bef a c=true∨bef c b=true:=by
 rw[ge] at *
 rw[ge]
 omega
theorem kV {a b:Vtx}(h:bef a b=true):bef b a=false:=by
 rw[Bool.eq_false_iff]
 rw[ge] at h
 intro h2
 rw[ge] at h2
 omega
theorem oW {a b c:Vtx}(h1:bef a b=false)(h2:bef b c=false):bef a c=false:=by
 rw[Bool.eq_false_iff]
 intro h
 rcases zF b h with h3|h3
 ·rw[h3] at h1;cases h1
 ·rw[h3] at h2;cases h2
def uH (l:List Vtx)(i j:Nat)(x y:Vtx):List Vtx:=(l.set i y).set j x
theorem yd (l:List Vtx)(i j:Nat)(x y:Vtx):(uH l i j x y).length=l.length:=by simp[uH]
theorem sC {l:List Vtx}{i j:Nat}{x y:Vtx}(hi:l[i]?=some x)(hj:l[j]?=some y)(k:Nat):(uH l i j x y)[k]?=if k=j then some x else if k=i then some y else l[k]?:=by
 have h1:=(List.getElem?_eq_some_iff.1 hi).1
 have h2:=(List.getElem?_eq_some_iff.1 hj).1
 unfold uH
 rw[List.getElem?_set,List.getElem?_set]
 by_cases e1:k=j
 ·subst e1
  rw[if_pos rfl,if_pos (by rw[List.length_set];exact h2),if_pos rfl]
 ·rw[if_neg (by omega),if_neg e1]
  by_cases e2:k=i
  ·subst e2
   rw[if_pos rfl,if_pos h1,if_pos rfl]
  ·rw[if_neg (by omega),if_neg e2]
theorem uI {l:List Vtx}{i j:Nat}{x y:Vtx}(hi:l[i]?=some x)(hj:l[j]?=some y):(uH l i j x y).Perm l:=by
 obtain⟨h1,rfl⟩:=List.getElem?_eq_some_iff.1 hi
 obtain⟨h2,rfl⟩:=List.getElem?_eq_some_iff.1 hj
 exact List.set_set_perm h1 h2
theorem Co {l:List Vtx}{i j n:Nat}{x y:Vtx}(hi:i<n)(hj:j<n):(uH l i j x y).take n=uH (l.take n) i j x y:=by
 unfold uH
 rw[List.take_set,List.take_set]
def Heap (l:List Vtx)(n:Nat):Prop:=∀k x y,0<k→k<n→l[k]?=some x→l[(k-1)/2]?=some y→bef x y=false
theorem yJ {l:List Vtx}{n:Nat}(h:Heap l n)(hn:n≤l.length){r:Vtx}(hr:l[0]?=some r):∀(k:Nat) (x:Vtx),k<n→l[k]?=some x→bef x r=false:=by
 intro k
 induction k using Nat.strongRecOn with
 |ind k ih=>
  intro x hk hx
  by_cases h0:k=0
  ·subst h0
   rw[hr] at hx
   obtain rfl:=Option.some.inj hx
   rw[Bool.eq_false_iff]
   intro h2
   rw[ge] at h2
   omega
  ·have hp:l[(k-1)/2]?=some (l[(k-1)/2]'(by omega)):=List.getElem?_eq_getElem _
   exact oW (h k x _ (by omega) hk hx hp) (ih _ (by omega) _ (by omega) hp)
structure Sft (l0 l:List Vtx)(n i:Nat):Prop where
 len:l.length=l0.length
 perm:(l.take n).Perm (l0.take n)
 rest:∀k,n≤k→l[k]?=l0[k]?
 hp:∀k x y,0<k→k<n→(k-1)/2≠i→l[k]?=some x→l[(k-1)/2]?=some y→bef x y=false
 gp:∀k x y,0<i→0<k→k<n→(k-1)/2=i→l[k]?=some x→l[(i-1)/2]?=some y→bef x y=false
theorem Io {l:List Vtx}{n:Nat}(h:∀k x y,0<k→k<n→(k-1)/2≠0→l[k]?=some x→l[(k-1)/2]?=some y→bef x y=false):Sft l l n 0:=
 ⟨rfl,List.Perm.refl _,fun _ _=>rfl,h,fun _ _ _ h0=>absurd h0 (Nat.lt_irrefl 0)⟩
theorem iv {l0 l:List Vtx}{n i j:Nat}(h:Sft l0 l n i){x y:Vtx}(hi:l[i]?=some x)(hj:l[j]?=some y)(hjn:j<n)(h0:0<j)(hij:(j-1)/2=i)(hb:bef y x=true)
  (hs:∀k z,0<k→k<n→(k-1)/2=i→l[k]?=some z→bef z y=false):Sft l0 (uH l i j x y) n j:=by
 have hin:i<n:=by omega
 have d6:=sC hi hj
 refine⟨by rw[yd,h.len],?_,fun k hk=>?_,fun k a b k0 kn kp ha hbb=>?_,fun k a b j0 k0 kn kp ha hbb=>?_⟩
 ·rw[Co hin hjn]
  refine(uI ?_ ?_).trans h.perm
  ·rw[List.getElem?_take,if_pos hin];exact hi
  ·rw[List.getElem?_take,if_pos hjn];exact hj
 ·rw[d6,if_neg (by omega),if_neg (by omega)]
  exact h.rest k hk
 ·rw[d6] at ha hbb
  rw[if_neg kp] at hbb
  by_cases e1:(k-1)/2=i
  ·rw[if_pos e1] at hbb
   obtain rfl:=Option.some.inj hbb
   by_cases e2:k=j
   ·rw[if_pos e2] at ha
    obtain rfl:=Option.some.inj ha
    exact kV hb
   ·rw[if_neg e2,if_neg (by omega)] at ha
    exact hs k a k0 kn e1 ha
  ·rw[if_neg e1] at hbb
   rw[if_neg (show¬k=j by intro e;rw[e] at e1;exact e1 hij)] at ha
   by_cases e2:k=i
   ·subst e2
    rw[if_pos rfl] at ha
    obtain rfl:=Option.some.inj ha
    exact h.gp j y b k0 h0 hjn hij hj hbb
   ·rw[if_neg e2] at ha
    exact h.hp k a b k0 kn e1 ha hbb
 ·rw[d6] at ha hbb
  rw[hij,if_neg (by omega),if_pos rfl] at hbb
  obtain rfl:=Option.some.inj hbb
  rw[if_neg (by omega),if_neg (by omega)] at ha
  exact h.hp k a y k0 kn (by omega) ha (by rw[kp];exact hj)
theorem EH {l0 l:List Vtx}{n i:Nat}(h:Sft l0 l n i){x:Vtx}(hi:l[i]?=some x)(hs:∀k z,0<k→k<n→(k-1)/2=i→l[k]?=some z→bef z x=false):Heap l n:=fun k a b k0 kn ha hb=>by
 by_cases e:(k-1)/2=i
 ·rw[e,hi] at hb
  obtain rfl:=Option.some.inj hb
  exact hs k a k0 kn e ha
 ·exact h.hp k a b k0 kn e ha hb
theorem AP {l:List Vtx}(h:l.Pairwise fun a b=>bef a b=true):Heap l l.length:=fun k x y k0 kn hx hy=>by
 have h1:=(List.getElem?_eq_some_iff.1 hx)
 have h2:=(List.getElem?_eq_some_iff.1 hy)
 obtain⟨a1,rfl⟩:=h1
 obtain⟨a2,rfl⟩:=h2
 exact kV (List.pairwise_iff_getElem.1 h _ _ a2 a1 (by omega))
theorem yI {s l:List Vtx}{x:Vtx}(hs:(x::s).Pairwise fun a b=>bef a b=true)(hp:l.Perm (x::s))(hh:Heap l l.length){r:Vtx}(hr:l[0]?=some r):r=x:=by
 have hx:x∈l:=hp.mem_iff.2 (by simp)
 obtain⟨k,hk⟩:=List.getElem?_of_mem hx
 have h1:=yJ hh (Nat.le_refl _) hr k x (List.getElem?_eq_some_iff.1 hk).1 hk
 have h2:r∈x::s:=hp.mem_iff.1 (List.mem_of_getElem? hr)
 rcases List.mem_cons.1 h2 with h2|h2
 ·exact h2
 ·have:=(List.pairwise_cons.1 hs).1 r h2
  rw[this] at h1
  cases h1
end Go.Proofs.YthmfppknagbkeaaGreatDoor.Am
namespace Go.Proofs.YthmfppknagbkeaaGreatDoor.Am
open Go
attribute [local irreducible] Mk bk Ari eD ky iB br b8 fY er At af kQ
set_option maxRecDepth 10000
def Θq:TT:=(131,⟨.slice 134,1,24,some .nils,some (.lst .odd),false⟩)::(134,⟨.struct [(48,0,4),(3,4,1)],5,56,some (.agg [.int .i64 0,.int .i64 0,.nils,.int .i64 0,.int .i64 0]),some .odd,false⟩)::(175,⟨.slice 48,1,24,some .nils,some (.lst .vtx),true⟩)::Θe
theorem cm:TT.ok Tryz.prog Θq:=TT.okB_ok (by kernel_rfl)
theorem gH {P Q:Prop}(h:Q)(s:Hid Q→P:=by
  intro h
  (first|(with_reducible first|apply d7|apply dx)|((first|with_reducible apply cM cm|refine go ?_|(with_reducible first|apply dB|apply dt|apply cK|apply cN|refine cL cm mixed (by kernel_rfl) ?_))<;>conv=>whnf))
  repeat(first|(with_reducible first|apply d7|apply dx)|((first|with_reducible apply cM cm|refine go ?_|(with_reducible first|apply dB|apply dt|apply cK|apply cN|refine cL cm mixed (by kernel_rfl) ?_))<;>conv=>whnf))
  exact h.h):P:=s ⟨h⟩
theorem wg (xs:List Vtx):af Tryz.prog 186 [.lst .vtx xs] [] (.int .i64 xs.length) []:=by
 refine aa cm Tryz.func186 rfl rfl false 0 4 rfl rfl rfl rfl fun K hK hb1 hb2=>?_;simp only[ae,enc,Nat.reduceAdd]
 clear hb1 hb2
 (repeat' first|refine gH ?_|refine sa fun xe hxe=>?_|refine sb (fun hq=>?_) fun hq=>?_|exact True.intro)
 exact⟨rfl,rfl⟩
theorem nW (xs:List Vtx)(i j:Nat)(x y:Vtx)(hi:xs[i]?=some x)(hj:xs[j]?=some y):af Tryz.prog 243 [.lst .vtx xs,.int .i64 (i:Int),.int .i64 (j:Int)] [] (.bool (bef x y)) []:=by
 have hB:=rL x y
 refine aa cm Tryz.func243 rfl rfl false 0 4 rfl rfl rfl rfl fun K hK hb1 hb2=>?_;simp only[ae,enc,Nat.reduceAdd]
 clear hb1 hb2
 (repeat' first|refine gH ?_|refine sa fun xe hxe=>?_|refine sb (fun hq=>?_) fun hq=>?_|refine cr (hB) ?_|exact True.intro)
 exact⟨rfl,rfl⟩
theorem sg (xs:List Vtx)(i j:Nat)(x y:Vtx)(hi:xs[i]?=some x)(hj:xs[j]?=some y):af Tryz.prog 246 [.ref 4,.int .i64 (i:Int),.int .i64 (j:Int)] [(4,.row 48 .vtx xs)] (.tup []) [(4,.row 48 .vtx (uH xs i j x y))]:=by
 have hxj:(xs.set i y)[j]?=some (if i=j then y else y):=by
  rw[List.getElem?_set]
  have:=(List.getElem?_eq_some_iff.1 hj).1
  by_cases e:i=j
  ·rw[if_pos e,if_pos (by omega),if_pos e]
  ·rw[if_neg e,if_neg e,hj]
 have h1:=(List.getElem?_eq_some_iff.1 hi).1
 have h2:=(List.getElem?_eq_some_iff.1 hj).1
 have h3:(xs.set i y).length=xs.length:=by simp
 refine aa cm Tryz.func246 rfl rfl false 1 5 rfl rfl rfl rfl fun K hK hb1 hb2=>?_;simp only[ae,enc,Nat.reduceAdd]
 clear hb1 hb2
 (repeat' first|refine gH ?_|refine sa fun xe hxe=>?_|refine sb (fun hq=>?_) fun hq=>?_|exact True.intro)
 exact⟨rfl,rfl⟩
abbrev qB (xs:List Vtx):VH:=[(4,.var 175 [.ref 5]),(5,.row 48 .vtx xs)]
abbrev qG (xs:List Vtx):VH:=[(4,.var 175 [.ref 6]),(5,.gone),(6,.row 48 .vtx xs)]
theorem Ep (xs:List Vtx)(v:Vtx)(hl:xs.length≤1000000):af Tryz.prog 245 [.ptr 4 0,.ifc 48 (bA v)] (qB xs) (.tup []) (qG (xs++[v])):=by
 refine aa cm Tryz.func245 rfl rfl false 2 6 rfl rfl rfl rfl fun K hK hb1 hb2=>?_;simp only[ae,enc,Nat.reduceAdd]
 clear hb1 hb2
 (repeat' first|refine gH ?_|refine sa fun xe hxe=>?_|refine sb (fun hq=>?_) fun hq=>?_|exact True.intro)
 exact⟨rfl,rfl⟩
theorem GY (xs:List Vtx)(n:Nat)(v:Vtx)(hn:xs.length=n+1)(hl:n≤1000000)(hv:xs[n]?=some v):af Tryz.prog 244 [.ptr 4 0] (qB xs) (.ifc 48 (bA v)) (qG (xs.take n)):=by
 have e1:((xs.length:Int)-1).toNat=n:=by omega
 have hx:xs[((xs.length:Int)-1).toNat]?=some v:=by rw[e1];exact hv
 have hcut:fF xs none (some (.int .i64 ((xs.length:Int)-1))) 0 ((xs.length:Int)-1).toNat=xs.take n:=by rw[e1];rfl
 refine aa cm Tryz.func244 rfl rfl false 2 6 rfl rfl rfl rfl fun K hK hb1 hb2=>?_;simp only[ae,enc,Nat.reduceAdd]
 clear hb1 hb2
 (repeat' first|refine gH ?_|refine sa fun xe hxe=>?_|refine sb (fun hq=>?_) fun hq=>?_|exact True.intro)
 exact⟨rfl,by rw[←hcut]⟩
theorem HZ (xs:List Vtx)(j:Nat)(hj:j<xs.length)(hl:xs.length≤1000000)(ha:xs.Pairwise fun a b=>bef a b=true):af Tryz.prog 185 [.ifc 174 (.ptr 4 0),.int .i64 (j:Int)] (qB xs) (.tup []) (qB xs):=by
 have hm : im Tryz.prog 174 "Less" = some (243, false) := by kernel_rfl
 refine aa cm Tryz.func185 rfl rfl false 2 6 rfl rfl rfl rfl fun K hK hb1 hb2=>?_;simp only[ae,enc,Nat.reduceAdd]
 clear hb1 hb2
 (repeat' first|refine gH ?_|refine sa fun xe hxe=>?_|refine sb (fun hq=>?_) fun hq=>?_|exact True.intro)
 refine ab hK [] [0,1] (fun _:Unit=>⟨[(0,.ifc 174 (.ptr 4 0)),(1,.int .i64 (j:Int))],qB xs,6⟩) (fun _=>True) (fun _=>0) () trivial rfl ?_
 intro _ _
 cases j with
 |zero=>
  have hq0:(((0:Nat):Int)-1).tdiv 2=((0:Nat):Int):=by decide
  (repeat' first|refine gH ?_|refine sa fun xe hxe=>?_|refine sb (fun hq=>?_) fun hq=>?_|exact True.intro)
  (try any_goals(first|exact absurd trivial hq|exact absurd rfl hq|exact absurd hq (by omega)|(exfalso;simp at hq;done)))
  exact⟨rfl,rfl⟩
 |succ j=>
  have e:(((j+1:Nat):Int)-1).tdiv 2=((j/2:Nat):Int):=by
   rw[Int.tdiv_eq_ediv_of_nonneg (by omega)]
   omega
  have hx:xs[j+1]?=some xs[j+1]:=List.getElem?_eq_getElem hj
  have hp:j/2<xs.length:=by omega
  have hy:xs[j/2]?=some xs[j/2]:=List.getElem?_eq_getElem hp
  have hL:=nW xs (j+1) (j/2) xs[j+1] xs[j/2] hx hy
  rw[kV (List.pairwise_iff_getElem.1 ha _ _ hp hj (by omega)),←e] at hL
  have hne:¬(((j+1:Nat):Int)-1).tdiv 2=((j+1:Nat):Int):=by rw[e];omega
  (repeat' first|refine gH ?_|refine sa fun xe hxe=>?_|refine sb (fun hq=>?_) fun hq=>?_|refine cr (hL) ?_|exact True.intro)
  (try any_goals(first|exact absurd trivial hq|exact absurd rfl hq|exact absurd hq (by omega)|(exfalso;simp at hq;done)))
  exact⟨rfl,rfl⟩
theorem DB (xs:List Vtx)(v:Vtx)(hl:xs.length≤100000)(ha:(xs++[v]).Pairwise fun a b=>bef a b=true):af Tryz.prog 145 [.ifc 174 (.ptr 4 0),.ifc 48 (bA v)] (qB xs) (.tup []) (qG (xs++[v])):=by
 have hm : im Tryz.prog 174 "Push" = some (245, true) := by kernel_rfl
 have hm2 : im Tryz.prog 174 "Len" = some (186, false) := by kernel_rfl
 have hP:=Ep xs v (by omega)
 have hN:=wg (xs++[v])
 have hpl:(xs++[v]).length=xs.length+1:=by simp
 have hU:=HZ (xs++[v]) xs.length (by omega) (by omega) ha
 have e:(((xs++[v]).length:Nat):Int)-1=(xs.length:Int):=by omega
 rw[←e] at hU
 refine aa cm Tryz.func145 rfl rfl false 2 6 rfl rfl rfl rfl fun K hK hb1 hb2=>?_;simp only[ae,enc,Nat.reduceAdd]
 clear hb1 hb2
 (repeat' first|refine gH ?_|refine sa fun xe hxe=>?_|refine sb (fun hq=>?_) fun hq=>?_|refine cr (hN) ?_|refine co (hP) ?_|refine co (hU) ?_|exact True.intro)
 exact⟨rfl,rfl⟩
structure SDone (l0 l:List Vtx)(n:Nat):Prop where
 len:l.length=l0.length
 perm:(l.take n).Perm (l0.take n)
 rest:∀k,n≤k→l[k]?=l0[k]?
 heap:Heap l n
theorem pm {l0 l:List Vtx}{n i:Nat}(h:Sft l0 l n i)(hn:n≤2*i+1):SDone l0 l n:=by
 refine⟨h.len,h.perm,h.rest,?_⟩
 intro k a b k0 kn ha hb
 exact h.hp k a b k0 kn (by omega) ha hb
theorem iw {l0 l:List Vtx}{n i:Nat}(h:Sft l0 l n i){x y:Vtx}(hi:l[i]?=some x)(hb:bef y x=false)(hs:∀k z,0<k→k<n→(k-1)/2=i→l[k]?=some z→bef z y=false):SDone l0 l n:=
 ⟨h.len,h.perm,h.rest,EH h hi fun k z k0 kn kp hz=>oW (hs k z k0 kn kp hz) hb⟩
theorem Fa {l:List Vtx}{n i:Nat}{a b:Vtx}(ha:l[2*i+1]?=some a)(hb:l[2*i+2]?=some b)(h:bef b a=true):∀k z,0<k→k<n→(k-1)/2=i→l[k]?=some z→bef z b=false:=fun k z k0 kn kp hz=>by
 rcases (show k=2*i+1∨k=2*i+2 by omega) with rfl|rfl
 ·rw[ha] at hz
  obtain rfl:=Option.some.inj hz
  exact kV h
 ·rw[hb] at hz
  obtain rfl:=Option.some.inj hz
  rw[Bool.eq_false_iff]
  intro h2
  rw[ge] at h2
  omega
theorem wW {l:List Vtx}{n i:Nat}{a:Vtx}(ha:l[2*i+1]?=some a)(h:∀b,2*i+2<n→l[2*i+2]?=some b→bef b a=false):∀k z,0<k→k<n→(k-1)/2=i→l[k]?=some z→bef z a=false:=fun k z k0 kn kp hz=>by
 rcases (show k=2*i+1∨k=2*i+2 by omega) with rfl|rfl
 ·rw[ha] at hz
  obtain rfl:=Option.some.inj hz
  rw[Bool.eq_false_iff]
  intro h2
  rw[ge] at h2
  omega
 ·exact h z kn hz
theorem G9 {l0:List Vtx}{n:Nat}(hn:n≤l0.length):∀(m i:Nat) (l:List Vtx),n-i≤m→i<l0.length→Sft l0 l n i→∃ys,SDone l0 ys n:=by
 intro m
 induction m with
 |zero=>exact fun i l hm _ h=>⟨l,pm h (by omega)⟩
 |succ m ih=>
  intro i l hm hil h
  have hlen:=h.len
  by_cases h1:n≤2*i+1
  ·exact⟨l,pm h h1⟩
  have hx:l[i]?=some (l[i]'(by omega)):=List.getElem?_eq_getElem _
  have ha:l[2*i+1]?=some (l[2*i+1]'(by omega)):=List.getElem?_eq_getElem _
  generalize l[i]'(by omega)=x at *
  generalize l[2*i+1]'(by omega)=a at *
  by_cases h2:2*i+2<n
  ·have hb:l[2*i+2]?=some (l[2*i+2]'(by omega)):=List.getElem?_eq_getElem _
   generalize l[2*i+2]'(by omega)=b at *
   cases h3:bef b a
   ·have hs:=wW (n:=n) ha fun b' _ hb'=>by rw[hb] at hb';obtain rfl:=Option.some.inj hb';exact h3
    cases h4:bef a x
    ·exact⟨l,iw h hx h4 hs⟩
    ·exact ih _ _ (by omega) (by omega) (iv h hx ha (by omega) (by omega) (by omega) h4 hs)
   ·have hs:=Fa (n:=n) ha hb h3
    cases h4:bef b x
    ·exact⟨l,iw h hx h4 hs⟩
    ·exact ih _ _ (by omega) (by omega) (iv h hx hb (by omega) (by omega) (by omega) h4 hs)
  ·have hs:=wW (n:=n) ha fun b' h5 _=>absurd h5 h2
   cases h4:bef a x
   ·exact⟨l,iw h hx h4 hs⟩
   ·exact ih _ _ (by omega) (by omega) (iv h hx ha (by omega) (by omega) (by omega) h4 hs)
set_option maxHeartbeats 1000000 in
theorem Dz (zs:List Vtx)(n:Nat)(hn:n≤zs.length)(h0:0<zs.length)(hl:zs.length≤100000)(hS:Sft zs zs n 0):∃x:List Vtx×Bool,SDone zs x.1 n∧af Tryz.prog 208 [.ifc 174 (.ptr 4 0),.int .i64 0,.int .i64 (n:Int)] (qB zs) (.bool x.2) (qB x.1):=by
 obtain⟨y0,hy0⟩:=G9 hn n 0 zs (by omega) h0 hS
 suffices hs:∃r hout,(∃x:List Vtx×Bool,SDone zs x.1 n∧r= .bool x.2∧hout=qB x.1)∧af Tryz.prog 208 [.ifc 174 (.ptr 4 0),.int .i64 0,.int .i64 (n:Int)] (qB zs) r hout by
  obtain⟨r,hout,⟨v,hv,rfl,rfl⟩,h⟩:=hs
  exact⟨v,hv,h⟩
 have hm : im Tryz.prog 174 "Less" = some (243, false) := by kernel_rfl
 have hm2 : im Tryz.prog 174 "Swap" = some (246, false) := by kernel_rfl
 refine dM cm Tryz.func208 rfl rfl false 2 6 rfl rfl rfl rfl (R:=fun r hout=>∃x:List Vtx×Bool,SDone zs x.1 n∧r= .bool x.2∧hout=qB x.1) (r0:=.bool true) (hout0:=qB y0) (⟨(y0,true),hy0,rfl,rfl⟩) fun K hK hb1 hb2=>?_;simp only[ae,enc,Nat.reduceAdd]
 clear hb1 hb2
 (repeat' first|refine gH ?_|refine sa fun xe hxe=>?_|refine sb (fun hq=>?_) fun hq=>?_|exact True.intro)
 refine ab hK [] [0,1,2,7] (fun x:Nat×List Vtx=>⟨[(0,.ifc 174 (.ptr 4 0)),(1,.int .i64 0),(2,.int .i64 (n:Int)),(7,.int .i64 (x.1:Int))],qB x.2,6⟩) (fun x=>Sft zs x.2 n x.1∧x.1<zs.length) (fun x=>zs.length-x.1) (0,zs) ⟨hS,h0⟩ rfl ?_
 rintro⟨i,l⟩ ⟨h,hil⟩
 dsimp only at h hil⊢
 have hlen:=h.len
 by_cases h1:n≤2*i+1
 ·have hd:=pm h h1
  (repeat' first|refine gH ?_|refine sa fun xe hxe=>?_|refine sb (fun hq=>?_) fun hq=>?_|exact True.intro)
  (try any_goals(first|exact absurd trivial hq|exact absurd rfl hq|exact absurd hq (by omega)|(exfalso;simp at hq;done)))
  exact⟨(l,_),hd,rfl,rfl⟩
 have hx:l[i]?=some (l[i]'(by omega)):=List.getElem?_eq_getElem _
 have ha:l[2*i+1]?=some (l[2*i+1]'(by omega)):=List.getElem?_eq_getElem _
 generalize l[i]'(by omega)=x at *
 generalize l[2*i+1]'(by omega)=a at *
 have e1:((2*i+1:Nat):Int)=2*(i:Int)+1:=by omega
 have e2:((2*i+2:Nat):Int)=2*(i:Int)+1+1:=by omega
 have hLa:=nW l (2*i+1) i a x ha hx
 have hSa:=sg l i (2*i+1) x a hx ha
 rw[e1] at hLa hSa
 by_cases h2:2*i+2<n
 ·have hb:l[2*i+2]?=some (l[2*i+2]'(by omega)):=List.getElem?_eq_getElem _
  generalize l[2*i+2]'(by omega)=b at *
  have hLb:=nW l (2*i+2) (2*i+1) b a hb ha
  have hLc:=nW l (2*i+2) i b x hb hx
  have hSb:=sg l i (2*i+2) x b hx hb
  rw[e2,e1] at hLb
  rw[e2] at hLc hSb
  cases h3:bef b a
  ·have hs:=wW (n:=n) ha fun b' _ hb'=>by rw[hb] at hb';obtain rfl:=Option.some.inj hb';exact h3
   rw[h3] at hLb
   cases h4:bef a x
   ·have hd:=iw h hx h4 hs
    rw[h4] at hLa
    (repeat' first|refine gH ?_|refine sa fun xe hxe=>?_|refine sb (fun hq=>?_) fun hq=>?_|refine cr (hLb) ?_|refine cr (hLa) ?_|exact True.intro)
    (try any_goals(first|exact absurd trivial hq|exact absurd rfl hq|exact absurd hq (by omega)|(exfalso;simp at hq;done)))
    exact⟨(l,_),hd,rfl,rfl⟩
   ·have hst:=iv h hx ha (by omega) (by omega) (by omega) h4 hs
    rw[h4] at hLa
    generalize uH l i (2*i+1) x a=l2 at *
    (repeat' first|refine gH ?_|refine sa fun xe hxe=>?_|refine sb (fun hq=>?_) fun hq=>?_|refine cr (hLb) ?_|refine cr (hLa) ?_|refine co (hSa) ?_|exact True.intro)
    (try any_goals(first|exact absurd trivial hq|exact absurd rfl hq|exact absurd hq (by omega)|(exfalso;simp at hq;done)))
    exact⟨(2*i+1,l2),⟨hst,by dsimp only;omega⟩,by dsimp only;omega,by dsimp only;rw[e1]⟩
  ·have hs:=Fa (n:=n) ha hb h3
   rw[h3] at hLb
   cases h4:bef b x
   ·have hd:=iw h hx h4 hs
    rw[h4] at hLc
    (repeat' first|refine gH ?_|refine sa fun xe hxe=>?_|refine sb (fun hq=>?_) fun hq=>?_|refine cr (hLb) ?_|refine cr (hLc) ?_|exact True.intro)
    (try any_goals(first|exact absurd trivial hq|exact absurd rfl hq|exact absurd hq (by omega)|(exfalso;simp at hq;done)))
    exact⟨(l,_),hd,rfl,rfl⟩
   ·have hst:=iv h hx hb (by omega) (by omega) (by omega) h4 hs
    rw[h4] at hLc
    generalize uH l i (2*i+2) x b=l2 at *
    (repeat' first|refine gH ?_|refine sa fun xe hxe=>?_|refine sb (fun hq=>?_) fun hq=>?_|refine cr (hLb) ?_|refine cr (hLc) ?_|refine co (hSb) ?_|exact True.intro)
    (try any_goals(first|exact absurd trivial hq|exact absurd rfl hq|exact absurd hq (by omega)|(exfalso;simp at hq;done)))
    exact⟨(2*i+2,l2),⟨hst,by dsimp only;omega⟩,by dsimp only;omega,by dsimp only;rw[e2]⟩
 ·have hs:=wW (n:=n) ha fun b' h5 _=>absurd h5 h2
  cases h4:bef a x
  ·have hd:=iw h hx h4 hs
   rw[h4] at hLa
   (repeat' first|refine gH ?_|refine sa fun xe hxe=>?_|refine sb (fun hq=>?_) fun hq=>?_|refine cr (hLa) ?_|exact True.intro)
   (try any_goals(first|exact absurd trivial hq|exact absurd rfl hq|exact absurd hq (by omega)|(exfalso;simp at hq;done)))
   exact⟨(l,_),hd,rfl,rfl⟩
  ·have hst:=iv h hx ha (by omega) (by omega) (by omega) h4 hs
   rw[h4] at hLa
   generalize uH l i (2*i+1) x a=l2 at *
   (repeat' first|refine gH ?_|refine sa fun xe hxe=>?_|refine sb (fun hq=>?_) fun hq=>?_|refine cr (hLa) ?_|refine co (hSa) ?_|exact True.intro)
   (try any_goals(first|exact absurd trivial hq|exact absurd rfl hq|exact absurd hq (by omega)|(exfalso;simp at hq;done)))
   exact⟨(2*i+1,l2),⟨hst,by dsimp only;omega⟩,by dsimp only;omega,by dsimp only;rw[e1]⟩
theorem EP {xs:List Vtx}{n:Nat}{r y:Vtx}(hn:xs.length=n+1)(hh:Heap xs xs.length)(hr:xs[0]?=some r)(hy:xs[n]?=some y):Sft (uH xs 0 n r y) (uH xs 0 n r y) n 0:=by
 refine Io fun k a b k0 kn kp ha hb=>?_
 rw[sC hr hy,if_neg (by omega),if_neg (by omega)] at ha
 rw[sC hr hy,if_neg (by omega),if_neg kp] at hb
 exact hh k a b k0 (by omega) ha hb
theorem F9 (xs:List Vtx)(n:Nat)(r:Vtx)(hn:xs.length=n+1)(hl:n≤10000)(hh:Heap xs xs.length)(hr:xs[0]?=some r):∃ys:List Vtx,(ys.length=n∧Heap ys n∧(r::ys).Perm xs)∧af Tryz.prog 187 [.ifc 174 (.ptr 4 0)] (qB xs) (.ifc 48 (bA r)) (qG ys):=by
 have hm : im Tryz.prog 174 "Pop" = some (244, true) := by kernel_rfl
 have hm2 : im Tryz.prog 174 "Len" = some (186, false) := by kernel_rfl
 have hm3 : im Tryz.prog 174 "Swap" = some (246, false) := by kernel_rfl
 have hy:xs[n]?=some (xs[n]'(by omega)):=List.getElem?_eq_getElem _
 generalize xs[n]'(by omega)=y at *
 have hsf:=EP hn hh hr hy
 have hsp:=uI hr hy
 have uT:=yd xs 0 n r y
 have hsn:(uH xs 0 n r y)[n]?=some r:=by rw[sC hr hy,if_pos rfl]
 have hS:=sg xs 0 n r y hr hy
 generalize uH xs 0 n r y=zs at *
 obtain⟨⟨l,b⟩,hd,hD⟩:=Dz zs n (by omega) (by omega) (by omega) hsf
 dsimp only at hd hD
 have hll:=hd.len
 have hln:l[n]?=some r:=by rw[hd.rest n (Nat.le_refl _)];exact hsn
 have hP:=GY l n r (by omega) (by omega) hln
 have hN:=wg xs
 have e:((xs.length:Int)-1)=(n:Int):=by omega
 rw[←e] at hS hD
 have hzt:zs=zs.take n++[r]:=by
  have h1:zs=zs.take (n+1):=(List.take_of_length_le (by omega)).symm
  obtain⟨h2,h3⟩:=List.getElem?_eq_some_iff.1 hsn
  rw[List.take_succ_eq_append_getElem h2,h3] at h1
  exact h1
 refine⟨l.take n,⟨by rw[List.length_take];omega,?_,?_⟩,?_⟩
 ·intro k a b' k0 kn ha hb
  rw[List.getElem?_take,if_pos kn] at ha
  rw[List.getElem?_take,if_pos (by omega)] at hb
  exact hd.heap k a b' k0 kn ha hb
 ·have h1:(r::l.take n).Perm (r::zs.take n):=List.Perm.cons r hd.perm
  have h2:(r::zs.take n).Perm (zs.take n++[r]):=by
   have:=List.perm_append_comm (l₁:=[r]) (l₂:=zs.take n)
   simpa using this
  rw[←hzt] at h2
  exact h1.trans (h2.trans hsp)
 ·clear hzt
  refine aa cm Tryz.func187 rfl rfl false 2 6 rfl rfl rfl rfl fun K hK hb1 hb2=>?_;simp only[ae,enc,Nat.reduceAdd]
  clear hb1 hb2
  (repeat' first|refine gH ?_|refine sa fun xe hxe=>?_|refine sb (fun hq=>?_) fun hq=>?_|refine cr (hN) ?_|refine co (hS) ?_|refine co (hD) ?_|refine co (hP) ?_|exact True.intro)
  exact⟨rfl,rfl⟩
def Ig (w:Int)(m:Nat)(ys:List Vtx)(os:List Odd):VSt:=match m with
 |0=>⟨[(0,.ptr 4 0),(1,.int .i64 w),(5,.ref 6)],qB ys++[(6,.row 134 .odd os)],7⟩
 |_+1=>⟨[(0,.ptr 4 0),(1,.int .i64 w),(5,.ref 6)],[(4,.var 175 [.ref 7]),(5,.gone),(6,.row 134 .odd os),(7,.row 48 .vtx ys)],8⟩
def qE (s:List Vtx):VH:=if s=[] then qB [] else qG []
theorem Db (s xs:List Vtx)(w:Int)(hl:s.length≤10000)(hs:s.Pairwise fun a b=>bef a b=true)(hp:xs.Perm s)(hh:Heap xs xs.length):af Tryz.prog 146 [.ptr 4 0,.int .i64 w] (qB xs) (.lst .odd (s.map fun v=>⟨v,w⟩)) (qE s):=by
 refine aa cm Tryz.func146 rfl rfl true 2 6 rfl rfl rfl rfl fun K hK hb1 hb2=>?_;simp only[ae,enc,Nat.reduceAdd]
 clear hb1 hb2
 (repeat' first|refine gH ?_|refine sa fun xe hxe=>?_|refine sb (fun hq=>?_) fun hq=>?_|exact True.intro)
 refine ab hK [] [0,1,5] (fun x:Nat×List Vtx=>Ig w x.1 x.2 ((s.take x.1).map fun v=>⟨v,w⟩)) (fun x=>x.1≤s.length∧x.2.Perm (s.drop x.1)∧Heap x.2 x.2.length) (fun x=>s.length-x.1) (0,xs) ⟨Nat.zero_le _,by simpa using hp,hh⟩ rfl ?_
 rintro⟨m,ys⟩ ⟨hm,hpm,hhm⟩
 dsimp only at hm hpm hhm⊢
 have hyl:ys.length=s.length-m:=by rw[hpm.length_eq,List.length_drop]
 have hN:=wg ys
 by_cases hlt:m<s.length
 ·obtain⟨v,hv⟩:∃v,s[m]?=some v:=⟨_,List.getElem?_eq_getElem hlt⟩
  have hvd:s.drop m=v::s.drop (m+1):=by
   obtain⟨h1,h2⟩:=List.getElem?_eq_some_iff.1 hv
   rw[←h2]
   exact List.drop_eq_getElem_cons h1
  have h3:s.take (m+1)=s.take m++[v]:=by
   obtain⟨h1,h2⟩:=List.getElem?_eq_some_iff.1 hv
   rw[←h2]
   exact List.take_succ_eq_append_getElem h1
  have hr:ys[0]?=some (ys[0]'(by omega)):=List.getElem?_eq_getElem _
  have hrv:ys[0]'(by omega)=v:=yI (s:=s.drop (m+1)) (x:=v) (by rw[←hvd];exact hs.sublist (List.drop_sublist _ _)) (by rw[←hvd];exact hpm) hhm hr
  rw[hrv] at hr
  obtain⟨zs,⟨z1,z2,z3⟩,hP⟩:=F9 ys (ys.length-1) v (by omega) (by omega) hhm hr
  have hzp:zs.Perm (s.drop (m+1)):=by
   have:=z3.trans hpm
   rw[hvd] at this
   exact List.Perm.cons_inv this
  have hsn:(s.take (m+1)).map (fun v=>(⟨v,w⟩:Odd))=(s.take m).map (fun v=>(⟨v,w⟩:Odd))++[⟨v,w⟩]:=by rw[h3,List.map_append];rfl
  have htl:((s.take m).map (fun v=>(⟨v,w⟩:Odd))).length=m:=by simp;omega
  generalize hA:(s.take m).map (fun v=>(⟨v,w⟩:Odd))=A at *
  cases m with
  |zero=>
   unfold Ig
   (repeat' first|refine gH ?_|refine sa fun xe hxe=>?_|refine sb (fun hq=>?_) fun hq=>?_|refine cr (hN) ?_|refine co (hP) ?_|exact True.intro)
   (try any_goals(first|exact absurd trivial hq|exact absurd rfl hq|exact absurd hq (by omega)|(exfalso;simp at hq;done)))
   exact⟨(0+1,zs),⟨by dsimp only;omega,hzp,by dsimp only;rw[z1];exact z2⟩,by dsimp only;omega,by dsimp only;rw[hsn]⟩
  |succ m=>
   unfold Ig
   (repeat' first|refine gH ?_|refine sa fun xe hxe=>?_|refine sb (fun hq=>?_) fun hq=>?_|refine cr (hN) ?_|refine co (hP) ?_|exact True.intro)
   (try any_goals(first|exact absurd trivial hq|exact absurd rfl hq|exact absurd hq (by omega)|(exfalso;simp at hq;done)))
   exact⟨(m+1+1,zs),⟨by dsimp only;omega,hzp,by dsimp only;rw[z1];exact z2⟩,by dsimp only;omega,by dsimp only;rw[hsn]⟩
 ·obtain rfl:m=s.length:=by omega
  rw[List.take_length]
  have hy0:ys=[]:=List.length_eq_zero_iff.1 (by omega)
  subst hy0
  cases hsc:s with
  |nil=>
   subst hsc
   unfold Ig
   (repeat' first|refine gH ?_|refine sa fun xe hxe=>?_|refine sb (fun hq=>?_) fun hq=>?_|refine cr (hN) ?_|exact True.intro)
   (try any_goals(first|exact absurd trivial hq|exact absurd rfl hq|exact absurd hq (by omega)|(exfalso;simp at hq;done)))
   exact⟨rfl,rfl⟩
  |cons v s'=>
   have hE:qE (v::s')=qG []:=by unfold qE;rw[if_neg (by simp)]
   rw[hE]
   generalize (v::s').map (fun v=>(⟨v,w⟩:Odd))=A at *
   simp only[List.length_cons]
   unfold Ig
   (repeat' first|refine gH ?_|refine sa fun xe hxe=>?_|refine sb (fun hq=>?_) fun hq=>?_|refine cr (hN) ?_|exact True.intro)
   (try any_goals(first|exact absurd trivial hq|exact absurd rfl hq|exact absurd hq (by omega)|(exfalso;simp at hq;done)))
   exact⟨rfl,rfl⟩
end Go.Proofs.YthmfppknagbkeaaGreatDoor.Am
namespace Go.Proofs.YthmfppknagbkeaaGreatDoor.Am
open Go
noncomputable def oddTo (g:List Vtx) (l:List Int):List Odd→List Nat→List Odd
 |os,[]=>os
 |os,w::ws=>oddTo g l (os++(ordW g l (os.map (·.v)) w).map fun v=>⟨v,(w:Int)⟩) ws
theorem xM (g:List Vtx)(l:List Int):∀(ws:List Nat) (os:List Odd),(oddTo g l os ws).map (·.v)=ordTo g l (os.map (·.v)) ws
 |[],os=>rfl
 |w::ws,os=>by
  rw[oddTo,xM g l ws,iM,List.map_append,List.map_map]
  congr 2
  exact List.map_id _
theorem qq (g:List Vtx)(l:List Int):∀(ws ws':List Nat) (os:List Odd),oddTo g l os (ws++ws')=oddTo g l (oddTo g l os ws) ws'
 |[],_,_=>rfl
 |w::ws,ws',os=>qq g l ws ws' _
open Classical in
noncomputable def dnF (g os:List Vtx):List Bool:=g.map fun v=>decide (v∈os)
open Classical in
theorem z9 {g os:List Vtx}{i:Nat}{v:Vtx}(h:g[i]?=some v):(dnF g os)[i]?=some (decide (v∈os)):=by rw[dnF,List.getElem?_map,h];rfl
theorem xa (g os:List Vtx):(dnF g os).length=g.length:=by simp[dnF]
open Classical in
theorem C9 {c:List Int}{g:List Vtx}(hg:GraOK c g){os:List Vtx}{i:Nat}{v:Vtx}(h:g[i]?=some v):(dnF g os).set i true=dnF g (os++[v]):=by
 refine List.ext_getElem? fun k=>?_
 rw[List.getElem?_set,xa]
 have hi:=(List.getElem?_eq_some_iff.1 h).1
 by_cases e:i=k
 ·subst e
  rw[if_pos rfl,if_pos hi,z9 h,decide_eq_true (by simp)]
 ·rw[if_neg e,dnF,dnF,List.getElem?_map,List.getElem?_map]
  cases hk:g[k]? with
  |none=>rfl
  |some x=>
   simp only[Option.map_some,Option.some.injEq]
   rw[Bool.eq_iff_iff,decide_eq_true_iff,decide_eq_true_iff,List.mem_append,List.mem_singleton]
   refine⟨.inl,fun hx=>?_⟩
   rcases hx with hx|rfl
   ·exact hx
   ·exact absurd (AE hg h hk) e
open Classical in
theorem HT (g:List Vtx):dnF g []=List.replicate g.length false:=by
 refine List.ext_getElem (by simp[dnF]) fun k h1 h2=>?_
 simp[dnF]
open Classical in
noncomputable def pvx (g:List Vtx) (k:Vtx):List Vtx:=g.filter fun v=>decide (Rv g k v)
open Classical in
theorem Eo (g:List Vtx)(k:Vtx):(pvx g k).length=(pst g k).length:=by
 unfold pvx pst
 rw[List.length_map]
 have e:g=(List.range g.length).map fun i=>g.getD i v0:=by
  refine List.ext_getElem (by simp) fun i h1 h2=>?_
  simp[List.getD_eq_getElem?_getD,List.getElem?_eq_getElem h1]
 conv=>lhs;rw[e]
 rw[List.filter_map,List.length_map]
 simp only[←e]
 rfl
open Classical in
theorem GW {g:List Vtx}{k:Vtx}{j:Nat}{x:Int}(h:(pst g k)[j]?=some x):∃i:Nat,x=i∧∃v,g[i]?=some v∧(pvx g k)[j]?=some v:=by
 have hm:=xV.1 (List.mem_of_getElem? h)
 obtain⟨i,hi,v,hv,-⟩:=hm
 refine⟨i,hi,v,hv,?_⟩
 have e:g=(List.range g.length).map fun i=>g.getD i v0:=by
  refine List.ext_getElem (by simp) fun i h1 h2=>?_
  simp[List.getD_eq_getElem?_getD,List.getElem?_eq_getElem h1]
 have e2:pvx g k=((List.range g.length).filter fun i=>decide (Rv g k (g.getD i v0))).map fun i=>g.getD i v0:=by
  unfold pvx
  conv=>lhs;rw[e]
  rw[List.filter_map]
  simp only[←e]
  rfl
 have e3:pst g k=((List.range g.length).filter fun i=>decide (Rv g k (g.getD i v0))).map fun i:Nat=>(i:Int):=rfl
 rw[e3,List.getElem?_map] at h
 rw[e2,List.getElem?_map]
 cases hf:((List.range g.length).filter fun i=>decide (Rv g k (g.getD i v0)))[j]? with
 |none=>rw[hf] at h;cases h
 |some m=>
  rw[hf] at h
  have hm:(m:Int)=x:=Option.some.inj h
  obtain rfl:m=i:=by omega
  simp[List.getD_eq_getElem?_getD,hv]
open Classical in
noncomputable def qvx (g:List Vtx) (k:Vtx) (w:Nat) (os:List Vtx) (j:Nat):List Vtx:=((pvx g k).take j).filter fun v=>decide (2*(w:Int)-7≤v.round) && decide (v∉os)
open Classical in
theorem BT {g:List Vtx}{k v:Vtx}{w:Nat}{os:List Vtx}{j:Nat}(h:(pvx g k)[j]?=some v):qvx g k w os (j+1)=if 2*(w:Int)-7≤v.round∧v∉os then qvx g k w os j++[v] else qvx g k w os j:=by
 obtain⟨h1,h2⟩:=List.getElem?_eq_some_iff.1 h
 unfold qvx
 rw[List.take_succ_eq_append_getElem h1,h2,List.filter_append,List.filter_cons,List.filter_nil]
 by_cases c1:2*(w:Int)-7≤v.round<;>by_cases c2:v∉os<;>simp[c1,c2]
open Classical in
theorem Er {g:List Vtx}{l:List Int}{k:Vtx}{w:Nat}{os:List Vtx}(hk:j7 g l w=some k):qvx g k w os (pvx g k).length=ordW g l os w:=by
 unfold qvx ordW
 rw[hk,List.take_length,pvx,List.filter_filter]
 refine List.filter_congr fun v _=>?_
 exact Bool.and_comm _ _
theorem xW {c:List Int}{g:List Vtx}(hg:GraOK c g)(k:Vtx)(w:Nat)(os:List Vtx)(j:Nat):(qvx g k w os j).Pairwise fun a b=>bef a b=true:=
 hg.pw.sublist (((List.filter_sublist).trans (List.take_sublist _ _)).trans (List.filter_sublist))
theorem Et (g:List Vtx)(k:Vtx)(w:Nat)(os:List Vtx)(j:Nat):(qvx g k w os j).length≤g.length:=by
 unfold qvx pvx
 refine Nat.le_trans (List.length_filter_le _ _) ?_
 rw[List.length_take]
 exact Nat.le_trans (Nat.min_le_right _ _) (List.length_filter_le _ _)
theorem Eu {c:List Int}{g:List Vtx}(hg:GraOK c g){k v:Vtx}{w:Nat}{os:List Vtx}{j:Nat}(h:(pvx g k)[j]?=some v):v∉qvx g k w os j:=fun hm=>by
 have h1:=(List.mem_filter.1 hm).1
 obtain⟨i,hi,rfl⟩:=List.getElem_of_mem h1
 rw[List.length_take] at hi
 rw[List.getElem_take] at h
 obtain⟨h2,h3⟩:=List.getElem?_eq_some_iff.1 h
 have hp:(pvx g k).Pairwise fun a b=>bef a b=true:=hg.pw.sublist List.filter_sublist
 have:=List.pairwise_iff_getElem.1 hp i j (by omega) h2 (by omega)
 rw[h3,ge] at this
 omega
end Go.Proofs.YthmfppknagbkeaaGreatDoor.Am
namespace Go.Proofs.YthmfppknagbkeaaGreatDoor.Am
open Go
attribute [local irreducible] Mk bk Ari eD ky iB br b8 fY er At af
set_option maxRecDepth 10000
def ct (ws:List Nat):List Int:=ws.map fun w:Nat=>(w:Int)
theorem qg (a b:List Nat):ct (a++b)=ct a++ct b:=by simp[ct]
theorem j5 (a:List Nat):(ct a).length=a.length:=by simp[ct]
theorem El {c:List Int}{g:List Vtx}(hg:GraOK c g){u v:Vtx}{n:Nat}(hv:g[n]?=some v):(pst g u).contains (n:Int)=true↔Rv g u v:=by
 rw[List.contains_iff_mem,xV]
 constructor
 ·rintro⟨i,hi,x,hx,hr⟩
  obtain rfl:n=i:=by omega
  rw[hv] at hx
  obtain rfl:=Option.some.inj hx
  exact hr
 ·intro hr
  exact⟨n,rfl,v,hv,hr⟩
theorem GU (g:List Vtx)(u:Vtx):(pst g u).Pairwise (· ≤ ·):=(Ek g u).imp fun h=>Int.le_of_lt h
open Classical in
theorem Ab {g:List Vtx}{l:List Int}{last x:Nat}(h:x≤last)(cur:Vtx):dwn g l last x cur=[]:=by
 cases x with
 |zero=>rfl
 |succ x=>unfold dwn;rw[if_pos h]
open Classical in
theorem FO {g:List Vtx}{l:List Int}{last x:Nat}(h:last<x+1){cur:Vtx}(hk:j7 g l (x+1)=none):dwn g l last (x+1) cur=dwn g l last x cur:=by
 conv=>lhs;unfold dwn
 rw[if_neg (by omega),hk]
open Classical in
theorem Aa {g:List Vtx}{l:List Int}{last x:Nat}(h:last<x+1){cur k:Vtx}(hk:j7 g l (x+1)=some k)(hr:¬Rv g cur k):dwn g l last (x+1) cur=dwn g l last x cur:=by
 conv=>lhs;unfold dwn
 rw[if_neg (by omega),hk]
 exact if_neg hr
open Classical in
theorem Ac {g:List Vtx}{l:List Int}{last x:Nat}(h:last<x+1){cur k:Vtx}(hk:j7 g l (x+1)=some k)(hr:Rv g cur k):dwn g l last (x+1) cur=dwn g l last x k++[x+1]:=by
 conv=>lhs;unfold dwn
 rw[if_neg (by omega),hk]
 exact if_pos hr
theorem Gc (c:List Int)(g:List Vtx)(l:List Int)(w last:Nat)(hg:GraOK c g)(hgl:g.length≤1000000)(hl:leaS c l=true)(h1:1≤w)(h2:w≤l.length)(hw:last<w){k0:Vtx}(hk0:j7 g l w=some k0):af Tryz.prog 183 [.agg [.ptr 4 0,.lst (.int .i64) l],.int .i64 (w:Int),.int .i64 (last:Int)] (gR c (bM g)) (.lst (.int .i64) (ct (chn g l w last))) (gR c (bM g)):=by
 have hll:=(be.1 hl).2
 obtain⟨n0,hn0,hg0⟩:=np hg hl h1 h2 hk0
 have hL:=rO c g l w n0 hg hl h1 h2 hn0
 have hP:=rQ c g hg hgl n0 k0 hg0
 have hch:chn g l w last=dwn g l last (w-1) k0++[w]:=by unfold chn;rw[hk0]
 have hpl0:=sf g k0
 refine aa ck Tryz.func183 rfl rfl true 2 6 rfl rfl rfl rfl fun K hK hb1 hb2=>?_;simp only[ae,enc,Nat.reduceAdd]
 clear hb1 hb2
 (repeat' first|refine ku ?_|refine sa fun xe hxe=>?_|refine sb (fun hq=>?_) fun hq=>?_|refine co (hL) ?_|refine co (hP) ?_|exact True.intro)
 refine ab hK [] [2,3,9,10,11] (fun x:Nat×Vtx×List Nat=>⟨[(2,.int .i64 (last:Int)),(3,.ptr 6 0),(9,.ref 7),(10,.lst (.int .i64) (pst g x.2.1)),(11,.int .i64 (x.1:Int))],Dp c (bM g) (.var 126 [.ptr 4 0,.lst (.int .i64) l])++[(7,.row 3 (.int .i64) ((w:Int)::(ct x.2.2).reverse))],8⟩) (fun x=>x.2.1∈g∧last≤x.1∧x.1<w∧x.2.2.length+x.1≤w∧dwn g l last (w-1) k0=dwn g l last x.1 x.2.1++x.2.2) (fun x=>x.1) (w-1,k0,[]) ⟨List.mem_of_getElem? hg0,by dsimp only;omega,by dsimp only;omega,by dsimp only;simp only[List.length_nil];omega,by simp⟩ ?_ ?_
 ·dsimp only
  rw[show (((w-1:Nat):Int))=(w:Int)-1 by omega]
  rfl
 rintro⟨x,cur,acc⟩ ⟨hcur,hx1,hx2,hx3,hdw⟩
 dsimp only at hcur hx1 hx2 hx3 hdw⊢
 have hil:=j5 acc
 have hrl:((w:Int)::(ct acc).reverse).length=acc.length+1:=by simp[hil]
 by_cases hlt:last<x
 ·obtain⟨y,rfl⟩:∃y,x=y+1:=⟨x-1,by omega⟩
  have e1:((y+1:Nat):Int)-1=(y:Int):=by omega
  cases hk:j7 g l (y+1) with
  |none=>
   have hL2:=A2 c g l (y+1) hg hl (by omega) (by omega) (wU hg hl (by omega) (by omega) hk)
   have hE:=FQ
   rw[FO (by omega) hk] at hdw
   generalize hrow:((w:Int)::(ct acc).reverse)=row at *
   (repeat' first|refine ku ?_|refine sa fun xe hxe=>?_|refine sb (fun hq=>?_) fun hq=>?_|refine cr (hE) ?_|refine co (hL2) ?_|exact True.intro)
   refine⟨(y,cur,acc),⟨hcur,by dsimp only;omega,by dsimp only;omega,by dsimp only;omega,hdw⟩,by dsimp only;omega,?_⟩
   rw[e1]
   dsimp only
   rw[hrow]
   rfl
  |some k=>
   obtain⟨n,hn,hgn⟩:=np hg hl (by omega) (by omega) hk
   have hL2:=rO c g l (y+1) n hg hl (by omega) (by omega) hn
   have hE:=FP
   have hB:=AS (pst g cur) (n:Int) (GU g cur) (by have:=sf g cur;omega)
   obtain⟨p,hp⟩:=jo hgn
   have hix:=El hg (u:=cur) hgn
   by_cases hr:Rv g cur k
   ·rw[hix.2 hr] at hB
    have hP2:=rQ c g hg hgl n k hgn
    rw[Ac (by omega) hk hr,List.append_assoc] at hdw
    have hrow2:((w:Int)::(ct acc).reverse)++[((y+1:Nat):Int)]=(w:Int)::(ct ((y+1)::acc)).reverse:=by simp[ct]
    generalize hrow:((w:Int)::(ct acc).reverse)=row at *
    (repeat' first|refine ku ?_|refine sa fun xe hxe=>?_|refine sb (fun hq=>?_) fun hq=>?_|refine cr (hE) ?_|refine cr (hB) ?_|refine co (hL2) ?_|refine co (hP2) ?_|exact True.intro)
    refine⟨(y,k,(y+1)::acc),⟨List.mem_of_getElem? hgn,by dsimp only;omega,by dsimp only;omega,by dsimp only;simp only[List.length_cons];omega,hdw⟩,by dsimp only;omega,?_⟩
    rw[e1]
    dsimp only
    rw[←hrow2]
    rfl
   ·rw[show (pst g cur).contains (n:Int)=false from by rw[Bool.eq_false_iff];exact fun h=>hr (hix.1 h)] at hB
    rw[Aa (by omega) hk hr] at hdw
    generalize hrow:((w:Int)::(ct acc).reverse)=row at *
    (repeat' first|refine ku ?_|refine sa fun xe hxe=>?_|refine sb (fun hq=>?_) fun hq=>?_|refine cr (hE) ?_|refine cr (hB) ?_|refine co (hL2) ?_|exact True.intro)
    refine⟨(y,cur,acc),⟨hcur,by dsimp only;omega,by dsimp only;omega,by dsimp only;omega,hdw⟩,by dsimp only;omega,?_⟩
    rw[e1]
    dsimp only
    rw[hrow]
    rfl
 ·rw[Ab (x:=x) (by omega) cur,List.nil_append] at hdw
  have hR:=Gu ((w:Int)::(ct acc).reverse) (by omega)
  have hfin:((w:Int)::(ct acc).reverse).reverse=ct (chn g l w last):=by
   rw[hch,hdw,qg,List.reverse_cons,List.reverse_reverse];rfl
  (repeat' first|refine ku ?_|refine sa fun xe hxe=>?_|refine sb (fun hq=>?_) fun hq=>?_|refine co (hR) ?_|exact True.intro)
  exact⟨by rw[hfin],rfl⟩
end Go.Proofs.YthmfppknagbkeaaGreatDoor.Am
namespace Go.Proofs.YthmfppknagbkeaaGreatDoor.Am
open Go
attribute [local irreducible] Mk bk Ari eD ky iB br b8 fY er At af
set_option maxRecDepth 10000
theorem qO:∀{l:List Nat} {a b:Nat},l.Pairwise (· < ·)→(∀x∈l,a<x∧x≤b)→l.length≤b-a
 |[],_,_,_,_=>Nat.zero_le _
 |x::l,a,b,h,hb=>by
  obtain⟨h1,h2⟩:=List.pairwise_cons.1 h
  have hx:=hb x (by simp)
  have:=qO (a:=x) (b:=b) h2 fun y hy=>⟨h1 y hy,(hb y (by simp[hy])).2⟩
  simp only[List.length_cons]
  omega
theorem nt (c:List Int)(g:List Vtx)(l:List Int)(hc:comV c=true)(n:Nat):(cmt c g l n).1.length≤n:=by
 have h1:=jT (g:=g) hc l n
 have:=qO (a:=0) (b:=n) (qX c g l n).2.1 fun x hx=>⟨by have:=(h1 x hx).1;omega,(h1 x hx).2.1⟩
 omega
theorem CU (g:List Vtx)(l:List Int){w last:Nat}(h:last<w):(chn g l w last).length≤w:=by
 obtain⟨h1,h2⟩:=wX g l h
 have:=qO h1 h2
 omega
theorem CW {c:List Int}{g:List Vtx}{l:List Int}{n:Nat}(h:pI c g l (n+1)=true):cmt c g l (n+1)=((cmt c g l n).1++chn g l (n+1) (cmt c g l n).2,n+1):=by
 conv=>lhs;unfold cmt
 rw[if_pos h]
theorem zJ {c:List Int}{g:List Vtx}{l:List Int}{n:Nat}(h:pI c g l (n+1)=false):cmt c g l (n+1)=cmt c g l n:=by
 conv=>lhs;unfold cmt
 rw[if_neg (by rw[h];simp)]
theorem w4 (c:List Int)(l:List Int)(hc:comV c=true):∀n:Nat,cmt c [] l n=([],0)
 |0=>rfl
 |n+1=>by
  have h:pI c [] l (n+1)=false:=by
   rw[Bool.eq_false_iff]
   intro h
   obtain⟨k,hk,-⟩:=iE hc h
   cases hk
  rw[zJ h,w4 c l hc n]
theorem Ge (c:List Int)(g:List Vtx)(l:List Int)(hg:GraOK c g)(hgl:g.length≤1000000)(hl:leaS c l=true):af Tryz.prog 142 [.agg [.ptr 4 0,.lst (.int .i64) l]] (gR c (bM g)) (.lst (.int .i64) (ct (cmt c g l l.length).1)) (gR c (bM g)):=by
 have hll:=(be.1 hl).2
 refine aa ck Tryz.func142 rfl rfl true 2 6 rfl rfl rfl rfl fun K hK hb1 hb2=>?_;simp only[ae,enc,Nat.reduceAdd]
 clear hb1 hb2
 (repeat' first|refine ku ?_|refine sa fun xe hxe=>?_|refine sb (fun hq=>?_) fun hq=>?_|exact True.intro)
 refine ab hK [] [1,3,4,5] (fun n:Nat=>⟨[(1,.ptr 6 0),(3,.ref 7),(4,.int .i64 ((cmt c g l n).2:Int)),(5,.int .i64 ((n:Int)+1))],Dp c (bM g) (.var 126 [.ptr 4 0,.lst (.int .i64) l])++[(7,.row 3 (.int .i64) (ct (cmt c g l n).1))],8⟩) (fun n=>n≤l.length) (fun n=>l.length-n) 0 (Nat.zero_le _) ?_ ?_
 ·rw[show (((0:Nat):Int)+1)=1 from rfl]
  rfl
 intro n hn
 have hcl:=nt c g l hg.com n
 have hil:=j5 (cmt c g l n).1
 have hc2:=(qX c g l n).1
 by_cases hlt:n<l.length
 ·have hD:=Gj c g l (n+1) hg hl (by omega) (by omega)
  have e1:(((n+1:Nat)):Int)=(n:Int)+1:=by omega
  cases hd:pI c g l (n+1)
  ·rw[hd,e1] at hD
   have hcn:=zJ hd
   (repeat' first|refine ku ?_|refine sa fun xe hxe=>?_|refine sb (fun hq=>?_) fun hq=>?_|refine co (hD) ?_|exact True.intro)
   exact⟨n+1,by omega,by omega,by rw[hcn,e1];rfl⟩
  ·obtain⟨k,hk,-⟩:=iE hg.com hd
   have hC:=Gc c g l (n+1) (cmt c g l n).2 hg hgl hl (by omega) (by omega) (by omega) hk
   have hkl:=CU g l (w:=n+1) (last:=(cmt c g l n).2) (by omega)
   have hkl2:=j5 (chn g l (n+1) (cmt c g l n).2)
   rw[hd,e1] at hD
   rw[e1] at hC
   have hcn:=CW hd
   have hap:=qg (cmt c g l n).1 (chn g l (n+1) (cmt c g l n).2)
   generalize hA:ct (cmt c g l n).1=A at *
   generalize hB:ct (chn g l (n+1) (cmt c g l n).2)=B at *
   (repeat' first|refine ku ?_|refine sa fun xe hxe=>?_|refine sb (fun hq=>?_) fun hq=>?_|refine co (hD) ?_|refine co (hC) ?_|exact True.intro)
   exact⟨n+1,by omega,by omega,by rw[hcn];dsimp only;rw[hap,e1];rfl⟩
 ·obtain rfl:n=l.length:=by omega
  (repeat' first|refine ku ?_|refine sa fun xe hxe=>?_|refine sb (fun hq=>?_) fun hq=>?_|exact True.intro)
  exact⟨rfl,rfl⟩
theorem DG (c:List Int)(l:List Int)(hc:comV c=true)(hl:leaS c l=true):af Tryz.prog 142 [.agg [.ptr 4 0,.lst (.int .i64) l]] (gZ c gz) (.lst (.int .i64) []) (gZ c gz):=by
 have hll:=(be.1 hl).2
 refine aa ck Tryz.func142 rfl rfl true 1 5 rfl rfl rfl rfl fun K hK hb1 hb2=>?_;simp only[ae,enc,Nat.reduceAdd]
 clear hb1 hb2
 (repeat' first|refine ku ?_|refine sa fun xe hxe=>?_|refine sb (fun hq=>?_) fun hq=>?_|exact True.intro)
 refine ab hK [] [1,3,4,5] (fun n:Nat=>⟨[(1,.ptr 5 0),(3,.ref 6),(4,.int .i64 0),(5,.int .i64 ((n:Int)+1))],I8 c gz (.var 126 [.ptr 4 0,.lst (.int .i64) l])++[(6,.row 3 (.int .i64) [])],7⟩) (fun n=>n≤l.length) (fun n=>l.length-n) 0 (Nat.zero_le _) ?_ ?_
 ·rw[show (((0:Nat):Int)+1)=1 from rfl]
  rfl
 intro n hn
 by_cases hlt:n<l.length
 ·have hD:=DK c l (n+1) hc hl (by omega) (by omega)
  have e1:(((n+1:Nat)):Int)=(n:Int)+1:=by omega
  rw[e1] at hD
  (repeat' first|refine ku ?_|refine sa fun xe hxe=>?_|refine sb (fun hq=>?_) fun hq=>?_|refine co (hD) ?_|exact True.intro)
  exact⟨n+1,by omega,by omega,by rw[e1];rfl⟩
 ·(repeat' first|refine ku ?_|refine sa fun xe hxe=>?_|refine sb (fun hq=>?_) fun hq=>?_|exact True.intro)
  exact⟨rfl,rfl⟩
def CL (c:List Int)(g:List Vtx)(l:List Int):Bool:=graS c g && leaS c l
theorem Gs (c:List Int)(g:List Vtx)(l:List Int)(hgl:g.length≤1000000)(h:CL c g l=false):af Tryz.prog 88 [.lst (.int .i64) c,.lst .vtx g,.lst (.int .i64) l] [] (.tup [.agg [.nilp,.nils],.gv 0]) []:=by
 have hL:=rS c g (by omega)
 have hV:=nG c l
 refine aa ck Tryz.func88 rfl rfl false 0 4 rfl rfl rfl rfl fun K hK hb1 hb2=>?_;simp only[ae,enc,Nat.reduceAdd]
 clear hb1 hb2
 cases hg:graS c g
 ·simp only[zn,zm,hg,Bool.false_eq_true,if_false] at hL
  (repeat' first|refine ku ?_|refine sa fun xe hxe=>?_|refine sb (fun hq=>?_) fun hq=>?_|refine cr (hL) ?_|refine cr (hV) ?_|exact True.intro)
  exact⟨rfl,rfl⟩
 ·have hok:=cP hg
  simp only[zn,zm,hg,if_true] at hL
  rw[CL,hg,Bool.true_and] at h
  rw[hok.com,h] at hV
  cases g with
  |nil=>
   (repeat' first|refine ku ?_|refine sa fun xe hxe=>?_|refine sb (fun hq=>?_) fun hq=>?_|refine cr (hL) ?_|refine cr (hV) ?_|exact True.intro)
   exact⟨rfl,rfl⟩
  |cons v g=>
   (repeat' first|refine ku ?_|refine sa fun xe hxe=>?_|refine sb (fun hq=>?_) fun hq=>?_|refine cr (hL) ?_|refine cr (hV) ?_|exact True.intro)
   exact⟨rfl,rfl⟩
theorem Gq (c:List Int)(v:Vtx)(g:List Vtx)(l:List Int)(hgl:(v::g).length≤1000000)(hg:graS c (v::g)=true)(hl:leaS c l=true):af Tryz.prog 88 [.lst (.int .i64) c,.lst .vtx (v::g),.lst (.int .i64) l] [] (.tup [.agg [.ptr 4 0,.lst (.int .i64) l],.nili]) (gR c (bM (v::g))):=by
 have hL:=rS c (v::g) (by omega)
 have hV:=nG c l
 have hok:=cP hg
 simp only[zn,zm,hg,if_true] at hL
 rw[hok.com,hl] at hV
 refine aa ck Tryz.func88 rfl rfl false 0 4 rfl rfl rfl rfl fun K hK hb1 hb2=>?_;simp only[ae,enc,Nat.reduceAdd]
 clear hb1 hb2
 (repeat' first|refine ku ?_|refine sa fun xe hxe=>?_|refine sb (fun hq=>?_) fun hq=>?_|refine cr (hL) ?_|refine cr (hV) ?_|exact True.intro)
 exact⟨rfl,rfl⟩
theorem Gr (c:List Int)(l:List Int)(hc:comV c=true)(hl:leaS c l=true):af Tryz.prog 88 [.lst (.int .i64) c,.lst .vtx [],.lst (.int .i64) l] [] (.tup [.agg [.ptr 4 0,.lst (.int .i64) l],.nili]) (gZ c gz):=by
 have hg:graS c []=true:=by simp[graS,hc,cX]
 have hL:=rS c [] (by simp)
 have hV:=nG c l
 simp only[zn,zm,hg,if_true] at hL
 rw[hc,hl] at hV
 refine aa ck Tryz.func88 rfl rfl false 0 4 rfl rfl rfl rfl fun K hK hb1 hb2=>?_;simp only[ae,enc,Nat.reduceAdd]
 clear hb1 hb2
 (repeat' first|refine ku ?_|refine sa fun xe hxe=>?_|refine sb (fun hq=>?_) fun hq=>?_|refine cr (hL) ?_|refine cr (hV) ?_|exact True.intro)
 exact⟨rfl,rfl⟩
noncomputable def cmw (c:List Int) (g:List Vtx) (l:List Int):List Nat:=if CL c g l then(cmt c g l l.length).1 else[]
end Go.Proofs.YthmfppknagbkeaaGreatDoor.Am
namespace Go.Proofs.YthmfppknagbkeaaGreatDoor.Am
open Go
attribute [local irreducible] Mk bk Ari eD ky iB br b8 fY er At af kQ
set_option maxRecDepth 10000
theorem BJ (g:List Vtx)(l:List Int)(acc:List Vtx)(w:Nat):(ordW g l acc w).length≤g.length:=by
 unfold ordW
 split
 ·exact List.length_filter_le _ _
 ·exact Nat.zero_le _
theorem j9 (g:List Vtx)(l:List Int):∀(ws:List Nat) (os:List Odd),(oddTo g l os ws).length≤os.length+ws.length*g.length
 |[],os=>by simp[oddTo]
 |w::ws,os=>by
  have h:=j9 g l ws (os++(ordW g l (os.map (·.v)) w).map fun v=>⟨v,(w:Int)⟩)
  have h2:=BJ g l (os.map (·.v)) w
  simp only[List.length_append,List.length_map] at h
  simp only[oddTo,List.length_cons,Nat.succ_mul]
  omega
open Classical in
set_option maxHeartbeats 1000000 in
theorem Gt (c:List Int)(g:List Vtx)(l:List Int)(hg:GraOK c g)(hgl:g.length≤1000)(hl:leaS c l=true):af Tryz.prog 89 [.agg [.ptr 4 0,.lst (.int .i64) l]] (gR c (bM g)) (.lst .odd (oddTo g l [] (cmt c g l l.length).1)) (gR c (bM g)):=by
 have hll:=(be.1 hl).2
 have hn:=(dD g).1
 have hC:=Ge c g l hg (by omega) hl
 have hcl:=nt c g l hg.com l.length
 have hcm:=jT (g:=g) hg.com l l.length
 have hrl:((List.range (bM g).nodes.length).map some).length=g.length:=by simp[hn]
 have hfit:jn 1 (((((List.range (bM g).nodes.length).map some).length:Nat):Int).toNat):=by rw[hrl];unfold jn;omega
 generalize (cmt c g l l.length).1=W at *
 have hil:=j5 W
 have hol:=fun i=>j9 g l (W.take i) []
 refine aa cm Tryz.func89 rfl rfl true 2 6 rfl rfl rfl rfl fun K hK hb1 hb2=>?_;simp only[ae,enc,Nat.reduceAdd]
 clear hb1 hb2
 (repeat' first|refine gH ?_|refine sa fun xe hxe=>?_|refine sb (fun hq=>?_) fun hq=>?_|refine co (hC) ?_|exact True.intro)
 clear hC
 refine ab hK [] [1,3,4,22,23,24] (fun i:Nat=>⟨[(1,.ptr 6 0),(3,.ref 7),(4,.ref 8),(22,.lst (.int .i64) (ct W)),(23,.int .i64 W.length),(24,.int .i64 (i:Int))],Dp c (bM g) (.var 126 [.ptr 4 0,.lst (.int .i64) l])++[(7,.row 134 .odd (oddTo g l [] (W.take i))),(8,.row 4 .bool (dnF g ((oddTo g l [] (W.take i)).map (·.v))))],9⟩) (fun i=>i≤W.length) (fun i=>W.length-i) 0 (Nat.zero_le _) ?_ ?_
 ·have e:List.replicate ((((List.range (bM g).nodes.length).map some).length:Int).toNat) false=dnF g ((oddTo g l [] (W.take 0)).map (·.v)):=by
   rw[List.take_zero,hrl]
   exact(HT g).symm
  rw[←e,←hil]
  rfl
 intro i hi
 by_cases hlt:i<W.length
 ·obtain⟨w,hw⟩:∃w,W[i]?=some w:=⟨_,List.getElem?_eq_getElem hlt⟩
  have hwx:(ct W)[i]?=some (w:Int):=by rw[ct,List.getElem?_map,hw];rfl
  obtain⟨w1,w2,k,hk⟩:=hcm w (List.mem_of_getElem? hw)
  have htk:W.take (i+1)=W.take i++[w]:=by
   obtain⟨h1,h2⟩:=List.getElem?_eq_some_iff.1 hw
   rw[←h2];exact List.take_succ_eq_append_getElem h1
  have hap:=qq g l (W.take i) [w] []
  rw[←htk] at hap
  have hoi:=hol i
  rw[List.length_take] at hoi
  have hoi2:(oddTo g l [] (W.take i)).length≤15000:=by
   refine Nat.le_trans hoi ?_
   simp only[List.length_nil,Nat.zero_add]
   exact Nat.le_trans (Nat.mul_le_mul (show min i W.length≤15 by omega) hgl) (by omega)
  obtain⟨n,hnn,hgn⟩:=np hg hl w1 w2 hk
  have hL:=rO c g l w n hg hl w1 w2 hnn
  have hP:=rQ c g hg (by omega) n k hgn
  have hkr:=(cg hk).2.1
  obtain⟨p0,hp0⟩:=jo hgn
  have hpl:=sf g k
  have hpv:=Eo g k
  clear htk hol hcm
  generalize oddTo g l [] (W.take i)=os at *
  have hap:oddTo g l [] (W.take (i+1))=os++(ordW g l (os.map (·.v)) w).map fun v=>⟨v,(w:Int)⟩:=hap
  (repeat' first|refine gH ?_|refine sa fun xe hxe=>?_|refine sb (fun hq=>?_) fun hq=>?_|refine co (hL) ?_|refine co (hP) ?_|exact True.intro)
  clear hL hP
  refine ab hK [] [1,3,4,6,7,9,22,23,24,41,42,43] (fun j:Nat=>⟨[(1,.ptr 6 0),(3,.ref 7),(4,.ref 8),(6,.int .i64 (w:Int)),(7,.hpo 0 (some n)),(9,.ptr 9 0),(22,.lst (.int .i64) (ct W)),(23,.int .i64 W.length),(24,.int .i64 (i:Int)),(41,.lst (.int .i64) (pst g k)),(42,.int .i64 (pst g k).length),(43,.int .i64 (j:Int))],Dp c (bM g) (.var 126 [.ptr 4 0,.lst (.int .i64) l])++[(7,.row 134 .odd os),(8,.row 4 .bool (dnF g (os.map (·.v)++qvx g k w (os.map (·.v)) j))),(9,.var 175 [.ref 10]),(10,.row 48 .vtx (qvx g k w (os.map (·.v)) j))],11⟩) (fun j=>j≤(pst g k).length) (fun j=>(pst g k).length-j) 0 (Nat.zero_le _) ?_ ?_
  ·rw[show qvx g k w (os.map (·.v)) 0=[] from rfl,List.append_nil]
   rfl
  intro j hj
  have hql:=Et g k w (os.map (·.v)) j
  have hdl:=xa g (os.map (·.v)++qvx g k w (os.map (·.v)) j)
  by_cases hjl:j<(pst g k).length
  ·obtain⟨x,hx⟩:∃x,(pst g k)[j]?=some x:=⟨_,List.getElem?_eq_getElem hjl⟩
   obtain⟨ii,rfl,v,hv,hpx⟩:=GW hx
   have hsn:=BT (w:=w) (os:=os.map (·.v)) hpx
   have hnew:=Eu hg (w:=w) (os:=os.map (·.v)) hpx
   have hiil:=(List.getElem?_eq_some_iff.1 hv).1
   obtain⟨p,hp⟩:=jo hv
   have hrg:=G3 (n:=(bM g).nodes.length) (i:=ii) (by omega)
   have hda:=z9 (os:=os.map (·.v)++qvx g k w (os.map (·.v)) j) hv
   have hds:=C9 hg (os:=os.map (·.v)++qvx g k w (os.map (·.v)) j) hv
   rw[List.append_assoc] at hds
   have hasc:=xW hg k w (os.map (·.v)) (j+1)
   by_cases c1:v∈os.map (·.v)
   ·rw[decide_eq_true (List.mem_append.2 (.inl c1))] at hda
    rw[if_neg (fun h=>h.2 c1)] at hsn
    generalize hqq:qvx g k w (os.map (·.v)) j=qs at *
    (repeat' first|refine gH ?_|refine sa fun xe hxe=>?_|refine sb (fun hq=>?_) fun hq=>?_|exact True.intro)
    (try any_goals(first|exact absurd trivial hq|exact absurd rfl hq|exact absurd hq (by omega)|(exfalso;simp at hq;done)))
    exact⟨j+1,by omega,by omega,by rw[hsn];rfl⟩
   ·rw[decide_eq_false (fun h=>by rcases List.mem_append.1 h with h|h;exact c1 h;exact hnew h)] at hda
    by_cases c2:2*(w:Int)-7≤v.round
    ·have c2p:k.round-6≤v.round:=by omega
     rw[if_pos ⟨c2,c1⟩] at hsn
     rw[hsn] at hasc
     have hPu:=DB (qvx g k w (os.map (·.v)) j) v (by omega) hasc
     rw[←hsn] at hPu hds
     generalize hq2:qvx g k w (os.map (·.v)) (j+1)=qs2 at *
     generalize hqq:qvx g k w (os.map (·.v)) j=qs at *
     (repeat' first|refine gH ?_|refine sa fun xe hxe=>?_|refine sb (fun hq=>?_) fun hq=>?_|refine co (hPu) ?_|exact True.intro)
     (try any_goals(first|exact absurd trivial hq|exact absurd rfl hq|exact absurd hq (by omega)|(exfalso;simp at hq;done)))
     exact⟨j+1,by omega,by omega,by rw[hq2,←hds];rfl⟩
    ·have c2p:¬k.round-6≤v.round:=by omega
     rw[if_neg (fun h=>c2 h.1)] at hsn
     generalize hqq:qvx g k w (os.map (·.v)) j=qs at *
     (repeat' first|refine gH ?_|refine sa fun xe hxe=>?_|refine sb (fun hq=>?_) fun hq=>?_|exact True.intro)
     (try any_goals(first|exact absurd trivial hq|exact absurd rfl hq|exact absurd hq (by omega)|(exfalso;simp at hq;done)))
     exact⟨j+1,by omega,by omega,by rw[hsn];rfl⟩
  ·obtain rfl:j=(pst g k).length:=by omega
   have hend:=Er (os:=os.map (·.v)) hk
   rw[hpv] at hend
   have hasc:=xW hg k w (os.map (·.v)) (pst g k).length
   rw[hend] at hasc hql
   rw[hend]
   have hD:=Db (ordW g l (os.map (·.v)) w) (ordW g l (os.map (·.v)) w) (w:Int) (by omega) hasc (List.Perm.refl _) (AP hasc)
   have hdd:(oddTo g l [] (W.take (i+1))).map (·.v)=os.map (·.v)++ordW g l (os.map (·.v)) w:=by
    rw[hap,List.map_append,List.map_map]
    congr 1
    exact List.map_id _
   have hml:((ordW g l (os.map (·.v)) w).map fun v=>(⟨v,(w:Int)⟩:Odd)).length=(ordW g l (os.map (·.v)) w).length:=by simp
   rw[←hdd]
   generalize hmm:((ordW g l (os.map (·.v)) w).map fun v=>(⟨v,(w:Int)⟩:Odd))=ms at *
   have hml2:ms.length≤g.length:=by omega
   cases hoe:ordW g l (os.map (·.v)) w with
   |nil=>
    rw[hoe] at hD hml
    rw[show qE []=qB [] from rfl] at hD
    (repeat' first|refine gH ?_|refine sa fun xe hxe=>?_|refine sb (fun hq=>?_) fun hq=>?_|refine co (hD) ?_|exact True.intro)
    (try any_goals(first|exact absurd trivial hq|exact absurd rfl hq|exact absurd hq (by omega)|(exfalso;simp at hq;done)))
    exact⟨i+1,by omega,by omega,by rw[hap];rfl⟩
   |cons v s'=>
    rw[hoe] at hD hml
    have hE:qE (v::s')=qG []:=by unfold qE;rw[if_neg (by simp)]
    rw[hE] at hD
    (repeat' first|refine gH ?_|refine sa fun xe hxe=>?_|refine sb (fun hq=>?_) fun hq=>?_|refine co (hD) ?_|exact True.intro)
    (try any_goals(first|exact absurd trivial hq|exact absurd rfl hq|exact absurd hq (by omega)|(exfalso;simp at hq;done)))
    exact⟨i+1,by omega,by omega,by rw[hap];rfl⟩
 ·obtain rfl:i=W.length:=by omega
  rw[List.take_length]
  (repeat' first|refine gH ?_|refine sa fun xe hxe=>?_|refine sb (fun hq=>?_) fun hq=>?_|exact True.intro)
  exact⟨rfl,rfl⟩
end Go.Proofs.YthmfppknagbkeaaGreatDoor.Am
namespace Go.Proofs.YthmfppknagbkeaaGreatDoor.Am
open Go
attribute [local irreducible] Mk bk Ari eD ky iB br b8 fY er At af
set_option maxRecDepth 10000
noncomputable def wvS (g:List Vtx) (l:List Int) (ws:List Nat) (w:Nat) (j:Nat):List Int:=(g.take j).map (wvk g l (ws++[w]))++(g.drop j).map (wvk g l ws)
def sP (k:Int)(m i:Nat):Evt:=⟨k,m,i,v0⟩
def sO (k:Int)(w:Wrl)(i:Nat):Nat→Wrl
 |0=>w
 |m+1=>dG (sO k w i m) (sP k m i)
def le (k:Int)(w:Wrl):Nat→Wrl
 |0=>w
 |i+1=>sO k (le k w i) i (le k w i).com.length
def CT (k:Int)(w:Wrl)(i:Nat)(b:Bool):Nat→Bool
 |0=>b
 |m+1=>CT k w i b m||pG (sO k w i m) (sP k m i)
def wV (k:Int)(w:Wrl):Nat→Bool
 |0=>false
 |i+1=>CT k (le k w i) i (wV k w i) (le k w i).com.length
theorem rh {k:Int}{w:Wrl}(h:WOK w)(i:Nat):∀m,WOK (sO k w i m)
 |0=>h
 |m+1=>iT (rh h i m) _
theorem vp {k:Int}{w:Wrl}(h:WOK w):∀i,WOK (le k w i)
 |0=>h
 |i+1=>rh (vp h i) i _
theorem Ik (w:Wrl)(m i:Nat):dG w (sP 2 m i)=eR w m i:=rfl
theorem Il (w:Wrl)(m i:Nat):dG w (sP 3 m i)=bJ w m i:=rfl
theorem Ae (w:Wrl)(i:Nat):∀m,sO 2 w i m=iA w i m
 |0=>rfl
 |m+1=>by rw[sO,Ik,Ae w i m];rfl
theorem Ag (w:Wrl):∀i,le 2 w i=cJ w i
 |0=>rfl
 |i+1=>by rw[le,Ae,Ag w i];rfl
theorem xc (w:Wrl)(i:Nat):∀m,sO 3 w i m=bS w i m
 |0=>rfl
 |m+1=>by rw[sO,Il,xc w i m];rfl
theorem xd (w:Wrl):∀i,le 3 w i=aT w i
 |0=>rfl
 |i+1=>by rw[le,xc,xd w i];rfl
theorem Dc {k:Int}(hk:k=2∨k=3)(w:Wrl)(i m:Nat):(sO k w i m).com=w.com∧(sO k w i m).props.length=w.props.length:=by
 rcases hk with rfl|rfl
 ·rw[Ae]
  exact kl w i m
 ·rw[xc]
  exact⟨(gT w i m).1,by rw[(gT w i m).2]⟩
theorem Dd {k:Int}(hk:k=2∨k=3)(w:Wrl)(i:Nat):(le k w i).com=w.com∧(le k w i).props.length=w.props.length:=by
 rcases hk with rfl|rfl
 ·rw[Ag]
  exact dR w i
 ·rw[xd]
  exact⟨(de w i).1,by rw[(de w i).2]⟩
theorem HJ {w:Wrl}(h:WOK w)(m i:Nat):pG w (sP 3 m i)=decide (cI w<cI (bJ w m i)):=by
 have e:pG w (sP 3 m i)=cG w m i:=rfl
 rw[e]
 rcases eQ h m i with⟨h1,h2⟩|⟨h1,h2⟩
 ·rw[h1,h2];simp
 ·rw[h1,h2];simp
theorem E8 {w:Wrl}(h:WOK w)(i:Nat){b:Bool}{n:Nat}(hn:n≤cI w)(hb:b=decide (n<cI w)):∀m,CT 3 w i b m=decide (n<cI (bS w i m))∧n≤cI (bS w i m)
 |0=>⟨hb,hn⟩
 |m+1=>by
  obtain⟨h1,h2⟩:=E8 h i hn hb m
  have h3:=fG h i m
  rw[CT,h1,xc,HJ h3]
  have h4:cI (bS w i m)≤cI (bS w i (m+1)):=by
   rcases eQ h3 m i with⟨-,e⟩|⟨-,e⟩
   ·show _≤cI (bJ _ _ _);rw[e];exact Nat.le_refl _
   ·show _≤cI (bJ _ _ _);rw[e];omega
  refine⟨?_,by omega⟩
  rw[Bool.eq_iff_iff,Bool.or_eq_true,decide_eq_true_iff,decide_eq_true_iff,decide_eq_true_iff]
  show _∨cI (bS w i m)<cI (bS w i (m+1))↔_
  omega
theorem E9 {w:Wrl}(h:WOK w):∀i,wV 3 w i=decide (cI w<cI (aT w i))∧cI w≤cI (aT w i)
 |0=>⟨by rw[wV,aT];simp,Nat.le_refl _⟩
 |i+1=>by
  obtain⟨h1,h2⟩:=E9 h i
  have:=E8 (eN h i) i h2 h1 (aT w i).com.length
  rw[wV,xd]
  exact this
abbrev Xm:Type:=List (Option (List Int))×List PplM
theorem xj (w:Wrl)(xss:List (Option (List Int)))(ms:List PplM)(hw:WOK w)(hR:Rel w.props xss ms){k:Int}(hk:k=2∨k=3)(m i:Nat):∃x:Xm,(Rel (dG w (sP k m i)).props x.1 x.2∧xss.length≤x.1.length)∧af Tryz.prog 58 [.ptr 4 0,lh (sP k m i)] (rW 0 w xss ms) (.bool (pG w (sP k m i))) (rW 0 (dG w (sP k m i)) x.1 x.2):=by
 refine nF w xss ms hw hR (sP k m i) ?_
 unfold oa sP
 rcases hk with rfl|rfl<;>rfl
theorem Af {k:Int}(hk:k=2∨k=3){w:Wrl}(hw:WOK w)(i:Nat){x:Xm}(hR:Rel w.props x.1 x.2):∀m,∃y:Xm,Rel (sO k w i m).props y.1 y.2∧x.1.length≤y.1.length
 |0=>⟨x,hR,Nat.le_refl _⟩
 |m+1=>by
  obtain⟨y,h1,h2⟩:=Af hk hw i hR m
  obtain⟨z,⟨h3,h4⟩,-⟩:=xj _ y.1 y.2 (rh hw i m) h1 hk m i
  exact⟨z,h3,Nat.le_trans h2 h4⟩
theorem Ah {k:Int}(hk:k=2∨k=3){w:Wrl}(hw:WOK w){x:Xm}(hR:Rel w.props x.1 x.2):∀i,∃y:Xm,Rel (le k w i).props y.1 y.2∧x.1.length≤y.1.length
 |0=>⟨x,hR,Nat.le_refl _⟩
 |i+1=>by
  obtain⟨y,h1,h2⟩:=Ah hk hw hR i
  obtain⟨z,h3,h4⟩:=Af hk (vp hw i) i h1 (le k w i).com.length
  exact⟨z,h3,Nat.le_trans h2 h4⟩
theorem yB {w u:Wrl}(h:u.views.length=w.views.length):aF (VB.fvari 190 217 (.ob .vtx) (w.views.map az))≤aF (VB.fvari 190 217 (.ob .vtx) (u.views.map az)):=by
 show (w.views.map az).length≤(u.views.map az).length
 rw[List.length_map,List.length_map,h]
 exact Nat.le_refl _
theorem rx {xs ys:List (Option (List Int))}(h:xs.length≤ys.length):aF (VB.frowx 3 (.int .i64) xs)≤aF (VB.frowx 3 (.int .i64) ys):=h
set_option maxHeartbeats 1000000 in
theorem xy {k:Int}(hk:k=2∨k=3)(w:Wrl)(x0:Xm)(hw:WOK w)(hR:Rel w.props x0.1 x0.2):∃x:Xm,(Rel (le k w w.props.length).props x.1 x.2∧x0.1.length≤x.1.length)∧af Tryz.prog 77 [.ptr 4 0,.int .i64 k] (rW 0 w x0.1 x0.2) (.bool (wV k w w.props.length)) (rW 0 (le k w w.props.length) x.1 x.2):=by
 obtain⟨y0,hy0⟩:=Ah hk hw hR w.props.length
 suffices hs:∃r hout,(∃x:Xm,(Rel (le k w w.props.length).props x.1 x.2∧x0.1.length≤x.1.length)∧r= .bool (wV k w w.props.length)∧hout=rW 0 (le k w w.props.length) x.1 x.2)∧af Tryz.prog 77 [.ptr 4 0,.int .i64 k] (rW 0 w x0.1 x0.2) r hout by
  obtain⟨r,hout,⟨v,hv,rfl,rfl⟩,h⟩:=hs
  exact⟨v,hv,h⟩
 refine dM aS Tryz.func77 rfl rfl false 3 7 rfl rfl rfl rfl (R:=fun r hout=>∃x:Xm,(Rel (le k w w.props.length).props x.1 x.2∧x0.1.length≤x.1.length)∧r= .bool (wV k w w.props.length)∧hout=rW 0 (le k w w.props.length) x.1 x.2) (r0:=.bool (wV k w w.props.length)) (hout0:=rW 0 (le k w w.props.length) y0.1 y0.2) (⟨y0,hy0,rfl,rfl⟩) fun K hK hb1 hb2=>?_;simp only[ae,enc,Nat.reduceAdd]
 clear hb1 hb2
 have h7:=hw.len
 have hpl:=hw.plen
 have hml:=hR.len
 (repeat' first|refine a9 ?_|refine sa fun xe hxe=>?_|refine sb (fun hq=>?_) fun hq=>?_|exact True.intro)
 refine ab hK [] [0,1,5,12,13] (fun x:Nat×Xm=>⟨[(0,.ptr 4 0),(1,.int .i64 k),(5,.bool (wV k w x.1)),(12,.int .i64 w.props.length),(13,.int .i64 (x.1:Int))],rW 0 (le k w x.1) x.2.1 x.2.2,7⟩) (fun x=>x.1≤w.props.length∧Rel (le k w x.1).props x.2.1 x.2.2∧x0.1.length≤x.2.1.length) (fun x=>w.props.length-x.1) (0,x0) ⟨Nat.zero_le _,hR,Nat.le_refl _⟩ (by rw[←hml];rfl) ?_
 rintro⟨i,xs,ms⟩ ⟨hi,hRi,hxi⟩
 dsimp only at hi hRi hxi⊢
 have hoi:=vp (k:=k) hw i
 have hci:=Dd hk w i
 have hsu:le k w (i+1)=sO k (le k w i) i (le k w i).com.length:=rfl
 have hsc:wV k w (i+1)=CT k (le k w i) i (wV k w i) (le k w i).com.length:=rfl
 by_cases hlt:i<w.props.length
 ·generalize le k w i=y at *
  generalize wV k w i=b at *
  have hyc:y.com.length=w.com.length:=by rw[hci.1]
  (repeat' first|refine a9 ?_|refine sa fun xe hxe=>?_|refine sb (fun hq=>?_) fun hq=>?_|exact True.intro)
  refine ab hK [] [0,1,5,6,12,13,20,21] (fun x:Nat×Xm=>⟨[(0,.ptr 4 0),(1,.int .i64 k),(5,.bool (CT k y i b x.1)),(6,.int .i64 (i:Int)),(12,.int .i64 w.props.length),(13,.int .i64 (i:Int)),(20,.int .i64 y.com.length),(21,.int .i64 (x.1:Int))],rW 0 (sO k y i x.1) x.2.1 x.2.2,7⟩) (fun x=>x.1≤y.com.length∧Rel (sO k y i x.1).props x.2.1 x.2.2∧x0.1.length≤x.2.1.length) (fun x=>y.com.length-x.1) (0,xs,ms) ⟨Nat.zero_le _,hRi,hxi⟩ rfl ?_
  rintro⟨m,xs,ms⟩ ⟨hm,hRm,hxm⟩
  dsimp only at hm hRm hxm⊢
  have hom:=rh (k:=k) hoi i m
  have hcm:=Dc hk y i m
  have hmu:sO k y i (m+1)=dG (sO k y i m) (sP k m i):=rfl
  have hmc:CT k y i b (m+1)=(CT k y i b m||pG (sO k y i m) (sP k m i)):=rfl
  by_cases hml:m<y.com.length
  ·generalize sO k y i m=z at *
   generalize CT k y i b m=b2 at *
   obtain⟨⟨xs',ms'⟩,⟨hR',hx⟩,hC⟩:=xj z xs ms hom hRm hk m i
   have hF0:=Av (w:=z) (e:=sP k m i)
   have hF1:=rx hx
   have hC:af Tryz.prog 58 [.ptr 4 0,.agg [.int .i64 k,.int .i64 (m:Int),.int .i64 (i:Int),.int .i64 0,.int .i64 0,.lst (.int .i64) [],.int .i64 0]] (rW 0 z xs ms) (.bool (pG z (sP k m i))) (rW 0 (dG z (sP k m i)) xs' ms'):=hC
   cases hcg:pG z (sP k m i)
   ·rw[hcg] at hC hmc
    rw[Bool.or_false] at hmc
    (repeat' first|refine a9 ?_|refine sa fun xe hxe=>?_|refine sb (fun hq=>?_) fun hq=>?_|refine cr (hC) ?_|exact True.intro)
    refine⟨(m+1,xs',ms'),⟨by dsimp only;omega,by dsimp only;rw[hmu];exact hR',by dsimp only at hx⊢;omega⟩,by dsimp only;omega,?_⟩
    dsimp only
    rw[hmu,hmc]
    rfl
   ·rw[hcg] at hC hmc
    rw[Bool.or_true] at hmc
    (repeat' first|refine a9 ?_|refine sa fun xe hxe=>?_|refine sb (fun hq=>?_) fun hq=>?_|refine cr (hC) ?_|exact True.intro)
    refine⟨(m+1,xs',ms'),⟨by dsimp only;omega,by dsimp only;rw[hmu];exact hR',by dsimp only at hx⊢;omega⟩,by dsimp only;omega,?_⟩
    dsimp only
    rw[hmu,hmc]
    rfl
  ·obtain rfl:m=y.com.length:=by omega
   rw[←hsu] at hRm
   rw[←hsu,←hsc]
   generalize hz:le k w (i+1)=z at *
   generalize hb:wV k w (i+1)=b2 at *
   (repeat' first|refine a9 ?_|refine sa fun xe hxe=>?_|refine sb (fun hq=>?_) fun hq=>?_|exact True.intro)
   refine⟨(i+1,xs,ms),⟨by dsimp only;omega,by dsimp only;rw[hz];exact hRm,hxm⟩,by dsimp only;omega,?_⟩
   dsimp only
   rw[hz,hb]
   rfl
 ·obtain rfl:i=w.props.length:=by omega
  (repeat' first|refine a9 ?_|refine sa fun xe hxe=>?_|refine sb (fun hq=>?_) fun hq=>?_|exact True.intro)
  exact⟨(xs,ms),⟨hRi,hxi⟩,rfl,rfl⟩
theorem Ba (w:Wrl)(x0:Xm)(hw:WOK w)(hR:Rel w.props x0.1 x0.2):∃x:Xm,(Rel (fx w).props x.1 x.2∧x0.1.length≤x.1.length)∧af Tryz.prog 77 [.ptr 4 0,.int .i64 2] (rW 0 w x0.1 x0.2) (.bool (wV 2 w w.props.length)) (rW 0 (fx w) x.1 x.2):=by
 have h:=xy (k:=2) (.inl rfl) w x0 hw hR
 rw[Ag] at h
 exact h
theorem vM (w:Wrl)(x0:Xm)(hw:WOK w)(hR:Rel w.props x0.1 x0.2):∃x:Xm,(Rel (pass w).props x.1 x.2∧x0.1.length≤x.1.length)∧af Tryz.prog 77 [.ptr 4 0,.int .i64 3] (rW 0 w x0.1 x0.2) (.bool (decide (cI w<cI (pass w)))) (rW 0 (pass w) x.1 x.2):=by
 have h:=xy (k:=3) (.inr rfl) w x0 hw hR
 rw[xd,(E9 hw _).1] at h
 exact h
theorem He:∀(n:Nat) {w:Wrl},1519-cI w≤n→∀{x:Xm},WOK w→Rel w.props x.1 x.2→∃y:Xm,Rel (bK w).props y.1 y.2∧x.1.length≤y.1.length:=by
 intro n
 induction n with
 |zero=>
  intro w hn x hw hR
  obtain⟨y,h,-⟩:=vM w x hw hR
  rw[bK]
  split
  ·omega
  ·exact⟨y,h⟩
 |succ n ih=>
  intro w hn x hw hR
  obtain⟨y,⟨h1,h2⟩,-⟩:=vM w x hw hR
  rw[bK]
  split
  ·obtain⟨z,h3,h4⟩:=ih (by omega) (gj hw) h1
   exact⟨z,h3,Nat.le_trans h2 h4⟩
  ·exact⟨y,h1,h2⟩
theorem sv:∀(n:Nat) {w:Wrl},1519-cI w≤n→(bK w).com=w.com:=by
 intro n
 induction n with
 |zero=>
  intro w hn
  rw[bK]
  split
  ·omega
  ·exact(de w _).1
 |succ n ih=>
  intro w hn
  rw[bK]
  split
  ·rw[ih (by omega)];exact(de w _).1
  ·exact(de w _).1
theorem fE {w u:Wrl}(hw:WOK w)(hu:WOK u)(h:u.com=w.com):u.views.length=w.views.length:=by rw[hu.vlen,hw.vlen,h]
set_option maxHeartbeats 1000000 in
theorem vQ (w:Wrl)(x0:Xm)(hw:WOK w)(hR:Rel w.props x0.1 x0.2):∃x:Xm,(Rel (bK w).props x.1 x.2∧x0.1.length≤x.1.length)∧af Tryz.prog 76 [.ptr 4 0] (rW 0 w x0.1 x0.2) (.tup []) (rW 0 (bK w) x.1 x.2):=by
 obtain⟨y0,hy0⟩:=He _ (Nat.le_refl _) hw hR
 suffices hs:∃r hout,(∃x:Xm,(Rel (bK w).props x.1 x.2∧x0.1.length≤x.1.length)∧r= .tup []∧hout=rW 0 (bK w) x.1 x.2)∧af Tryz.prog 76 [.ptr 4 0] (rW 0 w x0.1 x0.2) r hout by
  obtain⟨r,hout,⟨v,hv,rfl,rfl⟩,h⟩:=hs
  exact⟨v,hv,h⟩
 refine dM aS Tryz.func76 rfl rfl false 3 7 rfl rfl rfl rfl (R:=fun r hout=>∃x:Xm,(Rel (bK w).props x.1 x.2∧x0.1.length≤x.1.length)∧r= .tup []∧hout=rW 0 (bK w) x.1 x.2) (r0:=.tup []) (hout0:=rW 0 (bK w) y0.1 y0.2) (⟨y0,hy0,rfl,rfl⟩) fun K hK hb1 hb2=>?_;simp only[ae,enc,Nat.reduceAdd]
 clear hb1 hb2
 (repeat' first|refine a9 ?_|refine sa fun xe hxe=>?_|refine sb (fun hq=>?_) fun hq=>?_|exact True.intro)
 refine ab hK [] [0] (fun x:Wrl×Xm=>⟨[(0,.ptr 4 0)],rW 0 x.1 x.2.1 x.2.2,7⟩) (fun x=>WOK x.1∧(Rel x.1.props x.2.1 x.2.2∧x0.1.length≤x.2.1.length)∧x.1.com=w.com∧bK x.1=bK w) (fun x=>1520-cI x.1) (w,x0) ⟨hw,⟨hR,Nat.le_refl _⟩,rfl,rfl⟩ rfl ?_
 rintro⟨u,xs,ms⟩ ⟨hu,⟨hRu,hxu⟩,huc,hus⟩
 dsimp only at hu hRu hxu huc hus⊢
 obtain⟨⟨xs',ms'⟩,⟨hR',hx⟩,hC⟩:=vM u (xs,ms) hu hRu
 dsimp only at hR' hx hC
 have hpo:=gj hu
 have hpc:(pass u).com=u.com:=(de u _).1
 have hF0:=yB (fE hu hpo hpc)
 have hF1:=rx hx
 have htl:=pB hpo
 have htx:=pB hu
 have e1:cI u<cI (pass u)→bK u=bK (pass u):=fun hh=>by
  rw[bK]
  exact dif_pos ⟨hh,htl⟩
 have e2:¬cI u<cI (pass u)→bK u=pass u:=fun hh=>by
  rw[bK]
  exact dif_neg fun h9=>hh h9.1
 generalize pass u=z at *
 by_cases hh:cI u<cI z
 ·rw[decide_eq_true hh] at hC
  (repeat' first|refine a9 ?_|refine sa fun xe hxe=>?_|refine sb (fun hq=>?_) fun hq=>?_|refine cr (hC) ?_|exact True.intro)
  exact⟨(z,xs',ms'),⟨hpo,⟨hR',by dsimp only at hx⊢;omega⟩,by rw[hpc];exact huc,by rw[←e1 hh];exact hus⟩,by dsimp only;omega,rfl⟩
 ·rw[decide_eq_false hh] at hC
  have e3:=e2 hh
  (repeat' first|refine a9 ?_|refine sa fun xe hxe=>?_|refine sb (fun hq=>?_) fun hq=>?_|refine cr (hC) ?_|exact True.intro)
  refine⟨(xs',ms'),⟨?_,?_⟩,rfl,?_⟩
  ·rw[←hus,e3];exact hR'
  ·dsimp only;omega
  ·rw[←hus,e3]
theorem ta {w:Wrl}:∀r,(aX w r).com=w.com
 |0=>sv _ (Nat.le_refl _)
 |r+1=>by
  have h1:∀u:Wrl,(gb u).com=u.com:=fun u=>(sv _ (Nat.le_refl _)).trans (dR u _).1
  show (gb _).com=_
  rw[h1,ka,h1]
  exact ta r
set_option maxHeartbeats 4000000 in
theorem DE (w:Wrl)(r:Int)(hl:∀g∈w.views,g.length≤2000000)(hr:-1000000≤r∧r≤1000000):af Tryz.prog 31 [ap w,.int .i64 r] [] (if decide (0≤r∧r≤12) && dw w then ap (aX w r.toNat) else sM) []:=by
 have he:=gw w
 refine aa aS Tryz.func31 rfl rfl true 0 4 rfl rfl rfl rfl fun K hK hb1 hb2=>?_;simp only[ae,enc,Nat.reduceAdd]
 clear hb1 hb2
 by_cases hr0:r<0
 ·(repeat' first|refine a9 ?_|refine sa fun xe hxe=>?_|refine sb (fun hq=>?_) fun hq=>?_|exact True.intro)
  rw[decide_eq_false (p:=0≤r∧r≤12) (by omega)]
  exact⟨rfl,rfl⟩
 by_cases hr1:12<r
 ·(repeat' first|refine a9 ?_|refine sa fun xe hxe=>?_|refine sb (fun hq=>?_) fun hq=>?_|exact True.intro)
  rw[decide_eq_false (p:=0≤r∧r≤12) (by omega)]
  exact⟨rfl,rfl⟩
 rw[decide_eq_true (p:=0≤r∧r≤12) (by omega),Bool.true_and]
 cases hp:eg w
 ·have hO:=vK w hl hp
  rw[hp,Bool.false_and] at he
  (repeat' first|refine a9 ?_|refine sa fun xe hxe=>?_|refine sb (fun hq=>?_) fun hq=>?_|refine cr (hO) ?_|exact True.intro)
  rw[he]
  exact⟨rfl,rfl⟩
 have hO:=vL w hl hp
 cases hs:dw w
 ·rw[hs] at hO
  (repeat' first|refine a9 ?_|refine sa fun xe hxe=>?_|refine sb (fun hq=>?_) fun hq=>?_|refine cr (hO) ?_|exact True.intro)
  exact⟨rfl,rfl⟩
 rw[hs] at hO
 have hw:=ce.1 hs
 obtain⟨⟨xs0,ms0⟩,⟨hR0,hx0⟩,hC0⟩:=vQ w (w.props.map fun p=>some p.members,sd w.props) hw (Ev _)
 dsimp only at hR0 hx0 hC0
 have hF0:=yB (fE hw (cD hw 0) (ta 0))
 have hF1:=rx hx0
 rw[show bK w=aX w 0 from rfl] at hR0 hC0
 (repeat' first|refine a9 ?_|refine sa fun xe hxe=>?_|refine sb (fun hq=>?_) fun hq=>?_|refine cr (hO) ?_|refine cr (hC0) ?_|exact True.intro)
 clear hO hC0 hF0 hF1
 refine ab hK [] [4,5,26,27] (fun x:Nat×Xm=>⟨[(4,.ptr 4 0),(5,.ptr 5 0),(26,.int .i64 r),(27,.int .i64 (x.1:Int))],rP (aX w x.1).com (aX w x.1).lead (aX w x.1).bad ((aX w x.1).views.map az) x.2.1 x.2.2,8⟩) (fun x=>x.1≤r.toNat∧Rel (aX w x.1).props x.2.1 x.2.2) (fun x=>r.toNat-x.1) (0,xs0,ms0) ⟨Nat.zero_le _,hR0⟩ (by(conv=>whnf);rfl) ?_
 rintro⟨k,xs,ms⟩ ⟨hk,hRk⟩
 dsimp only at hk hRk⊢
 have hco:=cD hw k
 have hcs:aX w (k+1)=gb (df (gb (aX w k)) k (gb (aX w k)).com.length):=rfl
 have h1c:∀u:Wrl,(gb u).com=u.com:=fun u=>(sv _ (Nat.le_refl _)).trans (dR u _).1
 by_cases hlt:(k:Int)<r
 ·generalize aX w k=x at *
  obtain⟨⟨xs1,ms1⟩,⟨hR1,hx1⟩,hC1⟩:=Ba x (xs,ms) hco hRk
  dsimp only at hR1 hx1 hC1
  have hvo:WOK (fx x):=cF hco x.props.length
  have hvc:(fx x).com=x.com:=(dR x _).1
  obtain⟨⟨xs2,ms2⟩,⟨hR2,hx2⟩,hC2⟩:=vQ (fx x) (xs1,ms1) hvo hR1
  dsimp only at hR2 hx2 hC2
  have hro:=gm hco
  have hF0:=yB (fE hco hvo hvc)
  have hF1:=rx hx1
  have hF2:=yB (w:=fx x) (fE hvo hro ((h1c x).trans hvc.symm))
  have hF3:=rx hx2
  rw[show bK (fx x)=gb x from rfl] at hR2 hC2
  have hxc:=h1c x
  generalize fx x=x1 at *
  generalize gb x=y at *
  (repeat' first|refine a9 ?_|refine sa fun xe hxe=>?_|refine sb (fun hq=>?_) fun hq=>?_|refine cr (hC1) ?_|refine cr (hC2) ?_|exact True.intro)
  clear hC1 hC2 hF0 hF1 hF2 hF3
  refine ab hK [] [4,5,7,26,27,38,39] (fun q:Nat×Xm=>⟨[(4,.ptr 4 0),(5,.ptr 5 0),(7,.int .i64 (k:Int)),(26,.int .i64 r),(27,.int .i64 (k:Int)),(38,.int .i64 y.com.length),(39,.int .i64 (q.1:Int))],rP (df y k q.1).com (df y k q.1).lead (df y k q.1).bad ((df y k q.1).views.map az) q.2.1 q.2.2,8⟩) (fun q=>q.1≤y.com.length∧Rel (df y k q.1).props q.2.1 q.2.2) (fun q=>y.com.length-q.1) (0,xs2,ms2) ⟨Nat.zero_le _,hR2⟩ (by(conv=>whnf);rfl) ?_
  rintro⟨m,xs3,ms3⟩ ⟨hm,hR3⟩
  dsimp only at hm hR3⊢
  have hdc:=ka y k m
  have hdo:=fU hro k m
  have hyl:=hro.len
  have hds:df y k (m+1)=ew (df y k m) m (7*k+m):=rfl
  by_cases hml:m<y.com.length
  ·generalize df y k m=z at *
   have hsd:dG z ⟨1,m,7*k+m,v0⟩=ew z m (7*k+m):=rfl
   have hF0:=Av (w:=z) (e:=⟨1,m,7*k+m,v0⟩)
   rw[hsd] at hF0
   cases ha:oa z ⟨1,m,7*k+m,v0⟩
   ·obtain⟨⟨xs4,ms4⟩,⟨hR4,hx4⟩,hC4⟩:=nF z _ _ hdo hR3 ⟨1,m,7*k+m,v0⟩ ha
    have hcg:pG z ⟨1,m,7*k+m,v0⟩=false:=rfl
    rw[hsd] at hR4 hC4
    rw[hcg] at hC4
    have hF1:=rx hx4
    have hC4:af Tryz.prog 58 [.ptr 4 0,.agg [.int .i64 1,.int .i64 (m:Int),.int .i64 (7*k+m),.int .i64 0,.int .i64 0,.lst (.int .i64) [],.int .i64 0]] (rW 0 z xs3 ms3) (.bool false) (rW 0 (ew z m (7*k+m)) xs4 ms4):=hC4
    generalize ew z m (7*k+m)=z2 at *
    (repeat' first|refine a9 ?_|refine sa fun xe hxe=>?_|refine sb (fun hq=>?_) fun hq=>?_|refine cr (hC4) ?_|exact True.intro)
    refine⟨(m+1,xs4,ms4),⟨by dsimp only;omega,by dsimp only;rw[hds];exact hR4⟩,by dsimp only;omega,?_⟩
    dsimp only
    rw[hds]
    rfl
   ·obtain⟨⟨xs4,ms4⟩,⟨hR4,hx4⟩,hC4⟩:=rK z _ _ hdo hR3 ⟨1,m,7*k+m,v0⟩ ha
    rw[hsd] at hR4 hC4
    have hF1:=rx hx4
    have hC4:af Tryz.prog 58 [.ptr 4 0,.agg [.int .i64 1,.int .i64 (m:Int),.int .i64 (7*k+m),.int .i64 0,.int .i64 0,.lst (.int .i64) [],.int .i64 0]] (rW 0 z xs3 ms3) (.bool true) (IA 0 (ew z m (7*k+m)) xs4 ms4):=hC4
    generalize ew z m (7*k+m)=z2 at *
    (repeat' first|refine a9 ?_|refine sa fun xe hxe=>?_|refine sb (fun hq=>?_) fun hq=>?_|refine cr (hC4) ?_|exact True.intro)
    refine⟨(m+1,xs4,ms4),⟨by dsimp only;omega,by dsimp only;rw[hds];exact hR4⟩,by dsimp only;omega,?_⟩
    dsimp only
    rw[hds]
    rfl
  ·obtain rfl:m=y.com.length:=by omega
   have hzc:(df y k y.com.length).com.length=y.com.length:=by rw[hdc]
   generalize df y k y.com.length=z at *
   obtain⟨⟨xs4,ms4⟩,⟨hR4,hx4⟩,hC4⟩:=Ba z (xs3,ms3) hdo hR3
   dsimp only at hR4 hx4 hC4
   have hvo4:WOK (fx z):=cF hdo z.props.length
   have hvc4:(fx z).com=z.com:=(dR z _).1
   obtain⟨⟨xs5,ms5⟩,⟨hR5,hx5⟩,hC5⟩:=vQ (fx z) (xs4,ms4) hvo4 hR4
   dsimp only at hR5 hx5 hC5
   have hro4:=gm hdo
   have hF0:=yB (fE hdo hvo4 hvc4)
   have hF1:=rx hx4
   have hF2:=yB (w:=fx z) (fE hvo4 hro4 ((h1c z).trans hvc4.symm))
   have hF3:=rx hx5
   rw[show bK (fx z)=gb z from rfl] at hR5 hC5
   generalize fx z=z1 at *
   generalize gb z=z2 at *
   (repeat' first|refine a9 ?_|refine sa fun xe hxe=>?_|refine sb (fun hq=>?_) fun hq=>?_|refine cr (hC4) ?_|refine cr (hC5) ?_|exact True.intro)
   refine⟨(k+1,xs5,ms5),⟨by dsimp only;omega,by dsimp only;rw[hcs];exact hR5⟩,by dsimp only;omega,?_⟩
   dsimp only
   rw[hcs]
   rfl
 ·obtain rfl:k=r.toNat:=by omega
  have hW:=nJ 0 (aX w r.toNat) xs ms hco hRk
  generalize aX w r.toNat=x at *
  (repeat' first|refine a9 ?_|refine sa fun xe hxe=>?_|refine sb (fun hq=>?_) fun hq=>?_|refine cr (hW) ?_|exact True.intro)
  exact⟨rfl,rfl⟩

end Go.Proofs.YthmfppknagbkeaaGreatDoor.Am
