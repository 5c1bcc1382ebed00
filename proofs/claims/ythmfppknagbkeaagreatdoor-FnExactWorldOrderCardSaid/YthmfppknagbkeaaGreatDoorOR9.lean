/- Errors told apart. Orders: leaders, votes, committed waves of the program. Orders: heaps of vertices (plain laws). Orders: heaps of vertices in the program. Orders: vertices sink in heaps. Orders: vertices come out of heaps in order. Orders: what a wave orders, vertex by vertex (plain laws). Orders: committed waves of the program. Orders: all committed waves of the program. Orders: the program's orders. Orders: the laws' waves and orders. -/
import Derived.LaidEql
import Derived.Stop.Asserts
import Derived.RowKitTokens
import Derived.Test.YthmfppknagbkeaaGreatDoorOR8
set_option linter.unusedSimpArgs false
set_option linter.unusedVariables false
set_option maxHeartbeats 1000000
namespace Go.Proofs.YthmfppknagbkeaaGreatDoor.Am
open Go Go.RowKit Go.Extern.Stop Go.Stop Go.Extern
set_option maxRecDepth 10000
theorem Fw (v:Value)(w:World):(Extern.ReflectliteType.typeOf #[.iface 248 v]).run Tryz.prog w= .ok (.iface 238 (.agg #[.pointer (some ⟨3,248,none⟩)])) w:=by kernel_rfl
theorem Fs (w : World) : ((Extern.ReflectliteType.method fun t => do Rtype.noPackHeld "Comparable" t; (fun a => Value.bool a.comparable) <$> typeInfo t) #[.agg #[.pointer (some ⟨3, 248, none⟩)]]).run Tryz.prog w = .ok (.bool true) w := by kernel_rfl
theorem Fu (v : Value) (w : World) : (Go.method 383 238 v "Comparable").run Tryz.prog w = .ok (250, v) w := by kernel_rfl
theorem Ft:(Tryz.prog.info? 248).map (·.comparable)=some true:=by kernel_rfl
theorem Fv:(Tryz.prog.info? 272).map (·.size)=some 1:=by kernel_rfl
theorem Fq (a:Addr)(w:World):
  Calls Tryz.prog 206 #[.iface 248 (.pointer (some a)),.iface 248 (.pointer (some a))] w fun e w'=>e= .returned (.bool true)∧w'=w:=by
 obtain⟨i,hi,hcmp⟩:=Option.map_eq_some_iff.1 Ft
 obtain⟨j,hj,hjs⟩:=Option.map_eq_some_iff.1 Fv
 have h8:=@run_callFunc_extern Tryz.prog 221 _ Extern.ReflectliteType.typeOf Tryz.func221 (by kernel_rfl) (by kernel_rfl) (by kernel_rfl) (by kernel_rfl)
 have h32 := @run_callFunc_extern Tryz.prog 250 _ (Extern.ReflectliteType.method fun t => do Rtype.noPackHeld "Comparable" t; pure (.bool (← typeInfo t).comparable)) Tryz.func250 (by kernel_rfl) (by kernel_rfl) (by kernel_rfl) (by kernel_rfl)
 have tT:=Fw
 have cT:=Fs
 have mR:=Fu
 have heq:=run_eql_iface_ptr_same (P:=Tryz.prog) w a Tryz.underlying128 Tryz.underlying248 hi hcmp hj
 go_enter Tryz.func206,Tryz.ntmps206
 go_wp2
 refine wp_loop_rounds 1 ?_
 rw[rounds_succ]
 go_wp2
 go_ret
 exact⟨rfl,rfl⟩
theorem Fp (b:Addr)(w:World):
  Calls Tryz.prog 206 #[.nilIface,.iface 248 (.pointer (some b))] w fun e w'=>e= .returned (.bool false)∧w'=w:=by
 have hn:=run_eql_iface_nil_left (P:=Tryz.prog) w 248 (.pointer (some b)) Tryz.underlying128
 go_enter Tryz.func206,Tryz.ntmps206
 go_wp2
 go_ret
 exact⟨rfl,rfl⟩
theorem xP {ρ:Id→Pl}{L:Id→Prop}{ok:Nat→Prop}{w:World}{v:Value}(h:C ρ L ok w (.gv 2) v):∃ad,v= .iface 248 (.pointer (some ad))∧w.cell? ⟨2,0,none⟩=some (.iface 248 (.pointer (some ad))):=by
 obtain⟨x,ad,rfl,hx,-,hc⟩:=h.gv_inv
 obtain rfl:(248,128)=x:=Option.some.inj hx
 exact⟨ad,rfl,hc⟩
theorem rQ {vs:Array Value}(h:2=vs.size):∃v1 v2,vs= #[v1,v2]:=by
 refine⟨vs[0],vs[1],Array.ext (by simp[←h]) fun i h1 h2=>?_⟩
 have:i=0∨i=1:=by simp at h2;omega
 rcases this with rfl|rfl<;>rfl
theorem Cy:aj Tryz.prog 206 [.gv 2,.gv 2] [] (.bool true) []:=by
 unfold aj
 refine gL ⟨_,Tryz.func206,rfl,rfl⟩ fun w ok ρ vs hl hc=>?_
 obtain⟨v1,v2,rfl⟩:=rQ hl
 obtain⟨ad,rfl,c1⟩:=xP (hc 0 (by decide))
 obtain⟨ad',e2,c2⟩:=xP (hc 1 (by decide))
 rw[c1] at c2
 have e:v2= .iface 248 (.pointer (some ad)):=e2.trans (Option.some.inj c2).symm
 subst e
 refine(Fq ad w).mono ?_
 rintro e w' ⟨rfl,rfl⟩
 exact⟨_,rfl,⟨rfl,rfl,rfl,Nat.le_refl _,fun _ _=>rfl⟩,fun ok'=>.bool _⟩
theorem Cx:aj Tryz.prog 206 [.nili,.gv 2] [] (.bool false) []:=by
 unfold aj
 refine gL ⟨_,Tryz.func206,rfl,rfl⟩ fun w ok ρ vs hl hc=>?_
 obtain⟨v1,v2,rfl⟩:=rQ hl
 have e1:C ρ (fun _=>False) ok w .nili v1:=hc 0 (by decide)
 obtain rfl:=e1.nili_inv
 obtain⟨ad',e2,-⟩:=xP (hc 1 (by decide))
 have e2:v2= .iface 248 (.pointer (some ad')):=e2
 subst e2
 refine(Fp ad' w).mono ?_
 rintro e w' ⟨rfl,rfl⟩
 exact⟨_,rfl,⟨rfl,rfl,rfl,Nat.le_refl _,fun _ _=>rfl⟩,fun ok'=>.bool _⟩
end Go.Proofs.YthmfppknagbkeaaGreatDoor.Am
namespace Go.Proofs.YthmfppknagbkeaaGreatDoor.Am
open Go
attribute [local irreducible] Mk ba Ari di jQ f4 bh bV eY d6 At aj
set_option maxRecDepth 10000
def Θe:TT:=(128,⟨.ifc,1,16,some .nili,none,false⟩)::Θg
theorem bJ:TT.ok Tryz.prog Θe:=TT.okB_ok (by kernel_rfl)
theorem iC {P Q:Prop}(h:Q)(s:Hid Q→P:=by
  intro h
  (first|(with_reducible first|apply ci|apply bP)|((first|with_reducible apply bE bJ|refine go ?_|(with_reducible first|apply bW|apply b7|apply bC|apply bF|refine bD bJ mixed (by kernel_rfl) ?_))<;>conv=>whnf))
  repeat(first|(with_reducible first|apply ci|apply bP)|((first|with_reducible apply bE bJ|refine go ?_|(with_reducible first|apply bW|apply b7|apply bC|apply bF|refine bD bJ mixed (by kernel_rfl) ?_))<;>conv=>whnf))
  exact h.h):P:=s ⟨h⟩
abbrev z8 (c:List Int)(s:GS):VH:=[(1,.frow 166 (.hp 0) s.rows),(0,.fvar 178 (.nod 1) s.nodes)]
abbrev vD (c:List Int)(s:GS):VH:=[(0,.fvar 178 (.nod 1) s.nodes),(1,.frow 166 (.hp 0) s.rows)]
theorem Bm (c:List Int)(s:GS)(k:Nat):aj Tryz.prog 225 [.hro 1 none,.hpo 0 (some k)] (z8 c s) (.int .i64 (-1)) (vD c s):=by
 refine ab ce Tryz.func225 rfl rfl false 0 4 rfl rfl rfl rfl fun K hK hb1 hb2=>?_;simp only[af,enc,Nat.reduceAdd]
 clear hb1 hb2
 (repeat' first|refine eM ?_|refine sa fun xe hxe=>?_|refine sb (fun hq=>?_) fun hq=>?_|exact True.intro)
 refine ah hK [] [0,1,7,8] (fun i:Nat=>⟨[(0,.hro 1 none),(1,.hpo 0 (some k)),(7,.int .i64 0),(8,.int .i64 (i:Int))],vD c s,4⟩) (fun i=>i=0) (fun i=>i) 0 rfl rfl ?_
 rintro i rfl
 (repeat' first|refine eM ?_|refine sa fun xe hxe=>?_|refine sb (fun hq=>?_) fun hq=>?_|exact True.intro)
 exact⟨rfl,rfl⟩
theorem DD (c:List Int)(s:GS)(r k:Nat)(xs:List (Option Nat))(hr:s.rows[r]?=some xs)(hxs:∀o∈xs,∃q,o=some q∧q<s.nodes.length)(hk:k<s.nodes.length)(hl:xs.length≤1000000):aj Tryz.prog 225 [.hro 1 (some r),.hpo 0 (some k)] (z8 c s) (.int .i64 (match xs.findIdx? (fun o=>o==some k) with|some i=>(i:Int)|none=>-1)) (vD c s):=by
 have hkx:s.nodes[k]?=some s.nodes[k]:=List.getElem?_eq_getElem hk
 generalize s.nodes[k]=nk at *
 refine ab ce Tryz.func225 rfl rfl false 0 4 rfl rfl rfl rfl fun K hK hb1 hb2=>?_;simp only[af,enc,Nat.reduceAdd]
 clear hb1 hb2
 (repeat' first|refine eM ?_|refine sa fun xe hxe=>?_|refine sb (fun hq=>?_) fun hq=>?_|exact True.intro)
 refine ah hK [] [0,1,7,8] (fun i:Nat=>⟨[(0,.hro 1 (some r)),(1,.hpo 0 (some k)),(7,.int .i64 xs.length),(8,.int .i64 (i:Int))],vD c s,4⟩) (fun i=>i≤xs.length∧∀o∈xs.take i,(o==some k)=false) (fun i=>xs.length-i) 0 ⟨by simp,by simp⟩ rfl ?_
 rintro i ⟨hi,hall⟩
 by_cases hlt:i<xs.length
 ·have hxe:xs[i]?=some xs[i]:=List.getElem?_eq_getElem hlt
  have h3:xs.take (i+1)=xs.take i++[xs[i]]:=List.take_succ_eq_append_getElem hlt
  have h4:=kY (l:=xs) (p:=fun o=>o==some k) hxe hall
  obtain⟨q,hq,hql⟩:=hxs _ (List.mem_of_getElem? hxe)
  have hqx:s.nodes[q]?=some s.nodes[q]:=List.getElem?_eq_getElem hql
  rw[hq] at hxe h3 h4
  generalize s.nodes[q]=nq at *
  by_cases he:k=q
  ·subst he
   (repeat' first|refine eM ?_|refine sa fun xe hxe=>?_|refine sb (fun hq=>?_) fun hq=>?_|exact True.intro)
   refine⟨?_,rfl⟩
   rw[h4 (by simp)]
  ·(repeat' first|refine eM ?_|refine sa fun xe hxe=>?_|refine sb (fun hq=>?_) fun hq=>?_|exact True.intro)
   exact⟨i+1,⟨by omega,by rw[h3];exact a5 hall (by simpa using fun h=>he h.symm)⟩,by omega,rfl⟩
 ·(repeat' first|refine eM ?_|refine sa fun xe hxe=>?_|refine sb (fun hq=>?_) fun hq=>?_|exact True.intro)
  refine⟨?_,rfl⟩
  rw[List.take_of_length_le (by omega)] at hall
  rw[List.findIdx?_eq_none_iff.2 hall]
theorem Bi (c:List Int)(s:GS)(k:Nat):aj Tryz.prog 220 [.hro 1 none,.hpo 0 (some k)] (z8 c s) (.bool false) (vD c s):=by
 refine ab ce Tryz.func220 rfl rfl false 0 4 rfl rfl rfl rfl fun K hK hb1 hb2=>?_;simp only[af,enc,Nat.reduceAdd]
 clear hb1 hb2
 (repeat' first|refine eM ?_|refine sa fun xe hxe=>?_|refine sb (fun hq=>?_) fun hq=>?_|refine co (Bm c s k) ?_|exact True.intro)
 exact⟨rfl,rfl⟩
theorem DA (c:List Int)(s:GS)(r k:Nat)(xs:List (Option Nat))(hr:s.rows[r]?=some xs)(hxs:∀o∈xs,∃q,o=some q∧q<s.nodes.length)(hk:k<s.nodes.length)(hl:xs.length≤1000000):aj Tryz.prog 220 [.hro 1 (some r),.hpo 0 (some k)] (z8 c s) (.bool (xs.contains (some k))) (vD c s):=by
 have hI:=DD c s r k xs hr hxs hk hl
 refine ab ce Tryz.func220 rfl rfl false 0 4 rfl rfl rfl rfl fun K hK hb1 hb2=>?_;simp only[af,enc,Nat.reduceAdd]
 clear hb1 hb2
 cases h:xs.findIdx? (fun o=>o==some k) with
 |none=>
  rw[h] at hI
  have e:xs.contains (some k)=false:=by
   rw[Bool.eq_false_iff]
   intro h2
   have:=List.findIdx?_eq_none_iff.1 h _ (List.contains_iff_mem.1 h2)
   simp at this
  rw[e]
  (repeat' first|refine eM ?_|refine sa fun xe hxe=>?_|refine sb (fun hq=>?_) fun hq=>?_|refine co (hI) ?_|exact True.intro)
  exact⟨rfl,rfl⟩
 |some i=>
  rw[h] at hI
  obtain⟨hi,h1,-⟩:=List.findIdx?_eq_some_iff_getElem.1 h
  have e:xs.contains (some k)=true:=List.contains_iff_mem.2 (by rw[←(beq_iff_eq.1 h1)];exact List.getElem_mem hi)
  rw[e]
  (repeat' first|refine eM ?_|refine sa fun xe hxe=>?_|refine sb (fun hq=>?_) fun hq=>?_|refine co (hI) ?_|exact True.intro)
  exact⟨rfl,rfl⟩
def Ff (xs ys:List Int)(i:Nat):Prop:=ys.length=xs.length∧∀k,k<xs.length→ys[k]?=if k<i∨xs.length-i≤k then xs[xs.length-1-k]? else xs[k]?
theorem Bh {xs ys:List Int}{i:Nat}(h:Ff xs ys i)(hi:xs.length≤2*i+1):ys=xs.reverse:=by
 refine List.ext_getElem? fun k=>?_
 rcases Nat.lt_or_ge k xs.length with hk|hk
 ·rw[h.2 k hk,List.getElem?_reverse hk]
  split
  ·rfl
  ·congr 1;omega
 ·rw[List.getElem?_eq_none (by rw[h.1];exact hk),List.getElem?_eq_none (by simpa using hk)]
theorem y9 {xs ys:List Int}{i:Nat}{a b:Int}(h:Ff xs ys i)(hi:2*i+1<xs.length)(ha:ys[i]?=some a)(hb:ys[xs.length-1-i]?=some b):Ff xs ((ys.set i b).set (xs.length-1-i) a) (i+1):=by
 obtain⟨h1,h2⟩:=h
 have ea:=h2 i (by omega)
 have eb:=h2 (xs.length-1-i) (by omega)
 rw[if_neg (by omega)] at ea eb
 refine⟨by simp[h1],fun k hk=>?_⟩
 rw[List.getElem?_set,List.getElem?_set,List.length_set]
 by_cases e1:xs.length-1-i=k
 ·rw[if_pos e1,if_pos (by omega),if_pos (by omega),←ha,ea]
  congr 1;omega
 ·rw[if_neg e1]
  by_cases e2:i=k
  ·rw[if_pos e2,if_pos (by omega),if_pos (by omega),←hb,eb]
   congr 1;omega
  ·rw[if_neg e2,h2 k hk]
   by_cases e3:k<i∨xs.length-i≤k
   ·rw[if_pos e3,if_pos (by omega)]
   ·rw[if_neg e3,if_neg (by omega)]
theorem C3 (xs:List Int)(hl:xs.length≤1000000):aj Tryz.prog 207 [.ref 4] [(4,.row 3 (.int .i64) xs)] (.tup []) [(4,.row 3 (.int .i64) xs.reverse)]:=by
 refine ab ak Tryz.func207 rfl rfl false 1 5 rfl rfl rfl rfl fun K hK hb1 hb2=>?_;simp only[af,enc,Nat.reduceAdd]
 clear hb1 hb2
 (repeat' first|refine st ?_|refine sa fun xe hxe=>?_|refine sb (fun hq=>?_) fun hq=>?_|exact True.intro)
 refine ah hK [] [0,2,3] (fun x:Nat×List Int=>⟨[(0,.ref 4),(2,.int .i64 (x.1:Int)),(3,.int .i64 ((xs.length:Int)-1-x.1))],[(4,.row 3 (.int .i64) x.2)],5⟩) (fun x=>Ff xs x.2 x.1∧2*x.1≤xs.length+1) (fun x=>xs.length-x.1) (0,xs) ⟨⟨rfl,fun k hk=>by rw[if_neg (by omega)]⟩,by simp⟩ (by rw[show ((xs.length:Int)-1-((0:Nat):Int))=(xs.length:Int)-1 by omega];rfl) ?_
 rintro⟨i,ys⟩ ⟨hR,hi⟩
 dsimp only at hR hi⊢
 have hyl:=hR.1
 by_cases hlt:2*i+1<xs.length
 ·have hxa:ys[i]?=some ys[i]:=List.getElem?_eq_getElem (by omega)
  have hjb:xs.length-1-i<ys.length:=by omega
  have hxb:ys[xs.length-1-i]?=some ys[xs.length-1-i]:=List.getElem?_eq_getElem hjb
  have hst:=y9 hR hlt hxa hxb
  generalize hj:xs.length-1-i=j at *
  have hje:((xs.length:Int)-1-(i:Int))=(j:Int):=by omega
  rw[hje]
  generalize ys[i]=a at *
  generalize ys[j]=b at *
  have hxc:(ys.set i b)[j]?=some b:=by rw[List.getElem?_set,if_neg (by omega)];exact hxb
  have hsl:(ys.set i b).length=ys.length:=by simp
  (repeat' first|refine st ?_|refine sa fun xe hxe=>?_|refine sb (fun hq=>?_) fun hq=>?_|exact True.intro)
  exact⟨(i+1,(ys.set i b).set j a),⟨hst,by dsimp only;omega⟩,by dsimp only;omega,by rw[show ((xs.length:Int)-1-((i+1:Nat):Int))=(j:Int)-1 by omega];rfl⟩
 ·have hfin:=Bh hR (by omega)
  (repeat' first|refine st ?_|refine sa fun xe hxe=>?_|refine sb (fun hq=>?_) fun hq=>?_|exact True.intro)
  exact⟨rfl,by rw[hfin]⟩
theorem lb {c l:List Int}(hl:leaS c l=true){w:Nat}(h1:1≤w)(h2:w≤l.length):0≤dd l w∧dd l w<c.length:=by
 have hx:=hY h1 h2
 exact(aW.1 hl).1 _ (List.mem_of_getElem? hx)
theorem sd {c:List Int}{g:List Vtx}(hg:GraOK c g){l:List Int}(hl:leaS c l=true){w:Nat}(h1:1≤w)(h2:w≤l.length):(bn g).at (2*(w:Int)-1) (dd l w)=g.findIdx? (cm (2*(w:Int)-1) (dd l w)):=by
 have h7:=(au.1 hg.com).2
 have hm:=lb hl h1 h2
 have hll:=(aW.1 hl).2
 exact qI hg (by omega) (by omega)
theorem kU {c:List Int}{g:List Vtx}(hg:GraOK c g){l:List Int}(hl:leaS c l=true){w:Nat}(h1:1≤w)(h2:w≤l.length){k:Vtx}(hk:kE g l w=some k):∃n:Nat,(bn g).at (2*(w:Int)-1) (dd l w)=some n∧g[n]?=some k:=by
 obtain⟨a1,a2,a3⟩:=mf hk
 obtain⟨i,hi⟩:=List.getElem?_of_mem a1
 have:=iI hg hi
 rw[a2,a3] at this
 exact⟨i,by rw[sd hg hl h1 h2,this],hi⟩
theorem tO {c:List Int}{g:List Vtx}(hg:GraOK c g){l:List Int}(hl:leaS c l=true){w:Nat}(h1:1≤w)(h2:w≤l.length)(hk:kE g l w=none):(bn g).at (2*(w:Int)-1) (dd l w)=none:=by
 rw[sd hg hl h1 h2,List.findIdx?_eq_none_iff]
 intro x hx
 have:=List.find?_eq_none.1 hk x hx
 simpa using this
theorem oW (c:List Int)(g:List Vtx)(l:List Int)(w n:Nat)(hg:GraOK c g)(hl:leaS c l=true)(h1:1≤w)(h2:w≤l.length)(ha:(bn g).at (2*(w:Int)-1) (dd l w)=some n):aj Tryz.prog 143 [.agg [.ptr 4 0,.lst (.int .i64) l],.int .i64 (w:Int)] (gR c (bn g)) (.tup [.hpo 0 (some n),.nili]) (gR c (bn g)):=by
 have h7:=(au.1 hg.com).2
 have hx:=hY h1 h2
 have hll:=(aW.1 hl).2
 have hA:=iF c (bn g) (2*(w:Int)-1) (dd l w) (ct g).2 h7.2 (av.2 (by omega)) (av.2 (by have:=lb hl h1 h2;omega))
 rw[ha] at hA
 have hin1:(none:Option Nat).isNone=true:=rfl
 have hin2:(some n:Option Nat).isNone=false:=rfl
 refine ab bJ Tryz.func143 rfl rfl false 2 6 rfl rfl rfl rfl fun K hK hb1 hb2=>?_;simp only[af,enc,Nat.reduceAdd]
 clear hb1 hb2
 (repeat' first|refine iC ?_|refine sa fun xe hxe=>?_|refine sb (fun hq=>?_) fun hq=>?_|refine co (hA) ?_|exact True.intro)
 exact⟨rfl,rfl⟩
theorem x9 (c:List Int)(g:List Vtx)(l:List Int)(w:Nat)(hg:GraOK c g)(hl:leaS c l=true)(h1:1≤w)(h2:w≤l.length)(ha:(bn g).at (2*(w:Int)-1) (dd l w)=none):aj Tryz.prog 143 [.agg [.ptr 4 0,.lst (.int .i64) l],.int .i64 (w:Int)] (gR c (bn g)) (.tup [.nilp,.gv 2]) (gR c (bn g)):=by
 have h7:=(au.1 hg.com).2
 have hx:=hY h1 h2
 have hll:=(aW.1 hl).2
 have hA:=iF c (bn g) (2*(w:Int)-1) (dd l w) (ct g).2 h7.2 (av.2 (by omega)) (av.2 (by have:=lb hl h1 h2;omega))
 rw[ha] at hA
 have hin1:(none:Option Nat).isNone=true:=rfl
 refine ab bJ Tryz.func143 rfl rfl false 2 6 rfl rfl rfl rfl fun K hK hb1 hb2=>?_;simp only[af,enc,Nat.reduceAdd]
 clear hb1 hb2
 (repeat' first|refine iC ?_|refine sa fun xe hxe=>?_|refine sb (fun hq=>?_) fun hq=>?_|refine co (hA) ?_|exact True.intro)
 exact⟨rfl,rfl⟩
theorem CW (c:List Int)(l:List Int)(w:Nat)(hc:comV c=true)(hl:leaS c l=true)(h1:1≤w)(h2:w≤l.length):aj Tryz.prog 143 [.agg [.ptr 4 0,.lst (.int .i64) l],.int .i64 (w:Int)] (gZ c eQ) (.tup [.nilp,.gv 2]) (gZ c eQ):=by
 have h7:=(au.1 hc).2
 have hx:=hY h1 h2
 have hll:=(aW.1 hl).2
 have hA:=wN c eQ (2*(w:Int)-1) (dd l w) List.length_replicate h7.2 (av.2 (by omega)) (av.2 (by have:=lb hl h1 h2;omega))
 rw[sJ] at hA
 have hin1:(none:Option Nat).isNone=true:=rfl
 refine ab bJ Tryz.func143 rfl rfl false 1 5 rfl rfl rfl rfl fun K hK hb1 hb2=>?_;simp only[af,enc,Nat.reduceAdd]
 clear hb1 hb2
 (repeat' first|refine iC ?_|refine sa fun xe hxe=>?_|refine sb (fun hq=>?_) fun hq=>?_|refine co (hA) ?_|exact True.intro)
 exact⟨rfl,rfl⟩
def E2 (g:List Vtx)(l:List Int)(w:Nat)(a:Int):Bool:=g.any fun v=>(v.round==2*(w:Int) && v.author==a) && v.parents.contains (dd l w)
def wy (g:List Vtx)(l:List Int)(w n:Nat):List Int:=((List.range n).filter fun a:Nat=>E2 g l w (a:Int)).map fun a:Nat=>(a:Int)
theorem zE (g:List Vtx)(l:List Int)(w n:Nat):wy g l w (n+1)=if E2 g l w (n:Int)=true then wy g l w n++[(n:Int)] else wy g l w n:=by
 simp only[wy,List.range_succ,List.filter_append,List.map_append,List.filter_cons,List.filter_nil]
 split<;>simp
theorem BC (g:List Vtx)(l:List Int)(w n:Nat):(wy g l w n).length≤n:=by
 unfold wy
 rw[List.length_map]
 exact Nat.le_trans (List.length_filter_le _ _) (by simp)
theorem DS {c:List Int}{g:List Vtx}(hg:GraOK c g)(l:List Int)(w:Nat):wy g l w c.length=m4 g l w:=by
 refine ol ?_ (BD hg.pw l w) fun a=>?_
 ·unfold wy
  rw[List.pairwise_map]
  exact(List.Pairwise.filter _ List.pairwise_lt_range).imp fun h=>by omega
 ·rw[BF,wy,List.mem_map]
  simp only[List.mem_filter,List.mem_range,E2,List.any_eq_true,Bool.and_eq_true,beq_iff_eq,List.contains_iff_mem]
  constructor
  ·rintro⟨n,⟨hn,v,hv,⟨h1,h2⟩,h3⟩,rfl⟩
   exact⟨v,hv,h1,h3,h2⟩
  ·rintro⟨v,hv,h1,h2,rfl⟩
   have:=(bl (hg.vtx v hv)).2.1
   exact⟨v.author.toNat,⟨by omega,v,hv,⟨h1,by omega⟩,h2⟩,by omega⟩
theorem zC {g:List Vtx}{l:List Int}{w:Nat}{a:Int}(h:g.findIdx? (cm (2*(w:Int)) a)=none):E2 g l w a=false:=by
 rw[Bool.eq_false_iff]
 intro h2
 obtain⟨v,hv,h3⟩:=List.any_eq_true.1 h2
 simp only[Bool.and_eq_true] at h3
 have:=List.findIdx?_eq_none_iff.1 h v hv
 rw[show cm (2*(w:Int)) a v=true by simp only[cm,Bool.and_eq_true];exact h3.1] at this
 cases this
theorem zD {c:List Int}{g:List Vtx}(hg:GraOK c g){l:List Int}{w n q:Nat}{a:Int}{v:Vtx}(hq:g.findIdx? (cm (2*(w:Int)) a)=some q)(hv:g[q]?=some v)(hn:g.findIdx? (cm (2*(w:Int)-1) (dd l w))=some n):E2 g l w a=(pix g v).contains (some n):=by
 obtain⟨x,x1,x2,x3⟩:=fi hq
 rw[hv] at x1
 obtain rfl:=Option.some.inj x1
 obtain⟨k,k1,k2,k3⟩:=fi hn
 rw[Bool.eq_iff_iff,List.contains_iff_mem]
 constructor
 ·intro h
  obtain⟨u,hu,h3⟩:=List.any_eq_true.1 h
  simp only[Bool.and_eq_true,beq_iff_eq,List.contains_iff_mem] at h3
  obtain⟨⟨h4,h5⟩,h6⟩:=h3
  have e:=lv hg.pw hu (List.mem_of_getElem? hv) (by omega) (by omega)
  subst e
  exact List.mem_map.2 ⟨dd l w,h6,by rw[x2];exact hn⟩
 ·intro h
  obtain⟨b,hb,h3⟩:=List.mem_map.1 h
  obtain⟨y,y1,y2,y3⟩:=fi h3
  rw[k1] at y1
  obtain rfl:=Option.some.inj y1
  refine List.any_eq_true.2 ⟨v,List.mem_of_getElem? hv,?_⟩
  simp only[Bool.and_eq_true,beq_iff_eq,List.contains_iff_mem]
  exact⟨⟨x2,x3⟩,by rw[←k3,y3];exact hb⟩
theorem AU {c:List Int}{g:List Vtx}(hg:GraOK c g){q:Nat}{v:Vtx}(hv:g[q]?=some v):∀o∈pix g v,∃k,o=some k∧k<(bn g).nodes.length:=fun o ho=>by
 obtain⟨k,x,e,h1,-⟩:=jo hg (List.mem_of_getElem? hv) ho
 exact⟨k,e,by rw[(ct g).1];exact(List.getElem?_eq_some_iff.1 h1).1⟩
theorem C5 (c:List Int)(g:List Vtx)(l:List Int)(w:Nat)(hg:GraOK c g)(hl:leaS c l=true)(h1:1≤w)(h2:w≤l.length)(ha:(bn g).at (2*(w:Int)-1) (dd l w)=none):aj Tryz.prog 205 [.agg [.ptr 4 0,.lst (.int .i64) l],.int .i64 (w:Int)] (gR c (bn g)) (.tup [.int .i64 0,.gv 2]) (gR c (bn g)):=by
 have hL:=x9 c g l w hg hl h1 h2 ha
 refine ab bJ Tryz.func205 rfl rfl false 2 6 rfl rfl rfl rfl fun K hK hb1 hb2=>?_;simp only[af,enc,Nat.reduceAdd]
 clear hb1 hb2
 (repeat' first|refine iC ?_|refine sa fun xe hxe=>?_|refine sb (fun hq=>?_) fun hq=>?_|refine co (hL) ?_|exact True.intro)
 exact⟨rfl,rfl⟩
theorem C7 (c:List Int)(l:List Int)(w:Nat)(hc:comV c=true)(hl:leaS c l=true)(h1:1≤w)(h2:w≤l.length):aj Tryz.prog 205 [.agg [.ptr 4 0,.lst (.int .i64) l],.int .i64 (w:Int)] (gZ c eQ) (.tup [.int .i64 0,.gv 2]) (gZ c eQ):=by
 have hL:=CW c l w hc hl h1 h2
 refine ab bJ Tryz.func205 rfl rfl false 1 5 rfl rfl rfl rfl fun K hK hb1 hb2=>?_;simp only[af,enc,Nat.reduceAdd]
 clear hb1 hb2
 (repeat' first|refine iC ?_|refine sa fun xe hxe=>?_|refine sb (fun hq=>?_) fun hq=>?_|refine co (hL) ?_|exact True.intro)
 exact⟨rfl,rfl⟩
theorem C6 (c:List Int)(g:List Vtx)(l:List Int)(w n:Nat)(hg:GraOK c g)(hl:leaS c l=true)(h1:1≤w)(h2:w≤l.length)(ha:(bn g).at (2*(w:Int)-1) (dd l w)=some n):aj Tryz.prog 205 [.agg [.ptr 4 0,.lst (.int .i64) l],.int .i64 (w:Int)] (gR c (bn g)) (.tup [.int .i64 (jO c (m4 g l w)),.nili]) (gR c (bn g)):=by
 have hL:=oW c g l w n hg hl h1 h2 ha
 have h7:=(au.1 hg.com).2
 have hcm:=(au.1 hg.com).1
 have hll:=(aW.1 hl).2
 have hgn:=(ct g).1
 have hfn:=ha
 rw[sd hg hl h1 h2] at hfn
 obtain⟨k,hk,-,-⟩:=fi hfn
 have hnl:n<(bn g).nodes.length:=by rw[hgn];exact(List.getElem?_eq_some_iff.1 hk).1
 have hr:f6 (2*(w:Int)) 0 30=true:=av.2 (by omega)
 rw[←DS hg l w]
 refine ab bJ Tryz.func205 rfl rfl false 2 6 rfl rfl rfl rfl fun K hK hb1 hb2=>?_;simp only[af,enc,Nat.reduceAdd]
 clear hb1 hb2
 (repeat' first|refine iC ?_|refine sa fun xe hxe=>?_|refine sb (fun hq=>?_) fun hq=>?_|refine co (hL) ?_|exact True.intro)
 refine ah hK [] [1,2,6,8,25,26,27] (fun i:Nat=>⟨[(1,.int .i64 (w:Int)),(2,.ptr 6 0),(6,.hpo 0 (some n)),(8,.int .i64 (jO c (wy g l w i))),(25,.lst (.int .i64) c),(26,.int .i64 c.length),(27,.int .i64 (i:Int))],Ag c (bn g) (.var 126 [.ptr 4 0,.lst (.int .i64) l]),7⟩) (fun i=>i≤c.length) (fun i=>c.length-i) 0 (Nat.zero_le _) rfl ?_
 intro i hi
 have hwb:=pP (ms:=wy g l w i) hg.com
 have hwl:=BC g l w i
 by_cases hlt:i<c.length
 ·have hm:bY c i=true:=av.2 (by omega)
  have hA:=iF c (bn g) (2*(w:Int)) (i:Int) (ct g).2 h7.2 hr hm
  have hfd:=qI hg (av.1 hr) (a:=(i:Int)) (by omega)
  have hsn:=zE g l w i
  have hwn:=mW c (wy g l w i) (i:Int)
  have hca:c[i]?=some (c.getD i 0):=by rw[List.getD_eq_getElem?_getD,List.getElem?_eq_getElem hlt];rfl
  have hcb:=hcm _ (List.mem_of_getElem? hca)
  rw[show ((i:Int)).toNat=i by omega] at hwn
  cases h3:(bn g).at (2*(w:Int)) (i:Int) with
  |none=>
   have hin1:(none:Option Nat).isNone=true:=rfl
   rw[h3] at hA
   rw[hfd] at h3
   rw[zC h3,if_neg (by simp)] at hsn
   (repeat' first|refine iC ?_|refine sa fun xe hxe=>?_|refine sb (fun hq=>?_) fun hq=>?_|refine co (hA) ?_|exact True.intro)
   exact⟨i+1,by omega,by omega,by rw[hsn];rfl⟩
  |some q=>
   have hin2:(some q:Option Nat).isNone=false:=rfl
   rw[h3] at hA
   rw[hfd] at h3
   obtain⟨v,hv,-,-⟩:=fi h3
   obtain⟨p,hp,hrow⟩:=qJ hg hv
   have hvb:=zD hg (l:=l) h3 hv hfn
   rcases hrow with⟨hpn,rfl⟩|⟨r,rfl,hrow⟩
   ·have hC:=Bi c (bn g) n
    have e:(pix g v).contains (some n)=false:=by rw[pix,hpn];rfl
    rw[hvb,e,if_neg (by simp)] at hsn
    (repeat' first|refine iC ?_|refine sa fun xe hxe=>?_|refine sb (fun hq=>?_) fun hq=>?_|refine co (hA) ?_|refine co (hC) ?_|exact True.intro)
    exact⟨i+1,by omega,by omega,by rw[hsn];rfl⟩
   ·have hC:=DA c (bn g) r n (pix g v) hrow (AU hg hv) hnl (by
     unfold pix
     rw[List.length_map]
     have:=fj (bl (hg.vtx v (List.mem_of_getElem? hv))).2.2.1
     omega)
    rw[hvb] at hsn
    cases hb:(pix g v).contains (some n)
    ·rw[hb] at hC
     rw[hb,if_neg (by simp)] at hsn
     (repeat' first|refine iC ?_|refine sa fun xe hxe=>?_|refine sb (fun hq=>?_) fun hq=>?_|refine co (hA) ?_|refine co (hC) ?_|exact True.intro)
     exact⟨i+1,by omega,by omega,by rw[hsn];rfl⟩
    ·rw[hb] at hC
     rw[hb,if_pos rfl] at hsn
     generalize c.getD i 0=cx at *
     generalize jO c (wy g l w i)=wx at *
     (repeat' first|refine iC ?_|refine sa fun xe hxe=>?_|refine sb (fun hq=>?_) fun hq=>?_|refine co (hA) ?_|refine co (hC) ?_|exact True.intro)
     exact⟨i+1,by omega,by omega,by rw[hsn,hwn];rfl⟩
 ·obtain rfl:i=c.length:=by omega
  (repeat' first|refine iC ?_|refine sa fun xe hxe=>?_|refine sb (fun hq=>?_) fun hq=>?_|exact True.intro)
  exact⟨rfl,rfl⟩
theorem C4 (c:List Int)(hc:comV c=true):aj Tryz.prog 68 [.lst (.int .i64) c] [] (.int .i64 (wE c)) []:=by
 have h1:=fU hc
 have h3:(kJ c).tdiv 3+1=wE c:=rfl
 have h2:=jy hc
 refine ab ak Tryz.func68 rfl rfl false 0 4 rfl rfl rfl rfl fun K hK hb1 hb2=>?_;simp only[af,enc,Nat.reduceAdd]
 (repeat' first|refine st ?_|refine sa fun xe hxe=>?_|refine sb (fun hq=>?_) fun hq=>?_|refine cr (sO _ hc) ?_|exact True.intro)
 exact⟨rfl,rfl⟩
theorem CS (c:List Int)(g:List Vtx)(l:List Int)(w:Nat)(hg:GraOK c g)(hl:leaS c l=true)(h1:1≤w)(h2:w≤l.length):aj Tryz.prog 182 [.agg [.ptr 4 0,.lst (.int .i64) l],.int .i64 (w:Int)] (gR c (bn g)) (.bool (sy c g l w)) (gR c (bn g)):=by
 have hS:=C4 c hg.com
 have hsp:=jy hg.com
 cases hk:kE g l w with
 |none=>
  have hL:=C5 c g l w hg hl h1 h2 (tO hg hl h1 h2 hk)
  have e:sy c g l w=false:=by
   rw[sy,kR,hk]
   exact decide_eq_false (by simp;omega)
  rw[e]
  refine ab bJ Tryz.func182 rfl rfl false 2 6 rfl rfl rfl rfl fun K hK hb1 hb2=>?_;simp only[af,enc,Nat.reduceAdd]
  clear hb1 hb2
  (repeat' first|refine iC ?_|refine sa fun xe hxe=>?_|refine sb (fun hq=>?_) fun hq=>?_|refine cr (hS) ?_|refine co (hL) ?_|exact True.intro)
  exact⟨rfl,rfl⟩
 |some k=>
  obtain⟨n,hn,-⟩:=kU hg hl h1 h2 hk
  have hL:=C6 c g l w n hg hl h1 h2 hn
  have e:sy c g l w=decide (wE c≤jO c (m4 g l w)):=by rw[sy,kR,hk];rfl
  rw[e]
  generalize jO c (m4 g l w)=x at *
  by_cases hle:wE c≤x
  ·rw[decide_eq_true hle]
   refine ab bJ Tryz.func182 rfl rfl false 2 6 rfl rfl rfl rfl fun K hK hb1 hb2=>?_;simp only[af,enc,Nat.reduceAdd]
   clear hb1 hb2
   (repeat' first|refine iC ?_|refine sa fun xe hxe=>?_|refine sb (fun hq=>?_) fun hq=>?_|refine cr (hS) ?_|refine co (hL) ?_|exact True.intro)
   exact⟨by simp[hle],rfl⟩
  ·rw[decide_eq_false hle]
   refine ab bJ Tryz.func182 rfl rfl false 2 6 rfl rfl rfl rfl fun K hK hb1 hb2=>?_;simp only[af,enc,Nat.reduceAdd]
   clear hb1 hb2
   (repeat' first|refine iC ?_|refine sa fun xe hxe=>?_|refine sb (fun hq=>?_) fun hq=>?_|refine cr (hS) ?_|refine co (hL) ?_|exact True.intro)
   exact⟨by simp[hle],rfl⟩
theorem Av (c:List Int)(l:List Int)(w:Nat)(hc:comV c=true)(hl:leaS c l=true)(h1:1≤w)(h2:w≤l.length):aj Tryz.prog 182 [.agg [.ptr 4 0,.lst (.int .i64) l],.int .i64 (w:Int)] (gZ c eQ) (.bool false) (gZ c eQ):=by
 have hL:=C7 c l w hc hl h1 h2
 refine ab bJ Tryz.func182 rfl rfl false 1 5 rfl rfl rfl rfl fun K hK hb1 hb2=>?_;simp only[af,enc,Nat.reduceAdd]
 clear hb1 hb2
 (repeat' first|refine iC ?_|refine sa fun xe hxe=>?_|refine sb (fun hq=>?_) fun hq=>?_|refine co (hL) ?_|exact True.intro)
 exact⟨rfl,rfl⟩
end Go.Proofs.YthmfppknagbkeaaGreatDoor.Am
namespace Go.Proofs.YthmfppknagbkeaaGreatDoor.Am
open Go
theorem eG {a b:Vtx}:bef a b=true↔a.round<b.round∨(a.round=b.round∧a.author<b.author):=by
 simp only[bef,Bool.or_eq_true,Bool.and_eq_true,decide_eq_true_eq]
theorem wQ {a b:Vtx}(c:Vtx)(h:bef a b=true):bef a c=true∨bef c b=true:=by
 rw[eG] at *
 rw[eG]
 omega
theorem iS {a b:Vtx}(h:bef a b=true):bef b a=false:=by
 rw[Bool.eq_false_iff]
 rw[eG] at h
 intro h2
 rw[eG] at h2
 omega
theorem mo {a b c:Vtx}(h1:bef a b=false)(h2:bef b c=false):bef a c=false:=by
 rw[Bool.eq_false_iff]
 intro h
 rcases wQ b h with h3|h3
 ·rw[h3] at h1;cases h1
 ·rw[h3] at h2;cases h2
def rI (l:List Vtx)(i j:Nat)(x y:Vtx):List Vtx:=(l.set i y).set j x
theorem u3 (l:List Vtx)(i j:Nat)(x y:Vtx):(rI l i j x y).length=l.length:=by simp[rI]
theorem pA {l:List Vtx}{i j:Nat}{x y:Vtx}(hi:l[i]?=some x)(hj:l[j]?=some y)(k:Nat):(rI l i j x y)[k]?=if k=j then some x else if k=i then some y else l[k]?:=by
 have h1:=(List.getElem?_eq_some_iff.1 hi).1
 have h2:=(List.getElem?_eq_some_iff.1 hj).1
 unfold rI
 rw[List.getElem?_set,List.getElem?_set]
 by_cases e1:k=j
 ·subst e1
  rw[if_pos rfl,if_pos (by rw[List.length_set];exact h2),if_pos rfl]
 ·rw[if_neg (by omega),if_neg e1]
  by_cases e2:k=i
  ·subst e2
   rw[if_pos rfl,if_pos h1,if_pos rfl]
  ·rw[if_neg (by omega),if_neg e2]
theorem rJ {l:List Vtx}{i j:Nat}{x y:Vtx}(hi:l[i]?=some x)(hj:l[j]?=some y):(rI l i j x y).Perm l:=by
 obtain⟨h1,rfl⟩:=List.getElem?_eq_some_iff.1 hi
 obtain⟨h2,rfl⟩:=List.getElem?_eq_some_iff.1 hj
 exact List.set_set_perm h1 h2
theorem zn {l:List Vtx}{i j n:Nat}{x y:Vtx}(hi:i<n)(hj:j<n):(rI l i j x y).take n=rI (l.take n) i j x y:=by
 unfold rI
 rw[List.take_set,List.take_set]
def Heap (l:List Vtx)(n:Nat):Prop:=∀k x y,0<k→k<n→l[k]?=some x→l[(k-1)/2]?=some y→bef x y=false
theorem vM {l:List Vtx}{n:Nat}(h:Heap l n)(hn:n≤l.length){r:Vtx}(hr:l[0]?=some r):∀(k:Nat) (x:Vtx),k<n→l[k]?=some x→bef x r=false:=by
 intro k
 induction k using Nat.strongRecOn with
 |ind k ih=>
  intro x hk hx
  by_cases h0:k=0
  ·subst h0
   rw[hr] at hx
   obtain rfl:=Option.some.inj hx
   rw[Bool.eq_false_iff]
   intro h2
   rw[eG] at h2
   omega
  ·have hp:l[(k-1)/2]?=some (l[(k-1)/2]'(by omega)):=List.getElem?_eq_getElem _
   exact mo (h k x _ (by omega) hk hx hp) (ih _ (by omega) _ (by omega) hp)
structure Sft (l0 l:List Vtx)(n i:Nat):Prop where
 len:l.length=l0.length
 perm:(l.take n).Perm (l0.take n)
 rest:∀k,n≤k→l[k]?=l0[k]?
 hp:∀k x y,0<k→k<n→(k-1)/2≠i→l[k]?=some x→l[(k-1)/2]?=some y→bef x y=false
 gp:∀k x y,0<i→0<k→k<n→(k-1)/2=i→l[k]?=some x→l[(i-1)/2]?=some y→bef x y=false
theorem ES {l:List Vtx}{n:Nat}(h:∀k x y,0<k→k<n→(k-1)/2≠0→l[k]?=some x→l[(k-1)/2]?=some y→bef x y=false):Sft l l n 0:=
 ⟨rfl,List.Perm.refl _,fun _ _=>rfl,h,fun _ _ _ h0=>absurd h0 (Nat.lt_irrefl 0)⟩
theorem fw {l0 l:List Vtx}{n i j:Nat}(h:Sft l0 l n i){x y:Vtx}(hi:l[i]?=some x)(hj:l[j]?=some y)(hjn:j<n)(h0:0<j)(hij:(j-1)/2=i)(hb:bef y x=true)
  (hs:∀k z,0<k→k<n→(k-1)/2=i→l[k]?=some z→bef z y=false):Sft l0 (rI l i j x y) n j:=by
 have hin:i<n:=by omega
 have dT:=pA hi hj
 refine⟨by rw[u3,h.len],?_,fun k hk=>?_,fun k a b k0 kn kp ha hbb=>?_,fun k a b j0 k0 kn kp ha hbb=>?_⟩
 ·rw[zn hin hjn]
  refine(rJ ?_ ?_).trans h.perm
  ·rw[List.getElem?_take,if_pos hin];exact hi
  ·rw[List.getElem?_take,if_pos hjn];exact hj
 ·rw[dT,if_neg (by omega),if_neg (by omega)]
  exact h.rest k hk
 ·rw[dT] at ha hbb
  rw[if_neg kp] at hbb
  by_cases e1:(k-1)/2=i
  ·rw[if_pos e1] at hbb
   obtain rfl:=Option.some.inj hbb
   by_cases e2:k=j
   ·rw[if_pos e2] at ha
    obtain rfl:=Option.some.inj ha
    exact iS hb
   ·rw[if_neg e2,if_neg (by omega)] at ha
    exact hs k a k0 kn e1 ha
  ·rw[if_neg e1] at hbb
   rw[if_neg (show¬k=j by intro e;rw[e] at e1;exact e1 hij)] at ha
   by_cases e2:k=i
   ·subst e2
    rw[if_pos rfl] at ha
    obtain rfl:=Option.some.inj ha
    exact h.gp j y b k0 h0 hjn hij hj hbb
   ·rw[if_neg e2] at ha
    exact h.hp k a b k0 kn e1 ha hbb
 ·rw[dT] at ha hbb
  rw[hij,if_neg (by omega),if_pos rfl] at hbb
  obtain rfl:=Option.some.inj hbb
  rw[if_neg (by omega),if_neg (by omega)] at ha
  exact h.hp k a y k0 kn (by omega) ha (by rw[kp];exact hj)
theorem Bl {l0 l:List Vtx}{n i:Nat}(h:Sft l0 l n i){x:Vtx}(hi:l[i]?=some x)(hs:∀k z,0<k→k<n→(k-1)/2=i→l[k]?=some z→bef z x=false):Heap l n:=fun k a b k0 kn ha hb=>by
 by_cases e:(k-1)/2=i
 ·rw[e,hi] at hb
  obtain rfl:=Option.some.inj hb
  exact hs k a k0 kn e ha
 ·exact h.hp k a b k0 kn e ha hb
theorem xV {l:List Vtx}(h:l.Pairwise fun a b=>bef a b=true):Heap l l.length:=fun k x y k0 kn hx hy=>by
 have h1:=(List.getElem?_eq_some_iff.1 hx)
 have h2:=(List.getElem?_eq_some_iff.1 hy)
 obtain⟨a1,rfl⟩:=h1
 obtain⟨a2,rfl⟩:=h2
 exact iS (List.pairwise_iff_getElem.1 h _ _ a2 a1 (by omega))
theorem vL {s l:List Vtx}{x:Vtx}(hs:(x::s).Pairwise fun a b=>bef a b=true)(hp:l.Perm (x::s))(hh:Heap l l.length){r:Vtx}(hr:l[0]?=some r):r=x:=by
 have hx:x∈l:=hp.mem_iff.2 (by simp)
 obtain⟨k,hk⟩:=List.getElem?_of_mem hx
 have h1:=vM hh (Nat.le_refl _) hr k x (List.getElem?_eq_some_iff.1 hk).1 hk
 have h2:r∈x::s:=hp.mem_iff.1 (List.mem_of_getElem? hr)
 rcases List.mem_cons.1 h2 with h2|h2
 ·exact h2
 ·have:=(List.pairwise_cons.1 hs).1 r h2
  rw[this] at h1
  cases h1
end Go.Proofs.YthmfppknagbkeaaGreatDoor.Am
namespace Go.Proofs.YthmfppknagbkeaaGreatDoor.Am
open Go
attribute [local irreducible] Mk ba Ari di jQ f4 bh bV eY d6 At aj nv
set_option maxRecDepth 10000
def Θq:TT:=(131,⟨.slice 134,1,24,some .nils,some (.lst .odd),false⟩)::(134,⟨.struct [(48,0,4),(3,4,1)],5,56,some (.agg [.int .i64 0,.int .i64 0,.nils,.int .i64 0,.int .i64 0]),some .odd,false⟩)::(175,⟨.slice 48,1,24,some .nils,some (.lst .vtx),true⟩)::Θe
theorem bK:TT.ok Tryz.prog Θq:=TT.okB_ok (by kernel_rfl)
theorem eX {P Q:Prop}(h:Q)(s:Hid Q→P:=by
  intro h
  (first|(with_reducible first|apply ci|apply bP)|((first|with_reducible apply bE bK|refine go ?_|(with_reducible first|apply bW|apply b7|apply bC|apply bF|refine bD bK mixed (by kernel_rfl) ?_))<;>conv=>whnf))
  repeat(first|(with_reducible first|apply ci|apply bP)|((first|with_reducible apply bE bK|refine go ?_|(with_reducible first|apply bW|apply b7|apply bC|apply bF|refine bD bK mixed (by kernel_rfl) ?_))<;>conv=>whnf))
  exact h.h):P:=s ⟨h⟩
theorem tb (xs:List Vtx):aj Tryz.prog 186 [.lst .vtx xs] [] (.int .i64 xs.length) []:=by
 refine ab bK Tryz.func186 rfl rfl false 0 4 rfl rfl rfl rfl fun K hK hb1 hb2=>?_;simp only[af,enc,Nat.reduceAdd]
 clear hb1 hb2
 (repeat' first|refine eX ?_|refine sa fun xe hxe=>?_|refine sb (fun hq=>?_) fun hq=>?_|exact True.intro)
 exact⟨rfl,rfl⟩
theorem lw (xs:List Vtx)(i j:Nat)(x y:Vtx)(hi:xs[i]?=some x)(hj:xs[j]?=some y):aj Tryz.prog 243 [.lst .vtx xs,.int .i64 (i:Int),.int .i64 (j:Int)] [] (.bool (bef x y)) []:=by
 have hB:=oV x y
 refine ab bK Tryz.func243 rfl rfl false 0 4 rfl rfl rfl rfl fun K hK hb1 hb2=>?_;simp only[af,enc,Nat.reduceAdd]
 clear hb1 hb2
 (repeat' first|refine eX ?_|refine sa fun xe hxe=>?_|refine sb (fun hq=>?_) fun hq=>?_|refine cr (hB) ?_|exact True.intro)
 exact⟨rfl,rfl⟩
theorem pi (xs:List Vtx)(i j:Nat)(x y:Vtx)(hi:xs[i]?=some x)(hj:xs[j]?=some y):aj Tryz.prog 246 [.ref 4,.int .i64 (i:Int),.int .i64 (j:Int)] [(4,.row 48 .vtx xs)] (.tup []) [(4,.row 48 .vtx (rI xs i j x y))]:=by
 have hxj:(xs.set i y)[j]?=some (if i=j then y else y):=by
  rw[List.getElem?_set]
  have:=(List.getElem?_eq_some_iff.1 hj).1
  by_cases e:i=j
  ·rw[if_pos e,if_pos (by omega),if_pos e]
  ·rw[if_neg e,if_neg e,hj]
 have h1:=(List.getElem?_eq_some_iff.1 hi).1
 have h2:=(List.getElem?_eq_some_iff.1 hj).1
 have h3:(xs.set i y).length=xs.length:=by simp
 refine ab bK Tryz.func246 rfl rfl false 1 5 rfl rfl rfl rfl fun K hK hb1 hb2=>?_;simp only[af,enc,Nat.reduceAdd]
 clear hb1 hb2
 (repeat' first|refine eX ?_|refine sa fun xe hxe=>?_|refine sb (fun hq=>?_) fun hq=>?_|exact True.intro)
 exact⟨rfl,rfl⟩
abbrev qB (xs:List Vtx):VH:=[(4,.var 175 [.ref 5]),(5,.row 48 .vtx xs)]
abbrev qG (xs:List Vtx):VH:=[(4,.var 175 [.ref 6]),(5,.gone),(6,.row 48 .vtx xs)]
theorem A7 (xs:List Vtx)(v:Vtx)(hl:xs.length≤1000000):aj Tryz.prog 245 [.ptr 4 0,.ifc 48 (bS v)] (qB xs) (.tup []) (qG (xs++[v])):=by
 refine ab bK Tryz.func245 rfl rfl false 2 6 rfl rfl rfl rfl fun K hK hb1 hb2=>?_;simp only[af,enc,Nat.reduceAdd]
 clear hb1 hb2
 (repeat' first|refine eX ?_|refine sa fun xe hxe=>?_|refine sb (fun hq=>?_) fun hq=>?_|exact True.intro)
 exact⟨rfl,rfl⟩
theorem Dx (xs:List Vtx)(n:Nat)(v:Vtx)(hn:xs.length=n+1)(hl:n≤1000000)(hv:xs[n]?=some v):aj Tryz.prog 244 [.ptr 4 0] (qB xs) (.ifc 48 (bS v)) (qG (xs.take n)):=by
 have e1:((xs.length:Int)-1).toNat=n:=by omega
 have hx:xs[((xs.length:Int)-1).toNat]?=some v:=by rw[e1];exact hv
 have hcut:sw xs none (some (.int .i64 ((xs.length:Int)-1))) 0 ((xs.length:Int)-1).toNat=xs.take n:=by rw[e1];rfl
 refine ab bK Tryz.func244 rfl rfl false 2 6 rfl rfl rfl rfl fun K hK hb1 hb2=>?_;simp only[af,enc,Nat.reduceAdd]
 clear hb1 hb2
 (repeat' first|refine eX ?_|refine sa fun xe hxe=>?_|refine sb (fun hq=>?_) fun hq=>?_|exact True.intro)
 exact⟨rfl,by rw[←hcut]⟩
theorem Ey (xs:List Vtx)(j:Nat)(hj:j<xs.length)(hl:xs.length≤1000000)(ha:xs.Pairwise fun a b=>bef a b=true):aj Tryz.prog 185 [.ifc 174 (.ptr 4 0),.int .i64 (j:Int)] (qB xs) (.tup []) (qB xs):=by
 have hm : fk Tryz.prog 174 "Less" = some (243, false) := by kernel_rfl
 refine ab bK Tryz.func185 rfl rfl false 2 6 rfl rfl rfl rfl fun K hK hb1 hb2=>?_;simp only[af,enc,Nat.reduceAdd]
 clear hb1 hb2
 (repeat' first|refine eX ?_|refine sa fun xe hxe=>?_|refine sb (fun hq=>?_) fun hq=>?_|exact True.intro)
 refine ah hK [] [0,1] (fun _:Unit=>⟨[(0,.ifc 174 (.ptr 4 0)),(1,.int .i64 (j:Int))],qB xs,6⟩) (fun _=>True) (fun _=>0) () trivial rfl ?_
 intro _ _
 cases j with
 |zero=>
  have hq0:(((0:Nat):Int)-1).tdiv 2=((0:Nat):Int):=by decide
  (repeat' first|refine eX ?_|refine sa fun xe hxe=>?_|refine sb (fun hq=>?_) fun hq=>?_|exact True.intro)
  (try any_goals(first|exact absurd trivial hq|exact absurd rfl hq|exact absurd hq (by omega)|(exfalso;simp at hq;done)))
  exact⟨rfl,rfl⟩
 |succ j=>
  have e:(((j+1:Nat):Int)-1).tdiv 2=((j/2:Nat):Int):=by
   rw[Int.tdiv_eq_ediv_of_nonneg (by omega)]
   omega
  have hx:xs[j+1]?=some xs[j+1]:=List.getElem?_eq_getElem hj
  have hp:j/2<xs.length:=by omega
  have hy:xs[j/2]?=some xs[j/2]:=List.getElem?_eq_getElem hp
  have hL:=lw xs (j+1) (j/2) xs[j+1] xs[j/2] hx hy
  rw[iS (List.pairwise_iff_getElem.1 ha _ _ hp hj (by omega)),←e] at hL
  have hne:¬(((j+1:Nat):Int)-1).tdiv 2=((j+1:Nat):Int):=by rw[e];omega
  (repeat' first|refine eX ?_|refine sa fun xe hxe=>?_|refine sb (fun hq=>?_) fun hq=>?_|refine cr (hL) ?_|exact True.intro)
  (try any_goals(first|exact absurd trivial hq|exact absurd rfl hq|exact absurd hq (by omega)|(exfalso;simp at hq;done)))
  exact⟨rfl,rfl⟩
theorem Aq (xs:List Vtx)(v:Vtx)(hl:xs.length≤100000)(ha:(xs++[v]).Pairwise fun a b=>bef a b=true):aj Tryz.prog 145 [.ifc 174 (.ptr 4 0),.ifc 48 (bS v)] (qB xs) (.tup []) (qG (xs++[v])):=by
 have hm : fk Tryz.prog 174 "Push" = some (245, true) := by kernel_rfl
 have hm2 : fk Tryz.prog 174 "Len" = some (186, false) := by kernel_rfl
 have hP:=A7 xs v (by omega)
 have hN:=tb (xs++[v])
 have hpl:(xs++[v]).length=xs.length+1:=by simp
 have hU:=Ey (xs++[v]) xs.length (by omega) (by omega) ha
 have e:(((xs++[v]).length:Nat):Int)-1=(xs.length:Int):=by omega
 rw[←e] at hU
 refine ab bK Tryz.func145 rfl rfl false 2 6 rfl rfl rfl rfl fun K hK hb1 hb2=>?_;simp only[af,enc,Nat.reduceAdd]
 clear hb1 hb2
 (repeat' first|refine eX ?_|refine sa fun xe hxe=>?_|refine sb (fun hq=>?_) fun hq=>?_|refine cr (hN) ?_|refine co (hP) ?_|refine co (hU) ?_|exact True.intro)
 exact⟨rfl,rfl⟩
structure SDone (l0 l:List Vtx)(n:Nat):Prop where
 len:l.length=l0.length
 perm:(l.take n).Perm (l0.take n)
 rest:∀k,n≤k→l[k]?=l0[k]?
 heap:Heap l n
theorem mI {l0 l:List Vtx}{n i:Nat}(h:Sft l0 l n i)(hn:n≤2*i+1):SDone l0 l n:=by
 refine⟨h.len,h.perm,h.rest,?_⟩
 intro k a b k0 kn ha hb
 exact h.hp k a b k0 kn (by omega) ha hb
theorem fx {l0 l:List Vtx}{n i:Nat}(h:Sft l0 l n i){x y:Vtx}(hi:l[i]?=some x)(hb:bef y x=false)(hs:∀k z,0<k→k<n→(k-1)/2=i→l[k]?=some z→bef z y=false):SDone l0 l n:=
 ⟨h.len,h.perm,h.rest,Bl h hi fun k z k0 kn kp hz=>mo (hs k z k0 kn kp hz) hb⟩
theorem BP {l:List Vtx}{n i:Nat}{a b:Vtx}(ha:l[2*i+1]?=some a)(hb:l[2*i+2]?=some b)(h:bef b a=true):∀k z,0<k→k<n→(k-1)/2=i→l[k]?=some z→bef z b=false:=fun k z k0 kn kp hz=>by
 rcases (show k=2*i+1∨k=2*i+2 by omega) with rfl|rfl
 ·rw[ha] at hz
  obtain rfl:=Option.some.inj hz
  exact iS h
 ·rw[hb] at hz
  obtain rfl:=Option.some.inj hz
  rw[Bool.eq_false_iff]
  intro h2
  rw[eG] at h2
  omega
theorem tR {l:List Vtx}{n i:Nat}{a:Vtx}(ha:l[2*i+1]?=some a)(h:∀b,2*i+2<n→l[2*i+2]?=some b→bef b a=false):∀k z,0<k→k<n→(k-1)/2=i→l[k]?=some z→bef z a=false:=fun k z k0 kn kp hz=>by
 rcases (show k=2*i+1∨k=2*i+2 by omega) with rfl|rfl
 ·rw[ha] at hz
  obtain rfl:=Option.some.inj hz
  rw[Bool.eq_false_iff]
  intro h2
  rw[eG] at h2
  omega
 ·exact h z kn hz
theorem DC {l0:List Vtx}{n:Nat}(hn:n≤l0.length):∀(m i:Nat) (l:List Vtx),n-i≤m→i<l0.length→Sft l0 l n i→∃ys,SDone l0 ys n:=by
 intro m
 induction m with
 |zero=>exact fun i l hm _ h=>⟨l,mI h (by omega)⟩
 |succ m ih=>
  intro i l hm hil h
  have hlen:=h.len
  by_cases h1:n≤2*i+1
  ·exact⟨l,mI h h1⟩
  have hx:l[i]?=some (l[i]'(by omega)):=List.getElem?_eq_getElem _
  have ha:l[2*i+1]?=some (l[2*i+1]'(by omega)):=List.getElem?_eq_getElem _
  generalize l[i]'(by omega)=x at *
  generalize l[2*i+1]'(by omega)=a at *
  by_cases h2:2*i+2<n
  ·have hb:l[2*i+2]?=some (l[2*i+2]'(by omega)):=List.getElem?_eq_getElem _
   generalize l[2*i+2]'(by omega)=b at *
   cases h3:bef b a
   ·have hs:=tR (n:=n) ha fun b' _ hb'=>by rw[hb] at hb';obtain rfl:=Option.some.inj hb';exact h3
    cases h4:bef a x
    ·exact⟨l,fx h hx h4 hs⟩
    ·exact ih _ _ (by omega) (by omega) (fw h hx ha (by omega) (by omega) (by omega) h4 hs)
   ·have hs:=BP (n:=n) ha hb h3
    cases h4:bef b x
    ·exact⟨l,fx h hx h4 hs⟩
    ·exact ih _ _ (by omega) (by omega) (fw h hx hb (by omega) (by omega) (by omega) h4 hs)
  ·have hs:=tR (n:=n) ha fun b' h5 _=>absurd h5 h2
   cases h4:bef a x
   ·exact⟨l,fx h hx h4 hs⟩
   ·exact ih _ _ (by omega) (by omega) (fw h hx ha (by omega) (by omega) (by omega) h4 hs)
set_option maxHeartbeats 1000000 in
theorem Ao (zs:List Vtx)(n:Nat)(hn:n≤zs.length)(h0:0<zs.length)(hl:zs.length≤100000)(hS:Sft zs zs n 0):∃x:List Vtx×Bool,SDone zs x.1 n∧aj Tryz.prog 208 [.ifc 174 (.ptr 4 0),.int .i64 0,.int .i64 (n:Int)] (qB zs) (.bool x.2) (qB x.1):=by
 obtain⟨y0,hy0⟩:=DC hn n 0 zs (by omega) h0 hS
 suffices hs:∃r hout,(∃x:List Vtx×Bool,SDone zs x.1 n∧r= .bool x.2∧hout=qB x.1)∧aj Tryz.prog 208 [.ifc 174 (.ptr 4 0),.int .i64 0,.int .i64 (n:Int)] (qB zs) r hout by
  obtain⟨r,hout,⟨v,hv,rfl,rfl⟩,h⟩:=hs
  exact⟨v,hv,h⟩
 have hm : fk Tryz.prog 174 "Less" = some (243, false) := by kernel_rfl
 have hm2 : fk Tryz.prog 174 "Swap" = some (246, false) := by kernel_rfl
 refine wY bK Tryz.func208 rfl rfl false 2 6 rfl rfl rfl rfl (R:=fun r hout=>∃x:List Vtx×Bool,SDone zs x.1 n∧r= .bool x.2∧hout=qB x.1) (r0:=.bool true) (hout0:=qB y0) (⟨(y0,true),hy0,rfl,rfl⟩) fun K hK hb1 hb2=>?_;simp only[af,enc,Nat.reduceAdd]
 clear hb1 hb2
 (repeat' first|refine eX ?_|refine sa fun xe hxe=>?_|refine sb (fun hq=>?_) fun hq=>?_|exact True.intro)
 refine ah hK [] [0,1,2,7] (fun x:Nat×List Vtx=>⟨[(0,.ifc 174 (.ptr 4 0)),(1,.int .i64 0),(2,.int .i64 (n:Int)),(7,.int .i64 (x.1:Int))],qB x.2,6⟩) (fun x=>Sft zs x.2 n x.1∧x.1<zs.length) (fun x=>zs.length-x.1) (0,zs) ⟨hS,h0⟩ rfl ?_
 rintro⟨i,l⟩ ⟨h,hil⟩
 dsimp only at h hil⊢
 have hlen:=h.len
 by_cases h1:n≤2*i+1
 ·have hd:=mI h h1
  (repeat' first|refine eX ?_|refine sa fun xe hxe=>?_|refine sb (fun hq=>?_) fun hq=>?_|exact True.intro)
  (try any_goals(first|exact absurd trivial hq|exact absurd rfl hq|exact absurd hq (by omega)|(exfalso;simp at hq;done)))
  exact⟨(l,_),hd,rfl,rfl⟩
 have hx:l[i]?=some (l[i]'(by omega)):=List.getElem?_eq_getElem _
 have ha:l[2*i+1]?=some (l[2*i+1]'(by omega)):=List.getElem?_eq_getElem _
 generalize l[i]'(by omega)=x at *
 generalize l[2*i+1]'(by omega)=a at *
 have e1:((2*i+1:Nat):Int)=2*(i:Int)+1:=by omega
 have e2:((2*i+2:Nat):Int)=2*(i:Int)+1+1:=by omega
 have hLa:=lw l (2*i+1) i a x ha hx
 have hSa:=pi l i (2*i+1) x a hx ha
 rw[e1] at hLa hSa
 by_cases h2:2*i+2<n
 ·have hb:l[2*i+2]?=some (l[2*i+2]'(by omega)):=List.getElem?_eq_getElem _
  generalize l[2*i+2]'(by omega)=b at *
  have hLb:=lw l (2*i+2) (2*i+1) b a hb ha
  have hLc:=lw l (2*i+2) i b x hb hx
  have hSb:=pi l i (2*i+2) x b hx hb
  rw[e2,e1] at hLb
  rw[e2] at hLc hSb
  cases h3:bef b a
  ·have hs:=tR (n:=n) ha fun b' _ hb'=>by rw[hb] at hb';obtain rfl:=Option.some.inj hb';exact h3
   rw[h3] at hLb
   cases h4:bef a x
   ·have hd:=fx h hx h4 hs
    rw[h4] at hLa
    (repeat' first|refine eX ?_|refine sa fun xe hxe=>?_|refine sb (fun hq=>?_) fun hq=>?_|refine cr (hLb) ?_|refine cr (hLa) ?_|exact True.intro)
    (try any_goals(first|exact absurd trivial hq|exact absurd rfl hq|exact absurd hq (by omega)|(exfalso;simp at hq;done)))
    exact⟨(l,_),hd,rfl,rfl⟩
   ·have hst:=fw h hx ha (by omega) (by omega) (by omega) h4 hs
    rw[h4] at hLa
    generalize rI l i (2*i+1) x a=l2 at *
    (repeat' first|refine eX ?_|refine sa fun xe hxe=>?_|refine sb (fun hq=>?_) fun hq=>?_|refine cr (hLb) ?_|refine cr (hLa) ?_|refine co (hSa) ?_|exact True.intro)
    (try any_goals(first|exact absurd trivial hq|exact absurd rfl hq|exact absurd hq (by omega)|(exfalso;simp at hq;done)))
    exact⟨(2*i+1,l2),⟨hst,by dsimp only;omega⟩,by dsimp only;omega,by dsimp only;rw[e1]⟩
  ·have hs:=BP (n:=n) ha hb h3
   rw[h3] at hLb
   cases h4:bef b x
   ·have hd:=fx h hx h4 hs
    rw[h4] at hLc
    (repeat' first|refine eX ?_|refine sa fun xe hxe=>?_|refine sb (fun hq=>?_) fun hq=>?_|refine cr (hLb) ?_|refine cr (hLc) ?_|exact True.intro)
    (try any_goals(first|exact absurd trivial hq|exact absurd rfl hq|exact absurd hq (by omega)|(exfalso;simp at hq;done)))
    exact⟨(l,_),hd,rfl,rfl⟩
   ·have hst:=fw h hx hb (by omega) (by omega) (by omega) h4 hs
    rw[h4] at hLc
    generalize rI l i (2*i+2) x b=l2 at *
    (repeat' first|refine eX ?_|refine sa fun xe hxe=>?_|refine sb (fun hq=>?_) fun hq=>?_|refine cr (hLb) ?_|refine cr (hLc) ?_|refine co (hSb) ?_|exact True.intro)
    (try any_goals(first|exact absurd trivial hq|exact absurd rfl hq|exact absurd hq (by omega)|(exfalso;simp at hq;done)))
    exact⟨(2*i+2,l2),⟨hst,by dsimp only;omega⟩,by dsimp only;omega,by dsimp only;rw[e2]⟩
 ·have hs:=tR (n:=n) ha fun b' h5 _=>absurd h5 h2
  cases h4:bef a x
  ·have hd:=fx h hx h4 hs
   rw[h4] at hLa
   (repeat' first|refine eX ?_|refine sa fun xe hxe=>?_|refine sb (fun hq=>?_) fun hq=>?_|refine cr (hLa) ?_|exact True.intro)
   (try any_goals(first|exact absurd trivial hq|exact absurd rfl hq|exact absurd hq (by omega)|(exfalso;simp at hq;done)))
   exact⟨(l,_),hd,rfl,rfl⟩
  ·have hst:=fw h hx ha (by omega) (by omega) (by omega) h4 hs
   rw[h4] at hLa
   generalize rI l i (2*i+1) x a=l2 at *
   (repeat' first|refine eX ?_|refine sa fun xe hxe=>?_|refine sb (fun hq=>?_) fun hq=>?_|refine cr (hLa) ?_|refine co (hSa) ?_|exact True.intro)
   (try any_goals(first|exact absurd trivial hq|exact absurd rfl hq|exact absurd hq (by omega)|(exfalso;simp at hq;done)))
   exact⟨(2*i+1,l2),⟨hst,by dsimp only;omega⟩,by dsimp only;omega,by dsimp only;rw[e1]⟩
theorem Bt {xs:List Vtx}{n:Nat}{r y:Vtx}(hn:xs.length=n+1)(hh:Heap xs xs.length)(hr:xs[0]?=some r)(hy:xs[n]?=some y):Sft (rI xs 0 n r y) (rI xs 0 n r y) n 0:=by
 refine ES fun k a b k0 kn kp ha hb=>?_
 rw[pA hr hy,if_neg (by omega),if_neg (by omega)] at ha
 rw[pA hr hy,if_neg (by omega),if_neg kp] at hb
 exact hh k a b k0 (by omega) ha hb
theorem CM (xs:List Vtx)(n:Nat)(r:Vtx)(hn:xs.length=n+1)(hl:n≤10000)(hh:Heap xs xs.length)(hr:xs[0]?=some r):∃ys:List Vtx,(ys.length=n∧Heap ys n∧(r::ys).Perm xs)∧aj Tryz.prog 187 [.ifc 174 (.ptr 4 0)] (qB xs) (.ifc 48 (bS r)) (qG ys):=by
 have hm : fk Tryz.prog 174 "Pop" = some (244, true) := by kernel_rfl
 have hm2 : fk Tryz.prog 174 "Len" = some (186, false) := by kernel_rfl
 have hm3 : fk Tryz.prog 174 "Swap" = some (246, false) := by kernel_rfl
 have hy:xs[n]?=some (xs[n]'(by omega)):=List.getElem?_eq_getElem _
 generalize xs[n]'(by omega)=y at *
 have hsf:=Bt hn hh hr hy
 have hsp:=rJ hr hy
 have hsl:=u3 xs 0 n r y
 have hsn:(rI xs 0 n r y)[n]?=some r:=by rw[pA hr hy,if_pos rfl]
 have hS:=pi xs 0 n r y hr hy
 generalize rI xs 0 n r y=zs at *
 obtain⟨⟨l,b⟩,hd,hD⟩:=Ao zs n (by omega) (by omega) (by omega) hsf
 dsimp only at hd hD
 have hll:=hd.len
 have hln:l[n]?=some r:=by rw[hd.rest n (Nat.le_refl _)];exact hsn
 have hP:=Dx l n r (by omega) (by omega) hln
 have hN:=tb xs
 have e:((xs.length:Int)-1)=(n:Int):=by omega
 rw[←e] at hS hD
 have hzt:zs=zs.take n++[r]:=by
  have h1:zs=zs.take (n+1):=(List.take_of_length_le (by omega)).symm
  obtain⟨h2,h3⟩:=List.getElem?_eq_some_iff.1 hsn
  rw[List.take_succ_eq_append_getElem h2,h3] at h1
  exact h1
 refine⟨l.take n,⟨by rw[List.length_take];omega,?_,?_⟩,?_⟩
 ·intro k a b' k0 kn ha hb
  rw[List.getElem?_take,if_pos kn] at ha
  rw[List.getElem?_take,if_pos (by omega)] at hb
  exact hd.heap k a b' k0 kn ha hb
 ·have h1:(r::l.take n).Perm (r::zs.take n):=List.Perm.cons r hd.perm
  have h2:(r::zs.take n).Perm (zs.take n++[r]):=by
   have:=List.perm_append_comm (l₁:=[r]) (l₂:=zs.take n)
   simpa using this
  rw[←hzt] at h2
  exact h1.trans (h2.trans hsp)
 ·clear hzt
  refine ab bK Tryz.func187 rfl rfl false 2 6 rfl rfl rfl rfl fun K hK hb1 hb2=>?_;simp only[af,enc,Nat.reduceAdd]
  clear hb1 hb2
  (repeat' first|refine eX ?_|refine sa fun xe hxe=>?_|refine sb (fun hq=>?_) fun hq=>?_|refine cr (hN) ?_|refine co (hS) ?_|refine co (hD) ?_|refine co (hP) ?_|exact True.intro)
  exact⟨rfl,rfl⟩
def EN (w:Int)(m:Nat)(ys:List Vtx)(os:List Odd):VSt:=match m with
 |0=>⟨[(0,.ptr 4 0),(1,.int .i64 w),(5,.ref 6)],qB ys++[(6,.row 134 .odd os)],7⟩
 |_+1=>⟨[(0,.ptr 4 0),(1,.int .i64 w),(5,.ref 6)],[(4,.var 175 [.ref 7]),(5,.gone),(6,.row 134 .odd os),(7,.row 48 .vtx ys)],8⟩
def qE (s:List Vtx):VH:=if s=[] then qB [] else qG []
theorem z7 (s xs:List Vtx)(w:Int)(hl:s.length≤10000)(hs:s.Pairwise fun a b=>bef a b=true)(hp:xs.Perm s)(hh:Heap xs xs.length):aj Tryz.prog 146 [.ptr 4 0,.int .i64 w] (qB xs) (.lst .odd (s.map fun v=>⟨v,w⟩)) (qE s):=by
 refine ab bK Tryz.func146 rfl rfl true 2 6 rfl rfl rfl rfl fun K hK hb1 hb2=>?_;simp only[af,enc,Nat.reduceAdd]
 clear hb1 hb2
 (repeat' first|refine eX ?_|refine sa fun xe hxe=>?_|refine sb (fun hq=>?_) fun hq=>?_|exact True.intro)
 refine ah hK [] [0,1,5] (fun x:Nat×List Vtx=>EN w x.1 x.2 ((s.take x.1).map fun v=>⟨v,w⟩)) (fun x=>x.1≤s.length∧x.2.Perm (s.drop x.1)∧Heap x.2 x.2.length) (fun x=>s.length-x.1) (0,xs) ⟨Nat.zero_le _,by simpa using hp,hh⟩ rfl ?_
 rintro⟨m,ys⟩ ⟨hm,hpm,hhm⟩
 dsimp only at hm hpm hhm⊢
 have hyl:ys.length=s.length-m:=by rw[hpm.length_eq,List.length_drop]
 have hN:=tb ys
 by_cases hlt:m<s.length
 ·obtain⟨v,hv⟩:∃v,s[m]?=some v:=⟨_,List.getElem?_eq_getElem hlt⟩
  have hvd:s.drop m=v::s.drop (m+1):=by
   obtain⟨h1,h2⟩:=List.getElem?_eq_some_iff.1 hv
   rw[←h2]
   exact List.drop_eq_getElem_cons h1
  have h3:s.take (m+1)=s.take m++[v]:=by
   obtain⟨h1,h2⟩:=List.getElem?_eq_some_iff.1 hv
   rw[←h2]
   exact List.take_succ_eq_append_getElem h1
  have hr:ys[0]?=some (ys[0]'(by omega)):=List.getElem?_eq_getElem _
  have hrv:ys[0]'(by omega)=v:=vL (s:=s.drop (m+1)) (x:=v) (by rw[←hvd];exact hs.sublist (List.drop_sublist _ _)) (by rw[←hvd];exact hpm) hhm hr
  rw[hrv] at hr
  obtain⟨zs,⟨z1,z2,z3⟩,hP⟩:=CM ys (ys.length-1) v (by omega) (by omega) hhm hr
  have hzp:zs.Perm (s.drop (m+1)):=by
   have:=z3.trans hpm
   rw[hvd] at this
   exact List.Perm.cons_inv this
  have hsn:(s.take (m+1)).map (fun v=>(⟨v,w⟩:Odd))=(s.take m).map (fun v=>(⟨v,w⟩:Odd))++[⟨v,w⟩]:=by rw[h3,List.map_append];rfl
  have htl:((s.take m).map (fun v=>(⟨v,w⟩:Odd))).length=m:=by simp;omega
  generalize hA:(s.take m).map (fun v=>(⟨v,w⟩:Odd))=A at *
  cases m with
  |zero=>
   unfold EN
   (repeat' first|refine eX ?_|refine sa fun xe hxe=>?_|refine sb (fun hq=>?_) fun hq=>?_|refine cr (hN) ?_|refine co (hP) ?_|exact True.intro)
   (try any_goals(first|exact absurd trivial hq|exact absurd rfl hq|exact absurd hq (by omega)|(exfalso;simp at hq;done)))
   exact⟨(0+1,zs),⟨by dsimp only;omega,hzp,by dsimp only;rw[z1];exact z2⟩,by dsimp only;omega,by dsimp only;rw[hsn]⟩
  |succ m=>
   unfold EN
   (repeat' first|refine eX ?_|refine sa fun xe hxe=>?_|refine sb (fun hq=>?_) fun hq=>?_|refine cr (hN) ?_|refine co (hP) ?_|exact True.intro)
   (try any_goals(first|exact absurd trivial hq|exact absurd rfl hq|exact absurd hq (by omega)|(exfalso;simp at hq;done)))
   exact⟨(m+1+1,zs),⟨by dsimp only;omega,hzp,by dsimp only;rw[z1];exact z2⟩,by dsimp only;omega,by dsimp only;rw[hsn]⟩
 ·obtain rfl:m=s.length:=by omega
  rw[List.take_length]
  have hy0:ys=[]:=List.length_eq_zero_iff.1 (by omega)
  subst hy0
  cases hsc:s with
  |nil=>
   subst hsc
   unfold EN
   (repeat' first|refine eX ?_|refine sa fun xe hxe=>?_|refine sb (fun hq=>?_) fun hq=>?_|refine cr (hN) ?_|exact True.intro)
   (try any_goals(first|exact absurd trivial hq|exact absurd rfl hq|exact absurd hq (by omega)|(exfalso;simp at hq;done)))
   exact⟨rfl,rfl⟩
  |cons v s'=>
   have hE:qE (v::s')=qG []:=by unfold qE;rw[if_neg (by simp)]
   rw[hE]
   generalize (v::s').map (fun v=>(⟨v,w⟩:Odd))=A at *
   simp only[List.length_cons]
   unfold EN
   (repeat' first|refine eX ?_|refine sa fun xe hxe=>?_|refine sb (fun hq=>?_) fun hq=>?_|refine cr (hN) ?_|exact True.intro)
   (try any_goals(first|exact absurd trivial hq|exact absurd rfl hq|exact absurd hq (by omega)|(exfalso;simp at hq;done)))
   exact⟨rfl,rfl⟩
end Go.Proofs.YthmfppknagbkeaaGreatDoor.Am
namespace Go.Proofs.YthmfppknagbkeaaGreatDoor.Am
open Go
noncomputable def oddTo (g:List Vtx) (l:List Int):List Odd→List Nat→List Odd
 |os,[]=>os
 |os,w::ws=>oddTo g l (os++(ordW g l (os.map (·.v)) w).map fun v=>⟨v,(w:Int)⟩) ws
theorem uF (g:List Vtx)(l:List Int):∀(ws:List Nat) (os:List Odd),(oddTo g l os ws).map (·.v)=ordTo g l (os.map (·.v)) ws
 |[],os=>rfl
 |w::ws,os=>by
  rw[oddTo,uF g l ws,mw,List.map_append,List.map_map]
  congr 2
  exact List.map_id _
theorem nP (g:List Vtx)(l:List Int):∀(ws ws':List Nat) (os:List Odd),oddTo g l os (ws++ws')=oddTo g l (oddTo g l os ws) ws'
 |[],_,_=>rfl
 |w::ws,ws',os=>nP g l ws ws' _
open Classical in
noncomputable def dnF (g os:List Vtx):List Bool:=g.map fun v=>decide (v∈os)
open Classical in
theorem xg {g os:List Vtx}{i:Nat}{v:Vtx}(h:g[i]?=some v):(dnF g os)[i]?=some (decide (v∈os)):=by rw[dnF,List.getElem?_map,h];rfl
theorem t7 (g os:List Vtx):(dnF g os).length=g.length:=by simp[dnF]
open Classical in
theorem z5 {c:List Int}{g:List Vtx}(hg:GraOK c g){os:List Vtx}{i:Nat}{v:Vtx}(h:g[i]?=some v):(dnF g os).set i true=dnF g (os++[v]):=by
 refine List.ext_getElem? fun k=>?_
 rw[List.getElem?_set,t7]
 have hi:=(List.getElem?_eq_some_iff.1 h).1
 by_cases e:i=k
 ·subst e
  rw[if_pos rfl,if_pos hi,xg h,decide_eq_true (by simp)]
 ·rw[if_neg e,dnF,dnF,List.getElem?_map,List.getElem?_map]
  cases hk:g[k]? with
  |none=>rfl
  |some x=>
   simp only[Option.map_some,Option.some.injEq]
   rw[Bool.eq_iff_iff,decide_eq_true_iff,decide_eq_true_iff,List.mem_append,List.mem_singleton]
   refine⟨.inl,fun hx=>?_⟩
   rcases hx with hx|rfl
   ·exact hx
   ·exact absurd (xF hg h hk) e
open Classical in
theorem Er (g:List Vtx):dnF g []=List.replicate g.length false:=by
 refine List.ext_getElem (by simp[dnF]) fun k h1 h2=>?_
 simp[dnF]
open Classical in
noncomputable def pvx (g:List Vtx) (k:Vtx):List Vtx:=g.filter fun v=>decide (Rv g k v)
open Classical in
theorem A6 (g:List Vtx)(k:Vtx):(pvx g k).length=(pst g k).length:=by
 unfold pvx pst
 rw[List.length_map]
 have e:g=(List.range g.length).map fun i=>g.getD i v0:=by
  refine List.ext_getElem (by simp) fun i h1 h2=>?_
  simp[List.getD_eq_getElem?_getD,List.getElem?_eq_getElem h1]
 conv=>lhs;rw[e]
 rw[List.filter_map,List.length_map]
 simp only[←e]
 rfl
open Classical in
theorem Dw {g:List Vtx}{k:Vtx}{j:Nat}{x:Int}(h:(pst g k)[j]?=some x):∃i:Nat,x=i∧∃v,g[i]?=some v∧(pvx g k)[j]?=some v:=by
 have hm:=uP.1 (List.mem_of_getElem? h)
 obtain⟨i,hi,v,hv,-⟩:=hm
 refine⟨i,hi,v,hv,?_⟩
 have e:g=(List.range g.length).map fun i=>g.getD i v0:=by
  refine List.ext_getElem (by simp) fun i h1 h2=>?_
  simp[List.getD_eq_getElem?_getD,List.getElem?_eq_getElem h1]
 have e2:pvx g k=((List.range g.length).filter fun i=>decide (Rv g k (g.getD i v0))).map fun i=>g.getD i v0:=by
  unfold pvx
  conv=>lhs;rw[e]
  rw[List.filter_map]
  simp only[←e]
  rfl
 have e3:pst g k=((List.range g.length).filter fun i=>decide (Rv g k (g.getD i v0))).map fun i:Nat=>(i:Int):=rfl
 rw[e3,List.getElem?_map] at h
 rw[e2,List.getElem?_map]
 cases hf:((List.range g.length).filter fun i=>decide (Rv g k (g.getD i v0)))[j]? with
 |none=>rw[hf] at h;cases h
 |some m=>
  rw[hf] at h
  have hm:(m:Int)=x:=Option.some.inj h
  obtain rfl:m=i:=by omega
  simp[List.getD_eq_getElem?_getD,hv]
open Classical in
noncomputable def qvx (g:List Vtx) (k:Vtx) (w:Nat) (os:List Vtx) (j:Nat):List Vtx:=((pvx g k).take j).filter fun v=>decide (2*(w:Int)-7≤v.round) && decide (v∉os)
open Classical in
theorem yU {g:List Vtx}{k v:Vtx}{w:Nat}{os:List Vtx}{j:Nat}(h:(pvx g k)[j]?=some v):qvx g k w os (j+1)=if 2*(w:Int)-7≤v.round∧v∉os then qvx g k w os j++[v] else qvx g k w os j:=by
 obtain⟨h1,h2⟩:=List.getElem?_eq_some_iff.1 h
 unfold qvx
 rw[List.take_succ_eq_append_getElem h1,h2,List.filter_append,List.filter_cons,List.filter_nil]
 by_cases c1:2*(w:Int)-7≤v.round<;>by_cases c2:v∉os<;>simp[c1,c2]
open Classical in
theorem A8 {g:List Vtx}{l:List Int}{k:Vtx}{w:Nat}{os:List Vtx}(hk:kE g l w=some k):qvx g k w os (pvx g k).length=ordW g l os w:=by
 unfold qvx ordW
 rw[hk,List.take_length,pvx,List.filter_filter]
 refine List.filter_congr fun v _=>?_
 exact Bool.and_comm _ _
theorem uQ {c:List Int}{g:List Vtx}(hg:GraOK c g)(k:Vtx)(w:Nat)(os:List Vtx)(j:Nat):(qvx g k w os j).Pairwise fun a b=>bef a b=true:=
 hg.pw.sublist (((List.filter_sublist).trans (List.take_sublist _ _)).trans (List.filter_sublist))
theorem A9 (g:List Vtx)(k:Vtx)(w:Nat)(os:List Vtx)(j:Nat):(qvx g k w os j).length≤g.length:=by
 unfold qvx pvx
 refine Nat.le_trans (List.length_filter_le _ _) ?_
 rw[List.length_take]
 exact Nat.le_trans (Nat.min_le_right _ _) (List.length_filter_le _ _)
theorem Ba {c:List Int}{g:List Vtx}(hg:GraOK c g){k v:Vtx}{w:Nat}{os:List Vtx}{j:Nat}(h:(pvx g k)[j]?=some v):v∉qvx g k w os j:=fun hm=>by
 have h1:=(List.mem_filter.1 hm).1
 obtain⟨i,hi,rfl⟩:=List.getElem_of_mem h1
 rw[List.length_take] at hi
 rw[List.getElem_take] at h
 obtain⟨h2,h3⟩:=List.getElem?_eq_some_iff.1 h
 have hp:(pvx g k).Pairwise fun a b=>bef a b=true:=hg.pw.sublist List.filter_sublist
 have:=List.pairwise_iff_getElem.1 hp i j (by omega) h2 (by omega)
 rw[h3,eG] at this
 omega
end Go.Proofs.YthmfppknagbkeaaGreatDoor.Am
namespace Go.Proofs.YthmfppknagbkeaaGreatDoor.Am
open Go
attribute [local irreducible] Mk ba Ari di jQ f4 bh bV eY d6 At aj
set_option maxRecDepth 10000
def aM (ws:List Nat):List Int:=ws.map fun w:Nat=>(w:Int)
theorem j3 (a b:List Nat):aM (a++b)=aM a++aM b:=by simp[aM]
theorem dr (a:List Nat):(aM a).length=a.length:=by simp[aM]
theorem A3 {c:List Int}{g:List Vtx}(hg:GraOK c g){u v:Vtx}{n:Nat}(hv:g[n]?=some v):(pst g u).contains (n:Int)=true↔Rv g u v:=by
 rw[List.contains_iff_mem,uP]
 constructor
 ·rintro⟨i,hi,x,hx,hr⟩
  obtain rfl:n=i:=by omega
  rw[hv] at hx
  obtain rfl:=Option.some.inj hx
  exact hr
 ·intro hr
  exact⟨n,rfl,v,hv,hr⟩
theorem Du (g:List Vtx)(u:Vtx):(pst g u).Pairwise (· ≤ ·):=(A2 g u).imp fun h=>Int.le_of_lt h
open Classical in
theorem ql {g:List Vtx}{l:List Int}{last x:Nat}(h:x≤last)(cur:Vtx):dwn g l last x cur=[]:=by
 cases x with
 |zero=>rfl
 |succ x=>unfold dwn;rw[if_pos h]
open Classical in
theorem xl {g:List Vtx}{l:List Int}{last x:Nat}(h:last<x+1){cur:Vtx}(hk:kE g l (x+1)=none):dwn g l last (x+1) cur=dwn g l last x cur:=by
 conv=>lhs;unfold dwn
 rw[if_neg (by omega),hk]
open Classical in
theorem qk {g:List Vtx}{l:List Int}{last x:Nat}(h:last<x+1){cur k:Vtx}(hk:kE g l (x+1)=some k)(hr:¬Rv g cur k):dwn g l last (x+1) cur=dwn g l last x cur:=by
 conv=>lhs;unfold dwn
 rw[if_neg (by omega),hk]
 exact if_neg hr
open Classical in
theorem qm {g:List Vtx}{l:List Int}{last x:Nat}(h:last<x+1){cur k:Vtx}(hk:kE g l (x+1)=some k)(hr:Rv g cur k):dwn g l last (x+1) cur=dwn g l last x k++[x+1]:=by
 conv=>lhs;unfold dwn
 rw[if_neg (by omega),hk]
 exact if_pos hr
theorem CO (c:List Int)(g:List Vtx)(l:List Int)(w last:Nat)(hg:GraOK c g)(hgl:g.length≤1000000)(hl:leaS c l=true)(h1:1≤w)(h2:w≤l.length)(hw:last<w){k0:Vtx}(hk0:kE g l w=some k0):aj Tryz.prog 183 [.agg [.ptr 4 0,.lst (.int .i64) l],.int .i64 (w:Int),.int .i64 (last:Int)] (gR c (bn g)) (.lst (.int .i64) (aM (chn g l w last))) (gR c (bn g)):=by
 have hll:=(aW.1 hl).2
 obtain⟨n0,hn0,hg0⟩:=kU hg hl h1 h2 hk0
 have hL:=oW c g l w n0 hg hl h1 h2 hn0
 have hP:=oX c g hg hgl n0 k0 hg0
 have hch:chn g l w last=dwn g l last (w-1) k0++[w]:=by unfold chn;rw[hk0]
 have hpl0:=ph g k0
 refine ab bJ Tryz.func183 rfl rfl true 2 6 rfl rfl rfl rfl fun K hK hb1 hb2=>?_;simp only[af,enc,Nat.reduceAdd]
 clear hb1 hb2
 (repeat' first|refine iC ?_|refine sa fun xe hxe=>?_|refine sb (fun hq=>?_) fun hq=>?_|refine co (hL) ?_|refine co (hP) ?_|exact True.intro)
 refine ah hK [] [2,3,9,10,11] (fun x:Nat×Vtx×List Nat=>⟨[(2,.int .i64 (last:Int)),(3,.ptr 6 0),(9,.ref 7),(10,.lst (.int .i64) (pst g x.2.1)),(11,.int .i64 (x.1:Int))],Ag c (bn g) (.var 126 [.ptr 4 0,.lst (.int .i64) l])++[(7,.row 3 (.int .i64) ((w:Int)::(aM x.2.2).reverse))],8⟩) (fun x=>x.2.1∈g∧last≤x.1∧x.1<w∧x.2.2.length+x.1≤w∧dwn g l last (w-1) k0=dwn g l last x.1 x.2.1++x.2.2) (fun x=>x.1) (w-1,k0,[]) ⟨List.mem_of_getElem? hg0,by dsimp only;omega,by dsimp only;omega,by dsimp only;simp only[List.length_nil];omega,by simp⟩ ?_ ?_
 ·dsimp only
  rw[show (((w-1:Nat):Int))=(w:Int)-1 by omega]
  rfl
 rintro⟨x,cur,acc⟩ ⟨hcur,hx1,hx2,hx3,hdw⟩
 dsimp only at hcur hx1 hx2 hx3 hdw⊢
 have hil:=dr acc
 have hrl:((w:Int)::(aM acc).reverse).length=acc.length+1:=by simp[hil]
 by_cases hlt:last<x
 ·obtain⟨y,rfl⟩:∃y,x=y+1:=⟨x-1,by omega⟩
  have e1:((y+1:Nat):Int)-1=(y:Int):=by omega
  cases hk:kE g l (y+1) with
  |none=>
   have hL2:=x9 c g l (y+1) hg hl (by omega) (by omega) (tO hg hl (by omega) (by omega) hk)
   have hE:=Cy
   rw[xl (by omega) hk] at hdw
   generalize hrow:((w:Int)::(aM acc).reverse)=row at *
   (repeat' first|refine iC ?_|refine sa fun xe hxe=>?_|refine sb (fun hq=>?_) fun hq=>?_|refine cr (hE) ?_|refine co (hL2) ?_|exact True.intro)
   refine⟨(y,cur,acc),⟨hcur,by dsimp only;omega,by dsimp only;omega,by dsimp only;omega,hdw⟩,by dsimp only;omega,?_⟩
   rw[e1]
   dsimp only
   rw[hrow]
   rfl
  |some k=>
   obtain⟨n,hn,hgn⟩:=kU hg hl (by omega) (by omega) hk
   have hL2:=oW c g l (y+1) n hg hl (by omega) (by omega) hn
   have hE:=Cx
   have hB:=Ez (pst g cur) (n:Int) (Du g cur) (by have:=ph g cur;omega)
   obtain⟨p,hp⟩:=gc hgn
   have hix:=A3 hg (u:=cur) hgn
   by_cases hr:Rv g cur k
   ·rw[hix.2 hr] at hB
    have hP2:=oX c g hg hgl n k hgn
    rw[qm (by omega) hk hr,List.append_assoc] at hdw
    have hrow2:((w:Int)::(aM acc).reverse)++[((y+1:Nat):Int)]=(w:Int)::(aM ((y+1)::acc)).reverse:=by simp[aM]
    generalize hrow:((w:Int)::(aM acc).reverse)=row at *
    (repeat' first|refine iC ?_|refine sa fun xe hxe=>?_|refine sb (fun hq=>?_) fun hq=>?_|refine cr (hE) ?_|refine cr (hB) ?_|refine co (hL2) ?_|refine co (hP2) ?_|exact True.intro)
    refine⟨(y,k,(y+1)::acc),⟨List.mem_of_getElem? hgn,by dsimp only;omega,by dsimp only;omega,by dsimp only;simp only[List.length_cons];omega,hdw⟩,by dsimp only;omega,?_⟩
    rw[e1]
    dsimp only
    rw[←hrow2]
    rfl
   ·rw[show (pst g cur).contains (n:Int)=false from by rw[Bool.eq_false_iff];exact fun h=>hr (hix.1 h)] at hB
    rw[qk (by omega) hk hr] at hdw
    generalize hrow:((w:Int)::(aM acc).reverse)=row at *
    (repeat' first|refine iC ?_|refine sa fun xe hxe=>?_|refine sb (fun hq=>?_) fun hq=>?_|refine cr (hE) ?_|refine cr (hB) ?_|refine co (hL2) ?_|exact True.intro)
    refine⟨(y,cur,acc),⟨hcur,by dsimp only;omega,by dsimp only;omega,by dsimp only;omega,hdw⟩,by dsimp only;omega,?_⟩
    rw[e1]
    dsimp only
    rw[hrow]
    rfl
 ·rw[ql (x:=x) (by omega) cur,List.nil_append] at hdw
  have hR:=C3 ((w:Int)::(aM acc).reverse) (by omega)
  have hfin:((w:Int)::(aM acc).reverse).reverse=aM (chn g l w last):=by
   rw[hch,hdw,j3,List.reverse_cons,List.reverse_reverse];rfl
  (repeat' first|refine iC ?_|refine sa fun xe hxe=>?_|refine sb (fun hq=>?_) fun hq=>?_|refine co (hR) ?_|exact True.intro)
  exact⟨by rw[hfin],rfl⟩
end Go.Proofs.YthmfppknagbkeaaGreatDoor.Am
namespace Go.Proofs.YthmfppknagbkeaaGreatDoor.Am
open Go
attribute [local irreducible] Mk ba Ari di jQ f4 bh bV eY d6 At aj
set_option maxRecDepth 10000
theorem om:∀{l:List Nat} {a b:Nat},l.Pairwise (· < ·)→(∀x∈l,a<x∧x≤b)→l.length≤b-a
 |[],_,_,_,_=>Nat.zero_le _
 |x::l,a,b,h,hb=>by
  obtain⟨h1,h2⟩:=List.pairwise_cons.1 h
  have hx:=hb x (by simp)
  have:=om (a:=x) (b:=b) h2 fun y hy=>⟨h1 y hy,(hb y (by simp[hy])).2⟩
  simp only[List.length_cons]
  omega
theorem gK (c:List Int)(g:List Vtx)(l:List Int)(hc:comV c=true)(n:Nat):(cmt c g l n).1.length≤n:=by
 have h1:=gJ (g:=g) hc l n
 have:=om (a:=0) (b:=n) (iU c g l n).2.1 fun x hx=>⟨by have:=(h1 x hx).1;omega,(h1 x hx).2.1⟩
 omega
theorem zU (g:List Vtx)(l:List Int){w last:Nat}(h:last<w):(chn g l w last).length≤w:=by
 obtain⟨h1,h2⟩:=tS g l h
 have:=om h1 h2
 omega
theorem tV {c:List Int}{g:List Vtx}{l:List Int}{n:Nat}(h:sy c g l (n+1)=true):cmt c g l (n+1)=((cmt c g l n).1++chn g l (n+1) (cmt c g l n).2,n+1):=by
 conv=>lhs;unfold cmt
 rw[if_pos h]
theorem so {c:List Int}{g:List Vtx}{l:List Int}{n:Nat}(h:sy c g l (n+1)=false):cmt c g l (n+1)=cmt c g l n:=by
 conv=>lhs;unfold cmt
 rw[if_neg (by rw[h];simp)]
theorem tU (c:List Int)(l:List Int)(hc:comV c=true):∀n:Nat,cmt c [] l n=([],0)
 |0=>rfl
 |n+1=>by
  have h:sy c [] l (n+1)=false:=by
   rw[Bool.eq_false_iff]
   intro h
   obtain⟨k,hk,-⟩:=kV hc h
   cases hk
  rw[so h,tU c l hc n]
theorem CP (c:List Int)(g:List Vtx)(l:List Int)(hg:GraOK c g)(hgl:g.length≤1000000)(hl:leaS c l=true):aj Tryz.prog 142 [.agg [.ptr 4 0,.lst (.int .i64) l]] (gR c (bn g)) (.lst (.int .i64) (aM (cmt c g l l.length).1)) (gR c (bn g)):=by
 have hll:=(aW.1 hl).2
 refine ab bJ Tryz.func142 rfl rfl true 2 6 rfl rfl rfl rfl fun K hK hb1 hb2=>?_;simp only[af,enc,Nat.reduceAdd]
 clear hb1 hb2
 (repeat' first|refine iC ?_|refine sa fun xe hxe=>?_|refine sb (fun hq=>?_) fun hq=>?_|exact True.intro)
 refine ah hK [] [1,3,4,5] (fun n:Nat=>⟨[(1,.ptr 6 0),(3,.ref 7),(4,.int .i64 ((cmt c g l n).2:Int)),(5,.int .i64 ((n:Int)+1))],Ag c (bn g) (.var 126 [.ptr 4 0,.lst (.int .i64) l])++[(7,.row 3 (.int .i64) (aM (cmt c g l n).1))],8⟩) (fun n=>n≤l.length) (fun n=>l.length-n) 0 (Nat.zero_le _) ?_ ?_
 ·rw[show (((0:Nat):Int)+1)=1 from rfl]
  rfl
 intro n hn
 have hcl:=gK c g l hg.com n
 have hil:=dr (cmt c g l n).1
 have hc2:=(iU c g l n).1
 by_cases hlt:n<l.length
 ·have hD:=CS c g l (n+1) hg hl (by omega) (by omega)
  have e1:(((n+1:Nat)):Int)=(n:Int)+1:=by omega
  cases hd:sy c g l (n+1)
  ·rw[hd,e1] at hD
   have hcn:=so hd
   (repeat' first|refine iC ?_|refine sa fun xe hxe=>?_|refine sb (fun hq=>?_) fun hq=>?_|refine co (hD) ?_|exact True.intro)
   exact⟨n+1,by omega,by omega,by rw[hcn,e1];rfl⟩
  ·obtain⟨k,hk,-⟩:=kV hg.com hd
   have hC:=CO c g l (n+1) (cmt c g l n).2 hg hgl hl (by omega) (by omega) (by omega) hk
   have hkl:=zU g l (w:=n+1) (last:=(cmt c g l n).2) (by omega)
   have hkl2:=dr (chn g l (n+1) (cmt c g l n).2)
   rw[hd,e1] at hD
   rw[e1] at hC
   have hcn:=tV hd
   have hap:=j3 (cmt c g l n).1 (chn g l (n+1) (cmt c g l n).2)
   generalize hA:aM (cmt c g l n).1=A at *
   generalize hB:aM (chn g l (n+1) (cmt c g l n).2)=B at *
   (repeat' first|refine iC ?_|refine sa fun xe hxe=>?_|refine sb (fun hq=>?_) fun hq=>?_|refine co (hD) ?_|refine co (hC) ?_|exact True.intro)
   exact⟨n+1,by omega,by omega,by rw[hcn];dsimp only;rw[hap,e1];rfl⟩
 ·obtain rfl:n=l.length:=by omega
  (repeat' first|refine iC ?_|refine sa fun xe hxe=>?_|refine sb (fun hq=>?_) fun hq=>?_|exact True.intro)
  exact⟨rfl,rfl⟩
theorem As (c:List Int)(l:List Int)(hc:comV c=true)(hl:leaS c l=true):aj Tryz.prog 142 [.agg [.ptr 4 0,.lst (.int .i64) l]] (gZ c eQ) (.lst (.int .i64) []) (gZ c eQ):=by
 have hll:=(aW.1 hl).2
 refine ab bJ Tryz.func142 rfl rfl true 1 5 rfl rfl rfl rfl fun K hK hb1 hb2=>?_;simp only[af,enc,Nat.reduceAdd]
 clear hb1 hb2
 (repeat' first|refine iC ?_|refine sa fun xe hxe=>?_|refine sb (fun hq=>?_) fun hq=>?_|exact True.intro)
 refine ah hK [] [1,3,4,5] (fun n:Nat=>⟨[(1,.ptr 5 0),(3,.ref 6),(4,.int .i64 0),(5,.int .i64 ((n:Int)+1))],FW c eQ (.var 126 [.ptr 4 0,.lst (.int .i64) l])++[(6,.row 3 (.int .i64) [])],7⟩) (fun n=>n≤l.length) (fun n=>l.length-n) 0 (Nat.zero_le _) ?_ ?_
 ·rw[show (((0:Nat):Int)+1)=1 from rfl]
  rfl
 intro n hn
 by_cases hlt:n<l.length
 ·have hD:=Av c l (n+1) hc hl (by omega) (by omega)
  have e1:(((n+1:Nat)):Int)=(n:Int)+1:=by omega
  rw[e1] at hD
  (repeat' first|refine iC ?_|refine sa fun xe hxe=>?_|refine sb (fun hq=>?_) fun hq=>?_|refine co (hD) ?_|exact True.intro)
  exact⟨n+1,by omega,by omega,by rw[e1];rfl⟩
 ·(repeat' first|refine iC ?_|refine sa fun xe hxe=>?_|refine sb (fun hq=>?_) fun hq=>?_|exact True.intro)
  exact⟨rfl,rfl⟩
def wB (c:List Int)(g:List Vtx)(l:List Int):Bool:=graS c g && leaS c l
theorem CZ (c:List Int)(g:List Vtx)(l:List Int)(hgl:g.length≤1000000)(h:wB c g l=false):aj Tryz.prog 88 [.lst (.int .i64) c,.lst .vtx g,.lst (.int .i64) l] [] (.tup [.agg [.nilp,.nils],.gv 0]) []:=by
 have hL:=o6 c g (by omega)
 have hV:=k9 c l
 refine ab bJ Tryz.func88 rfl rfl false 0 4 rfl rfl rfl rfl fun K hK hb1 hb2=>?_;simp only[af,enc,Nat.reduceAdd]
 clear hb1 hb2
 cases hg:graS c g
 ·simp only[wD,wC,hg,Bool.false_eq_true,if_false] at hL
  (repeat' first|refine iC ?_|refine sa fun xe hxe=>?_|refine sb (fun hq=>?_) fun hq=>?_|refine cr (hL) ?_|refine cr (hV) ?_|exact True.intro)
  exact⟨rfl,rfl⟩
 ·have hok:=gU hg
  simp only[wD,wC,hg,if_true] at hL
  rw[wB,hg,Bool.true_and] at h
  rw[hok.com,h] at hV
  cases g with
  |nil=>
   (repeat' first|refine iC ?_|refine sa fun xe hxe=>?_|refine sb (fun hq=>?_) fun hq=>?_|refine cr (hL) ?_|refine cr (hV) ?_|exact True.intro)
   exact⟨rfl,rfl⟩
  |cons v g=>
   (repeat' first|refine iC ?_|refine sa fun xe hxe=>?_|refine sb (fun hq=>?_) fun hq=>?_|refine cr (hL) ?_|refine cr (hV) ?_|exact True.intro)
   exact⟨rfl,rfl⟩
theorem CX (c:List Int)(v:Vtx)(g:List Vtx)(l:List Int)(hgl:(v::g).length≤1000000)(hg:graS c (v::g)=true)(hl:leaS c l=true):aj Tryz.prog 88 [.lst (.int .i64) c,.lst .vtx (v::g),.lst (.int .i64) l] [] (.tup [.agg [.ptr 4 0,.lst (.int .i64) l],.nili]) (gR c (bn (v::g))):=by
 have hL:=o6 c (v::g) (by omega)
 have hV:=k9 c l
 have hok:=gU hg
 simp only[wD,wC,hg,if_true] at hL
 rw[hok.com,hl] at hV
 refine ab bJ Tryz.func88 rfl rfl false 0 4 rfl rfl rfl rfl fun K hK hb1 hb2=>?_;simp only[af,enc,Nat.reduceAdd]
 clear hb1 hb2
 (repeat' first|refine iC ?_|refine sa fun xe hxe=>?_|refine sb (fun hq=>?_) fun hq=>?_|refine cr (hL) ?_|refine cr (hV) ?_|exact True.intro)
 exact⟨rfl,rfl⟩
theorem CY (c:List Int)(l:List Int)(hc:comV c=true)(hl:leaS c l=true):aj Tryz.prog 88 [.lst (.int .i64) c,.lst .vtx [],.lst (.int .i64) l] [] (.tup [.agg [.ptr 4 0,.lst (.int .i64) l],.nili]) (gZ c eQ):=by
 have hg:graS c []=true:=by simp[graS,hc,cg]
 have hL:=o6 c [] (by simp)
 have hV:=k9 c l
 simp only[wD,wC,hg,if_true] at hL
 rw[hc,hl] at hV
 refine ab bJ Tryz.func88 rfl rfl false 0 4 rfl rfl rfl rfl fun K hK hb1 hb2=>?_;simp only[af,enc,Nat.reduceAdd]
 clear hb1 hb2
 (repeat' first|refine iC ?_|refine sa fun xe hxe=>?_|refine sb (fun hq=>?_) fun hq=>?_|refine cr (hL) ?_|refine cr (hV) ?_|exact True.intro)
 exact⟨rfl,rfl⟩
noncomputable def cmw (c:List Int) (g:List Vtx) (l:List Int):List Nat:=if wB c g l then(cmt c g l l.length).1 else[]
end Go.Proofs.YthmfppknagbkeaaGreatDoor.Am
namespace Go.Proofs.YthmfppknagbkeaaGreatDoor.Am
open Go
attribute [local irreducible] Mk ba Ari di jQ f4 bh bV eY d6 At aj nv
set_option maxRecDepth 10000
theorem yI (g:List Vtx)(l:List Int)(acc:List Vtx)(w:Nat):(ordW g l acc w).length≤g.length:=by
 unfold ordW
 split
 ·exact List.length_filter_le _ _
 ·exact Nat.zero_le _
theorem ij (g:List Vtx)(l:List Int):∀(ws:List Nat) (os:List Odd),(oddTo g l os ws).length≤os.length+ws.length*g.length
 |[],os=>by simp[oddTo]
 |w::ws,os=>by
  have h:=ij g l ws (os++(ordW g l (os.map (·.v)) w).map fun v=>⟨v,(w:Int)⟩)
  have h2:=yI g l (os.map (·.v)) w
  simp only[List.length_append,List.length_map] at h
  simp only[oddTo,List.length_cons,Nat.succ_mul]
  omega
open Classical in
set_option maxHeartbeats 1000000 in
theorem C0 (c:List Int)(g:List Vtx)(l:List Int)(hg:GraOK c g)(hgl:g.length≤1000)(hl:leaS c l=true):aj Tryz.prog 89 [.agg [.ptr 4 0,.lst (.int .i64) l]] (gR c (bn g)) (.lst .odd (oddTo g l [] (cmt c g l l.length).1)) (gR c (bn g)):=by
 have hll:=(aW.1 hl).2
 have hn:=(ct g).1
 have hC:=CP c g l hg (by omega) hl
 have hcl:=gK c g l hg.com l.length
 have hcm:=gJ (g:=g) hg.com l l.length
 have hrl:((List.range (bn g).nodes.length).map some).length=g.length:=by simp[hn]
 have hfit:fH 1 (((((List.range (bn g).nodes.length).map some).length:Nat):Int).toNat):=by rw[hrl];unfold fH;omega
 generalize (cmt c g l l.length).1=W at *
 have hil:=dr W
 have hol:=fun i=>ij g l (W.take i) []
 refine ab bK Tryz.func89 rfl rfl true 2 6 rfl rfl rfl rfl fun K hK hb1 hb2=>?_;simp only[af,enc,Nat.reduceAdd]
 clear hb1 hb2
 (repeat' first|refine eX ?_|refine sa fun xe hxe=>?_|refine sb (fun hq=>?_) fun hq=>?_|refine co (hC) ?_|exact True.intro)
 clear hC
 refine ah hK [] [1,3,4,22,23,24] (fun i:Nat=>⟨[(1,.ptr 6 0),(3,.ref 7),(4,.ref 8),(22,.lst (.int .i64) (aM W)),(23,.int .i64 W.length),(24,.int .i64 (i:Int))],Ag c (bn g) (.var 126 [.ptr 4 0,.lst (.int .i64) l])++[(7,.row 134 .odd (oddTo g l [] (W.take i))),(8,.row 4 .bool (dnF g ((oddTo g l [] (W.take i)).map (·.v))))],9⟩) (fun i=>i≤W.length) (fun i=>W.length-i) 0 (Nat.zero_le _) ?_ ?_
 ·have e:List.replicate ((((List.range (bn g).nodes.length).map some).length:Int).toNat) false=dnF g ((oddTo g l [] (W.take 0)).map (·.v)):=by
   rw[List.take_zero,hrl]
   exact(Er g).symm
  rw[←e,←hil]
  rfl
 intro i hi
 by_cases hlt:i<W.length
 ·obtain⟨w,hw⟩:∃w,W[i]?=some w:=⟨_,List.getElem?_eq_getElem hlt⟩
  have hwx:(aM W)[i]?=some (w:Int):=by rw[aM,List.getElem?_map,hw];rfl
  obtain⟨w1,w2,k,hk⟩:=hcm w (List.mem_of_getElem? hw)
  have htk:W.take (i+1)=W.take i++[w]:=by
   obtain⟨h1,h2⟩:=List.getElem?_eq_some_iff.1 hw
   rw[←h2];exact List.take_succ_eq_append_getElem h1
  have hap:=nP g l (W.take i) [w] []
  rw[←htk] at hap
  have hoi:=hol i
  rw[List.length_take] at hoi
  have hoi2:(oddTo g l [] (W.take i)).length≤15000:=by
   refine Nat.le_trans hoi ?_
   simp only[List.length_nil,Nat.zero_add]
   exact Nat.le_trans (Nat.mul_le_mul (show min i W.length≤15 by omega) hgl) (by omega)
  obtain⟨n,hnn,hgn⟩:=kU hg hl w1 w2 hk
  have hL:=oW c g l w n hg hl w1 w2 hnn
  have hP:=oX c g hg (by omega) n k hgn
  have hkr:=(mf hk).2.1
  obtain⟨p0,hp0⟩:=gc hgn
  have hpl:=ph g k
  have hpv:=A6 g k
  clear htk hol hcm
  generalize oddTo g l [] (W.take i)=os at *
  have hap:oddTo g l [] (W.take (i+1))=os++(ordW g l (os.map (·.v)) w).map fun v=>⟨v,(w:Int)⟩:=hap
  (repeat' first|refine eX ?_|refine sa fun xe hxe=>?_|refine sb (fun hq=>?_) fun hq=>?_|refine co (hL) ?_|refine co (hP) ?_|exact True.intro)
  clear hL hP
  refine ah hK [] [1,3,4,6,7,9,22,23,24,41,42,43] (fun j:Nat=>⟨[(1,.ptr 6 0),(3,.ref 7),(4,.ref 8),(6,.int .i64 (w:Int)),(7,.hpo 0 (some n)),(9,.ptr 9 0),(22,.lst (.int .i64) (aM W)),(23,.int .i64 W.length),(24,.int .i64 (i:Int)),(41,.lst (.int .i64) (pst g k)),(42,.int .i64 (pst g k).length),(43,.int .i64 (j:Int))],Ag c (bn g) (.var 126 [.ptr 4 0,.lst (.int .i64) l])++[(7,.row 134 .odd os),(8,.row 4 .bool (dnF g (os.map (·.v)++qvx g k w (os.map (·.v)) j))),(9,.var 175 [.ref 10]),(10,.row 48 .vtx (qvx g k w (os.map (·.v)) j))],11⟩) (fun j=>j≤(pst g k).length) (fun j=>(pst g k).length-j) 0 (Nat.zero_le _) ?_ ?_
  ·rw[show qvx g k w (os.map (·.v)) 0=[] from rfl,List.append_nil]
   rfl
  intro j hj
  have hql:=A9 g k w (os.map (·.v)) j
  have hdl:=t7 g (os.map (·.v)++qvx g k w (os.map (·.v)) j)
  by_cases hjl:j<(pst g k).length
  ·obtain⟨x,hx⟩:∃x,(pst g k)[j]?=some x:=⟨_,List.getElem?_eq_getElem hjl⟩
   obtain⟨ii,rfl,v,hv,hpx⟩:=Dw hx
   have hsn:=yU (w:=w) (os:=os.map (·.v)) hpx
   have hnew:=Ba hg (w:=w) (os:=os.map (·.v)) hpx
   have hiil:=(List.getElem?_eq_some_iff.1 hv).1
   obtain⟨p,hp⟩:=gc hv
   have hrg:=Dz (n:=(bn g).nodes.length) (i:=ii) (by omega)
   have hda:=xg (os:=os.map (·.v)++qvx g k w (os.map (·.v)) j) hv
   have hds:=z5 hg (os:=os.map (·.v)++qvx g k w (os.map (·.v)) j) hv
   rw[List.append_assoc] at hds
   have hasc:=uQ hg k w (os.map (·.v)) (j+1)
   by_cases c1:v∈os.map (·.v)
   ·rw[decide_eq_true (List.mem_append.2 (.inl c1))] at hda
    rw[if_neg (fun h=>h.2 c1)] at hsn
    generalize hqq:qvx g k w (os.map (·.v)) j=qs at *
    (repeat' first|refine eX ?_|refine sa fun xe hxe=>?_|refine sb (fun hq=>?_) fun hq=>?_|exact True.intro)
    (try any_goals(first|exact absurd trivial hq|exact absurd rfl hq|exact absurd hq (by omega)|(exfalso;simp at hq;done)))
    exact⟨j+1,by omega,by omega,by rw[hsn];rfl⟩
   ·rw[decide_eq_false (fun h=>by rcases List.mem_append.1 h with h|h;exact c1 h;exact hnew h)] at hda
    by_cases c2:2*(w:Int)-7≤v.round
    ·have c2p:k.round-6≤v.round:=by omega
     rw[if_pos ⟨c2,c1⟩] at hsn
     rw[hsn] at hasc
     have hPu:=Aq (qvx g k w (os.map (·.v)) j) v (by omega) hasc
     rw[←hsn] at hPu hds
     generalize hq2:qvx g k w (os.map (·.v)) (j+1)=qs2 at *
     generalize hqq:qvx g k w (os.map (·.v)) j=qs at *
     (repeat' first|refine eX ?_|refine sa fun xe hxe=>?_|refine sb (fun hq=>?_) fun hq=>?_|refine co (hPu) ?_|exact True.intro)
     (try any_goals(first|exact absurd trivial hq|exact absurd rfl hq|exact absurd hq (by omega)|(exfalso;simp at hq;done)))
     exact⟨j+1,by omega,by omega,by rw[hq2,←hds];rfl⟩
    ·have c2p:¬k.round-6≤v.round:=by omega
     rw[if_neg (fun h=>c2 h.1)] at hsn
     generalize hqq:qvx g k w (os.map (·.v)) j=qs at *
     (repeat' first|refine eX ?_|refine sa fun xe hxe=>?_|refine sb (fun hq=>?_) fun hq=>?_|exact True.intro)
     (try any_goals(first|exact absurd trivial hq|exact absurd rfl hq|exact absurd hq (by omega)|(exfalso;simp at hq;done)))
     exact⟨j+1,by omega,by omega,by rw[hsn];rfl⟩
  ·obtain rfl:j=(pst g k).length:=by omega
   have hend:=A8 (os:=os.map (·.v)) hk
   rw[hpv] at hend
   have hasc:=uQ hg k w (os.map (·.v)) (pst g k).length
   rw[hend] at hasc hql
   rw[hend]
   have hD:=z7 (ordW g l (os.map (·.v)) w) (ordW g l (os.map (·.v)) w) (w:Int) (by omega) hasc (List.Perm.refl _) (xV hasc)
   have hdd:(oddTo g l [] (W.take (i+1))).map (·.v)=os.map (·.v)++ordW g l (os.map (·.v)) w:=by
    rw[hap,List.map_append,List.map_map]
    congr 1
    exact List.map_id _
   have hml:((ordW g l (os.map (·.v)) w).map fun v=>(⟨v,(w:Int)⟩:Odd)).length=(ordW g l (os.map (·.v)) w).length:=by simp
   rw[←hdd]
   generalize hmm:((ordW g l (os.map (·.v)) w).map fun v=>(⟨v,(w:Int)⟩:Odd))=ms at *
   have hml2:ms.length≤g.length:=by omega
   cases hoe:ordW g l (os.map (·.v)) w with
   |nil=>
    rw[hoe] at hD hml
    rw[show qE []=qB [] from rfl] at hD
    (repeat' first|refine eX ?_|refine sa fun xe hxe=>?_|refine sb (fun hq=>?_) fun hq=>?_|refine co (hD) ?_|exact True.intro)
    (try any_goals(first|exact absurd trivial hq|exact absurd rfl hq|exact absurd hq (by omega)|(exfalso;simp at hq;done)))
    exact⟨i+1,by omega,by omega,by rw[hap];rfl⟩
   |cons v s'=>
    rw[hoe] at hD hml
    have hE:qE (v::s')=qG []:=by unfold qE;rw[if_neg (by simp)]
    rw[hE] at hD
    (repeat' first|refine eX ?_|refine sa fun xe hxe=>?_|refine sb (fun hq=>?_) fun hq=>?_|refine co (hD) ?_|exact True.intro)
    (try any_goals(first|exact absurd trivial hq|exact absurd rfl hq|exact absurd hq (by omega)|(exfalso;simp at hq;done)))
    exact⟨i+1,by omega,by omega,by rw[hap];rfl⟩
 ·obtain rfl:i=W.length:=by omega
  rw[List.take_length]
  (repeat' first|refine eX ?_|refine sa fun xe hxe=>?_|refine sb (fun hq=>?_) fun hq=>?_|exact True.intro)
  exact⟨rfl,rfl⟩
end Go.Proofs.YthmfppknagbkeaaGreatDoor.Am
namespace Go.Proofs.YthmfppknagbkeaaGreatDoor.Am
open Go
attribute [local irreducible] Mk ba Ari di jQ f4 bh bV eY d6 At aj
set_option maxRecDepth 10000
open Classical in
theorem FM (c:List Int)(g:List Vtx)(l:List Int)(hg:GraOK c g)(hgl:g.length≤1000000)(hl:leaS c l=true):aj Tryz.prog 177 [.lst (.int .i64) c,.lst .vtx g,.lst (.int .i64) l] [] (.lst (.int .i64) (aM (cmt c g l l.length).1)) []:=by
 have hll:=(aW.1 hl).2
 have hS:=EX c hg.com
 have hsp:=jy hg.com
 refine ab ak Tryz.func177 rfl rfl true 0 4 rfl rfl rfl rfl fun K hK hb1 hb2=>?_;simp only[af,enc,Nat.reduceAdd]
 clear hb1 hb2
 (repeat' first|refine st ?_|refine sa fun xe hxe=>?_|refine sb (fun hq=>?_) fun hq=>?_|exact True.intro)
 refine ah hK [] [0,1,2,7,8,9] (fun n:Nat=>⟨[(0,.lst (.int .i64) c),(1,.lst .vtx g),(2,.lst (.int .i64) l),(7,.ref 4),(8,.int .i64 ((cmt c g l n).2:Int)),(9,.int .i64 ((n:Int)+1))],[(4,.row 3 (.int .i64) (aM (cmt c g l n).1))],5⟩) (fun n=>n≤l.length) (fun n=>l.length-n) 0 (Nat.zero_le _) rfl ?_
 intro n hn
 have hcl:=gK c g l hg.com n
 have hil:=dr (cmt c g l n).1
 have hc2:=(iU c g l n).1
 by_cases hlt:n<l.length
 ·have hV:=E3 c g l (n+1) hg hgl (by omega) (by omega) (by omega)
  have e1:(((n+1:Nat)):Int)=(n:Int)+1:=by omega
  have hdd:sy c g l (n+1)=decide (wE c≤kR c g l (n+1)):=rfl
  rw[e1] at hV
  by_cases hd:sy c g l (n+1)=true
  ·obtain⟨k0,hk0,-⟩:=kV hg.com hd
   have hcn:=tV hd
   have hap:=j3 (cmt c g l n).1 (chn g l (n+1) (cmt c g l n).2)
   have hch:chn g l (n+1) (cmt c g l n).2=dwn g l (cmt c g l n).2 n k0++[n+1]:=by unfold chn;rw[hk0];rfl
   rw[hdd] at hd
   have hd:=of_decide_eq_true hd
   obtain⟨n0,hn0,hg0⟩:=ia hg hk0
   have hL:=uv g l (n+1) (by omega) (by omega) (by omega)
   rw[hn0,e1] at hL
   have hP:=s8 c g hg hgl n0 k0 hg0
   generalize kR c g l (n+1)=vt at *
   generalize hA:aM (cmt c g l n).1=A at *
   generalize hla:(cmt c g l n).2=last at *
   (repeat' first|refine st ?_|refine sa fun xe hxe=>?_|refine sb (fun hq=>?_) fun hq=>?_|refine cr (hV) ?_|refine cr (hS) ?_|refine cr (hL) ?_|refine cr (hP) ?_|exact True.intro)
   clear hV hL hP hS
   refine ah hK [] [0,1,2,7,8,9,10,11,12] (fun x:Nat×Vtx×List Nat=>⟨[(0,.lst (.int .i64) c),(1,.lst .vtx g),(2,.lst (.int .i64) l),(7,.ref 4),(8,.int .i64 (last:Int)),(9,.int .i64 ((n:Int)+1)),(10,.ref 5),(11,.lst .bool (pfl g x.2.1)),(12,.int .i64 (x.1:Int))],[(4,.row 3 (.int .i64) A),(5,.row 3 (.int .i64) (aM (x.2.2++[n+1])))],6⟩) (fun x=>x.2.1∈g∧last≤x.1∧x.1≤n∧x.2.2.length+x.1≤n∧dwn g l last n k0=dwn g l last x.1 x.2.1++x.2.2) (fun x=>x.1) (n,k0,[]) ⟨List.mem_of_getElem? hg0,hc2,Nat.le_refl _,by simp,by simp⟩ ?_ ?_
   ·dsimp only
    rw[show ((n:Int)+1-1)=(n:Int) by omega,List.nil_append,show aM [n+1]=[(n:Int)+1] from by rw[←e1];rfl]
    rfl
   rintro⟨x,cur,acc⟩ ⟨hcur,hx1,hx2,hx3,hdw⟩
   dsimp only at hcur hx1 hx2 hx3 hdw⊢
   have hrl:(aM (acc++[n+1])).length=acc.length+1:=by rw[dr];simp
   by_cases hlt2:last<x
   ·obtain⟨y,rfl⟩:∃y,x=y+1:=⟨x-1,by omega⟩
    have e2:((y+1:Nat):Int)-1=(y:Int):=by omega
    have hL:=uv g l (y+1) (by omega) (by omega) (by omega)
    cases hk:kE g l (y+1) with
    |none=>
     rw[nG hk] at hL
     rw[xl (by omega) hk] at hdw
     generalize hrow:aM (acc++[n+1])=row at *
     (repeat' first|refine st ?_|refine sa fun xe hxe=>?_|refine sb (fun hq=>?_) fun hq=>?_|refine cr (hL) ?_|exact True.intro)
     refine⟨(y,cur,acc),⟨hcur,by dsimp only;omega,by dsimp only;omega,by dsimp only;omega,hdw⟩,by dsimp only;omega,?_⟩
     rw[e2]
     dsimp only
     rw[hrow]
    |some k=>
     obtain⟨m,hm,hgm⟩:=ia hg hk
     rw[hm] at hL
     have hpf:=s9 (u:=cur) hgm
     by_cases hr:Rv g cur k
     ·rw[decide_eq_true hr] at hpf
      have hP:=s8 c g hg hgl m k hgm
      rw[qm (by omega) hk hr,List.append_assoc] at hdw
      have hrow2:[((y+1:Nat):Int)]++aM (acc++[n+1])=aM (((y+1)::acc)++[n+1]):=rfl
      generalize hrow:aM (acc++[n+1])=row at *
      (repeat' first|refine st ?_|refine sa fun xe hxe=>?_|refine sb (fun hq=>?_) fun hq=>?_|refine cr (hL) ?_|refine cr (hP) ?_|exact True.intro)
      refine⟨(y,k,(y+1)::acc),⟨List.mem_of_getElem? hgm,by dsimp only;omega,by dsimp only;omega,by dsimp only;simp only[List.length_cons];omega,hdw⟩,by dsimp only;omega,?_⟩
      rw[e2]
      dsimp only
      rw[←hrow2]
     ·rw[decide_eq_false hr] at hpf
      rw[qk (by omega) hk hr] at hdw
      generalize hrow:aM (acc++[n+1])=row at *
      (repeat' first|refine st ?_|refine sa fun xe hxe=>?_|refine sb (fun hq=>?_) fun hq=>?_|refine cr (hL) ?_|exact True.intro)
      refine⟨(y,cur,acc),⟨hcur,by dsimp only;omega,by dsimp only;omega,by dsimp only;omega,hdw⟩,by dsimp only;omega,?_⟩
      rw[e2]
      dsimp only
      rw[hrow]
   ·rw[ql (x:=x) (by omega) cur,List.nil_append] at hdw
    have hfin:aM (acc++[n+1])=aM (chn g l (n+1) last):=by rw[hch,hdw]
    rw[hfin]
    rw[hfin] at hrl
    generalize hB:aM (chn g l (n+1) last)=B at *
    have hAl:A.length≤n:=by omega
    (repeat' first|refine st ?_|refine sa fun xe hxe=>?_|refine sb (fun hq=>?_) fun hq=>?_|exact True.intro)
    exact⟨n+1,by omega,by omega,by rw[hcn];dsimp only;rw[hap,e1]⟩
  ·have hd2:sy c g l (n+1)=false:=by simpa using hd
   have hcn:=so hd2
   rw[hdd] at hd2
   have hd2:=of_decide_eq_false hd2
   generalize kR c g l (n+1)=vt at *
   (repeat' first|refine st ?_|refine sa fun xe hxe=>?_|refine sb (fun hq=>?_) fun hq=>?_|refine cr (hV) ?_|refine cr (hS) ?_|exact True.intro)
   exact⟨n+1,by omega,by omega,by rw[hcn,e1]⟩
 ·obtain rfl:n=l.length:=by omega
  (repeat' first|refine st ?_|refine sa fun xe hxe=>?_|refine sb (fun hq=>?_) fun hq=>?_|exact True.intro)
  exact⟨rfl,rfl⟩

end Go.Proofs.YthmfppknagbkeaaGreatDoor.Am
