/- The plain machine with types: regions. The plain machine with types: control. The plain machine with types: what is no more wanted is forgotten. The plain machine with types: what is no more wanted is forgotten, put together. The plain machine with types: loops, results, contracts. From a contract to a row: what a law's call leaves; how an argument reads. The plain machine with types: how the marks are met. The plain machine with types: a variable with a table of nil pointers. Committees and graphs: plain laws. Runs: plain definitions of what is valid, and laws. The program's types, by program -/
import Derived.WalkKit
import Derived.ProofKit
import Derived.OpenShut
import Derived.Carry
import Derived.ChangeSlices
import Derived.ChangeSame
import Derived.Test.YthmfppknagbkeaaGreatDoorRows
import Derived.Test.YthmfppknagbkeaaGreatDoorOR4
set_option linter.unusedSimpArgs false
set_option linter.unusedVariables false
set_option maxHeartbeats 1000000
namespace Go.Proofs.YthmfppknagbkeaaGreatDoor.Am
open Go Go.RowKit
variable {P:Program} {N:Nat}
def oA (a b:List Nat):Bool:=a.all fun x=>!b.contains x
abbrev nu:=List (Nat×List Nat×List Nat)
def iV (dep:List Nat)(fws:nu)(f ws:List Nat):Bool:=
 fws.all fun x=>(oA x.2.2 f && oA x.2.2 ws && oA ws x.2.1)||dep.contains x.1
def wZ (fws:nu)(f ws:List Nat):Bool:=fws.all fun x=>oA x.2.2 f && oA x.2.2 ws && oA ws x.2.1
theorem w4 {dep:List Nat}{fws:nu}{f ws:List Nat}(h:wZ fws f ws=true):iV dep fws f ws=true:=by
 unfold wZ at h
 unfold iV
 rw[List.all_eq_true] at h⊢
 intro x hx
 rw[h x hx]
 rfl
theorem w5 {dep:List Nat}{fws:nu}:iV dep fws [] []=true:=by
 unfold iV
 rw[List.all_eq_true]
 intro x hx
 simp[oA]
def tY (dep:Unit→List Nat)(fws:nu)(f ws:List Nat)(K:Prop):Prop:=
 match wZ fws f ws with
 |true=>K
 |false=>Mk (iV (dep ()) fws f ws) K
theorem qd {dep:Unit→List Nat}{fws:nu}{f ws:List Nat}{K:Prop}(h:tY dep fws f ws K):iV (dep ()) fws f ws=true∧K:=by
 unfold tY at h
 split at h
 ·rename_i e;exact⟨w4 e,h⟩
 ·exact h
def lP (N:Nat)(dst:Option Tmp):Bool:=match dst with|some d=>Nat.blt d N|none=>true
def ry (dst:Option Nat)(v:V)(t:VT):VT:=match dst with|some k=>(k,v)::t|none=>t
theorem lu (dst:Option Nat)(v:V)(t:VT):dA (ry dst v t)=dY dst v.toD (dA t):=by cases dst<;>rfl
def Cp (n:Nat):VH→Nat
 |[]=>0
 |(x,_)::u=>bif Nat.ble n x then Cp n u+1 else Cp n u
def yQ (dst:Option Nat)(v:V)(t:VT)(K:VT→Prop):Prop:=match dst with|some k=>K ((k,v)::t)|none=>K t
theorem rz {dst:Option Nat}{v:V}{t:VT}{K:VT→Prop}(h:yQ dst v t K):K (ry dst v t):=by cases dst<;>exact h
theorem wI {l:List Nat}{b x:Nat}:x∈Cf l b↔x∈l∨x=b:=by
 unfold Cf
 split
 ·rename_i h
  refine⟨.inl,fun h'=>h'.elim id fun e=>?_⟩
  subst e
  simpa using h
 ·simp
theorem nw:∀{bs l:List Nat} {x:Nat},x∈de l bs↔x∈l∨x∈bs
 |[],l,x=>by simp[de]
 |b::bs,l,x=>by
  simp only[de,nw,wI,List.mem_cons]
  exact or_assoc
def d6 (y x:VB)(A B:Prop):Prop:=(y=x∧A)∨B
def mE (h:VH):VH→(VH→List Nat→Prop)→Prop
 |[],K=>K [] []
 |(k,x)::u,K=>match aw h k with
  |some y=>d6 y x (mE h u fun r ds=>K r (k::ds)) (mE h u fun r ds=>K ((k,x)::r) ds)
  |none=>mE h u fun r ds=>K ((k,x)::r) ds
def tl (h u:VH)(K:VH→List Nat→Prop):Prop:=match gt (keysV u) with
 |true=>mE h u K
 |false=>K u []
structure SameOK (h u u':VH)(ds:List Nat):Prop where
 sub:∀k∈keysV u',k∈keysV u
 out:∀k∈ds,k∉keysV u'
 rest:∀k∈keysV u,k∉ds→k∈keysV u'
 new:∀g:VH,∀k,k∉ds→look (puts u' g) k=look (puts u g) k
 old:∀g:VH,∀k∈ds,look (puts u g) k=look h k
theorem nW (h u:VH):SameOK h u u []:=⟨fun _ h=>h,(by simp),fun _ h _=>h,fun _ _ _=>rfl,(by simp)⟩
theorem b9 (k:Nat)(x:VB)(u:VH):keysV ((k,x)::u)=k::keysV u:=rfl
theorem qR {u:VH}{k:Nat}(h:k∉keysV u):∀x∈u,x.1≠k:=fun x hx e=>h (by rw[←dK];exact List.mem_map.2 ⟨x,hx,e⟩)
theorem mF {h:VH}:∀{u:VH} {K:VH→List Nat→Prop},(keysV u).Nodup→mE h u K→∃u' ds,SameOK h u u' ds∧(∀k∈ds,k∈keysV u)∧K u' ds
 |[],K,_,hk=>⟨[],[],nW h [],by simp,hk⟩
 |(k,x)::u,K,hn,hk=>by
  rw[b9,List.nodup_cons] at hn
  have keep:(mE h u fun r ds=>K ((k,x)::r) ds)→∃u' ds,SameOK h ((k,x)::u) u' ds∧(∀j∈ds,j∈keysV ((k,x)::u))∧K u' ds:=by
   intro hk
   obtain⟨u',ds,s,hd,hk⟩:=mF hn.2 hk
   refine⟨_,ds,⟨fun j hj=>?_,fun j hj hc=>?_,fun j hj hne=>?_,fun g j hj=>s.new _ j hj,fun g j hj=>s.old _ j hj⟩,fun j hj=>by rw[b9];exact List.mem_cons_of_mem _ (hd j hj),hk⟩
   ·rw[b9] at hj⊢
    rcases List.mem_cons.1 hj with e|hj
    ·rw[e];exact List.mem_cons_self ..
    ·exact List.mem_cons_of_mem _ (s.sub j hj)
   ·rw[b9] at hc
    rcases List.mem_cons.1 hc with e|hc
    ·exact hn.1 (e▸hd j hj)
    ·exact s.out j hj hc
   ·rw[b9] at hj⊢
    rcases List.mem_cons.1 hj with e|hj
    ·rw[e];exact List.mem_cons_self ..
    ·exact List.mem_cons_of_mem _ (s.rest j hj hne)
  simp only[mE] at hk
  split at hk
  ·rename_i y hy
   rw[ax] at hy
   rcases hk with⟨e,hk⟩|hk
   ·subst e
    obtain⟨u',ds,s,hd,hk⟩:=mF hn.2 hk
    refine⟨u',k::ds,⟨fun j hj=>by rw[b9];exact List.mem_cons_of_mem _ (s.sub j hj),fun j hj hc=>?_,fun j hj hne=>?_,fun g j hj=>?_,fun g j hj=>?_⟩,fun j hj=>?_,hk⟩
    ·rcases List.mem_cons.1 hj with e|hj
     ·exact hn.1 (e▸s.sub j hc)
     ·exact s.out j hj hc
    ·rw[b9] at hj
     rcases List.mem_cons.1 hj with e|hj
     ·exact absurd (e▸List.mem_cons_self ..) hne
     ·exact s.rest j hj fun h=>hne (List.mem_cons_of_mem _ h)
    ·have hjk:j≠k:=fun e=>hj (e▸List.mem_cons_self ..)
     show _=look (puts u (put k y g)) j
     rw[s.new g j fun h=>hj (List.mem_cons_of_mem _ h)]
     exact j6 u j (by rw[ai,if_neg hjk])
    ·show look (puts u (put k y g)) j=_
     rcases List.mem_cons.1 hj with e|hj
     ·subst e
      rw[ar _ _ _ (qR hn.1),ai,if_pos rfl,hy]
     ·exact s.old _ j hj
    ·rw[b9]
     rcases List.mem_cons.1 hj with e|hj
     ·rw[e];exact List.mem_cons_self ..
     ·exact List.mem_cons_of_mem _ (hd j hj)
   ·exact keep hk
  ·exact keep hk
theorem wi {h u:VH}{K:VH→List Nat→Prop}(hk:tl h u K):∃u' ds,SameOK h u u' ds∧K u' ds:=by
 unfold tl at hk
 split at hk
 ·rename_i e
  obtain⟨u',ds,s,_,hk⟩:=mF (fo e) hk
  exact⟨u',ds,s,hk⟩
 ·exact⟨u,[],nW h u,hk⟩
theorem qW {u:HL}{p:Id→Bool}:∀{g:HL} {b:Id},p b=true→look (puts (u.filter fun x=>p x.1) g) b=look (puts u g) b:=by
 induction u with
 |nil=>intro g b _;rfl
 |cons x u ih=>
  intro g b hp
  by_cases hx:p x.1=true
  ·rw[List.filter_cons_of_pos (by exact hx)]
   exact ih hp
  ·rw[List.filter_cons_of_neg (by exact hx),ih hp]
   have hne:b≠x.1:=fun e=>hx (e▸hp)
   exact aO (u:=u) (by rw[ai,if_neg hne])
theorem StepOK.same {o:Oper}{t:VT}{h u u':VH}{r:V}{gl ds:List Nat}(hs:StepOK P N o t h r u gl)(s:SameOK h u u' ds):StepOK P N o t h r u' (gl++ds):=by
 obtain⟨uu,hU,hS⟩:=hs
 have hin:∀b:Id,b.1∈ds→look (toH (puts u h)) b=look (toH h) b:=fun b hb=>by rw[al,al,s.old h b.1 hb]
 have hout:∀(g:HL) (b:Id),b.1∈ds→look (puts (uu.filter fun x=>!ds.contains x.1.1) g) b=look g b:=fun g b hb=>ar _ _ _ fun x hx e=>by
  have:=(List.mem_filter.1 hx).2
  rw[e] at this
  simp[hb] at this
 have hnew:∀(g:HL) (b:Id),b.1∉ds→look (puts (uu.filter fun x=>!ds.contains x.1.1) g) b=look (puts uu g) b:=fun g b hb=>qW (p:=fun b=>!ds.contains b.1) (by simp[hb])
 refine⟨uu.filter fun x=>!ds.contains x.1.1,⟨fun b=>?_,fun x hx=>?_⟩,fun f hf t' h' ht ha w0 S A ρ a w hsim=>?_⟩
 ·by_cases hb:b.1∈ds
  ·rw[hout _ b hb,al,al,ar _ _ _ (qR (s.out _ hb))]
  ·rw[hnew _ b hb,hU.1 b,al,al,s.new h b.1 hb]
 ·obtain⟨h1,h2⟩:=List.mem_filter.1 hx
  have h3:=hU.2 x h1
  rw[dK] at h3⊢
  exact s.rest _ h3 (by simpa using h2)
 ·have hw:=hS f (fun k hk=>hf k (List.mem_append_left _ hk)) t' h' ht ha w0 S A ρ a w hsim
  refine Reg.wp_exit_mono (K:=n8 P w0 S A N ρ t' h' (puts uu h') a o.dst r.toD) ?_ hw
  rintro a' w' ⟨v,ρ',rfl,hex,q1,q2⟩
  have he:∀b:Id,look (puts (uu.filter fun x=>!ds.contains x.1.1) h') b=look (puts uu h') b:=by
   intro b
   by_cases hb:b.1∈ds
   ·have e1:look (toH h) b=look h' b:=ha b (hf _ (List.mem_append_right _ hb))
    rw[hout _ b hb,←e1,←hin b hb,←hU.1 b]
    exact aO e1
   ·exact hnew _ b hb
  have hL:Live (puts (uu.filter fun x=>!ds.contains x.1.1) h')=Live (puts uu h'):=funext fun b=>by simp only[Live,he]
  have hO:okOf A ρ' (puts (uu.filter fun x=>!ds.contains x.1.1) h') w'=okOf A ρ' (puts uu h') w':=funext fun k=>by simp only[okOf,he]
  refine⟨v,ρ',rfl,hex,q1.congr (fun _=>rfl) he,?_⟩
  rw[hL,hO]
  exact q2
def tE (P:Program)(Θ:TT)(dep:Nat→List Nat)(chk:Bool)(N:Nat)(o:Oper)(k:Nat)(fws:nu)(t:VT)(h:VH)(n:Nat)(K:nu→VSt→Prop):Prop:=
 Chk (lP N o.dst) (zj P Θ o.op t h n fun d u gl=>yQ o.dst d t fun t'=>match u with
  |[]=>(match chk with
   |false=>K fws ⟨t',h,n⟩
   |true=>cS (de [] gl) fun f=>(match f with
    |[]=>K fws ⟨t',h,n⟩
    |f=>tY (fun _=>dep k) fws f [] (K ((k,f,[])::fws) ⟨t',h,n⟩)))
  |u=>dt (n+Cp n u) fun n'=>match chk with
   |false=>Chk (vT n' u) (jq u h fun h'=>K fws ⟨t',h',n'⟩)
   |true=>tl h u fun u ds=>Chk (vT n' u) (jq u h fun h'=>cS (de [] (gl++ds)) fun f=>cS (keysV u) fun ws=>tY (fun _=>dep k) fws f ws (K ((k,f,ws)::fws) ⟨t',h',n'⟩)))
def n5 (N:Nat)(o:Oper)(t:VT)(h:VH)(n:Nat)(K:VSt→Prop):Prop:=Chk (lP N o.dst) (yQ o.dst (.tup []) t fun t'=>K ⟨t',h,n⟩)
def iw (P:Program)(Θ:TT)(ops:Array Oper)(dep:Nat→List Nat)(chk:Bool)(N:Nat):List Oper→Nat→nu→VSt→(VSt→Prop)→Prop
 |[],_,_,σ,K=>K σ
 |o::l,k,fws,⟨t,h,n⟩,K=>match o.guard with
  |none=>tE P Θ dep chk N o k fws t h n fun fws' σ'=>iw P Θ ops dep chk N l (k+1) fws' σ' K
  |some (g,want)=>(match(ops[g]?).bind (·.dst) with
   |some s=>aK t s fun v=>(match v with
    | .tt=>(match want with
      |true=>tE P Θ dep chk N o k fws t h n fun fws' σ'=>iw P Θ ops dep chk N l (k+1) fws' σ' K
      |false=>n5 N o t h n fun σ'=>iw P Θ ops dep chk N l (k+1) fws σ' K)
    | .ff=>(match want with
      |false=>tE P Θ dep chk N o k fws t h n fun fws' σ'=>iw P Θ ops dep chk N l (k+1) fws' σ' K
      |true=>n5 N o t h n fun σ'=>iw P Θ ops dep chk N l (k+1) fws σ' K)
    | .bool b=>f4 b
     (match want with
      |true=>tE P Θ dep chk N o k fws ((s,.tt)::t) h n fun fws' σ'=>iw P Θ ops dep chk N l (k+1) fws' σ' K
      |false=>n5 N o ((s,.tt)::t) h n fun σ'=>iw P Θ ops dep chk N l (k+1) fws σ' K)
     (match want with
      |false=>tE P Θ dep chk N o k fws ((s,.ff)::t) h n fun fws' σ'=>iw P Θ ops dep chk N l (k+1) fws' σ' K
      |true=>n5 N o ((s,.ff)::t) h n fun σ'=>iw P Θ ops dep chk N l (k+1) fws σ' K)
    | .tup []=>n5 N o t h n fun σ'=>iw P Θ ops dep chk N l (k+1) fws σ' K
    |_=>False)
   |none=>False)
theorem OpS.congr {o:Oper}{t t':List (Nat×D)}{h h':HL}{d:D}{u:HL}{f:List Nat}(ht:∀x,look t x=look t' x)(hh:∀b,look h b=look h' b)(hd:OpS P N o t h d u f):OpS P N o t' h' d u f:=
 fun t2 h2 e1 e2=>hd t2 h2 (fun x hx=>(lT fun k _=>ht k).trans (e1 x hx)) fun b hb=>(hh b).trans (e2 b hb)
theorem TRun.congr {ops:Array Oper}:∀{L:List (Oper×Rc)} {t t':List (Nat×D)} {h h':HL} {n:Nat},(∀x,look t x=look t' x)→(∀b,look h b=look h' b)→TRun P ops N t h n L→TRun P ops N t' h' n L
 |[],_,_,_,_,_,_,_,_=>trivial
 |(o,r)::L,t,t',h,h',n,he,hh,⟨h1,h2,h3⟩=>by
  refine⟨h1,?_,TRun.congr (fun x=>?_) (fun b=>aO (hh b)) h3⟩
  ·have hg:bt ops t o=bt ops t' o:=i6 fun k _=>he k
   rcases h2 with⟨g1,g2⟩|⟨g1,g2⟩
   ·exact .inl ⟨hg▸g1,g2.congr he hh⟩
   ·exact .inr ⟨hg▸g1,g2⟩
  ·rw[cF,cF,he x]
def Ea (k:Nat)(pre:List (Oper×Rc))(fws:nu):Prop:=
 pre.length=k∧∀i o r,pre[i]?=some (o,r)→(r.u≠[]∨r.f≠[])→∃f ws,(i,f,ws)∈fws∧(∀x∈r.u,x.1.1∈ws)∧∀x∈r.f,x∈f
theorem kj:∀(k k':Nat) (l:List (Oper×Rc)) (t:List (Nat×D)),fA (fun _=>true) k l t=fA (fun _=>true) k' l t
 |_,_,[],_=>rfl
 |k,k',(o,r)::l,t=>kj (k+1) (k'+1) l _
theorem ki:∀(k k':Nat) (l:List (Oper×Rc)) (t:HL),eB (fun _=>true) k l t=eB (fun _=>true) k' l t
 |_,_,[],_=>rfl
 |k,k',(o,r)::l,t=>ki (k+1) (k'+1) l _
def iN (σ:VSt):Prop:=∀c:Id,σ.n≤c.1→look (toH σ.h) c=none
def Runs (P:Program)(N:Nat)(ops:Array Oper)(dep:Nat→List Nat)(chk:Bool)(l:List Oper)(k:Nat)(fws:nu)(σ σ':VSt):Prop:=
 ∀pre:List (Oper×Rc),(chk=true→Ea k pre fws)→∃L:List (Oper×Rc),L.map (·.1)=l∧TRun P ops N (dA σ.t) (toH σ.h) σ.n L∧
  (∀x,look (dA σ'.t) x=look (fA (fun _=>true) 0 L (dA σ.t)) x)∧(∀x,look (toH σ'.h) x=look (eB (fun _=>true) 0 L (toH σ.h)) x)∧
  iN σ'∧
  (chk=true→∀i j oi ri oj rj,i<k+j→(pre++L)[i]?=some (oi,ri)→L[j]?=some (oj,rj)→(dep (k+j)).contains i=false→(∀x∈ri.u,x.1.1∉rj.f∧∀y∈rj.u,x.1.1≠y.1.1)∧(∀x∈rj.u,x.1.1∉ri.f))
variable {ops:Array Oper} {dep:Nat→List Nat} {chk:Bool}
theorem Runs.nil {k:Nat}{fws:nu}{σ:VSt}(hn:iN σ):Runs P N ops dep chk [] k fws σ σ:=fun pre _=>
 ⟨[],rfl,trivial,fun _=>rfl,fun _=>rfl,hn,fun _ i j oi ri oj rj _ _ hj=>by simp at hj⟩
theorem Runs.congr {l:List Oper}{k:Nat}{fws:nu}{σ τ σ':VSt}(h:Runs P N ops dep chk l k fws τ σ')(ht:∀x,look (dA τ.t) x=look (dA σ.t) x)(hh:τ.h=σ.h)(hn:τ.n=σ.n):Runs P N ops dep chk l k fws σ σ':=by
 intro pre hpre
 obtain⟨L,h1,h2,h3,h4,h5,h6⟩:=h pre hpre
 rw[hh] at h2 h4
 rw[hn] at h2
 exact⟨L,h1,h2.congr ht (fun _=>rfl),fun x=>by rw[h3];exact io _ L 0 _ _ x (ht x),h4,h5,h6⟩
theorem oB {a b:List Nat}(h:oA a b=true):∀x∈a,x∉b:=by
 intro x hx
 unfold oA at h
 rw[List.all_eq_true] at h
 simpa using h x hx
theorem Runs.step {o:Oper}{l:List Oper}{k:Nat}{fws:nu}{σ σ':VSt}{d:V}{u:VH}{gl:List Nat}{n':Nat}(hg:bt ops (dA σ.t) o=some true)(hd:lP N o.dst=true)(ha:StepOK P N o σ.t σ.h d u gl)(hn:σ.n≤n')(hu:vT n' u=true)
  (hc:chk=true→iV (dep k) fws gl (keysV u)=true) {fws':nu} (hf:chk=true→fws'=(k,gl,keysV u)::fws∨(fws'=fws∧gl=[]∧u=[])) (h:Runs P N ops dep chk l (k+1) fws' ⟨ry o.dst d σ.t,puts u σ.h,n'⟩ σ'):Runs P N ops dep chk (o::l) k fws σ σ':=by
 intro pre hpre
 obtain⟨uu,hU,hS⟩:=ha
 have hS:=hS gl fun k hk=>hk
 let r:Rc:=⟨d.toD,uu,gl,σ.n,n'⟩
 have huk:∀x∈uu,x.1.1∈keysV u:=fun x hx=>by rw[←dK];exact hU.2 x hx
 obtain⟨L,h1,h2,h3,h4,h5,h6⟩:=h (pre++[(o,r)]) (fun hchk=>by
  obtain⟨q1,q2⟩:=hpre hchk
  refine⟨by simp[q1],fun i o' r' hi hne=>?_⟩
  have hmono:∀x∈fws,x∈fws':=by
   intro x hx
   rcases hf hchk with e|⟨e,_⟩
   ·rw[e];exact List.mem_cons_of_mem _ hx
   ·rw[e];exact hx
  rcases Nat.lt_or_ge i pre.length with hlt|hge
  ·rw[List.getElem?_append_left hlt] at hi
   obtain⟨f,ws,a1,a2⟩:=q2 i o' r' hi hne
   exact⟨f,ws,hmono _ a1,a2⟩
  ·rw[List.getElem?_append_right hge] at hi
   have:i-pre.length=0:=by
    have:=(List.getElem?_eq_some_iff.1 hi).1
    simpa using this
   rw[this] at hi
   simp only[List.getElem?_cons_zero,Option.some.injEq,Prod.mk.injEq] at hi
   obtain⟨rfl,rfl⟩:=hi
   have hik:i=k:=by omega
   rcases hf hchk with e|⟨_,e1,e2⟩
   ·rw[hik,e]
    exact⟨gl,keysV u,List.mem_cons_self ..,huk,fun x hx=>hx⟩
   ·exfalso
    rcases hne with hne|hne
    ·refine hne ?_
     show uu=[]
     cases huu:uu with
     |nil=>rfl
     |cons x l=>have:=huk x (by rw[huu];exact List.mem_cons_self ..);rw[e2] at this;cases this
    ·exact hne e1)
 have hdst:∀x,o.dst=some x→x<N:=by
  intro x hx
  simpa[lP,hx,Nat.blt_eq] using hd
 rw[lu] at h2
 have h2':=h2.congr (fun _=>rfl) (fun b=>(hU.1 b).symm)
 refine⟨(o,r)::L,by simp[h1],⟨⟨rfl,hn,fun x hx=>o8 hu _ (hU.2 x hx),hdst⟩,.inl ⟨hg,hS⟩,h2'⟩,fun x=>(h3 x).trans ?_,fun x=>(h4 x).trans ?_,h5,fun hchk i j oi ri oj rj hij hi hj hdp=>?_⟩
 ·show look (fA _ 0 L (dA (ry o.dst d σ.t))) x=look (fA _ 1 L (if(fun _=>true) 0=true then _ else _)) x
  simp only[if_true,lu]
  rw[kj 0 1]
 ·show look (eB _ 0 L (toH (puts u σ.h))) x=look (eB _ 1 L (if(fun _=>true) 0=true then _ else _)) x
  simp only[if_true]
  rw[ki 0 1]
  exact im _ L 1 _ _ x (hU.1 x).symm
 ·cases j with
  |zero=>
   simp only[List.getElem?_cons_zero,Option.some.injEq,Prod.mk.injEq] at hj
   obtain⟨rfl,rfl⟩:=hj
   obtain⟨q1,q2⟩:=hpre hchk
   rw[List.getElem?_append_left (by omega)] at hi
   by_cases hne:ri.u≠[]∨ri.f≠[]
   ·obtain⟨f0,ws0,hm,m1,m2⟩:=q2 i oi ri hi hne
    have hcf:=hc hchk
    unfold iV at hcf
    rw[List.all_eq_true] at hcf
    have:=hcf _ hm
    simp only[Nat.add_zero] at hdp
    simp only[hdp,Bool.or_false,Bool.and_eq_true] at this
    obtain⟨⟨c1,c2⟩,c3⟩:=this
    exact⟨fun x hx=>⟨oB c1 _ (m1 x hx),fun y hy he=>oB c2 _ (m1 x hx) (he▸huk y hy)⟩,fun x hx hxf=>oB c3 _ (huk x hx) (m2 _ hxf)⟩
   ·have e1:ri.u=[]:=by
     rcases Classical.em (ri.u=[]) with h|h
     ·exact h
     ·exact absurd (.inl h) hne
    have e2:ri.f=[]:=by
     rcases Classical.em (ri.f=[]) with h|h
     ·exact h
     ·exact absurd (.inr h) hne
    rw[e1,e2]
    exact⟨fun x hx=>(by cases hx),fun x hx h=>(by cases h)⟩
  |succ j=>
   refine h6 hchk i j oi ri oj rj (by omega) (by simpa using hi) (by simpa using hj) (by rw[show k+1+j=k+(j+1) by omega];exact hdp)
theorem Runs.skip {o:Oper}{l:List Oper}{k:Nat}{fws:nu}{σ σ':VSt}(hg:bt ops (dA σ.t) o=some false)(hd:lP N o.dst=true)(h:Runs P N ops dep chk l (k+1) fws ⟨ry o.dst (.tup []) σ.t,σ.h,σ.n⟩ σ'):Runs P N ops dep chk (o::l) k fws σ σ':=by
 intro pre hpre
 let r:Rc:=⟨.tup [],[],[],σ.n,σ.n⟩
 obtain⟨L,h1,h2,h3,h4,h5,h6⟩:=h (pre++[(o,r)]) (fun hchk=>by
  obtain⟨q1,q2⟩:=hpre hchk
  refine⟨by simp[q1],fun i o' r' hi hne=>?_⟩
  rcases Nat.lt_or_ge i pre.length with hlt|hge
  ·rw[List.getElem?_append_left hlt] at hi
   exact q2 i o' r' hi hne
  ·rw[List.getElem?_append_right hge] at hi
   have:i-pre.length=0:=by
    have:=(List.getElem?_eq_some_iff.1 hi).1
    simpa using this
   rw[this] at hi
   simp only[List.getElem?_cons_zero,Option.some.injEq,Prod.mk.injEq] at hi
   obtain⟨rfl,rfl⟩:=hi
   simp[r] at hne)
 have hdst:∀x,o.dst=some x→x<N:=by
  intro x hx
  simpa[lP,hx,Nat.blt_eq] using hd
 rw[lu] at h2
 refine⟨(o,r)::L,by simp[h1],⟨⟨rfl,Nat.le_refl _,by simp[r],hdst⟩,.inr ⟨hg,rfl,rfl,rfl⟩,h2⟩,fun x=>(h3 x).trans ?_,fun x=>(h4 x).trans ?_,h5,fun hchk i j oi ri oj rj hij hi hj hdp=>?_⟩
 ·show look (fA _ 0 L (dA (ry o.dst (.tup []) σ.t))) x=look (fA _ 1 L (if(fun _=>true) 0=true then _ else _)) x
  simp only[if_true,lu]
  rw[kj 0 1]
  rfl
 ·show look (eB _ 0 L (toH σ.h)) x=look (eB _ 1 L (if(fun _=>true) 0=true then _ else _)) x
  simp only[if_true]
  rw[ki 0 1]
  rfl
 ·cases j with
  |zero=>
   simp only[List.getElem?_cons_zero,Option.some.injEq,Prod.mk.injEq] at hj
   obtain⟨rfl,rfl⟩:=hj
   refine⟨fun x hx=>⟨by simp[r],by simp[r]⟩,by simp[r]⟩
  |succ j=>
   refine h6 hchk i j oi ri oj rj (by omega) (by simpa using hi) (by simpa using hj) (by rw[show k+1+j=k+(j+1) by omega];exact hdp)
theorem pV {gl:List Nat}{o:Oper}{t:VT}{h:VH}{r:V}{u:VH}(hs:StepOK P N o t h r u gl):StepOK P N o t h r u (de [] gl):=cH hs fun k hk=>nw.2 (.inr hk)
theorem BA {Θ:TT}(hΘ:Θ.ok P){o:Oper}{k:Nat}{fws:nu}{σ:VSt}(hfr:iN σ){K:nu→VSt→Prop}(h:tE P Θ dep chk N o k fws σ.t σ.h σ.n K):
  ∃(d:V) (u:VH) (gl:List Nat) (n':Nat) (fws':nu),lP N o.dst=true∧StepOK P N o σ.t σ.h d u gl∧σ.n≤n'∧vT n' u=true∧(chk=true→iV (dep k) fws gl (keysV u)=true)∧
   (chk=true→fws'=(k,gl,keysV u)::fws∨(fws'=fws∧gl=[]∧u=[]))∧K fws' ⟨ry o.dst d σ.t,puts u σ.h,n'⟩:=by
 obtain⟨hd,h1⟩:=Chk.ok h
 obtain⟨d,u,gl,ha0,h2⟩:=zk (N:=N) hΘ hfr h1
 have ha:=pV ha0
 have h3:=rz h2
 split at h3
 ·split at h3
  ·exact⟨d,[],_,σ.n,fws,hd,ha,Nat.le_refl _,rfl,fun hc=>(by cases hc),fun hc=>(by cases hc),h3⟩
  ·have h4:=aX h3
   split at h4
   ·rename_i e
    exact⟨d,[],_,σ.n,fws,hd,ha,Nat.le_refl _,rfl,fun _=>by rw[e];exact w5,fun _=>.inr ⟨rfl,e,rfl⟩,h4⟩
   ·obtain⟨h5,h6⟩:=qd h4
    exact⟨d,[],_,σ.n,_,hd,ha,Nat.le_refl _,rfl,fun _=>h5,fun _=>.inl rfl,h6⟩
 ·have h4:=aP h3
  split at h4
  ·obtain⟨hl,h5⟩:=h4.ok
   have h6:=ew h5
   exact⟨d,_,_,_,fws,hd,ha,Nat.le_add_right _ _,hl,fun hc=>(by cases hc),fun hc=>(by cases hc),h6⟩
  ·obtain⟨u',ds,s,h5⟩:=wi h4
   obtain⟨hl,h5⟩:=h5.ok
   have h6:=ew h5
   have ha2:=pV (ha0.same s)
   obtain⟨h7,h8⟩:=qd (aX (aX h6))
   exact⟨d,_,_,_,_,hd,ha2,Nat.le_add_right _ _,hl,fun _=>h7,fun _=>.inl rfl,h8⟩
theorem sF {o:Oper}{t:VT}{h:VH}{n n':Nat}{d:V}{u:VH}{gl:List Nat}(hn:∀c:Id,n≤c.1→look (toH h) c=none)(hle:n≤n')(ha:StepOK P N o t h d u gl)(hu:vT n' u=true){t':VT}:iN ⟨t',puts u h,n'⟩:=by
 obtain⟨uu,hU,_⟩:=ha
 exact nA (n:=n') (fun c hc=>hn c (Nat.le_trans hle hc)) hU hu
theorem cE {o:Oper}{t:VT}{g s:Nat}{want b:Bool}{v:V}(h1:o.guard=some (g,want))(h2:(ops[g]?).bind (·.dst)=some s)(h3:look t s=some v)(hv:v.toD= .bool b):bt ops (dA t) o=some (b==want):=by
 unfold bt
 rw[h1]
 simp only[h2,br,h3,Option.map_some,hv]
theorem gk {t:VT}{s:Nat}{v v':V}(h:look t s=some v)(he:v'.toD=v.toD)(x:Nat):look (dA ((s,v')::t)) x=look (dA t) x:=by
 rw[br,br]
 show Option.map _ (if x=s then _ else _)=_
 split
 ·rename_i e;subst e;rw[h];simp[he]
 ·rfl
theorem lA {Θ:TT}(hΘ:Θ.ok P):∀{l:List Oper} {k:Nat} {fws:nu} {σ:VSt} {K:VSt→Prop},iN σ→iw P Θ ops dep chk N l k fws σ K→∃σ',K σ'∧Runs P N ops dep chk l k fws σ σ'
 |[],k,fws,σ,K,hn,h=>⟨σ,h,Runs.nil hn⟩
 |o::l,k,fws,σ,K,hn,h=>by
  have run:∀σ:VSt,iN σ→bt ops (dA σ.t) o=some true→(tE P Θ dep chk N o k fws σ.t σ.h σ.n fun fws' σ'=>iw P Θ ops dep chk N l (k+1) fws' σ' K)→∃σ',K σ'∧Runs P N ops dep chk (o::l) k fws σ σ':=by
   intro σ hn hg h
   obtain⟨d,u,gl,n',fws',h1,h2,h3,h4,h5,h6,h7⟩:=BA hΘ hn h
   obtain⟨σ',h9,h10⟩:=lA hΘ (sF hn h3 h2 h4) h7
   exact⟨σ',h9,Runs.step hg h1 h2 h3 h4 h5 h6 h10⟩
  have skip:∀σ:VSt,iN σ→bt ops (dA σ.t) o=some false→(n5 N o σ.t σ.h σ.n fun σ'=>iw P Θ ops dep chk N l (k+1) fws σ' K)→∃σ',K σ'∧Runs P N ops dep chk (o::l) k fws σ σ':=by
   intro σ hn hg h
   obtain⟨hd,h7⟩:=Chk.ok h
   have h7:=rz h7
   obtain⟨σ',h8,h9⟩:=lA (σ:=⟨ry o.dst (.tup []) σ.t,σ.h,σ.n⟩) hΘ hn h7
   exact⟨σ',h8,Runs.skip hg hd h9⟩
  obtain⟨st,sh,sn⟩:=σ
  unfold iw at h
  split at h
  ·rename_i e
   exact run ⟨st,sh,sn⟩ hn (by unfold bt;rw[e]) h
  ·rename_i g want e
   split at h
   ·rename_i s es
    obtain⟨v,h1,h2⟩:=ao h
    split at h2
    ·cases want with
     |true=>exact run ⟨st,sh,sn⟩ hn (cE e es (b:=true) h1 rfl) h2
     |false=>exact skip ⟨st,sh,sn⟩ hn (cE e es (b:=true) h1 rfl) h2
    ·cases want with
     |true=>exact skip ⟨st,sh,sn⟩ hn (cE e es (b:=false) h1 rfl) h2
     |false=>exact run ⟨st,sh,sn⟩ hn (cE e es (b:=false) h1 rfl) h2
    ·rename_i b
     cases b with
     |true=>
      have h3:=h2.1 rfl
      have hsh:∀x,look (dA ((s,.tt)::st)) x=look (dA st) x:=gk h1 rfl
      cases want with
      |true=>
       obtain⟨σ',k1,k2⟩:=run ⟨(s,.tt)::st,sh,sn⟩ hn (cE e es (b:=true) (v:=.tt) (by simp[look]) rfl) h3
       exact⟨σ',k1,k2.congr hsh rfl rfl⟩
      |false=>
       obtain⟨σ',k1,k2⟩:=skip ⟨(s,.tt)::st,sh,sn⟩ hn (cE e es (b:=true) (v:=.tt) (by simp[look]) rfl) h3
       exact⟨σ',k1,k2.congr hsh rfl rfl⟩
     |false=>
      have h3:=h2.2 rfl
      have hsh:∀x,look (dA ((s,.ff)::st)) x=look (dA st) x:=gk h1 rfl
      cases want with
      |true=>
       obtain⟨σ',k1,k2⟩:=skip ⟨(s,.ff)::st,sh,sn⟩ hn (cE e es (b:=false) (v:=.ff) (by simp[look]) rfl) h3
       exact⟨σ',k1,k2.congr hsh rfl rfl⟩
      |false=>
       obtain⟨σ',k1,k2⟩:=run ⟨(s,.ff)::st,sh,sn⟩ hn (cE e es (b:=false) (v:=.ff) (by simp[look]) rfl) h3
       exact⟨σ',k1,k2.congr hsh rfl rfl⟩
    ·refine skip ⟨st,sh,sn⟩ hn ?_ h2
     unfold bt
     rw[e]
     simp only[es,br,h1,Option.map_some,V.toD,ae]
    ·exact h2.elim
   ·exact h.elim
end Go.Proofs.YthmfppknagbkeaaGreatDoor.Am
namespace Go.Proofs.YthmfppknagbkeaaGreatDoor.Am
open Go Go.RowKit
variable {P:Program} {N:Nat} {K:Id→Prop}
def At (P:Program)(N:Nat)(K:Id→Prop)(c:Code)(Q:Exit→VSt→Prop)(σ:VSt):Prop:=∃e σ',Brings P N K c σ.toD e σ'.toD∧(iO P N K σ'.toD→Q e σ')
theorem eO {c:Code}{σ:St}(h:¬iO P N K σ)(e:Exit)(σ':St):Brings P N K c σ e σ':=fun w0 S A ρ0 a w hs=>absurd ⟨w0,S,A,ρ0,a,w,hs⟩ h
variable {Q:Exit→VSt→Prop} {σ:VSt}
theorem At.real {c:Code}(h:iO P N K σ.toD→At P N K c Q σ):At P N K c Q σ:=by
 rcases Classical.em (iO P N K σ.toD) with hr|hr
 ·exact h hr
 ·exact⟨.normal,σ,eO hr _ _,fun h=>absurd h hr⟩
theorem At.mono {c:Code}{Q':Exit→VSt→Prop}(h:At P N K c Q σ)(hq:∀e σ,Q e σ→Q' e σ):At P N K c Q' σ:=by
 obtain⟨e,σ',h1,h2⟩:=h
 exact⟨e,σ',h1,fun hr=>hq _ _ (h2 hr)⟩
def E1 (next:VSt→Prop)(Q:Exit→VSt→Prop):Exit→VSt→Prop
 | .normal,σ=>next σ
 |e,σ=>Q e σ
def sf (id:Nat)(Q:Exit→VSt→Prop):Exit→VSt→Prop
 | .exit id',σ=>bif Nat.beq id' id then Q .normal σ else Q (.exit id') σ
 |e,σ=>Q e σ
theorem bF (h:Q .normal σ):At P N K .skip Q σ:=⟨.normal,σ,.skip,fun _=>h⟩
theorem b7 (h:Q .ret σ):At P N K .ret Q σ:=⟨.ret,σ,.ret,fun _=>h⟩
theorem bC {id:Nat}(h:Q (.exit id) σ):At P N K (.exit id) Q σ:=⟨.exit id,σ,.exit,fun _=>h⟩
theorem ci {x y:Code}(h:At P N K x (E1 (At P N K y Q) Q) σ):At P N K (.seq x y) Q σ:=by
 obtain⟨e,σ1,h1,h2⟩:=h
 rcases Classical.em (iO P N K σ1.toD) with hr|hr
 ·cases e with
  |normal=>
   obtain⟨e2,σ2,h3,h4⟩:=h2 hr
   exact⟨e2,σ2,.seqN h1 h3,h4⟩
  |_=>exact⟨_,σ1,.seqX (by simp) h1,fun hr=>h2 hr⟩
 ·cases e with
  |normal=>exact⟨.normal,σ1,.seqN h1 (eO hr _ _),fun h=>absurd h hr⟩
  |_=>exact⟨_,σ1,.seqX (by simp) h1,fun h=>absurd h hr⟩
theorem bP {id:Nat}{c:Code}(h:At P N K c (sf id Q) σ):At P N K (.block id c) Q σ:=by
 obtain⟨e,σ1,h1,h2⟩:=h
 cases e with
 |exit id'=>
  by_cases hid:id'=id
  ·subst hid
   exact⟨.normal,σ1,.blockE h1,fun hr=>by have:=h2 hr;simpa only[sf,Nat.beq_refl,cond_true] using this⟩
  ·refine⟨.exit id',σ1,.blockX (by simp[hid]) h1,fun hr=>?_⟩
   have hb:Nat.beq id' id=false:=by
    cases hb:Nat.beq id' id with
    |false=>rfl
    |true=>exact absurd (Nat.eq_of_beq_eq_true hb) hid
   have:=h2 hr
   simpa only[sf,hb,cond_false] using this
 |_=>exact⟨_,σ1,.blockX (by simp) h1,h2⟩
def BQ (c:Operand)(σ:VSt)(A B:VSt→Prop):Prop:=
 match c,σ with
 | .tmp s,⟨t,h,n⟩=>aK t s fun v=>(match v with
  | .tt=>A ⟨t,h,n⟩
  | .ff=>B ⟨t,h,n⟩
  | .bool b=>f4 b (A ⟨(s,.tt)::t,h,n⟩) (B ⟨(s,.ff)::t,h,n⟩)
  |_=>False)
 | .const (.bool true),σ=>A σ
 | .const (.bool false),σ=>B σ
 |_,_=>False
theorem SimS.congr {w0:World}{S:SD}{A:Nat→Prop}{ρ0:Id→Pl}{a:Act}{w:World}{σ σ':St}(h:SimS P w0 S A N ρ0 K σ a w)(ht:∀x,look σ'.t x=look σ.t x)(hh:∀x,look σ'.h x=look σ.h x)(hn:σ'.n=σ.n):SimS P w0 S A N ρ0 K σ' a w:=by
 obtain⟨h1,h2,ρ,h3,h4⟩:=h
 refine⟨fun b hb=>by rw[hh];exact h1 b (by omega),fun b hb=>?_,ρ,h3,h4.congr ht hh⟩
 have:=h2 b hb
 unfold Live at this⊢
 rw[hh]
 exact this
theorem kK {s:Nat}{v v':V}(h:look σ.t s=some v)(he:v'.toD=v.toD):Weak P N K σ.toD (VSt.toD ⟨(s,v')::σ.t,σ.h,σ.n⟩):=
 fun _ _ _ _ _ _ hs=>hs.congr (fun x=>gk h he x) (fun _=>rfl) rfl
theorem bW {c:Operand}{x y:Code}(h:BQ c σ (At P N K x Q) (At P N K y Q)):At P N K (.cond c x y) Q σ:=by
 unfold BQ at h
 split at h
 ·rename_i s st sh sn
  obtain⟨v,h1,h2⟩:=ao h
  split at h2
  ·obtain⟨e,σ1,h3,h4⟩:=h2
   exact⟨e,σ1,.condT (by simp only[ay,VSt.toD,br,h1,Option.map_some,V.toD]) h3,h4⟩
  ·obtain⟨e,σ1,h3,h4⟩:=h2
   exact⟨e,σ1,.condF (by simp only[ay,VSt.toD,br,h1,Option.map_some,V.toD]) h3,h4⟩
  ·rename_i b
   have hev:ay (VSt.toD ⟨st,sh,sn⟩).t (.tmp s)=some (.bool b):=by simp only[ay,VSt.toD,br,h1,Option.map_some,V.toD]
   cases b with
   |true=>
    obtain⟨e,σ1,h3,h4⟩:=h2.1 rfl
    exact⟨e,σ1,.condT hev (.pre (kK (σ:=⟨st,sh,sn⟩) h1 rfl) h3),h4⟩
   |false=>
    obtain⟨e,σ1,h3,h4⟩:=h2.2 rfl
    exact⟨e,σ1,.condF hev (.pre (kK (σ:=⟨st,sh,sn⟩) h1 rfl) h3),h4⟩
  ·exact h2.elim
 ·obtain⟨e,σ1,h3,h4⟩:=h
  exact⟨e,σ1,.condT rfl h3,h4⟩
 ·obtain⟨e,σ1,h3,h4⟩:=h
  exact⟨e,σ1,.condF rfl h3,h4⟩
 ·exact h.elim
theorem p7 {c:Code}(h:iN σ→At P N K c Q σ):At P N K c Q σ:=by
 rcases Classical.em (iN σ) with hr|hr
 ·exact h hr
 ·refine At.real fun⟨w0,S,A,ρ0,a,w,hs⟩=>absurd hs.1 hr
theorem bE {Θ:TT}(hΘ:Θ.ok P){id:Nat}{ops:Array Oper}(h:iw P Θ ops (fun _=>[]) false N ops.toList 0 [] σ (Q .normal)):At P N K (.region id ops false) Q σ:=by
 refine p7 fun hn=>?_
 obtain⟨σ',h1,h2⟩:=lA hΘ hn h
 obtain⟨L,l1,l2,l3,l4,l5,_⟩:=h2 [] fun h=>by cases h
 exact⟨.normal,σ',.regionS l1 l2 l3 l4 fun _=>l5,fun _=>h1⟩
def Eb (o:Oper):Nat:=o.after.toList.foldl (fun m e=>bif Region.binds .any e then m|||(1<<<e.on) else m) 0
def Cg (ops:List Oper):Nat→Nat→Nat
 |0,m=>m
 |j+1,m=>match m.testBit j with
  |true=>Cg ops j (m|||(match ops[j]? with|some o=>Eb o|none=>0))
  |false=>Cg ops j m
def Ct (ops:Array Oper)(k:Nat):List Nat:=
 match ops.toList[k]? with
 |some o=>(List.range k).filter fun i=>(Cg ops.toList k (Eb o)).testBit i
 |none=>[]
theorem bD {Θ:TT}(hΘ:Θ.ok P)(hm:P.follows .mixedOrders=true){id:Nat}{ops:Array Oper}(hok:Reg.okB ops (Ct ops)=true)(h:iw P Θ ops (Ct ops) true N ops.toList 0 [] σ (Q .normal)):At P N K (.region id ops true) Q σ:=by
 refine p7 fun hn=>?_
 obtain⟨σ',h1,h2⟩:=lA hΘ hn h
 obtain⟨L,l1,l2,l3,l4,l5,l6⟩:=h2 [] fun _=>⟨rfl,fun i o r hi=>by simp at hi⟩
 refine⟨.normal,σ',(.regionD (Ct ops) hm hok l1 l2 ?_ l3 l4 fun _=>l5),fun _=>h1⟩
 intro i j oi ri oj rj hij hi hj hdp
 exact l6 rfl i j oi ri oj rj (by omega) (by simpa using hi) hj (by simpa using hdp)
end Go.Proofs.YthmfppknagbkeaaGreatDoor.Am
namespace Go.Proofs.YthmfppknagbkeaaGreatDoor.Am
open Go Go.RowKit
variable {P:Program} {N:Nat} {K:Id→Prop} {os:List Nat} {n:Nat} {h:VH}
def FG (h:VH)(b:Nat):Bool:=match aw h b with
 |some (.row ..)|some (.lit ..)|some (.var ..)|some (.vari ..)=>true
 |_=>false
def ym (h:VH):List Nat→List Nat
 |[]=>[]
 |b::l=>match Nat.ble 4 b && FG h b with|true=>b::ym h l|false=>ym h l
def qF:VB→List Nat
 | .var _ cs=>cM cs
 | .vari _ pre _ _ _ post=>cM pre++cM post
 | .lit _ vs=>cM vs
 |_=>[]
def oS (h:VH):Nat→Nat→List Nat→(List Nat→Prop)→Prop
 |0,_,l,K=>K l
 |k+1,i,l,K=>match l[i]? with
  |none=>K l
  |some b=>cS (de l (ym h (match aw h b with|some x=>qF x|none=>[]))) fun l=>oS h k (i+1) l K
theorem nC {h:VH}:∀{k i:Nat} {l:List Nat} {K:List Nat→Prop},oS h k i l K→∃l,K l
 |0,_,l,_,hk=>⟨l,hk⟩
 |k+1,i,l,K,hk=>by
  simp only[oS] at hk
  split at hk
  ·exact⟨_,hk⟩
  ·have hk:=aX hk
   exact nC hk
def oT (h:VH)(l:List Nat)(K:List Nat→Prop):Prop:=cS l fun l=>oS h 60 0 l K
theorem l8 {h:VH}{l:List Nat}{K:List Nat→Prop}(hk:oT h l K):∃l,K l:=nC (aX hk)
def BU:VT→List Nat
 |[]=>[]
 |(_,v)::l=>df v++BU l
mutual
def aU (os:List Nat)(v:V)(K:V→Prop):Prop:=
 match v with
 | .ref b=>kb b os 4 fun r=>(match r with|some i=>K (.ref i)|none=>False)
 | .ptr b o=>kb b os 4 fun r=>(match r with|some i=>K (.ptr i o)|none=>False)
 | .eptr b j o=>kb b os 4 fun r=>(match r with|some i=>K (.eptr i j o)|none=>False)
 | .vref b o q=>kb b os 4 fun r=>(match r with|some i=>K (.vref i o q)|none=>False)
 | .aptr b p j=>kb b os 4 fun r=>(match r with|some i=>K (.aptr i p j)|none=>False)
 | .fref k i=>Chk (Nat.blt k 4) (K (.fref k i))
 | .fptr k i o=>Chk (Nat.blt k 4) (K (.fptr k i o))
 | .feptr k i j o=>Chk (Nat.blt k 4) (K (.feptr k i j o))
 | .faptr k i p j=>Chk (Nat.blt k 4) (K (.faptr k i p j))
 | .hro k o=>Chk (Nat.blt k 4) (K (.hro k o))
 | .hpo k o=>Chk (Nat.blt k 4) (K (.hpo k o))
 | .agg cs=>f8 os cs fun cs=>K (.agg cs)
 | .tup cs=>f8 os cs fun cs=>K (.tup cs)
 | .clo f cs=>f8 os cs fun cs=>K (.clo f cs)
 | .ifc T v=>aU os v fun v=>K (.ifc T v)
 | .int k n=>K (.int k n)
 | .bool b=>K (.bool b)
 | .tt=>K (.bool true)
 | .ff=>K (.bool false)
 | .str s=>K (.str s)
 | .lst t xs=>K (.lst t xs)
 | .box t x=>K (.box t x)
 | .nilp=>K .nilp
 | .nils=>K .nils
 | .nilf=>K .nilf
 | .nili=>K .nili
 | .gv g=>K (.gv g)
 | .gp _=>False
 | .iptr t x o=>K (.iptr t x o)
 | .obo t o=>K (.obo t o)
 | .undef=>K .undef
 | .junk=>K .junk
def f8 (os:List Nat)(l:List V)(K:List V→Prop):Prop:=
 match l with
 |[]=>K []
 |v::l=>aU os v fun v=>f8 os l fun l=>K (v::l)
end
structure KeepOK (os:List Nat)(h h':VH):Prop where
 sgl:∀m b,os[m]?=some b→Live (toH h) (b,0)→Live (toH h') (4+m,0)
 fam:∀k,k<4→∀i,Live (toH h) (k,i)→Live (toH h') (k,i)
section
variable {h':VH}
theorem Dy (H:KeepOK os h h'){m b:Nat}(hb:os[m]?=some b):Rn (toH h) (gI (gN os n)) (toH h') (.ref (b,0)) (.ref (4+m,0)):=by
 have e:gI (gN os n) (4+m,0)=(b,0):=by simp only[gI,dD,cb hb]
 have:=Rn.ref (h:=toH h) (g:=gI (gN os n)) (h':=toH h') (4+m,0) fun hl=>H.sgl m b hb (by rw[e] at hl;exact hl)
 rwa [e] at this
theorem y7 (H:KeepOK os h h'){m b:Nat}(hb:os[m]?=some b)(o:Nat):Rn (toH h) (gI (gN os n)) (toH h') (.ptr (b,0) o) (.ptr (4+m,0) o):=by
 have e:gI (gN os n) (4+m,0)=(b,0):=by simp only[gI,dD,cb hb]
 have:=Rn.ptr (h:=toH h) (g:=gI (gN os n)) (h':=toH h') (4+m,0) o fun hl=>H.sgl m b hb (by rw[e] at hl;exact hl)
 rwa [e] at this
theorem Be (H:KeepOK os h h'){m b:Nat}(hb:os[m]?=some b)(j o:Nat):Rn (toH h) (gI (gN os n)) (toH h') (.eptr (b,0) j o) (.eptr (4+m,0) j o):=by
 have e:gI (gN os n) (4+m,0)=(b,0):=by simp only[gI,dD,cb hb]
 have:=Rn.eptr (h:=toH h) (g:=gI (gN os n)) (h':=toH h') (4+m,0) j o fun hl=>H.sgl m b hb (by rw[e] at hl;exact hl)
 rwa [e] at this
theorem Bg (H:KeepOK os h h'){m b:Nat}(hb:os[m]?=some b)(o q:Nat):Rn (toH h) (gI (gN os n)) (toH h') (.vref (b,0) o q) (.vref (4+m,0) o q):=by
 have e:gI (gN os n) (4+m,0)=(b,0):=by simp only[gI,dD,cb hb]
 have:=Rn.vref (h:=toH h) (g:=gI (gN os n)) (h':=toH h') (4+m,0) o q fun hl=>H.sgl m b hb (by rw[e] at hl;exact hl)
 rwa [e] at this
theorem oR {k:Nat}(hk:k<4)(i:Nat):gI (gN os n) (k,i)=(k,i):=by simp only[gI,jY os n hk]
theorem uS (H:KeepOK os h h'){k:Nat}(hk:k<4)(i:Nat):Rn (toH h) (gI (gN os n)) (toH h') (.ref (k,i)) (.ref (k,i)):=by
 have e:gI (gN os n) (k,i)=(k,i):=oR hk i
 have:=Rn.ref (h:=toH h) (g:=gI (gN os n)) (h':=toH h') (k,i) fun hl=>H.fam k hk i (by rw[e] at hl;exact hl)
 rwa [e] at this
theorem pk (H:KeepOK os h h'){k:Nat}(hk:k<4)(i o:Nat):Rn (toH h) (gI (gN os n)) (toH h') (.ptr (k,i) o) (.ptr (k,i) o):=by
 have e:gI (gN os n) (k,i)=(k,i):=oR hk i
 have:=Rn.ptr (h:=toH h) (g:=gI (gN os n)) (h':=toH h') (k,i) o fun hl=>H.fam k hk i (by rw[e] at hl;exact hl)
 rwa [e] at this
theorem y6 (H:KeepOK os h h'){k:Nat}(hk:k<4)(i j o:Nat):Rn (toH h) (gI (gN os n)) (toH h') (.eptr (k,i) j o) (.eptr (k,i) j o):=by
 have e:gI (gN os n) (k,i)=(k,i):=oR hk i
 have:=Rn.eptr (h:=toH h) (g:=gI (gN os n)) (h':=toH h') (k,i) j o fun hl=>H.fam k hk i (by rw[e] at hl;exact hl)
 rwa [e] at this
theorem kG (H:KeepOK os h h'){k:Nat}(hk:k<4)(o:Option Nat):Rn (toH h) (gI (gN os n)) (toH h') (gY k o) (gY k o):=by
 cases o with
 |none=>exact .pure _ rfl
 |some i=>exact uS H hk i
theorem B4 (H:KeepOK os h h'){k:Nat}(hk:k<4)(o:Option Nat):Rn (toH h) (gI (gN os n)) (toH h') (kD k o) (kD k o):=by
 cases o with
 |none=>exact .pure _ rfl
 |some i=>exact pk H hk i 0
theorem iG {a b:Nat}(h:Nat.blt a b=true):a<b:=by simpa[Nat.blt_eq] using h
mutual
theorem f7:∀{v:V} {K:V→Prop},aU os v K→∃r:V,(∀h',KeepOK os h h'→Rn (toH h) (gI (gN os n)) (toH h') v.toD r.toD)∧r.one=v.one∧K r
 | .ref b,K,hk=>by
  simp only[aU] at hk
  obtain⟨r,r1,r2,hk⟩:=cX hk
  split at hk
  ·obtain⟨m,rfl,hm⟩:=r2 _ rfl
   exact⟨.ref (4+m),fun h' H=>Dy H hm,rfl,hk⟩
  ·exact hk.elim
 | .ptr b o,K,hk=>by
  simp only[aU] at hk
  obtain⟨r,r1,r2,hk⟩:=cX hk
  split at hk
  ·obtain⟨m,rfl,hm⟩:=r2 _ rfl
   exact⟨.ptr (4+m) o,fun h' H=>y7 H hm o,rfl,hk⟩
  ·exact hk.elim
 | .eptr b j o,K,hk=>by
  simp only[aU] at hk
  obtain⟨r,r1,r2,hk⟩:=cX hk
  split at hk
  ·obtain⟨m,rfl,hm⟩:=r2 _ rfl
   exact⟨.eptr (4+m) j o,fun h' H=>Be H hm j o,rfl,hk⟩
  ·exact hk.elim
 | .vref b o q,K,hk=>by
  simp only[aU] at hk
  obtain⟨r,r1,r2,hk⟩:=cX hk
  split at hk
  ·obtain⟨m,rfl,hm⟩:=r2 _ rfl
   exact⟨.vref (4+m) o q,fun h' H=>Bg H hm o q,rfl,hk⟩
  ·exact hk.elim
 | .aptr b p j,K,hk=>by
  simp only[aU] at hk
  obtain⟨r,r1,r2,hk⟩:=cX hk
  split at hk
  ·obtain⟨m,rfl,hm⟩:=r2 _ rfl
   exact⟨.aptr (4+m) p j,fun h' H=>y7 H hm (p+j),rfl,hk⟩
  ·exact hk.elim
 | .fref k i,K,hk=>by simp only[aU] at hk;obtain⟨c,hk⟩:=hk.ok;exact⟨.fref k i,fun h' H=>uS H (iG c) i,rfl,hk⟩
 | .fptr k i o,K,hk=>by simp only[aU] at hk;obtain⟨c,hk⟩:=hk.ok;exact⟨.fptr k i o,fun h' H=>pk H (iG c) i o,rfl,hk⟩
 | .feptr k i j o,K,hk=>by simp only[aU] at hk;obtain⟨c,hk⟩:=hk.ok;exact⟨.feptr k i j o,fun h' H=>y6 H (iG c) i j o,rfl,hk⟩
 | .faptr k i p j,K,hk=>by simp only[aU] at hk;obtain⟨c,hk⟩:=hk.ok;exact⟨.faptr k i p j,fun h' H=>pk H (iG c) i (p+j),rfl,hk⟩
 | .hro k o,K,hk=>by simp only[aU] at hk;obtain⟨c,hk⟩:=hk.ok;exact⟨.hro k o,fun h' H=>kG H (iG c) o,rfl,hk⟩
 | .hpo k o,K,hk=>by simp only[aU] at hk;obtain⟨c,hk⟩:=hk.ok;exact⟨.hpo k o,fun h' H=>B4 H (iG c) o,rfl,hk⟩
 | .agg cs,K,hk=>by
  simp only[aU] at hk
  obtain⟨r,h1,h2,h3,hk⟩:=e8 hk
  exact⟨.agg r,fun h' H=>by simp only[V.toD];exact .agg _ _ h1 (h2 h' H),rfl,hk⟩
 | .tup cs,K,hk=>by
  simp only[aU] at hk
  obtain⟨r,h1,h2,h3,hk⟩:=e8 hk
  exact⟨.tup r,fun h' H=>by simp only[V.toD];exact .tup _ _ h1 (h2 h' H),rfl,hk⟩
 | .clo f cs,K,hk=>by
  simp only[aU] at hk
  obtain⟨r,h1,h2,h3,hk⟩:=e8 hk
  exact⟨.clo f r,fun h' H=>by simp only[V.toD];exact .clo f _ _ h1 (h2 h' H),rfl,hk⟩
 | .ifc T v,K,hk=>by
  simp only[aU] at hk
  obtain⟨r,h1,h2,hk⟩:=f7 hk
  exact⟨.ifc T r,fun h' H=>by simp only[V.toD];exact .ifc T _ _ (h1 h' H),rfl,hk⟩
 | .int k m,K,hk=>⟨.int k m,fun h' H=>.pure _ rfl,rfl,by simpa only[aU] using hk⟩
 | .bool b,K,hk=>⟨.bool b,fun h' H=>.pure _ rfl,rfl,by simpa only[aU] using hk⟩
 | .tt,K,hk=>⟨.bool true,fun h' H=>.pure _ rfl,rfl,by simpa only[aU] using hk⟩
 | .ff,K,hk=>⟨.bool false,fun h' H=>.pure _ rfl,rfl,by simpa only[aU] using hk⟩
 | .str s,K,hk=>⟨.str s,fun h' H=>.pure _ rfl,rfl,by simpa only[aU] using hk⟩
 | .lst t xs,K,hk=>⟨.lst t xs,fun h' H=>.pure _ rfl,rfl,by simpa only[aU] using hk⟩
 | .box t x,K,hk=>⟨.box t x,fun h' H=>.pure _ rfl,rfl,by simpa only[aU] using hk⟩
 | .nilp,K,hk=>⟨.nilp,fun h' H=>.pure _ rfl,rfl,by simpa only[aU] using hk⟩
 | .nils,K,hk=>⟨.nils,fun h' H=>.pure _ rfl,rfl,by simpa only[aU] using hk⟩
 | .nilf,K,hk=>⟨.nilf,fun h' H=>.pure _ rfl,rfl,by simpa only[aU] using hk⟩
 | .nili,K,hk=>⟨.nili,fun h' H=>.pure _ rfl,rfl,by simpa only[aU] using hk⟩
 | .gv g,K,hk=>⟨.gv g,fun h' H=>.gv g,rfl,by simpa only[aU] using hk⟩
 | .gp _,K,hk=>by simp only[aU] at hk
 | .iptr t x o,K,hk=>⟨.iptr t x o,fun h' H=>.iptr _ _,rfl,by simpa only[aU] using hk⟩
 | .obo t o,K,hk=>⟨.obo t o,fun h' H=>.pure _ (by cases o<;>rfl),rfl,by simpa only[aU] using hk⟩
 | .undef,K,hk=>⟨.undef,fun h' H=>.undef _,rfl,by simpa only[aU] using hk⟩
 | .junk,K,hk=>⟨.junk,fun h' H=>.junk,rfl,by simpa only[aU] using hk⟩
theorem e8:∀{l:List V} {K:List V→Prop},f8 os l K→∃r:List V,(ae l).length=(ae r).length∧(∀h',KeepOK os h h'→∀i,i<(ae l).length→Rn (toH h) (gI (gN os n)) (toH h') ((ae l).getD i .undef) ((ae r).getD i .undef))∧(l.all V.one=r.all V.one)∧K r
 |[],K,hk=>⟨[],rfl,fun h' H i hi=>by simp[ae] at hi,rfl,by simpa only[f8] using hk⟩
 |v::l,K,hk=>by
  simp only[f8] at hk
  obtain⟨v',h1,h2,hk⟩:=f7 hk
  obtain⟨r,h3,h4,h5,hk⟩:=e8 hk
  refine⟨v'::r,by simp only[ae,List.length_cons,h3],fun h' H i hi=>?_,by simp only[List.all_cons,h2,h5],hk⟩
  cases i with
  |zero=>simpa[ae] using h1 h' H
  |succ i=>simpa[ae] using h4 h' H i (by simpa[ae] using hi)
end
def xH (os:List Nat)(h:VH)(l:List V)(K:List V→Prop):Prop:=iB h l fun l=>f8 os l K
theorem xA (g:HL)(l:List D){i:Nat}(hi:i<l.length):(fI g l).getD i .undef=fwd g (l.getD i .undef):=by
 rw[cq,List.getD_eq_getElem?_getD,List.getElem?_map,List.getElem?_eq_getElem hi,List.getD_eq_getElem?_getD,List.getElem?_eq_getElem hi]
 rfl
theorem k6 {l:List V}{K:List V→Prop}(hk:xH os h l K):∃r:List V,(ae l).length=(ae r).length∧(∀h',KeepOK os h h'→∀i,i<(ae l).length→Rn (toH h) (gI (gN os n)) (toH h') ((ae l).getD i .undef) ((ae r).getD i .undef))∧((ae l).all D.one=true→(ae r).all D.one=true)∧K r:=by
 obtain⟨l',h1,hk⟩:=ef hk
 obtain⟨r,h2,h3,h4,hk⟩:=e8 (h:=h) (n:=n) hk
 have hlen:(ae l).length=(ae l').length:=by rw[←h1,cq,List.length_map]
 refine⟨r,hlen.trans h2,fun h' H i hi=>.fwd _ _ ?_,fun ha=>?_,hk⟩
 ·rw[←xA _ _ hi,h1]
  exact h3 h' H i (by rw[←hlen];exact hi)
 ·refine iR _ ?_
  rw[←h4]
  have e:(ae l').all D.one=l'.all V.one:=by
   rw[bk,List.all_map]
   refine congrArg (fun f=>List.all l' f) (funext fun v=>jn v)
  rw[←e,←h1,cq,List.all_map]
  rw[List.all_eq_true] at ha⊢
  intro d hd
  simp only[Function.comp,k4]
  exact ha d hd
theorem mD (H:KeepOK os h h'){t:Ty}(ht:∀k∈t.fams,k<4)(x:t.den):∀c∈(aa t x).cells,Rn (toH h) (gI (gN os n)) (toH h') c c:=by
 intro c hc
 by_cases hp:t.pure=true
 ·have:=(e9 hp x).2
  rw[List.all_eq_true] at this
  exact .pure c (this c hc)
 ·have lf:∀d:D,d.pure0=true→Rn (toH h) (gI (gN os n)) (toH h') d d:=fun d hd=>.pure d hd
  cases t<;>simp only[Ty.pure,not_true_eq_false] at hp
  case hr k=>
   simp only[aa,(ja k x).2,List.mem_singleton] at hc
   subst hc
   exact kG H (ht k (by simp[Ty.fams])) x
  case hp k=>
   simp only[aa,(i9 k x).2,List.mem_singleton] at hc
   subst hc
   exact B4 H (ht k (by simp[Ty.fams])) x
  case vtxo k=>
   simp only[aa,D.cells,List.mem_cons,List.not_mem_nil,or_false] at hc
   rcases hc with rfl|rfl|rfl|rfl
   ·exact lf _ rfl
   ·exact lf _ rfl
   ·exact kG H (ht k (by simp[Ty.fams])) _
   ·exact lf _ rfl
  case pplm k=>
   simp only[aa,D.cells,dZ,List.cons_append,List.nil_append,List.mem_cons,List.not_mem_nil,or_false] at hc
   rcases hc with rfl|rfl|rfl|rfl|rfl
   ·exact lf _ rfl
   ·exact lf _ rfl
   ·exact lf _ rfl
   ·exact lf _ rfl
   ·exact kG H (ht k (by simp[Ty.fams])) _
  case pplo k k'=>
   simp only[aa,D.cells,List.mem_cons,List.not_mem_nil,or_false] at hc
   rcases hc with rfl|rfl|rfl|rfl|rfl
   ·exact lf _ rfl
   ·exact lf _ rfl
   ·exact kG H (ht k (by simp[Ty.fams])) _
   ·exact lf _ rfl
   ·exact kG H (ht k' (by simp[Ty.fams])) _
  case evto k=>
   simp only[aa,D.cells,List.mem_cons,List.not_mem_nil,or_false] at hc
   rcases hc with rfl|rfl|rfl|rfl|rfl|rfl|rfl
   ·exact lf _ rfl
   ·exact lf _ rfl
   ·exact lf _ rfl
   ·exact lf _ rfl
   ·exact lf _ rfl
   ·exact kG H (ht k (by simp[Ty.fams])) _
   ·exact lf _ rfl
  case nod k=>
   simp only[aa,D.cells,dZ,List.cons_append,List.nil_append,List.mem_cons,List.not_mem_nil,or_false] at hc
   rcases hc with rfl|rfl|rfl|rfl|rfl|rfl
   ·exact lf _ rfl
   ·exact lf _ rfl
   ·exact lf _ rfl
   ·exact lf _ rfl
   ·exact lf _ rfl
   ·exact kG H (ht k (by simp[Ty.fams])) _
theorem tf (H:KeepOK os h h'){t:Ty}(ht:∀k∈t.fams,k<4)(x:t.den):Rn (toH h) (gI (gN os n)) (toH h') (aa t x) (aa t x):=by
 have hc:=mD (n:=n) H ht x
 by_cases hag:∃cs,aa t x= .agg cs
 ·obtain⟨cs,he⟩:=hag
  rw[he] at hc⊢
  exact .agg cs cs rfl fun i hi=>hc _ (aD hi)
 ·have he:(aa t x).cells=[aa t x]:=bq fun cs hcs=>hag ⟨cs,hcs⟩
  exact hc _ (by rw[he];exact List.mem_singleton.2 rfl)
theorem th (H:KeepOK os h h'){t:Ty}(ht:∀k∈t.fams,k<4)(E:TypeId)(xs:List t.den):RnB (toH h) (gI (gN os n)) (toH h') (.row E (xs.map (aa t))) (.row E (xs.map (aa t))):=by
 refine .row E _ _ rfl fun i hi=>?_
 obtain⟨x,_,hx⟩:=List.mem_map.1 (aD hi)
 rw[←hx]
 exact⟨tf H ht x,fun s hs=>⟨hs,fun j hj=>mD H ht x _ (aD (by rw[hs.1];exact hj))⟩⟩
theorem y8 (H:KeepOK os h h')(T:TypeId){cs:List D}(hc:∀c∈cs,Rn (toH h) (gI (gN os n)) (toH h') c c):RnB (toH h) (gI (gN os n)) (toH h') (.var T cs) (.var T cs):=.var T _ _ rfl fun i hi=>hc _ (aD hi)
def FB (os:List Nat)(h:VH)(v:V)(K:V→Prop):Prop:=match v with
 | .agg cs=>xH os h cs fun cs=>K (.agg cs)
 |v=>Chk v.one (bO h v fun v=>aU os v K)
theorem CI {v:V}{K:V→Prop}(hk:FB os h v K):∃r:V,(∀h',KeepOK os h h'→Rn (toH h) (gI (gN os n)) (toH h') v.toD r.toD∧∀s,wfC s v.toD→wfC s r.toD∧∀j,j<s→Rn (toH h) (gI (gN os n)) (toH h') (v.toD.cells.getD j .undef) (r.toD.cells.getD j .undef))∧K r:=by
 unfold FB at hk
 split at hk
 ·rename_i cs
  obtain⟨r,h1,h2,h3,hk⟩:=k6 (n:=n) hk
  refine⟨.agg r,fun h' H=>⟨by simp only[V.toD];exact .agg _ _ h1 (h2 h' H),fun s hs=>?_⟩,hk⟩
  have hs1:(ae cs).length=s:=by have:=hs.1;simpa only[V.toD,D.cells] using this
  refine⟨⟨?_,?_⟩,fun j hj=>?_⟩
  ·show (ae r).length=s
   omega
  ·exact h3 (by have:=hs.2;simpa only[V.toD,D.cells] using this)
  ·exact h2 h' H j (by omega)
 ·obtain⟨c,hk⟩:=hk.ok
  obtain⟨v',h1,hk⟩:=gT hk
  obtain⟨r,h2,h3,hk⟩:=f7 (h:=h) (n:=n) hk
  have o1:v.toD.one=true:=by rw[jn];exact c
  have o2:r.toD.one=true:=by
   rw[jn,h3,←jn,←h1,k4];exact o1
  refine⟨r,fun h' H=>?_,hk⟩
  have hr:Rn (toH h) (gI (gN os n)) (toH h') v.toD r.toD:=.fwd _ _ (by rw[h1];exact h2 h' H)
  refine⟨hr,fun s hs=>?_⟩
  have hs1:=hs.1
  rw[bg o1] at hs1⊢
  rw[bg o2]
  simp only[List.length_singleton] at hs1
  subst hs1
  refine⟨⟨by rw[bg o2];rfl,by rw[bg o2];simp[o2]⟩,fun j hj=>?_⟩
  obtain rfl:j=0:=by omega
  exact hr
def CJ (os:List Nat)(h:VH):List V→(List V→Prop)→Prop
 |[],K=>K []
 |v::l,K=>FB os h v fun v=>CJ os h l fun l=>K (v::l)
theorem uk:∀{l:List V} {K:List V→Prop},CJ os h l K→∃r:List V,(∀h' E,KeepOK os h h'→RnB (toH h) (gI (gN os n)) (toH h') (.row E (ae l)) (.row E (ae r)))∧K r
 |[],K,hk=>⟨[],fun h' E H=>.row E _ _ rfl fun i hi=>by simp[ae] at hi,hk⟩
 |v::l,K,hk=>by
  obtain⟨v',h1,hk⟩:=CI (n:=n) hk
  obtain⟨r,h2,hk⟩:=uk hk
  refine⟨v'::r,fun h' E H=>?_,hk⟩
  cases h2 h' E H with
  |row _ _ _ hl hc=>
   refine .row E _ _ (by simp only[ae,List.length_cons,hl]) fun i hi=>?_
   cases i with
   |zero=>simpa[ae] using h1 h' H
   |succ i=>simpa[ae] using hc i (by simpa[ae] using hi)
def EJ (l:List Nat):Bool:=l.all fun k=>Nat.blt k 4
theorem sT {l:List Nat}(h:EJ l=true):∀k∈l,k<4:=by
 unfold EJ at h
 rw[List.all_eq_true] at h
 exact fun k hk=>iG (h k hk)
def FA (os:List Nat)(h:VH)(x:VB)(K:VB→Prop):Prop:=
 match x with
 | .var T cs=>xH os h cs fun cs=>K (.var T cs)
 | .vari T pre m t xs post=>Chk (EJ t.fams) (xH os h pre fun pre=>xH os h post fun post=>K (.vari T pre m t xs post))
 | .row E t xs=>Chk (EJ t.fams) (K (.row E t xs))
 | .lit E vs=>CJ os h vs fun vs=>K (.lit E vs)
 | .froz t xs=>K (.froz t xs)
 | .fvb t x=>K (.fvb t x)
 | .moved _ _=>K .gone
 | .gone=>K .gone
 |_=>False
theorem CH {x:VB}{K:VB→Prop}(hk:FA os h x K):∃y d d',x.blks=[d]∧y.blks=[d']∧(∀h',KeepOK os h h'→RnB (toH h) (gI (gN os n)) (toH h') d d')∧K y:=by
 unfold FA at hk
 split at hk
 ·rename_i T cs
  obtain⟨r,h1,h2,_,hk⟩:=k6 (n:=n) hk
  exact⟨_,_,_,rfl,rfl,fun h' H=>.var T _ _ h1 (h2 h' H),hk⟩
 ·rename_i T pre m t xs post
  obtain⟨c,hk⟩:=hk.ok
  obtain⟨pre',h1,h2,_,hk⟩:=k6 (n:=n) hk
  obtain⟨post',h3,h4,_,hk⟩:=k6 (n:=n) hk
  refine⟨_,_,_,rfl,rfl,fun h' H=>.var T _ _ (by simp only[List.length_append,h1,h3]) fun i hi=>?_,hk⟩
  by_cases c1:i<(ae pre).length
  ·rw[List.append_assoc,List.append_assoc,cC (A:=ae pre) c1,cC (A:=ae pre') (by rw[←h1];exact c1)]
   exact h2 h' H i c1
  ·rw[List.append_assoc,List.append_assoc,cD (A:=ae pre) (by omega),cD (A:=ae pre') (by rw[←h1];omega),←h1]
   simp only[List.length_append] at hi
   by_cases c2:i-(ae pre).length<(xs.map (aa t)).length
   ·rw[cC c2,cC c2]
    obtain⟨e,he,hee⟩:=List.mem_map.1 (aD c2)
    rw[←hee]
    exact tf H (sT c) e
   ·rw[cD (by omega),cD (by omega)]
    exact h4 h' H _ (by omega)
 ·obtain⟨c,hk⟩:=hk.ok
  exact⟨_,_,_,rfl,rfl,fun h' H=>th H (sT c) _ _,hk⟩
 ·obtain⟨r,h1,hk⟩:=uk (n:=n) hk
  exact⟨_,_,_,rfl,rfl,fun h' H=>h1 h' _ H,hk⟩
 ·exact⟨_,_,_,rfl,rfl,fun h' H=>.froz _,hk⟩
 ·exact⟨_,_,_,rfl,rfl,fun h' H=>.fvar _,hk⟩
 ·exact⟨_,_,_,rfl,rfl,fun h' H=>.gone _,hk⟩
 ·exact⟨_,_,_,rfl,rfl,fun h' H=>.gone _,hk⟩
 ·exact hk.elim
end
end Go.Proofs.YthmfppknagbkeaaGreatDoor.Am
namespace Go.Proofs.YthmfppknagbkeaaGreatDoor.Am
open Go Go.RowKit
variable {P:Program} {N:Nat} {K:Id→Prop} {os:List Nat} {n:Nat} {h:VH} {σ:VSt}
def FC (os:List Nat)(h:VH):List Nat→Nat→(VH→Prop)→Prop
 |[],_,K=>K []
 |b::l,i,K=>cf h b fun x=>FA os h x fun y=>dt (i+1) fun j=>FC os h l j fun r=>K ((i,y)::r)
theorem xG:∀{l:List Nat} {i:Nat} {K:VH→Prop},FC os h l i K→∃hs,(∀k x,look hs k=some x→∃m,k=i+m∧m<l.length)∧
   (∀m b,l[m]?=some b→∃x y d d',look h b=some x∧look hs (i+m)=some y∧x.blks=[d]∧y.blks=[d']∧∀h',KeepOK os h h'→RnB (toH h) (gI (gN os n)) (toH h') d d')∧K hs
 |[],i,K,hk=>⟨[],(fun k x hx=>by cases hx),by simp,hk⟩
 |b::l,i,K,hk=>by
  obtain⟨x,hx,hk⟩:=aB hk
  obtain⟨y,d,d',e1,e2,e3,hk⟩:=CH (n:=n) hk
  have hk:=aP hk
  obtain⟨hs,h3,h4,hk⟩:=xG hk
  refine⟨(i,y)::hs,fun k z hz=>?_,fun m b' hm=>?_,hk⟩
  ·simp only[look] at hz
   split at hz
   ·exact⟨0,by omega,by simp⟩
   ·obtain⟨m,e1,e2⟩:=h3 k z hz
    exact⟨m+1,by omega,by simpa using e2⟩
  ·cases m with
   |zero=>
    simp only[List.getElem?_cons_zero,Option.some.injEq] at hm
    subst hm
    exact⟨x,y,d,d',hx,by simp[look],e1,e2,e3⟩
   |succ m=>
    obtain⟨z,z',f1,f2,q1,q2,q3⟩:=h4 m b' (by simpa using hm)
    refine⟨z,z',f1,f2,q1,?_,q3⟩
    simp only[look]
    rw[if_neg (by omega),show i+(m+1)=i+1+m by omega]
    exact q2
def Ev (h:VH):List Nat→(VH→Prop)→Prop
 |[],K=>K []
 |k::l,K=>match aw h k with
  |some x=>Chk (!x.sgl && EJ x.fams) (Ev h l fun r=>K ((k,x)::r))
  |none=>Ev h l K
theorem sH:∀{l:List Nat} {K:VH→Prop},Ev h l K→∃hf,(∀k x,look hf k=some x→k∈l∧look h k=some x∧x.sgl=false∧∀j∈x.fams,j<4)∧(∀k∈l,look hf k=look h k)∧K hf
 |[],K,hk=>⟨[],(fun k x hx=>by cases hx),by simp,hk⟩
 |k::l,K,hk=>by
  simp only[Ev,ax] at hk
  cases hx:look h k with
  |none=>
   rw[hx] at hk
   obtain⟨hf,h1,h2,hk⟩:=sH hk
   refine⟨hf,fun j y hy=>?_,fun j hj=>?_,hk⟩
   ·obtain⟨q1,q2⟩:=h1 j y hy
    exact⟨List.mem_cons_of_mem _ q1,q2⟩
   ·by_cases hjl:j∈l
    ·exact h2 j hjl
    ·obtain rfl:j=k:=(List.mem_cons.1 hj).resolve_right hjl
     rw[hx]
     cases hf':look hf j with
     |none=>rfl
     |some y=>exact absurd (h1 j y hf').1 hjl
  |some x=>
   rw[hx] at hk
   obtain⟨c,hk⟩:=hk.ok
   simp only[Bool.and_eq_true,Bool.not_eq_true'] at c
   obtain⟨hf,h1,h2,hk⟩:=sH hk
   refine⟨(k,x)::hf,fun j y hy=>?_,fun j hj=>?_,hk⟩
   ·simp only[look] at hy
    split at hy
    ·rename_i e
     cases hy
     subst e
     exact⟨List.mem_cons_self ..,hx,c.1,sT c.2⟩
    ·obtain⟨q1,q2⟩:=h1 j y hy
     exact⟨List.mem_cons_of_mem _ q1,q2⟩
   ·simp only[look]
    by_cases e:j=k
    ·rw[if_pos e,e,hx]
    ·rw[if_neg e]
     exact h2 j ((List.mem_cons.1 hj).resolve_left e)
theorem Bf {h':VH}(H:KeepOK os h h'){x:VB}(hs:x.sgl=false)(hf:∀j∈x.fams,j<4):∀d∈x.blks,RnB (toH h) (gI (gN os n)) (toH h') d d:=by
 intro d hd
 cases x<;>simp[VB.sgl] at hs
 ·rename_i T t xs
  obtain⟨e,_,rfl⟩:=List.mem_map.1 hd
  exact y8 H T (mD H hf e)
 ·rename_i T m t xss
  obtain⟨xs,_,rfl⟩:=List.mem_map.1 hd
  refine y8 H T fun c hc=>?_
  obtain⟨e,_,rfl⟩:=List.mem_map.1 hc
  exact tf H hf e
 ·rename_i E t xss
  obtain⟨xs,_,rfl⟩:=List.mem_map.1 hd
  exact th H hf E xs
 ·rename_i E t xss
  obtain⟨xs,_,rfl⟩:=List.mem_map.1 hd
  cases xs with
  |none=>exact .gone _
  |some xs=>exact th H hf E xs
def uO:Nat→Nat→List Nat→Bool
 |0,_,_=>true
 |m+1,i,b::l=>Nat.beq b i && uO m (i+1) l
 |_+1,_,[]=>false
theorem rt:∀{m i:Nat} {l:List Nat},uO m i l=true→∀j,j<m→l[j]?=some (i+j)
 |0,i,l,_,j,hj=>by omega
 |m+1,i,[],hp,j,hj=>by cases hp
 |m+1,i,b::l,hp,j,hj=>by
  simp only[uO,Bool.and_eq_true] at hp
  cases j with
  |zero=>simp[Nat.eq_of_beq_eq_true hp.1]
  |succ j=>
   have:=rt hp.2 j (by omega)
   rw[show i+1+j=i+(j+1) by omega] at this
   simpa using this
def KB (m:Nat)(K:Id→Prop):Prop:=∀b,K b→b.1<4+m
def yd (m:Nat)(os:List Nat)(h:VH)(n:Nat)(K:VH→Prop):Prop:=Chk (v8 os n && uO m 4 os) (Ev h [0,1,2,3] fun hf=>FC os h os 4 fun hs=>zO hf hs K)
theorem qO {m:Nat}{Q:VH→Prop}(hk:yd m os h n Q):∃h',KeepOK os h h'∧Ren (toH h) (gI (gN os n)) (toH h')∧(∀K,KB m K→∀b,K b→Live (toH h) b→gI (gN os n) b=b∧Live (toH h') b)∧(∀b:Id,4+os.length≤b.1→look (toH h') b=none)∧Q h':=by
 obtain⟨c,hk⟩:=hk.ok
 simp only[Bool.and_eq_true] at c
 obtain⟨c1,c2⟩:=c
 obtain⟨hf,f1,f2,hk⟩:=sH hk
 obtain⟨hs,s1,s2,hk⟩:=xG (n:=n) hk
 have hk:=oh hk
 have hlow:∀k x,look hf k=some x→k<4:=fun k x hx=>by
  have:=(f1 k x hx).1
  simp only[List.mem_cons,List.not_mem_nil,or_false] at this
  omega
 have hf_none:∀m,look hf (4+m)=none:=by
  intro m
  cases hl:look hf (4+m) with
  |none=>rfl
  |some y=>have:=hlow _ _ hl;omega
 have fam:∀k,k<4→look (hf++hs) k=look h k:=by
  intro k hk
  have hm:k∈[0,1,2,3]:=by
   simp only[List.mem_cons,List.not_mem_nil,or_false];omega
  rw[dM,f2 k hm]
  cases hl:look h k with
  |some x=>rfl
  |none=>
   cases hl2:look hs k with
   |none=>rfl
   |some y=>obtain⟨m,e,_⟩:=s1 k y hl2;omega
 have sgl:∀m,look (hf++hs) (4+m)=look hs (4+m):=fun m=>by rw[dM,hf_none]
 have H:KeepOK os h (hf++hs):=by
  refine⟨fun m b hb _=>?_,fun k hk i hl=>?_⟩
  ·obtain⟨x,y,d,d',q1,q2,q3,q4,q5⟩:=s2 m b hb
   exact Live.of_look (am (by rw[sgl];exact q2) (by rw[q4];rfl))
  ·unfold Live at hl⊢
   rw[al] at hl⊢
   rw[fam k hk]
   exact hl
 have cases':∀b x',look (toH (hf++hs)) b=some x'→(b.1<4∧∃x,look h b.1=some x∧look hf b.1=some x∧x.blks[b.2]?=some x')∨∃m c d,b=(4+m,0)∧os[m]?=some c∧look (toH h) (c,0)=some d∧RnB (toH h) (gI (gN os n)) (toH (hf++hs)) d x':=by
  intro b x' hx
  rw[al] at hx
  obtain⟨x,q1,q2⟩:=Option.bind_eq_some_iff.1 hx
  by_cases hb:b.1<4
  ·rw[fam _ hb] at q1
   have hm:b.1∈[0,1,2,3]:=by
    simp only[List.mem_cons,List.not_mem_nil,or_false];omega
   exact .inl ⟨hb,x,q1,by rw[f2 _ hm];exact q1,q2⟩
  ·obtain⟨m,hm⟩:∃m,b.1=4+m:=⟨b.1-4,by omega⟩
   rw[hm,sgl] at q1
   obtain⟨m',e,hlt⟩:=s1 _ _ q1
   obtain rfl:m=m':=by omega
   obtain⟨z,y,d,d',r1,r2,r3,r4,r5⟩:=s2 m os[m] (List.getElem?_eq_getElem hlt)
   rw[r2] at q1
   obtain rfl:=Option.some.inj q1
   rw[r4] at q2
   obtain⟨b1,b2⟩:=b
   simp only at hm q2
   cases b2 with
   |succ j=>simp at q2
   |zero=>
    simp only[List.getElem?_cons_zero,Option.some.injEq] at q2
    subst q2 hm
    exact .inr ⟨m,os[m],d,rfl,List.getElem?_eq_getElem hlt,am r1 (by rw[r3];rfl),r5 _ H⟩
 refine⟨hf++hs,H,⟨fun b x' hx=>?_,fun b c x y _ _ _ _ he=>xD c1 he⟩,fun K hK b hb hl=>?_,fun b hb=>?_,hk⟩
 ·rcases cases' b x' hx with⟨g1,x,g2,g3,g4⟩|⟨m,c,d,rfl,g1,g2,g3⟩
  ·refine⟨x',?_,?_⟩
   ·simp only[gI,jY os n g1]
    exact am g2 g4
   ·obtain⟨_,_,q3,q4⟩:=f1 _ _ g3
    exact Bf H q3 q4 x' (List.mem_of_getElem? g4)
  ·refine⟨d,?_,g3⟩
   simp only[gI,dD,cb g1]
   exact g2
 ·have hb4:=hK b hb
  by_cases hlt:b.1<4
  ·obtain⟨b1,b2⟩:=b
   exact⟨oR hlt b2,H.fam b1 hlt b2 hl⟩
  ·obtain⟨j,hj⟩:∃j,b.1=4+j:=⟨b.1-4,by omega⟩
   have hos:=rt c2 j (by omega)
   obtain⟨x,y,d,d',q1,q2,q3,q4,q5⟩:=s2 j _ hos
   obtain⟨b1,b2⟩:=b
   simp only at hj
   subst hj
   unfold Live at hl
   rw[al,q1] at hl
   simp only[Option.bind_some,q3] at hl
   cases b2 with
   |succ i=>simp at hl
   |zero=>
    refine⟨by simp only[gI,dD,cb hos],H.sgl j _ hos ?_⟩
    exact Live.of_look (am q1 (by rw[q3];rfl))
 ·cases hx:look (toH (hf++hs)) b with
  |none=>rfl
  |some x'=>
   exfalso
   rcases cases' b x' hx with⟨g1,_⟩|⟨m,c,d,rfl,g1,_⟩
   ·omega
   ·have:=(List.getElem?_eq_some_iff.1 g1).1
    simp only at hb
    omega
def md (h:VH)(t:VT):List Nat→(VT→Prop)→Prop
 |[],K=>K []
 |k::ts,K=>(match aw t k with
  |some v=>bO h v fun v=>md h t ts fun r=>K ((k,v)::r)
  |none=>md h t ts K)
theorem j5 {t:VT}:∀{ts:List Nat} {K:VT→Prop},md h t ts K→∃r,(∀k v',look r k=some v'→∃v,look t k=some v∧fwd (toH h) v.toD=v'.toD)∧K r
 |[],K,hk=>⟨[],(fun k v hv=>by cases hv),hk⟩
 |k::ts,K,hk=>by
  simp only[md,ax] at hk
  cases hl:look t k with
  |none=>
   rw[hl] at hk
   exact j5 hk
  |some v=>
   rw[hl] at hk
   obtain⟨v',h1,h2⟩:=gT hk
   obtain⟨r,h3,h4⟩:=j5 h2
   refine⟨(k,v')::r,fun j w hw=>?_,h4⟩
   simp only[look] at hw
   split at hw
   ·rename_i e
    cases hw
    subst e
    exact⟨v,hl,h1⟩
   ·exact h3 j w hw
def wP (os:List Nat):VT→(VT→Prop)→Prop
 |[],K=>K []
 |(k,v)::l,K=>aU os v fun v=>wP os l fun l=>K ((k,v)::l)
theorem qa:∀{l:VT} {K:VT→Prop},wP os l K→∃r,(∀k v',look r k=some v'→∃v,look l k=some v∧∀h',KeepOK os h h'→Rn (toH h) (gI (gN os n)) (toH h') v.toD v'.toD)∧K r
 |[],K,hk=>⟨[],(fun k v hv=>by cases hv),hk⟩
 |(k,v)::l,K,hk=>by
  obtain⟨v',h1,_,h2⟩:=f7 (h:=h) (n:=n) hk
  obtain⟨r,h3,h4⟩:=qa h2
  refine⟨(k,v')::r,fun j w hw=>?_,h4⟩
  simp only[look] at hw⊢
  split at hw
  ·rename_i e
   cases hw
   exact⟨v,by rw[if_pos e],h1⟩
  ·rename_i e
   rw[if_neg e]
   exact h3 j w hw
def FX (m:Nat)(ts:List Nat)(σ:VSt)(Q:VSt→Prop):Prop:=
 match σ with
 |⟨t0,h0,n0⟩=>md h0 t0 ts fun t=>oT h0 (de (List.range' 4 m) (ym h0 (BU t))) fun os=>yd m os h0 n0 fun h'=>wP os t fun t'=>dt (4+os.length) fun n=>Q ⟨t',h',n⟩
theorem CK {m:Nat}{ts:List Nat}{Q:VSt→Prop}(hK:KB m K)(h:FX m ts σ Q):∃σ',Weak P N K σ.toD σ'.toD∧Q σ':=by
 obtain⟨t,t1,h1⟩:=j5 h
 obtain⟨os,h2⟩:=l8 h1
 obtain⟨h',q1,q2,q3,q4,h3⟩:=qO h2
 obtain⟨t',t2,h4⟩:=qa (h:=σ.h) (n:=σ.n) h3
 have h5:=aP h4
 refine⟨_,zH (σ':=VSt.toD ⟨t',h',_⟩) q2 (fun k d' hd=>?_) (fun b hb hl=>q3 K hK b hb hl) q4,h5⟩
 simp only[VSt.toD,br] at hd
 obtain⟨v',hv,rfl⟩:=Option.map_eq_some_iff.1 hd
 obtain⟨v,hv1,hv2⟩:=t2 k v' hv
 obtain⟨v0,hv3,hv4⟩:=t1 k v hv1
 exact⟨v0.toD,by simp only[VSt.toD,br,hv3,Option.map_some],.fwd _ _ (by have h9:=hv2 h' q1;rw[←hv4] at h9;exact h9)⟩
end Go.Proofs.YthmfppknagbkeaaGreatDoor.Am
namespace Go.Proofs.YthmfppknagbkeaaGreatDoor.Am
open Go Go.RowKit
variable {P:Program} {N:Nat} {K:Id→Prop} {Q:Exit→VSt→Prop} {σ:VSt} {h:VH}
def rowP (h:VH):List Nat→List Nat
 |[]=>[]
 |b::l=>match aw h b with
  |some (.row _ t _)=>(match t.pure with|true=>b::rowP h l|false=>rowP h l)
  |_=>rowP h l
theorem rowP_ok:∀{l:List Nat},∀b∈rowP h l,E7 h b
 |[],b,hb=>by cases hb
 |c::l,b,hb=>by
  simp only[rowP] at hb
  split at hb
  ·rename_i E t xs hc
   rw[ax] at hc
   split at hb
   ·rename_i hp
    rcases List.mem_cons.1 hb with rfl|hb
    ·exact .inl ⟨E,t,xs,hp,hc⟩
    ·exact rowP_ok b hb
   ·exact rowP_ok b hb
  ·exact rowP_ok b hb
def Fz (h:VH)(l:List Nat)(K:VH→Prop):Prop:=cS (rowP h l) fun ws=>Fi h ws fun u=>jq u h K
theorem xC {l:List Nat}{K:VH→Prop}(hk:Fz h l K):∃h1,(∃bs,∀b,look (puts (frz (toH h) bs) (toH h)) b=look (toH h1) b)∧K h1:=by
 have h1:=aX hk
 have h2:=(tF h1).1
 have h3:=ew h2
 exact⟨_,⟨_,(zu fun b hb=>rowP_ok b hb).1.1⟩,h3⟩
theorem BG {t:VT}{n:Nat}{h1:VH}{bs:List Id}(he:∀b,look (puts (frz (toH h) bs) (toH h)) b=look (toH h1) b):Weak P N K (VSt.toD ⟨t,h,n⟩) (VSt.toD ⟨t,h1,n⟩):=
 Weak.trans (zG bs) fun _ _ _ _ _ _ hs=>hs.congr (fun _=>rfl) (fun b=>(he b).symm) rfl
def FV (t:VT)(h:VH):List Nat→List Nat
 |[]=>[]
 |k::l=>(match aw t k with
  |some (.ptr b _)=>(match aw h b with|some x=>qF x|none=>[])
  |some v=>df v
  |none=>[])++FV t h l
def DX (m:Nat)(fs ts:List Nat)(σ:VSt)(Q:VSt→Prop):Prop:=
 match σ with|⟨t0,h0,n0⟩=>Fz h0 (FV t0 h0 fs) fun h=>FX m ts ⟨t0,h,n0⟩ Q
theorem vh {m:Nat}(hK:KB m K){fs ts:List Nat}{K1:VSt→Prop}(h:DX m fs ts σ K1):∃σ',Weak P N K σ.toD σ'.toD∧K1 σ':=by
 obtain⟨t0,h0,n0⟩:=σ
 obtain⟨h1,⟨bs,he⟩,h2⟩:=xC h
 obtain⟨σ',w1,h4⟩:=CK (P:=P) (N:=N) hK h2
 exact⟨σ',Weak.trans (BG he) w1,h4⟩
theorem tP {c:Code}{σ':VSt}(hw:Weak P N K σ.toD σ'.toD)(h:At P N K c Q σ'):At P N K c Q σ:=by
 obtain⟨e,σ1,h1,h2⟩:=h
 exact⟨e,σ1,.pre hw h1,h2⟩
theorem jS {c:Code}{t:VT}{n:Nat}(k:Nat)(x:VB)(hx:x.blks=[])(ha:At P N K c Q ⟨t,h++[(k,x)],n⟩):At P N K c Q ⟨t,h,n⟩:=by
 refine tP (σ':=⟨t,h++[(k,x)],n⟩) (fun _ _ _ _ _ _ hs=>hs.congr (fun _=>rfl) (fun b=>?_) rfl) ha
 show look (toH (h++[(k,x)])) b=look (toH h) b
 rw[al,al,dM]
 cases hl:look h b.1 with
 |some y=>rfl
 |none=>
  simp only[look]
  split
  ·simp[hx]
  ·rfl
def Ed (back:VSt→Prop)(Q:Exit→VSt→Prop):Exit→VSt→Prop
 | .normal,σ=>back σ
 |e,σ=>Q e σ
theorem ah {α:Type}{c:Code}{m:Nat}(hK:KB m K)(fs ts:List Nat)(st:α→VSt)(p:α→Prop)(μ:α→Nat)(x0:α)(h0:p x0)(hg:DX m fs ts σ fun σ'=>σ'=st x0)
  (round:∀x,p x→At P N K c (Ed (fun σ'=>DX m fs ts σ' fun σ2=>∃y,p y∧μ y<μ x∧σ2=st y) Q) (st x)):At P N K (.loop c) Q σ:=by
 have key:∀n x,μ x=n→p x→∃e σ',LoopB P N K c (st x).toD e σ'.toD∧(iO P N K σ'.toD→Q e σ'):=by
  intro n
  induction n using Nat.strongRecOn with
  |_ n ih=>
   intro x hn hp
   obtain⟨e,σ1,h1,h2⟩:=round x hp
   cases e with
   |normal=>
    rcases Classical.em (iO P N K σ1.toD) with hr|hr
    ·obtain⟨σ2,w1,y,q1,q2,rfl⟩:=vh (P:=P) (N:=N) hK (h2 hr)
     obtain⟨e,σ3,h3,h4⟩:=ih (μ y) (by omega) y rfl q1
     exact⟨e,σ3,.round h1 (.pre w1 h3),h4⟩
    ·exact⟨.ret,σ1,.round h1 (.out (by simp) (eO hr _ _)),fun h=>absurd h hr⟩
   |_=>exact⟨_,σ1,.out (by simp) h1,h2⟩
 obtain⟨σ0,w0,rfl⟩:=vh (P:=P) (N:=N) hK hg
 obtain⟨e,σ1,h1,h2⟩:=key _ x0 rfl h0
 exact⟨e,σ1,.pre w0 (.loop h1),h2⟩
def yc:V→Bool
 | .ptr .. | .eptr .. | .iptr .. | .box .. | .aptr .. | .fptr .. | .feptr .. | .faptr ..=>true
 |_=>false
theorem vQ {v:V}(h:yc v=true):ch v.toD=true:=by cases v<;>first|rfl|cases h
def wh (Θ:TT)(σ:VSt):List ResultVar→(List V→Prop)→Prop
 |[],K=>K []
 | .tmp k::rs,K=>(match aw σ.t k with
  |some v=>wh Θ σ rs fun vs=>K (v::vs)
  |none=>wh Θ σ rs fun vs=>K (.undef::vs))
 | .cell k T::rs,K=>aK σ.t k fun v=>Chk (yc v) (aK Θ T fun ti=>qV ti σ.h v fun r=>wh Θ σ rs fun vs=>K (r::vs))
theorem lx {Θ:TT}(hΘ:Θ.ok P):∀{rs:List ResultVar} {K:List V→Prop},wh Θ σ rs K→∃vs,rs.mapM (mC P σ.toD)=some (ae vs)∧K vs
 |[],K,h=>⟨[],rfl,h⟩
 | .tmp k::rs,K,h=>by
  simp only[wh,ax] at h
  split at h
  ·rename_i v e
   obtain⟨vs,h1,h2⟩:=lx hΘ h
   have hr:mC P σ.toD (.tmp k)=some v.toD:=by simp only[mC,VSt.toD,br,e,Option.map_some,Option.getD_some]
   exact⟨v::vs,by simp only[List.mapM_cons,hr,h1,ae];rfl,h2⟩
  ·rename_i e
   obtain⟨vs,h1,h2⟩:=lx hΘ h
   have hr:mC P σ.toD (.tmp k)=some V.undef.toD:=by simp only[mC,VSt.toD,br,e,Option.map_none,Option.getD_none];rfl
   exact⟨.undef::vs,by simp only[List.mapM_cons,hr,h1,ae];rfl,h2⟩
 | .cell k T::rs,K,h=>by
  obtain⟨v,l1,h1⟩:=ao h
  obtain⟨c,h2⟩:=h1.ok
  obtain⟨ti,l2,h3⟩:=ao h2
  obtain⟨r,h4,h5⟩:=mh (hΘ _ _ l2) h3
  obtain⟨vs,h6,h7⟩:=lx hΘ h5
  refine⟨r::vs,?_,h7⟩
  have hr:mC P σ.toD (.cell k T)=some r.toD:=by
   simp only[mC,VSt.toD,br,l1,Option.map_some,Option.bind_some,vQ c,if_true,h4]
  simp only[List.mapM_cons,hr,h6,ae]
  rfl
def Di:List V→V
 |[v]=>v
 |vs=>.tup vs
theorem AN (vs:List V):one (ae vs)=(Di vs).toD:=by
 match vs with
 |[]=>rfl
 |[v]=>rfl
 |v::v'::vs=>rfl
theorem xB {g g':HL}(he:∀b,look g b=look g' b)(d:D):fwd g d=fwd g' d:=jX fun b _=>he b
theorem Rn.congr {h1 h2 h':HL}{g:Id→Id}(he:∀b,look h1 b=look h2 b){d d':D}(hr:Rn h1 g h' d d'):Rn h2 g h' d d':=by
 have hl:∀b,Live h2 b→Live h1 b:=fun b hb=>by unfold Live at hb⊢;rw[he];exact hb
 induction hr with
 |ref b hb=>exact .ref b fun h=>hb (hl _ h)
 |ptr b o hb=>exact .ptr b o fun h=>hb (hl _ h)
 |eptr b i o hb=>exact .eptr b i o fun h=>hb (hl _ h)
 |vref b o n hb=>exact .vref b o n fun h=>hb (hl _ h)
 |lst b l hb=>exact .lst b l (by rw[←he];exact hb)
 |box b cs hb=>exact .box b cs (by rw[←he];exact hb)
 |fwd d d' hd ih=>exact .fwd d d' (by rw[←xB he];exact ih)
 |pure d hd=>exact .pure d hd
 |nils=>exact .nils
 |iptr e o=>exact .iptr e o
 |gv k=>exact .gv k
 |agg cs cs' hl hc ih=>exact .agg cs cs' hl ih
 |tup cs cs' hl hc ih=>exact .tup cs cs' hl ih
 |clo f cs cs' hl hc ih=>exact .clo f cs cs' hl ih
 |ifc T d d' hd ih=>exact .ifc T d d' ih
 |undef d=>exact .undef d
 |junk=>exact .junk
theorem Ren.congr {h1 h2 h':HL}{g:Id→Id}(he:∀b,look h1 b=look h2 b)(hr:Ren h1 g h'):Ren h2 g h':=by
 refine⟨fun b x' hx=>?_,hr.inj⟩
 obtain⟨x,h3,h4⟩:=hr.blk b x' hx
 refine⟨x,by rw[←he];exact h3,?_⟩
 cases h4 with
 |var T cs cs' hl hc=>exact .var T cs cs' hl fun i hi=>(hc i hi).congr he
 |row E l l' hl hc=>exact .row E l l' hl fun i hi=>⟨(hc i hi).1.congr he,fun s hs=>⟨((hc i hi).2 s hs).1,fun j hj=>(((hc i hi).2 s hs).2 j hj).congr he⟩⟩
 |froz l=>exact .froz l
 |fvar cs=>exact .fvar cs
 |gone x=>exact .gone x
def z9 (Θ:TT)(rs:List ResultVar)(m:Nat)(pr:Bool)(σ:VSt)(Q:V→VH→Prop):Prop:=
 match σ with
 |⟨t0,h0,n0⟩=>wh Θ ⟨t0,h0,n0⟩ rs fun vs=>Fz h0 (match pr with|true=>df (Di vs)|false=>[]) fun h=>bO h (Di vs) fun v=>oT h (de (List.range' 4 m) (ym h (df v))) fun os=>yd m os h n0 fun hout=>aU os v fun r=>Q r hout
theorem Aa {Θ:TT}(hΘ:Θ.ok P){rs:List ResultVar}{m:Nat}(hK:KB m K){pr:Bool}{Q:V→VH→Prop}(h:z9 Θ rs m pr σ Q):∃r hout,n9 P rs K σ.toD r.toD (toH hout)∧Q r hout:=by
 obtain⟨t0,h0,n0⟩:=σ
 obtain⟨vs,r1,h1⟩:=lx hΘ h
 obtain⟨hh,⟨bs,he⟩,h2⟩:=xC h1
 obtain⟨v,f1,h3⟩:=gT h2
 obtain⟨os,h4⟩:=l8 h3
 obtain⟨hout,q1,q2,q3,q4,h5⟩:=qO h4
 obtain⟨r,b1,_,h6⟩:=f7 (h:=hh) (n:=n0) h5
 refine⟨r,hout,⟨_,bs,_,r1,?_,q2.congr fun b=>(he b).symm,fun b hb hl=>?_⟩,h6⟩
 ·refine Rn.congr (fun b=>(he b).symm) ?_
  rw[AN]
  refine .fwd _ _ ?_
  rw[f1]
  exact b1 hout q1
 ·refine q3 K hK b hb ?_
  have hl2:=jg (bs:=bs) hl
  unfold Live at hl2⊢
  rw[←he]
  exact hl2
theorem fe {l:List D}{i:Nat}(hi:i<l.length):∀b∈ag (l.getD i .undef),b∈aH l:=by
 refine eF ?_
 rw[List.getD_eq_getElem?_getD,List.getElem?_eq_getElem hi]
 exact List.getElem_mem hi
theorem nx (d:D):∀c∈d.cells,∀b∈ag c,b∈ag d:=by
 intro c hc b hb
 cases d with
 |agg cs=>simp only[ag];exact eF hc b hb
 |_=>simp only[D.cells,List.mem_singleton] at hc;subst hc;exact hb
theorem Rn.sub {h h' h2:HL}{g:Id→Id}{d d':D}(hr:Rn h g h' d d'):(∀b∈ag d',Live h' b→Live h2 b)→Rn h g h2 d d':=by
 induction hr with
 |ref b hb=>intro hs;exact .ref b fun h=>hs b (by simp[ag]) (hb h)
 |ptr b o hb=>intro hs;exact .ptr b o fun h=>hs b (by simp[ag]) (hb h)
 |eptr b i o hb=>intro hs;exact .eptr b i o fun h=>hs b (by simp[ag]) (hb h)
 |vref b o n hb=>intro hs;exact .vref b o n fun h=>hs b (by simp[ag]) (hb h)
 |lst b l hb=>intro _;exact .lst b l hb
 |box b cs hb=>intro _;exact .box b cs hb
 |fwd d d' hd ih=>intro hs;exact .fwd d d' (ih hs)
 |pure d hd=>intro _;exact .pure d hd
 |nils=>intro _;exact .nils
 |iptr e o=>intro _;exact .iptr e o
 |gv k=>intro _;exact .gv k
 |agg cs cs' hl hc ih=>intro hs;exact .agg cs cs' hl fun i hi=>ih i hi fun b hb=>hs b (by simp only[ag];exact fe (by omega) b hb)
 |tup cs cs' hl hc ih=>intro hs;exact .tup cs cs' hl fun i hi=>ih i hi fun b hb=>hs b (by simp only[ag];exact fe (by omega) b hb)
 |clo f cs cs' hl hc ih=>intro hs;exact .clo f cs cs' hl fun i hi=>ih i hi fun b hb=>hs b (by simp only[ag];exact fe (by omega) b hb)
 |ifc T d d' hd ih=>intro hs;exact .ifc T d d' (ih fun b hb=>hs b (by simpa only[ag] using hb))
 |undef d=>intro _;exact .undef d
 |junk=>intro _;exact .junk
def zP:Blk→List Id
 | .var _ cs=>aH cs
 | .row _ l=>aH l
 |_=>[]
theorem RnB.sub {h h' h2:HL}{g:Id→Id}{x x':Blk}(hr:RnB h g h' x x')(hs:∀b∈zP x',Live h' b→Live h2 b):RnB h g h2 x x':=by
 cases hr with
 |var T cs cs' hl hc=>exact .var T cs cs' hl fun i hi=>(hc i hi).sub fun b hb=>hs b (fe (by omega) b hb)
 |row E l l' hl hc=>
  refine .row E l l' hl fun i hi=>⟨(hc i hi).1.sub fun b hb=>hs b (fe (by omega) b hb),fun s hw=>⟨((hc i hi).2 s hw).1,fun j hj=>(((hc i hi).2 s hw).2 j hj).sub fun b hb=>hs b (fe (i:=i) (by omega) b ?_)⟩⟩
  have hw2:=((hc i hi).2 s hw).1
  have hj2:j<(l'.getD i .undef).cells.length:=by rw[hw2.1];exact hj
  refine nx _ ((l'.getD i .undef).cells.getD j .undef) ?_ b hb
  rw[List.getD_eq_getElem?_getD (l:=(l'.getD i .undef).cells),List.getElem?_eq_getElem hj2]
  exact List.getElem_mem _
 |froz l=>exact .froz l
 |fvar cs=>exact .fvar cs
 |gone x=>exact .gone x
theorem ua (t:Ty)(x:t.den):∀b∈ag (aa t x),b.1∈t.fams:=by
 have hh:∀(k:Nat) (o:Option Nat),∀b∈ag (gY k o),b.1=k:=fun k o b hb=>by
  cases o with
  |none=>cases hb
  |some i=>simp only[gY,ag,List.mem_singleton] at hb;rw[hb]
 intro b hb
 cases t
 case hr k=>simp only[aa] at hb;simp[Ty.fams,hh _ _ b hb]
 case hp k=>
  cases x with
  |none=>cases hb
  |some i=>simp only[aa,kD,ag,List.mem_singleton] at hb;rw[hb];simp[Ty.fams]
 case vtxo k=>simp only[aa,ag,aH,List.nil_append,List.append_nil] at hb;simp[Ty.fams,hh _ _ b hb]
 case pplm k=>simp only[aa,dZ,cO,List.cons_append,ag,aH,List.nil_append,List.append_nil] at hb;simp[Ty.fams,hh _ _ b hb]
 case pplo k k'=>
  simp only[aa,ag,aH,List.nil_append,List.append_nil,List.mem_append] at hb
  rcases hb with hb|hb<;>simp[Ty.fams,hh _ _ b hb]
 case evto k=>simp only[aa,ag,aH,List.nil_append,List.append_nil] at hb;simp[Ty.fams,hh _ _ b hb]
 case nod k=>simp only[aa,dZ,cO,List.cons_append,ag,aH,List.nil_append,List.append_nil] at hb;simp[Ty.fams,hh _ _ b hb]
 case ob t=>cases x<;>cases hb
 all_goals cases hb
theorem f9 (t:Ty)(xs:List t.den):∀b∈aH (xs.map (aa t)),b.1∈t.fams:=by
 intro b hb
 rw[dm,List.mem_flatMap] at hb
 obtain⟨d,hd,hb⟩:=hb
 obtain⟨x,_,rfl⟩:=List.mem_map.1 hd
 exact ua t x b hb
theorem pW {l m:List D}{b:Id}:b∈aH (l++m)↔b∈aH l∨b∈aH m:=by simp[dm]
theorem DR (y:VB):∀d∈y.blks,∀b∈zP d,b.1∈qF y++y.fams:=by
 intro d hd b hb
 rw[List.mem_append]
 cases y with
 |var T cs=>simp only[VB.blks,List.mem_singleton] at hd;subst hd;exact .inl (bT cs b hb)
 |vari T pre m t xs post=>
  simp only[VB.blks,List.mem_singleton] at hd
  subst hd
  simp only[zP,pW] at hb
  rcases hb with(hb|hb)|hb
  ·exact .inl (List.mem_append_left _ (bT _ b hb))
  ·exact .inr (f9 t xs b hb)
  ·exact .inl (List.mem_append_right _ (bT _ b hb))
 |row E t xs=>simp only[VB.blks,List.mem_singleton] at hd;subst hd;exact .inr (f9 t xs b hb)
 |lit E vs=>simp only[VB.blks,List.mem_singleton] at hd;subst hd;exact .inl (bT vs b hb)
 |fvar T t xs=>
  obtain⟨x,_,rfl⟩:=List.mem_map.1 hd
  simp only[zP,dm,List.mem_flatMap] at hb
  obtain⟨c,hc,hb⟩:=hb
  exact .inr (ua t x b (nx _ c hc b hb))
 |fvari T m t xss=>obtain⟨xs,_,rfl⟩:=List.mem_map.1 hd;exact .inr (f9 t xs b hb)
 |frow E t xss=>obtain⟨xs,_,rfl⟩:=List.mem_map.1 hd;exact .inr (f9 t xs b hb)
 |frowx E t xss=>
  obtain⟨xs,_,rfl⟩:=List.mem_map.1 hd
  cases xs with
  |none=>cases hb
  |some xs=>exact .inr (f9 t xs b hb)
 |froz t xs=>simp only[VB.blks,List.mem_singleton] at hd;subst hd;cases hb
 |fvb t x=>simp only[VB.blks,List.mem_singleton] at hd;subst hd;cases hb
 |moved k i=>simp only[VB.blks,List.mem_singleton] at hd;subst hd;cases hb
 |gone=>simp only[VB.blks,List.mem_singleton] at hd;subst hd;cases hb
def xS:VH→Bool
 |[]=>false
 |(k,_)::l=>Nat.blt k 4||xS l
def BZ (S:List Nat)(j:Nat):Bool:=Nat.ble 4 j||S.contains j
def AE (S l:List Nat):Bool:=l.all (BZ S)
def uL (h:VH)(S:List Nat):List Nat:=h.flatMap fun p=>match BZ S p.1 with|true=>(qF p.2++p.2.fams).filter fun k=>Nat.blt k 4|false=>[]
def yB (S fs0:List Nat)(r:V)(h:VH):Bool:=AE S fs0 && AE S (df r) && h.all fun p=>!BZ S p.1||AE S (qF p.2++p.2.fams)
def qx (S:List Nat):VH→(VH→Prop)→Prop
 |[],K=>K []
 |(j,x)::l,K=>match BZ S j with
  |true=>qx S l fun r=>K ((j,x)::r)
  |false=>qx S l K
theorem lX {S:List Nat}:∀{l:VH} {K:VH→Prop},qx S l K→∃l',(∀j,look l' j=if BZ S j=true then look l j else none)∧K l'
 |[],K,h=>⟨[],fun j=>by simp[look],h⟩
 |(k,x)::l,K,h=>by
  simp only[qx] at h
  split at h
  ·rename_i e
   obtain⟨l',h1,h2⟩:=lX (l:=l) h
   refine⟨_,fun j=>?_,h2⟩
   simp only[look,h1]
   by_cases ej:j=k
   ·subst ej;simp[e]
   ·simp[ej]
  ·rename_i e
   obtain⟨l',h1,h2⟩:=lX (l:=l) h
   refine⟨_,fun j=>?_,h2⟩
   simp only[look,h1]
   by_cases ej:j=k
   ·subst ej;simp[e]
   ·simp[ej]
def qi (fs0:List Nat)(r:V)(h:VH)(K:VH→Prop):Prop:=
 match xS h with
 |false=>K h
 |true=>cS (de [] (fs0++(df r).filter fun k=>Nat.blt k 4)) fun S=>cS (de S (uL h S)) fun S=>cS (de S (uL h S)) fun S=>cS (de S (uL h S)) fun S=>Chk (yB S fs0 r h) (qx S h K)
theorem xk {fs0:List Nat}{r:V}{rs:List ResultVar}{σ:VSt}{K:Id→Prop}(hK:∀b,K b→b.1<4→b.1∈fs0){h:VH}{Q:VH→Prop}(hr:n9 P rs K σ.toD r.toD (toH h))(hk:qi fs0 r h Q):∃h',n9 P rs K σ.toD r.toD (toH h')∧Q h':=by
 unfold qi at hk
 split at hk
 ·exact⟨h,hr,hk⟩
 ·have hk:=aX (aX (aX (aX hk)))
  obtain⟨c,hk⟩:=hk.ok
  generalize de _ (uL h _)=S at *
  simp only[yB,AE,Bool.and_eq_true,List.all_eq_true,Bool.or_eq_true,Bool.not_eq_true'] at c
  obtain⟨⟨c1,c2⟩,c3⟩:=c
  obtain⟨h',h1,h2⟩:=lX hk
  refine⟨h',?_,h2⟩
  have hl:∀b:Id,look (toH h') b=if BZ S b.1=true then look (toH h) b else none:=by
   intro b
   rw[al,al,h1]
   split<;>rfl
  have hlv:∀b:Id,BZ S b.1=true→Live (toH h) b→Live (toH h') b:=by
   intro b hb hv
   unfold Live at hv⊢
   rw[hl,if_pos hb]
   exact hv
  obtain⟨ds,bs,g,r1,r2,r3,r4⟩:=hr
  refine⟨ds,bs,g,r1,r2.sub fun b hb=>hlv b (c2 _ (fh r b hb)),⟨fun b x' hx=>?_,fun b b2 x y hx hy=>?_⟩,fun b hb hv=>?_⟩
  ·rw[hl] at hx
   split at hx
   ·rename_i e
    obtain⟨x,q1,q2⟩:=r3.blk b x' hx
    refine⟨x,q1,q2.sub fun b2 hb2=>hlv b2 ?_⟩
    rw[al] at hx
    obtain⟨y,hy1,hy2⟩:=Option.bind_eq_some_iff.1 hx
    rcases c3 _ (bH hy1) with h0|h0
    ·simp only at h0;rw[e] at h0;cases h0
    ·exact h0 _ (DR y x' (List.mem_of_getElem? hy2) b2 hb2)
   ·cases hx
  ·rw[hl] at hx hy
   split at hx
   ·split at hy
    ·exact r3.inj b b2 x y hx hy
    ·cases hy
   ·cases hx
  ·obtain⟨q1,q2⟩:=r4 b hb hv
   refine⟨q1,hlv b ?_ q2⟩
   rcases Nat.lt_or_ge b.1 4 with hlt|hge
   ·exact c1 _ (hK b hb hlt)
   ·have:Nat.ble 4 b.1=true:=by rw[Nat.ble_eq];exact hge
    simp[BZ,this]
def oK (h:VH):List Nat:=(keysV h).filter fun k=>Nat.blt k 4
def Eu (Q:VSt→Prop):Exit→VSt→Prop
 | .normal,σ=>Q σ
 | .ret,σ=>Q σ
 |_,_=>False
def af:List V→Nat→VT
 |[],_=>[]
 |v::l,k=>(k,v)::af l (k+1)
theorem pZ:∀(l:List V) (k:Nat),((ae l).zipIdx k).map (fun x=>(x.2,x.1))=dA (af l k)
 |[],k=>rfl
 |v::l,k=>by simp[ae,List.zipIdx_cons,af,pZ l (k+1),dA]
theorem vF {hin:VH}{n0:Nat}(hl:vT n0 hin=true):∀b:Id,n0≤b.1→look (toH hin) b=none:=by
 intro b hb
 rw[al]
 cases hx:look hin b.1 with
 |none=>rfl
 |some x=>
  have:=o8 hl b.1 (List.mem_map.2 ⟨_,bH hx,rfl⟩)
  omega
theorem wY {Θ : TT} (hΘ : Θ.ok P) {f : FuncId} {fn : Func} {c : Code} (hf : P.funcs[f]? = some fn) (hb : fn.body = some c) (hname : (fn.name == "runtime.NumGoroutine") = false) (pr : Bool) {vs : List V} {hin : VH} (m n0 : Nat) (hn0 : 4 + m = n0) (hlt : vT n0 hin = true) (hnd : gt (keysV hin) = true) (hl : Nat.ble vs.length fn.ntmps = true)
  {R:V→VH→Prop} {r0:V} {hout0:VH} (h0:R r0 hout0)
  (h:∀K,KB m K→(∀d∈ae vs,bnd 6 d)→(∀x∈hin,∀d∈x.2.blks,bndB 6 d)→At P fn.ntmps K c (Eu fun σ=>z9 Θ fn.results.toList m pr σ fun r hout=>qi (oK hin) r hout (R r)) ⟨af vs 0,hin,n0⟩):∃r hout,R r hout∧aj P f vs hin r hout:=by
 have hlen:(ae vs).length≤fn.ntmps:=by rw[ap];exact Nat.le_of_ble_eq_true hl
 have e1:wK (ae vs)=dA (af vs 0):=pZ vs 0
 have hfr:=vF hlt
 have hK:KB m (Live (toH hin)):=by
  intro b hb
  rcases Nat.lt_or_ge b.1 (4+m) with hlt|hge
  ·exact hlt
  ·unfold Live at hb
   rw[hfr b (by omega)] at hb
   cases hb
 have hbnd:(∀b x,look (toH hin) b=some x→bndB 6 x)→∀x∈hin,∀d∈x.2.blks,bndB 6 d:=by
  rintro hq ⟨k,x⟩ hx d hd
  obtain⟨i,hi⟩:=List.getElem?_of_mem hd
  exact hq (k,i) d (am (eq (by rw[dK];exact fo hnd) hx) hi)
 rcases Classical.em ((∀d∈ae vs,bnd 6 d)∧∀b x,look (toH hin) b=some x→bndB 6 x) with hbb|hbb
 ·obtain⟨e,σ',h1,h2⟩:=h _ hK hbb.1 (hbnd hbb.2)
  rcases Classical.em (iO P fn.ntmps (Live (toH hin)) σ'.toD) with hr|hr
  ·have h3:=h2 hr
   have hfin:(e= .normal∨e= .ret)∧z9 Θ fn.results.toList m pr σ' fun r hout=>qi (oK hin) r hout (R r):=by
    cases e with
    |normal=>exact⟨.inl rfl,h3⟩
    |ret=>exact⟨.inr rfl,h3⟩
    |_=>exact h3.elim
   obtain⟨r,hout1,q1,q2⟩:=Aa hΘ hK hfin.2
   obtain⟨hout,q1,q2⟩:=xk (fun b hb hlt=>by
    unfold Live at hb
    rw[al] at hb
    obtain⟨d,hd⟩:=Option.isSome_iff_exists.1 hb
    obtain⟨y,hy,-⟩:=Option.bind_eq_some_iff.1 hd
    simp only[oK,List.mem_filter]
    exact⟨by rw[←dK];exact List.mem_map.2 ⟨_,bH hy,rfl⟩,by simpa[Nat.blt_eq] using hlt⟩) q1 q2
   refine⟨r,hout,q2,su hf hb hname rfl rfl hlen hfr fun _ _=>⟨e,σ'.toD,?_,fun _=>⟨hfin.1,q1⟩⟩⟩
   rw[e1]
   exact h1
  ·refine⟨r0,hout0,h0,su hf hb hname rfl rfl hlen hfr fun _ _=>⟨e,σ'.toD,?_,fun h=>absurd h hr⟩⟩
   rw[e1]
   exact h1
 ·exact⟨r0,hout0,h0,su hf hb hname rfl rfl hlen hfr fun b1 b2=>absurd ⟨b1,b2⟩ hbb⟩
theorem ab {Θ : TT} (hΘ : Θ.ok P) {f : FuncId} {fn : Func} {c : Code} (hf : P.funcs[f]? = some fn) (hb : fn.body = some c) (hname : (fn.name == "runtime.NumGoroutine") = false) (pr : Bool) {vs : List V} {hin : VH} (m n0 : Nat) (hn0 : 4 + m = n0) (hlt : vT n0 hin = true) (hnd : gt (keysV hin) = true) (hl : Nat.ble vs.length fn.ntmps = true) {r : V} {hout : VH}
  (h:∀K,KB m K→(∀d∈ae vs,bnd 6 d)→(∀x∈hin,∀d∈x.2.blks,bndB 6 d)→At P fn.ntmps K c (Eu fun σ=>z9 Θ fn.results.toList m pr σ fun r' hout'=>qi (oK hin) r' hout' fun hout'=>r'=r∧hout'=hout) ⟨af vs 0,hin,n0⟩):aj P f vs hin r hout:=by
 obtain⟨r',hout',⟨rfl,rfl⟩,h2⟩:=wY hΘ hf hb hname pr m n0 hn0 hlt hnd hl (R:=fun r' hout'=>r'=r∧hout'=hout) ⟨rfl,rfl⟩ h
 exact h2
end Go.Proofs.YthmfppknagbkeaaGreatDoor.Am
namespace Go.Proofs.YthmfppknagbkeaaGreatDoor.Am
open Go Go.RowKit Go.ChangeShapes Go.WideShapes Go.ChangeAt
section
variable {H:Type} {enc:TypeId×Value→H} {P:Program}
theorem ta {f:Func}{s:ChangeSpec}{apart fresh handsOn again:Bool}{W W':World}{args:Array Value}{v:Value}{ds gs:List (DataW H)}{before pa pv:List MemPlace}
  (hW:DataW.Whole enc P f.params.toList s.vars apart W args.toList ds gs before)
  (hres:∀(b:Nat) (sp:Nat→Bool) (hd:Bool),DataW.TrodAll enc P W' b sp hd f.resultTypes.toList (v.resultList f.resultTypes.size) (s.fn H (ds++gs)).results [])
  (hargs:∀sp:Nat→Bool,(∀p∈before,sp p.block=true)→DataW.TrodAll enc P W' 0 sp true f.params.toList args.toList (s.fn H (ds++gs)).args pa)
  (hvars:∀sp:Nat→Bool,(∀p∈before,sp p.block=true)→DataW.TrodVars enc P W' sp s.vars (s.fn H (ds++gs)).vars pv)
  (hps:before=pa++pv) (hb:Below W.heap.size W W')
  (hok:∀(j:Nat) (t:TypeId) (r:Value),f.resultTypes[j]?=some t→(v.resultList f.resultTypes.size)[j]?=some r→Value.okWide P W' .any 0 t r):
  s.post enc P f apart fresh handsOn again W args v W':=by
 have hlt:∀p∈before,p.block<W.heap.size:=fun p hp=>hW.lt p hp
 have hold:∀p∈before,(fun b=>decide (b<W.heap.size)) p.block=true:=fun p hp=>by simpa using hlt p hp
 refine⟨ds,gs,before,[],pa,pv,hW,hres _ _ _,hargs _ hold,hvars _ hold,World.keptBut_mono (fun p hp=>⟨hp,?_⟩) (hb.frame (· ∈before)),fun _=>?_⟩
 ·rw[hps,List.mem_append] at hp
  exact Or.inr hp
 ·obtain⟨_,_,_,_,_,hz,hn⟩:=hW
  refine⟨hok,_,_,([]++pa)++pv,⟨[]++pa,pv,trodAll_append (hargs _ (fun _ _=>rfl)) (hres _ _ _),hvars _ (fun _ _=>rfl),rfl,?_,?_⟩,?_⟩
  ·intro b off hp
   have hin:MemPlace.cell b off∈before:=by rw[hps];simpa using hp
   rw[hb.frozen (hlt _ hin)]
   exact hz b off hin
  ·intro ha
   have:=hn ha
   rw[hps] at this
   simpa using this
  ·intro p hp _
   rw[hps]
   simpa using hp
end
theorem vS {P:Program}{f:FuncId}{vs:List V}(h:aj P f vs [] (.bool true) []){w:World}{args:Array Value}(hl:(ae vs).length=args.size)
  (hr:∀i,i<(ae vs).length→Rep (fun k=>k<w.heap.size) w ((ae vs).getD i .undef) (args.getD i undef))
  (hg:∀g x,look Gl g=some x→g<w.heap.size∧∃ad,w.cell? ⟨g,0,none⟩=some (.iface x.1 (.pointer (some ad))):=by intro g x h;cases h):
  Calls P f args w fun e w'=>e= .returned (.bool true)∧Below w.heap.size w w':=by
 have hno:∀k,¬vN (fun _=>⟨0,0,0,0⟩) (toH []) k:=by
  rintro k ⟨b,x,hb,-⟩
  cases hb
 have hs:Sim P w (vN (fun _=>⟨0,0,0,0⟩) (toH [])) (fun _=>True) 0 (fun _=>⟨0,0,0,0⟩) [] (toH []) iH w:=by
  refine⟨fun _ _=>trivial,fun _ _=>trivial,Fr.refl _ _,rfl,rfl,?_,?_,?_,?_,?_⟩
  ·intro k d hk;cases hk
  ·intro b x hx;cases hx
  ·intro b x hx;cases hx
  ·intro b b' x x' hx;cases hx
  ·intro g x hx
   exact⟨⟨trivial,hno g,(hg g x hx).1⟩,(hg g x hx).2⟩
 refine(h.2 w (fun _=>True) (fun _=>⟨0,0,0,0⟩) args hs hl fun i hi=>.pure ((hr i hi).mono fun b hb=>⟨⟨⟨hb,trivial⟩,fun b x hx=>by cases hx⟩,rfl⟩)).mono fun e w' he=>?_
 obtain⟨u,ρ',rfl,-,hs',hc⟩:=he
 refine⟨by rw[hc.bool_inv],⟨hs'.fr.os,hs'.fr.tape,hs'.fr.output,hs'.fr.size,fun k hk=>hs'.fr.block k hk (hno k)⟩⟩
theorem iT {w:World}{a:Addr}{v:Value}(h:w.cell? a=some v):a.block<w.heap.size:=by
 rcases Nat.lt_or_ge a.block w.heap.size with hl|hl
 ·exact hl
 ·have:w.heap[a.block]?=none:=by simp[hl]
  simp[World.cell?,this] at h
theorem Bd {w:World}{l:List D}{a:Addr}{n cap:Nat}{g:Nat→Value}(hn:l.length=n)(hcap:n≤cap)(hmax:cap≤maxLen)(hl:∀e∈l,e.cells=[e]∧e.pure0=true)
  (hc:∀i,i<n→w.cell? (a.add i)=some (g i)) (hr:∀i,i<n→Rep (fun k=>k<w.heap.size) w (l.getD i .undef) (g i)):Rep (fun k=>k<w.heap.size) w (.lst l) (.slice (some a) n cap):=by
 cases l with
 |nil=>
  simp only[List.length_nil] at hn
  subst hn
  exact .none _ _ (fun h=>by cases h) hmax
 |cons x l=>
  have hp:0<n:=by rw[←hn];simp
  have hsz:szl (x::l)=1:=by show x.cells.length=1;rw[(hl x (List.mem_cons_self ..)).1];rfl
  obtain⟨b,off,spot⟩:=a
  have hspot:spot=none:=by simpa[Addr.add] using World.cell?_spot (hc 0 hp)
  subst hspot
  have h0:=iT (hc 0 hp)
  refine .lst _ n b off cap (fun i _=>g i) hn hcap hmax h0 ?_ (by rw[hsz];omega) ?_ ?_
  ·intro e he
   rw[hsz]
   exact⟨by rw[(hl e he).1];rfl,by rw[(hl e he).1];simp[(hl e he).2]⟩
  ·intro i j hi hj
   rw[hsz] at hj⊢
   obtain rfl:j=0:=by omega
   have:=hc i hi
   rw[Go.WideShapes.add_plain] at this
   rw[Nat.mul_one,Nat.add_zero]
   exact this
  ·intro i j hi hj
   rw[hsz] at hj
   obtain rfl:j=0:=by omega
   have hi':i<(x::l).length:=by omega
   have e:(x::l).getD i .undef=(x::l)[i]:=by simp[List.getD_eq_getElem?_getD,List.getElem?_eq_getElem hi']
   have h1:=(hl _ (List.getElem_mem hi')).1
   have h2:=hr i hi
   rw[e] at h2⊢
   rw[h1]
   exact h2
theorem fJ {H:Type}{enc:TypeId×Value→H}{P:Program}{W:World}{sp:Nat→Bool}{hd:Bool}{t e:TypeId}{k:IntKind}{cs:List Value}{fuel:Nat}{x:DataW H×List MemPlace}(ht:P.underlying t=some (.slice e))(he:P.underlying e=some (.int k))(hc:P.cellsOf e=1)
  (h:DataW.trod enc P W 0 sp hd fuel t cs=some x):∃(c:List Int) (v:Value),cs=[v]∧Rep (fun b=>b<W.heap.size) W (.lst (c.map (.int k))) v:=by
 rcases open_ints ht he hc h with⟨h1,-⟩|⟨a,len,cap,zs,h1,h2,h3,h4,h5,-,h6,h7⟩
 ·exact⟨[],_,h1,.none _ _ (fun _=>rfl) (Nat.zero_le _)⟩
 ·have hle:len≤zs.length:=by rw[h5];split<;>omega
  have hlen:(zs.take len).length=len:=by rw[List.length_take];omega
  refine⟨zs.take len,_,h1,?_⟩
  refine Bd (g:=fun i=>.int k (zs.getD i 0)) (by rw[List.length_map,hlen]) h3 h4 ?_ (fun i hi=>h6 i (by omega)) ?_
  ·intro e he
   obtain⟨z,_,rfl⟩:=List.mem_map.1 he
   exact⟨rfl,rfl⟩
  ·intro i hi
   have e1:((zs.take len).map (D.int k)).getD i .undef= .int k (zs.getD i 0):=by
    have hi2:i<zs.length:=by omega
    simp[List.getD_eq_getElem?_getD,List.getElem?_map,List.getElem?_take,hi,List.getElem?_eq_getElem hi2]
   rw[e1]
   exact .int _ _
theorem hX {H:Type}{enc:TypeId×Value→H}{P:Program}{W:World}{sp:Nat→Bool}{hd:Bool}{t:TypeId}{k:IntKind}{v:Value}{fuel:Nat}{x:DataW H×List MemPlace}(ht:P.underlying t=some (.int k))(h:DataW.trod enc P W 0 sp hd fuel t [v]=some x):∃n,v= .int k n:=by
 obtain⟨n,h1,-,-⟩:=DataW.trod_int ht h
 simp only[List.cons.injEq,and_true] at h1
 exact⟨n,h1⟩
theorem Br {H:Type}{enc:TypeId×Value→H}{P:Program}{W:World}{sp:Nat→Bool}{hd:Bool}{t:TypeId}{fs:Array Field}{v:Value}{d:DataW H}{p:List MemPlace}{base:Nat}(ht:P.underlying t=some (.struct fs))(hs:P.cellsOf t=fs.size)(hf:(fs.toList.zipIdx.all fun q=>q.1.offset==q.2 && P.cellsOf q.1.type==1)=true)
  (hv:Value.okWide P W .any base t v) (h:DataW.Trod enc P W 0 sp hd t v d p):∃vs:Array Value,v= .agg vs∧vs.size=fs.size∧∀(i:Nat) (f:Field),fs[i]?=some f→∃fuel y,DataW.trod enc P W 0 sp hd fuel f.type [vs.getD i undef]=some y:=by
 obtain⟨vs,rfl,hsz⟩:=okWide_struct ht hv
 obtain⟨fuel,h⟩:=h
 obtain⟨xs,n,-,-,-,hl,hx⟩:=DataW.trod_struct ht h
 refine⟨vs,rfl,by omega,fun i f hi=>?_⟩
 have hi':=(Array.getElem?_eq_some_iff.1 hi).1
 have h1:=hx i f hi
 rw[List.all_eq_true] at hf
 have h2:=hf (f,i) (List.mem_zipIdx_iff_getElem?.2 (by simpa using hi))
 simp only[Bool.and_eq_true,beq_iff_eq] at h2
 have hvi:i<vs.size:=by omega
 refine⟨n,xs[i],?_⟩
 have e:((Value.agg vs).cells.toList.drop f.offset).take (P.cellsOf f.type)=[vs.getD i undef]:=by
  rw[h2.1,h2.2]
  show (vs.toList.drop i).take 1=_
  rw[List.drop_eq_getElem_cons (by simpa using hvi)]
  simp[Array.getD_eq_getD_getElem?,hvi]
 rw[←e,h1,List.getElem?_eq_getElem (by omega)]
theorem Bb {ok:Nat→Prop}{W:World}{ds:List D}{vs:Array Value}(hl:ds.length=vs.size)(h:∀i,i<ds.length→Rep ok W (ds.getD i .undef) (vs.getD i undef)):Rep ok W (.agg ds) (.agg vs):=.agg ds vs hl h
def tG (W:World)(T:Ty)(x:T.den)(cs:List Value):Prop:=cs.length=T.sz∧∀j,j<T.sz→Rep (fun k=>k<W.heap.size) W ((aa T x).cells.getD j .undef) (cs.getD j undef)
theorem uy {α:Type}{p:Nat→α→Prop}:∀n,(∀i,i<n→∃d,p i d)→∃l:List α,l.length=n∧∀i (h:i<l.length),p i l[i]
 |0,_=>⟨[],rfl,fun i h=>absurd h (Nat.not_lt_zero i)⟩
 |n+1,h=>by
  obtain⟨l,hl,hp⟩:=uy n fun i hi=>h i (by omega)
  obtain⟨d,hd⟩:=h n (by omega)
  refine⟨l++[d],by simp[hl],fun i hi=>?_⟩
  rcases Nat.lt_or_ge i l.length with hlt|hge
  ·rw[List.getElem_append_left hlt]
   exact hp i hlt
  ·obtain rfl:i=l.length:=by simp at hi;omega
   rw[List.getElem_append_right (Nat.le_refl _)]
   simpa[hl] using hd
theorem row_cells {H:Type}{enc:TypeId×Value→H}{P:Program}{W:World}{sp:Nat→Bool}{hd:Bool}{t e:TypeId}{T:Ty}{cs:List Value}{fuel:Nat}{x:DataW H×List MemPlace}(hp:T.pure=true)(ht:P.underlying t=some (.slice e))(hc:P.cellsOf e=T.sz)
  (hel:∀fuel cs x,DataW.trod enc P W 0 sp hd fuel e cs=some x→∃d,tG W T d cs) (h:DataW.trod enc P W 0 sp hd fuel t cs=some x):∃(l:List T.den) (v:Value),cs=[v]∧Rep (fun b=>b<W.heap.size) W (V.lst T l).toD v:=by
 rcases DataW.trod_slice ht h with⟨h1,-⟩|⟨a,len,cap,elems,rest,n,-,h1,-,-,hl,hm,hlen,hel2,-,-⟩
 ·exact⟨[],_,h1,.none _ _ (fun _=>rfl) (Nat.zero_le _)⟩
 ·have each:∀i,i<len→∃d:T.den,∃cs',W.cells? 0 (a.add (i*T.sz)) T.sz=some cs'∧tG W T d cs':=by
   intro i hi
   have h2:=hel2 i hi
   rw[List.getElem?_eq_getElem (by omega),hc,Option.bind_eq_some_iff] at h2
   obtain⟨cs',h3,h4⟩:=h2
   obtain⟨d,hd⟩:=hel _ _ _ h4
   exact⟨d,cs',h3,hd⟩
  obtain⟨l,hll,hlp⟩:=uy len each
  refine⟨l,_,h1,?_⟩
  show Rep _ W (.lst (l.map (aa T))) _
  by_cases hz:l=[]
  ·subst hz
   subst hll
   exact .none _ _ (fun h=>by cases h) hm
  ·have hpos:0<l.length:=List.length_pos_iff.2 hz
   have hsz:szl (l.map (aa T))=T.sz:=by
    cases l with
    |nil=>exact absurd rfl hz
    |cons y l=>exact(cK T y).1
   have cell:∀i j,i<l.length→j<T.sz→∃v,W.cell? ((a.add (i*T.sz)).add j)=some v∧Rep (fun k=>k<W.heap.size) W ((aa T (l[i]?.getD (l[0]'hpos))).cells.getD j .undef) v:=by
    intro i j hi hj
    obtain⟨cs',h3,h4,h5⟩:=hlp i hi
    have h6:=(World.cells?_some h3).2.2 j hj
    have hj':j<cs'.length:=by omega
    refine⟨cs'[j],by rw[h6,List.getElem?_eq_getElem hj'],?_⟩
    have:=h5 j hj
    rw[List.getElem?_eq_getElem hi]
    simp only[List.getD_eq_getElem?_getD (l:=cs'),List.getElem?_eq_getElem hj',Option.getD_some] at this
    exact this
   obtain⟨b,off,spot⟩:=a
   obtain⟨v0,hv0,-⟩:=cell 0 0 hpos T.sz_pos
   have hspot:spot=none:=by simpa[Addr.add] using World.cell?_spot hv0
   subst hspot
   have hb:=iT hv0
   refine .lst _ len b off cap (fun i j=>(W.cell? ⟨b,off+i*T.sz+j,none⟩).getD undef) (by simpa using hll) hl hm (by simpa[Addr.add] using hb) ?_ (by rw[hsz];exact T.sz_pos) ?_ ?_
   ·intro e he
    obtain⟨y,-,rfl⟩:=List.mem_map.1 he
    rw[hsz]
    exact e9 hp y
   ·intro i j hi hj
    rw[hsz] at hj⊢
    obtain⟨v,hv,-⟩:=cell i j (by omega) hj
    rw[Go.WideShapes.add_plain,Go.WideShapes.add_plain] at hv
    rw[hv]
    rfl
   ·intro i j hi hj
    rw[hsz] at hj
    obtain⟨v,hv,hr⟩:=cell i j (by omega) hj
    rw[Go.WideShapes.add_plain,Go.WideShapes.add_plain] at hv
    rw[hv]
    have e:(l.map (aa T)).getD i .undef=aa T (l[i]?.getD (l[0]'hpos)):=by
     have:i<l.length:=by omega
     simp[List.getD_eq_getElem?_getD,List.getElem?_eq_getElem this]
    rw[e]
    exact hr
theorem pu {H:Type}{enc:TypeId×Value→H}{P:Program}{W:World}{sp:Nat→Bool}{hd:Bool}{t:TypeId}{fs:Array Field}{cs:List Value}{fuel:Nat}{x:DataW H×List MemPlace}(ht:P.underlying t=some (.struct fs))(hs:P.cellsOf t=fs.size)(hf:(fs.toList.zipIdx.all fun q=>q.1.offset==q.2 && P.cellsOf q.1.type==1)=true)
  (h:DataW.trod enc P W 0 sp hd fuel t cs=some x):cs.length=fs.size∧∀(i:Nat) (f:Field),fs[i]?=some f→∃fuel y,DataW.trod enc P W 0 sp hd fuel f.type [cs.getD i undef]=some y:=by
 obtain⟨xs,n,-,-,hlc,hl,hx⟩:=DataW.trod_struct ht h
 refine⟨by omega,fun i f hi=>?_⟩
 have hi':=(Array.getElem?_eq_some_iff.1 hi).1
 have h1:=hx i f hi
 rw[List.all_eq_true] at hf
 have h2:=hf (f,i) (List.mem_zipIdx_iff_getElem?.2 (by simpa using hi))
 simp only[Bool.and_eq_true,beq_iff_eq] at h2
 have hci:i<cs.length:=by omega
 refine⟨n,xs[i],?_⟩
 have e:(cs.drop f.offset).take (P.cellsOf f.type)=[cs.getD i undef]:=by
  have e2:(cs.drop i).take 1=[cs[i]]:=by rw[List.drop_eq_getElem_cons hci];rfl
  rw[h2.1,h2.2,e2]
  simp[List.getD_eq_getElem?_getD,hci]
 rw[←e,h1,List.getElem?_eq_getElem (by omega)]
end Go.Proofs.YthmfppknagbkeaaGreatDoor.Am
namespace Go.Proofs.YthmfppknagbkeaaGreatDoor.Am
open Go Go.RowKit
theorem yv {φ K:Prop}(h:φ)(k:K):ba φ K:=⟨h,k⟩
theorem De {b:Bool}{K:Prop}(h:b=true)(k:K):Mk b K:=⟨h,k⟩
theorem Ci {k:IntKind}{z:Int}{K:Int→Prop}(h:EC k z)(g:K z):Ari k z K:=.inl ⟨h,g⟩
theorem Ch {z:Int}{K:Int→Prop}(h:-9223372036854775808≤z∧z≤9223372036854775807)(g:K z):Ari .i64 z K:=.inl ⟨h,g⟩
theorem BX {α:Type}{xs:List α}{i:Int}{K:Nat→α→Prop}(h0:0≤i)(hl:i.toNat<xs.length)(h:∀x,xs[i.toNat]?=some x→K i.toNat x):jQ xs i K:=
 ⟨h0,xs[i.toNat],List.getElem?_eq_getElem hl,h _ (List.getElem?_eq_getElem hl)⟩
theorem EA {α:Type}{xs:List α}{i:Int}{K:Nat→α→Prop}{x:α}(h0:0≤i)(hx:xs[i.toNat]?=some x)(h:K i.toNat x):jQ xs i K:=⟨h0,x,hx,h⟩
theorem xJ {α:Type}{xs:List α}{i:Nat}{K:α→Prop}(hl:i<xs.length)(h:∀x,xs[i]?=some x→K x):di xs i K:=
 ⟨xs[i],List.getElem?_eq_getElem hl,h _ (List.getElem?_eq_getElem hl)⟩
theorem Ew {α:Type}{xs:List α}{i:Nat}{K:α→Prop}{x:α}(hx:xs[i]?=some x)(h:K x):di xs i K:=⟨x,hx,h⟩
theorem BY {α:Type}{xs:List α}{i:Nat}{K:Nat→α→Prop}(hl:i<xs.length)(h:∀x,xs[i]?=some x→K i x):jQ xs (i:Int) K:=
 ⟨Int.natCast_nonneg i,xs[i],List.getElem?_eq_getElem hl,h _ (List.getElem?_eq_getElem hl)⟩
theorem CV {α:Type}{xs:List α}{i:Nat}{K:Nat→α→Prop}{x:α}(hx:xs[i]?=some x)(h:K i x):jQ xs (i:Int) K:=⟨Int.natCast_nonneg i,x,hx,h⟩
theorem BT {α:Type}{xs:List α}{i:Nat}{K:α→Prop}(hl:i<xs.length)(h:∀x,xs[i]?=some x→K x):di xs (i:Int).toNat K:=xJ hl h
theorem CL {α:Type}{xs:List α}{i:Nat}{K:α→Prop}{x:α}(hx:xs[i]?=some x)(h:K x):di xs (i:Int).toNat K:=⟨x,hx,h⟩
theorem sr {b:Bool}{A B:Prop}(hb:b=true)(h:A):f4 b A B:=⟨fun _=>h,fun h=>by rw[hb] at h;cases h⟩
theorem sq {b:Bool}{A B:Prop}(hb:b=false)(h:B):f4 b A B:=⟨(fun h=>by rw[hb] at h;cases h),fun _=>h⟩
theorem wX {b:Bool}{A B:Prop}(hb:b=false)(h:A):f4 (!b) A B:=sr (by rw[hb];rfl) h
theorem wW {b:Bool}{A B:Prop}(hb:b=true)(h:B):f4 (!b) A B:=sq (by rw[hb];rfl) h
theorem Co {p:Prop}[Decidable p]{A B:Prop}(hp:p)(h:A):f4 (decide p) A B:=sr (decide_eq_true hp) h
theorem Cn {p:Prop}[Decidable p]{A B:Prop}(hp:¬p)(h:B):f4 (decide p) A B:=sq (decide_eq_false hp) h
theorem FS {p:Prop}[Decidable p]{A B:Prop}(h:p→A)(k:¬p→B):f4 (decide p) A B:=⟨fun h'=>h (of_decide_eq_true h'),fun h'=>k (of_decide_eq_false h')⟩
theorem El {A B:Prop}(h:A):f4 true A B:=⟨fun _=>h,fun h=>by cases h⟩
theorem Ej {A B:Prop}(h:B):f4 false A B:=⟨(by intro h;cases h),fun _=>h⟩
theorem Ek {b:Bool}{A B:Prop}(h:b=true→A)(k:b=false→B):f4 b A B:=⟨h,k⟩
theorem dp {P:Program}{f:FuncId}{vs:List V}{hin:VH}{K:V→VH→Prop}{r:V}{hout:VH}(h:aj P f vs hin r hout)(k:K r hout):bV P f vs hin K:=⟨r,hout,h,k⟩
theorem E9 {P:Program}{f:FuncId}{vs:List V}{hin:VH}{K:V→VH→Prop}{α:Type}{R:α→Prop}{r:α→V}{hout:α→VH}(h:∃a,R a∧aj P f vs hin (r a) (hout a))(k:∀a,R a→K (r a) (hout a)):bV P f vs hin K:=by
 obtain⟨a,h1,h2⟩:=h
 exact⟨r a,hout a,h2,k a h1⟩
theorem DQ {x:VB}{A B:Prop}(h:A):d6 x x A B:=.inl ⟨rfl,h⟩
theorem DP {y x:VB}{A B:Prop}(h:B):d6 y x A B:=.inr h
theorem B1 {α:Type}{A:Prop}{B:α→Prop}(h:A):eY none A B:=⟨(fun _=>h),(fun x hx=>nomatch hx)⟩
theorem B2 {α:Type}{x:α}{A:Prop}{B:α→Prop}(h:B x):eY (some x) A B:=⟨(fun hx=>nomatch hx),(fun y hy=>Option.some.inj hy▸h)⟩
theorem Dn {α:Type}{o:Option α}{x:α}{A:Prop}{B:α→Prop}(he:o=some x)(h:B x):eY o A B:=by subst he;exact B2 h
theorem Dm {α:Type}{o:Option α}{A:Prop}{B:α→Prop}(he:o=none)(h:A):eY o A B:=by subst he;exact B1 h
theorem go {P Q:Prop}(h:Q)(s:Q→P:=by with_reducible first
  |exact De (by kernel_rfl)|exact El|exact Ej|exact sr (by assumption)|exact sq (by assumption)|exact wX rfl|exact wW rfl|exact wX (by assumption)|exact wW (by assumption)
  |exact Co (by first|assumption|omega|exact trivial|exact rfl)|exact Cn (by first|assumption|omega)|exact EK (by assumption)
  |exact yv (by first|omega|assumption|decide|((try unfold fH);(try simp only[List.length_set,List.length_append,List.length_cons,List.length_nil,List.length_map,List.length_replicate]);omega))
  |exact Ch (by omega)|exact CV (by assumption)|exact EA (by omega) (by assumption)|exact CL (by assumption)|exact Ew (by assumption)
  |exact DQ|exact DP|exact B1|exact B2|exact Dn (by assumption)|exact Dm (by assumption)|exact Ci (by simp only[EC];omega)):P:=s h
theorem F3 {α:Type}{P:Prop}{C Q:α→Prop}(h:∀x,C x→Q x)(s:(∀x,C x→Q x)→P:=by with_reducible first
  |exact BY (by omega)|exact BX (by omega) (by omega)|exact BT (by omega)|exact xJ (by first|omega|(simp only[List.length_cons,List.length_nil,List.length_set,List.length_append];omega))):P:=s h
variable {P:Program} {N:Nat} {K:Id→Prop}
def og:List V→Nat→Bool
 |[],0=>true
 | .nilp::l,m+1=>og l m
 |_,_=>false
theorem lF {t:Ty}{d:t.den}(hd:aa t d= .nilp):∀{l:List V} {m:Nat},og l m=true→ae l=(List.replicate m d).map (aa t)
 |[],0,_=>rfl
 | .nilp::l,m+1,h=>by
  simp only[ae,List.replicate_succ,List.map_cons]
  rw[lF hd (l:=l) (m:=m) h,hd]
  rfl
 |[],m+1,h=>by cases h
 |v::l,0,h=>by cases v<;>cases h
 | .int .. ::_,_+1,h| .bool _::_,_+1,h| .tt::_,_+1,h| .ff::_,_+1,h| .str _::_,_+1,h| .lst .. ::_,_+1,h| .box .. ::_,_+1,h| .agg _::_,_+1,h| .tup _::_,_+1,h
 | .nils::_,_+1,h| .nilf::_,_+1,h| .nili::_,_+1,h| .ifc .. ::_,_+1,h| .clo .. ::_,_+1,h| .ref _::_,_+1,h| .ptr .. ::_,_+1,h| .eptr .. ::_,_+1,h| .iptr .. ::_,_+1,h
 | .vref .. ::_,_+1,h| .aptr .. ::_,_+1,h| .fref .. ::_,_+1,h| .fptr .. ::_,_+1,h| .feptr .. ::_,_+1,h| .faptr .. ::_,_+1,h| .hro .. ::_,_+1,h| .hpo .. ::_,_+1,h| .obo .. ::_,_+1,h
 | .undef::_,_+1,h| .gp _::_,_+1,h| .gv _::_,_+1,h| .junk::_,_+1,h=>by cases h
def E0:(t:Ty)→Option t.den
 | .hp _=>some none
 | .ob _=>some none
 |_=>none
theorem Bv:∀{t:Ty} {d:t.den},E0 t=some d→aa t d= .nilp
 | .hp _,_,h=>by cases h;rfl
 | .ob _,_,h=>by cases h;rfl
def FN (h:VH)(b p m:Nat)(t:Ty)(K:VH→Prop):Prop:=
 cf h b fun x=>(match x with
  | .var T cs=>mO cs p fun pre=>Mk (og (cs.drop p) m) (match E0 t with
   |some d=>we b (.vari T pre m t (List.replicate m d) []) h K
   |none=>False)
  |_=>False)
theorem wM {c:Code}{Q:Exit→VSt→Prop}{t:VT}{h:VH}{n:Nat}(b p m:Nat)(ty:Ty)(hk:FN h b p m ty fun h'=>At P N K c Q ⟨t,h',n⟩):At P N K c Q ⟨t,h,n⟩:=by
 obtain⟨x,h1,hk⟩:=aB hk
 split at hk
 ·rename_i T cs
  obtain⟨hl,c1,hk⟩:=jH hk
  split at hk
  ·rename_i dn hd
   have hd:=Bv hd
   have ha:=ls hk
   refine tP (σ':=⟨t,put b _ h,n⟩) (fun _ _ _ _ _ _ hs=>hs.congr (fun _=>rfl) (fun d=>?_) rfl) ha
   show look (toH (put b _ h)) d=look (toH h) d
   rw[al,al,ai]
   split
   ·rename_i e
    rw[e,h1]
    have:VB.blks (.vari T (cs.take p) m ty (List.replicate m dn) [])=VB.blks (.var T cs):=by
     simp only[VB.blks,ae,List.append_nil]
     rw[←lF hd c1]
     congr 2
     rw[bk,bk,bk,←List.map_append,List.take_append_drop]
    simp only[Option.bind_some,this]
   ·rfl
  ·exact hk.elim
 ·exact hk.elim
end Go.Proofs.YthmfppknagbkeaaGreatDoor.Am
namespace Go.Proofs.YthmfppknagbkeaaGreatDoor.Am
open Go
def cg (n:Nat)(p:Nat→Bool):Bool:=(List.range n).all p
theorem aJ {n:Nat}{p:Nat→Bool}:cg n p=true↔∀j,j<n→p j=true:=by simp[cg]
theorem bB {n:Nat}{p:Nat→Bool}(h:∀j,j<n→p j=true):cg n p=true:=aJ.2 h
theorem bN {n j:Nat}{p:Nat→Bool}(hj:j<n)(h:p j=false):cg n p=false:=by
 rw[Bool.eq_false_iff]
 intro ha
 rw[aJ.1 ha j hj] at h
 cases h
theorem a8 {i:Nat}{p:Nat→Bool}(h:∀j,j<i→p j=true)(hi:p i=true):∀j,j<i+1→p j=true:=by
 intro j hj
 rcases Nat.lt_or_ge j i with hl|hg
 ·exact h j hl
 ·obtain rfl:j=i:=by omega
  exact hi
theorem aV {α:Type}{l:List α}{i:Nat}{x d:α}(h:l[i]?=some x):l.getD i d=x:=by rw[List.getD_eq_getElem?_getD,h];rfl
theorem gb {α:Type}{l:List α}{i:Nat}{d:α}(h:i<l.length):l.getD i d∈l:=by rw[List.getD_eq_getElem?_getD,List.getElem?_eq_getElem h];exact List.getElem_mem h
theorem ca {α:Type}{l:List α}{x d:α}(h:x∈l):∃i,i<l.length∧l.getD i d=x:=by
 obtain⟨i,hi,rfl⟩:=List.getElem_of_mem h
 exact⟨i,hi,by rw[List.getD_eq_getElem?_getD,List.getElem?_eq_getElem hi];rfl⟩
def f6 (n lo hi:Int):Bool:=decide (lo≤n) && decide (n≤hi)
theorem av {n lo hi:Int}:f6 n lo hi=true↔lo≤n∧n≤hi:=by simp[f6]
def comV (c:List Int):Bool:=cg c.length (fun i=>f6 (c.getD i 0) 1 9) && f6 c.length 1 7
theorem au {c:List Int}:comV c=true↔(∀x∈c,1≤x∧x≤9)∧1≤c.length∧c.length≤7:=by
 simp only[comV,Bool.and_eq_true,aJ,av]
 constructor
 ·rintro⟨h1,h2⟩
  refine⟨fun x hx=>?_,by omega,by omega⟩
  obtain⟨i,hi,rfl⟩:=ca (d:=0) hx
  exact h1 i hi
 ·rintro⟨h1,h2,h3⟩
  exact⟨fun j hj=>h1 _ (gb hj),by omega,by omega⟩
def kJ (c:List Int):Int:=c.sum
theorem ly {M:Int}(hM:0≤M):∀{l:List Int},(∀x∈l,0≤x∧x≤M)→0≤l.sum∧l.sum≤M*l.length
 |[],_=>by simp
 |x::l,h=>by
  have h1:=h x (List.mem_cons_self ..)
  have h2:=ly hM fun y hy=>h y (List.mem_cons_of_mem _ hy)
  rw[List.sum_cons,List.length_cons]
  have:M*((l.length+1:Nat):Int)=M*l.length+M:=by rw[Int.natCast_add,Int.mul_add];simp
  omega
theorem mK:∀{l:List Int},(∀x∈l,1≤x)→(l.length:Int)≤l.sum
 |[],_=>by simp
 |x::l,h=>by
  have h1:=h x (List.mem_cons_self ..)
  have h2:=mK fun y hy=>h y (List.mem_cons_of_mem _ hy)
  rw[List.sum_cons,List.length_cons]
  omega
theorem fU {c:List Int}(h:comV c=true):1≤kJ c∧kJ c≤63:=by
 obtain⟨h1,h2,h3⟩:=au.1 h
 have h4:=ly (M:=9) (by omega) fun x hx=>⟨by have:=h1 x hx;omega,(h1 x hx).2⟩
 have h5:=mK fun x hx=>(h1 x hx).1
 unfold kJ
 omega
def quo (c:List Int):Int:=(2*kJ c).tdiv 3+1
theorem yR {c:List Int}(h:comV c=true):1≤quo c∧quo c≤43:=by
 have h1:=fU h
 unfold quo
 rw[Int.tdiv_eq_ediv_of_nonneg (by omega)]
 omega
def bY (c:List Int)(m:Int):Bool:=f6 m 0 (c.length-1)
def ep (c ms:List Int)(i:Nat):Bool:=bY c (ms.getD i 0) && (i==0||decide (ms.getD (i-1) 0<ms.getD i 0))
def cj (c ms:List Int):Bool:=cg ms.length (ep c ms)
def jO (c ms:List Int):Int:=(ms.map fun m=>c.getD m.toNat 0).sum
theorem dE {c ms:List Int}(h:cj c ms=true):∀m∈ms,0≤m∧m<c.length:=by
 intro m hm
 obtain⟨i,hi,rfl⟩:=ca (d:=0) hm
 have:=aJ.1 h i hi
 simp only[ep,Bool.and_eq_true,bY,av] at this
 omega
theorem kf {α:Type}{R:α→α→Prop}(ht:∀a b c,R a b→R b c→R a c):∀{l:List α},(∀i x y,l[i]?=some x→l[i+1]?=some y→R x y)→l.Pairwise R
 |[],_=>List.Pairwise.nil
 |[x],_=>by simp
 |x::y::l,h=>by
  have h0:R x y:=h 0 x y rfl rfl
  have ih:(y::l).Pairwise R:=kf ht fun i a b ha hb=>h (i+1) a b (by simpa using ha) (by simpa using hb)
  refine List.Pairwise.cons (fun a ha=>?_) ih
  rcases List.mem_cons.1 ha with rfl|ha
  ·exact h0
  ·exact ht _ _ _ h0 ((List.pairwise_cons.1 ih).1 a ha)
theorem q7 {c ms:List Int}(h:cj c ms=true):ms.Pairwise (· < ·):=by
 refine kf (fun _ _ _ h1 h2=>by omega) fun i x y hx hy=>?_
 have hl:=(List.getElem?_eq_some_iff.1 hy).1
 have:=aJ.1 h (i+1) hl
 simp only[ep,Bool.and_eq_true,Bool.or_eq_true,Nat.add_sub_cancel,aV hx,aV hy,decide_eq_true_eq] at this
 rcases this.2 with h|h
 ·simp at h
 ·exact h
theorem AJ {c ms:List Int}(h1:∀m∈ms,0≤m∧m<c.length)(h2:ms.Pairwise (· < ·)):cj c ms=true:=by
 refine bB fun j hj=>?_
 simp only[ep,bY,Bool.and_eq_true,av,Bool.or_eq_true,beq_iff_eq,decide_eq_true_eq]
 have:=h1 _ (gb (d:=0) hj)
 refine⟨by omega,?_⟩
 cases j with
 |zero=>exact .inl rfl
 |succ j=>
  right
  rw[List.pairwise_iff_getElem] at h2
  have:=h2 j (j+1) (by omega) hj (by omega)
  simpa[List.getD_eq_getElem?_getD,List.getElem?_eq_getElem hj,List.getElem?_eq_getElem (show j<ms.length by omega)] using this
theorem ol:∀{a b:List Int},a.Pairwise (· < ·)→b.Pairwise (· < ·)→(∀x,x∈a↔x∈b)→a=b
 |[],[],_,_,_=>rfl
 |[],y::b,_,_,h=>by have:=(h y).2 (List.mem_cons_self ..);cases this
 |x::a,[],_,_,h=>by have:=(h x).1 (List.mem_cons_self ..);cases this
 |x::a,y::b,ha,hb,h=>by
  rw[List.pairwise_cons] at ha hb
  have hxy:x=y:=by
   have h1:=(h x).1 (List.mem_cons_self ..)
   have h2:=(h y).2 (List.mem_cons_self ..)
   rcases List.mem_cons.1 h1 with h1|h1
   ·exact h1
   ·rcases List.mem_cons.1 h2 with h2|h2
    ·exact h2.symm
    ·have:=ha.1 y h2;have:=hb.1 x h1;omega
  subst hxy
  rw[ol ha.2 hb.2 fun z=>?_]
  have hz:=h z
  constructor
  ·intro hz1
   have hlt:=ha.1 z hz1
   rcases List.mem_cons.1 (hz.1 (List.mem_cons_of_mem _ hz1)) with e|e
   ·omega
   ·exact e
  ·intro hz1
   have hlt:=hb.1 z hz1
   rcases List.mem_cons.1 (hz.2 (List.mem_cons_of_mem _ hz1)) with e|e
   ·omega
   ·exact e
theorem pP {c ms:List Int}(h:comV c=true):0≤jO c ms∧jO c ms≤9*ms.length:=by
 have hc:=(au.1 h).1
 have:=ly (M:=9) (by omega) (l:=ms.map fun m=>c.getD m.toNat 0) fun x hx=>by
  obtain⟨m,-,rfl⟩:=List.mem_map.1 hx
  rcases Nat.lt_or_ge m.toNat c.length with hl|hg
  ·have:=hc _ (gb (d:=0) hl);omega
  ·simp[List.getD_eq_getElem?_getD,List.getElem?_eq_none hg]
 rwa [List.length_map] at this
theorem mW (c ms:List Int)(m:Int):jO c (ms++[m])=jO c ms+c.getD m.toNat 0:=by simp[jO]
instance:Inhabited Vtx:=⟨⟨0,0,[],0⟩⟩
def v0:Vtx:=⟨0,0,[],0⟩
def vtxS (c:List Int)(v:Vtx):Bool:=f6 v.round 0 30 && (bY c v.author && (cj c v.parents && (f6 v.digest 0 990 && (if v.round=0 then v.parents.length==0 else decide (quo c≤jO c v.parents)))))
def cm (r a:Int)(v:Vtx):Bool:=v.round==r && v.author==a
def eC (g:List Vtx)(r a:Int):Bool:=g.any (cm r a)
def parOK (g:List Vtx)(v:Vtx):Bool:=v.parents.all fun p=>eC g (v.round-1) p
def bef (a b:Vtx):Bool:=decide (a.round<b.round)||decide (a.round=b.round) && decide (a.author<b.author)
theorem vq {a b c:Vtx}(h1:bef a b=true)(h2:bef b c=true):bef a c=true:=by
 simp only[bef,Bool.or_eq_true,Bool.and_eq_true,decide_eq_true_eq] at *
 omega
def fg (c:List Int)(g:List Vtx)(i:Nat):Bool:=vtxS c (g.getD i v0) && ((i==0||bef (g.getD (i-1) v0) (g.getD i v0)) && parOK g (g.getD i v0))
def graS (c:List Int)(g:List Vtx):Bool:=comV c && cg g.length (fg c g)
def dq (c:List Int)(g:List Vtx)(i:Nat):Bool:=vtxS c (g.getD i v0) && ((i==0||bef (g.getD (i-1) v0) (g.getD i v0)) && parOK (g.take i) (g.getD i v0))
theorem eg {r a:Int}{v:Vtx}:cm r a v=true↔v.round=r∧v.author=a:=by simp[cm]
theorem bR {g:List Vtx}{r a:Int}:eC g r a=true↔∃v∈g,v.round=r∧v.author=a:=by simp[eC,eg]
theorem dx {g:List Vtx}{v:Vtx}:parOK g v=true↔∀p∈v.parents,eC g (v.round-1) p=true:=by simp[parOK]
theorem wJ {g:List Vtx}(h:∀i,i<g.length→(i==0||bef (g.getD (i-1) v0) (g.getD i v0))=true):g.Pairwise fun a b=>bef a b=true:=by
 refine kf (R:=fun a b=>bef a b=true) (fun _ _ _ h1 h2=>vq h1 h2) fun i x y hx hy=>?_
 have:=h (i+1) (List.getElem?_eq_some_iff.1 hy).1
 rw[Nat.add_sub_cancel,aV hx,aV hy] at this
 simpa using this
theorem fP {α:Type}{R:α→α→Prop}{l:List α}(h:l.Pairwise R){i j:Nat}{x y:α}(hij:i<j)(hx:l[i]?=some x)(hy:l[j]?=some y):R x y:=by
 obtain⟨hi,rfl⟩:=List.getElem?_eq_some_iff.1 hx
 obtain⟨hj,rfl⟩:=List.getElem?_eq_some_iff.1 hy
 exact List.pairwise_iff_getElem.1 h i j hi hj hij
theorem yK {g:List Vtx}(hp:g.Pairwise fun a b=>bef a b=true){i:Nat}{v:Vtx}(hv:g[i]?=some v):parOK (g.take i) v=parOK g v:=by
 rw[Bool.eq_iff_iff,dx,dx]
 constructor
 ·intro h p hp1
  obtain⟨u,hu,h1⟩:=bR.1 (h p hp1)
  exact bR.2 ⟨u,List.mem_of_mem_take hu,h1⟩
 ·intro h p hp1
  obtain⟨u,hu,h1,h2⟩:=bR.1 (h p hp1)
  refine bR.2 ⟨u,?_,h1,h2⟩
  obtain⟨j,hj⟩:=List.getElem?_of_mem hu
  have hji:j<i:=by
   rcases Nat.lt_trichotomy j i with h|rfl|h
   ·exact h
   ·rw[hj] at hv;obtain rfl:=Option.some.inj hv;omega
   ·have:=fP hp h hv hj
    simp only[bef,Bool.or_eq_true,Bool.and_eq_true,decide_eq_true_eq] at this
    omega
  exact List.mem_of_getElem? (i:=j) (by rw[List.getElem?_take,if_pos hji];exact hj)
theorem ul {c:List Int}{g:List Vtx}:cg g.length (dq c g)=cg g.length (fg c g):=by
 have key:(∀i,i<g.length→(i==0||bef (g.getD (i-1) v0) (g.getD i v0))=true)→∀i,i<g.length→parOK (g.take i) (g.getD i v0)=parOK g (g.getD i v0):=fun h i hi=>
  yK (wJ h) (by rw[List.getD_eq_getElem?_getD,List.getElem?_eq_getElem hi];rfl)
 rw[Bool.eq_iff_iff,aJ,aJ]
 constructor
 ·intro h i hi
  have h1:=h i hi
  simp only[dq,Bool.and_eq_true] at h1
  simp only[fg,Bool.and_eq_true]
  refine⟨h1.1,h1.2.1,?_⟩
  rw[←key (fun j hj=>?_) i hi]
  ·exact h1.2.2
  ·have:=h j hj
   simp only[dq,Bool.and_eq_true] at this
   exact this.2.1
 ·intro h i hi
  have h1:=h i hi
  simp only[fg,Bool.and_eq_true] at h1
  simp only[dq,Bool.and_eq_true]
  refine⟨h1.1,h1.2.1,?_⟩
  rw[key (fun j hj=>?_) i hi]
  ·exact h1.2.2
  ·have:=h j hj
   simp only[fg,Bool.and_eq_true] at this
   exact this.2.1
structure GraOK (c:List Int)(g:List Vtx):Prop where
 com:comV c=true
 vtx:∀v∈g,vtxS c v=true
 pw:g.Pairwise fun a b=>bef a b=true
 par:∀v∈g,parOK g v=true
theorem gU {c:List Int}{g:List Vtx}(h:graS c g=true):GraOK c g:=by
 simp only[graS,Bool.and_eq_true,aJ] at h
 obtain⟨h1,h2⟩:=h
 have h3:∀i,i<g.length→vtxS c (g.getD i v0)=true∧(i==0||bef (g.getD (i-1) v0) (g.getD i v0))=true∧parOK g (g.getD i v0)=true:=fun i hi=>by
  have:=h2 i hi
  simpa only[fg,Bool.and_eq_true] using this
 refine⟨h1,fun v hv=>?_,wJ fun i hi=>(h3 i hi).2.1,fun v hv=>?_⟩<;>(obtain⟨i,hi,rfl⟩:=ca (d:=v0) hv)
 ·exact(h3 i hi).1
 ·exact(h3 i hi).2.2
theorem bl {c:List Int}{v:Vtx}(h:vtxS c v=true):(0≤v.round∧v.round≤30)∧(0≤v.author∧v.author<c.length)∧cj c v.parents=true∧(0≤v.digest∧v.digest≤990)∧(v.round=0→v.parents=[])∧(v.round≠0→quo c≤jO c v.parents):=by
 simp only[vtxS,bY,Bool.and_eq_true,av] at h
 obtain⟨h1,h2,h3,h4,h5⟩:=h
 refine⟨h1,by omega,h3,h4,fun h0=>?_,fun h0=>?_⟩
 ·rw[if_pos h0] at h5;simpa using h5
 ·rw[if_neg h0] at h5;simpa using h5
def oo (g:List Vtx)(r:Int):List Int:=(g.filter fun v=>v.round==r).map (·.author)
theorem p9 {g:List Vtx}{r a:Int}:a∈oo g r↔eC g r a=true:=by
 rw[bR]
 simp only[oo,List.mem_map,List.mem_filter,beq_iff_eq]
 constructor
 ·rintro⟨v,⟨h1,h2⟩,h3⟩;exact⟨v,h1,h2,h3⟩
 ·rintro⟨v,h1,h2,h3⟩;exact⟨v,⟨h1,h2⟩,h3⟩
theorem p8 {g:List Vtx}(h:g.Pairwise fun a b=>bef a b=true)(r:Int):(oo g r).Pairwise (· < ·):=by
 unfold oo
 rw[List.pairwise_map]
 have h1:(g.filter fun v=>v.round==r).Pairwise fun a b=>bef a b=true:=h.sublist (List.filter_sublist ..)
 refine h1.imp_of_mem fun {a b} ha hb hab=>?_
 have ha:=(List.mem_filter.1 ha).2
 have hb:=(List.mem_filter.1 hb).2
 simp only[bef,Bool.or_eq_true,Bool.and_eq_true,decide_eq_true_eq,beq_iff_eq] at *
 omega
theorem D1 {c:List Int}{g:List Vtx}(h:GraOK c g)(r:Int):cj c (oo g r)=true:=by
 refine AJ (fun m hm=>?_) (p8 h.pw r)
 obtain⟨v,h1,-,rfl⟩:=bR.1 (p9.1 hm)
 exact(bl (h.vtx v h1)).2.1
def tQ (c:List Int)(g:List Vtx)(r:Int):List Int:=((List.range c.length).filter fun a:Nat=>eC g r (a:Int)).map fun a:Nat=>(a:Int)
theorem wO {c:List Int}{g:List Vtx}(h:GraOK c g)(r:Int):tQ c g r=oo g r:=by
 refine ol ?_ (p8 h.pw r) fun x=>?_
 ·unfold tQ
  rw[List.pairwise_map]
  refine(List.Pairwise.sublist (List.filter_sublist ..) List.pairwise_lt_range).imp fun {a b} hab=>by omega
 ·rw[p9]
  simp only[tQ,List.mem_map,List.mem_filter,List.mem_range]
  constructor
  ·rintro⟨a,⟨h1,h2⟩,rfl⟩;exact h2
  ·intro hx
   obtain⟨v,h1,-,h3⟩:=bR.1 hx
   have:=(bl (h.vtx v h1)).2.1
   refine⟨x.toNat,⟨by omega,?_⟩,by omega⟩
   rw[show ((x.toNat:Nat):Int)=x by omega]
   exact hx
def BV (c:List Int)(g:List Vtx):Nat→Int
 |0=>-1
 |r+1=>if quo c≤jO c (oo g r) then r else BV c g r
def Ap (c:List Int)(g:List Vtx):Int:=BV c g 31
structure GS where
 nodes:List Nod
 rows:List (List (Option Nat))
 plc:List (Option Nat)
def GS.at (s:GS)(r a:Int):Option Nat:=s.plc.getD (r*7+a).toNat none
def eQ:GS:=⟨[],[],List.replicate 217 none⟩
def a9 (s:GS)(v:Vtx):GS:=
 ⟨s.nodes++[⟨v,s.nodes.length,if v.parents=[] then none else some s.rows.length⟩],if v.parents=[] then s.rows else s.rows++[v.parents.map fun p=>s.at (v.round-1) p],s.plc.set (v.round*7+v.author).toNat (some s.nodes.length)⟩
def bn (g:List Vtx):GS:=g.foldl a9 eQ
theorem gd (g:List Vtx)(v:Vtx):bn (g++[v])=a9 (bn g) v:=by simp[bn]
theorem ey {α:Type}{p:List α→Prop}(h0:p [])(h:∀l x,p l→p (l++[x])):∀l,p l:=by
 intro l
 have:∀n (l:List α),l.length=n→p l:=by
  intro n
  induction n with
  |zero=>intro l hl;rw[List.length_eq_zero_iff.1 hl];exact h0
  |succ n ih=>
   intro l hl
   have hne:l≠[]:=by intro h;rw[h] at hl;simp at hl
   rw[←List.dropLast_concat_getLast hne]
   exact h _ _ (ih _ (by simp[hl]))
 exact this _ l rfl
theorem ct (g:List Vtx):(bn g).nodes.length=g.length∧(bn g).plc.length=217:=by
 induction g using ey with
 |h0=>exact⟨rfl,List.length_replicate⟩
 |h l x ih=>rw[gd];simp[a9,ih.1,ih.2]
def jc (v:Vtx):Prop:=(0≤v.round∧v.round≤30)∧0≤v.author∧v.author≤6
theorem eA {c:List Int}{v:Vtx}(hc:comV c=true)(h:vtxS c v=true):jc v:=by
 obtain⟨h1,h2,-⟩:=bl h
 have:=(au.1 hc).2.2
 exact⟨h1,by omega,by omega⟩
theorem oU {g:List Vtx}(hg:∀v∈g,jc v){r a:Int}(hr:0≤r∧r≤30)(ha:0≤a∧a≤6):((bn g).at r a).isSome=eC g r a∧∀i,(bn g).at r a=some i→∃v,g[i]?=some v∧v.round=r∧v.author=a:=by
 induction g using ey with
 |h0=>
  have:(bn []).at r a=none:=by
   simp only[bn,List.foldl_nil,eQ,GS.at,List.getD_eq_getElem?_getD]
   rw[List.getElem?_replicate]
   split<;>rfl
  rw[this]
  exact⟨rfl,fun i hi=>by cases hi⟩
 |h l v ih=>
  have ih:=ih fun u hu=>hg u (List.mem_append_left _ hu)
  have hv:=hg v (by simp)
  have hl:=ct l
  have hk:(v.round*7+v.author).toNat<(bn l).plc.length:=by
   obtain⟨h1,h2⟩:=hv
   rw[hl.2]
   omega
  have hany:eC (l++[v]) r a=(eC l r a||cm r a v):=by simp[eC]
  rw[gd,hany]
  by_cases he:v.round=r∧v.author=a
  ·have h1:(a9 (bn l) v).at r a=some l.length:=by
    obtain⟨rfl,rfl⟩:=he
    simp only[a9,GS.at,List.getD_eq_getElem?_getD]
    rw[List.getElem?_set_self hk,hl.1]
    rfl
   rw[h1,eg.2 he,Bool.or_true]
   refine⟨rfl,fun i hi=>?_⟩
   obtain rfl:=Option.some.inj hi
   exact⟨v,by simp,he⟩
  ·have hne:cm r a v=false:=by rw[Bool.eq_false_iff];exact fun h=>he (eg.1 h)
   have h1:(a9 (bn l) v).at r a=(bn l).at r a:=by
    simp only[a9,GS.at,List.getD_eq_getElem?_getD]
    rw[List.getElem?_set_ne]
    obtain⟨h1,h2⟩:=hv
    omega
   rw[h1,hne,Bool.or_false]
   refine⟨ih.1,fun i hi=>?_⟩
   obtain⟨u,h2,h3⟩:=ih.2 i hi
   exact⟨u,by rw[List.getElem?_append_left (List.getElem?_eq_some_iff.1 h2).1];exact h2,h3⟩
def kM (g:List Vtx)(r a:Int):Int:=match g.findIdx? (cm r a) with|some i=>i|none=>-1
theorem oO {g:List Vtx}{r a:Int}:(g.findIdx? (cm r a)).isSome=eC g r a:=by simp[eC,List.findIdx?_isSome]
theorem qI {c:List Int}{g:List Vtx}(h:GraOK c g){r a:Int}(hr:0≤r∧r≤30)(ha:0≤a∧a≤6):(bn g).at r a=g.findIdx? (cm r a):=by
 obtain⟨h1,h2⟩:=oU (fun v hv=>eA h.com (h.vtx v hv)) hr ha
 cases e:(bn g).at r a with
 |none=>
  rw[e] at h1
  have h3:=oO (g:=g) (r:=r) (a:=a)
  rw[←h1] at h3
  cases e2:g.findIdx? (cm r a) with
  |none=>rfl
  |some j=>rw[e2] at h3;cases h3
 |some i=>
  rw[e,←oO] at h1
  obtain⟨v,hv1,hv2⟩:=h2 i e
  cases e2:g.findIdx? (cm r a) with
  |none=>rw[e2] at h1;cases h1
  |some j=>
   rw[List.findIdx?_eq_some_iff_getElem] at e2
   obtain⟨hj,e3,-⟩:=e2
   have e3:=eg.1 e3
   congr 1
   rcases Nat.lt_trichotomy i j with hl|rfl|hg
   ·have:=fP h.pw hl hv1 (List.getElem?_eq_getElem hj)
    simp only[bef,Bool.or_eq_true,Bool.and_eq_true,decide_eq_true_eq] at this
    omega
   ·rfl
   ·have:=fP h.pw hg (List.getElem?_eq_getElem hj) hv1
    simp only[bef,Bool.or_eq_true,Bool.and_eq_true,decide_eq_true_eq] at this
    omega
def leaS (c l:List Int):Bool:=cg l.length (fun i=>bY c (l.getD i 0)) && decide ((l.length:Int)≤15)
theorem aW {c l:List Int}:leaS c l=true↔(∀x∈l,0≤x∧x<c.length)∧l.length≤15:=by
 simp only[leaS,Bool.and_eq_true,aJ,bY,av,decide_eq_true_eq]
 constructor
 ·rintro⟨h1,h2⟩
  refine⟨fun x hx=>?_,by omega⟩
  obtain⟨i,hi,rfl⟩:=ca (d:=0) hx
  have:=h1 i hi
  omega
 ·rintro⟨h1,h2⟩
  exact⟨fun i hi=>by have:=h1 _ (gb (d:=0) hi);omega,by omega⟩
def ug (c:List Int):Int:=(kJ c-1).tdiv 3
theorem xu {c:List Int}(h:comV c=true):0≤ug c∧ug c≤20∧3*ug c<kJ c:=by
 have h1:=fU h
 unfold ug
 rw[Int.tdiv_eq_ediv_of_nonneg (by omega)]
 omega
def badS (c:List Int)(b:Int):Bool:=f6 b (-1) (c.length-1) && (decide (b<0)||decide (c.getD b.toNat 0≤ug c))
theorem lJ {c:List Int}{b:Int}:badS c b=true↔b= -1∨((0≤b∧b<c.length)∧c.getD b.toNat 0≤ug c):=by
 simp only[badS,Bool.and_eq_true,av,Bool.or_eq_true,decide_eq_true_eq]
 omega
def iu (c l:List Int)(b:Int):Bool:=comV c && (leaS c l && badS c b)
def w0:Wrl:=⟨[],[],0,[],[]⟩
def FI (c l:List Int)(b:Int):Wrl:=⟨c,l,b,List.replicate c.length [],[]⟩
def jN (a b:Vtx):Bool:=a.round==b.round && (a.author==b.author && (a.digest==b.digest && a.parents==b.parents))
theorem pN {a b:Vtx}:jN a b=true↔a=b:=by
 obtain⟨r,x,ps,d⟩:=a
 obtain⟨r2,x2,ps2,d2⟩:=b
 simp only[jN,Bool.and_eq_true,beq_iff_eq,Vtx.mk.injEq]
 constructor
 ·rintro⟨h1,h2,h3,h4⟩;exact⟨h1,h2,h4,h3⟩
 ·rintro⟨h1,h2,h3,h4⟩;exact⟨h1,h2,h4,h3⟩
def slt (a b:Vtx):Bool:=a.round==b.round && a.author==b.author
theorem pm {a b:Vtx}:slt a b=true↔a.round=b.round∧a.author=b.author:=by simp[slt]
theorem zg (a b:Vtx):slt a b=slt b a:=by
 rw[Bool.eq_iff_iff,pm,pm]
 constructor<;>rintro⟨h1,h2⟩<;>exact⟨h1.symm,h2.symm⟩
def lL (bad:Int)(a b:List Int):Bool:=a.any fun m=>m !=bad && b.contains m
theorem qb {bad:Int}{a b:List Int}:lL bad a b=true↔∃m,m≠bad∧m∈a∧m∈b:=by
 simp only[lL,List.any_eq_true,Bool.and_eq_true,bne_iff_ne,List.contains_iff_mem]
 constructor
 ·rintro⟨m,h1,h2,h3⟩;exact⟨m,h2,h1,h3⟩
 ·rintro⟨m,h1,h2,h3⟩;exact⟨m,h2,h1,h3⟩
theorem vr (bad:Int)(a b:List Int):lL bad a b=lL bad b a:=by
 rw[Bool.eq_iff_iff,qb,qb]
 constructor<;>rintro⟨m,h1,h2,h3⟩<;>exact⟨m,h1,h3,h2⟩
def fitP (bad:Int)(p q:Ppl):Bool:=!slt p.v q.v||(!jN p.v q.v && (p.v.author==bad && !lL bad p.members q.members))
theorem vE (bad:Int)(p q:Ppl):fitP bad p q=fitP bad q p:=by
 unfold fitP
 rw[zg,vr]
 cases h:slt q.v p.v
 ·rfl
 ·have h1:=pm.1 h
  have h2:jN p.v q.v=jN q.v p.v:=by
   rw[Bool.eq_iff_iff,pN,pN]
   exact⟨Eq.symm,Eq.symm⟩
  rw[h2,h1.2]
def p0:Ppl:=⟨v0,[]⟩
def oneP (c:List Int)(p:Ppl):Bool:=vtxS c p.v && cj c p.members
def dh (c:List Int)(bad:Int)(ps:List Ppl)(i:Nat):Bool:=oneP c (ps.getD i p0) && cg i (fun k=>fitP bad (ps.getD i p0) (ps.getD k p0))
def dX (c:List Int)(bad:Int)(ps:List Ppl):Bool:=cg ps.length (dh c bad ps) && decide ((ps.length:Int)≤220)
def don (c:List Int)(p:Ppl):Bool:=decide (quo c≤jO c p.members)
def knw (c:List Int)(ps:List Ppl)(v:Vtx):Bool:=ps.any fun p=>don c p && jN p.v v
def ks (c:List Int)(ps:List Ppl)(g:List Vtx):Bool:=g.all (knw c ps) && graS c g
def dS (c:List Int)(bad:Int)(ps:List Ppl)(gs:List (List Vtx)):Bool:=cg gs.length fun i=>ks c ps (gs.getD i []) && (!((i:Int)==bad)||(gs.getD i []).isEmpty)
def eR (bad:Int)(gs:List (List Vtx))(p:Ppl)(m:Nat):Bool:=!((m:Int) !=bad && ((m:Int)==p.v.author||p.members.contains (m:Int)))||parOK (gs.getD m []) p.v
def kN (bad:Int)(ps:List Ppl)(gs:List (List Vtx)):Bool:=ps.all fun p=>cg gs.length (eR bad gs p)
def iy (w:Wrl):Bool:=iu w.com w.lead w.bad && ((w.views.length==w.com.length) && (dX w.com w.bad w.props && (dS w.com w.bad w.props w.views && kN w.bad w.props w.views)))
def Θ:TT:=[
  (3,⟨.int .i64,1,8,some (.int .i64 0),some (.int .i64),false⟩),
  (5,⟨.int .u8,1,1,some (.int .u8 0),some (.int .u8),false⟩),
  (21,⟨.int .i32,1,4,some (.int .i32 0),some (.int .i32),false⟩),
  (105,⟨.int .u32,1,4,some (.int .u32 0),some (.int .u32),false⟩),
  (225,⟨.int .u64,1,8,some (.int .u64 0),some (.int .u64),false⟩),
  (4,⟨.bool,1,1,some (.bool false),some (.bool),false⟩),
  (22,⟨.slice 3,1,24,some (.nils),some (.lst (.int .i64)),false⟩),
  (23,⟨.slice 115,1,24,some (.nils),some (.lst (.lst (.vtx))),false⟩),
  (24,⟨.slice 119,1,24,some (.nils),some (.lst (.ppl)),false⟩),
  (28,⟨.slice 54,1,24,some (.nils),some (.lst (.slt)),false⟩),
  (30,⟨.slice 73,1,24,some (.nils),some (.lst (.lst (.vtx))),false⟩),
  (31,⟨.slice 50,1,24,some (.nils),some (.lst (.ppl)),false⟩),
  (40,⟨.slice 5,1,24,some (.nils),some (.lst (.int .u8)),false⟩),
  (41,⟨.slice 58,1,24,some (.nils),some (.lst (.evt)),false⟩),
  (73,⟨.slice 48,1,24,some (.nils),some (.lst (.vtx)),false⟩),
  (110,⟨.slice 144,1,24,some (.nils),none,false⟩),
  (115,⟨.slice 117,1,24,some (.nils),some (.lst (.vtx)),false⟩),
  (131,⟨.slice 134,1,24,some (.nils),none,false⟩),
  (164,⟨.slice 4,1,24,some (.nils),some (.lst (.bool)),false⟩),
  (165,⟨.slice 166,1,24,some (.nils),none,false⟩),
  (95,⟨.slice 3,1,24,some (.nils),some (.lst (.int .i64)),false⟩),
  (175,⟨.slice 48,1,24,some (.nils),some (.lst (.vtx)),false⟩),
  (26,⟨.struct [(22,0,1),(22,1,1),(3,2,1),(23,3,1),(24,4,1)],5,104,some (.agg [.nils,.nils,.int .i64 0,.nils,.nils]),some (.wrl),false⟩),
  (33,⟨.struct [(22,0,1),(22,1,1),(3,2,1),(30,3,1),(31,4,1)],5,104,some (.agg [.nils,.nils,.int .i64 0,.nils,.nils]),some (.wrl),false⟩),
  (48,⟨.struct [(3,0,1),(3,1,1),(22,2,1),(3,3,1)],4,48,some (.agg [.int .i64 0,.int .i64 0,.nils,.int .i64 0]),some (.vtx),false⟩),
  (50,⟨.struct [(48,0,4),(22,4,1)],5,72,some (.agg [.int .i64 0,.int .i64 0,.nils,.int .i64 0,.nils]),some (.ppl),false⟩),
  (54,⟨.struct [(3,0,1),(3,1,1)],2,16,some (.agg [.int .i64 0,.int .i64 0]),some (.slt),false⟩),
  (58,⟨.struct [(3,0,1),(3,1,1),(3,2,1),(48,3,4)],7,72,some (.agg [.int .i64 0,.int .i64 0,.int .i64 0,.int .i64 0,.int .i64 0,.nils,.int .i64 0]),some (.evt),false⟩),
  (104,⟨.struct [],0,0,some (.agg []),none,false⟩),
  (107,⟨.struct [(21,0,1),(105,1,1)],2,8,some (.agg [.int .i32 0,.int .u32 0]),none,false⟩),
  (109,⟨.struct [(104,0,0),(107,0,2)],2,8,some (.agg [.int .i32 0,.int .u32 0]),none,false⟩),
  (112,⟨.struct [(109,0,2),(95,2,1),(22,3,1),(3,4,1),(110,5,1),(31,6,1)],7,112,some (.agg [.int .i32 0,.int .u32 0,.nils,.nils,.int .i64 0,.nils,.nils]),none,false⟩),
  (117,⟨.struct [(3,0,1),(3,1,1),(22,2,1),(3,3,1)],4,48,some (.agg [.int .i64 0,.int .i64 0,.nils,.int .i64 0]),some (.vtx),false⟩),
  (119,⟨.struct [(117,0,4),(22,4,1)],5,72,some (.agg [.int .i64 0,.int .i64 0,.nils,.int .i64 0,.nils]),some (.ppl),false⟩),
  (126,⟨.struct [(124,0,1),(22,1,1)],2,32,some (.agg [.nilp,.nils]),none,false⟩),
  (134,⟨.struct [(48,0,4),(3,4,1)],5,56,some (.agg [.int .i64 0,.int .i64 0,.nils,.int .i64 0,.int .i64 0]),none,false⟩),
  (139,⟨.struct [(40,0,1),(3,1,1)],2,32,some (.agg [.nils,.int .i64 0]),none,false⟩),
  (170,⟨.struct [(95,0,1),(165,1,1),(168,2,217)],219,1784,some (.agg [.nils,.nils,.nilp,.nilp,.nilp,.nilp,.nilp,.nilp,.nilp,.nilp,.nilp,.nilp,.nilp,.nilp,.nilp,.nilp,.nilp,.nilp,.nilp,.nilp,.nilp,.nilp,.nilp,.nilp,.nilp,.nilp,.nilp,.nilp,.nilp,.nilp,.nilp,.nilp,.nilp,.nilp,.nilp,.nilp,.nilp,.nilp,.nilp,.nilp,.nilp,.nilp,.nilp,.nilp,.nilp,.nilp,.nilp,.nilp,.nilp,.nilp,.nilp,.nilp,.nilp,.nilp,.nilp,.nilp,.nilp,.nilp,.nilp,.nilp,.nilp,.nilp,.nilp,.nilp,.nilp,.nilp,.nilp,.nilp,.nilp,.nilp,.nilp,.nilp,.nilp,.nilp,.nilp,.nilp,.nilp,.nilp,.nilp,.nilp,.nilp,.nilp,.nilp,.nilp,.nilp,.nilp,.nilp,.nilp,.nilp,.nilp,.nilp,.nilp,.nilp,.nilp,.nilp,.nilp,.nilp,.nilp,.nilp,.nilp,.nilp,.nilp,.nilp,.nilp,.nilp,.nilp,.nilp,.nilp,.nilp,.nilp,.nilp,.nilp,.nilp,.nilp,.nilp,.nilp,.nilp,.nilp,.nilp,.nilp,.nilp,.nilp,.nilp,.nilp,.nilp,.nilp,.nilp,.nilp,.nilp,.nilp,.nilp,.nilp,.nilp,.nilp,.nilp,.nilp,.nilp,.nilp,.nilp,.nilp,.nilp,.nilp,.nilp,.nilp,.nilp,.nilp,.nilp,.nilp,.nilp,.nilp,.nilp,.nilp,.nilp,.nilp,.nilp,.nilp,.nilp,.nilp,.nilp,.nilp,.nilp,.nilp,.nilp,.nilp,.nilp,.nilp,.nilp,.nilp,.nilp,.nilp,.nilp,.nilp,.nilp,.nilp,.nilp,.nilp,.nilp,.nilp,.nilp,.nilp,.nilp,.nilp,.nilp,.nilp,.nilp,.nilp,.nilp,.nilp,.nilp,.nilp,.nilp,.nilp,.nilp,.nilp,.nilp,.nilp,.nilp,.nilp,.nilp,.nilp,.nilp,.nilp,.nilp,.nilp,.nilp,.nilp,.nilp,.nilp,.nilp,.nilp,.nilp,.nilp,.nilp,.nilp,.nilp,.nilp,.nilp,.nilp,.nilp]),none,false⟩),
  (178,⟨.struct [(48,0,4),(3,4,1),(165,5,1)],6,80,some (.agg [.int .i64 0,.int .i64 0,.nils,.int .i64 0,.int .i64 0,.nils]),none,false⟩),
  (83,⟨.ptr 139,1,8,some (.nilp),none,false⟩),
  (88,⟨.ptr 112,1,8,some (.nilp),none,false⟩),
  (124,⟨.ptr 170,1,8,some (.nilp),none,false⟩),
  (144,⟨.ptr 190,1,8,some (.nilp),none,false⟩),
  (166,⟨.ptr 178,1,8,some (.nilp),none,false⟩),
  (167,⟨.arr 7 166,7,56,some (.agg [.nilp,.nilp,.nilp,.nilp,.nilp,.nilp,.nilp]),none,false⟩),
  (168,⟨.arr 31 167,217,1736,some (.agg [.nilp,.nilp,.nilp,.nilp,.nilp,.nilp,.nilp,.nilp,.nilp,.nilp,.nilp,.nilp,.nilp,.nilp,.nilp,.nilp,.nilp,.nilp,.nilp,.nilp,.nilp,.nilp,.nilp,.nilp,.nilp,.nilp,.nilp,.nilp,.nilp,.nilp,.nilp,.nilp,.nilp,.nilp,.nilp,.nilp,.nilp,.nilp,.nilp,.nilp,.nilp,.nilp,.nilp,.nilp,.nilp,.nilp,.nilp,.nilp,.nilp,.nilp,.nilp,.nilp,.nilp,.nilp,.nilp,.nilp,.nilp,.nilp,.nilp,.nilp,.nilp,.nilp,.nilp,.nilp,.nilp,.nilp,.nilp,.nilp,.nilp,.nilp,.nilp,.nilp,.nilp,.nilp,.nilp,.nilp,.nilp,.nilp,.nilp,.nilp,.nilp,.nilp,.nilp,.nilp,.nilp,.nilp,.nilp,.nilp,.nilp,.nilp,.nilp,.nilp,.nilp,.nilp,.nilp,.nilp,.nilp,.nilp,.nilp,.nilp,.nilp,.nilp,.nilp,.nilp,.nilp,.nilp,.nilp,.nilp,.nilp,.nilp,.nilp,.nilp,.nilp,.nilp,.nilp,.nilp,.nilp,.nilp,.nilp,.nilp,.nilp,.nilp,.nilp,.nilp,.nilp,.nilp,.nilp,.nilp,.nilp,.nilp,.nilp,.nilp,.nilp,.nilp,.nilp,.nilp,.nilp,.nilp,.nilp,.nilp,.nilp,.nilp,.nilp,.nilp,.nilp,.nilp,.nilp,.nilp,.nilp,.nilp,.nilp,.nilp,.nilp,.nilp,.nilp,.nilp,.nilp,.nilp,.nilp,.nilp,.nilp,.nilp,.nilp,.nilp,.nilp,.nilp,.nilp,.nilp,.nilp,.nilp,.nilp,.nilp,.nilp,.nilp,.nilp,.nilp,.nilp,.nilp,.nilp,.nilp,.nilp,.nilp,.nilp,.nilp,.nilp,.nilp,.nilp,.nilp,.nilp,.nilp,.nilp,.nilp,.nilp,.nilp,.nilp,.nilp,.nilp,.nilp,.nilp,.nilp,.nilp,.nilp,.nilp,.nilp,.nilp,.nilp,.nilp,.nilp,.nilp,.nilp,.nilp,.nilp,.nilp,.nilp,.nilp,.nilp,.nilp]),none,false⟩),
  (174,⟨.ptr 175,1,8,some (.nilp),none,false⟩),
  (187,⟨.ptr 48,1,8,some (.nilp),none,false⟩),
  (188,⟨.arr 7 187,7,56,some (.agg [.nilp,.nilp,.nilp,.nilp,.nilp,.nilp,.nilp]),none,false⟩),
  (194,⟨.ptr 50,1,8,some (.nilp),none,false⟩),
  (190,⟨.arr 31 188,217,1736,some (.agg [.nilp,.nilp,.nilp,.nilp,.nilp,.nilp,.nilp,.nilp,.nilp,.nilp,.nilp,.nilp,.nilp,.nilp,.nilp,.nilp,.nilp,.nilp,.nilp,.nilp,.nilp,.nilp,.nilp,.nilp,.nilp,.nilp,.nilp,.nilp,.nilp,.nilp,.nilp,.nilp,.nilp,.nilp,.nilp,.nilp,.nilp,.nilp,.nilp,.nilp,.nilp,.nilp,.nilp,.nilp,.nilp,.nilp,.nilp,.nilp,.nilp,.nilp,.nilp,.nilp,.nilp,.nilp,.nilp,.nilp,.nilp,.nilp,.nilp,.nilp,.nilp,.nilp,.nilp,.nilp,.nilp,.nilp,.nilp,.nilp,.nilp,.nilp,.nilp,.nilp,.nilp,.nilp,.nilp,.nilp,.nilp,.nilp,.nilp,.nilp,.nilp,.nilp,.nilp,.nilp,.nilp,.nilp,.nilp,.nilp,.nilp,.nilp,.nilp,.nilp,.nilp,.nilp,.nilp,.nilp,.nilp,.nilp,.nilp,.nilp,.nilp,.nilp,.nilp,.nilp,.nilp,.nilp,.nilp,.nilp,.nilp,.nilp,.nilp,.nilp,.nilp,.nilp,.nilp,.nilp,.nilp,.nilp,.nilp,.nilp,.nilp,.nilp,.nilp,.nilp,.nilp,.nilp,.nilp,.nilp,.nilp,.nilp,.nilp,.nilp,.nilp,.nilp,.nilp,.nilp,.nilp,.nilp,.nilp,.nilp,.nilp,.nilp,.nilp,.nilp,.nilp,.nilp,.nilp,.nilp,.nilp,.nilp,.nilp,.nilp,.nilp,.nilp,.nilp,.nilp,.nilp,.nilp,.nilp,.nilp,.nilp,.nilp,.nilp,.nilp,.nilp,.nilp,.nilp,.nilp,.nilp,.nilp,.nilp,.nilp,.nilp,.nilp,.nilp,.nilp,.nilp,.nilp,.nilp,.nilp,.nilp,.nilp,.nilp,.nilp,.nilp,.nilp,.nilp,.nilp,.nilp,.nilp,.nilp,.nilp,.nilp,.nilp,.nilp,.nilp,.nilp,.nilp,.nilp,.nilp,.nilp,.nilp,.nilp,.nilp,.nilp,.nilp,.nilp,.nilp,.nilp,.nilp,.nilp,.nilp,.nilp,.nilp,.nilp,.nilp,.nilp]),none,false⟩)]
theorem ak:TT.ok Tryz.prog Θ:=TT.okB_ok (by kernel_rfl)
theorem mixed:Tryz.prog.follows .mixedOrders=true:=by kernel_rfl
structure Hid (Q:Prop):Prop where
 h:Q
theorem Fc:(∀(p:Prop) [Decidable p],(decide p=true)=p)∧(∀(p:Prop) [Decidable p],(decide p=false)=¬p)∧(∀b:Bool,((!b)=true)=(b=false))∧(∀b:Bool,((!b)=false)=(b=true))∧(∀(α:Type) [BEq α] [LawfulBEq α] (a b:α),((a==b)=true)=(a=b))∧(∀(α:Type) [BEq α] [LawfulBEq α] (a b:α),((a !=b)=true)=¬a=b)∧(∀(α:Type) [BEq α] [LawfulBEq α] (a b:α),((a==b)=false)=¬a=b)∧(∀(α:Type) [BEq α] [LawfulBEq α] (a b:α),((a !=b)=false)=(a=b))∧∀(α:Type) (a b:α),(a≠b)=¬a=b:=by
 refine⟨fun p _=>by simp,fun p _=>by simp,fun b=>by simp,fun b=>by simp,fun α _ _ a b=>by simp,fun α _ _ a b=>by simp,fun α _ _ a b=>by simp,fun α _ _ a b=>by simp,fun α a b=>rfl⟩
theorem cr {P:Program}{h:VH}{n:Nat}{f:FuncId}{vs vs':List V}{K:V→VH→List Nat→Prop}{hin hout:VH}{r:V}{Q:Prop}(hc:aj P f vs' hin r hout)(k:Q)(s:aj P f vs' hin r hout→Hid Q→bh P h n f vs K:=by
  intro hc h
  refine lM ?_
  conv=>whnf
  with_reducible refine dp hc ?_
  conv=>whnf
  exact h.h):bh P h n f vs K:=s hc ⟨k⟩
theorem co {P:Program}{h:VH}{n:Nat}{f:FuncId}{vs vs':List V}{K:V→VH→List Nat→Prop}{hin hout:VH}{r:V}{Q:Prop}(hc:aj P f vs' hin r hout)(k:Q)(s:aj P f vs' hin r hout→Hid Q→bh P h n f vs K:=by
  intro hc h
  refine wU ?_
  conv=>whnf
  with_reducible refine dp hc ?_
  conv=>whnf
  exact h.h):bh P h n f vs K:=s hc ⟨k⟩
theorem sa {α:Type}{P:Prop}{C Q:α→Prop}(h:∀x,C x→Q x)(s:(∀x,C x→Q x)→P:=by
  intro h
  with_reducible first|refine BY (by omega) fun x hx=>?_|refine BX (by omega) (by omega) fun x hx=>?_|refine BT (by omega) fun x hx=>?_|refine xJ (by first|omega|(simp only[List.length_cons,List.length_nil,List.length_set,List.length_append];omega)) fun x hx=>?_
  conv=>whnf
  exact h x hx):P:=s h
theorem sb {b:Bool}{A B C D Q R:Prop}(h:C→Q)(k:D→R)(s:(C→Q)→(D→R)→f4 b A B:=by
  intro h k
  with_reducible refine Ek (fun hq=>?_) (fun hq=>?_)
  ·first|(have _:True→True:=h;((try simp only[Fc] at hq)<;>omega))|((try simp only[Fc] at hq);(conv=>whnf);exact h hq)
  ·first|(have _:True→True:=k;((try simp only[Fc] at hq)<;>omega))|((try simp only[Fc] at hq);(conv=>whnf);exact k hq)):f4 b A B:=s h k
theorem st {P Q:Prop}(h:Q)(s:Hid Q→P:=by
  intro h
  (first|(with_reducible first|apply ci|apply bP)|((first|with_reducible apply bE ak|refine go ?_|(with_reducible first|apply bW|apply b7|apply bC|apply bF|refine bD ak mixed (by kernel_rfl) ?_))<;>conv=>whnf))
  repeat(first|(with_reducible first|apply ci|apply bP)|((first|with_reducible apply bE ak|refine go ?_|(with_reducible first|apply bW|apply b7|apply bC|apply bF|refine bD ak mixed (by kernel_rfl) ?_))<;>conv=>whnf))
  exact h.h):P:=s ⟨h⟩
theorem F5 {P Q:Prop}(h:Q)(s:Hid Q→P:=by
  intro h
  (first|(with_reducible first|apply ci)|((first|with_reducible apply bE ak|refine go ?_|(with_reducible first|apply bW|apply b7|apply bC|apply bF|refine bD ak mixed (by kernel_rfl) ?_))<;>conv=>whnf))
  repeat(first|(with_reducible first|apply ci)|((first|with_reducible apply bE ak|refine go ?_|(with_reducible first|apply bW|apply b7|apply bC|apply bF|refine bD ak mixed (by kernel_rfl) ?_))<;>conv=>whnf))
  exact h.h):P:=s ⟨h⟩
theorem F4 {P Q:Prop}(h:Q)(s:Hid Q→P:=by
  intro h
  (first|(with_reducible first|apply ci)|((first|with_reducible apply bE ak|refine go ?_|(with_reducible first|apply b7|apply bC|apply bF|refine bD ak mixed (by kernel_rfl) ?_))<;>conv=>whnf))
  repeat(first|(with_reducible first|apply ci)|((first|with_reducible apply bE ak|refine go ?_|(with_reducible first|apply b7|apply bC|apply bF|refine bD ak mixed (by kernel_rfl) ?_))<;>conv=>whnf))
  exact h.h):P:=s ⟨h⟩

end Go.Proofs.YthmfppknagbkeaaGreatDoor.Am
