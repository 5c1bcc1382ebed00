/- The plain machine with types: regions. The plain machine with types: control. The plain machine with types: what is no more wanted is forgotten. The plain machine with types: what is no more wanted is forgotten, put together. The plain machine with types: loops, results, contracts. The plain machine with types: how the marks are met. The plain machine with types: a variable with a table of nil pointers. The plain machine with types: a cut between two parts. Plain: marks on rows of numbers, vertices, proposals, as the exact laws set them. Committees and graphs: plain laws. Runs: plain definitio -/
import Derived.Test.YthmfppknagbkeaaGreatRows
import Derived.Test.YthmfppknagbkeaaGreatPL4
set_option linter.unusedSimpArgs false
set_option linter.unusedVariables false
set_option maxHeartbeats 1000000
namespace Go.Proofs.YthmfppknagbkeaaGreat.Am
open Go Go.RowKit
variable {P:Program} {N:Nat}
def qj (a b:List Nat):Bool:=a.all fun x=>!b.contains x
abbrev o6:=List (Nat×List Nat×List Nat)
def jZ (dep:List Nat)(fws:o6)(f ws:List Nat):Bool:=
 fws.all fun x=>(qj x.2.2 f && qj x.2.2 ws && qj ws x.2.1)||dep.contains x.1
def yJ (fws:o6)(f ws:List Nat):Bool:=fws.all fun x=>qj x.2.2 f && qj x.2.2 ws && qj ws x.2.1
theorem yK {dep:List Nat}{fws:o6}{f ws:List Nat}(h:yJ fws f ws=true):jZ dep fws f ws=true:=by
 unfold yJ at h
 unfold jZ
 rw[List.all_eq_true] at h⊢
 intro x hx
 rw[h x hx]
 rfl
theorem yL {dep:List Nat}{fws:o6}:jZ dep fws [] []=true:=by
 unfold jZ
 rw[List.all_eq_true]
 intro x hx
 simp[qj]
def vW (dep:Unit→List Nat)(fws:o6)(f ws:List Nat)(K:Prop):Prop:=
 match yJ fws f ws with
 |true=>K
 |false=>Mk (jZ (dep ()) fws f ws) K
theorem rV {dep:Unit→List Nat}{fws:o6}{f ws:List Nat}{K:Prop}(h:vW dep fws f ws K):jZ (dep ()) fws f ws=true∧K:=by
 unfold vW at h
 split at h
 ·rename_i e;exact⟨yK e,h⟩
 ·exact h
def nu (N:Nat)(dst:Option Tmp):Bool:=match dst with|some d=>Nat.blt d N|none=>true
def tw (dst:Option Nat)(v:V)(t:VT):VT:=match dst with|some k=>(k,v)::t|none=>t
theorem mV (dst:Option Nat)(v:V)(t:VT):dK (tw dst v t)=ep dst v.toD (dK t):=by cases dst<;>rfl
def DF (n:Nat):VH→Nat
 |[]=>0
 |(x,_)::u=>bif Nat.ble n x then DF n u+1 else DF n u
def AH (dst:Option Nat)(v:V)(t:VT)(K:VT→Prop):Prop:=match dst with|some k=>K ((k,v)::t)|none=>K t
theorem tx {dst:Option Nat}{v:V}{t:VT}{K:VT→Prop}(h:AH dst v t K):K (tw dst v t):=by cases dst<;>exact h
theorem yt {l:List Nat}{b x:Nat}:x∈Dv l b↔x∈l∨x=b:=by
 unfold Dv
 split
 ·rename_i h
  refine⟨.inl,fun h'=>h'.elim id fun e=>?_⟩
  subst e
  simpa using h
 ·simp
theorem o7:∀{bs l:List Nat} {x:Nat},x∈dL l bs↔x∈l∨x∈bs
 |[],l,x=>by simp[dL]
 |b::bs,l,x=>by
  simp only[dL,o7,yt,List.mem_cons]
  exact or_assoc
def jg (y x:VB)(A B:Prop):Prop:=(y=x∧A)∨B
def ot (h:VH):VH→(VH→List Nat→Prop)→Prop
 |[],K=>K [] []
 |(k,x)::u,K=>match ay h k with
  |some y=>jg y x (ot h u fun r ds=>K r (k::ds)) (ot h u fun r ds=>K ((k,x)::r) ds)
  |none=>ot h u fun r ds=>K ((k,x)::r) ds
def vo (h u:VH)(K:VH→List Nat→Prop):Prop:=match fE (keysV u) with
 |true=>ot h u K
 |false=>K u []
structure SameOK (h u u':VH)(ds:List Nat):Prop where
 sub:∀k∈keysV u',k∈keysV u
 out:∀k∈ds,k∉keysV u'
 rest:∀k∈keysV u,k∉ds→k∈keysV u'
 new:∀g:VH,∀k,k∉ds→look (puts u' g) k=look (puts u g) k
 old:∀g:VH,∀k∈ds,look (puts u g) k=look h k
theorem pK (h u:VH):SameOK h u u []:=⟨fun _ h=>h,(by simp),fun _ h _=>h,fun _ _ _=>rfl,(by simp)⟩
theorem cC (k:Nat)(x:VB)(u:VH):keysV ((k,x)::u)=k::keysV u:=rfl
theorem sG {u:VH}{k:Nat}(h:k∉keysV u):∀x∈u,x.1≠k:=fun x hx e=>h (by rw[←cT];exact List.mem_map.2 ⟨x,hx,e⟩)
theorem ou {h:VH}:∀{u:VH} {K:VH→List Nat→Prop},(keysV u).Nodup→ot h u K→∃u' ds,SameOK h u u' ds∧(∀k∈ds,k∈keysV u)∧K u' ds
 |[],K,_,hk=>⟨[],[],pK h [],by simp,hk⟩
 |(k,x)::u,K,hn,hk=>by
  rw[cC,List.nodup_cons] at hn
  have keep:(ot h u fun r ds=>K ((k,x)::r) ds)→∃u' ds,SameOK h ((k,x)::u) u' ds∧(∀j∈ds,j∈keysV ((k,x)::u))∧K u' ds:=by
   intro hk
   obtain⟨u',ds,s,hd,hk⟩:=ou hn.2 hk
   refine⟨_,ds,⟨fun j hj=>?_,fun j hj hc=>?_,fun j hj hne=>?_,fun g j hj=>s.new _ j hj,fun g j hj=>s.old _ j hj⟩,fun j hj=>by rw[cC];exact List.mem_cons_of_mem _ (hd j hj),hk⟩
   ·rw[cC] at hj⊢
    rcases List.mem_cons.1 hj with e|hj
    ·rw[e];exact List.mem_cons_self ..
    ·exact List.mem_cons_of_mem _ (s.sub j hj)
   ·rw[cC] at hc
    rcases List.mem_cons.1 hc with e|hc
    ·exact hn.1 (e▸hd j hj)
    ·exact s.out j hj hc
   ·rw[cC] at hj⊢
    rcases List.mem_cons.1 hj with e|hj
    ·rw[e];exact List.mem_cons_self ..
    ·exact List.mem_cons_of_mem _ (s.rest j hj hne)
  simp only[ot] at hk
  split at hk
  ·rename_i y hy
   rw[ax] at hy
   rcases hk with⟨e,hk⟩|hk
   ·subst e
    obtain⟨u',ds,s,hd,hk⟩:=ou hn.2 hk
    refine⟨u',k::ds,⟨fun j hj=>by rw[cC];exact List.mem_cons_of_mem _ (s.sub j hj),fun j hj hc=>?_,fun j hj hne=>?_,fun g j hj=>?_,fun g j hj=>?_⟩,fun j hj=>?_,hk⟩
    ·rcases List.mem_cons.1 hj with e|hj
     ·exact hn.1 (e▸s.sub j hc)
     ·exact s.out j hj hc
    ·rw[cC] at hj
     rcases List.mem_cons.1 hj with e|hj
     ·exact absurd (e▸List.mem_cons_self ..) hne
     ·exact s.rest j hj fun h=>hne (List.mem_cons_of_mem _ h)
    ·have hjk:j≠k:=fun e=>hj (e▸List.mem_cons_self ..)
     show _=look (puts u (put k y g)) j
     rw[s.new g j fun h=>hj (List.mem_cons_of_mem _ h)]
     exact lu u j (by rw[ah,if_neg hjk])
    ·show look (puts u (put k y g)) j=_
     rcases List.mem_cons.1 hj with e|hj
     ·subst e
      rw[av _ _ _ (sG hn.1),ah,if_pos rfl,hy]
     ·exact s.old _ j hj
    ·rw[cC]
     rcases List.mem_cons.1 hj with e|hj
     ·rw[e];exact List.mem_cons_self ..
     ·exact List.mem_cons_of_mem _ (hd j hj)
   ·exact keep hk
  ·exact keep hk
theorem x5 {h u:VH}{K:VH→List Nat→Prop}(hk:vo h u K):∃u' ds,SameOK h u u' ds∧K u' ds:=by
 unfold vo at hk
 split at hk
 ·rename_i e
  obtain⟨u',ds,s,_,hk⟩:=ou (eM e) hk
  exact⟨u',ds,s,hk⟩
 ·exact⟨u,[],pK h u,hk⟩
theorem sL {u:HL}{p:Id→Bool}:∀{g:HL} {b:Id},p b=true→look (puts (u.filter fun x=>p x.1) g) b=look (puts u g) b:=by
 induction u with
 |nil=>intro g b _;rfl
 |cons x u ih=>
  intro g b hp
  by_cases hx:p x.1=true
  ·rw[List.filter_cons_of_pos (by exact hx)]
   exact ih hp
  ·rw[List.filter_cons_of_neg (by exact hx),ih hp]
   have hne:b≠x.1:=fun e=>hx (e▸hp)
   exact aU (u:=u) (by rw[ah,if_neg hne])
theorem StepOK.same {o:Oper}{t:VT}{h u u':VH}{r:V}{gl ds:List Nat}(hs:StepOK P N o t h r u gl)(s:SameOK h u u' ds):StepOK P N o t h r u' (gl++ds):=by
 obtain⟨uu,hU,hS⟩:=hs
 have hin:∀b:Id,b.1∈ds→look (toH (puts u h)) b=look (toH h) b:=fun b hb=>by rw[al,al,s.old h b.1 hb]
 have hout:∀(g:HL) (b:Id),b.1∈ds→look (puts (uu.filter fun x=>!ds.contains x.1.1) g) b=look g b:=fun g b hb=>av _ _ _ fun x hx e=>by
  have:=(List.mem_filter.1 hx).2
  rw[e] at this
  simp[hb] at this
 have hnew:∀(g:HL) (b:Id),b.1∉ds→look (puts (uu.filter fun x=>!ds.contains x.1.1) g) b=look (puts uu g) b:=fun g b hb=>sL (p:=fun b=>!ds.contains b.1) (by simp[hb])
 refine⟨uu.filter fun x=>!ds.contains x.1.1,⟨fun b=>?_,fun x hx=>?_⟩,fun f hf t' h' ht ha w0 S A ρ a w hsim=>?_⟩
 ·by_cases hb:b.1∈ds
  ·rw[hout _ b hb,al,al,av _ _ _ (sG (s.out _ hb))]
  ·rw[hnew _ b hb,hU.1 b,al,al,s.new h b.1 hb]
 ·obtain⟨h1,h2⟩:=List.mem_filter.1 hx
  have h3:=hU.2 x h1
  rw[cT] at h3⊢
  exact s.rest _ h3 (by simpa using h2)
 ·have hw:=hS f (fun k hk=>hf k (List.mem_append_left _ hk)) t' h' ht ha w0 S A ρ a w hsim
  refine Reg.wp_exit_mono (K:=oI P w0 S A N ρ t' h' (puts uu h') a o.dst r.toD) ?_ hw
  rintro a' w' ⟨v,ρ',rfl,hex,q1,q2⟩
  have he:∀b:Id,look (puts (uu.filter fun x=>!ds.contains x.1.1) h') b=look (puts uu h') b:=by
   intro b
   by_cases hb:b.1∈ds
   ·have e1:look (toH h) b=look h' b:=ha b (hf _ (List.mem_append_right _ hb))
    rw[hout _ b hb,←e1,←hin b hb,←hU.1 b]
    exact aU e1
   ·exact hnew _ b hb
  have hL:Live (puts (uu.filter fun x=>!ds.contains x.1.1) h')=Live (puts uu h'):=funext fun b=>by simp only[Live,he]
  have hO:okOf A ρ' (puts (uu.filter fun x=>!ds.contains x.1.1) h') w'=okOf A ρ' (puts uu h') w':=funext fun k=>by simp only[okOf,he]
  refine⟨v,ρ',rfl,hex,q1.congr (fun _=>rfl) he,?_⟩
  rw[hL,hO]
  exact q2
def vI (P:Program)(Θ:TT)(dep:Nat→List Nat)(chk:Bool)(N:Nat)(o:Oper)(k:Nat)(fws:o6)(t:VT)(h:VH)(n:Nat)(K:o6→VSt→Prop):Prop:=
 Chk (nu N o.dst) (A0 P Θ o.op t h n fun d u gl=>AH o.dst d t fun t'=>match u with
  |[]=>(match chk with
   |false=>K fws ⟨t',h,n⟩
   |true=>dC (dL [] gl) fun f=>(match f with
    |[]=>K fws ⟨t',h,n⟩
    |f=>vW (fun _=>dep k) fws f [] (K ((k,f,[])::fws) ⟨t',h,n⟩)))
  |u=>dV (n+DF n u) fun n'=>match chk with
   |false=>Chk (u3 n' u) (kx u h fun h'=>K fws ⟨t',h',n'⟩)
   |true=>vo h u fun u ds=>Chk (u3 n' u) (kx u h fun h'=>dC (dL [] (gl++ds)) fun f=>dC (keysV u) fun ws=>vW (fun _=>dep k) fws f ws (K ((k,f,ws)::fws) ⟨t',h',n'⟩)))
def pO (N:Nat)(o:Oper)(t:VT)(h:VH)(n:Nat)(K:VSt→Prop):Prop:=Chk (nu N o.dst) (AH o.dst (.tup []) t fun t'=>K ⟨t',h,n⟩)
def iK (P:Program)(Θ:TT)(ops:Array Oper)(dep:Nat→List Nat)(chk:Bool)(N:Nat):List Oper→Nat→o6→VSt→(VSt→Prop)→Prop
 |[],_,_,σ,K=>K σ
 |o::l,k,fws,⟨t,h,n⟩,K=>match o.guard with
  |none=>vI P Θ dep chk N o k fws t h n fun fws' σ'=>iK P Θ ops dep chk N l (k+1) fws' σ' K
  |some (g,want)=>(match(ops[g]?).bind (·.dst) with
   |some s=>aQ t s fun v=>(match v with
    | .tt=>(match want with
      |true=>vI P Θ dep chk N o k fws t h n fun fws' σ'=>iK P Θ ops dep chk N l (k+1) fws' σ' K
      |false=>pO N o t h n fun σ'=>iK P Θ ops dep chk N l (k+1) fws σ' K)
    | .ff=>(match want with
      |false=>vI P Θ dep chk N o k fws t h n fun fws' σ'=>iK P Θ ops dep chk N l (k+1) fws' σ' K
      |true=>pO N o t h n fun σ'=>iK P Θ ops dep chk N l (k+1) fws σ' K)
    | .bool b=>kR b
     (match want with
      |true=>vI P Θ dep chk N o k fws ((s,.tt)::t) h n fun fws' σ'=>iK P Θ ops dep chk N l (k+1) fws' σ' K
      |false=>pO N o ((s,.tt)::t) h n fun σ'=>iK P Θ ops dep chk N l (k+1) fws σ' K)
     (match want with
      |false=>vI P Θ dep chk N o k fws ((s,.ff)::t) h n fun fws' σ'=>iK P Θ ops dep chk N l (k+1) fws' σ' K
      |true=>pO N o ((s,.ff)::t) h n fun σ'=>iK P Θ ops dep chk N l (k+1) fws σ' K)
    | .tup []=>pO N o t h n fun σ'=>iK P Θ ops dep chk N l (k+1) fws σ' K
    |_=>False)
   |none=>False)
theorem OpS.congr {o:Oper}{t t':List (Nat×D)}{h h':HL}{d:D}{u:HL}{f:List Nat}(ht:∀x,look t x=look t' x)(hh:∀b,look h b=look h' b)(hd:OpS P N o t h d u f):OpS P N o t' h' d u f:=
 fun t2 h2 e1 e2=>hd t2 h2 (fun x hx=>(ny fun k _=>ht k).trans (e1 x hx)) fun b hb=>(hh b).trans (e2 b hb)
theorem TRun.congr {ops:Array Oper}:∀{L:List (Oper×Rc)} {t t':List (Nat×D)} {h h':HL} {n:Nat},(∀x,look t x=look t' x)→(∀b,look h b=look h' b)→TRun P ops N t h n L→TRun P ops N t' h' n L
 |[],_,_,_,_,_,_,_,_=>trivial
 |(o,r)::L,t,t',h,h',n,he,hh,⟨h1,h2,h3⟩=>by
  refine⟨h1,?_,TRun.congr (fun x=>?_) (fun b=>aU (hh b)) h3⟩
  ·have hg:bF ops t o=bF ops t' o:=j9 fun k _=>he k
   rcases h2 with⟨g1,g2⟩|⟨g1,g2⟩
   ·exact .inl ⟨hg▸g1,g2.congr he hh⟩
   ·exact .inr ⟨hg▸g1,g2⟩
  ·rw[dm,dm,he x]
def Fo (k:Nat)(pre:List (Oper×Rc))(fws:o6):Prop:=
 pre.length=k∧∀i o r,pre[i]?=some (o,r)→(r.u≠[]∨r.f≠[])→∃f ws,(i,f,ws)∈fws∧(∀x∈r.u,x.1.1∈ws)∧∀x∈r.f,x∈f
theorem lI:∀(k k':Nat) (l:List (Oper×Rc)) (t:List (Nat×D)),fK (fun _=>true) k l t=fK (fun _=>true) k' l t
 |_,_,[],_=>rfl
 |k,k',(o,r)::l,t=>lI (k+1) (k'+1) l _
theorem lH:∀(k k':Nat) (l:List (Oper×Rc)) (t:HL),fe (fun _=>true) k l t=fe (fun _=>true) k' l t
 |_,_,[],_=>rfl
 |k,k',(o,r)::l,t=>lH (k+1) (k'+1) l _
def jm (σ:VSt):Prop:=∀c:Id,σ.n≤c.1→look (toH σ.h) c=none
def Runs (P:Program)(N:Nat)(ops:Array Oper)(dep:Nat→List Nat)(chk:Bool)(l:List Oper)(k:Nat)(fws:o6)(σ σ':VSt):Prop:=
 ∀pre:List (Oper×Rc),(chk=true→Fo k pre fws)→∃L:List (Oper×Rc),L.map (·.1)=l∧TRun P ops N (dK σ.t) (toH σ.h) σ.n L∧
  (∀x,look (dK σ'.t) x=look (fK (fun _=>true) 0 L (dK σ.t)) x)∧(∀x,look (toH σ'.h) x=look (fe (fun _=>true) 0 L (toH σ.h)) x)∧
  jm σ'∧
  (chk=true→∀i j oi ri oj rj,i<k+j→(pre++L)[i]?=some (oi,ri)→L[j]?=some (oj,rj)→(dep (k+j)).contains i=false→(∀x∈ri.u,x.1.1∉rj.f∧∀y∈rj.u,x.1.1≠y.1.1)∧(∀x∈rj.u,x.1.1∉ri.f))
variable {ops:Array Oper} {dep:Nat→List Nat} {chk:Bool}
theorem Runs.nil {k:Nat}{fws:o6}{σ:VSt}(hn:jm σ):Runs P N ops dep chk [] k fws σ σ:=fun pre _=>
 ⟨[],rfl,trivial,fun _=>rfl,fun _=>rfl,hn,fun _ i j oi ri oj rj _ _ hj=>by simp at hj⟩
theorem Runs.congr {l:List Oper}{k:Nat}{fws:o6}{σ τ σ':VSt}(h:Runs P N ops dep chk l k fws τ σ')(ht:∀x,look (dK τ.t) x=look (dK σ.t) x)(hh:τ.h=σ.h)(hn:τ.n=σ.n):Runs P N ops dep chk l k fws σ σ':=by
 intro pre hpre
 obtain⟨L,h1,h2,h3,h4,h5,h6⟩:=h pre hpre
 rw[hh] at h2 h4
 rw[hn] at h2
 exact⟨L,h1,h2.congr ht (fun _=>rfl),fun x=>by rw[h3];exact i9 _ L 0 _ _ x (ht x),h4,h5,h6⟩
theorem qk {a b:List Nat}(h:qj a b=true):∀x∈a,x∉b:=by
 intro x hx
 unfold qj at h
 rw[List.all_eq_true] at h
 simpa using h x hx
theorem Runs.step {o:Oper}{l:List Oper}{k:Nat}{fws:o6}{σ σ':VSt}{d:V}{u:VH}{gl:List Nat}{n':Nat}(hg:bF ops (dK σ.t) o=some true)(hd:nu N o.dst=true)(ha:StepOK P N o σ.t σ.h d u gl)(hn:σ.n≤n')(hu:u3 n' u=true)
  (hc:chk=true→jZ (dep k) fws gl (keysV u)=true) {fws':o6} (hf:chk=true→fws'=(k,gl,keysV u)::fws∨(fws'=fws∧gl=[]∧u=[])) (h:Runs P N ops dep chk l (k+1) fws' ⟨tw o.dst d σ.t,puts u σ.h,n'⟩ σ'):Runs P N ops dep chk (o::l) k fws σ σ':=by
 intro pre hpre
 obtain⟨uu,hU,hS⟩:=ha
 have hS:=hS gl fun k hk=>hk
 let r:Rc:=⟨d.toD,uu,gl,σ.n,n'⟩
 have huk:∀x∈uu,x.1.1∈keysV u:=fun x hx=>by rw[←cT];exact hU.2 x hx
 obtain⟨L,h1,h2,h3,h4,h5,h6⟩:=h (pre++[(o,r)]) (fun hchk=>by
  obtain⟨q1,q2⟩:=hpre hchk
  refine⟨by simp[q1],fun i o' r' hi hne=>?_⟩
  have hmono:∀x∈fws,x∈fws':=by
   intro x hx
   rcases hf hchk with e|⟨e,_⟩
   ·rw[e];exact List.mem_cons_of_mem _ hx
   ·rw[e];exact hx
  rcases Nat.lt_or_ge i pre.length with hlt|hge
  ·rw[List.getElem?_append_left hlt] at hi
   obtain⟨f,ws,a1,a2⟩:=q2 i o' r' hi hne
   exact⟨f,ws,hmono _ a1,a2⟩
  ·rw[List.getElem?_append_right hge] at hi
   have:i-pre.length=0:=by
    have:=(List.getElem?_eq_some_iff.1 hi).1
    simpa using this
   rw[this] at hi
   simp only[List.getElem?_cons_zero,Option.some.injEq,Prod.mk.injEq] at hi
   obtain⟨rfl,rfl⟩:=hi
   have hik:i=k:=by omega
   rcases hf hchk with e|⟨_,e1,e2⟩
   ·rw[hik,e]
    exact⟨gl,keysV u,List.mem_cons_self ..,huk,fun x hx=>hx⟩
   ·exfalso
    rcases hne with hne|hne
    ·refine hne ?_
     show uu=[]
     cases huu:uu with
     |nil=>rfl
     |cons x l=>have:=huk x (by rw[huu];exact List.mem_cons_self ..);rw[e2] at this;cases this
    ·exact hne e1)
 have hdst:∀x,o.dst=some x→x<N:=by
  intro x hx
  simpa[nu,hx,Nat.blt_eq] using hd
 rw[mV] at h2
 have h2':=h2.congr (fun _=>rfl) (fun b=>(hU.1 b).symm)
 refine⟨(o,r)::L,by simp[h1],⟨⟨rfl,hn,fun x hx=>qL hu _ (hU.2 x hx),hdst⟩,.inl ⟨hg,hS⟩,h2'⟩,fun x=>(h3 x).trans ?_,fun x=>(h4 x).trans ?_,h5,fun hchk i j oi ri oj rj hij hi hj hdp=>?_⟩
 ·show look (fK _ 0 L (dK (tw o.dst d σ.t))) x=look (fK _ 1 L (if(fun _=>true) 0=true then _ else _)) x
  simp only[if_true,mV]
  rw[lI 0 1]
 ·show look (fe _ 0 L (toH (puts u σ.h))) x=look (fe _ 1 L (if(fun _=>true) 0=true then _ else _)) x
  simp only[if_true]
  rw[lH 0 1]
  exact i7 _ L 1 _ _ x (hU.1 x).symm
 ·cases j with
  |zero=>
   simp only[List.getElem?_cons_zero,Option.some.injEq,Prod.mk.injEq] at hj
   obtain⟨rfl,rfl⟩:=hj
   obtain⟨q1,q2⟩:=hpre hchk
   rw[List.getElem?_append_left (by omega)] at hi
   by_cases hne:ri.u≠[]∨ri.f≠[]
   ·obtain⟨f0,ws0,hm,m1,m2⟩:=q2 i oi ri hi hne
    have hcf:=hc hchk
    unfold jZ at hcf
    rw[List.all_eq_true] at hcf
    have:=hcf _ hm
    simp only[Nat.add_zero] at hdp
    simp only[hdp,Bool.or_false,Bool.and_eq_true] at this
    obtain⟨⟨c1,c2⟩,c3⟩:=this
    exact⟨fun x hx=>⟨qk c1 _ (m1 x hx),fun y hy he=>qk c2 _ (m1 x hx) (he▸huk y hy)⟩,fun x hx hxf=>qk c3 _ (huk x hx) (m2 _ hxf)⟩
   ·have e1:ri.u=[]:=by
     rcases Classical.em (ri.u=[]) with h|h
     ·exact h
     ·exact absurd (.inl h) hne
    have e2:ri.f=[]:=by
     rcases Classical.em (ri.f=[]) with h|h
     ·exact h
     ·exact absurd (.inr h) hne
    rw[e1,e2]
    exact⟨fun x hx=>(by cases hx),fun x hx h=>(by cases h)⟩
  |succ j=>
   refine h6 hchk i j oi ri oj rj (by omega) (by simpa using hi) (by simpa using hj) (by rw[show k+1+j=k+(j+1) by omega];exact hdp)
theorem Runs.skip {o:Oper}{l:List Oper}{k:Nat}{fws:o6}{σ σ':VSt}(hg:bF ops (dK σ.t) o=some false)(hd:nu N o.dst=true)(h:Runs P N ops dep chk l (k+1) fws ⟨tw o.dst (.tup []) σ.t,σ.h,σ.n⟩ σ'):Runs P N ops dep chk (o::l) k fws σ σ':=by
 intro pre hpre
 let r:Rc:=⟨.tup [],[],[],σ.n,σ.n⟩
 obtain⟨L,h1,h2,h3,h4,h5,h6⟩:=h (pre++[(o,r)]) (fun hchk=>by
  obtain⟨q1,q2⟩:=hpre hchk
  refine⟨by simp[q1],fun i o' r' hi hne=>?_⟩
  rcases Nat.lt_or_ge i pre.length with hlt|hge
  ·rw[List.getElem?_append_left hlt] at hi
   exact q2 i o' r' hi hne
  ·rw[List.getElem?_append_right hge] at hi
   have:i-pre.length=0:=by
    have:=(List.getElem?_eq_some_iff.1 hi).1
    simpa using this
   rw[this] at hi
   simp only[List.getElem?_cons_zero,Option.some.injEq,Prod.mk.injEq] at hi
   obtain⟨rfl,rfl⟩:=hi
   simp[r] at hne)
 have hdst:∀x,o.dst=some x→x<N:=by
  intro x hx
  simpa[nu,hx,Nat.blt_eq] using hd
 rw[mV] at h2
 refine⟨(o,r)::L,by simp[h1],⟨⟨rfl,Nat.le_refl _,by simp[r],hdst⟩,.inr ⟨hg,rfl,rfl,rfl⟩,h2⟩,fun x=>(h3 x).trans ?_,fun x=>(h4 x).trans ?_,h5,fun hchk i j oi ri oj rj hij hi hj hdp=>?_⟩
 ·show look (fK _ 0 L (dK (tw o.dst (.tup []) σ.t))) x=look (fK _ 1 L (if(fun _=>true) 0=true then _ else _)) x
  simp only[if_true,mV]
  rw[lI 0 1]
  rfl
 ·show look (fe _ 0 L (toH σ.h)) x=look (fe _ 1 L (if(fun _=>true) 0=true then _ else _)) x
  simp only[if_true]
  rw[lH 0 1]
  rfl
 ·cases j with
  |zero=>
   simp only[List.getElem?_cons_zero,Option.some.injEq,Prod.mk.injEq] at hj
   obtain⟨rfl,rfl⟩:=hj
   refine⟨fun x hx=>⟨by simp[r],by simp[r]⟩,by simp[r]⟩
  |succ j=>
   refine h6 hchk i j oi ri oj rj (by omega) (by simpa using hi) (by simpa using hj) (by rw[show k+1+j=k+(j+1) by omega];exact hdp)
theorem rI {gl:List Nat}{o:Oper}{t:VT}{h:VH}{r:V}{u:VH}(hs:StepOK P N o t h r u gl):StepOK P N o t h r u (dL [] gl):=dq hs fun k hk=>o7.2 (.inr hk)
theorem CW {Θ:TT}(hΘ:Θ.ok P){o:Oper}{k:Nat}{fws:o6}{σ:VSt}(hfr:jm σ){K:o6→VSt→Prop}(h:vI P Θ dep chk N o k fws σ.t σ.h σ.n K):
  ∃(d:V) (u:VH) (gl:List Nat) (n':Nat) (fws':o6),nu N o.dst=true∧StepOK P N o σ.t σ.h d u gl∧σ.n≤n'∧u3 n' u=true∧(chk=true→jZ (dep k) fws gl (keysV u)=true)∧
   (chk=true→fws'=(k,gl,keysV u)::fws∨(fws'=fws∧gl=[]∧u=[]))∧K fws' ⟨tw o.dst d σ.t,puts u σ.h,n'⟩:=by
 obtain⟨hd,h1⟩:=Chk.ok h
 obtain⟨d,u,gl,ha0,h2⟩:=A1 (N:=N) hΘ hfr h1
 have ha:=rI ha0
 have h3:=tx h2
 split at h3
 ·split at h3
  ·exact⟨d,[],_,σ.n,fws,hd,ha,Nat.le_refl _,rfl,fun hc=>(by cases hc),fun hc=>(by cases hc),h3⟩
  ·have h4:=bd h3
   split at h4
   ·rename_i e
    exact⟨d,[],_,σ.n,fws,hd,ha,Nat.le_refl _,rfl,fun _=>by rw[e];exact yL,fun _=>.inr ⟨rfl,e,rfl⟩,h4⟩
   ·obtain⟨h5,h6⟩:=rV h4
    exact⟨d,[],_,σ.n,_,hd,ha,Nat.le_refl _,rfl,fun _=>h5,fun _=>.inl rfl,h6⟩
 ·have h4:=aV h3
  split at h4
  ·obtain⟨hl,h5⟩:=h4.ok
   have h6:=fb h5
   exact⟨d,_,_,_,fws,hd,ha,Nat.le_add_right _ _,hl,fun hc=>(by cases hc),fun hc=>(by cases hc),h6⟩
  ·obtain⟨u',ds,s,h5⟩:=x5 h4
   obtain⟨hl,h5⟩:=h5.ok
   have h6:=fb h5
   have ha2:=rI (ha0.same s)
   obtain⟨h7,h8⟩:=rV (bd (bd h6))
   exact⟨d,_,_,_,_,hd,ha2,Nat.le_add_right _ _,hl,fun _=>h7,fun _=>.inl rfl,h8⟩
theorem uF {o:Oper}{t:VT}{h:VH}{n n':Nat}{d:V}{u:VH}{gl:List Nat}(hn:∀c:Id,n≤c.1→look (toH h) c=none)(hle:n≤n')(ha:StepOK P N o t h d u gl)(hu:u3 n' u=true){t':VT}:jm ⟨t',puts u h,n'⟩:=by
 obtain⟨uu,hU,_⟩:=ha
 exact pk (n:=n') (fun c hc=>hn c (Nat.le_trans hle hc)) hU hu
theorem dk {o:Oper}{t:VT}{g s:Nat}{want b:Bool}{v:V}(h1:o.guard=some (g,want))(h2:(ops[g]?).bind (·.dst)=some s)(h3:look t s=some v)(hv:v.toD= .bool b):bF ops (dK t) o=some (b==want):=by
 unfold bF
 rw[h1]
 simp only[h2,bD,h3,Option.map_some,hv]
theorem iw {t:VT}{s:Nat}{v v':V}(h:look t s=some v)(he:v'.toD=v.toD)(x:Nat):look (dK ((s,v')::t)) x=look (dK t) x:=by
 rw[bD,bD]
 show Option.map _ (if x=s then _ else _)=_
 split
 ·rename_i e;subst e;rw[h];simp[he]
 ·rfl
theorem kN {Θ:TT}(hΘ:Θ.ok P):∀{l:List Oper} {k:Nat} {fws:o6} {σ:VSt} {K:VSt→Prop},jm σ→iK P Θ ops dep chk N l k fws σ K→∃σ',K σ'∧Runs P N ops dep chk l k fws σ σ'
 |[],k,fws,σ,K,hn,h=>⟨σ,h,Runs.nil hn⟩
 |o::l,k,fws,σ,K,hn,h=>by
  have run:∀σ:VSt,jm σ→bF ops (dK σ.t) o=some true→(vI P Θ dep chk N o k fws σ.t σ.h σ.n fun fws' σ'=>iK P Θ ops dep chk N l (k+1) fws' σ' K)→∃σ',K σ'∧Runs P N ops dep chk (o::l) k fws σ σ':=by
   intro σ hn hg h
   obtain⟨d,u,gl,n',fws',h1,h2,h3,h4,h5,h6,h7⟩:=CW hΘ hn h
   obtain⟨σ',h9,h10⟩:=kN hΘ (uF hn h3 h2 h4) h7
   exact⟨σ',h9,Runs.step hg h1 h2 h3 h4 h5 h6 h10⟩
  have skip:∀σ:VSt,jm σ→bF ops (dK σ.t) o=some false→(pO N o σ.t σ.h σ.n fun σ'=>iK P Θ ops dep chk N l (k+1) fws σ' K)→∃σ',K σ'∧Runs P N ops dep chk (o::l) k fws σ σ':=by
   intro σ hn hg h
   obtain⟨hd,h7⟩:=Chk.ok h
   have h7:=tx h7
   obtain⟨σ',h8,h9⟩:=kN (σ:=⟨tw o.dst (.tup []) σ.t,σ.h,σ.n⟩) hΘ hn h7
   exact⟨σ',h8,Runs.skip hg hd h9⟩
  obtain⟨st,sh,sn⟩:=σ
  unfold iK at h
  split at h
  ·rename_i e
   exact run ⟨st,sh,sn⟩ hn (by unfold bF;rw[e]) h
  ·rename_i g want e
   split at h
   ·rename_i s es
    obtain⟨v,h1,h2⟩:=ap h
    split at h2
    ·cases want with
     |true=>exact run ⟨st,sh,sn⟩ hn (dk e es (b:=true) h1 rfl) h2
     |false=>exact skip ⟨st,sh,sn⟩ hn (dk e es (b:=true) h1 rfl) h2
    ·cases want with
     |true=>exact skip ⟨st,sh,sn⟩ hn (dk e es (b:=false) h1 rfl) h2
     |false=>exact run ⟨st,sh,sn⟩ hn (dk e es (b:=false) h1 rfl) h2
    ·rename_i b
     cases b with
     |true=>
      have h3:=h2.1 rfl
      have hsh:∀x,look (dK ((s,.tt)::st)) x=look (dK st) x:=iw h1 rfl
      cases want with
      |true=>
       obtain⟨σ',k1,k2⟩:=run ⟨(s,.tt)::st,sh,sn⟩ hn (dk e es (b:=true) (v:=.tt) (by simp[look]) rfl) h3
       exact⟨σ',k1,k2.congr hsh rfl rfl⟩
      |false=>
       obtain⟨σ',k1,k2⟩:=skip ⟨(s,.tt)::st,sh,sn⟩ hn (dk e es (b:=true) (v:=.tt) (by simp[look]) rfl) h3
       exact⟨σ',k1,k2.congr hsh rfl rfl⟩
     |false=>
      have h3:=h2.2 rfl
      have hsh:∀x,look (dK ((s,.ff)::st)) x=look (dK st) x:=iw h1 rfl
      cases want with
      |true=>
       obtain⟨σ',k1,k2⟩:=skip ⟨(s,.ff)::st,sh,sn⟩ hn (dk e es (b:=false) (v:=.ff) (by simp[look]) rfl) h3
       exact⟨σ',k1,k2.congr hsh rfl rfl⟩
      |false=>
       obtain⟨σ',k1,k2⟩:=run ⟨(s,.ff)::st,sh,sn⟩ hn (dk e es (b:=false) (v:=.ff) (by simp[look]) rfl) h3
       exact⟨σ',k1,k2.congr hsh rfl rfl⟩
    ·refine skip ⟨st,sh,sn⟩ hn ?_ h2
     unfold bF
     rw[e]
     simp only[es,bD,h1,Option.map_some,V.toD,af]
    ·exact h2.elim
   ·exact h.elim
end Go.Proofs.YthmfppknagbkeaaGreat.Am
namespace Go.Proofs.YthmfppknagbkeaaGreat.Am
open Go Go.RowKit
variable {P:Program} {N:Nat} {K:Id→Prop}
def At (P:Program)(N:Nat)(K:Id→Prop)(c:Code)(Q:Exit→VSt→Prop)(σ:VSt):Prop:=∃e σ',Brings P N K c σ.toD e σ'.toD∧(ec P N K σ'.toD→Q e σ')
theorem fy {c:Code}{σ:St}(h:¬ec P N K σ)(e:Exit)(σ':St):Brings P N K c σ e σ':=fun w0 S A ρ0 a w hs=>absurd ⟨w0,S,A,ρ0,a,w,hs⟩ h
variable {Q:Exit→VSt→Prop} {σ:VSt}
theorem At.real {c:Code}(h:ec P N K σ.toD→At P N K c Q σ):At P N K c Q σ:=by
 rcases Classical.em (ec P N K σ.toD) with hr|hr
 ·exact h hr
 ·exact⟨.normal,σ,fy hr _ _,fun h=>absurd h hr⟩
theorem At.mono {c:Code}{Q':Exit→VSt→Prop}(h:At P N K c Q σ)(hq:∀e σ,Q e σ→Q' e σ):At P N K c Q' σ:=by
 obtain⟨e,σ',h1,h2⟩:=h
 exact⟨e,σ',h1,fun hr=>hq _ _ (h2 hr)⟩
def FZ (next:VSt→Prop)(Q:Exit→VSt→Prop):Exit→VSt→Prop
 | .normal,σ=>next σ
 |e,σ=>Q e σ
def ue (id:Nat)(Q:Exit→VSt→Prop):Exit→VSt→Prop
 | .exit id',σ=>bif Nat.beq id' id then Q .normal σ else Q (.exit id') σ
 |e,σ=>Q e σ
theorem bP (h:Q .normal σ):At P N K .skip Q σ:=⟨.normal,σ,.skip,fun _=>h⟩
theorem b7 (h:Q .ret σ):At P N K .ret Q σ:=⟨.ret,σ,.ret,fun _=>h⟩
theorem bM {id:Nat}(h:Q (.exit id) σ):At P N K (.exit id) Q σ:=⟨.exit id,σ,.exit,fun _=>h⟩
theorem cQ {x y:Code}(h:At P N K x (FZ (At P N K y Q) Q) σ):At P N K (.seq x y) Q σ:=by
 obtain⟨e,σ1,h1,h2⟩:=h
 rcases Classical.em (ec P N K σ1.toD) with hr|hr
 ·cases e with
  |normal=>
   obtain⟨e2,σ2,h3,h4⟩:=h2 hr
   exact⟨e2,σ2,.seqN h1 h3,h4⟩
  |_=>exact⟨_,σ1,.seqX (by simp) h1,fun hr=>h2 hr⟩
 ·cases e with
  |normal=>exact⟨.normal,σ1,.seqN h1 (fy hr _ _),fun h=>absurd h hr⟩
  |_=>exact⟨_,σ1,.seqX (by simp) h1,fun h=>absurd h hr⟩
theorem ca {id:Nat}{c:Code}(h:At P N K c (ue id Q) σ):At P N K (.block id c) Q σ:=by
 obtain⟨e,σ1,h1,h2⟩:=h
 cases e with
 |exit id'=>
  by_cases hid:id'=id
  ·subst hid
   exact⟨.normal,σ1,.blockE h1,fun hr=>by have:=h2 hr;simpa only[ue,Nat.beq_refl,cond_true] using this⟩
  ·refine⟨.exit id',σ1,.blockX (by simp[hid]) h1,fun hr=>?_⟩
   have hb:Nat.beq id' id=false:=by
    cases hb:Nat.beq id' id with
    |false=>rfl
    |true=>exact absurd (Nat.eq_of_beq_eq_true hb) hid
   have:=h2 hr
   simpa only[ue,hb,cond_false] using this
 |_=>exact⟨_,σ1,.blockX (by simp) h1,h2⟩
def C5 (c:Operand)(σ:VSt)(A B:VSt→Prop):Prop:=
 match c,σ with
 | .tmp s,⟨t,h,n⟩=>aQ t s fun v=>(match v with
  | .tt=>A ⟨t,h,n⟩
  | .ff=>B ⟨t,h,n⟩
  | .bool b=>kR b (A ⟨(s,.tt)::t,h,n⟩) (B ⟨(s,.ff)::t,h,n⟩)
  |_=>False)
 | .const (.bool true),σ=>A σ
 | .const (.bool false),σ=>B σ
 |_,_=>False
theorem SimS.congr {w0:World}{S:SD}{A:Nat→Prop}{ρ0:Id→Pl}{a:Act}{w:World}{σ σ':St}(h:SimS P w0 S A N ρ0 K σ a w)(ht:∀x,look σ'.t x=look σ.t x)(hh:∀x,look σ'.h x=look σ.h x)(hn:σ'.n=σ.n):SimS P w0 S A N ρ0 K σ' a w:=by
 obtain⟨h1,h2,ρ,h3,h4⟩:=h
 refine⟨fun b hb=>by rw[hh];exact h1 b (by omega),fun b hb=>?_,ρ,h3,h4.congr ht hh⟩
 have:=h2 b hb
 unfold Live at this⊢
 rw[hh]
 exact this
theorem me {s:Nat}{v v':V}(h:look σ.t s=some v)(he:v'.toD=v.toD):Weak P N K σ.toD (VSt.toD ⟨(s,v')::σ.t,σ.h,σ.n⟩):=
 fun _ _ _ _ _ _ hs=>hs.congr (fun x=>iw h he x) (fun _=>rfl) rfl
theorem ck {c:Operand}{x y:Code}(h:C5 c σ (At P N K x Q) (At P N K y Q)):At P N K (.cond c x y) Q σ:=by
 unfold C5 at h
 split at h
 ·rename_i s st sh sn
  obtain⟨v,h1,h2⟩:=ap h
  split at h2
  ·obtain⟨e,σ1,h3,h4⟩:=h2
   exact⟨e,σ1,.condT (by simp only[aA,VSt.toD,bD,h1,Option.map_some,V.toD]) h3,h4⟩
  ·obtain⟨e,σ1,h3,h4⟩:=h2
   exact⟨e,σ1,.condF (by simp only[aA,VSt.toD,bD,h1,Option.map_some,V.toD]) h3,h4⟩
  ·rename_i b
   have hev:aA (VSt.toD ⟨st,sh,sn⟩).t (.tmp s)=some (.bool b):=by simp only[aA,VSt.toD,bD,h1,Option.map_some,V.toD]
   cases b with
   |true=>
    obtain⟨e,σ1,h3,h4⟩:=h2.1 rfl
    exact⟨e,σ1,.condT hev (.pre (me (σ:=⟨st,sh,sn⟩) h1 rfl) h3),h4⟩
   |false=>
    obtain⟨e,σ1,h3,h4⟩:=h2.2 rfl
    exact⟨e,σ1,.condF hev (.pre (me (σ:=⟨st,sh,sn⟩) h1 rfl) h3),h4⟩
  ·exact h2.elim
 ·obtain⟨e,σ1,h3,h4⟩:=h
  exact⟨e,σ1,.condT rfl h3,h4⟩
 ·obtain⟨e,σ1,h3,h4⟩:=h
  exact⟨e,σ1,.condF rfl h3,h4⟩
 ·exact h.elim
theorem rM {c:Code}(h:jm σ→At P N K c Q σ):At P N K c Q σ:=by
 rcases Classical.em (jm σ) with hr|hr
 ·exact h hr
 ·refine At.real fun⟨w0,S,A,ρ0,a,w,hs⟩=>absurd hs.1 hr
theorem bO {Θ:TT}(hΘ:Θ.ok P){id:Nat}{ops:Array Oper}(h:iK P Θ ops (fun _=>[]) false N ops.toList 0 [] σ (Q .normal)):At P N K (.region id ops false) Q σ:=by
 refine rM fun hn=>?_
 obtain⟨σ',h1,h2⟩:=kN hΘ hn h
 obtain⟨L,l1,l2,l3,l4,l5,_⟩:=h2 [] fun h=>by cases h
 exact⟨.normal,σ',.regionS l1 l2 l3 l4 fun _=>l5,fun _=>h1⟩
def Fp (o:Oper):Nat:=o.after.toList.foldl (fun m e=>bif Region.binds .any e then m|||(1<<<e.on) else m) 0
def Dw (ops:List Oper):Nat→Nat→Nat
 |0,m=>m
 |j+1,m=>match m.testBit j with
  |true=>Dw ops j (m|||(match ops[j]? with|some o=>Fp o|none=>0))
  |false=>Dw ops j m
def DL (ops:Array Oper)(k:Nat):List Nat:=
 match ops.toList[k]? with
 |some o=>(List.range k).filter fun i=>(Dw ops.toList k (Fp o)).testBit i
 |none=>[]
theorem bN {Θ:TT}(hΘ:Θ.ok P)(hm:P.follows .mixedOrders=true){id:Nat}{ops:Array Oper}(hok:Reg.okB ops (DL ops)=true)(h:iK P Θ ops (DL ops) true N ops.toList 0 [] σ (Q .normal)):At P N K (.region id ops true) Q σ:=by
 refine rM fun hn=>?_
 obtain⟨σ',h1,h2⟩:=kN hΘ hn h
 obtain⟨L,l1,l2,l3,l4,l5,l6⟩:=h2 [] fun _=>⟨rfl,fun i o r hi=>by simp at hi⟩
 refine⟨.normal,σ',(.regionD (DL ops) hm hok l1 l2 ?_ l3 l4 fun _=>l5),fun _=>h1⟩
 intro i j oi ri oj rj hij hi hj hdp
 exact l6 rfl i j oi ri oj rj (by omega) (by simpa using hi) hj (by simpa using hdp)
end Go.Proofs.YthmfppknagbkeaaGreat.Am
namespace Go.Proofs.YthmfppknagbkeaaGreat.Am
open Go Go.RowKit
variable {P:Program} {N:Nat} {K:Id→Prop} {os:List Nat} {n:Nat} {h:VH}
def Gu (h:VH)(b:Nat):Bool:=match ay h b with
 |some (.row ..)|some (.lit ..)|some (.var ..)|some (.vari ..)=>true
 |_=>false
def Ae (h:VH):List Nat→List Nat
 |[]=>[]
 |b::l=>match Nat.ble 4 b && Gu h b with|true=>b::Ae h l|false=>Ae h l
def sv:VB→List Nat
 | .var _ cs=>dy cs
 | .vari _ pre _ _ _ post=>dy pre++dy post
 | .lit _ vs=>dy vs
 |_=>[]
def qD (h:VH):Nat→Nat→List Nat→(List Nat→Prop)→Prop
 |0,_,l,K=>K l
 |k+1,i,l,K=>match l[i]? with
  |none=>K l
  |some b=>dC (dL l (Ae h (match ay h b with|some x=>sv x|none=>[]))) fun l=>qD h k (i+1) l K
theorem po {h:VH}:∀{k i:Nat} {l:List Nat} {K:List Nat→Prop},qD h k i l K→∃l,K l
 |0,_,l,_,hk=>⟨l,hk⟩
 |k+1,i,l,K,hk=>by
  simp only[qD] at hk
  split at hk
  ·exact⟨_,hk⟩
  ·have hk:=bd hk
   exact po hk
def qE (h:VH)(l:List Nat)(K:List Nat→Prop):Prop:=dC l fun l=>qD h 60 0 l K
theorem nH {h:VH}{l:List Nat}{K:List Nat→Prop}(hk:qE h l K):∃l,K l:=po (bd hk)
def C8:VT→List Nat
 |[]=>[]
 |(_,v)::l=>dM v++C8 l
mutual
def bc (os:List Nat)(v:V)(K:V→Prop):Prop:=
 match v with
 | .ref b=>lB b os 4 fun r=>(match r with|some i=>K (.ref i)|none=>False)
 | .ptr b o=>lB b os 4 fun r=>(match r with|some i=>K (.ptr i o)|none=>False)
 | .eptr b j o=>lB b os 4 fun r=>(match r with|some i=>K (.eptr i j o)|none=>False)
 | .vref b o q=>lB b os 4 fun r=>(match r with|some i=>K (.vref i o q)|none=>False)
 | .aptr b p j=>lB b os 4 fun r=>(match r with|some i=>K (.aptr i p j)|none=>False)
 | .fref k i=>Chk (Nat.blt k 4) (K (.fref k i))
 | .fptr k i o=>Chk (Nat.blt k 4) (K (.fptr k i o))
 | .feptr k i j o=>Chk (Nat.blt k 4) (K (.feptr k i j o))
 | .faptr k i p j=>Chk (Nat.blt k 4) (K (.faptr k i p j))
 | .hro k o=>Chk (Nat.blt k 4) (K (.hro k o))
 | .hpo k o=>Chk (Nat.blt k 4) (K (.hpo k o))
 | .agg cs=>ic os cs fun cs=>K (.agg cs)
 | .tup cs=>ic os cs fun cs=>K (.tup cs)
 | .clo f cs=>ic os cs fun cs=>K (.clo f cs)
 | .ifc T v=>bc os v fun v=>K (.ifc T v)
 | .int k n=>K (.int k n)
 | .bool b=>K (.bool b)
 | .tt=>K (.bool true)
 | .ff=>K (.bool false)
 | .str s=>K (.str s)
 | .lst t xs=>K (.lst t xs)
 | .box t x=>K (.box t x)
 | .nilp=>K .nilp
 | .nils=>K .nils
 | .nilf=>K .nilf
 | .nili=>K .nili
 | .gv g=>K (.gv g)
 | .gp _=>False
 | .iptr t x o=>K (.iptr t x o)
 | .obo t o=>K (.obo t o)
 | .undef=>K .undef
 | .junk=>K .junk
def ic (os:List Nat)(l:List V)(K:List V→Prop):Prop:=
 match l with
 |[]=>K []
 |v::l=>bc os v fun v=>ic os l fun l=>K (v::l)
end
structure KeepOK (os:List Nat)(h h':VH):Prop where
 sgl:∀m b,os[m]?=some b→Live (toH h) (b,0)→Live (toH h') (4+m,0)
 fam:∀k,k<4→∀i,Live (toH h) (k,i)→Live (toH h') (k,i)
section
variable {h':VH}
theorem EM (H:KeepOK os h h'){m b:Nat}(hb:os[m]?=some b):Rn (toH h) (gI (gN os n)) (toH h') (.ref (b,0)) (.ref (4+m,0)):=by
 have e:gI (gN os n) (4+m,0)=(b,0):=by simp only[gI,d7,cF hb]
 have:=Rn.ref (h:=toH h) (g:=gI (gN os n)) (h':=toH h') (4+m,0) fun hl=>H.sgl m b hb (by rw[e] at hl;exact hl)
 rwa [e] at this
theorem AQ (H:KeepOK os h h'){m b:Nat}(hb:os[m]?=some b)(o:Nat):Rn (toH h) (gI (gN os n)) (toH h') (.ptr (b,0) o) (.ptr (4+m,0) o):=by
 have e:gI (gN os n) (4+m,0)=(b,0):=by simp only[gI,d7,cF hb]
 have:=Rn.ptr (h:=toH h) (g:=gI (gN os n)) (h':=toH h') (4+m,0) o fun hl=>H.sgl m b hb (by rw[e] at hl;exact hl)
 rwa [e] at this
theorem CD (H:KeepOK os h h'){m b:Nat}(hb:os[m]?=some b)(j o:Nat):Rn (toH h) (gI (gN os n)) (toH h') (.eptr (b,0) j o) (.eptr (4+m,0) j o):=by
 have e:gI (gN os n) (4+m,0)=(b,0):=by simp only[gI,d7,cF hb]
 have:=Rn.eptr (h:=toH h) (g:=gI (gN os n)) (h':=toH h') (4+m,0) j o fun hl=>H.sgl m b hb (by rw[e] at hl;exact hl)
 rwa [e] at this
theorem CF (H:KeepOK os h h'){m b:Nat}(hb:os[m]?=some b)(o q:Nat):Rn (toH h) (gI (gN os n)) (toH h') (.vref (b,0) o q) (.vref (4+m,0) o q):=by
 have e:gI (gN os n) (4+m,0)=(b,0):=by simp only[gI,d7,cF hb]
 have:=Rn.vref (h:=toH h) (g:=gI (gN os n)) (h':=toH h') (4+m,0) o q fun hl=>H.sgl m b hb (by rw[e] at hl;exact hl)
 rwa [e] at this
theorem qC {k:Nat}(hk:k<4)(i:Nat):gI (gN os n) (k,i)=(k,i):=by simp only[gI,li os n hk]
theorem wW (H:KeepOK os h h'){k:Nat}(hk:k<4)(i:Nat):Rn (toH h) (gI (gN os n)) (toH h') (.ref (k,i)) (.ref (k,i)):=by
 have e:gI (gN os n) (k,i)=(k,i):=qC hk i
 have:=Rn.ref (h:=toH h) (g:=gI (gN os n)) (h':=toH h') (k,i) fun hl=>H.fam k hk i (by rw[e] at hl;exact hl)
 rwa [e] at this
theorem qZ (H:KeepOK os h h'){k:Nat}(hk:k<4)(i o:Nat):Rn (toH h) (gI (gN os n)) (toH h') (.ptr (k,i) o) (.ptr (k,i) o):=by
 have e:gI (gN os n) (k,i)=(k,i):=qC hk i
 have:=Rn.ptr (h:=toH h) (g:=gI (gN os n)) (h':=toH h') (k,i) o fun hl=>H.fam k hk i (by rw[e] at hl;exact hl)
 rwa [e] at this
theorem AP (H:KeepOK os h h'){k:Nat}(hk:k<4)(i j o:Nat):Rn (toH h) (gI (gN os n)) (toH h') (.eptr (k,i) j o) (.eptr (k,i) j o):=by
 have e:gI (gN os n) (k,i)=(k,i):=qC hk i
 have:=Rn.eptr (h:=toH h) (g:=gI (gN os n)) (h':=toH h') (k,i) j o fun hl=>H.fam k hk i (by rw[e] at hl;exact hl)
 rwa [e] at this
theorem ma (H:KeepOK os h h'){k:Nat}(hk:k<4)(o:Option Nat):Rn (toH h) (gI (gN os n)) (toH h') (iX k o) (iX k o):=by
 cases o with
 |none=>exact .pure _ rfl
 |some i=>exact wW H hk i
theorem Dk (H:KeepOK os h h'){k:Nat}(hk:k<4)(o:Option Nat):Rn (toH h) (gI (gN os n)) (toH h') (l7 k o) (l7 k o):=by
 cases o with
 |none=>exact .pure _ rfl
 |some i=>exact qZ H hk i 0
theorem jw {a b:Nat}(h:Nat.blt a b=true):a<b:=by simpa[Nat.blt_eq] using h
mutual
theorem ib:∀{v:V} {K:V→Prop},bc os v K→∃r:V,(∀h',KeepOK os h h'→Rn (toH h) (gI (gN os n)) (toH h') v.toD r.toD)∧r.one=v.one∧K r
 | .ref b,K,hk=>by
  simp only[bc] at hk
  obtain⟨r,r1,r2,hk⟩:=dG hk
  split at hk
  ·obtain⟨m,rfl,hm⟩:=r2 _ rfl
   exact⟨.ref (4+m),fun h' H=>EM H hm,rfl,hk⟩
  ·exact hk.elim
 | .ptr b o,K,hk=>by
  simp only[bc] at hk
  obtain⟨r,r1,r2,hk⟩:=dG hk
  split at hk
  ·obtain⟨m,rfl,hm⟩:=r2 _ rfl
   exact⟨.ptr (4+m) o,fun h' H=>AQ H hm o,rfl,hk⟩
  ·exact hk.elim
 | .eptr b j o,K,hk=>by
  simp only[bc] at hk
  obtain⟨r,r1,r2,hk⟩:=dG hk
  split at hk
  ·obtain⟨m,rfl,hm⟩:=r2 _ rfl
   exact⟨.eptr (4+m) j o,fun h' H=>CD H hm j o,rfl,hk⟩
  ·exact hk.elim
 | .vref b o q,K,hk=>by
  simp only[bc] at hk
  obtain⟨r,r1,r2,hk⟩:=dG hk
  split at hk
  ·obtain⟨m,rfl,hm⟩:=r2 _ rfl
   exact⟨.vref (4+m) o q,fun h' H=>CF H hm o q,rfl,hk⟩
  ·exact hk.elim
 | .aptr b p j,K,hk=>by
  simp only[bc] at hk
  obtain⟨r,r1,r2,hk⟩:=dG hk
  split at hk
  ·obtain⟨m,rfl,hm⟩:=r2 _ rfl
   exact⟨.aptr (4+m) p j,fun h' H=>AQ H hm (p+j),rfl,hk⟩
  ·exact hk.elim
 | .fref k i,K,hk=>by simp only[bc] at hk;obtain⟨c,hk⟩:=hk.ok;exact⟨.fref k i,fun h' H=>wW H (jw c) i,rfl,hk⟩
 | .fptr k i o,K,hk=>by simp only[bc] at hk;obtain⟨c,hk⟩:=hk.ok;exact⟨.fptr k i o,fun h' H=>qZ H (jw c) i o,rfl,hk⟩
 | .feptr k i j o,K,hk=>by simp only[bc] at hk;obtain⟨c,hk⟩:=hk.ok;exact⟨.feptr k i j o,fun h' H=>AP H (jw c) i j o,rfl,hk⟩
 | .faptr k i p j,K,hk=>by simp only[bc] at hk;obtain⟨c,hk⟩:=hk.ok;exact⟨.faptr k i p j,fun h' H=>qZ H (jw c) i (p+j),rfl,hk⟩
 | .hro k o,K,hk=>by simp only[bc] at hk;obtain⟨c,hk⟩:=hk.ok;exact⟨.hro k o,fun h' H=>ma H (jw c) o,rfl,hk⟩
 | .hpo k o,K,hk=>by simp only[bc] at hk;obtain⟨c,hk⟩:=hk.ok;exact⟨.hpo k o,fun h' H=>Dk H (jw c) o,rfl,hk⟩
 | .agg cs,K,hk=>by
  simp only[bc] at hk
  obtain⟨r,h1,h2,h3,hk⟩:=fN hk
  exact⟨.agg r,fun h' H=>by simp only[V.toD];exact .agg _ _ h1 (h2 h' H),rfl,hk⟩
 | .tup cs,K,hk=>by
  simp only[bc] at hk
  obtain⟨r,h1,h2,h3,hk⟩:=fN hk
  exact⟨.tup r,fun h' H=>by simp only[V.toD];exact .tup _ _ h1 (h2 h' H),rfl,hk⟩
 | .clo f cs,K,hk=>by
  simp only[bc] at hk
  obtain⟨r,h1,h2,h3,hk⟩:=fN hk
  exact⟨.clo f r,fun h' H=>by simp only[V.toD];exact .clo f _ _ h1 (h2 h' H),rfl,hk⟩
 | .ifc T v,K,hk=>by
  simp only[bc] at hk
  obtain⟨r,h1,h2,hk⟩:=ib hk
  exact⟨.ifc T r,fun h' H=>by simp only[V.toD];exact .ifc T _ _ (h1 h' H),rfl,hk⟩
 | .int k m,K,hk=>⟨.int k m,fun h' H=>.pure _ rfl,rfl,by simpa only[bc] using hk⟩
 | .bool b,K,hk=>⟨.bool b,fun h' H=>.pure _ rfl,rfl,by simpa only[bc] using hk⟩
 | .tt,K,hk=>⟨.bool true,fun h' H=>.pure _ rfl,rfl,by simpa only[bc] using hk⟩
 | .ff,K,hk=>⟨.bool false,fun h' H=>.pure _ rfl,rfl,by simpa only[bc] using hk⟩
 | .str s,K,hk=>⟨.str s,fun h' H=>.pure _ rfl,rfl,by simpa only[bc] using hk⟩
 | .lst t xs,K,hk=>⟨.lst t xs,fun h' H=>.pure _ rfl,rfl,by simpa only[bc] using hk⟩
 | .box t x,K,hk=>⟨.box t x,fun h' H=>.pure _ rfl,rfl,by simpa only[bc] using hk⟩
 | .nilp,K,hk=>⟨.nilp,fun h' H=>.pure _ rfl,rfl,by simpa only[bc] using hk⟩
 | .nils,K,hk=>⟨.nils,fun h' H=>.pure _ rfl,rfl,by simpa only[bc] using hk⟩
 | .nilf,K,hk=>⟨.nilf,fun h' H=>.pure _ rfl,rfl,by simpa only[bc] using hk⟩
 | .nili,K,hk=>⟨.nili,fun h' H=>.pure _ rfl,rfl,by simpa only[bc] using hk⟩
 | .gv g,K,hk=>⟨.gv g,fun h' H=>.gv g,rfl,by simpa only[bc] using hk⟩
 | .gp _,K,hk=>by simp only[bc] at hk
 | .iptr t x o,K,hk=>⟨.iptr t x o,fun h' H=>.iptr _ _,rfl,by simpa only[bc] using hk⟩
 | .obo t o,K,hk=>⟨.obo t o,fun h' H=>.pure _ (by cases o<;>rfl),rfl,by simpa only[bc] using hk⟩
 | .undef,K,hk=>⟨.undef,fun h' H=>.undef _,rfl,by simpa only[bc] using hk⟩
 | .junk,K,hk=>⟨.junk,fun h' H=>.junk,rfl,by simpa only[bc] using hk⟩
theorem fN:∀{l:List V} {K:List V→Prop},ic os l K→∃r:List V,(af l).length=(af r).length∧(∀h',KeepOK os h h'→∀i,i<(af l).length→Rn (toH h) (gI (gN os n)) (toH h') ((af l).getD i .undef) ((af r).getD i .undef))∧(l.all V.one=r.all V.one)∧K r
 |[],K,hk=>⟨[],rfl,fun h' H i hi=>by simp[af] at hi,rfl,by simpa only[ic] using hk⟩
 |v::l,K,hk=>by
  simp only[ic] at hk
  obtain⟨v',h1,h2,hk⟩:=ib hk
  obtain⟨r,h3,h4,h5,hk⟩:=fN hk
  refine⟨v'::r,by simp only[af,List.length_cons,h3],fun h' H i hi=>?_,by simp only[List.all_cons,h2,h5],hk⟩
  cases i with
  |zero=>simpa[af] using h1 h' H
  |succ i=>simpa[af] using h4 h' H i (by simpa[af] using hi)
end
def zw (os:List Nat)(h:VH)(l:List V)(K:List V→Prop):Prop:=jp h l fun l=>ic os l K
theorem zn (g:HL)(l:List D){i:Nat}(hi:i<l.length):(gA g l).getD i .undef=fwd g (l.getD i .undef):=by
 rw[cX,List.getD_eq_getElem?_getD,List.getElem?_map,List.getElem?_eq_getElem hi,List.getD_eq_getElem?_getD,List.getElem?_eq_getElem hi]
 rfl
theorem mD {l:List V}{K:List V→Prop}(hk:zw os h l K):∃r:List V,(af l).length=(af r).length∧(∀h',KeepOK os h h'→∀i,i<(af l).length→Rn (toH h) (gI (gN os n)) (toH h') ((af l).getD i .undef) ((af r).getD i .undef))∧((af l).all D.one=true→(af r).all D.one=true)∧K r:=by
 obtain⟨l',h1,hk⟩:=eU hk
 obtain⟨r,h2,h3,h4,hk⟩:=fN (h:=h) (n:=n) hk
 have hlen:(af l).length=(af l').length:=by rw[←h1,cX,List.length_map]
 refine⟨r,hlen.trans h2,fun h' H i hi=>.fwd _ _ ?_,fun ha=>?_,hk⟩
 ·rw[←zn _ _ hi,h1]
  exact h3 h' H i (by rw[←hlen];exact hi)
 ·refine jT _ ?_
  rw[←h4]
  have e:(af l').all D.one=l'.all V.one:=by
   rw[bt,List.all_map]
   refine congrArg (fun f=>List.all l' f) (funext fun v=>kt v)
  rw[←e,←h1,cX,List.all_map]
  rw[List.all_eq_true] at ha⊢
  intro d hd
  simp only[Function.comp,mB]
  exact ha d hd
theorem oq (H:KeepOK os h h'){t:Ty}(ht:∀k∈t.fams,k<4)(x:t.den):∀c∈(ab t x).cells,Rn (toH h) (gI (gN os n)) (toH h') c c:=by
 intro c hc
 by_cases hp:t.pure=true
 ·have:=(fP hp x).2
  rw[List.all_eq_true] at this
  exact .pure c (this c hc)
 ·have lf:∀d:D,d.pure0=true→Rn (toH h) (gI (gN os n)) (toH h') d d:=fun d hd=>.pure d hd
  cases t<;>simp only[Ty.pure,not_true_eq_false] at hp
  case hr k=>
   simp only[ab,(kf k x).2,List.mem_singleton] at hc
   subst hc
   exact ma H (ht k (by simp[Ty.fams])) x
  case hp k=>
   simp only[ab,(ke k x).2,List.mem_singleton] at hc
   subst hc
   exact Dk H (ht k (by simp[Ty.fams])) x
  case vtxo k=>
   simp only[ab,D.cells,List.mem_cons,List.not_mem_nil,or_false] at hc
   rcases hc with rfl|rfl|rfl|rfl
   ·exact lf _ rfl
   ·exact lf _ rfl
   ·exact ma H (ht k (by simp[Ty.fams])) _
   ·exact lf _ rfl
  case pplm k=>
   simp only[ab,D.cells,eE,List.cons_append,List.nil_append,List.mem_cons,List.not_mem_nil,or_false] at hc
   rcases hc with rfl|rfl|rfl|rfl|rfl
   ·exact lf _ rfl
   ·exact lf _ rfl
   ·exact lf _ rfl
   ·exact lf _ rfl
   ·exact ma H (ht k (by simp[Ty.fams])) _
  case pplo k k'=>
   simp only[ab,D.cells,List.mem_cons,List.not_mem_nil,or_false] at hc
   rcases hc with rfl|rfl|rfl|rfl|rfl
   ·exact lf _ rfl
   ·exact lf _ rfl
   ·exact ma H (ht k (by simp[Ty.fams])) _
   ·exact lf _ rfl
   ·exact ma H (ht k' (by simp[Ty.fams])) _
  case evto k=>
   simp only[ab,D.cells,List.mem_cons,List.not_mem_nil,or_false] at hc
   rcases hc with rfl|rfl|rfl|rfl|rfl|rfl|rfl
   ·exact lf _ rfl
   ·exact lf _ rfl
   ·exact lf _ rfl
   ·exact lf _ rfl
   ·exact lf _ rfl
   ·exact ma H (ht k (by simp[Ty.fams])) _
   ·exact lf _ rfl
  case nod k=>
   simp only[ab,D.cells,eE,List.cons_append,List.nil_append,List.mem_cons,List.not_mem_nil,or_false] at hc
   rcases hc with rfl|rfl|rfl|rfl|rfl|rfl
   ·exact lf _ rfl
   ·exact lf _ rfl
   ·exact lf _ rfl
   ·exact lf _ rfl
   ·exact lf _ rfl
   ·exact ma H (ht k (by simp[Ty.fams])) _
theorem vk (H:KeepOK os h h'){t:Ty}(ht:∀k∈t.fams,k<4)(x:t.den):Rn (toH h) (gI (gN os n)) (toH h') (ab t x) (ab t x):=by
 have hc:=oq (n:=n) H ht x
 by_cases hag:∃cs,ab t x= .agg cs
 ·obtain⟨cs,he⟩:=hag
  rw[he] at hc⊢
  exact .agg cs cs rfl fun i hi=>hc _ (aI hi)
 ·have he:(ab t x).cells=[ab t x]:=bA fun cs hcs=>hag ⟨cs,hcs⟩
  exact hc _ (by rw[he];exact List.mem_singleton.2 rfl)
theorem vm (H:KeepOK os h h'){t:Ty}(ht:∀k∈t.fams,k<4)(E:TypeId)(xs:List t.den):RnB (toH h) (gI (gN os n)) (toH h') (.row E (xs.map (ab t))) (.row E (xs.map (ab t))):=by
 refine .row E _ _ rfl fun i hi=>?_
 obtain⟨x,_,hx⟩:=List.mem_map.1 (aI hi)
 rw[←hx]
 exact⟨vk H ht x,fun s hs=>⟨hs,fun j hj=>oq H ht x _ (aI (by rw[hs.1];exact hj))⟩⟩
theorem AR (H:KeepOK os h h')(T:TypeId){cs:List D}(hc:∀c∈cs,Rn (toH h) (gI (gN os n)) (toH h') c c):RnB (toH h) (gI (gN os n)) (toH h') (.var T cs) (.var T cs):=.var T _ _ rfl fun i hi=>hc _ (aI hi)
def Gp (os:List Nat)(h:VH)(v:V)(K:V→Prop):Prop:=match v with
 | .agg cs=>zw os h cs fun cs=>K (.agg cs)
 |v=>Chk v.one (b8 h v fun v=>bc os v K)
theorem DY {v:V}{K:V→Prop}(hk:Gp os h v K):∃r:V,(∀h',KeepOK os h h'→Rn (toH h) (gI (gN os n)) (toH h') v.toD r.toD∧∀s,wfC s v.toD→wfC s r.toD∧∀j,j<s→Rn (toH h) (gI (gN os n)) (toH h') (v.toD.cells.getD j .undef) (r.toD.cells.getD j .undef))∧K r:=by
 unfold Gp at hk
 split at hk
 ·rename_i cs
  obtain⟨r,h1,h2,h3,hk⟩:=mD (n:=n) hk
  refine⟨.agg r,fun h' H=>⟨by simp only[V.toD];exact .agg _ _ h1 (h2 h' H),fun s hs=>?_⟩,hk⟩
  have hs1:(af cs).length=s:=by have:=hs.1;simpa only[V.toD,D.cells] using this
  refine⟨⟨?_,?_⟩,fun j hj=>?_⟩
  ·show (af r).length=s
   omega
  ·exact h3 (by have:=hs.2;simpa only[V.toD,D.cells] using this)
  ·exact h2 h' H j (by omega)
 ·obtain⟨c,hk⟩:=hk.ok
  obtain⟨v',h1,hk⟩:=iV hk
  obtain⟨r,h2,h3,hk⟩:=ib (h:=h) (n:=n) hk
  have o1:v.toD.one=true:=by rw[kt];exact c
  have o2:r.toD.one=true:=by
   rw[kt,h3,←kt,←h1,mB];exact o1
  refine⟨r,fun h' H=>?_,hk⟩
  have hr:Rn (toH h) (gI (gN os n)) (toH h') v.toD r.toD:=.fwd _ _ (by rw[h1];exact h2 h' H)
  refine⟨hr,fun s hs=>?_⟩
  have hs1:=hs.1
  rw[bp o1] at hs1⊢
  rw[bp o2]
  simp only[List.length_singleton] at hs1
  subst hs1
  refine⟨⟨by rw[bp o2];rfl,by rw[bp o2];simp[o2]⟩,fun j hj=>?_⟩
  obtain rfl:j=0:=by omega
  exact hr
def DZ (os:List Nat)(h:VH):List V→(List V→Prop)→Prop
 |[],K=>K []
 |v::l,K=>Gp os h v fun v=>DZ os h l fun l=>K (v::l)
theorem wl:∀{l:List V} {K:List V→Prop},DZ os h l K→∃r:List V,(∀h' E,KeepOK os h h'→RnB (toH h) (gI (gN os n)) (toH h') (.row E (af l)) (.row E (af r)))∧K r
 |[],K,hk=>⟨[],fun h' E H=>.row E _ _ rfl fun i hi=>by simp[af] at hi,hk⟩
 |v::l,K,hk=>by
  obtain⟨v',h1,hk⟩:=DY (n:=n) hk
  obtain⟨r,h2,hk⟩:=wl hk
  refine⟨v'::r,fun h' E H=>?_,hk⟩
  cases h2 h' E H with
  |row _ _ _ hl hc=>
   refine .row E _ _ (by simp only[af,List.length_cons,hl]) fun i hi=>?_
   cases i with
   |zero=>simpa[af] using h1 h' H
   |succ i=>simpa[af] using hc i (by simpa[af] using hi)
def FQ (l:List Nat):Bool:=l.all fun k=>Nat.blt k 4
theorem uZ {l:List Nat}(h:FQ l=true):∀k∈l,k<4:=by
 unfold FQ at h
 rw[List.all_eq_true] at h
 exact fun k hk=>jw (h k hk)
def Gn (os:List Nat)(h:VH)(x:VB)(K:VB→Prop):Prop:=
 match x with
 | .var T cs=>zw os h cs fun cs=>K (.var T cs)
 | .vari T pre m t xs post=>Chk (FQ t.fams) (zw os h pre fun pre=>zw os h post fun post=>K (.vari T pre m t xs post))
 | .row E t xs=>Chk (FQ t.fams) (K (.row E t xs))
 | .lit E vs=>DZ os h vs fun vs=>K (.lit E vs)
 | .froz t xs=>K (.froz t xs)
 | .fvb t x=>K (.fvb t x)
 | .moved _ _=>K .gone
 | .gone=>K .gone
 |_=>False
theorem DX {x:VB}{K:VB→Prop}(hk:Gn os h x K):∃y d d',x.blks=[d]∧y.blks=[d']∧(∀h',KeepOK os h h'→RnB (toH h) (gI (gN os n)) (toH h') d d')∧K y:=by
 unfold Gn at hk
 split at hk
 ·rename_i T cs
  obtain⟨r,h1,h2,_,hk⟩:=mD (n:=n) hk
  exact⟨_,_,_,rfl,rfl,fun h' H=>.var T _ _ h1 (h2 h' H),hk⟩
 ·rename_i T pre m t xs post
  obtain⟨c,hk⟩:=hk.ok
  obtain⟨pre',h1,h2,_,hk⟩:=mD (n:=n) hk
  obtain⟨post',h3,h4,_,hk⟩:=mD (n:=n) hk
  refine⟨_,_,_,rfl,rfl,fun h' H=>.var T _ _ (by simp only[List.length_append,h1,h3]) fun i hi=>?_,hk⟩
  by_cases c1:i<(af pre).length
  ·rw[List.append_assoc,List.append_assoc,di (A:=af pre) c1,di (A:=af pre') (by rw[←h1];exact c1)]
   exact h2 h' H i c1
  ·rw[List.append_assoc,List.append_assoc,dj (A:=af pre) (by omega),dj (A:=af pre') (by rw[←h1];omega),←h1]
   simp only[List.length_append] at hi
   by_cases c2:i-(af pre).length<(xs.map (ab t)).length
   ·rw[di c2,di c2]
    obtain⟨e,he,hee⟩:=List.mem_map.1 (aI c2)
    rw[←hee]
    exact vk H (uZ c) e
   ·rw[dj (by omega),dj (by omega)]
    exact h4 h' H _ (by omega)
 ·obtain⟨c,hk⟩:=hk.ok
  exact⟨_,_,_,rfl,rfl,fun h' H=>vm H (uZ c) _ _,hk⟩
 ·obtain⟨r,h1,hk⟩:=wl (n:=n) hk
  exact⟨_,_,_,rfl,rfl,fun h' H=>h1 h' _ H,hk⟩
 ·exact⟨_,_,_,rfl,rfl,fun h' H=>.froz _,hk⟩
 ·exact⟨_,_,_,rfl,rfl,fun h' H=>.fvar _,hk⟩
 ·exact⟨_,_,_,rfl,rfl,fun h' H=>.gone _,hk⟩
 ·exact⟨_,_,_,rfl,rfl,fun h' H=>.gone _,hk⟩
 ·exact hk.elim
end
end Go.Proofs.YthmfppknagbkeaaGreat.Am
namespace Go.Proofs.YthmfppknagbkeaaGreat.Am
open Go Go.RowKit
variable {P:Program} {N:Nat} {K:Id→Prop} {os:List Nat} {n:Nat} {h:VH} {σ:VSt}
def Gq (os:List Nat)(h:VH):List Nat→Nat→(VH→Prop)→Prop
 |[],_,K=>K []
 |b::l,i,K=>cL h b fun x=>Gn os h x fun y=>dV (i+1) fun j=>Gq os h l j fun r=>K ((i,y)::r)
theorem zu:∀{l:List Nat} {i:Nat} {K:VH→Prop},Gq os h l i K→∃hs,(∀k x,look hs k=some x→∃m,k=i+m∧m<l.length)∧
   (∀m b,l[m]?=some b→∃x y d d',look h b=some x∧look hs (i+m)=some y∧x.blks=[d]∧y.blks=[d']∧∀h',KeepOK os h h'→RnB (toH h) (gI (gN os n)) (toH h') d d')∧K hs
 |[],i,K,hk=>⟨[],(fun k x hx=>by cases hx),by simp,hk⟩
 |b::l,i,K,hk=>by
  obtain⟨x,hx,hk⟩:=aG hk
  obtain⟨y,d,d',e1,e2,e3,hk⟩:=DX (n:=n) hk
  have hk:=aV hk
  obtain⟨hs,h3,h4,hk⟩:=zu hk
  refine⟨(i,y)::hs,fun k z hz=>?_,fun m b' hm=>?_,hk⟩
  ·simp only[look] at hz
   split at hz
   ·exact⟨0,by omega,by simp⟩
   ·obtain⟨m,e1,e2⟩:=h3 k z hz
    exact⟨m+1,by omega,by simpa using e2⟩
  ·cases m with
   |zero=>
    simp only[List.getElem?_cons_zero,Option.some.injEq] at hm
    subst hm
    exact⟨x,y,d,d',hx,by simp[look],e1,e2,e3⟩
   |succ m=>
    obtain⟨z,z',f1,f2,q1,q2,q3⟩:=h4 m b' (by simpa using hm)
    refine⟨z,z',f1,f2,q1,?_,q3⟩
    simp only[look]
    rw[if_neg (by omega),show i+(m+1)=i+1+m by omega]
    exact q2
def FE (h:VH):List Nat→(VH→Prop)→Prop
 |[],K=>K []
 |k::l,K=>match ay h k with
  |some x=>Chk (!x.sgl && FQ x.fams) (FE h l fun r=>K ((k,x)::r))
  |none=>FE h l K
theorem uH:∀{l:List Nat} {K:VH→Prop},FE h l K→∃hf,(∀k x,look hf k=some x→k∈l∧look h k=some x∧x.sgl=false∧∀j∈x.fams,j<4)∧(∀k∈l,look hf k=look h k)∧K hf
 |[],K,hk=>⟨[],(fun k x hx=>by cases hx),by simp,hk⟩
 |k::l,K,hk=>by
  simp only[FE,ax] at hk
  cases hx:look h k with
  |none=>
   rw[hx] at hk
   obtain⟨hf,h1,h2,hk⟩:=uH hk
   refine⟨hf,fun j y hy=>?_,fun j hj=>?_,hk⟩
   ·obtain⟨q1,q2⟩:=h1 j y hy
    exact⟨List.mem_cons_of_mem _ q1,q2⟩
   ·by_cases hjl:j∈l
    ·exact h2 j hjl
    ·obtain rfl:j=k:=(List.mem_cons.1 hj).resolve_right hjl
     rw[hx]
     cases hf':look hf j with
     |none=>rfl
     |some y=>exact absurd (h1 j y hf').1 hjl
  |some x=>
   rw[hx] at hk
   obtain⟨c,hk⟩:=hk.ok
   simp only[Bool.and_eq_true,Bool.not_eq_true'] at c
   obtain⟨hf,h1,h2,hk⟩:=uH hk
   refine⟨(k,x)::hf,fun j y hy=>?_,fun j hj=>?_,hk⟩
   ·simp only[look] at hy
    split at hy
    ·rename_i e
     cases hy
     subst e
     exact⟨List.mem_cons_self ..,hx,c.1,uZ c.2⟩
    ·obtain⟨q1,q2⟩:=h1 j y hy
     exact⟨List.mem_cons_of_mem _ q1,q2⟩
   ·simp only[look]
    by_cases e:j=k
    ·rw[if_pos e,e,hx]
    ·rw[if_neg e]
     exact h2 j ((List.mem_cons.1 hj).resolve_left e)
theorem CE {h':VH}(H:KeepOK os h h'){x:VB}(hs:x.sgl=false)(hf:∀j∈x.fams,j<4):∀d∈x.blks,RnB (toH h) (gI (gN os n)) (toH h') d d:=by
 intro d hd
 cases x<;>simp[VB.sgl] at hs
 ·rename_i T t xs
  obtain⟨e,_,rfl⟩:=List.mem_map.1 hd
  exact AR H T (oq H hf e)
 ·rename_i T m t xss
  obtain⟨xs,_,rfl⟩:=List.mem_map.1 hd
  refine AR H T fun c hc=>?_
  obtain⟨e,_,rfl⟩:=List.mem_map.1 hc
  exact vk H hf e
 ·rename_i E t xss
  obtain⟨xs,_,rfl⟩:=List.mem_map.1 hd
  exact vm H hf E xs
 ·rename_i E t xss
  obtain⟨xs,_,rfl⟩:=List.mem_map.1 hd
  cases xs with
  |none=>exact .gone _
  |some xs=>exact vm H hf E xs
def wS:Nat→Nat→List Nat→Bool
 |0,_,_=>true
 |m+1,i,b::l=>Nat.beq b i && wS m (i+1) l
 |_+1,_,[]=>false
theorem tr:∀{m i:Nat} {l:List Nat},wS m i l=true→∀j,j<m→l[j]?=some (i+j)
 |0,i,l,_,j,hj=>by omega
 |m+1,i,[],hp,j,hj=>by cases hp
 |m+1,i,b::l,hp,j,hj=>by
  simp only[wS,Bool.and_eq_true] at hp
  cases j with
  |zero=>simp[Nat.eq_of_beq_eq_true hp.1]
  |succ j=>
   have:=tr hp.2 j (by omega)
   rw[show i+1+j=i+(j+1) by omega] at this
   simpa using this
def KB (m:Nat)(K:Id→Prop):Prop:=∀b,K b→b.1<4+m
def z7 (m:Nat)(os:List Nat)(h:VH)(n:Nat)(K:VH→Prop):Prop:=Chk (xR os n && wS m 4 os) (FE h [0,1,2,3] fun hf=>Gq os h os 4 fun hs=>Br hf hs K)
theorem sD {m:Nat}{Q:VH→Prop}(hk:z7 m os h n Q):∃h',KeepOK os h h'∧Ren (toH h) (gI (gN os n)) (toH h')∧(∀K,KB m K→∀b,K b→Live (toH h) b→gI (gN os n) b=b∧Live (toH h') b)∧(∀b:Id,4+os.length≤b.1→look (toH h') b=none)∧Q h':=by
 obtain⟨c,hk⟩:=hk.ok
 simp only[Bool.and_eq_true] at c
 obtain⟨c1,c2⟩:=c
 obtain⟨hf,f1,f2,hk⟩:=uH hk
 obtain⟨hs,s1,s2,hk⟩:=zu (n:=n) hk
 have hk:=pY hk
 have hlow:∀k x,look hf k=some x→k<4:=fun k x hx=>by
  have:=(f1 k x hx).1
  simp only[List.mem_cons,List.not_mem_nil,or_false] at this
  omega
 have hf_none:∀m,look hf (4+m)=none:=by
  intro m
  cases hl:look hf (4+m) with
  |none=>rfl
  |some y=>have:=hlow _ _ hl;omega
 have fam:∀k,k<4→look (hf++hs) k=look h k:=by
  intro k hk
  have hm:k∈[0,1,2,3]:=by
   simp only[List.mem_cons,List.not_mem_nil,or_false];omega
  rw[ef,f2 k hm]
  cases hl:look h k with
  |some x=>rfl
  |none=>
   cases hl2:look hs k with
   |none=>rfl
   |some y=>obtain⟨m,e,_⟩:=s1 k y hl2;omega
 have sgl:∀m,look (hf++hs) (4+m)=look hs (4+m):=fun m=>by rw[ef,hf_none]
 have H:KeepOK os h (hf++hs):=by
  refine⟨fun m b hb _=>?_,fun k hk i hl=>?_⟩
  ·obtain⟨x,y,d,d',q1,q2,q3,q4,q5⟩:=s2 m b hb
   exact Live.of_look (am (by rw[sgl];exact q2) (by rw[q4];rfl))
  ·unfold Live at hl⊢
   rw[al] at hl⊢
   rw[fam k hk]
   exact hl
 have cases':∀b x',look (toH (hf++hs)) b=some x'→(b.1<4∧∃x,look h b.1=some x∧look hf b.1=some x∧x.blks[b.2]?=some x')∨∃m c d,b=(4+m,0)∧os[m]?=some c∧look (toH h) (c,0)=some d∧RnB (toH h) (gI (gN os n)) (toH (hf++hs)) d x':=by
  intro b x' hx
  rw[al] at hx
  obtain⟨x,q1,q2⟩:=Option.bind_eq_some_iff.1 hx
  by_cases hb:b.1<4
  ·rw[fam _ hb] at q1
   have hm:b.1∈[0,1,2,3]:=by
    simp only[List.mem_cons,List.not_mem_nil,or_false];omega
   exact .inl ⟨hb,x,q1,by rw[f2 _ hm];exact q1,q2⟩
  ·obtain⟨m,hm⟩:∃m,b.1=4+m:=⟨b.1-4,by omega⟩
   rw[hm,sgl] at q1
   obtain⟨m',e,hlt⟩:=s1 _ _ q1
   obtain rfl:m=m':=by omega
   obtain⟨z,y,d,d',r1,r2,r3,r4,r5⟩:=s2 m os[m] (List.getElem?_eq_getElem hlt)
   rw[r2] at q1
   obtain rfl:=Option.some.inj q1
   rw[r4] at q2
   obtain⟨b1,b2⟩:=b
   simp only at hm q2
   cases b2 with
   |succ j=>simp at q2
   |zero=>
    simp only[List.getElem?_cons_zero,Option.some.injEq] at q2
    subst q2 hm
    exact .inr ⟨m,os[m],d,rfl,List.getElem?_eq_getElem hlt,am r1 (by rw[r3];rfl),r5 _ H⟩
 refine⟨hf++hs,H,⟨fun b x' hx=>?_,fun b c x y _ _ _ _ he=>zr c1 he⟩,fun K hK b hb hl=>?_,fun b hb=>?_,hk⟩
 ·rcases cases' b x' hx with⟨g1,x,g2,g3,g4⟩|⟨m,c,d,rfl,g1,g2,g3⟩
  ·refine⟨x',?_,?_⟩
   ·simp only[gI,li os n g1]
    exact am g2 g4
   ·obtain⟨_,_,q3,q4⟩:=f1 _ _ g3
    exact CE H q3 q4 x' (List.mem_of_getElem? g4)
  ·refine⟨d,?_,g3⟩
   simp only[gI,d7,cF g1]
   exact g2
 ·have hb4:=hK b hb
  by_cases hlt:b.1<4
  ·obtain⟨b1,b2⟩:=b
   exact⟨qC hlt b2,H.fam b1 hlt b2 hl⟩
  ·obtain⟨j,hj⟩:∃j,b.1=4+j:=⟨b.1-4,by omega⟩
   have hos:=tr c2 j (by omega)
   obtain⟨x,y,d,d',q1,q2,q3,q4,q5⟩:=s2 j _ hos
   obtain⟨b1,b2⟩:=b
   simp only at hj
   subst hj
   unfold Live at hl
   rw[al,q1] at hl
   simp only[Option.bind_some,q3] at hl
   cases b2 with
   |succ i=>simp at hl
   |zero=>
    refine⟨by simp only[gI,d7,cF hos],H.sgl j _ hos ?_⟩
    exact Live.of_look (am q1 (by rw[q3];rfl))
 ·cases hx:look (toH (hf++hs)) b with
  |none=>rfl
  |some x'=>
   exfalso
   rcases cases' b x' hx with⟨g1,_⟩|⟨m,c,d,rfl,g1,_⟩
   ·omega
   ·have:=(List.getElem?_eq_some_iff.1 g1).1
    simp only at hb
    omega
def nR (h:VH)(t:VT):List Nat→(VT→Prop)→Prop
 |[],K=>K []
 |k::ts,K=>(match ay t k with
  |some v=>b8 h v fun v=>nR h t ts fun r=>K ((k,v)::r)
  |none=>nR h t ts K)
theorem lq {t:VT}:∀{ts:List Nat} {K:VT→Prop},nR h t ts K→∃r,(∀k v',look r k=some v'→∃v,look t k=some v∧fwd (toH h) v.toD=v'.toD)∧K r
 |[],K,hk=>⟨[],(fun k v hv=>by cases hv),hk⟩
 |k::ts,K,hk=>by
  simp only[nR,ax] at hk
  cases hl:look t k with
  |none=>
   rw[hl] at hk
   exact lq hk
  |some v=>
   rw[hl] at hk
   obtain⟨v',h1,h2⟩:=iV hk
   obtain⟨r,h3,h4⟩:=lq h2
   refine⟨(k,v')::r,fun j w hw=>?_,h4⟩
   simp only[look] at hw
   split at hw
   ·rename_i e
    cases hw
    subst e
    exact⟨v,hl,h1⟩
   ·exact h3 j w hw
def yy (os:List Nat):VT→(VT→Prop)→Prop
 |[],K=>K []
 |(k,v)::l,K=>bc os v fun v=>yy os l fun l=>K ((k,v)::l)
theorem rS:∀{l:VT} {K:VT→Prop},yy os l K→∃r,(∀k v',look r k=some v'→∃v,look l k=some v∧∀h',KeepOK os h h'→Rn (toH h) (gI (gN os n)) (toH h') v.toD v'.toD)∧K r
 |[],K,hk=>⟨[],(fun k v hv=>by cases hv),hk⟩
 |(k,v)::l,K,hk=>by
  obtain⟨v',h1,_,h2⟩:=ib (h:=h) (n:=n) hk
  obtain⟨r,h3,h4⟩:=rS h2
  refine⟨(k,v')::r,fun j w hw=>?_,h4⟩
  simp only[look] at hw⊢
  split at hw
  ·rename_i e
   cases hw
   exact⟨v,by rw[if_pos e],h1⟩
  ·rename_i e
   rw[if_neg e]
   exact h3 j w hw
def GJ (m:Nat)(ts:List Nat)(σ:VSt)(Q:VSt→Prop):Prop:=
 match σ with
 |⟨t0,h0,n0⟩=>nR h0 t0 ts fun t=>qE h0 (dL (List.range' 4 m) (Ae h0 (C8 t))) fun os=>z7 m os h0 n0 fun h'=>yy os t fun t'=>dV (4+os.length) fun n=>Q ⟨t',h',n⟩
theorem D0 {m:Nat}{ts:List Nat}{Q:VSt→Prop}(hK:KB m K)(h:GJ m ts σ Q):∃σ',Weak P N K σ.toD σ'.toD∧Q σ':=by
 obtain⟨t,t1,h1⟩:=lq h
 obtain⟨os,h2⟩:=nH h1
 obtain⟨h',q1,q2,q3,q4,h3⟩:=sD h2
 obtain⟨t',t2,h4⟩:=rS (h:=σ.h) (n:=σ.n) h3
 have h5:=aV h4
 refine⟨_,Bh (σ':=VSt.toD ⟨t',h',_⟩) q2 (fun k d' hd=>?_) (fun b hb hl=>q3 K hK b hb hl) q4,h5⟩
 simp only[VSt.toD,bD] at hd
 obtain⟨v',hv,rfl⟩:=Option.map_eq_some_iff.1 hd
 obtain⟨v,hv1,hv2⟩:=t2 k v' hv
 obtain⟨v0,hv3,hv4⟩:=t1 k v hv1
 exact⟨v0.toD,by simp only[VSt.toD,bD,hv3,Option.map_some],.fwd _ _ (by have h9:=hv2 h' q1;rw[←hv4] at h9;exact h9)⟩
end Go.Proofs.YthmfppknagbkeaaGreat.Am
namespace Go.Proofs.YthmfppknagbkeaaGreat.Am
open Go Go.RowKit
variable {P:Program} {N:Nat} {K:Id→Prop} {Q:Exit→VSt→Prop} {σ:VSt} {h:VH}
def rowP (h:VH):List Nat→List Nat
 |[]=>[]
 |b::l=>match ay h b with
  |some (.row _ t _)=>(match t.pure with|true=>b::rowP h l|false=>rowP h l)
  |_=>rowP h l
theorem rowP_ok:∀{l:List Nat},∀b∈rowP h l,F3 h b
 |[],b,hb=>by cases hb
 |c::l,b,hb=>by
  simp only[rowP] at hb
  split at hb
  ·rename_i E t xs hc
   rw[ax] at hc
   split at hb
   ·rename_i hp
    rcases List.mem_cons.1 hb with rfl|hb
    ·exact .inl ⟨E,t,xs,hp,hc⟩
    ·exact rowP_ok b hb
   ·exact rowP_ok b hb
  ·exact rowP_ok b hb
def Gm (h:VH)(l:List Nat)(K:VH→Prop):Prop:=dC (rowP h l) fun ws=>Gd h ws fun u=>kx u h K
theorem zq {l:List Nat}{K:VH→Prop}(hk:Gm h l K):∃h1,(∃bs,∀b,look (puts (frz (toH h) bs) (toH h)) b=look (toH h1) b)∧K h1:=by
 have h1:=bd hk
 have h2:=(vK h1).1
 have h3:=fb h2
 exact⟨_,⟨_,(Ba fun b hb=>rowP_ok b hb).1.1⟩,h3⟩
theorem CY {t:VT}{n:Nat}{h1:VH}{bs:List Id}(he:∀b,look (puts (frz (toH h) bs) (toH h)) b=look (toH h1) b):Weak P N K (VSt.toD ⟨t,h,n⟩) (VSt.toD ⟨t,h1,n⟩):=
 Weak.trans (Bg bs) fun _ _ _ _ _ _ hs=>hs.congr (fun _=>rfl) (fun b=>(he b).symm) rfl
def GI (t:VT)(h:VH):List Nat→List Nat
 |[]=>[]
 |k::l=>(match ay t k with
  |some (.ptr b _)=>(match ay h b with|some x=>sv x|none=>[])
  |some v=>dM v
  |none=>[])++GI t h l
def Fb (m:Nat)(fs ts:List Nat)(σ:VSt)(Q:VSt→Prop):Prop:=
 match σ with|⟨t0,h0,n0⟩=>Gm h0 (GI t0 h0 fs) fun h=>GJ m ts ⟨t0,h,n0⟩ Q
theorem xk {m:Nat}(hK:KB m K){fs ts:List Nat}{K1:VSt→Prop}(h:Fb m fs ts σ K1):∃σ',Weak P N K σ.toD σ'.toD∧K1 σ':=by
 obtain⟨t0,h0,n0⟩:=σ
 obtain⟨h1,⟨bs,he⟩,h2⟩:=zq h
 obtain⟨σ',w1,h4⟩:=D0 (P:=P) (N:=N) hK h2
 exact⟨σ',Weak.trans (CY he) w1,h4⟩
theorem vT {c:Code}{σ':VSt}(hw:Weak P N K σ.toD σ'.toD)(h:At P N K c Q σ'):At P N K c Q σ:=by
 obtain⟨e,σ1,h1,h2⟩:=h
 exact⟨e,σ1,.pre hw h1,h2⟩
theorem hX {c:Code}{t:VT}{n:Nat}(k:Nat)(x:VB)(hx:x.blks=[])(ha:At P N K c Q ⟨t,h++[(k,x)],n⟩):At P N K c Q ⟨t,h,n⟩:=by
 refine vT (σ':=⟨t,h++[(k,x)],n⟩) (fun _ _ _ _ _ _ hs=>hs.congr (fun _=>rfl) (fun b=>?_) rfl) ha
 show look (toH (h++[(k,x)])) b=look (toH h) b
 rw[al,al,ef]
 cases hl:look h b.1 with
 |some y=>rfl
 |none=>
  simp only[look]
  split
  ·simp[hx]
  ·rfl
def Ft (back:VSt→Prop)(Q:Exit→VSt→Prop):Exit→VSt→Prop
 | .normal,σ=>back σ
 |e,σ=>Q e σ
theorem ag {α:Type}{c:Code}{m:Nat}(hK:KB m K)(fs ts:List Nat)(st:α→VSt)(p:α→Prop)(μ:α→Nat)(x0:α)(h0:p x0)(hg:Fb m fs ts σ fun σ'=>σ'=st x0)
  (round:∀x,p x→At P N K c (Ft (fun σ'=>Fb m fs ts σ' fun σ2=>∃y,p y∧μ y<μ x∧σ2=st y) Q) (st x)):At P N K (.loop c) Q σ:=by
 have key:∀n x,μ x=n→p x→∃e σ',LoopB P N K c (st x).toD e σ'.toD∧(ec P N K σ'.toD→Q e σ'):=by
  intro n
  induction n using Nat.strongRecOn with
  |_ n ih=>
   intro x hn hp
   obtain⟨e,σ1,h1,h2⟩:=round x hp
   cases e with
   |normal=>
    rcases Classical.em (ec P N K σ1.toD) with hr|hr
    ·obtain⟨σ2,w1,y,q1,q2,rfl⟩:=xk (P:=P) (N:=N) hK (h2 hr)
     obtain⟨e,σ3,h3,h4⟩:=ih (μ y) (by omega) y rfl q1
     exact⟨e,σ3,.round h1 (.pre w1 h3),h4⟩
    ·exact⟨.ret,σ1,.round h1 (.out (by simp) (fy hr _ _)),fun h=>absurd h hr⟩
   |_=>exact⟨_,σ1,.out (by simp) h1,h2⟩
 obtain⟨σ0,w0,rfl⟩:=xk (P:=P) (N:=N) hK hg
 obtain⟨e,σ1,h1,h2⟩:=key _ x0 rfl h0
 exact⟨e,σ1,.pre w0 (.loop h1),h2⟩
def z5:V→Bool
 | .ptr .. | .eptr .. | .iptr .. | .box .. | .aptr .. | .fptr .. | .feptr .. | .faptr ..=>true
 |_=>false
theorem xL {v:V}(h:z5 v=true):cO v.toD=true:=by cases v<;>first|rfl|cases h
def xZ (Θ:TT)(σ:VSt):List ResultVar→(List V→Prop)→Prop
 |[],K=>K []
 | .tmp k::rs,K=>(match ay σ.t k with
  |some v=>xZ Θ σ rs fun vs=>K (v::vs)
  |none=>xZ Θ σ rs fun vs=>K (.undef::vs))
 | .cell k T::rs,K=>aQ σ.t k fun v=>Chk (z5 v) (aQ Θ T fun ti=>sK ti σ.h v fun r=>xZ Θ σ rs fun vs=>K (r::vs))
theorem mW {Θ:TT}(hΘ:Θ.ok P):∀{rs:List ResultVar} {K:List V→Prop},xZ Θ σ rs K→∃vs,rs.mapM (om P σ.toD)=some (af vs)∧K vs
 |[],K,h=>⟨[],rfl,h⟩
 | .tmp k::rs,K,h=>by
  simp only[xZ,ax] at h
  split at h
  ·rename_i v e
   obtain⟨vs,h1,h2⟩:=mW hΘ h
   have hr:om P σ.toD (.tmp k)=some v.toD:=by simp only[om,VSt.toD,bD,e,Option.map_some,Option.getD_some]
   exact⟨v::vs,by simp only[List.mapM_cons,hr,h1,af];rfl,h2⟩
  ·rename_i e
   obtain⟨vs,h1,h2⟩:=mW hΘ h
   have hr:om P σ.toD (.tmp k)=some V.undef.toD:=by simp only[om,VSt.toD,bD,e,Option.map_none,Option.getD_none];rfl
   exact⟨.undef::vs,by simp only[List.mapM_cons,hr,h1,af];rfl,h2⟩
 | .cell k T::rs,K,h=>by
  obtain⟨v,l1,h1⟩:=ap h
  obtain⟨c,h2⟩:=h1.ok
  obtain⟨ti,l2,h3⟩:=ap h2
  obtain⟨r,h4,h5⟩:=nV (hΘ _ _ l2) h3
  obtain⟨vs,h6,h7⟩:=mW hΘ h5
  refine⟨r::vs,?_,h7⟩
  have hr:om P σ.toD (.cell k T)=some r.toD:=by
   simp only[om,VSt.toD,bD,l1,Option.map_some,Option.bind_some,xL c,if_true,h4]
  simp only[List.mapM_cons,hr,h6,af]
  rfl
def Ey:List V→V
 |[v]=>v
 |vs=>.tup vs
theorem Ck (vs:List V):one (af vs)=(Ey vs).toD:=by
 match vs with
 |[]=>rfl
 |[v]=>rfl
 |v::v'::vs=>rfl
theorem zp {g g':HL}(he:∀b,look g b=look g' b)(d:D):fwd g d=fwd g' d:=lh fun b _=>he b
theorem Rn.congr {h1 h2 h':HL}{g:Id→Id}(he:∀b,look h1 b=look h2 b){d d':D}(hr:Rn h1 g h' d d'):Rn h2 g h' d d':=by
 have hl:∀b,Live h2 b→Live h1 b:=fun b hb=>by unfold Live at hb⊢;rw[he];exact hb
 induction hr with
 |ref b hb=>exact .ref b fun h=>hb (hl _ h)
 |ptr b o hb=>exact .ptr b o fun h=>hb (hl _ h)
 |eptr b i o hb=>exact .eptr b i o fun h=>hb (hl _ h)
 |vref b o n hb=>exact .vref b o n fun h=>hb (hl _ h)
 |lst b l hb=>exact .lst b l (by rw[←he];exact hb)
 |box b cs hb=>exact .box b cs (by rw[←he];exact hb)
 |fwd d d' hd ih=>exact .fwd d d' (by rw[←zp he];exact ih)
 |pure d hd=>exact .pure d hd
 |nils=>exact .nils
 |iptr e o=>exact .iptr e o
 |gv k=>exact .gv k
 |agg cs cs' hl hc ih=>exact .agg cs cs' hl ih
 |tup cs cs' hl hc ih=>exact .tup cs cs' hl ih
 |clo f cs cs' hl hc ih=>exact .clo f cs cs' hl ih
 |ifc T d d' hd ih=>exact .ifc T d d' ih
 |undef d=>exact .undef d
 |junk=>exact .junk
theorem Ren.congr {h1 h2 h':HL}{g:Id→Id}(he:∀b,look h1 b=look h2 b)(hr:Ren h1 g h'):Ren h2 g h':=by
 refine⟨fun b x' hx=>?_,hr.inj⟩
 obtain⟨x,h3,h4⟩:=hr.blk b x' hx
 refine⟨x,by rw[←he];exact h3,?_⟩
 cases h4 with
 |var T cs cs' hl hc=>exact .var T cs cs' hl fun i hi=>(hc i hi).congr he
 |row E l l' hl hc=>exact .row E l l' hl fun i hi=>⟨(hc i hi).1.congr he,fun s hs=>⟨((hc i hi).2 s hs).1,fun j hj=>(((hc i hi).2 s hs).2 j hj).congr he⟩⟩
 |froz l=>exact .froz l
 |fvar cs=>exact .fvar cs
 |gone x=>exact .gone x
def uB (Θ:TT)(rs:List ResultVar)(m:Nat)(pr:Bool)(σ:VSt)(Q:V→VH→Prop):Prop:=
 match σ with
 |⟨t0,h0,n0⟩=>xZ Θ ⟨t0,h0,n0⟩ rs fun vs=>Gm h0 (match pr with|true=>dM (Ey vs)|false=>[]) fun h=>b8 h (Ey vs) fun v=>qE h (dL (List.range' 4 m) (Ae h (dM v))) fun os=>z7 m os h n0 fun hout=>bc os v fun r=>Q r hout
theorem wh {Θ:TT}(hΘ:Θ.ok P){rs:List ResultVar}{m:Nat}(hK:KB m K){pr:Bool}{Q:V→VH→Prop}(h:uB Θ rs m pr σ Q):∃r hout,kT P rs K σ.toD r.toD (toH hout)∧Q r hout:=by
 obtain⟨t0,h0,n0⟩:=σ
 obtain⟨vs,r1,h1⟩:=mW hΘ h
 obtain⟨hh,⟨bs,he⟩,h2⟩:=zq h1
 obtain⟨v,f1,h3⟩:=iV h2
 obtain⟨os,h4⟩:=nH h3
 obtain⟨hout,q1,q2,q3,q4,h5⟩:=sD h4
 obtain⟨r,b1,_,h6⟩:=ib (h:=hh) (n:=n0) h5
 refine⟨r,hout,⟨_,bs,_,r1,?_,q2.congr fun b=>(he b).symm,fun b hb hl=>?_⟩,h6⟩
 ·refine Rn.congr (fun b=>(he b).symm) ?_
  rw[Ck]
  refine .fwd _ _ ?_
  rw[f1]
  exact b1 hout q1
 ·refine q3 K hK b hb ?_
  have hl2:=iv (bs:=bs) hl
  unfold Live at hl2⊢
  rw[←he]
  exact hl2
theorem fT {l:List D}{i:Nat}(hi:i<l.length):∀b∈aj (l.getD i .undef),b∈aM l:=by
 refine fl ?_
 rw[List.getD_eq_getElem?_getD,List.getElem?_eq_getElem hi]
 exact List.getElem_mem hi
theorem pb (d:D):∀c∈d.cells,∀b∈aj c,b∈aj d:=by
 intro c hc b hb
 cases d with
 |agg cs=>simp only[aj];exact fl hc b hb
 |_=>simp only[D.cells,List.mem_singleton] at hc;subst hc;exact hb
theorem Rn.sub {h h' h2:HL}{g:Id→Id}{d d':D}(hr:Rn h g h' d d'):(∀b∈aj d',Live h' b→Live h2 b)→Rn h g h2 d d':=by
 induction hr with
 |ref b hb=>intro hs;exact .ref b fun h=>hs b (by simp[aj]) (hb h)
 |ptr b o hb=>intro hs;exact .ptr b o fun h=>hs b (by simp[aj]) (hb h)
 |eptr b i o hb=>intro hs;exact .eptr b i o fun h=>hs b (by simp[aj]) (hb h)
 |vref b o n hb=>intro hs;exact .vref b o n fun h=>hs b (by simp[aj]) (hb h)
 |lst b l hb=>intro _;exact .lst b l hb
 |box b cs hb=>intro _;exact .box b cs hb
 |fwd d d' hd ih=>intro hs;exact .fwd d d' (ih hs)
 |pure d hd=>intro _;exact .pure d hd
 |nils=>intro _;exact .nils
 |iptr e o=>intro _;exact .iptr e o
 |gv k=>intro _;exact .gv k
 |agg cs cs' hl hc ih=>intro hs;exact .agg cs cs' hl fun i hi=>ih i hi fun b hb=>hs b (by simp only[aj];exact fT (by omega) b hb)
 |tup cs cs' hl hc ih=>intro hs;exact .tup cs cs' hl fun i hi=>ih i hi fun b hb=>hs b (by simp only[aj];exact fT (by omega) b hb)
 |clo f cs cs' hl hc ih=>intro hs;exact .clo f cs cs' hl fun i hi=>ih i hi fun b hb=>hs b (by simp only[aj];exact fT (by omega) b hb)
 |ifc T d d' hd ih=>intro hs;exact .ifc T d d' (ih fun b hb=>hs b (by simpa only[aj] using hb))
 |undef d=>intro _;exact .undef d
 |junk=>intro _;exact .junk
def Bs:Blk→List Id
 | .var _ cs=>aM cs
 | .row _ l=>aM l
 |_=>[]
theorem RnB.sub {h h' h2:HL}{g:Id→Id}{x x':Blk}(hr:RnB h g h' x x')(hs:∀b∈Bs x',Live h' b→Live h2 b):RnB h g h2 x x':=by
 cases hr with
 |var T cs cs' hl hc=>exact .var T cs cs' hl fun i hi=>(hc i hi).sub fun b hb=>hs b (fT (by omega) b hb)
 |row E l l' hl hc=>
  refine .row E l l' hl fun i hi=>⟨(hc i hi).1.sub fun b hb=>hs b (fT (by omega) b hb),fun s hw=>⟨((hc i hi).2 s hw).1,fun j hj=>(((hc i hi).2 s hw).2 j hj).sub fun b hb=>hs b (fT (i:=i) (by omega) b ?_)⟩⟩
  have hw2:=((hc i hi).2 s hw).1
  have hj2:j<(l'.getD i .undef).cells.length:=by rw[hw2.1];exact hj
  refine pb _ ((l'.getD i .undef).cells.getD j .undef) ?_ b hb
  rw[List.getD_eq_getElem?_getD (l:=(l'.getD i .undef).cells),List.getElem?_eq_getElem hj2]
  exact List.getElem_mem _
 |froz l=>exact .froz l
 |fvar cs=>exact .fvar cs
 |gone x=>exact .gone x
theorem v9 (t:Ty)(x:t.den):∀b∈aj (ab t x),b.1∈t.fams:=by
 have hh:∀(k:Nat) (o:Option Nat),∀b∈aj (iX k o),b.1=k:=fun k o b hb=>by
  cases o with
  |none=>cases hb
  |some i=>simp only[iX,aj,List.mem_singleton] at hb;rw[hb]
 intro b hb
 cases t
 case hr k=>simp only[ab] at hb;simp[Ty.fams,hh _ _ b hb]
 case hp k=>
  cases x with
  |none=>cases hb
  |some i=>simp only[ab,l7,aj,List.mem_singleton] at hb;rw[hb];simp[Ty.fams]
 case vtxo k=>simp only[ab,aj,aM,List.nil_append,List.append_nil] at hb;simp[Ty.fams,hh _ _ b hb]
 case pplm k=>simp only[ab,eE,dA,List.cons_append,aj,aM,List.nil_append,List.append_nil] at hb;simp[Ty.fams,hh _ _ b hb]
 case pplo k k'=>
  simp only[ab,aj,aM,List.nil_append,List.append_nil,List.mem_append] at hb
  rcases hb with hb|hb<;>simp[Ty.fams,hh _ _ b hb]
 case evto k=>simp only[ab,aj,aM,List.nil_append,List.append_nil] at hb;simp[Ty.fams,hh _ _ b hb]
 case nod k=>simp only[ab,eE,dA,List.cons_append,aj,aM,List.nil_append,List.append_nil] at hb;simp[Ty.fams,hh _ _ b hb]
 case ob t=>cases x<;>cases hb
 all_goals cases hb
theorem il (t:Ty)(xs:List t.den):∀b∈aM (xs.map (ab t)),b.1∈t.fams:=by
 intro b hb
 rw[dQ,List.mem_flatMap] at hb
 obtain⟨d,hd,hb⟩:=hb
 obtain⟨x,_,rfl⟩:=List.mem_map.1 hd
 exact v9 t x b hb
theorem rJ {l m:List D}{b:Id}:b∈aM (l++m)↔b∈aM l∨b∈aM m:=by simp[dQ]
theorem E7 (y:VB):∀d∈y.blks,∀b∈Bs d,b.1∈sv y++y.fams:=by
 intro d hd b hb
 rw[List.mem_append]
 cases y with
 |var T cs=>simp only[VB.blks,List.mem_singleton] at hd;subst hd;exact .inl (ci cs b hb)
 |vari T pre m t xs post=>
  simp only[VB.blks,List.mem_singleton] at hd
  subst hd
  simp only[Bs,rJ] at hb
  rcases hb with(hb|hb)|hb
  ·exact .inl (List.mem_append_left _ (ci _ b hb))
  ·exact .inr (il t xs b hb)
  ·exact .inl (List.mem_append_right _ (ci _ b hb))
 |row E t xs=>simp only[VB.blks,List.mem_singleton] at hd;subst hd;exact .inr (il t xs b hb)
 |lit E vs=>simp only[VB.blks,List.mem_singleton] at hd;subst hd;exact .inl (ci vs b hb)
 |fvar T t xs=>
  obtain⟨x,_,rfl⟩:=List.mem_map.1 hd
  simp only[Bs,dQ,List.mem_flatMap] at hb
  obtain⟨c,hc,hb⟩:=hb
  exact .inr (v9 t x b (pb _ c hc b hb))
 |fvari T m t xss=>obtain⟨xs,_,rfl⟩:=List.mem_map.1 hd;exact .inr (il t xs b hb)
 |frow E t xss=>obtain⟨xs,_,rfl⟩:=List.mem_map.1 hd;exact .inr (il t xs b hb)
 |frowx E t xss=>
  obtain⟨xs,_,rfl⟩:=List.mem_map.1 hd
  cases xs with
  |none=>cases hb
  |some xs=>exact .inr (il t xs b hb)
 |froz t xs=>simp only[VB.blks,List.mem_singleton] at hd;subst hd;cases hb
 |fvb t x=>simp only[VB.blks,List.mem_singleton] at hd;subst hd;cases hb
 |moved k i=>simp only[VB.blks,List.mem_singleton] at hd;subst hd;cases hb
 |gone=>simp only[VB.blks,List.mem_singleton] at hd;subst hd;cases hb
def zG:VH→Bool
 |[]=>false
 |(k,_)::l=>Nat.blt k 4||zG l
def De (S:List Nat)(j:Nat):Bool:=Nat.ble 4 j||S.contains j
def Cd (S l:List Nat):Bool:=l.all (De S)
def wQ (h:VH)(S:List Nat):List Nat:=h.flatMap fun p=>match De S p.1 with|true=>(sv p.2++p.2.fams).filter fun k=>Nat.blt k 4|false=>[]
def Av (S fs0:List Nat)(r:V)(h:VH):Bool:=Cd S fs0 && Cd S (dM r) && h.all fun p=>!De S p.1||Cd S (sv p.2++p.2.fams)
def sl (S:List Nat):VH→(VH→Prop)→Prop
 |[],K=>K []
 |(j,x)::l,K=>match De S j with
  |true=>sl S l fun r=>K ((j,x)::r)
  |false=>sl S l K
theorem nD {S:List Nat}:∀{l:VH} {K:VH→Prop},sl S l K→∃l',(∀j,look l' j=if De S j=true then look l j else none)∧K l'
 |[],K,h=>⟨[],fun j=>by simp[look],h⟩
 |(k,x)::l,K,h=>by
  simp only[sl] at h
  split at h
  ·rename_i e
   obtain⟨l',h1,h2⟩:=nD (l:=l) h
   refine⟨_,fun j=>?_,h2⟩
   simp only[look,h1]
   by_cases ej:j=k
   ·subst ej;simp[e]
   ·simp[ej]
  ·rename_i e
   obtain⟨l',h1,h2⟩:=nD (l:=l) h
   refine⟨_,fun j=>?_,h2⟩
   simp only[look,h1]
   by_cases ej:j=k
   ·subst ej;simp[e]
   ·simp[ej]
def lW (fs0:List Nat)(r:V)(h:VH)(K:VH→Prop):Prop:=
 match zG h with
 |false=>K h
 |true=>dC (dL [] (fs0++(dM r).filter fun k=>Nat.blt k 4)) fun S=>dC (dL S (wQ h S)) fun S=>dC (dL S (wQ h S)) fun S=>dC (dL S (wQ h S)) fun S=>Chk (Av S fs0 r h) (sl S h K)
theorem r6 {fs0:List Nat}{r:V}{rs:List ResultVar}{σ:VSt}{K:Id→Prop}(hK:∀b,K b→b.1<4→b.1∈fs0){h:VH}{Q:VH→Prop}(hr:kT P rs K σ.toD r.toD (toH h))(hk:lW fs0 r h Q):∃h',kT P rs K σ.toD r.toD (toH h')∧Q h':=by
 unfold lW at hk
 split at hk
 ·exact⟨h,hr,hk⟩
 ·have hk:=bd (bd (bd (bd hk)))
  obtain⟨c,hk⟩:=hk.ok
  generalize dL _ (wQ h _)=S at *
  simp only[Av,Cd,Bool.and_eq_true,List.all_eq_true,Bool.or_eq_true,Bool.not_eq_true'] at c
  obtain⟨⟨c1,c2⟩,c3⟩:=c
  obtain⟨h',h1,h2⟩:=nD hk
  refine⟨h',?_,h2⟩
  have hl:∀b:Id,look (toH h') b=if De S b.1=true then look (toH h) b else none:=by
   intro b
   rw[al,al,h1]
   split<;>rfl
  have hlv:∀b:Id,De S b.1=true→Live (toH h) b→Live (toH h') b:=by
   intro b hb hv
   unfold Live at hv⊢
   rw[hl,if_pos hb]
   exact hv
  obtain⟨ds,bs,g,r1,r2,r3,r4⟩:=hr
  refine⟨ds,bs,g,r1,r2.sub fun b hb=>hlv b (c2 _ (fU r b hb)),⟨fun b x' hx=>?_,fun b b2 x y hx hy=>?_⟩,fun b hb hv=>?_⟩
  ·rw[hl] at hx
   split at hx
   ·rename_i e
    obtain⟨x,q1,q2⟩:=r3.blk b x' hx
    refine⟨x,q1,q2.sub fun b2 hb2=>hlv b2 ?_⟩
    rw[al] at hx
    obtain⟨y,hy1,hy2⟩:=Option.bind_eq_some_iff.1 hx
    rcases c3 _ (bC hy1) with h0|h0
    ·simp only at h0;rw[e] at h0;cases h0
    ·exact h0 _ (E7 y x' (List.mem_of_getElem? hy2) b2 hb2)
   ·cases hx
  ·rw[hl] at hx hy
   split at hx
   ·split at hy
    ·exact r3.inj b b2 x y hx hy
    ·cases hy
   ·cases hx
  ·obtain⟨q1,q2⟩:=r4 b hb hv
   refine⟨q1,hlv b ?_ q2⟩
   rcases Nat.lt_or_ge b.1 4 with hlt|hge
   ·exact c1 _ (hK b hb hlt)
   ·have:Nat.ble 4 b.1=true:=by rw[Nat.ble_eq];exact hge
    simp[De,this]
def im (h:VH):List Nat:=(keysV h).filter fun k=>Nat.blt k 4
def BF (Q:VSt→Prop):Exit→VSt→Prop
 | .normal,σ=>Q σ
 | .ret,σ=>Q σ
 |_,_=>False
def ae:List V→Nat→VT
 |[],_=>[]
 |v::l,k=>(k,v)::ae l (k+1)
theorem nj:∀(l:List V) (k:Nat),((af l).zipIdx k).map (fun x=>(x.2,x.1))=dK (ae l k)
 |[],k=>rfl
 |v::l,k=>by simp[af,List.zipIdx_cons,ae,nj l (k+1),dK]
theorem pj {hin:VH}{n0:Nat}(hl:u3 n0 hin=true):∀b:Id,n0≤b.1→look (toH hin) b=none:=by
 intro b hb
 rw[al]
 cases hx:look hin b.1 with
 |none=>rfl
 |some x=>
  have:=qL hl b.1 (List.mem_map.2 ⟨_,bC hx,rfl⟩)
  omega
theorem DH {Θ : TT} (hΘ : Θ.ok P) {f : FuncId} {fn : Func} {c : Code} (hf : P.funcs[f]? = some fn) (hb : fn.body = some c) (hname : (fn.name == "runtime.NumGoroutine") = false) (pr : Bool) {vs : List V} {hin : VH} (m n0 : Nat) (hn0 : 4 + m = n0) (hlt : u3 n0 hin = true) (hnd : fE (keysV hin) = true) (hl : Nat.ble vs.length fn.ntmps = true)
  {R:V→VH→Prop} {r0:V} {hout0:VH} (h0:R r0 hout0)
  (h:∀K,KB m K→(∀d∈af vs,bnd 6 d)→(∀x∈hin,∀d∈x.2.blks,bndB 6 d)→At P fn.ntmps K c (BF fun σ=>uB Θ fn.results.toList m pr σ fun r hout=>lW (im hin) r hout (R r)) ⟨ae vs 0,hin,n0⟩):∃r hout,R r hout∧ai P f vs hin r hout:=by
 have hlen:(af vs).length≤fn.ntmps:=by rw[ar];exact Nat.le_of_ble_eq_true hl
 have e1:o8 (af vs)=dK (ae vs 0):=nj vs 0
 have hfr:=pj hlt
 have hK:KB m (Live (toH hin)):=by
  intro b hb
  rcases Nat.lt_or_ge b.1 (4+m) with hlt|hge
  ·exact hlt
  ·unfold Live at hb
   rw[hfr b (by omega)] at hb
   cases hb
 have hbnd:(∀b x,look (toH hin) b=some x→bndB 6 x)→∀x∈hin,∀d∈x.2.blks,bndB 6 d:=by
  rintro hq ⟨k,x⟩ hx d hd
  obtain⟨i,hi⟩:=List.getElem?_of_mem hd
  exact hq (k,i) d (am (eg (by rw[cT];exact eM hnd) hx) hi)
 rcases Classical.em ((∀d∈af vs,bnd 6 d)∧∀b x,look (toH hin) b=some x→bndB 6 x) with hbb|hbb
 ·obtain⟨e,σ',h1,h2⟩:=h _ hK hbb.1 (hbnd hbb.2)
  rcases Classical.em (ec P fn.ntmps (Live (toH hin)) σ'.toD) with hr|hr
  ·have h3:=h2 hr
   have hfin:(e= .normal∨e= .ret)∧uB Θ fn.results.toList m pr σ' fun r hout=>lW (im hin) r hout (R r):=by
    cases e with
    |normal=>exact⟨.inl rfl,h3⟩
    |ret=>exact⟨.inr rfl,h3⟩
    |_=>exact h3.elim
   obtain⟨r,hout1,q1,q2⟩:=wh hΘ hK hfin.2
   obtain⟨hout,q1,q2⟩:=r6 (fun b hb hlt=>by
    unfold Live at hb
    rw[al] at hb
    obtain⟨d,hd⟩:=Option.isSome_iff_exists.1 hb
    obtain⟨y,hy,-⟩:=Option.bind_eq_some_iff.1 hd
    simp only[im,List.mem_filter]
    exact⟨by rw[←cT];exact List.mem_map.2 ⟨_,bC hy,rfl⟩,by simpa[Nat.blt_eq] using hlt⟩) q1 q2
   refine⟨r,hout,q2,uq hf hb hname rfl rfl hlen hfr fun _ _=>⟨e,σ'.toD,?_,fun _=>⟨hfin.1,q1⟩⟩⟩
   rw[e1]
   exact h1
  ·refine⟨r0,hout0,h0,uq hf hb hname rfl rfl hlen hfr fun _ _=>⟨e,σ'.toD,?_,fun h=>absurd h hr⟩⟩
   rw[e1]
   exact h1
 ·exact⟨r0,hout0,h0,uq hf hb hname rfl rfl hlen hfr fun b1 b2=>absurd ⟨b1,b2⟩ hbb⟩
theorem aa {Θ : TT} (hΘ : Θ.ok P) {f : FuncId} {fn : Func} {c : Code} (hf : P.funcs[f]? = some fn) (hb : fn.body = some c) (hname : (fn.name == "runtime.NumGoroutine") = false) (pr : Bool) {vs : List V} {hin : VH} (m n0 : Nat) (hn0 : 4 + m = n0) (hlt : u3 n0 hin = true) (hnd : fE (keysV hin) = true) (hl : Nat.ble vs.length fn.ntmps = true) {r : V} {hout : VH}
  (h:∀K,KB m K→(∀d∈af vs,bnd 6 d)→(∀x∈hin,∀d∈x.2.blks,bndB 6 d)→At P fn.ntmps K c (BF fun σ=>uB Θ fn.results.toList m pr σ fun r' hout'=>lW (im hin) r' hout' fun hout'=>r'=r∧hout'=hout) ⟨ae vs 0,hin,n0⟩):ai P f vs hin r hout:=by
 obtain⟨r',hout',⟨rfl,rfl⟩,h2⟩:=DH hΘ hf hb hname pr m n0 hn0 hlt hnd hl (R:=fun r' hout'=>r'=r∧hout'=hout) ⟨rfl,rfl⟩ h
 exact h2
end Go.Proofs.YthmfppknagbkeaaGreat.Am
namespace Go.Proofs.YthmfppknagbkeaaGreat.Am
open Go Go.RowKit
theorem dD {φ K:Prop}(h:φ)(k:K):bS φ K:=⟨h,k⟩
theorem Eu {b:Bool}{K:Prop}(h:b=true)(k:K):Mk b K:=⟨h,k⟩
theorem Dy {k:IntKind}{z:Int}{K:Int→Prop}(h:FL k z)(g:K z):Ari k z K:=.inl ⟨h,g⟩
theorem Dx {z:Int}{K:Int→Prop}(h:-9223372036854775808≤z∧z≤9223372036854775807)(g:K z):Ari .i64 z K:=.inl ⟨h,g⟩
theorem Db {α:Type}{xs:List α}{i:Int}{K:Nat→α→Prop}(h0:0≤i)(hl:i.toNat<xs.length)(h:∀x,xs[i.toNat]?=some x→K i.toNat x):pS xs i K:=
 ⟨h0,xs[i.toNat],List.getElem?_eq_getElem hl,h _ (List.getElem?_eq_getElem hl)⟩
theorem FI {α:Type}{xs:List α}{i:Int}{K:Nat→α→Prop}{x:α}(h0:0≤i)(hx:xs[i.toNat]?=some x)(h:K i.toNat x):pS xs i K:=⟨h0,x,hx,h⟩
theorem zy {α:Type}{xs:List α}{i:Nat}{K:α→Prop}(hl:i<xs.length)(h:∀x,xs[i]?=some x→K x):eQ xs i K:=
 ⟨xs[i],List.getElem?_eq_getElem hl,h _ (List.getElem?_eq_getElem hl)⟩
theorem FF {α:Type}{xs:List α}{i:Nat}{K:α→Prop}{x:α}(hx:xs[i]?=some x)(h:K x):eQ xs i K:=⟨x,hx,h⟩
theorem Dc {α:Type}{xs:List α}{i:Nat}{K:Nat→α→Prop}(hl:i<xs.length)(h:∀x,xs[i]?=some x→K i x):pS xs (i:Int) K:=
 ⟨Int.natCast_nonneg i,xs[i],List.getElem?_eq_getElem hl,h _ (List.getElem?_eq_getElem hl)⟩
theorem Ee {α:Type}{xs:List α}{i:Nat}{K:Nat→α→Prop}{x:α}(hx:xs[i]?=some x)(h:K i x):pS xs (i:Int) K:=⟨Int.natCast_nonneg i,x,hx,h⟩
theorem C7 {α:Type}{xs:List α}{i:Nat}{K:α→Prop}(hl:i<xs.length)(h:∀x,xs[i]?=some x→K x):eQ xs (i:Int).toNat K:=zy hl h
theorem D1 {α:Type}{xs:List α}{i:Nat}{K:α→Prop}{x:α}(hx:xs[i]?=some x)(h:K x):eQ xs (i:Int).toNat K:=⟨x,hx,h⟩
theorem un {b:Bool}{A B:Prop}(hb:b=true)(h:A):kR b A B:=⟨fun _=>h,fun h=>by rw[hb] at h;cases h⟩
theorem um {b:Bool}{A B:Prop}(hb:b=false)(h:B):kR b A B:=⟨(fun h=>by rw[hb] at h;cases h),fun _=>h⟩
theorem yG {b:Bool}{A B:Prop}(hb:b=false)(h:A):kR (!b) A B:=un (by rw[hb];rfl) h
theorem yF {b:Bool}{A B:Prop}(hb:b=true)(h:B):kR (!b) A B:=um (by rw[hb];rfl) h
theorem DE {p:Prop}[Decidable p]{A B:Prop}(hp:p)(h:A):kR (decide p) A B:=un (decide_eq_true hp) h
theorem DD {p:Prop}[Decidable p]{A B:Prop}(hp:¬p)(h:B):kR (decide p) A B:=um (decide_eq_false hp) h
theorem GG {p:Prop}[Decidable p]{A B:Prop}(h:p→A)(k:¬p→B):kR (decide p) A B:=⟨fun h'=>h (of_decide_eq_true h'),fun h'=>k (of_decide_eq_false h')⟩
theorem FA {A B:Prop}(h:A):kR true A B:=⟨fun _=>h,fun h=>by cases h⟩
theorem Fy {A B:Prop}(h:B):kR false A B:=⟨(by intro h;cases h),fun _=>h⟩
theorem Fz {b:Bool}{A B:Prop}(h:b=true→A)(k:b=false→B):kR b A B:=⟨h,k⟩
theorem aB {P:Program}{f:FuncId}{vs:List V}{hin:VH}{K:V→VH→Prop}{r:V}{hout:VH}(h:ai P f vs hin r hout)(k:K r hout):eG P f vs hin K:=⟨r,hout,h,k⟩
theorem F5 {P:Program}{f:FuncId}{vs:List V}{hin:VH}{K:V→VH→Prop}{α:Type}{R:α→Prop}{r:α→V}{hout:α→VH}(h:∃a,R a∧ai P f vs hin (r a) (hout a))(k:∀a,R a→K (r a) (hout a)):eG P f vs hin K:=by
 obtain⟨a,h1,h2⟩:=h
 exact⟨r a,hout a,h2,k a h1⟩
theorem E6 {x:VB}{A B:Prop}(h:A):jg x x A B:=.inl ⟨rfl,h⟩
theorem E5 {y x:VB}{A B:Prop}(h:B):jg y x A B:=.inr h
theorem Dh {α:Type}{A:Prop}{B:α→Prop}(h:A):jf none A B:=⟨(fun _=>h),(fun x hx=>nomatch hx)⟩
theorem Di {α:Type}{x:α}{A:Prop}{B:α→Prop}(h:B x):jf (some x) A B:=⟨(fun hx=>nomatch hx),(fun y hy=>Option.some.inj hy▸h)⟩
theorem EC {α:Type}{o:Option α}{x:α}{A:Prop}{B:α→Prop}(he:o=some x)(h:B x):jf o A B:=by subst he;exact Di h
theorem EB {α:Type}{o:Option α}{A:Prop}{B:α→Prop}(he:o=none)(h:A):jf o A B:=by subst he;exact Dh h
theorem go {P Q:Prop}(h:Q)(s:Q→P:=by with_reducible first
  |exact Eu (by kernel_rfl)|exact FA|exact Fy|exact un (by assumption)|exact um (by assumption)|exact yG rfl|exact yF rfl|exact yG (by assumption)|exact yF (by assumption)
  |exact DE (by first|assumption|omega|exact trivial|exact rfl)|exact DD (by first|assumption|omega)|exact FR (by assumption)
  |exact dD (by first|omega|assumption|decide|((try unfold le);(try simp only[List.length_set,List.length_append,List.length_cons,List.length_nil,List.length_map,List.length_replicate]);omega))
  |exact Dx (by omega)|exact Ee (by assumption)|exact FI (by omega) (by assumption)|exact D1 (by assumption)|exact FF (by assumption)
  |exact E6|exact E5|exact Dh|exact Di|exact EC (by assumption)|exact EB (by assumption)|exact Dy (by simp only[FL];omega)):P:=s h
theorem GQ {α:Type}{P:Prop}{C Q:α→Prop}(h:∀x,C x→Q x)(s:(∀x,C x→Q x)→P:=by with_reducible first
  |exact Dc (by omega)|exact Db (by omega) (by omega)|exact C7 (by omega)|exact zy (by first|omega|(simp only[List.length_cons,List.length_nil,List.length_set,List.length_append];omega))):P:=s h
variable {P:Program} {N:Nat} {K:Id→Prop}
def pX:List V→Nat→Bool
 |[],0=>true
 | .nilp::l,m+1=>pX l m
 |_,_=>false
theorem nf {t:Ty}{d:t.den}(hd:ab t d= .nilp):∀{l:List V} {m:Nat},pX l m=true→af l=(List.replicate m d).map (ab t)
 |[],0,_=>rfl
 | .nilp::l,m+1,h=>by
  simp only[af,List.replicate_succ,List.map_cons]
  rw[nf hd (l:=l) (m:=m) h,hd]
  rfl
 |[],m+1,h=>by cases h
 |v::l,0,h=>by cases v<;>cases h
 | .int .. ::_,_+1,h| .bool _::_,_+1,h| .tt::_,_+1,h| .ff::_,_+1,h| .str _::_,_+1,h| .lst .. ::_,_+1,h| .box .. ::_,_+1,h| .agg _::_,_+1,h| .tup _::_,_+1,h
 | .nils::_,_+1,h| .nilf::_,_+1,h| .nili::_,_+1,h| .ifc .. ::_,_+1,h| .clo .. ::_,_+1,h| .ref _::_,_+1,h| .ptr .. ::_,_+1,h| .eptr .. ::_,_+1,h| .iptr .. ::_,_+1,h
 | .vref .. ::_,_+1,h| .aptr .. ::_,_+1,h| .fref .. ::_,_+1,h| .fptr .. ::_,_+1,h| .feptr .. ::_,_+1,h| .faptr .. ::_,_+1,h| .hro .. ::_,_+1,h| .hpo .. ::_,_+1,h| .obo .. ::_,_+1,h
 | .undef::_,_+1,h| .gp _::_,_+1,h| .gv _::_,_+1,h| .junk::_,_+1,h=>by cases h
def FY:(t:Ty)→Option t.den
 | .hp _=>some none
 | .ob _=>some none
 |_=>none
theorem CT:∀{t:Ty} {d:t.den},FY t=some d→ab t d= .nilp
 | .hp _,_,h=>by cases h;rfl
 | .ob _,_,h=>by cases h;rfl
def GB (h:VH)(b p m:Nat)(t:Ty)(K:VH→Prop):Prop:=
 cL h b fun x=>(match x with
  | .var T cs=>oC cs p fun pre=>Mk (pX (cs.drop p) m) (match FY t with
   |some d=>xW b (.vari T pre m t (List.replicate m d) []) h K
   |none=>False)
  |_=>False)
theorem yw {c:Code}{Q:Exit→VSt→Prop}{t:VT}{h:VH}{n:Nat}(b p m:Nat)(ty:Ty)(hk:GB h b p m ty fun h'=>At P N K c Q ⟨t,h',n⟩):At P N K c Q ⟨t,h,n⟩:=by
 obtain⟨x,h1,hk⟩:=aG hk
 split at hk
 ·rename_i T cs
  obtain⟨hl,c1,hk⟩:=kI hk
  split at hk
  ·rename_i dn hd
   have hd:=CT hd
   have ha:=mU hk
   refine vT (σ':=⟨t,put b _ h,n⟩) (fun _ _ _ _ _ _ hs=>hs.congr (fun _=>rfl) (fun d=>?_) rfl) ha
   show look (toH (put b _ h)) d=look (toH h) d
   rw[al,al,ah]
   split
   ·rename_i e
    rw[e,h1]
    have:VB.blks (.vari T (cs.take p) m ty (List.replicate m dn) [])=VB.blks (.var T cs):=by
     simp only[VB.blks,af,List.append_nil]
     rw[←nf hd c1]
     congr 2
     rw[bt,bt,bt,←List.map_append,List.take_append_drop]
    simp only[Option.bind_some,this]
   ·rfl
  ·exact hk.elim
 ·exact hk.elim
end Go.Proofs.YthmfppknagbkeaaGreat.Am
namespace Go.Proofs.YthmfppknagbkeaaGreat.Am
open Go Go.RowKit
variable {P:Program} {N:Nat} {K:Id→Prop} {σ:VSt} {Q:Exit→VSt→Prop}
end Go.Proofs.YthmfppknagbkeaaGreat.Am
namespace Go.Proofs.YthmfppknagbkeaaGreat.Am
open Go
def mk (k:Int)(n:Nat):List Int:=(List.range n).map fun i:Nat=>k+i
theorem dp (k:Int)(n:Nat):(mk k n).length=n:=by simp[mk]
theorem Et (k:Int){n i:Nat}(h:i<n):(mk k n)[i]?=some (k+i):=by simp[mk,h]
theorem qR (k:Int)(n:Nat):mk k (n+1)=mk k n++[k+n]:=by simp[mk,List.range_succ]
def gV (n:Nat)(g:List Vtx):List VtxO:=(g.zipIdx n).map fun x=>⟨x.1.round,x.1.author,some x.2,x.1.digest⟩
theorem Bf (n:Nat)(v:Vtx)(g:List Vtx):gV n (v::g)=⟨v.round,v.author,some n,v.digest⟩::gV (n+1) g:=rfl
theorem xf (n:Nat)(g:List Vtx):(gV n g).length=g.length:=by simp[gV]
theorem tU (n:Nat)(g:List Vtx)(v:Vtx):gV n (g++[v])=gV n g++[⟨v.round,v.author,some (n+g.length),v.digest⟩]:=by
 simp[gV,List.zipIdx_append,Nat.add_comm]
def fI:Nat→List (List Vtx)→List (List VtxO)
 |_,[]=>[]
 |n,g::l=>gV n g::fI (n+g.length) l
def aW (gs:List (List Vtx)):List (List Int):=gs.flatMap fun g=>g.map (·.parents)
theorem pF (gs:List (List Vtx))(g:List Vtx):aW (gs++[g])=aW gs++g.map (·.parents):=by simp[aW]
theorem wo (n:Nat):∀gs:List (List Vtx),(fI n gs).length=gs.length:=by
 intro gs
 induction gs generalizing n with
 |nil=>rfl
 |cons g l ih=>simp[fI,ih]
theorem nJ (g:List Vtx):∀(gs:List (List Vtx)) (n:Nat),fI n (gs++[g])=fI n gs++[gV (n+(aW gs).length) g]
 |[],n=>by simp[fI,aW]
 |g0::gs,n=>by
  have:=nJ g gs (n+g0.length)
  simp only[List.cons_append,fI,this,aW,List.flatMap_cons,List.length_append,List.length_map]
  rw[Nat.add_assoc]
def fJ:Nat→List Ppl→List PplO
 |_,[]=>[]
 |n,p::l=>⟨⟨p.v.round,p.v.author,some n,p.v.digest⟩,some (n+1)⟩::fJ (n+2) l
def aF (ps:List Ppl):List (List Int):=ps.flatMap fun p=>[p.v.parents,p.members]
theorem og (ps:List Ppl):(aF ps).length=2*ps.length:=by
 induction ps with
 |nil=>rfl
 |cons p l ih=>simp[aF] at ih⊢;omega
theorem pG (ps:List Ppl)(p:Ppl):aF (ps++[p])=aF ps++[p.v.parents,p.members]:=by simp[aF]
theorem wT (n:Nat):∀ps:List Ppl,(fJ n ps).length=ps.length:=by
 intro ps
 induction ps generalizing n with
 |nil=>rfl
 |cons g l ih=>simp[fJ,ih]
theorem oe (p:Ppl):∀(ps:List Ppl) (n:Nat),fJ n (ps++[p])=fJ n ps++[⟨⟨p.v.round,p.v.author,some (n+2*ps.length),p.v.digest⟩,some (n+2*ps.length+1)⟩]
 |[],n=>rfl
 |q::ps,n=>by
  have:=oe p ps (n+2)
  simp only[List.cons_append,fJ,this,List.length_cons]
  rw[show n+2+2*ps.length=n+2*(ps.length+1) by omega]
theorem mJ {α:Type}(f:α→Nat)(hf:∀x,1≤f x):∀l:List α,l.length≤(l.map f).sum
 |[]=>Nat.zero_le _
 |x::l=>by
  have:=mJ f hf l
  have:=hf x
  simp only[List.length_cons,List.map_cons,List.sum_cons]
  omega
def VsR (pss:List (List Int)):List VtxO→List Vtx→Prop
 |[],[]=>True
 |x::l,v::g=>(∃j,x=⟨v.round,v.author,some j,v.digest⟩∧pss[j]?=some v.parents)∧VsR pss l g
 |_,_=>False
theorem VsR.len {pss:List (List Int)}:∀{vs:List VtxO} {g:List Vtx},VsR pss vs g→vs.length=g.length
 |[],[],_=>rfl
 |_::_,_::_,h=>by simp[VsR.len h.2]
theorem VsR.get {pss:List (List Int)}:∀{vs:List VtxO} {g:List Vtx} {i:Nat} {v:Vtx},VsR pss vs g→g[i]?=some v→∃j,vs[i]?=some ⟨v.round,v.author,some j,v.digest⟩∧pss[j]?=some v.parents
 |[],[],i,v,_,h=>by simp at h
 |x::l,v0::g,0,v,h,hv=>by
  obtain⟨⟨j,rfl,h1⟩,-⟩:=h
  obtain rfl:=Option.some.inj hv
  exact⟨j,rfl,h1⟩
 |x::l,v0::g,i+1,v,h,hv=>VsR.get (i:=i) h.2 (by simpa using hv)
theorem VsR.read {pss:List (List Int)}:∀{vs:List VtxO} {g:List Vtx},VsR pss vs g→vs.mapM (BC pss)=some g
 |[],[],_=>rfl
 |x::l,v::g,h=>by
  obtain⟨⟨j,rfl,h1⟩,h2⟩:=h
  rw[List.mapM_cons,VsR.read h2]
  simp only[BC,Fg]
  rw[h1]
  rfl
theorem VsR.mono {pss pss':List (List Int)}:∀{vs:List VtxO} {g:List Vtx},(∀x∈vs,∀j,x.parents=some j→pss'[j]?=pss[j]?)→VsR pss vs g→VsR pss' vs g
 |[],[],_,_=>trivial
 |x::l,v::g,h,⟨⟨j,hx,h1⟩,h2⟩=>⟨⟨j,hx,by rw[h x (by simp) j (by rw[hx])];exact h1⟩,VsR.mono (fun y hy=>h y (by simp[hy])) h2⟩
theorem xg {pss:List (List Int)}:∀{g:List Vtx} {n:Nat},(∀i v,g[i]?=some v→pss[n+i]?=some v.parents)→VsR pss (gV n g) g
 |[],_,_=>trivial
 |v::g,n,h=>⟨⟨n,rfl,h 0 v rfl⟩,xg (n:=n+1) fun i x hx=>by rw[Nat.add_right_comm];exact h (i+1) x hx⟩
def GsR (pss:List (List Int))(vss:List (List VtxO)):List (Option Nat)→List (List Vtx)→Prop
 |[],[]=>True
 |x::l,g::gs=>(∃i vs,x=some i∧vss[i]?=some vs∧VsR pss vs g)∧GsR pss vss l gs
 |_,_=>False
theorem GsR.len {pss:List (List Int)}{vss:List (List VtxO)}:∀{hs:List (Option Nat)} {gs:List (List Vtx)},GsR pss vss hs gs→hs.length=gs.length
 |[],[],_=>rfl
 |_::_,_::_,h=>by simp[GsR.len h.2]
theorem GsR.get {pss:List (List Int)}{vss:List (List VtxO)}:∀{hs:List (Option Nat)} {gs:List (List Vtx)} {i:Nat} {g:List Vtx},GsR pss vss hs gs→gs[i]?=some g→∃j vs,hs[i]?=some (some j)∧vss[j]?=some vs∧VsR pss vs g
 |[],[],i,v,_,h=>by simp at h
 |x::l,v0::g,0,v,h,hv=>by
  obtain⟨⟨j,vs,rfl,h1⟩,-⟩:=h
  obtain rfl:=Option.some.inj hv
  exact⟨j,vs,rfl,h1⟩
 |x::l,v0::g,i+1,v,h,hv=>GsR.get (i:=i) h.2 (by simpa using hv)
theorem GsR.read {pss:List (List Int)}{vss:List (List VtxO)}:∀{hs:List (Option Nat)} {gs:List (List Vtx)},GsR pss vss hs gs→hs.mapM (F7 pss vss)=some gs
 |[],[],_=>rfl
 |x::l,v::g,h=>by
  obtain⟨⟨j,vs,rfl,h1,h3⟩,h2⟩:=h
  rw[List.mapM_cons,GsR.read h2]
  simp only[F7,h1,Option.bind_some,h3.read]
  rfl
def PsR (pss:List (List Int)):List PplO→List Ppl→Prop
 |[],[]=>True
 |x::l,p::ps=>(∃j k,x=⟨⟨p.v.round,p.v.author,some j,p.v.digest⟩,some k⟩∧pss[j]?=some p.v.parents∧pss[k]?=some p.members)∧PsR pss l ps
 |_,_=>False
theorem PsR.len {pss:List (List Int)}:∀{vs:List PplO} {g:List Ppl},PsR pss vs g→vs.length=g.length
 |[],[],_=>rfl
 |_::_,_::_,h=>by simp[PsR.len h.2]
theorem PsR.get {pss:List (List Int)}:∀{vs:List PplO} {g:List Ppl} {i:Nat} {p:Ppl},PsR pss vs g→g[i]?=some p→∃j k,vs[i]?=some ⟨⟨p.v.round,p.v.author,some j,p.v.digest⟩,some k⟩∧pss[j]?=some p.v.parents∧pss[k]?=some p.members
 |[],[],i,v,_,h=>by simp at h
 |x::l,v0::g,0,v,h,hv=>by
  obtain⟨⟨j,k,rfl,h1⟩,-⟩:=h
  obtain rfl:=Option.some.inj hv
  exact⟨j,k,rfl,h1⟩
 |x::l,v0::g,i+1,v,h,hv=>PsR.get (i:=i) h.2 (by simpa using hv)
theorem PsR.read {pss:List (List Int)}:∀{vs:List PplO} {g:List Ppl},PsR pss vs g→vs.mapM (F8 pss pss)=some g
 |[],[],_=>rfl
 |x::l,v::g,h=>by
  obtain⟨⟨j,k,rfl,h1,h3⟩,h2⟩:=h
  rw[List.mapM_cons,PsR.read h2]
  simp only[F8,BC,Fg,h1,h3]
  rfl
theorem jU {α:Type}(a b:List α){i:Nat}{x:α}(h:b[i]?=some x):(a++b)[a.length+i]?=some x:=by
 rw[List.getElem?_append_right (by omega),Nat.add_sub_cancel_left,h]
theorem fL {α:Type}(a b:List α){i:Nat}{x:α}(h:a[i]?=some x):(a++b)[i]?=some x:=by
 rw[List.getElem?_append_left (List.getElem?_eq_some_iff.1 h).1,h]
theorem wq {gs:List (List Vtx)}{pss:List (List Int)}{vss:List (List VtxO)}:∀{n m:Nat},(∀i x,(aW gs)[i]?=some x→pss[n+i]?=some x)→(∀i x,(fI n gs)[i]?=some x→vss[m+i]?=some x)→GsR pss vss ((List.range' m gs.length).map some) gs:=by
 induction gs with
 |nil=>intro n m _ _;exact trivial
 |cons g l ih=>
  intro n m h1 h2
  refine⟨⟨m,gV n g,rfl,by simpa using h2 0 _ rfl,xg fun i v hv=>h1 i _ ?_⟩,?_⟩
  ·have:(g.map (·.parents))[i]?=some v.parents:=by simp[hv]
   exact fL _ _ this
  ·refine ih (n:=n+g.length) (m:=m+1) (fun i x hx=>?_) fun i x hx=>?_
   ·have:=jU (g.map (·.parents)) (aW l) hx
    rw[List.length_map] at this
    rw[Nat.add_assoc]
    exact h1 _ _ this
   ·rw[Nat.add_assoc,Nat.add_comm 1 i]
    exact h2 (i+1) x hx
theorem wU {ps:List Ppl}{pss:List (List Int)}:∀{n:Nat},(∀i x,(aF ps)[i]?=some x→pss[n+i]?=some x)→PsR pss (fJ n ps) ps:=by
 induction ps with
 |nil=>intro n _;exact trivial
 |cons p l ih=>
  intro n h
  refine⟨⟨n,n+1,rfl,h 0 _ rfl,h 1 _ rfl⟩,ih (n:=n+2) fun i x hx=>?_⟩
  rw[Nat.add_assoc,Nat.add_comm 2 i]
  exact h (i+2) x hx
def cD:List VtxO→Int→List (List Int)→Int×List (List Int)×List VtxO
 |[],k,p=>(k,p,[])
 |x::l,k,p=>
  let j:=x.parents.getD 0
  let n:=(p.getD j []).length
  let r:=cD l (k+3+n) (p.set j (mk (k+2) n))
  (r.1,r.2.1,⟨k,k+1,x.parents,k+2+n⟩::r.2.2)
theorem s8 (x:VtxO):∀(l:List VtxO) (k:Int) (p:List (List Int)),cD (l++[x]) k p=
  (let r:=cD l k p;let j:=x.parents.getD 0;let n:=(r.2.1.getD j []).length
  (r.1+3+n,r.2.1.set j (mk (r.1+2) n),r.2.2++[⟨r.1,r.1+1,x.parents,r.1+2+n⟩]))
 |[],k,p=>rfl
 |y::l,k,p=>by
  simp only[List.cons_append,cD]
  rw[s8 x l]
def eH:List PplO→Int→List (List Int)→Int×List (List Int)×List PplO
 |[],k,p=>(k,p,[])
 |x::l,k,p=>
  let j:=x.v.parents.getD 0
  let n:=(p.getD j []).length
  let p1:=p.set j (mk (k+2) n)
  let i:=x.members.getD 0
  let m:=(p1.getD i []).length
  let r:=eH l (k+3+n+m) (p1.set i (mk (k+3+n) m))
  (r.1,r.2.1,⟨⟨k,k+1,x.v.parents,k+2+n⟩,x.members⟩::r.2.2)
theorem s5 (x:PplO):∀(l:List PplO) (k:Int) (p:List (List Int)),eH (l++[x]) k p=
  (let r:=eH l k p;let j:=x.v.parents.getD 0;let n:=(r.2.1.getD j []).length;let p1:=r.2.1.set j (mk (r.1+2) n);let i:=x.members.getD 0;let m:=(p1.getD i []).length
  (r.1+3+n+m,p1.set i (mk (r.1+3+n) m),r.2.2++[⟨⟨r.1,r.1+1,x.v.parents,r.1+2+n⟩,x.members⟩]))
 |[],k,p=>rfl
 |y::l,k,p=>by
  simp only[List.cons_append,eH]
  rw[s5 x l]
def cg:List (Option Nat)→Int→List (List Int)→List (List VtxO)→Int×List (List Int)×List (List VtxO)
 |[],k,p,vss=>(k,p,vss)
 |x::l,k,p,vss=>
  let j:=x.getD 0
  let r:=cD (vss.getD j []) k p
  cg l r.1 r.2.1 (vss.set j r.2.2)
theorem sT (x:Option Nat):∀(l:List (Option Nat)) (k:Int) (p:List (List Int)) (vss:List (List VtxO)),cg (l++[x]) k p vss=
  (let r:=cg l k p vss;let s:=cD (r.2.2.getD (x.getD 0) []) r.1 r.2.1;(s.1,s.2.1,r.2.2.set (x.getD 0) s.2.2))
 |[],k,p,vss=>rfl
 |y::l,k,p,vss=>by
  simp only[List.cons_append,cg]
  rw[sT x l]
theorem cU (p:List (List Int))(j:Nat)(k:Int):(p.set j (mk k (p.getD j []).length)).map List.length=p.map List.length:=by
 apply List.ext_getElem?
 intro i
 rw[List.getElem?_map,List.getElem?_map,List.getElem?_set]
 split
 ·rename_i h
  subst h
  split
  ·rename_i hl
   rw[List.getElem?_eq_getElem hl]
   simp[dp,List.getD_eq_getElem?_getD,List.getElem?_eq_getElem hl]
  ·rename_i hl
   rw[List.getElem?_eq_none (by omega)]
 ·rfl
theorem ga:∀(l:List VtxO) (k:Int) (p:List (List Int)),(cD l k p).2.1.map List.length=p.map List.length
 |[],k,p=>rfl
 |x::l,k,p=>by simp only[cD];rw[ga l,cU]
theorem eX:∀(l:List PplO) (k:Int) (p:List (List Int)),(eH l k p).2.1.map List.length=p.map List.length
 |[],k,p=>rfl
 |x::l,k,p=>by simp only[eH];rw[eX l,cU,cU]
theorem fZ:∀(l:List (Option Nat)) (k:Int) (p:List (List Int)) (vss:List (List VtxO)),(cg l k p vss).2.1.map List.length=p.map List.length
 |[],k,p,_=>rfl
 |x::l,k,p,vss=>by simp only[cg];rw[fZ l,ga]
theorem fY {p q:List (List Int)}(h:p.map List.length=q.map List.length)(j:Nat):(p.getD j []).length=(q.getD j []).length:=by
 have:=congrArg (fun l=>l[j]?) h
 simp only[List.getElem?_map] at this
 rw[List.getD_eq_getElem?_getD,List.getD_eq_getElem?_getD]
 cases h1:p[j]?<;>cases h2:q[j]?<;>rw[h1,h2] at this<;>simp at this⊢
 exact this
theorem iu {p q:List (List Int)}(h:p.map List.length=q.map List.length){j:Nat}{x:List Int}(hx:q[j]?=some x):∃y,p[j]?=some y∧y.length=x.length:=by
 have:=congrArg (fun l=>l[j]?) h
 simp only[List.getElem?_map,hx] at this
 cases h1:p[j]?<;>rw[h1] at this<;>simp at this
 exact⟨_,rfl,this⟩
theorem eC {p:List (List Int)}{j:Nat}{x:List Int}(hx:p[j]?=some x):(p.getD j []).length=x.length:=by
 rw[List.getD_eq_getElem?_getD,hx]
 rfl
def cV (g:List Vtx):Nat:=(g.map fun v=>3+v.parents.length).sum
def cG (gs:List (List Vtx)):Nat:=(gs.map cV).sum
def cP (ps:List Ppl):Nat:=(ps.map fun p=>3+p.v.parents.length+p.members.length).sum
theorem mN {q:List (List Int)}:∀{vs:List VtxO} {g:List Vtx} (k:Int) (p:List (List Int)),p.map List.length=q.map List.length→VsR q vs g→(cD vs k p).1=k+cV g
 |[],[],k,p,_,_=>by simp[cD,cV]
 |x::l,v::g,k,p,hp,h=>by
  obtain⟨⟨j,rfl,h1⟩,h2⟩:=h
  simp only[cD,Option.getD_some]
  rw[mN _ _ (by rw[cU,hp]) h2,fY hp,eC h1]
  simp only[cV,List.map_cons,List.sum_cons]
  omega
theorem qS {q:List (List Int)}:∀{vs:List PplO} {g:List Ppl} (k:Int) (p:List (List Int)),p.map List.length=q.map List.length→PsR q vs g→(eH vs k p).1=k+cP g
 |[],[],k,p,_,_=>by simp[eH,cP]
 |x::l,v::g,k,p,hp,h=>by
  obtain⟨⟨j,i,rfl,h1,h3⟩,h2⟩:=h
  simp only[eH,Option.getD_some]
  rw[qS _ _ (by rw[cU,cU,hp]) h2,fY (cU _ _ _),fY hp,fY hp,eC h1,eC h3]
  simp only[cP,List.map_cons,List.sum_cons]
  omega
theorem ui (g:List Vtx):g.length≤cV g:=mJ _ (fun v=>by omega) g
theorem uh (g:List Ppl):g.length≤cP g:=mJ _ (fun v=>by omega) g
def hV (vs:List VtxO):List Nat:=vs.map fun x=>x.parents.getD 0
def ko:Int→List Vtx→List Vtx
 |_,[]=>[]
 |k,v::g=>⟨k,k+1,mk (k+2) v.parents.length,k+2+v.parents.length⟩::ko (k+3+v.parents.length) g
theorem nM:∀(l:List VtxO) (k:Int) (p:List (List Int)),hV (cD l k p).2.2=hV l
 |[],k,p=>rfl
 |x::l,k,p=>by
  have:=nM l (k+3+(p.getD (x.parents.getD 0) []).length) (p.set (x.parents.getD 0) (mk (k+2) (p.getD (x.parents.getD 0) []).length))
  simp only[cD,hV,List.map_cons] at this⊢
  rw[this]
theorem mO {j:Nat}:∀(l:List VtxO) (k:Int) (p:List (List Int)),j∉hV l→(cD l k p).2.1[j]?=p[j]?
 |[],k,p,_=>rfl
 |x::l,k,p,h=>by
  simp only[hV,List.map_cons,List.mem_cons,not_or] at h
  simp only[cD]
  rw[mO l _ _ h.2,List.getElem?_set_ne (fun e=>h.1 e.symm)]
theorem s7:∀{vs:List VtxO} {g:List Vtx} (k:Int) (p:List (List Int)),VsR p vs g→(hV vs).Nodup→VsR (cD vs k p).2.1 (cD vs k p).2.2 (ko k g)
 |[],[],k,p,_,_=>trivial
 |x::l,v::g,k,p,h,hn=>by
  obtain⟨⟨j,rfl,h1⟩,h2⟩:=h
  simp only[hV,List.map_cons,List.nodup_cons,Option.getD_some] at hn
  have hl:=eC h1
  simp only[cD,ko,Option.getD_some,hl]
  refine⟨⟨j,rfl,?_⟩,?_⟩
  ·rw[mO l _ _ hn.1,List.getElem?_set_self (List.getElem?_eq_some_iff.1 h1).1]
  ·exact s7 _ _ (h2.mono fun y hy i hi=>List.getElem?_set_ne (fun e=>hn.1 (by subst e;exact List.mem_map.2 ⟨y,hy,by rw[hi];rfl⟩))) hn.2
def hG (vss:List (List VtxO))(hs:List (Option Nat)):List Nat:=hs.flatMap fun x=>hV (vss.getD (x.getD 0) [])
def jh:Int→List (List Vtx)→List (List Vtx)
 |_,[]=>[]
 |k,g::l=>ko k g::jh (k+cV g) l
theorem uK {vss:List (List VtxO)}{j:Nat}{vs:List VtxO}(hv:hV vs=hV (vss.getD j []))(hs:List (Option Nat)):hG (vss.set j vs) hs=hG vss hs:=by
 unfold hG
 congr 1
 funext x
 rw[List.getD_eq_getElem?_getD,List.getElem?_set]
 split
 ·rename_i e
  subst e
  split
  ·rw[Option.getD_some,hv]
  ·rename_i hl
   rw[List.getD_eq_getElem?_getD,List.getElem?_eq_none (by omega)]
 ·rw[List.getD_eq_getElem?_getD]
theorem n8 {j:Nat}:∀(hs:List (Option Nat)) (k:Int) (p:List (List Int)) (vss:List (List VtxO)),j∉hs.map (·.getD 0)→(cg hs k p vss).2.2[j]?=vss[j]?
 |[],k,p,vss,_=>rfl
 |x::l,k,p,vss,h=>by
  simp only[List.map_cons,List.mem_cons,not_or] at h
  simp only[cg]
  rw[n8 l _ _ _ h.2,List.getElem?_set_ne (fun e=>h.1 e.symm)]
theorem qQ {j:Nat}:∀(hs:List (Option Nat)) (k:Int) (p:List (List Int)) (vss:List (List VtxO)),j∉hG vss hs→(cg hs k p vss).2.1[j]?=p[j]?
 |[],k,p,vss,_=>rfl
 |x::l,k,p,vss,h=>by
  have h':j∉hV (vss.getD (x.getD 0) [])∧j∉hG vss l:=by simpa[hG,not_or] using h
  simp only[cg]
  rw[qQ l _ _ _ (by rw[uK (nM _ _ _)];exact h'.2),mO _ _ _ h'.1]
theorem GsR.mono {p p':List (List Int)}{vss vss':List (List VtxO)}:∀{hs:List (Option Nat)} {gs:List (List Vtx)},(∀x∈hs,vss'[x.getD 0]?=vss[x.getD 0]?)→(∀j∈hG vss hs,p'[j]?=p[j]?)→GsR p vss hs gs→GsR p' vss' hs gs
 |[],[],_,_,_=>trivial
 |x::l,g::gs,h,hp,⟨⟨i,vs,hx,h1,h3⟩,h2⟩=>by
  subst hx
  have e:vss.getD ((some i).getD 0) []=vs:=by rw[List.getD_eq_getElem?_getD];show (vss[i]?).getD []=vs;rw[h1];rfl
  refine⟨⟨i,vs,rfl,by rw[show vss'[i]?=vss[i]? from h (some i) (by simp)];exact h1,h3.mono fun y hy j hj=>hp j ?_⟩,GsR.mono (fun y hy=>h y (by simp[hy])) (fun j hj=>hp j ?_) h2⟩
  ·refine List.mem_flatMap.2 ⟨some i,by simp,?_⟩
   rw[e]
   exact List.mem_map.2 ⟨y,hy,by rw[hj];rfl⟩
  ·obtain⟨y,hy,hj⟩:=List.mem_flatMap.1 hj
   exact List.mem_flatMap.2 ⟨y,by simp[hy],hj⟩
theorem qO {q:List (List Int)}:∀{hs:List (Option Nat)} {gs:List (List Vtx)} (k:Int) (p:List (List Int)) (vss:List (List VtxO)),p.map List.length=q.map List.length→(hs.map (·.getD 0)).Nodup→GsR q vss hs gs→(cg hs k p vss).1=k+cG gs
 |[],[],k,p,vss,_,_,_=>by simp[cg,cG]
 |x::l,g::gs,k,p,vss,hp,hn,⟨⟨i,vs,hx,h1,h3⟩,h2⟩=>by
  subst hx
  simp only[List.map_cons,List.nodup_cons,Option.getD_some] at hn
  have e:vss.getD i []=vs:=by rw[List.getD_eq_getElem?_getD,h1];rfl
  simp only[cg,Option.getD_some,e]
  rw[qO (q:=q) (gs:=gs) _ _ _ (by rw[ga,hp]) hn.2 (h2.mono (fun y hy=>List.getElem?_set_ne (fun e=>hn.1 (List.mem_map.2 ⟨y,hy,e.symm⟩))) (fun _ _=>rfl)),mN _ _ hp h3]
  simp only[cG,List.map_cons,List.sum_cons]
  omega
theorem sS:∀{hs:List (Option Nat)} {gs:List (List Vtx)} (k:Int) (p:List (List Int)) (vss:List (List VtxO)),GsR p vss hs gs→(hs.map (·.getD 0)).Nodup→(hG vss hs).Nodup→GsR (cg hs k p vss).2.1 (cg hs k p vss).2.2 hs (jh k gs)
 |[],[],k,p,vss,_,_,_=>trivial
 |x::l,g::gs,k,p,vss,⟨⟨i,vs,hx,h1,h3⟩,h2⟩,hn,hm=>by
  subst hx
  simp only[List.map_cons,List.nodup_cons,Option.getD_some] at hn
  have e:vss.getD i []=vs:=by rw[List.getD_eq_getElem?_getD,h1];rfl
  have hm':(hV vs++hG vss l).Nodup:=by
   have:hG vss (some i::l)=hV (vss.getD i [])++hG vss l:=rfl
   rw[e] at this
   rwa [this] at hm
  obtain⟨m1,m2,m3⟩:=List.nodup_append.1 hm'
  have hi:i<vss.length:=(List.getElem?_eq_some_iff.1 h1).1
  have hg:hG (vss.set i (cD vs k p).2.2) l=hG vss l:=uK (by rw[nM,e]) l
  have hc:=mN k p rfl h3
  simp only[cg,jh,Option.getD_some,e,hc]
  refine⟨⟨i,(cD vs k p).2.2,rfl,?_,?_⟩,?_⟩
  ·rw[n8 l _ _ _ hn.1,List.getElem?_set_self hi]
  ·refine(s7 k p h3 m1).mono fun y hy j hj=>qQ l _ _ _ ?_
   rw[hg]
   intro hjl
   have hjv:j∈hV vs:=by rw[←nM vs k p];exact List.mem_map.2 ⟨y,hy,by rw[hj];rfl⟩
   exact m3 j hjv j hjl rfl
  ·refine sS _ _ _ (h2.mono (fun y hy=>List.getElem?_set_ne (fun e=>hn.1 (List.mem_map.2 ⟨y,hy,e.symm⟩))) fun j hj=>mO _ _ _ fun hjv=>m3 j hjv j hj rfl) hn.2 ?_
   rw[hg]
   exact m2
def hP (ps:List PplO):List Nat:=ps.flatMap fun x=>[x.v.parents.getD 0,x.members.getD 0]
def jJ:Int→List Ppl→List Ppl
 |_,[]=>[]
 |k,p::l=>⟨⟨k,k+1,mk (k+2) p.v.parents.length,k+2+p.v.parents.length⟩,mk (k+3+p.v.parents.length) p.members.length⟩::jJ (k+3+p.v.parents.length+p.members.length) l
theorem PsR.mono {pss pss':List (List Int)}:∀{vs:List PplO} {g:List Ppl},(∀j∈hP vs,pss'[j]?=pss[j]?)→PsR pss vs g→PsR pss' vs g
 |[],[],_,_=>trivial
 |x::l,v::g,h,⟨⟨j,k,hx,h1,h3⟩,h2⟩=>by
  subst hx
  exact⟨⟨j,k,rfl,by rw[h j (by simp[hP])];exact h1,by rw[h k (by simp[hP])];exact h3⟩,PsR.mono (fun y hy=>h y (by simp only[hP,List.flatMap_cons,List.mem_append];exact .inr hy)) h2⟩
theorem mL {j:Nat}:∀(l:List PplO) (k:Int) (p:List (List Int)),j∉hP l→(eH l k p).2.1[j]?=p[j]?
 |[],k,p,_=>rfl
 |x::l,k,p,h=>by
  simp only[hP,List.flatMap_cons,List.mem_append,List.mem_cons,List.not_mem_nil,or_false,not_or] at h
  simp only[eH]
  rw[mL l _ _ h.2,List.getElem?_set_ne (fun e=>h.1.2 e.symm),List.getElem?_set_ne (fun e=>h.1.1 e.symm)]
theorem s4:∀{vs:List PplO} {g:List Ppl} (k:Int) (p:List (List Int)),PsR p vs g→(hP vs).Nodup→PsR (eH vs k p).2.1 (eH vs k p).2.2 (jJ k g)
 |[],[],k,p,_,_=>trivial
 |x::l,v::g,k,p,h,hn=>by
  obtain⟨⟨j,i,rfl,h1,h3⟩,h2⟩:=h
  simp only[hP,List.flatMap_cons,Option.getD_some] at hn
  obtain⟨n1,n2,n3⟩:=List.nodup_append.1 hn
  have hij:j≠i:=by simpa using n1
  have hl:=eC h1
  have hjl:=(List.getElem?_eq_some_iff.1 h1).1
  have hil:=(List.getElem?_eq_some_iff.1 h3).1
  have hl3:((p.set j (mk (k+2) v.v.parents.length)).getD i []).length=v.members.length:=eC (by rw[List.getElem?_set_ne hij];exact h3)
  have j1:j∉hP l:=fun hj=>n3 j (by simp) j hj rfl
  have i1:i∉hP l:=fun hj=>n3 i (by simp) i hj rfl
  simp only[eH,jJ,Option.getD_some,hl,hl3]
  refine⟨⟨j,i,rfl,?_,?_⟩,?_⟩
  ·rw[mL l _ _ j1,List.getElem?_set_ne (fun e=>hij e.symm),List.getElem?_set_self hjl]
  ·rw[mL l _ _ i1,List.getElem?_set_self (by rw[List.length_set];exact hil)]
  ·refine s4 _ _ (h2.mono fun y hy=>?_) n2
   rw[List.getElem?_set_ne (fun e=>i1 (by rw[e];exact hy)),List.getElem?_set_ne (fun e=>j1 (by rw[e];exact hy))]
theorem i0:∀(l:List VtxO) (k:Int) (p:List (List Int)),(cD l k p).2.2.length=l.length
 |[],k,p=>rfl
 |x::l,k,p=>by simp only[cD,List.length_cons];rw[i0 l]
theorem iZ:∀(l:List PplO) (k:Int) (p:List (List Int)),(eH l k p).2.2.length=l.length
 |[],k,p=>rfl
 |x::l,k,p=>by simp only[eH,List.length_cons];rw[iZ l]
theorem VsR.take {pss:List (List Int)}:∀{vs:List VtxO} {g:List Vtx} (i:Nat),VsR pss vs g→VsR pss (vs.take i) (g.take i)
 |[],[],i,_=>by simp[VsR]
 |x::l,v::g,0,_=>trivial
 |x::l,v::g,i+1,h=>⟨h.1,VsR.take i h.2⟩
theorem PsR.take {pss:List (List Int)}:∀{vs:List PplO} {g:List Ppl} (i:Nat),PsR pss vs g→PsR pss (vs.take i) (g.take i)
 |[],[],i,_=>by simp[PsR]
 |x::l,v::g,0,_=>trivial
 |x::l,v::g,i+1,h=>⟨h.1,PsR.take i h.2⟩
theorem GsR.take {pss:List (List Int)}{vss:List (List VtxO)}:∀{vs:List (Option Nat)} {g:List (List Vtx)} (i:Nat),GsR pss vss vs g→GsR pss vss (vs.take i) (g.take i)
 |[],[],i,_=>by simp[GsR]
 |x::l,v::g,0,_=>trivial
 |x::l,v::g,i+1,h=>⟨h.1,GsR.take i h.2⟩
theorem qV {α:Type}(c a:List α){i:Nat}(hc:c.length=i):(c++a.drop i)[i]?=a[i]?:=by
 rw[List.getElem?_append_right (by omega),hc,Nat.sub_self,List.getElem?_drop,Nat.add_zero]
theorem oc {α:Type}(c a:List α)(x:α){i:Nat}(hc:c.length=i)(hi:i<a.length):(c++a.drop i).set i x=(c++[x])++a.drop (i+1):=by
 rw[List.set_append_right _ _ (by omega),hc,Nat.sub_self,List.drop_eq_getElem_cons hi]
 simp only[List.set_cons_zero,List.append_assoc,List.singleton_append]
theorem b9 {α:Type}{l:List α}{i:Nat}{x:α}(h:l[i]?=some x):l.take (i+1)=l.take i++[x]:=by
 obtain⟨hl,rfl⟩:=List.getElem?_eq_some_iff.1 h
 exact List.take_succ_eq_append_getElem hl
theorem qc {g:List Vtx}{i:Nat}{v:Vtx}(h:g[i]?=some v):cV (g.take (i+1))=cV (g.take i)+(3+v.parents.length):=by simp[cV,b9 h]
theorem qb {g:List Ppl}{i:Nat}{v:Ppl}(h:g[i]?=some v):cP (g.take (i+1))=cP (g.take i)+(3+v.v.parents.length+v.members.length):=by simp[cP,b9 h]
theorem qa {g:List (List Vtx)}{i:Nat}{v:List Vtx}(h:g[i]?=some v):cG (g.take (i+1))=cG (g.take i)+cV v:=by simp[cG,b9 h]
theorem oA {α:Type}(f:α→Nat)(l:List α)(i:Nat):((l.take i).map f).sum≤(l.map f).sum:=by
 conv=>rhs;rw[←List.take_append_drop i l,List.map_append,List.sum_append]
 omega
theorem yC (g:List Vtx)(i:Nat):cV (g.take i)≤cV g:=oA _ g i
theorem yB (g:List Ppl)(i:Nat):cP (g.take i)≤cP g:=oA _ g i
theorem yA (g:List (List Vtx))(i:Nat):cG (g.take i)≤cG g:=oA _ g i
theorem s9 {pss:List (List Int)}{vs:List VtxO}{g:List Vtx}{k:Int}{i:Nat}{v:Vtx}(hr:VsR pss vs g)(hv:g[i]?=some v){r:Int×List (List Int)×List VtxO}(hr0:cD (vs.take i) k pss=r):
  ∃j y,(r.2.2++vs.drop i)[i]?=some ⟨v.round,v.author,some j,v.digest⟩∧r.2.1[j]?=some y∧y.length=v.parents.length∧r.1=k+cV (g.take i)∧i<(r.2.2++vs.drop i).length∧
   (cD (vs.take (i+1)) k pss).1=r.1+3+y.length∧(cD (vs.take (i+1)) k pss).2.1=r.2.1.set j (mk (r.1+2) y.length)∧(cD (vs.take (i+1)) k pss).2.2++vs.drop (i+1)=(r.2.2++vs.drop i).set i ⟨r.1,r.1+1,some j,r.1+2+y.length⟩:=by
 obtain⟨j,h1,h2⟩:=hr.get hv
 have hil:i<vs.length:=(List.getElem?_eq_some_iff.1 h1).1
 have hlen:r.2.2.length=i:=by rw[←hr0,i0,List.length_take];omega
 obtain⟨y,h3,h4⟩:=iu (p:=r.2.1) (q:=pss) (by rw[←hr0,ga]) h2
 have hs:=s8 ⟨v.round,v.author,some j,v.digest⟩ (vs.take i) k pss
 rw[←b9 h1,hr0] at hs
 simp only[Option.getD_some,eC h3] at hs
 refine⟨j,y,by rw[qV _ _ hlen,h1],h3,h4,by rw[←hr0,mN k pss rfl (hr.take i)],by simp;omega,?_⟩
 rw[hs,oc _ _ _ hlen hil]
 exact⟨rfl,rfl,rfl⟩
theorem s6 {pss:List (List Int)}{vs:List PplO}{g:List Ppl}{k:Int}{i:Nat}{v:Ppl}(hr:PsR pss vs g)(hv:g[i]?=some v){r:Int×List (List Int)×List PplO}(hr0:eH (vs.take i) k pss=r):
  ∃j y j2 y2,(r.2.2++vs.drop i)[i]?=some ⟨⟨v.v.round,v.v.author,some j,v.v.digest⟩,some j2⟩∧r.2.1[j]?=some y∧(r.2.1.set j (mk (r.1+2) y.length))[j2]?=some y2∧y.length=v.v.parents.length∧y2.length=v.members.length∧r.1=k+cP (g.take i)∧i<(r.2.2++vs.drop i).length∧
   (eH (vs.take (i+1)) k pss).1=r.1+3+y.length+y2.length∧(eH (vs.take (i+1)) k pss).2.1=(r.2.1.set j (mk (r.1+2) y.length)).set j2 (mk (r.1+3+y.length) y2.length)∧(eH (vs.take (i+1)) k pss).2.2++vs.drop (i+1)=(r.2.2++vs.drop i).set i ⟨⟨r.1,r.1+1,some j,r.1+2+y.length⟩,some j2⟩:=by
 obtain⟨j,j2,h1,h2,h5⟩:=hr.get hv
 have hil:i<vs.length:=(List.getElem?_eq_some_iff.1 h1).1
 have hlen:r.2.2.length=i:=by rw[←hr0,iZ,List.length_take];omega
 obtain⟨y,h3,h4⟩:=iu (p:=r.2.1) (q:=pss) (by rw[←hr0,eX]) h2
 have hl3:(r.2.1.set j (mk (r.1+2) y.length)).map List.length=pss.map List.length:=by
  have:=cU r.2.1 j (r.1+2)
  rw[eC h3] at this
  rw[this,←hr0,eX]
 obtain⟨y2,h6,h7⟩:=iu hl3 h5
 have hs:=s5 ⟨⟨v.v.round,v.v.author,some j,v.v.digest⟩,some j2⟩ (vs.take i) k pss
 rw[←b9 h1,hr0] at hs
 simp only[Option.getD_some,eC h3,eC h6] at hs
 refine⟨j,y,j2,y2,by rw[qV _ _ hlen,h1],h3,h6,h4,h7,by rw[←hr0,qS k pss rfl (hr.take i)],by simp;omega,?_⟩
 rw[hs,oc _ _ _ hlen hil]
 exact⟨rfl,rfl,rfl⟩
theorem sU {pss:List (List Int)}{vss:List (List VtxO)}{hs:List (Option Nat)}{gs:List (List Vtx)}{k:Int}{i:Nat}{g:List Vtx}(hr:GsR pss vss hs gs)(hn:(hs.map (·.getD 0)).Nodup)(hv:gs[i]?=some g){r:Int×List (List Int)×List (List VtxO)}(hr0:cg (hs.take i) k pss vss=r):
  ∃j vs g',hs[i]?=some (some j)∧r.2.2[j]?=some vs∧VsR r.2.1 vs g'∧cV g'=cV g∧r.1=k+cG (gs.take i)∧
   (cg (hs.take (i+1)) k pss vss).1=(cD vs r.1 r.2.1).1∧(cg (hs.take (i+1)) k pss vss).2.1=(cD vs r.1 r.2.1).2.1∧(cg (hs.take (i+1)) k pss vss).2.2=r.2.2.set j (cD vs r.1 r.2.1).2.2:=by
 obtain⟨j,vs,h1,h2,h3⟩:=hr.get hv
 have hil:i<hs.length:=(List.getElem?_eq_some_iff.1 h1).1
 have hj:j∉(hs.take i).map (·.getD 0):=by
  intro hm
  obtain⟨a,ha⟩:=List.getElem?_of_mem hm
  rw[List.getElem?_map,List.getElem?_take] at ha
  have h1':(hs.map (·.getD 0))[i]?=some j:=by rw[List.getElem?_map,h1];rfl
  split at ha
  ·rename_i hai
   have h2':(hs.map (·.getD 0))[a]?=some j:=by rw[List.getElem?_map];exact ha
   have e:=(List.getElem?_inj (by rw[List.length_map];omega) hn).1 (h2'.trans h1'.symm)
   omega
  ·cases ha
 have hs':=sT (some j) (hs.take i) k pss vss
 rw[←b9 h1,hr0] at hs'
 have hvs:r.2.2[j]?=some vs:=by rw[←hr0,n8 _ _ _ _ hj,h2]
 have hgd:r.2.2.getD j []=vs:=by rw[List.getD_eq_getElem?_getD,hvs];rfl
 simp only[Option.getD_some,hgd] at hs'
 obtain⟨g',h4,h5⟩:∃g',VsR r.2.1 vs g'∧cV g'=cV g:=by
  have hl:r.2.1.map List.length=pss.map List.length:=by rw[←hr0,fZ]
  have key:∀{vs:List VtxO} {g:List Vtx},VsR pss vs g→∃g',VsR r.2.1 vs g'∧cV g'=cV g:=by
   intro vs
   induction vs with
   |nil=>intro g h;cases g with|nil=>exact⟨[],trivial,rfl⟩|cons=>exact h.elim
   |cons x l ih=>
    intro g h
    cases g with
    |nil=>exact h.elim
    |cons v g=>
     obtain⟨⟨a,rfl,ha⟩,hb⟩:=h
     obtain⟨g',q1,q2⟩:=ih hb
     obtain⟨y,q3,q4⟩:=iu hl ha
     refine⟨⟨v.round,v.author,y,v.digest⟩::g',⟨⟨a,rfl,q3⟩,q1⟩,?_⟩
     simp only[cV,List.map_cons,List.sum_cons] at q2⊢
     rw[q2,q4]
  exact key h3
 refine⟨j,vs,g',h1,hvs,h4,h5,?_,?_⟩
 ·rw[←hr0,qO (q:=pss) k pss vss rfl ?_ (hr.take i)]
  rw[List.map_take]
  exact hn.sublist (List.take_sublist _ _)
 ·rw[hs']
  exact⟨rfl,rfl,rfl⟩
theorem zF:∀(g:List Vtx) (n:Nat),hV (gV n g)=List.range' n g.length
 |[],n=>rfl
 |v::g,n=>by
  have:=zF g (n+1)
  simp only[Bf,hV,List.map_cons,List.length_cons,List.range'_succ] at this⊢
  rw[this]
  rfl
theorem uJ {vss:List (List VtxO)}:∀(gs:List (List Vtx)) (n m:Nat),(∀i x,(fI n gs)[i]?=some x→vss[m+i]?=some x)→hG vss ((List.range' m gs.length).map some)=List.range' n (aW gs).length
 |[],n,m,_=>rfl
 |g::gs,n,m,h=>by
  have:=uJ gs (n+g.length) (m+1) fun i x hx=>by
   rw[Nat.add_assoc,Nat.add_comm 1 i]
   exact h (i+1) x hx
  have h0:vss.getD m []=gV n g:=by rw[List.getD_eq_getElem?_getD,show vss[m]?=some (gV n g) by simpa using h 0 _ rfl];rfl
  have e:hG vss ((List.range' m (g::gs).length).map some)=hV (vss.getD m [])++hG vss ((List.range' (m+1) gs.length).map some):=rfl
  have e2:(aW (g::gs)).length=g.length+(aW gs).length:=by simp[aW]
  rw[e,this,h0,zF,e2,List.range'_append_1]
theorem nL:∀(ps:List Ppl) (n:Nat),hP (fJ n ps)=List.range' n (2*ps.length)
 |[],n=>rfl
 |p::ps,n=>by
  have:=nL ps (n+2)
  have e:hP (fJ n (p::ps))=n::(n+1)::hP (fJ (n+2) ps):=rfl
  rw[e,this,List.length_cons,show 2*(ps.length+1)=2*ps.length+1+1 by omega,List.range'_succ,List.range'_succ]
structure WO (vss:List (List VtxO))(pss:List (List Int))(hs:List (Option Nat))(ps:List PplO)(gs:List (List Vtx))(qs:List Ppl):Prop where
 g:GsR pss vss hs gs
 p:PsR pss ps qs
 hn:(hs.map (·.getD 0)).Nodup
 gn:(hG vss hs).Nodup
 pn:(hP ps).Nodup
 d:∀j∈hP ps,j∉hG vss hs
theorem xj (gs:List (List Vtx))(qs:List Ppl):WO (fI 0 gs) (aW gs++aF qs) ((List.range gs.length).map some) (fJ (aW gs).length qs) gs qs:=by
 have h0:hG (fI 0 gs) ((List.range' 0 gs.length).map some)=List.range' 0 (aW gs).length:=uJ gs 0 0 fun i x hx=>by rw[Nat.zero_add];exact hx
 have hr:List.range gs.length=List.range' 0 gs.length:=List.range_eq_range' ..
 refine⟨?_,wU fun i x hx=>jU _ _ hx,?_,?_,by rw[nL];exact List.nodup_range' ..,fun j hj hj2=>?_⟩
 ·rw[hr]
  exact wq (n:=0) (fun i x hx=>by rw[Nat.zero_add];exact fL _ _ hx) (fun i x hx=>by rw[Nat.zero_add];exact hx)
 ·rw[List.map_map]
  have:((fun x:Option Nat=>x.getD 0)∘some)=id:=rfl
  rw[this,List.map_id]
  exact List.nodup_range
 ·rw[hr,h0]
  exact List.nodup_range' ..
 ·rw[hr,h0] at hj2
  rw[nL] at hj
  have h1:=List.mem_range'_1.1 hj
  have h2:=List.mem_range'_1.1 hj2
  omega
theorem Bl (gs:List (List Vtx))(qs:List Ppl):WO (fI (aF qs).length gs) (aF qs++aW gs) ((List.range gs.length).map some) (fJ 0 qs) gs qs:=by
 have h0:hG (fI (aF qs).length gs) ((List.range' 0 gs.length).map some)=List.range' (aF qs).length (aW gs).length:=uJ gs _ 0 fun i x hx=>by rw[Nat.zero_add];exact hx
 have hr:List.range gs.length=List.range' 0 gs.length:=List.range_eq_range' ..
 refine⟨?_,wU fun i x hx=>by rw[Nat.zero_add];exact fL _ _ hx,?_,?_,by rw[nL];exact List.nodup_range' ..,fun j hj hj2=>?_⟩
 ·rw[hr]
  exact wq (n:=(aF qs).length) (fun i x hx=>jU _ _ hx) (fun i x hx=>by rw[Nat.zero_add];exact hx)
 ·rw[List.map_map]
  have:((fun x:Option Nat=>x.getD 0)∘some)=id:=rfl
  rw[this,List.map_id]
  exact List.nodup_range
 ·rw[hr,h0]
  exact List.nodup_range' ..
 ·rw[hr,h0] at hj2
  rw[nL] at hj
  have h1:=List.mem_range'_1.1 hj
  have h2:=List.mem_range'_1.1 hj2
  have h3:=og qs
  omega
theorem WO.readG {vss:List (List VtxO)}{pss:List (List Int)}{hs:List (Option Nat)}{ps:List PplO}{gs:List (List Vtx)}{qs:List Ppl}(h:WO vss pss hs ps gs qs):(xy pss vss hs)[0]?=some gs:=by rw[xy,h.g.read];rfl
theorem WO.readP {vss:List (List VtxO)}{pss:List (List Int)}{hs:List (Option Nat)}{ps:List PplO}{gs:List (List Vtx)}{qs:List Ppl}(h:WO vss pss hs ps gs qs):(xz pss pss ps)[0]?=some qs:=by rw[xz,h.p.read];rfl
theorem WO.mark {vss:List (List VtxO)}{pss:List (List Int)}{hs:List (Option Nat)}{ps:List PplO}{gs:List (List Vtx)}{qs:List Ppl}(h:WO vss pss hs ps gs qs)(k:Int):
  let r:=cg hs k pss vss;let s:=eH ps r.1 r.2.1
  PsR r.2.1 ps qs∧r.1=k+cG gs∧s.1=k+cG gs+cP qs∧(xy s.2.1 r.2.2 hs)[0]?=some (jh k gs)∧(xz s.2.1 s.2.1 s.2.2)[0]?=some (jJ (k+cG gs) qs):=by
 have h1:PsR (cg hs k pss vss).2.1 ps qs:=h.p.mono fun j hj=>qQ hs k pss vss (h.d j hj)
 have h2:(cg hs k pss vss).1=k+cG gs:=qO k pss vss rfl h.hn h.g
 have h3:=qS (cg hs k pss vss).1 (cg hs k pss vss).2.1 rfl h1
 have h4:=sS k pss vss h.g h.hn h.gn
 have h5:=s4 (cg hs k pss vss).1 (cg hs k pss vss).2.1 h1 h.pn
 have hgg:∀j∈hG (cg hs k pss vss).2.2 hs,j∈hG vss hs:=by
  have key:∀(hs hs':List (Option Nat)) (k:Int) (pss:List (List Int)) (vss:List (List VtxO)),hG (cg hs k pss vss).2.2 hs'=hG vss hs':=by
   intro hs
   induction hs with
   |nil=>intro hs' k pss vss;rfl
   |cons x l ih=>intro hs' k pss vss;simp only[cg];rw[ih,uK (nM _ _ _)]
  intro j hj
  rwa [key] at hj
 refine⟨h1,h2,by rw[h3,h2],?_,?_⟩
 ·have:GsR (eH ps (cg hs k pss vss).1 (cg hs k pss vss).2.1).2.1 (cg hs k pss vss).2.2 hs (jh k gs):=h4.mono (fun _ _=>rfl) fun j hj=>mL ps _ _ fun hj2=>h.d j hj2 (hgg j hj)
  rw[xy,this.read]
  rfl
 ·rw[xz,h5.read,h2]
  rfl
theorem s0:∀(g:List Vtx) (k:Int),(ko k g).length=g.length
 |[],k=>rfl
 |v::g,k=>by simp only[ko,List.length_cons];rw[s0 g]
theorem sW:∀(g:List (List Vtx)) (k:Int),(jh k g).length=g.length
 |[],k=>rfl
 |v::g,k=>by simp only[jh,List.length_cons];rw[sW g]
theorem sY:∀(g:List Ppl) (k:Int),(jJ k g).length=g.length
 |[],k=>rfl
 |v::g,k=>by simp only[jJ,List.length_cons];rw[sY g]
theorem sZ:∀{g:List Vtx} {i:Nat} {v:Vtx} (k:Int),g[i]?=some v→(ko k g)[i]?=some ⟨k+cV (g.take i),k+cV (g.take i)+1,mk (k+cV (g.take i)+2) v.parents.length,k+cV (g.take i)+2+v.parents.length⟩
 |x::g,0,v,k,h=>by
  obtain rfl:=Option.some.inj h
  simp[ko,cV]
 |x::g,i+1,v,k,h=>by
  have:=sZ (k+3+x.parents.length) (show g[i]?=some v by simpa using h)
  rw[ko,List.getElem?_cons_succ,this,List.take_succ_cons]
  simp only[cV,List.map_cons,List.sum_cons]
  rw[show k+3+(x.parents.length:Int)+(((g.take i).map fun v=>3+v.parents.length).sum:Nat)=k+(3+x.parents.length+((g.take i).map fun v=>3+v.parents.length).sum:Nat) by omega]
theorem sV:∀{g:List (List Vtx)} {i:Nat} {v:List Vtx} (k:Int),g[i]?=some v→(jh k g)[i]?=some (ko (k+cG (g.take i)) v)
 |x::g,0,v,k,h=>by
  obtain rfl:=Option.some.inj h
  simp[jh,cG]
 |x::g,i+1,v,k,h=>by
  have:=sV (k+cV x) (show g[i]?=some v by simpa using h)
  rw[jh,List.getElem?_cons_succ,this,List.take_succ_cons]
  simp only[cG,List.map_cons,List.sum_cons]
  rw[show k+(cV x:Int)+(((g.take i).map cV).sum:Nat)=k+(cV x+((g.take i).map cV).sum:Nat) by omega]
theorem sX:∀{g:List Ppl} {i:Nat} {p:Ppl} (k:Int),g[i]?=some p→(jJ k g)[i]?=some ⟨⟨k+cP (g.take i),k+cP (g.take i)+1,mk (k+cP (g.take i)+2) p.v.parents.length,k+cP (g.take i)+2+p.v.parents.length⟩,mk (k+cP (g.take i)+3+p.v.parents.length) p.members.length⟩
 |x::g,0,v,k,h=>by
  obtain rfl:=Option.some.inj h
  simp[jJ,cP]
 |x::g,i+1,v,k,h=>by
  have:=sX (k+3+x.v.parents.length+x.members.length) (show g[i]?=some v by simpa using h)
  rw[jJ,List.getElem?_cons_succ,this,List.take_succ_cons]
  simp only[cP,List.map_cons,List.sum_cons]
  rw[show k+3+(x.v.parents.length:Int)+x.members.length+(((g.take i).map fun p=>3+p.v.parents.length+p.members.length).sum:Nat)=k+(3+x.v.parents.length+x.members.length+((g.take i).map fun p=>3+p.v.parents.length+p.members.length).sum:Nat) by omega]
def cR (n:Nat)(p:Nat→Bool):Bool:=(List.range n).all p
theorem aN {n:Nat}{p:Nat→Bool}:cR n p=true↔∀j,j<n→p j=true:=by simp[cR]
theorem bL {n:Nat}{p:Nat→Bool}(h:∀j,j<n→p j=true):cR n p=true:=aN.2 h
theorem bZ {n j:Nat}{p:Nat→Bool}(hj:j<n)(h:p j=false):cR n p=false:=by
 rw[Bool.eq_false_iff]
 intro ha
 rw[aN.1 ha j hj] at h
 cases h
theorem bk {i:Nat}{p:Nat→Bool}(h:∀j,j<i→p j=true)(hi:p i=true):∀j,j<i+1→p j=true:=by
 intro j hj
 rcases Nat.lt_or_ge j i with hl|hg
 ·exact h j hl
 ·obtain rfl:j=i:=by omega
  exact hi
theorem a8 {α:Type}{l:List α}{i:Nat}{x d:α}(h:l[i]?=some x):l.getD i d=x:=by rw[List.getD_eq_getElem?_getD,h];rfl
theorem dx {α:Type}{l:List α}{i:Nat}{d:α}(h:i<l.length):l.getD i d∈l:=by rw[List.getD_eq_getElem?_getD,List.getElem?_eq_getElem h];exact List.getElem_mem h
theorem cf {α:Type}{l:List α}{x d:α}(h:x∈l):∃i,i<l.length∧l.getD i d=x:=by
 obtain⟨i,hi,rfl⟩:=List.getElem_of_mem h
 exact⟨i,hi,by rw[List.getD_eq_getElem?_getD,List.getElem?_eq_getElem hi];rfl⟩
def gU (n lo hi:Int):Bool:=decide (lo≤n) && decide (n≤hi)
theorem aD {n lo hi:Int}:gU n lo hi=true↔lo≤n∧n≤hi:=by simp[gU]
def comV (c:List Int):Bool:=cR c.length (fun i=>gU (c.getD i 0) 1 9) && gU c.length 1 7
theorem aw {c:List Int}:comV c=true↔(∀x∈c,1≤x∧x≤9)∧1≤c.length∧c.length≤7:=by
 simp only[comV,Bool.and_eq_true,aN,aD]
 constructor
 ·rintro⟨h1,h2⟩
  refine⟨fun x hx=>?_,by omega,by omega⟩
  obtain⟨i,hi,rfl⟩:=cf (d:=0) hx
  exact h1 i hi
 ·rintro⟨h1,h2,h3⟩
  exact⟨fun j hj=>h1 _ (dx hj),by omega,by omega⟩
def oH (c:List Int):Int:=c.sum
theorem mZ {M:Int}(hM:0≤M):∀{l:List Int},(∀x∈l,0≤x∧x≤M)→0≤l.sum∧l.sum≤M*l.length
 |[],_=>by simp
 |x::l,h=>by
  have h1:=h x (List.mem_cons_self ..)
  have h2:=mZ hM fun y hy=>h y (List.mem_cons_of_mem _ hy)
  rw[List.sum_cons,List.length_cons]
  have:M*((l.length+1:Nat):Int)=M*l.length+M:=by rw[Int.natCast_add,Int.mul_add];simp
  omega
theorem oz:∀{l:List Int},(∀x∈l,1≤x)→(l.length:Int)≤l.sum
 |[],_=>by simp
 |x::l,h=>by
  have h1:=h x (List.mem_cons_self ..)
  have h2:=oz fun y hy=>h y (List.mem_cons_of_mem _ hy)
  rw[List.sum_cons,List.length_cons]
  omega
theorem lL {c:List Int}(h:comV c=true):1≤oH c∧oH c≤63:=by
 obtain⟨h1,h2,h3⟩:=aw.1 h
 have h4:=mZ (M:=9) (by omega) fun x hx=>⟨by have:=h1 x hx;omega,(h1 x hx).2⟩
 have h5:=oz fun x hx=>(h1 x hx).1
 unfold oH
 omega
def quo (c:List Int):Int:=(2*oH c).tdiv 3+1
theorem AI {c:List Int}(h:comV c=true):1≤quo c∧quo c≤43:=by
 have h1:=lL h
 unfold quo
 rw[Int.tdiv_eq_ediv_of_nonneg (by omega)]
 omega
def bK (c:List Int)(m:Int):Bool:=gU m 0 (c.length-1)
def e8 (c ms:List Int)(i:Nat):Bool:=bK c (ms.getD i 0) && (i==0||decide (ms.getD (i-1) 0<ms.getD i 0))
def cj (c ms:List Int):Bool:=cR ms.length (e8 c ms)
def mo (c ms:List Int):Int:=(ms.map fun m=>c.getD m.toNat 0).sum
theorem bQ {c ms:List Int}(h:cj c ms=true):∀m∈ms,0≤m∧m<c.length:=by
 intro m hm
 obtain⟨i,hi,rfl⟩:=cf (d:=0) hm
 have:=aN.1 h i hi
 simp only[e8,Bool.and_eq_true,bK,aD] at this
 omega
theorem lE {α:Type}{R:α→α→Prop}(ht:∀a b c,R a b→R b c→R a c):∀{l:List α},(∀i x y,l[i]?=some x→l[i+1]?=some y→R x y)→l.Pairwise R
 |[],_=>List.Pairwise.nil
 |[x],_=>by simp
 |x::y::l,h=>by
  have h0:R x y:=h 0 x y rfl rfl
  have ih:(y::l).Pairwise R:=lE ht fun i a b ha hb=>h (i+1) a b (by simpa using ha) (by simpa using hb)
  refine List.Pairwise.cons (fun a ha=>?_) ih
  rcases List.mem_cons.1 ha with rfl|ha
  ·exact h0
  ·exact ht _ _ _ h0 ((List.pairwise_cons.1 ih).1 a ha)
theorem e9 {c ms:List Int}(h:cj c ms=true):ms.Pairwise (· < ·):=by
 refine lE (fun _ _ _ h1 h2=>by omega) fun i x y hx hy=>?_
 have hl:=(List.getElem?_eq_some_iff.1 hy).1
 have:=aN.1 h (i+1) hl
 simp only[e8,Bool.and_eq_true,Bool.or_eq_true,Nat.add_sub_cancel,a8 hx,a8 hy,decide_eq_true_eq] at this
 rcases this.2 with h|h
 ·simp at h
 ·exact h
theorem wG {c ms:List Int}(h1:∀m∈ms,0≤m∧m<c.length)(h2:ms.Pairwise (· < ·)):cj c ms=true:=by
 refine bL fun j hj=>?_
 simp only[e8,bK,Bool.and_eq_true,aD,Bool.or_eq_true,beq_iff_eq,decide_eq_true_eq]
 have:=h1 _ (dx (d:=0) hj)
 refine⟨by omega,?_⟩
 cases j with
 |zero=>exact .inl rfl
 |succ j=>
  right
  rw[List.pairwise_iff_getElem] at h2
  have:=h2 j (j+1) (by omega) hj (by omega)
  simpa[List.getD_eq_getElem?_getD,List.getElem?_eq_getElem hj,List.getElem?_eq_getElem (show j<ms.length by omega)] using this
theorem vQ:∀{a b:List Int},a.Pairwise (· < ·)→b.Pairwise (· < ·)→(∀x,x∈a↔x∈b)→a=b
 |[],[],_,_,_=>rfl
 |[],y::b,_,_,h=>by have:=(h y).2 (List.mem_cons_self ..);cases this
 |x::a,[],_,_,h=>by have:=(h x).1 (List.mem_cons_self ..);cases this
 |x::a,y::b,ha,hb,h=>by
  rw[List.pairwise_cons] at ha hb
  have hxy:x=y:=by
   have h1:=(h x).1 (List.mem_cons_self ..)
   have h2:=(h y).2 (List.mem_cons_self ..)
   rcases List.mem_cons.1 h1 with h1|h1
   ·exact h1
   ·rcases List.mem_cons.1 h2 with h2|h2
    ·exact h2.symm
    ·have:=ha.1 y h2;have:=hb.1 x h1;omega
  subst hxy
  rw[vQ ha.2 hb.2 fun z=>?_]
  have hz:=h z
  constructor
  ·intro hz1
   have hlt:=ha.1 z hz1
   rcases List.mem_cons.1 (hz.1 (List.mem_cons_of_mem _ hz1)) with e|e
   ·omega
   ·exact e
  ·intro hz1
   have hlt:=hb.1 z hz1
   rcases List.mem_cons.1 (hz.2 (List.mem_cons_of_mem _ hz1)) with e|e
   ·omega
   ·exact e
theorem Bi {c ms:List Int}(h:comV c=true):0≤mo c ms∧mo c ms≤9*ms.length:=by
 have hc:=(aw.1 h).1
 have:=mZ (M:=9) (by omega) (l:=ms.map fun m=>c.getD m.toNat 0) fun x hx=>by
  obtain⟨m,-,rfl⟩:=List.mem_map.1 hx
  rcases Nat.lt_or_ge m.toNat c.length with hl|hg
  ·have:=hc _ (dx (d:=0) hl);omega
  ·simp[List.getD_eq_getElem?_getD,List.getElem?_eq_none hg]
 rwa [List.length_map] at this
theorem Bj (c ms:List Int)(m:Int):mo c (ms++[m])=mo c ms+c.getD m.toNat 0:=by simp[mo]
instance:Inhabited Vtx:=⟨⟨0,0,[],0⟩⟩
def v0:Vtx:=⟨0,0,[],0⟩
def vtxS (c:List Int)(v:Vtx):Bool:=gU v.round 0 30 && (bK c v.author && (cj c v.parents && (gU v.digest 0 990 && (if v.round=0 then v.parents.length==0 else decide (quo c≤mo c v.parents)))))
def iq (r a:Int)(v:Vtx):Bool:=v.round==r && v.author==a
def cq (g:List Vtx)(r a:Int):Bool:=g.any (iq r a)
def parOK (g:List Vtx)(v:Vtx):Bool:=v.parents.all fun p=>cq g (v.round-1) p
def bef (a b:Vtx):Bool:=decide (a.round<b.round)||decide (a.round=b.round) && decide (a.author<b.author)
theorem o9 {a b c:Vtx}(h1:bef a b=true)(h2:bef b c=true):bef a c=true:=by
 simp only[bef,Bool.or_eq_true,Bool.and_eq_true,decide_eq_true_eq] at *
 omega
def fo (c:List Int)(g:List Vtx)(i:Nat):Bool:=vtxS c (g.getD i v0) && ((i==0||bef (g.getD (i-1) v0) (g.getD i v0)) && parOK g (g.getD i v0))
def graS (c:List Int)(g:List Vtx):Bool:=comV c && cR g.length (fo c g)
def dS (c:List Int)(g:List Vtx)(i:Nat):Bool:=vtxS c (g.getD i v0) && ((i==0||bef (g.getD (i-1) v0) (g.getD i v0)) && parOK (g.take i) (g.getD i v0))
theorem kh {r a:Int}{v:Vtx}:iq r a v=true↔v.round=r∧v.author=a:=by simp[iq]
theorem ce {g:List Vtx}{r a:Int}:cq g r a=true↔∃v∈g,v.round=r∧v.author=a:=by simp[cq,kh]
theorem dY {g:List Vtx}{v:Vtx}:parOK g v=true↔∀p∈v.parents,cq g (v.round-1) p=true:=by simp[parOK]
theorem yu {g:List Vtx}(h:∀i,i<g.length→(i==0||bef (g.getD (i-1) v0) (g.getD i v0))=true):g.Pairwise fun a b=>bef a b=true:=by
 refine lE (R:=fun a b=>bef a b=true) (fun _ _ _ h1 h2=>o9 h1 h2) fun i x y hx hy=>?_
 have:=h (i+1) (List.getElem?_eq_some_iff.1 hy).1
 rw[Nat.add_sub_cancel,a8 hx,a8 hy] at this
 simpa using this
theorem qX {α:Type}{R:α→α→Prop}{l:List α}(h:l.Pairwise R){i j:Nat}{x y:α}(hij:i<j)(hx:l[i]?=some x)(hy:l[j]?=some y):R x y:=by
 obtain⟨hi,rfl⟩:=List.getElem?_eq_some_iff.1 hx
 obtain⟨hj,rfl⟩:=List.getElem?_eq_some_iff.1 hy
 exact List.pairwise_iff_getElem.1 h i j hi hj hij
theorem AC {g:List Vtx}(hp:g.Pairwise fun a b=>bef a b=true){i:Nat}{v:Vtx}(hv:g[i]?=some v):parOK (g.take i) v=parOK g v:=by
 rw[Bool.eq_iff_iff,dY,dY]
 constructor
 ·intro h p hp1
  obtain⟨u,hu,h1⟩:=ce.1 (h p hp1)
  exact ce.2 ⟨u,List.mem_of_mem_take hu,h1⟩
 ·intro h p hp1
  obtain⟨u,hu,h1,h2⟩:=ce.1 (h p hp1)
  refine ce.2 ⟨u,?_,h1,h2⟩
  obtain⟨j,hj⟩:=List.getElem?_of_mem hu
  have hji:j<i:=by
   rcases Nat.lt_trichotomy j i with h|rfl|h
   ·exact h
   ·rw[hj] at hv;obtain rfl:=Option.some.inj hv;omega
   ·have:=qX hp h hv hj
    simp only[bef,Bool.or_eq_true,Bool.and_eq_true,decide_eq_true_eq] at this
    omega
  exact List.mem_of_getElem? (i:=j) (by rw[List.getElem?_take,if_pos hji];exact hj)
theorem wm {c:List Int}{g:List Vtx}:cR g.length (dS c g)=cR g.length (fo c g):=by
 have key:(∀i,i<g.length→(i==0||bef (g.getD (i-1) v0) (g.getD i v0))=true)→∀i,i<g.length→parOK (g.take i) (g.getD i v0)=parOK g (g.getD i v0):=fun h i hi=>
  AC (yu h) (by rw[List.getD_eq_getElem?_getD,List.getElem?_eq_getElem hi];rfl)
 rw[Bool.eq_iff_iff,aN,aN]
 constructor
 ·intro h i hi
  have h1:=h i hi
  simp only[dS,Bool.and_eq_true] at h1
  simp only[fo,Bool.and_eq_true]
  refine⟨h1.1,h1.2.1,?_⟩
  rw[←key (fun j hj=>?_) i hi]
  ·exact h1.2.2
  ·have:=h j hj
   simp only[dS,Bool.and_eq_true] at this
   exact this.2.1
 ·intro h i hi
  have h1:=h i hi
  simp only[fo,Bool.and_eq_true] at h1
  simp only[dS,Bool.and_eq_true]
  refine⟨h1.1,h1.2.1,?_⟩
  rw[key (fun j hj=>?_) i hi]
  ·exact h1.2.2
  ·have:=h j hj
   simp only[fo,Bool.and_eq_true] at this
   exact this.2.1
structure GraOK (c:List Int)(g:List Vtx):Prop where
 com:comV c=true
 vtx:∀v∈g,vtxS c v=true
 pw:g.Pairwise fun a b=>bef a b=true
 par:∀v∈g,parOK g v=true
theorem j8 {c:List Int}{g:List Vtx}(h:graS c g=true):GraOK c g:=by
 simp only[graS,Bool.and_eq_true,aN] at h
 obtain⟨h1,h2⟩:=h
 have h3:∀i,i<g.length→vtxS c (g.getD i v0)=true∧(i==0||bef (g.getD (i-1) v0) (g.getD i v0))=true∧parOK g (g.getD i v0)=true:=fun i hi=>by
  have:=h2 i hi
  simpa only[fo,Bool.and_eq_true] using this
 refine⟨h1,fun v hv=>?_,yu fun i hi=>(h3 i hi).2.1,fun v hv=>?_⟩<;>(obtain⟨i,hi,rfl⟩:=cf (d:=v0) hv)
 ·exact(h3 i hi).1
 ·exact(h3 i hi).2.2
theorem bR {c:List Int}{v:Vtx}(h:vtxS c v=true):(0≤v.round∧v.round≤30)∧(0≤v.author∧v.author<c.length)∧cj c v.parents=true∧(0≤v.digest∧v.digest≤990)∧(v.round=0→v.parents=[])∧(v.round≠0→quo c≤mo c v.parents):=by
 simp only[vtxS,bK,Bool.and_eq_true,aD] at h
 obtain⟨h1,h2,h3,h4,h5⟩:=h
 refine⟨h1,by omega,h3,h4,fun h0=>?_,fun h0=>?_⟩
 ·rw[if_pos h0] at h5;simpa using h5
 ·rw[if_neg h0] at h5;simpa using h5
def dd (g:List Vtx)(r:Int):List Int:=(g.filter fun v=>v.round==r).map (·.author)
theorem nk {g:List Vtx}{r a:Int}:a∈dd g r↔cq g r a=true:=by
 rw[ce]
 simp only[dd,List.mem_map,List.mem_filter,beq_iff_eq]
 constructor
 ·rintro⟨v,⟨h1,h2⟩,h3⟩;exact⟨v,h1,h2,h3⟩
 ·rintro⟨v,h1,h2,h3⟩;exact⟨v,⟨h1,h2⟩,h3⟩
theorem rR {g:List Vtx}(h:g.Pairwise fun a b=>bef a b=true)(r:Int):(dd g r).Pairwise (· < ·):=by
 unfold dd
 rw[List.pairwise_map]
 have h1:(g.filter fun v=>v.round==r).Pairwise fun a b=>bef a b=true:=h.sublist (List.filter_sublist ..)
 refine h1.imp_of_mem fun {a b} ha hb hab=>?_
 have ha:=(List.mem_filter.1 ha).2
 have hb:=(List.mem_filter.1 hb).2
 simp only[bef,Bool.or_eq_true,Bool.and_eq_true,decide_eq_true_eq,beq_iff_eq] at *
 omega
theorem kV {c:List Int}{g:List Vtx}(h:GraOK c g)(r:Int):cj c (dd g r)=true:=by
 refine wG (fun m hm=>?_) (rR h.pw r)
 obtain⟨v,h1,-,rfl⟩:=ce.1 (nk.1 hm)
 exact(bR (h.vtx v h1)).2.1
def rN (c:List Int)(g:List Vtx)(r:Int):List Int:=((List.range c.length).filter fun a:Nat=>cq g r (a:Int)).map fun a:Nat=>(a:Int)
theorem rO {c:List Int}{g:List Vtx}(h:GraOK c g)(r:Int):rN c g r=dd g r:=by
 refine vQ ?_ (rR h.pw r) fun x=>?_
 ·unfold rN
  rw[List.pairwise_map]
  refine(List.Pairwise.sublist (List.filter_sublist ..) List.pairwise_lt_range).imp fun {a b} hab=>by omega
 ·rw[nk]
  simp only[rN,List.mem_map,List.mem_filter,List.mem_range]
  constructor
  ·rintro⟨a,⟨h1,h2⟩,rfl⟩;exact h2
  ·intro hx
   obtain⟨v,h1,-,h3⟩:=ce.1 hx
   have:=(bR (h.vtx v h1)).2.1
   refine⟨x.toNat,⟨by omega,?_⟩,by omega⟩
   rw[show ((x.toNat:Nat):Int)=x by omega]
   exact hx
def fV (c:List Int)(g:List Vtx):Nat→Int
 |0=>-1
 |r+1=>if quo c≤mo c (dd g r) then r else fV c g r
def dJ (c:List Int)(g:List Vtx):Int:=fV c g 31
theorem ka (c:List Int)(g:List Vtx):∀n,-1≤fV c g n∧fV c g n<n
 |0=>by simp[fV]
 |n+1=>by
  have:=ka c g n
  unfold fV
  split<;>omega
structure GS where
 nodes:List Nod
 rows:List (List (Option Nat))
 plc:List (Option Nat)
def GS.at (s:GS)(r a:Int):Option Nat:=s.plc.getD (r*7+a).toNat none
def lk:GS:=⟨[],[],List.replicate 217 none⟩
def bB (s:GS)(v:Vtx):GS:=
 ⟨s.nodes++[⟨v,s.nodes.length,if v.parents=[] then none else some s.rows.length⟩],if v.parents=[] then s.rows else s.rows++[v.parents.map fun p=>s.at (v.round-1) p],s.plc.set (v.round*7+v.author).toNat (some s.nodes.length)⟩
def lm (g:List Vtx):GS:=g.foldl bB lk
theorem nK (g:List Vtx)(v:Vtx):lm (g++[v])=bB (lm g) v:=by simp[lm]
theorem cJ {α:Type}{p:List α→Prop}(h0:p [])(h:∀l x,p l→p (l++[x])):∀l,p l:=by
 intro l
 have:∀n (l:List α),l.length=n→p l:=by
  intro n
  induction n with
  |zero=>intro l hl;rw[List.length_eq_zero_iff.1 hl];exact h0
  |succ n ih=>
   intro l hl
   have hne:l≠[]:=by intro h;rw[h] at hl;simp at hl
   rw[←List.dropLast_concat_getLast hne]
   exact h _ _ (ih _ (by simp[hl]))
 exact this _ l rfl
theorem qF (g:List Vtx):(lm g).nodes.length=g.length∧(lm g).plc.length=217:=by
 induction g using cJ with
 |h0=>exact⟨rfl,List.length_replicate⟩
 |h l x ih=>rw[nK];simp[bB,ih.1,ih.2]
def fp (v:Vtx):Prop:=(0≤v.round∧v.round≤30)∧0≤v.author∧v.author≤6
theorem cK {c:List Int}{v:Vtx}(hc:comV c=true)(h:vtxS c v=true):fp v:=by
 obtain⟨h1,h2,-⟩:=bR h
 have:=(aw.1 hc).2.2
 exact⟨h1,by omega,by omega⟩
theorem zE {g:List Vtx}(hg:∀v∈g,fp v){r a:Int}(hr:0≤r∧r≤30)(ha:0≤a∧a≤6):((lm g).at r a).isSome=cq g r a∧∀i,(lm g).at r a=some i→∃v,g[i]?=some v∧v.round=r∧v.author=a:=by
 induction g using cJ with
 |h0=>
  have:(lm []).at r a=none:=by
   simp only[lm,List.foldl_nil,lk,GS.at,List.getD_eq_getElem?_getD]
   rw[List.getElem?_replicate]
   split<;>rfl
  rw[this]
  exact⟨rfl,fun i hi=>by cases hi⟩
 |h l v ih=>
  have ih:=ih fun u hu=>hg u (List.mem_append_left _ hu)
  have hv:=hg v (by simp)
  have hl:=qF l
  have hk:(v.round*7+v.author).toNat<(lm l).plc.length:=by
   obtain⟨h1,h2⟩:=hv
   rw[hl.2]
   omega
  have hany:cq (l++[v]) r a=(cq l r a||iq r a v):=by simp[cq]
  rw[nK,hany]
  by_cases he:v.round=r∧v.author=a
  ·have h1:(bB (lm l) v).at r a=some l.length:=by
    obtain⟨rfl,rfl⟩:=he
    simp only[bB,GS.at,List.getD_eq_getElem?_getD]
    rw[List.getElem?_set_self hk,hl.1]
    rfl
   rw[h1,kh.2 he,Bool.or_true]
   refine⟨rfl,fun i hi=>?_⟩
   obtain rfl:=Option.some.inj hi
   exact⟨v,by simp,he⟩
  ·have hne:iq r a v=false:=by rw[Bool.eq_false_iff];exact fun h=>he (kh.1 h)
   have h1:(bB (lm l) v).at r a=(lm l).at r a:=by
    simp only[bB,GS.at,List.getD_eq_getElem?_getD]
    rw[List.getElem?_set_ne]
    obtain⟨h1,h2⟩:=hv
    omega
   rw[h1,hne,Bool.or_false]
   refine⟨ih.1,fun i hi=>?_⟩
   obtain⟨u,h2,h3⟩:=ih.2 i hi
   exact⟨u,by rw[List.getElem?_append_left (List.getElem?_eq_some_iff.1 h2).1];exact h2,h3⟩
def lg (g:List Vtx)(r a:Int):Int:=match g.findIdx? (iq r a) with|some i=>i|none=>-1
theorem BJ {g:List Vtx}{r a:Int}:(g.findIdx? (iq r a)).isSome=cq g r a:=by simp[cq,List.findIdx?_isSome]
def leaS (c l:List Int):Bool:=cR l.length (fun i=>bK c (l.getD i 0)) && decide ((l.length:Int)≤15)
theorem fX {c l:List Int}:leaS c l=true↔(∀x∈l,0≤x∧x<c.length)∧l.length≤15:=by
 simp only[leaS,Bool.and_eq_true,aN,bK,aD,decide_eq_true_eq]
 constructor
 ·rintro⟨h1,h2⟩
  refine⟨fun x hx=>?_,by omega⟩
  obtain⟨i,hi,rfl⟩:=cf (d:=0) hx
  have:=h1 i hi
  omega
 ·rintro⟨h1,h2⟩
  exact⟨fun i hi=>by have:=h1 _ (dx (d:=0) hi);omega,by omega⟩
def wg (c:List Int):Int:=(oH c-1).tdiv 3
theorem zd {c:List Int}(h:comV c=true):0≤wg c∧wg c≤20∧3*wg c<oH c:=by
 have h1:=lL h
 unfold wg
 rw[Int.tdiv_eq_ediv_of_nonneg (by omega)]
 omega
def badS (c:List Int)(b:Int):Bool:=gU b (-1) (c.length-1) && (decide (b<0)||decide (c.getD b.toNat 0≤wg c))
theorem jV {c:List Int}{b:Int}:badS c b=true↔b= -1∨((0≤b∧b<c.length)∧c.getD b.toNat 0≤wg c):=by
 simp only[badS,Bool.and_eq_true,aD,Bool.or_eq_true,decide_eq_true_eq]
 omega
def ji (c l:List Int)(b:Int):Bool:=comV c && (leaS c l && badS c b)
def w0:Wrl:=⟨[],[],0,[],[]⟩
def Gx (c l:List Int)(b:Int):Wrl:=⟨c,l,b,List.replicate c.length [],[]⟩
def gm (a b:Vtx):Bool:=a.round==b.round && (a.author==b.author && (a.digest==b.digest && a.parents==b.parents))
theorem kL {a b:Vtx}:gm a b=true↔a=b:=by
 obtain⟨r,x,ps,d⟩:=a
 obtain⟨r2,x2,ps2,d2⟩:=b
 simp only[gm,Bool.and_eq_true,beq_iff_eq,Vtx.mk.injEq]
 constructor
 ·rintro⟨h1,h2,h3,h4⟩;exact⟨h1,h2,h4,h3⟩
 ·rintro⟨h1,h2,h3,h4⟩;exact⟨h1,h2,h4,h3⟩
theorem Bb (a:Vtx):gm a a=true:=kL.2 rfl
def slt (a b:Vtx):Bool:=a.round==b.round && a.author==b.author
theorem mX {a b:Vtx}:slt a b=true↔a.round=b.round∧a.author=b.author:=by simp[slt]
theorem tF (a b:Vtx):slt a b=slt b a:=by
 rw[Bool.eq_iff_iff,mX,mX]
 constructor<;>rintro⟨h1,h2⟩<;>exact⟨h1.symm,h2.symm⟩
def jX (bad:Int)(a b:List Int):Bool:=a.any fun m=>m !=bad && b.contains m
theorem jY {bad:Int}{a b:List Int}:jX bad a b=true↔∃m,m≠bad∧m∈a∧m∈b:=by
 simp only[jX,List.any_eq_true,Bool.and_eq_true,bne_iff_ne,List.contains_iff_mem]
 constructor
 ·rintro⟨m,h1,h2,h3⟩;exact⟨m,h2,h1,h3⟩
 ·rintro⟨m,h1,h2,h3⟩;exact⟨m,h2,h1,h3⟩
theorem xu (bad:Int)(a b:List Int):jX bad a b=jX bad b a:=by
 rw[Bool.eq_iff_iff,jY,jY]
 constructor<;>rintro⟨m,h1,h2,h3⟩<;>exact⟨m,h1,h3,h2⟩
def fitP (bad:Int)(p q:Ppl):Bool:=!slt p.v q.v||(!gm p.v q.v && (p.v.author==bad && !jX bad p.members q.members))
theorem ld (bad:Int)(p q:Ppl):fitP bad p q=fitP bad q p:=by
 unfold fitP
 rw[tF,xu]
 cases h:slt q.v p.v
 ·rfl
 ·have h1:=mX.1 h
  have h2:gm p.v q.v=gm q.v p.v:=by
   rw[Bool.eq_iff_iff,kL,kL]
   exact⟨Eq.symm,Eq.symm⟩
  rw[h2,h1.2]
def p0:Ppl:=⟨v0,[]⟩
def oneP (c:List Int)(p:Ppl):Bool:=vtxS c p.v && cj c p.members
def dN (c:List Int)(bad:Int)(ps:List Ppl)(i:Nat):Bool:=oneP c (ps.getD i p0) && cR i (fun k=>fitP bad (ps.getD i p0) (ps.getD k p0))
def eD (c:List Int)(bad:Int)(ps:List Ppl):Bool:=cR ps.length (dN c bad ps) && decide ((ps.length:Int)≤220)
def don (c:List Int)(p:Ppl):Bool:=decide (quo c≤mo c p.members)
def knw (c:List Int)(ps:List Ppl)(v:Vtx):Bool:=ps.any fun p=>don c p && gm p.v v
def lO (c:List Int)(ps:List Ppl)(g:List Vtx):Bool:=g.all (knw c ps) && graS c g
def ew (c:List Int)(bad:Int)(ps:List Ppl)(gs:List (List Vtx)):Bool:=cR gs.length fun i=>lO c ps (gs.getD i []) && (!((i:Int)==bad)||(gs.getD i []).isEmpty)
def fC (bad:Int)(gs:List (List Vtx))(p:Ppl)(m:Nat):Bool:=!((m:Int) !=bad && ((m:Int)==p.v.author||p.members.contains (m:Int)))||parOK (gs.getD m []) p.v
def lr (bad:Int)(ps:List Ppl)(gs:List (List Vtx)):Bool:=ps.all fun p=>cR gs.length (fC bad gs p)
def fH (w:Wrl):Bool:=ji w.com w.lead w.bad && ((w.views.length==w.com.length) && (eD w.com w.bad w.props && (ew w.com w.bad w.props w.views && lr w.bad w.props w.views)))
def Θ:TT:=[
  (3,⟨.int .i64,1,8,some (.int .i64 0),some (.int .i64),false⟩),
  (21,⟨.int .i32,1,4,some (.int .i32 0),some (.int .i32),false⟩),
  (75,⟨.int .u32,1,4,some (.int .u32 0),some (.int .u32),false⟩),
  (169,⟨.int .u64,1,8,some (.int .u64 0),some (.int .u64),false⟩),
  (4,⟨.bool,1,1,some (.bool false),some (.bool),false⟩),
  (22,⟨.slice 3,1,24,some (.nils),some (.lst (.int .i64)),false⟩),
  (23,⟨.slice 96,1,24,some (.nils),some (.lst (.lst (.vtx))),false⟩),
  (24,⟨.slice 99,1,24,some (.nils),some (.lst (.ppl)),false⟩),
  (28,⟨.slice 102,1,24,some (.nils),some (.lst (.lst (.vtx))),false⟩),
  (29,⟨.slice 104,1,24,some (.nils),some (.lst (.ppl)),false⟩),
  (50,⟨.slice 40,1,24,some (.nils),some (.lst (.evt)),false⟩),
  (54,⟨.slice 45,1,24,some (.nils),some (.lst (.evt)),false⟩),
  (81,⟨.slice 115,1,24,some (.nils),none,false⟩),
  (96,⟨.slice 38,1,24,some (.nils),some (.lst (.vtx)),false⟩),
  (102,⟨.slice 43,1,24,some (.nils),some (.lst (.vtx)),false⟩),
  (163,⟨.slice 164,1,24,some (.nils),none,false⟩),
  (80,⟨.slice 3,1,24,some (.nils),some (.lst (.int .i64)),false⟩),
  (26,⟨.struct [(22,0,1),(22,1,1),(3,2,1),(23,3,1),(24,4,1)],5,104,some (.agg [.nils,.nils,.int .i64 0,.nils,.nils]),some (.wrl),false⟩),
  (31,⟨.struct [(22,0,1),(22,1,1),(3,2,1),(28,3,1),(29,4,1)],5,104,some (.agg [.nils,.nils,.int .i64 0,.nils,.nils]),some (.wrl),false⟩),
  (38,⟨.struct [(3,0,1),(3,1,1),(22,2,1),(3,3,1)],4,48,some (.agg [.int .i64 0,.int .i64 0,.nils,.int .i64 0]),some (.vtx),false⟩),
  (40,⟨.struct [(3,0,1),(3,1,1),(3,2,1),(38,3,4)],7,72,some (.agg [.int .i64 0,.int .i64 0,.int .i64 0,.int .i64 0,.int .i64 0,.nils,.int .i64 0]),some (.evt),false⟩),
  (43,⟨.struct [(3,0,1),(3,1,1),(22,2,1),(3,3,1)],4,48,some (.agg [.int .i64 0,.int .i64 0,.nils,.int .i64 0]),some (.vtx),false⟩),
  (45,⟨.struct [(3,0,1),(3,1,1),(3,2,1),(43,3,4)],7,72,some (.agg [.int .i64 0,.int .i64 0,.int .i64 0,.int .i64 0,.int .i64 0,.nils,.int .i64 0]),some (.evt),false⟩),
  (74,⟨.struct [],0,0,some (.agg []),none,false⟩),
  (77,⟨.struct [(21,0,1),(75,1,1)],2,8,some (.agg [.int .i32 0,.int .u32 0]),none,false⟩),
  (79,⟨.struct [(74,0,0),(77,0,2)],2,8,some (.agg [.int .i32 0,.int .u32 0]),none,false⟩),
  (83,⟨.struct [(79,0,2),(80,2,1),(22,3,1),(3,4,1),(81,5,1),(29,6,1)],7,112,some (.agg [.int .i32 0,.int .u32 0,.nils,.nils,.int .i64 0,.nils,.nils]),none,false⟩),
  (99,⟨.struct [(38,0,4),(22,4,1)],5,72,some (.agg [.int .i64 0,.int .i64 0,.nils,.int .i64 0,.nils]),some (.ppl),false⟩),
  (104,⟨.struct [(43,0,4),(22,4,1)],5,72,some (.agg [.int .i64 0,.int .i64 0,.nils,.int .i64 0,.nils]),some (.ppl),false⟩),
  (168,⟨.struct [(80,0,1),(163,1,1),(166,2,217)],219,1784,some (.agg [.nils,.nils,.nilp,.nilp,.nilp,.nilp,.nilp,.nilp,.nilp,.nilp,.nilp,.nilp,.nilp,.nilp,.nilp,.nilp,.nilp,.nilp,.nilp,.nilp,.nilp,.nilp,.nilp,.nilp,.nilp,.nilp,.nilp,.nilp,.nilp,.nilp,.nilp,.nilp,.nilp,.nilp,.nilp,.nilp,.nilp,.nilp,.nilp,.nilp,.nilp,.nilp,.nilp,.nilp,.nilp,.nilp,.nilp,.nilp,.nilp,.nilp,.nilp,.nilp,.nilp,.nilp,.nilp,.nilp,.nilp,.nilp,.nilp,.nilp,.nilp,.nilp,.nilp,.nilp,.nilp,.nilp,.nilp,.nilp,.nilp,.nilp,.nilp,.nilp,.nilp,.nilp,.nilp,.nilp,.nilp,.nilp,.nilp,.nilp,.nilp,.nilp,.nilp,.nilp,.nilp,.nilp,.nilp,.nilp,.nilp,.nilp,.nilp,.nilp,.nilp,.nilp,.nilp,.nilp,.nilp,.nilp,.nilp,.nilp,.nilp,.nilp,.nilp,.nilp,.nilp,.nilp,.nilp,.nilp,.nilp,.nilp,.nilp,.nilp,.nilp,.nilp,.nilp,.nilp,.nilp,.nilp,.nilp,.nilp,.nilp,.nilp,.nilp,.nilp,.nilp,.nilp,.nilp,.nilp,.nilp,.nilp,.nilp,.nilp,.nilp,.nilp,.nilp,.nilp,.nilp,.nilp,.nilp,.nilp,.nilp,.nilp,.nilp,.nilp,.nilp,.nilp,.nilp,.nilp,.nilp,.nilp,.nilp,.nilp,.nilp,.nilp,.nilp,.nilp,.nilp,.nilp,.nilp,.nilp,.nilp,.nilp,.nilp,.nilp,.nilp,.nilp,.nilp,.nilp,.nilp,.nilp,.nilp,.nilp,.nilp,.nilp,.nilp,.nilp,.nilp,.nilp,.nilp,.nilp,.nilp,.nilp,.nilp,.nilp,.nilp,.nilp,.nilp,.nilp,.nilp,.nilp,.nilp,.nilp,.nilp,.nilp,.nilp,.nilp,.nilp,.nilp,.nilp,.nilp,.nilp,.nilp,.nilp,.nilp,.nilp,.nilp,.nilp,.nilp,.nilp,.nilp,.nilp,.nilp,.nilp,.nilp,.nilp,.nilp,.nilp,.nilp,.nilp]),none,false⟩),
  (176,⟨.struct [(43,0,4),(3,4,1),(163,5,1)],6,80,some (.agg [.int .i64 0,.int .i64 0,.nils,.int .i64 0,.int .i64 0,.nils]),none,false⟩),
  (69,⟨.ptr 83,1,8,some (.nilp),none,false⟩),
  (115,⟨.ptr 142,1,8,some (.nilp),none,false⟩),
  (139,⟨.ptr 43,1,8,some (.nilp),none,false⟩),
  (140,⟨.arr 7 139,7,56,some (.agg [.nilp,.nilp,.nilp,.nilp,.nilp,.nilp,.nilp]),none,false⟩),
  (146,⟨.ptr 104,1,8,some (.nilp),none,false⟩),
  (149,⟨.ptr 168,1,8,some (.nilp),none,false⟩),
  (164,⟨.ptr 176,1,8,some (.nilp),none,false⟩),
  (165,⟨.arr 7 164,7,56,some (.agg [.nilp,.nilp,.nilp,.nilp,.nilp,.nilp,.nilp]),none,false⟩),
  (166,⟨.arr 31 165,217,1736,some (.agg [.nilp,.nilp,.nilp,.nilp,.nilp,.nilp,.nilp,.nilp,.nilp,.nilp,.nilp,.nilp,.nilp,.nilp,.nilp,.nilp,.nilp,.nilp,.nilp,.nilp,.nilp,.nilp,.nilp,.nilp,.nilp,.nilp,.nilp,.nilp,.nilp,.nilp,.nilp,.nilp,.nilp,.nilp,.nilp,.nilp,.nilp,.nilp,.nilp,.nilp,.nilp,.nilp,.nilp,.nilp,.nilp,.nilp,.nilp,.nilp,.nilp,.nilp,.nilp,.nilp,.nilp,.nilp,.nilp,.nilp,.nilp,.nilp,.nilp,.nilp,.nilp,.nilp,.nilp,.nilp,.nilp,.nilp,.nilp,.nilp,.nilp,.nilp,.nilp,.nilp,.nilp,.nilp,.nilp,.nilp,.nilp,.nilp,.nilp,.nilp,.nilp,.nilp,.nilp,.nilp,.nilp,.nilp,.nilp,.nilp,.nilp,.nilp,.nilp,.nilp,.nilp,.nilp,.nilp,.nilp,.nilp,.nilp,.nilp,.nilp,.nilp,.nilp,.nilp,.nilp,.nilp,.nilp,.nilp,.nilp,.nilp,.nilp,.nilp,.nilp,.nilp,.nilp,.nilp,.nilp,.nilp,.nilp,.nilp,.nilp,.nilp,.nilp,.nilp,.nilp,.nilp,.nilp,.nilp,.nilp,.nilp,.nilp,.nilp,.nilp,.nilp,.nilp,.nilp,.nilp,.nilp,.nilp,.nilp,.nilp,.nilp,.nilp,.nilp,.nilp,.nilp,.nilp,.nilp,.nilp,.nilp,.nilp,.nilp,.nilp,.nilp,.nilp,.nilp,.nilp,.nilp,.nilp,.nilp,.nilp,.nilp,.nilp,.nilp,.nilp,.nilp,.nilp,.nilp,.nilp,.nilp,.nilp,.nilp,.nilp,.nilp,.nilp,.nilp,.nilp,.nilp,.nilp,.nilp,.nilp,.nilp,.nilp,.nilp,.nilp,.nilp,.nilp,.nilp,.nilp,.nilp,.nilp,.nilp,.nilp,.nilp,.nilp,.nilp,.nilp,.nilp,.nilp,.nilp,.nilp,.nilp,.nilp,.nilp,.nilp,.nilp,.nilp,.nilp,.nilp,.nilp,.nilp,.nilp,.nilp,.nilp,.nilp,.nilp,.nilp,.nilp]),none,false⟩),
  (142,⟨.arr 31 140,217,1736,some (.agg [.nilp,.nilp,.nilp,.nilp,.nilp,.nilp,.nilp,.nilp,.nilp,.nilp,.nilp,.nilp,.nilp,.nilp,.nilp,.nilp,.nilp,.nilp,.nilp,.nilp,.nilp,.nilp,.nilp,.nilp,.nilp,.nilp,.nilp,.nilp,.nilp,.nilp,.nilp,.nilp,.nilp,.nilp,.nilp,.nilp,.nilp,.nilp,.nilp,.nilp,.nilp,.nilp,.nilp,.nilp,.nilp,.nilp,.nilp,.nilp,.nilp,.nilp,.nilp,.nilp,.nilp,.nilp,.nilp,.nilp,.nilp,.nilp,.nilp,.nilp,.nilp,.nilp,.nilp,.nilp,.nilp,.nilp,.nilp,.nilp,.nilp,.nilp,.nilp,.nilp,.nilp,.nilp,.nilp,.nilp,.nilp,.nilp,.nilp,.nilp,.nilp,.nilp,.nilp,.nilp,.nilp,.nilp,.nilp,.nilp,.nilp,.nilp,.nilp,.nilp,.nilp,.nilp,.nilp,.nilp,.nilp,.nilp,.nilp,.nilp,.nilp,.nilp,.nilp,.nilp,.nilp,.nilp,.nilp,.nilp,.nilp,.nilp,.nilp,.nilp,.nilp,.nilp,.nilp,.nilp,.nilp,.nilp,.nilp,.nilp,.nilp,.nilp,.nilp,.nilp,.nilp,.nilp,.nilp,.nilp,.nilp,.nilp,.nilp,.nilp,.nilp,.nilp,.nilp,.nilp,.nilp,.nilp,.nilp,.nilp,.nilp,.nilp,.nilp,.nilp,.nilp,.nilp,.nilp,.nilp,.nilp,.nilp,.nilp,.nilp,.nilp,.nilp,.nilp,.nilp,.nilp,.nilp,.nilp,.nilp,.nilp,.nilp,.nilp,.nilp,.nilp,.nilp,.nilp,.nilp,.nilp,.nilp,.nilp,.nilp,.nilp,.nilp,.nilp,.nilp,.nilp,.nilp,.nilp,.nilp,.nilp,.nilp,.nilp,.nilp,.nilp,.nilp,.nilp,.nilp,.nilp,.nilp,.nilp,.nilp,.nilp,.nilp,.nilp,.nilp,.nilp,.nilp,.nilp,.nilp,.nilp,.nilp,.nilp,.nilp,.nilp,.nilp,.nilp,.nilp,.nilp,.nilp,.nilp,.nilp,.nilp,.nilp,.nilp,.nilp,.nilp]),none,false⟩)]
theorem ak:TT.ok Tryz.prog Θ:=TT.okB_ok (by kernel_rfl)
theorem mixed:Tryz.prog.follows .mixedOrders=true:=by kernel_rfl
structure Hid (Q:Prop):Prop where
 h:Q
theorem F9:(∀(p:Prop) [Decidable p],(decide p=true)=p)∧(∀(p:Prop) [Decidable p],(decide p=false)=¬p)∧(∀b:Bool,((!b)=true)=(b=false))∧(∀b:Bool,((!b)=false)=(b=true))∧(∀(α:Type) [BEq α] [LawfulBEq α] (a b:α),((a==b)=true)=(a=b))∧(∀(α:Type) [BEq α] [LawfulBEq α] (a b:α),((a !=b)=true)=¬a=b)∧(∀(α:Type) [BEq α] [LawfulBEq α] (a b:α),((a==b)=false)=¬a=b)∧(∀(α:Type) [BEq α] [LawfulBEq α] (a b:α),((a !=b)=false)=(a=b))∧∀(α:Type) (a b:α),(a≠b)=¬a=b:=by
 refine⟨fun p _=>by simp,fun p _=>by simp,fun b=>by simp,fun b=>by simp,fun α _ _ a b=>by simp,fun α _ _ a b=>by simp,fun α _ _ a b=>by simp,fun α _ _ a b=>by simp,fun α a b=>rfl⟩
theorem cr {P:Program}{h:VH}{n:Nat}{f:FuncId}{vs vs':List V}{K:V→VH→List Nat→Prop}{hin hout:VH}{r:V}{Q:Prop}(hc:ai P f vs' hin r hout)(k:Q)(s:ai P f vs' hin r hout→Hid Q→cw P h n f vs K:=by
  intro hc h
  refine cA ?_
  conv=>whnf
  with_reducible refine aB hc ?_
  conv=>whnf
  exact h.h):cw P h n f vs K:=s hc ⟨k⟩
theorem co {P:Program}{h:VH}{n:Nat}{f:FuncId}{vs vs':List V}{K:V→VH→List Nat→Prop}{hin hout:VH}{r:V}{Q:Prop}(hc:ai P f vs' hin r hout)(k:Q)(s:ai P f vs' hin r hout→Hid Q→cw P h n f vs K:=by
  intro hc h
  refine uj ?_
  conv=>whnf
  with_reducible refine aB hc ?_
  conv=>whnf
  exact h.h):cw P h n f vs K:=s hc ⟨k⟩
theorem sa {α:Type}{P:Prop}{C Q:α→Prop}(h:∀x,C x→Q x)(s:(∀x,C x→Q x)→P:=by
  intro h
  with_reducible first|refine Dc (by omega) fun x hx=>?_|refine Db (by omega) (by omega) fun x hx=>?_|refine C7 (by omega) fun x hx=>?_|refine zy (by first|omega|(simp only[List.length_cons,List.length_nil,List.length_set,List.length_append];omega)) fun x hx=>?_
  conv=>whnf
  exact h x hx):P:=s h
theorem sb {b:Bool}{A B C D Q R:Prop}(h:C→Q)(k:D→R)(s:(C→Q)→(D→R)→kR b A B:=by
  intro h k
  with_reducible refine Fz (fun hq=>?_) (fun hq=>?_)
  ·first|(have _:True→True:=h;((try simp only[F9] at hq)<;>omega))|((try simp only[F9] at hq);(conv=>whnf);exact h hq)
  ·first|(have _:True→True:=k;((try simp only[F9] at hq)<;>omega))|((try simp only[F9] at hq);(conv=>whnf);exact k hq)):kR b A B:=s h k
theorem st {P Q:Prop}(h:Q)(s:Hid Q→P:=by
  intro h
  (first|(with_reducible first|apply cQ|apply ca)|((first|with_reducible apply bO ak|refine go ?_|(with_reducible first|apply ck|apply b7|apply bM|apply bP|refine bN ak mixed (by kernel_rfl) ?_))<;>conv=>whnf))
  repeat(first|(with_reducible first|apply cQ|apply ca)|((first|with_reducible apply bO ak|refine go ?_|(with_reducible first|apply ck|apply b7|apply bM|apply bP|refine bN ak mixed (by kernel_rfl) ?_))<;>conv=>whnf))
  exact h.h):P:=s ⟨h⟩
theorem GT {P Q:Prop}(h:Q)(s:Hid Q→P:=by
  intro h
  (first|(with_reducible first|apply cQ)|((first|with_reducible apply bO ak|refine go ?_|(with_reducible first|apply ck|apply b7|apply bM|apply bP|refine bN ak mixed (by kernel_rfl) ?_))<;>conv=>whnf))
  repeat(first|(with_reducible first|apply cQ)|((first|with_reducible apply bO ak|refine go ?_|(with_reducible first|apply ck|apply b7|apply bM|apply bP|refine bN ak mixed (by kernel_rfl) ?_))<;>conv=>whnf))
  exact h.h):P:=s ⟨h⟩
theorem GR {P Q:Prop}(h:Q)(s:Hid Q→P:=by
  intro h
  (first|(with_reducible first|apply cQ)|((first|with_reducible apply bO ak|refine go ?_|(with_reducible first|apply b7|apply bM|apply bP|refine bN ak mixed (by kernel_rfl) ?_))<;>conv=>whnf))
  repeat(first|(with_reducible first|apply cQ)|((first|with_reducible apply bO ak|refine go ?_|(with_reducible first|apply b7|apply bM|apply bP|refine bN ak mixed (by kernel_rfl) ?_))<;>conv=>whnf))
  exact h.h):P:=s ⟨h⟩

end Go.Proofs.YthmfppknagbkeaaGreat.Am
