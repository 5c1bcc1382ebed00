/- The plain machine with types: regions. The plain machine with types: control. The plain machine with types: what is no more wanted is forgotten. The plain machine with types: what is no more wanted is forgotten, put together. The plain machine with types: loops, results, contracts. From a contract to a row: what a law's call leaves; how an argument reads. The plain machine with types: how the marks are met. The plain machine with types: a variable with a table of nil pointers. Committees and graphs: plain laws. Scripts: texts of bytes, plain. Runs: plain definitions of what is valid, and laws. -/
import Derived.WalkKit
import Derived.ProofKit
import Derived.OpenShut
import Derived.Carry
import Derived.ChangeSlices
import Derived.ChangeSame
import Derived.Test.YtpefhoohfkeflabGreatDoorEB4
set_option linter.unusedSimpArgs false
set_option linter.unusedVariables false
set_option maxHeartbeats 1000000
namespace Go.Proofs.YtpefhoohfkeflabGreatDoor.Am
open Go Go.RowKit
variable {P:Program} {N:Nat}
def vk (a b:List Nat):Bool:=a.all fun x=>!b.contains x
abbrev uf:=List (Nat×List Nat×List Nat)
def oc (dep:List Nat)(fws:uf)(f ws:List Nat):Bool:=
 fws.all fun x=>(vk x.2.2 f && vk x.2.2 ws && vk ws x.2.1)||dep.contains x.1
def D6 (fws:uf)(f ws:List Nat):Bool:=fws.all fun x=>vk x.2.2 f && vk x.2.2 ws && vk ws x.2.1
theorem D7 {dep:List Nat}{fws:uf}{f ws:List Nat}(h:D6 fws f ws=true):oc dep fws f ws=true:=by
 unfold D6 at h
 unfold oc
 rw[aM] at h⊢
 intro x hx
 rw[h x hx]
 rfl
theorem D8 {dep:List Nat}{fws:uf}:oc dep fws [] []=true:=by
 unfold oc
 rw[aM]
 intro x hx
 simp[vk]
def A6 (dep:Unit→List Nat)(fws:uf)(f ws:List Nat)(K:Prop):Prop:=
 match D6 fws f ws with
 |true=>K
 |false=>Mk (oc (dep ()) fws f ws) K
theorem xc {dep:Unit→List Nat}{fws:uf}{f ws:List Nat}{K:Prop}(h:A6 dep fws f ws K):oc (dep ()) fws f ws=true∧K:=by
 unfold A6 at h
 split at h
 ·rename_i e;exact⟨D7 e,h⟩
 ·exact h
def sv (N:Nat)(dst:Option Tmp):Bool:=match dst with|some d=>Nat.blt d N|none=>true
def yt (dst:Option Nat)(v:V)(t:VT):VT:=match dst with|some k=>(k,v)::t|none=>t
theorem rI (dst:Option Nat)(v:V)(t:VT):fP (yt dst v t)=iu dst v.toD (fP t):=by cases dst<;>rfl
def Ky (n:Nat):VH→Nat
 |[]=>0
 |(x,_)::u=>bif Nat.ble n x then Ky n u+1 else Ky n u
def Gb (dst:Option Nat)(v:V)(t:VT)(K:VT→Prop):Prop:=match dst with|some k=>K ((k,v)::t)|none=>K t
theorem yu {dst:Option Nat}{v:V}{t:VT}{K:VT→Prop}(h:Gb dst v t K):K (yt dst v t):=by cases dst<;>exact h
theorem DI {l:List Nat}{b x:Nat}:x∈Kq l b↔x∈l∨x=b:=by
 unfold Kq
 split
 ·rename_i h
  refine⟨.inl,fun h'=>h'.elim id fun e=>?_⟩
  subst e
  simpa using h
 ·simp
theorem ug:∀{bs l:List Nat} {x:Nat},x∈gr l bs↔x∈l∨x∈bs
 |[],l,x=>by simp[gr]
 |b::bs,l,x=>by
  simp only[gr,ug,DI,aK]
  exact or_assoc
def fv (y x:VB)(A B:Prop):Prop:=(y=x∧A)∨B
def tq (h:VH):VH→(VH→List Nat→Prop)→Prop
 |[],K=>K [] []
 |(k,x)::u,K=>match aV h k with
  |some y=>fv y x (tq h u fun r ds=>K r (k::ds)) (tq h u fun r ds=>K ((k,x)::r) ds)
  |none=>tq h u fun r ds=>K ((k,x)::r) ds
def Ar (h u:VH)(K:VH→List Nat→Prop):Prop:=match j8 (keysV u) with
 |true=>tq h u K
 |false=>K u []
structure SameOK (h u u':VH)(ds:List Nat):Prop where
 sub:∀k∈keysV u',k∈keysV u
 out:∀k∈ds,k∉keysV u'
 rest:∀k∈keysV u,k∉ds→k∈keysV u'
 new:∀g:VH,∀k,k∉ds→look (puts u' g) k=look (puts u g) k
 old:∀g:VH,∀k∈ds,look (puts u g) k=look h k
theorem uL (h u:VH):SameOK h u u []:=⟨fun _ h=>h,(by simp),fun _ h _=>h,fun _ _ _=>rfl,(by simp)⟩
theorem eE (k:Nat)(x:VB)(u:VH):keysV ((k,x)::u)=k::keysV u:=rfl
theorem xV {u:VH}{k:Nat}(h:k∉keysV u):∀x∈u,x.1≠k:=fun x hx e=>h (by rw[←fh];exact aB.2 ⟨x,hx,e⟩)
theorem tr {h:VH}:∀{u:VH} {K:VH→List Nat→Prop},(keysV u).Nodup→tq h u K→∃u' ds,SameOK h u u' ds∧(∀k∈ds,k∈keysV u)∧K u' ds
 |[],K,_,hk=>⟨[],[],uL h [],by simp,hk⟩
 |(k,x)::u,K,hn,hk=>by
  rw[eE,List.nodup_cons] at hn
  have keep:(tq h u fun r ds=>K ((k,x)::r) ds)→∃u' ds,SameOK h ((k,x)::u) u' ds∧(∀j∈ds,j∈keysV ((k,x)::u))∧K u' ds:=by
   intro hk
   obtain⟨u',ds,s,hd,hk⟩:=tr hn.2 hk
   refine⟨_,ds,⟨fun j hj=>?_,fun j hj hc=>?_,fun j hj hne=>?_,fun g j hj=>s.new _ j hj,fun g j hj=>s.old _ j hj⟩,fun j hj=>by rw[eE];exact bB _ (hd j hj),hk⟩
   ·rw[eE] at hj⊢
    rcases aK.1 hj with e|hj
    ·rw[e];exact bm ..
    ·exact bB _ (s.sub j hj)
   ·rw[eE] at hc
    rcases aK.1 hc with e|hc
    ·exact hn.1 (e▸hd j hj)
    ·exact s.out j hj hc
   ·rw[eE] at hj⊢
    rcases aK.1 hj with e|hj
    ·rw[e];exact bm ..
    ·exact bB _ (s.rest j hj hne)
  simp only[tq] at hk
  split at hk
  ·rename_i y hy
   rw[aS] at hy
   rcases hk with⟨e,hk⟩|hk
   ·subst e
    obtain⟨u',ds,s,hd,hk⟩:=tr hn.2 hk
    refine⟨u',k::ds,⟨fun j hj=>by rw[eE];exact bB _ (s.sub j hj),fun j hj hc=>?_,fun j hj hne=>?_,fun g j hj=>?_,fun g j hj=>?_⟩,fun j hj=>?_,hk⟩
    ·rcases aK.1 hj with e|hj
     ·exact hn.1 (e▸s.sub j hc)
     ·exact s.out j hj hc
    ·rw[eE] at hj
     rcases aK.1 hj with e|hj
     ·exact absurd (e▸bm ..) hne
     ·exact s.rest j hj fun h=>hne (bB _ h)
    ·have hjk:j≠k:=fun e=>hj (e▸bm ..)
     show _=look (puts u (put k y g)) j
     rw[s.new g j fun h=>hj (bB _ h)]
     exact pQ u j (by rw[af,if_neg hjk])
    ·show look (puts u (put k y g)) j=_
     rcases aK.1 hj with e|hj
     ·subst e
      rw[aN _ _ _ (xV hn.1),af,if_pos rfl,hy]
     ·exact s.old _ j hj
    ·rw[eE]
     rcases aK.1 hj with e|hj
     ·rw[e];exact bm ..
     ·exact bB _ (hd j hj)
   ·exact keep hk
  ·exact keep hk
theorem Do {h u:VH}{K:VH→List Nat→Prop}(hk:Ar h u K):∃u' ds,SameOK h u u' ds∧K u' ds:=by
 unfold Ar at hk
 split at hk
 ·rename_i e
  obtain⟨u',ds,s,_,hk⟩:=tr (i6 e) hk
  exact⟨u',ds,s,hk⟩
 ·exact⟨u,[],uL h u,hk⟩
theorem yc {u:HL}{p:Id→Bool}:∀{g:HL} {b:Id},p b=true→look (puts (u.filter fun x=>p x.1) g) b=look (puts u g) b:=by
 induction u with
 |nil=>intro g b _;rfl
 |cons x u ih=>
  intro g b hp
  by_cases hx:p x.1=true
  ·rw[List.filter_cons_of_pos (by exact hx)]
   exact ih hp
  ·rw[List.filter_cons_of_neg (by exact hx),ih hp]
   have hne:b≠x.1:=fun e=>hx (e▸hp)
   exact bT (u:=u) (by rw[af,if_neg hne])
theorem StepOK.same {o:Oper}{t:VT}{h u u':VH}{r:V}{gl ds:List Nat}(hs:StepOK P N o t h r u gl)(s:SameOK h u u' ds):StepOK P N o t h r u' (gl++ds):=by
 obtain⟨uu,hU,hS⟩:=hs
 have hin:∀b:Id,b.1∈ds→look (toH (puts u h)) b=look (toH h) b:=fun b hb=>by rw[ap,ap,s.old h b.1 hb]
 have hout:∀(g:HL) (b:Id),b.1∈ds→look (puts (uu.filter fun x=>!ds.contains x.1.1) g) b=look g b:=fun g b hb=>aN _ _ _ fun x hx e=>by
  have:=(eM.1 hx).2
  rw[e] at this
  simp[hb] at this
 have hnew:∀(g:HL) (b:Id),b.1∉ds→look (puts (uu.filter fun x=>!ds.contains x.1.1) g) b=look (puts uu g) b:=fun g b hb=>yc (p:=fun b=>!ds.contains b.1) (by simp[hb])
 refine⟨uu.filter fun x=>!ds.contains x.1.1,⟨fun b=>?_,fun x hx=>?_⟩,fun f hf t' h' ht ha w0 S A ρ a w hsim=>?_⟩
 ·by_cases hb:b.1∈ds
  ·rw[hout _ b hb,ap,ap,aN _ _ _ (xV (s.out _ hb))]
  ·rw[hnew _ b hb,hU.1 b,ap,ap,s.new h b.1 hb]
 ·obtain⟨h1,h2⟩:=eM.1 hx
  have h3:=hU.2 x h1
  rw[fh] at h3⊢
  exact s.rest _ h3 (by simpa using h2)
 ·have hw:=hS f (fun k hk=>hf k (eq _ hk)) t' h' ht ha w0 S A ρ a w hsim
  refine Reg.wp_exit_mono (K:=tN P w0 S A N ρ t' h' (puts uu h') a o.dst r.toD) ?_ hw
  rintro a' w' ⟨v,ρ',rfl,hex,q1,q2⟩
  have he:∀b:Id,look (puts (uu.filter fun x=>!ds.contains x.1.1) h') b=look (puts uu h') b:=by
   intro b
   by_cases hb:b.1∈ds
   ·have e1:look (toH h) b=look h' b:=ha b (hf _ (eL _ hb))
    rw[hout _ b hb,←e1,←hin b hb,←hU.1 b]
    exact bT e1
   ·exact hnew _ b hb
  have hL:Live (puts (uu.filter fun x=>!ds.contains x.1.1) h')=Live (puts uu h'):=funext fun b=>by simp only[Live,he]
  have hO:okOf A ρ' (puts (uu.filter fun x=>!ds.contains x.1.1) h') w'=okOf A ρ' (puts uu h') w':=funext fun k=>by simp only[okOf,he]
  refine⟨v,ρ',rfl,hex,q1.congr (fun _=>rfl) he,?_⟩
  rw[hL,hO]
  exact q2
def AL (P:Program)(Θ:TT)(dep:Nat→List Nat)(chk:Bool)(N:Nat)(o:Oper)(k:Nat)(fws:uf)(t:VT)(h:VH)(n:Nat)(K:uf→VSt→Prop):Prop:=
 Chk (sv N o.dst) (GM P Θ o.op t h n fun d u gl=>Gb o.dst d t fun t'=>match u with
  |[]=>(match chk with
   |false=>K fws ⟨t',h,n⟩
   |true=>gc (gr [] gl) fun f=>(match f with
    |[]=>K fws ⟨t',h,n⟩
    |f=>A6 (fun _=>dep k) fws f [] (K ((k,f,[])::fws) ⟨t',h,n⟩)))
  |u=>gJ (n+Ky n u) fun n'=>match chk with
   |false=>Chk (z6 n' u) (oU u h fun h'=>K fws ⟨t',h',n'⟩)
   |true=>Ar h u fun u ds=>Chk (z6 n' u) (oU u h fun h'=>gc (gr [] (gl++ds)) fun f=>gc (keysV u) fun ws=>A6 (fun _=>dep k) fws f ws (K ((k,f,ws)::fws) ⟨t',h',n'⟩)))
def uQ (N:Nat)(o:Oper)(t:VT)(h:VH)(n:Nat)(K:VSt→Prop):Prop:=Chk (sv N o.dst) (Gb o.dst (.tup []) t fun t'=>K ⟨t',h,n⟩)
def lA (P:Program)(Θ:TT)(ops:Array Oper)(dep:Nat→List Nat)(chk:Bool)(N:Nat):List Oper→Nat→uf→VSt→(VSt→Prop)→Prop
 |[],_,_,σ,K=>K σ
 |o::l,k,fws,⟨t,h,n⟩,K=>match o.guard with
  |none=>AL P Θ dep chk N o k fws t h n fun fws' σ'=>lA P Θ ops dep chk N l (k+1) fws' σ' K
  |some (g,want)=>(match(ops[g]?).bind (·.dst) with
   |some s=>bJ t s fun v=>(match v with
    | .tt=>(match want with
      |true=>AL P Θ dep chk N o k fws t h n fun fws' σ'=>lA P Θ ops dep chk N l (k+1) fws' σ' K
      |false=>uQ N o t h n fun σ'=>lA P Θ ops dep chk N l (k+1) fws σ' K)
    | .ff=>(match want with
      |false=>AL P Θ dep chk N o k fws t h n fun fws' σ'=>lA P Θ ops dep chk N l (k+1) fws' σ' K
      |true=>uQ N o t h n fun σ'=>lA P Θ ops dep chk N l (k+1) fws σ' K)
    | .bool b=>jx b
     (match want with
      |true=>AL P Θ dep chk N o k fws ((s,.tt)::t) h n fun fws' σ'=>lA P Θ ops dep chk N l (k+1) fws' σ' K
      |false=>uQ N o ((s,.tt)::t) h n fun σ'=>lA P Θ ops dep chk N l (k+1) fws σ' K)
     (match want with
      |false=>AL P Θ dep chk N o k fws ((s,.ff)::t) h n fun fws' σ'=>lA P Θ ops dep chk N l (k+1) fws' σ' K
      |true=>uQ N o ((s,.ff)::t) h n fun σ'=>lA P Θ ops dep chk N l (k+1) fws σ' K)
    | .tup []=>uQ N o t h n fun σ'=>lA P Θ ops dep chk N l (k+1) fws σ' K
    |_=>False)
   |none=>False)
theorem OpS.congr {o:Oper}{t t':List (Nat×D)}{h h':HL}{d:D}{u:HL}{f:List Nat}(ht:∀x,look t x=look t' x)(hh:∀b,look h b=look h' b)(hd:OpS P N o t h d u f):OpS P N o t' h' d u f:=
 fun t2 h2 e1 e2=>hd t2 h2 (fun x hx=>(sy fun k _=>ht k).trans (e1 x hx)) fun b hb=>(hh b).trans (e2 b hb)
theorem TRun.congr {ops:Array Oper}:∀{L:List (Oper×Rc)} {t t':List (Nat×D)} {h h':HL} {n:Nat},(∀x,look t x=look t' x)→(∀b,look h b=look h' b)→TRun P ops N t h n L→TRun P ops N t' h' n L
 |[],_,_,_,_,_,_,_,_=>trivial
 |(o,r)::L,t,t',h,h',n,he,hh,⟨h1,h2,h3⟩=>by
  refine⟨h1,?_,TRun.congr (fun x=>?_) (fun b=>bT (hh b)) h3⟩
  ·have hg:dt ops t o=dt ops t' o:=ow fun k _=>he k
   rcases h2 with⟨g1,g2⟩|⟨g1,g2⟩
   ·exact .inl ⟨hg▸g1,g2.congr he hh⟩
   ·exact .inr ⟨hg▸g1,g2⟩
  ·rw[fL,fL,he x]
def M6 (k:Nat)(pre:List (Oper×Rc))(fws:uf):Prop:=
 pre.length=k∧∀i o r,pre[i]?=some (o,r)→(r.u≠[]∨r.f≠[])→∃f ws,(i,f,ws)∈fws∧(∀x∈r.u,x.1.1∈ws)∧∀x∈r.f,x∈f
theorem qf:∀(k k':Nat) (l:List (Oper×Rc)) (t:List (Nat×D)),kh (fun _=>true) k l t=kh (fun _=>true) k' l t
 |_,_,[],_=>rfl
 |k,k',(o,r)::l,t=>qf (k+1) (k'+1) l _
theorem qd:∀(k k':Nat) (l:List (Oper×Rc)) (t:HL),js (fun _=>true) k l t=js (fun _=>true) k' l t
 |_,_,[],_=>rfl
 |k,k',(o,r)::l,t=>qd (k+1) (k'+1) l _
def lM (σ:VSt):Prop:=∀c:Id,σ.n≤c.1→look (toH σ.h) c=none
def Runs (P:Program)(N:Nat)(ops:Array Oper)(dep:Nat→List Nat)(chk:Bool)(l:List Oper)(k:Nat)(fws:uf)(σ σ':VSt):Prop:=
 ∀pre:List (Oper×Rc),(chk=true→M6 k pre fws)→∃L:List (Oper×Rc),L.map (·.1)=l∧TRun P ops N (fP σ.t) (toH σ.h) σ.n L∧
  (∀x,look (fP σ'.t) x=look (kh (fun _=>true) 0 L (fP σ.t)) x)∧(∀x,look (toH σ'.h) x=look (js (fun _=>true) 0 L (toH σ.h)) x)∧
  lM σ'∧
  (chk=true→∀i j oi ri oj rj,i<k+j→(pre++L)[i]?=some (oi,ri)→L[j]?=some (oj,rj)→(dep (k+j)).contains i=false→(∀x∈ri.u,x.1.1∉rj.f∧∀y∈rj.u,x.1.1≠y.1.1)∧(∀x∈rj.u,x.1.1∉ri.f))
variable {ops:Array Oper} {dep:Nat→List Nat} {chk:Bool}
theorem Runs.nil {k:Nat}{fws:uf}{σ:VSt}(hn:lM σ):Runs P N ops dep chk [] k fws σ σ:=fun pre _=>
 ⟨[],rfl,trivial,fun _=>rfl,fun _=>rfl,hn,fun _ i j oi ri oj rj _ _ hj=>by simp at hj⟩
theorem Runs.congr {l:List Oper}{k:Nat}{fws:uf}{σ τ σ':VSt}(h:Runs P N ops dep chk l k fws τ σ')(ht:∀x,look (fP τ.t) x=look (fP σ.t) x)(hh:τ.h=σ.h)(hn:τ.n=σ.n):Runs P N ops dep chk l k fws σ σ':=by
 intro pre hpre
 obtain⟨L,h1,h2,h3,h4,h5,h6⟩:=h pre hpre
 rw[hh] at h2 h4
 rw[hn] at h2
 exact⟨L,h1,h2.congr ht (fun _=>rfl),fun x=>by rw[h3];exact nf _ L 0 _ _ x (ht x),h4,h5,h6⟩
theorem vm {a b:List Nat}(h:vk a b=true):∀x∈a,x∉b:=by
 intro x hx
 unfold vk at h
 rw[aM] at h
 simpa using h x hx
theorem Runs.step {o:Oper}{l:List Oper}{k:Nat}{fws:uf}{σ σ':VSt}{d:V}{u:VH}{gl:List Nat}{n':Nat}(hg:dt ops (fP σ.t) o=some true)(hd:sv N o.dst=true)(ha:StepOK P N o σ.t σ.h d u gl)(hn:σ.n≤n')(hu:z6 n' u=true)
  (hc:chk=true→oc (dep k) fws gl (keysV u)=true) {fws':uf} (hf:chk=true→fws'=(k,gl,keysV u)::fws∨(fws'=fws∧gl=[]∧u=[])) (h:Runs P N ops dep chk l (k+1) fws' ⟨yt o.dst d σ.t,puts u σ.h,n'⟩ σ'):Runs P N ops dep chk (o::l) k fws σ σ':=by
 intro pre hpre
 obtain⟨uu,hU,hS⟩:=ha
 have hS:=hS gl fun k hk=>hk
 let r:Rc:=⟨d.toD,uu,gl,σ.n,n'⟩
 have huk:∀x∈uu,x.1.1∈keysV u:=fun x hx=>by rw[←fh];exact hU.2 x hx
 obtain⟨L,h1,h2,h3,h4,h5,h6⟩:=h (pre++[(o,r)]) (fun hchk=>by
  obtain⟨q1,q2⟩:=hpre hchk
  refine⟨by simp[q1],fun i o' r' hi hne=>?_⟩
  have hmono:∀x∈fws,x∈fws':=by
   intro x hx
   rcases hf hchk with e|⟨e,_⟩
   ·rw[e];exact bB _ hx
   ·rw[e];exact hx
  rcases cG i pre.length with hlt|hge
  ·rw[cX hlt] at hi
   obtain⟨f,ws,a1,a2⟩:=q2 i o' r' hi hne
   exact⟨f,ws,hmono _ a1,a2⟩
  ·rw[eW hge] at hi
   have:i-pre.length=0:=by
    have:=(aR.1 hi).1
    simpa using this
   rw[this] at hi
   simp only[iQ,aw,a7] at hi
   obtain⟨rfl,rfl⟩:=hi
   have hik:i=k:=by omega
   rcases hf hchk with e|⟨_,e1,e2⟩
   ·rw[hik,e]
    exact⟨gl,keysV u,bm ..,huk,fun x hx=>hx⟩
   ·exfalso
    rcases hne with hne|hne
    ·refine hne ?_
     show uu=[]
     cases huu:uu with
     |nil=>rfl
     |cons x l=>have:=huk x (by rw[huu];exact bm ..);rw[e2] at this;cases this
    ·exact hne e1)
 have hdst:∀x,o.dst=some x→x<N:=by
  intro x hx
  simpa[sv,hx,Nat.blt_eq] using hd
 rw[rI] at h2
 have h2':=h2.congr (fun _=>rfl) (fun b=>(hU.1 b).symm)
 refine⟨(o,r)::L,by simp[h1],⟨⟨rfl,hn,fun x hx=>vX hu _ (hU.2 x hx),hdst⟩,.inl ⟨hg,hS⟩,h2'⟩,fun x=>(h3 x).trans ?_,fun x=>(h4 x).trans ?_,h5,fun hchk i j oi ri oj rj hij hi hj hdp=>?_⟩
 ·show look (kh _ 0 L (fP (yt o.dst d σ.t))) x=look (kh _ 1 L (if(fun _=>true) 0=true then _ else _)) x
  simp only[if_true,rI]
  rw[qf 0 1]
 ·show look (js _ 0 L (toH (puts u σ.h))) x=look (js _ 1 L (if(fun _=>true) 0=true then _ else _)) x
  simp only[if_true]
  rw[qd 0 1]
  exact nd _ L 1 _ _ x (hU.1 x).symm
 ·cases j with
  |zero=>
   simp only[iQ,aw,a7] at hj
   obtain⟨rfl,rfl⟩:=hj
   obtain⟨q1,q2⟩:=hpre hchk
   rw[cX (by omega)] at hi
   by_cases hne:ri.u≠[]∨ri.f≠[]
   ·obtain⟨f0,ws0,hm,m1,m2⟩:=q2 i oi ri hi hne
    have hcf:=hc hchk
    unfold oc at hcf
    rw[aM] at hcf
    have:=hcf _ hm
    simp only[jv] at hdp
    simp only[hdp,kf,az] at this
    obtain⟨⟨c1,c2⟩,c3⟩:=this
    exact⟨fun x hx=>⟨vm c1 _ (m1 x hx),fun y hy he=>vm c2 _ (m1 x hx) (he▸huk y hy)⟩,fun x hx hxf=>vm c3 _ (huk x hx) (m2 _ hxf)⟩
   ·have e1:ri.u=[]:=by
     rcases ju (ri.u=[]) with h|h
     ·exact h
     ·exact absurd (.inl h) hne
    have e2:ri.f=[]:=by
     rcases ju (ri.f=[]) with h|h
     ·exact h
     ·exact absurd (.inr h) hne
    rw[e1,e2]
    exact⟨fun x hx=>(by cases hx),fun x hx h=>(by cases h)⟩
  |succ j=>
   refine h6 hchk i j oi ri oj rj (by omega) (by simpa using hi) (by simpa using hj) (by rw[show k+1+j=k+(j+1) by omega];exact hdp)
theorem Runs.skip {o:Oper}{l:List Oper}{k:Nat}{fws:uf}{σ σ':VSt}(hg:dt ops (fP σ.t) o=some false)(hd:sv N o.dst=true)(h:Runs P N ops dep chk l (k+1) fws ⟨yt o.dst (.tup []) σ.t,σ.h,σ.n⟩ σ'):Runs P N ops dep chk (o::l) k fws σ σ':=by
 intro pre hpre
 let r:Rc:=⟨.tup [],[],[],σ.n,σ.n⟩
 obtain⟨L,h1,h2,h3,h4,h5,h6⟩:=h (pre++[(o,r)]) (fun hchk=>by
  obtain⟨q1,q2⟩:=hpre hchk
  refine⟨by simp[q1],fun i o' r' hi hne=>?_⟩
  rcases cG i pre.length with hlt|hge
  ·rw[cX hlt] at hi
   exact q2 i o' r' hi hne
  ·rw[eW hge] at hi
   have:i-pre.length=0:=by
    have:=(aR.1 hi).1
    simpa using this
   rw[this] at hi
   simp only[iQ,aw,a7] at hi
   obtain⟨rfl,rfl⟩:=hi
   simp[r] at hne)
 have hdst:∀x,o.dst=some x→x<N:=by
  intro x hx
  simpa[sv,hx,Nat.blt_eq] using hd
 rw[rI] at h2
 refine⟨(o,r)::L,by simp[h1],⟨⟨rfl,ax _,by simp[r],hdst⟩,.inr ⟨hg,rfl,rfl,rfl⟩,h2⟩,fun x=>(h3 x).trans ?_,fun x=>(h4 x).trans ?_,h5,fun hchk i j oi ri oj rj hij hi hj hdp=>?_⟩
 ·show look (kh _ 0 L (fP (yt o.dst (.tup []) σ.t))) x=look (kh _ 1 L (if(fun _=>true) 0=true then _ else _)) x
  simp only[if_true,rI]
  rw[qf 0 1]
  rfl
 ·show look (js _ 0 L (toH σ.h)) x=look (js _ 1 L (if(fun _=>true) 0=true then _ else _)) x
  simp only[if_true]
  rw[qd 0 1]
  rfl
 ·cases j with
  |zero=>
   simp only[iQ,aw,a7] at hj
   obtain⟨rfl,rfl⟩:=hj
   refine⟨fun x hx=>⟨by simp[r],by simp[r]⟩,by simp[r]⟩
  |succ j=>
   refine h6 hchk i j oi ri oj rj (by omega) (by simpa using hi) (by simpa using hj) (by rw[show k+1+j=k+(j+1) by omega];exact hdp)
theorem wO {gl:List Nat}{o:Oper}{t:VT}{h:VH}{r:V}{u:VH}(hs:StepOK P N o t h r u gl):StepOK P N o t h r u (gr [] gl):=fM hs fun k hk=>ug.2 (.inr hk)
theorem JC {Θ:TT}(hΘ:Θ.ok P){o:Oper}{k:Nat}{fws:uf}{σ:VSt}(hfr:lM σ){K:uf→VSt→Prop}(h:AL P Θ dep chk N o k fws σ.t σ.h σ.n K):
  ∃(d:V) (u:VH) (gl:List Nat) (n':Nat) (fws':uf),sv N o.dst=true∧StepOK P N o σ.t σ.h d u gl∧σ.n≤n'∧z6 n' u=true∧(chk=true→oc (dep k) fws gl (keysV u)=true)∧
   (chk=true→fws'=(k,gl,keysV u)::fws∨(fws'=fws∧gl=[]∧u=[]))∧K fws' ⟨yt o.dst d σ.t,puts u σ.h,n'⟩:=by
 obtain⟨hd,h1⟩:=Chk.ok h
 obtain⟨d,u,gl,ha0,h2⟩:=GN (N:=N) hΘ hfr h1
 have ha:=wO ha0
 have h3:=yu h2
 split at h3
 ·split at h3
  ·exact⟨d,[],_,σ.n,fws,hd,ha,ax _,rfl,fun hc=>(by cases hc),fun hc=>(by cases hc),h3⟩
  ·have h4:=ct h3
   split at h4
   ·rename_i e
    exact⟨d,[],_,σ.n,fws,hd,ha,ax _,rfl,fun _=>by rw[e];exact D8,fun _=>.inr ⟨rfl,e,rfl⟩,h4⟩
   ·obtain⟨h5,h6⟩:=xc h4
    exact⟨d,[],_,σ.n,_,hd,ha,ax _,rfl,fun _=>h5,fun _=>.inl rfl,h6⟩
 ·have h4:=bU h3
  split at h4
  ·obtain⟨hl,h5⟩:=h4.ok
   have h6:=jq h5
   exact⟨d,_,_,_,fws,hd,ha,Nat.le_add_right _ _,hl,fun hc=>(by cases hc),fun hc=>(by cases hc),h6⟩
  ·obtain⟨u',ds,s,h5⟩:=Do h4
   obtain⟨hl,h5⟩:=h5.ok
   have h6:=jq h5
   have ha2:=wO (ha0.same s)
   obtain⟨h7,h8⟩:=xc (ct (ct h6))
   exact⟨d,_,_,_,_,hd,ha2,Nat.le_add_right _ _,hl,fun _=>h7,fun _=>.inl rfl,h8⟩
theorem zG {o:Oper}{t:VT}{h:VH}{n n':Nat}{d:V}{u:VH}{gl:List Nat}(hn:∀c:Id,n≤c.1→look (toH h) c=none)(hle:n≤n')(ha:StepOK P N o t h d u gl)(hu:z6 n' u=true){t':VT}:lM ⟨t',puts u h,n'⟩:=by
 obtain⟨uu,hU,_⟩:=ha
 exact up (n:=n') (fun c hc=>hn c (cu hle hc)) hU hu
theorem fK {o:Oper}{t:VT}{g s:Nat}{want b:Bool}{v:V}(h1:o.guard=some (g,want))(h2:(ops[g]?).bind (·.dst)=some s)(h3:look t s=some v)(hv:v.toD= .bool b):dt ops (fP t) o=some (b==want):=by
 unfold dt
 rw[h1]
 simp only[h2,dj,h3,aI,hv]
theorem mc {t:VT}{s:Nat}{v v':V}(h:look t s=some v)(he:v'.toD=v.toD)(x:Nat):look (fP ((s,v')::t)) x=look (fP t) x:=by
 rw[dj,dj]
 show Option.map _ (if x=s then _ else _)=_
 split
 ·rename_i e;subst e;rw[h];simp[he]
 ·rfl
theorem nl {Θ:TT}(hΘ:Θ.ok P):∀{l:List Oper} {k:Nat} {fws:uf} {σ:VSt} {K:VSt→Prop},lM σ→lA P Θ ops dep chk N l k fws σ K→∃σ',K σ'∧Runs P N ops dep chk l k fws σ σ'
 |[],k,fws,σ,K,hn,h=>⟨σ,h,Runs.nil hn⟩
 |o::l,k,fws,σ,K,hn,h=>by
  have run:∀σ:VSt,lM σ→dt ops (fP σ.t) o=some true→(AL P Θ dep chk N o k fws σ.t σ.h σ.n fun fws' σ'=>lA P Θ ops dep chk N l (k+1) fws' σ' K)→∃σ',K σ'∧Runs P N ops dep chk (o::l) k fws σ σ':=by
   intro σ hn hg h
   obtain⟨d,u,gl,n',fws',h1,h2,h3,h4,h5,h6,h7⟩:=JC hΘ hn h
   obtain⟨σ',h9,h10⟩:=nl hΘ (zG hn h3 h2 h4) h7
   exact⟨σ',h9,Runs.step hg h1 h2 h3 h4 h5 h6 h10⟩
  have skip:∀σ:VSt,lM σ→dt ops (fP σ.t) o=some false→(uQ N o σ.t σ.h σ.n fun σ'=>lA P Θ ops dep chk N l (k+1) fws σ' K)→∃σ',K σ'∧Runs P N ops dep chk (o::l) k fws σ σ':=by
   intro σ hn hg h
   obtain⟨hd,h7⟩:=Chk.ok h
   have h7:=yu h7
   obtain⟨σ',h8,h9⟩:=nl (σ:=⟨yt o.dst (.tup []) σ.t,σ.h,σ.n⟩) hΘ hn h7
   exact⟨σ',h8,Runs.skip hg hd h9⟩
  obtain⟨st,sh,sn⟩:=σ
  unfold lA at h
  split at h
  ·rename_i e
   exact run ⟨st,sh,sn⟩ hn (by unfold dt;rw[e]) h
  ·rename_i g want e
   split at h
   ·rename_i s es
    obtain⟨v,h1,h2⟩:=aG h
    split at h2
    ·cases want with
     |true=>exact run ⟨st,sh,sn⟩ hn (fK e es (b:=true) h1 rfl) h2
     |false=>exact skip ⟨st,sh,sn⟩ hn (fK e es (b:=true) h1 rfl) h2
    ·cases want with
     |true=>exact skip ⟨st,sh,sn⟩ hn (fK e es (b:=false) h1 rfl) h2
     |false=>exact run ⟨st,sh,sn⟩ hn (fK e es (b:=false) h1 rfl) h2
    ·rename_i b
     cases b with
     |true=>
      have h3:=h2.1 rfl
      have hsh:∀x,look (fP ((s,.tt)::st)) x=look (fP st) x:=mc h1 rfl
      cases want with
      |true=>
       obtain⟨σ',k1,k2⟩:=run ⟨(s,.tt)::st,sh,sn⟩ hn (fK e es (b:=true) (v:=.tt) (by simp[look]) rfl) h3
       exact⟨σ',k1,k2.congr hsh rfl rfl⟩
      |false=>
       obtain⟨σ',k1,k2⟩:=skip ⟨(s,.tt)::st,sh,sn⟩ hn (fK e es (b:=true) (v:=.tt) (by simp[look]) rfl) h3
       exact⟨σ',k1,k2.congr hsh rfl rfl⟩
     |false=>
      have h3:=h2.2 rfl
      have hsh:∀x,look (fP ((s,.ff)::st)) x=look (fP st) x:=mc h1 rfl
      cases want with
      |true=>
       obtain⟨σ',k1,k2⟩:=skip ⟨(s,.ff)::st,sh,sn⟩ hn (fK e es (b:=false) (v:=.ff) (by simp[look]) rfl) h3
       exact⟨σ',k1,k2.congr hsh rfl rfl⟩
      |false=>
       obtain⟨σ',k1,k2⟩:=run ⟨(s,.ff)::st,sh,sn⟩ hn (fK e es (b:=false) (v:=.ff) (by simp[look]) rfl) h3
       exact⟨σ',k1,k2.congr hsh rfl rfl⟩
    ·refine skip ⟨st,sh,sn⟩ hn ?_ h2
     unfold dt
     rw[e]
     simp only[es,dj,h1,aI,V.toD,ak]
    ·exact h2.elim
   ·exact h.elim
end Go.Proofs.YtpefhoohfkeflabGreatDoor.Am
namespace Go.Proofs.YtpefhoohfkeflabGreatDoor.Am
open Go Go.RowKit
variable {P:Program} {N:Nat} {K:Id→Prop}
def At (P:Program)(N:Nat)(K:Id→Prop)(c:Code)(Q:Exit→VSt→Prop)(σ:VSt):Prop:=∃e σ',Brings P N K c σ.toD e σ'.toD∧(ij P N K σ'.toD→Q e σ')
theorem jY {c:Code}{σ:St}(h:¬ij P N K σ)(e:Exit)(σ':St):Brings P N K c σ e σ':=fun w0 S A ρ0 a w hs=>absurd ⟨w0,S,A,ρ0,a,w,hs⟩ h
variable {Q:Exit→VSt→Prop} {σ:VSt}
theorem At.real {c:Code}(h:ij P N K σ.toD→At P N K c Q σ):At P N K c Q σ:=by
 rcases ju (ij P N K σ.toD) with hr|hr
 ·exact h hr
 ·exact⟨.normal,σ,jY hr _ _,fun h=>absurd h hr⟩
theorem At.mono {c:Code}{Q':Exit→VSt→Prop}(h:At P N K c Q σ)(hq:∀e σ,Q e σ→Q' e σ):At P N K c Q' σ:=by
 obtain⟨e,σ',h1,h2⟩:=h
 exact⟨e,σ',h1,fun hr=>hq _ _ (h2 hr)⟩
def N2 (next:VSt→Prop)(Q:Exit→VSt→Prop):Exit→VSt→Prop
 | .normal,σ=>next σ
 |e,σ=>Q e σ
def zg (id:Nat)(Q:Exit→VSt→Prop):Exit→VSt→Prop
 | .exit id',σ=>bif Nat.beq id' id then Q .normal σ else Q (.exit id') σ
 |e,σ=>Q e σ
theorem cK (h:Q .normal σ):At P N K .skip Q σ:=⟨.normal,σ,.skip,fun _=>h⟩
theorem dq (h:Q .ret σ):At P N K .ret Q σ:=⟨.ret,σ,.ret,fun _=>h⟩
theorem cH {id:Nat}(h:Q (.exit id) σ):At P N K (.exit id) Q σ:=⟨.exit id,σ,.exit,fun _=>h⟩
theorem dV {x y:Code}(h:At P N K x (N2 (At P N K y Q) Q) σ):At P N K (.seq x y) Q σ:=by
 obtain⟨e,σ1,h1,h2⟩:=h
 rcases ju (ij P N K σ1.toD) with hr|hr
 ·cases e with
  |normal=>
   obtain⟨e2,σ2,h3,h4⟩:=h2 hr
   exact⟨e2,σ2,.seqN h1 h3,h4⟩
  |_=>exact⟨_,σ1,.seqX (by simp) h1,fun hr=>h2 hr⟩
 ·cases e with
  |normal=>exact⟨.normal,σ1,.seqN h1 (jY hr _ _),fun h=>absurd h hr⟩
  |_=>exact⟨_,σ1,.seqX (by simp) h1,fun h=>absurd h hr⟩
theorem cU {id:Nat}{c:Code}(h:At P N K c (zg id Q) σ):At P N K (.block id c) Q σ:=by
 obtain⟨e,σ1,h1,h2⟩:=h
 cases e with
 |exit id'=>
  by_cases hid:id'=id
  ·subst hid
   exact⟨.normal,σ1,.blockE h1,fun hr=>by have:=h2 hr;simpa only[zg,Nat.beq_refl,cond_true] using this⟩
  ·refine⟨.exit id',σ1,.blockX (by simp[hid]) h1,fun hr=>?_⟩
   have hb:Nat.beq id' id=false:=by
    cases hb:Nat.beq id' id with
    |false=>rfl
    |true=>exact absurd (cq hb) hid
   have:=h2 hr
   simpa only[zg,hb,cond_false] using this
 |_=>exact⟨_,σ1,.blockX (by simp) h1,h2⟩
def JX (c:Operand)(σ:VSt)(A B:VSt→Prop):Prop:=
 match c,σ with
 | .tmp s,⟨t,h,n⟩=>bJ t s fun v=>(match v with
  | .tt=>A ⟨t,h,n⟩
  | .ff=>B ⟨t,h,n⟩
  | .bool b=>jx b (A ⟨(s,.tt)::t,h,n⟩) (B ⟨(s,.ff)::t,h,n⟩)
  |_=>False)
 | .const (.bool true),σ=>A σ
 | .const (.bool false),σ=>B σ
 |_,_=>False
theorem SimS.congr {w0:World}{S:SD}{A:Nat→Prop}{ρ0:Id→Pl}{a:Act}{w:World}{σ σ':St}(h:SimS P w0 S A N ρ0 K σ a w)(ht:∀x,look σ'.t x=look σ.t x)(hh:∀x,look σ'.h x=look σ.h x)(hn:σ'.n=σ.n):SimS P w0 S A N ρ0 K σ' a w:=by
 obtain⟨h1,h2,ρ,h3,h4⟩:=h
 refine⟨fun b hb=>by rw[hh];exact h1 b (by omega),fun b hb=>?_,ρ,h3,h4.congr ht hh⟩
 have:=h2 b hb
 unfold Live at this⊢
 rw[hh]
 exact this
theorem qN {s:Nat}{v v':V}(h:look σ.t s=some v)(he:v'.toD=v.toD):Weak P N K σ.toD (VSt.toD ⟨(s,v')::σ.t,σ.h,σ.n⟩):=
 fun _ _ _ _ _ _ hs=>hs.congr (fun x=>mc h he x) (fun _=>rfl) rfl
theorem df {c:Operand}{x y:Code}(h:JX c σ (At P N K x Q) (At P N K y Q)):At P N K (.cond c x y) Q σ:=by
 unfold JX at h
 split at h
 ·rename_i s st sh sn
  obtain⟨v,h1,h2⟩:=aG h
  split at h2
  ·obtain⟨e,σ1,h3,h4⟩:=h2
   exact⟨e,σ1,.condT (by simp only[aY,VSt.toD,dj,h1,aI,V.toD]) h3,h4⟩
  ·obtain⟨e,σ1,h3,h4⟩:=h2
   exact⟨e,σ1,.condF (by simp only[aY,VSt.toD,dj,h1,aI,V.toD]) h3,h4⟩
  ·rename_i b
   have hev:aY (VSt.toD ⟨st,sh,sn⟩).t (.tmp s)=some (.bool b):=by simp only[aY,VSt.toD,dj,h1,aI,V.toD]
   cases b with
   |true=>
    obtain⟨e,σ1,h3,h4⟩:=h2.1 rfl
    exact⟨e,σ1,.condT hev (.pre (qN (σ:=⟨st,sh,sn⟩) h1 rfl) h3),h4⟩
   |false=>
    obtain⟨e,σ1,h3,h4⟩:=h2.2 rfl
    exact⟨e,σ1,.condF hev (.pre (qN (σ:=⟨st,sh,sn⟩) h1 rfl) h3),h4⟩
  ·exact h2.elim
 ·obtain⟨e,σ1,h3,h4⟩:=h
  exact⟨e,σ1,.condT rfl h3,h4⟩
 ·obtain⟨e,σ1,h3,h4⟩:=h
  exact⟨e,σ1,.condF rfl h3,h4⟩
 ·exact h.elim
theorem wU {c:Code}(h:lM σ→At P N K c Q σ):At P N K c Q σ:=by
 rcases ju (lM σ) with hr|hr
 ·exact h hr
 ·refine At.real fun⟨w0,S,A,ρ0,a,w,hs⟩=>absurd hs.1 hr
theorem cJ {Θ:TT}(hΘ:Θ.ok P){id:Nat}{ops:Array Oper}(h:lA P Θ ops (fun _=>[]) false N ops.toList 0 [] σ (Q .normal)):At P N K (.region id ops false) Q σ:=by
 refine wU fun hn=>?_
 obtain⟨σ',h1,h2⟩:=nl hΘ hn h
 obtain⟨L,l1,l2,l3,l4,l5,_⟩:=h2 [] fun h=>by cases h
 exact⟨.normal,σ',.regionS l1 l2 l3 l4 fun _=>l5,fun _=>h1⟩
def M7 (o:Oper):Nat:=o.after.toList.foldl (fun m e=>bif Region.binds .any e then m|||(1<<<e.on) else m) 0
def Kr (ops:List Oper):Nat→Nat→Nat
 |0,m=>m
 |j+1,m=>match m.testBit j with
  |true=>Kr ops j (m|||(match ops[j]? with|some o=>M7 o|none=>0))
  |false=>Kr ops j m
def KE (ops:Array Oper)(k:Nat):List Nat:=
 match ops.toList[k]? with
 |some o=>(List.range k).filter fun i=>(Kr ops.toList k (M7 o)).testBit i
 |none=>[]
theorem cI {Θ:TT}(hΘ:Θ.ok P)(hm:P.follows .mixedOrders=true){id:Nat}{ops:Array Oper}(hok:Reg.okB ops (KE ops)=true)(h:lA P Θ ops (KE ops) true N ops.toList 0 [] σ (Q .normal)):At P N K (.region id ops true) Q σ:=by
 refine wU fun hn=>?_
 obtain⟨σ',h1,h2⟩:=nl hΘ hn h
 obtain⟨L,l1,l2,l3,l4,l5,l6⟩:=h2 [] fun _=>⟨rfl,fun i o r hi=>by simp at hi⟩
 refine⟨.normal,σ',(.regionD (KE ops) hm hok l1 l2 ?_ l3 l4 fun _=>l5),fun _=>h1⟩
 intro i j oi ri oj rj hij hi hj hdp
 exact l6 rfl i j oi ri oj rj (by omega) (by simpa using hi) hj (by simpa using hdp)
end Go.Proofs.YtpefhoohfkeflabGreatDoor.Am
namespace Go.Proofs.YtpefhoohfkeflabGreatDoor.Am
open Go Go.RowKit
variable {P:Program} {N:Nat} {K:Id→Prop} {os:List Nat} {n:Nat} {h:VH}
def OQ (h:VH)(b:Nat):Bool:=match aV h b with
 |some (.row ..)|some (.lit ..)|some (.var ..)|some (.vari ..)=>true
 |_=>false
def FC (h:VH):List Nat→List Nat
 |[]=>[]
 |b::l=>match Nat.ble 4 b && OQ h b with|true=>b::FC h l|false=>FC h l
def xG:VB→List Nat
 | .var _ cs=>fY cs
 | .vari _ pre _ _ _ post=>fY pre++fY post
 | .lit _ vs=>fY vs
 |_=>[]
def vJ (h:VH):Nat→Nat→List Nat→(List Nat→Prop)→Prop
 |0,_,l,K=>K l
 |k+1,i,l,K=>match l[i]? with
  |none=>K l
  |some b=>gc (gr l (FC h (match aV h b with|some x=>xG x|none=>[]))) fun l=>vJ h k (i+1) l K
theorem ur {h:VH}:∀{k i:Nat} {l:List Nat} {K:List Nat→Prop},vJ h k i l K→∃l,K l
 |0,_,l,_,hk=>⟨l,hk⟩
 |k+1,i,l,K,hk=>by
  simp only[vJ] at hk
  split at hk
  ·exact⟨_,hk⟩
  ·have hk:=ct hk
   exact ur hk
def vK (h:VH)(l:List Nat)(K:List Nat→Prop):Prop:=gc l fun l=>vJ h 60 0 l K
theorem sH {h:VH}{l:List Nat}{K:List Nat→Prop}(hk:vK h l K):∃l,K l:=ur (ct hk)
def J0:VT→List Nat
 |[]=>[]
 |(_,v)::l=>gt v++J0 l
mutual
def ch (os:List Nat)(v:V)(K:V→Prop):Prop:=
 match v with
 | .ref b=>pZ b os 4 fun r=>(match r with|some i=>K (.ref i)|none=>False)
 | .ptr b o=>pZ b os 4 fun r=>(match r with|some i=>K (.ptr i o)|none=>False)
 | .eptr b j o=>pZ b os 4 fun r=>(match r with|some i=>K (.eptr i j o)|none=>False)
 | .vref b o q=>pZ b os 4 fun r=>(match r with|some i=>K (.vref i o q)|none=>False)
 | .aptr b p j=>pZ b os 4 fun r=>(match r with|some i=>K (.aptr i p j)|none=>False)
 | .fref k i=>Chk (Nat.blt k 4) (K (.fref k i))
 | .fptr k i o=>Chk (Nat.blt k 4) (K (.fptr k i o))
 | .feptr k i j o=>Chk (Nat.blt k 4) (K (.feptr k i j o))
 | .faptr k i p j=>Chk (Nat.blt k 4) (K (.faptr k i p j))
 | .hro k o=>Chk (Nat.blt k 4) (K (.hro k o))
 | .hpo k o=>Chk (Nat.blt k 4) (K (.hpo k o))
 | .agg cs=>lP os cs fun cs=>K (.agg cs)
 | .tup cs=>lP os cs fun cs=>K (.tup cs)
 | .clo f cs=>lP os cs fun cs=>K (.clo f cs)
 | .ifc T v=>ch os v fun v=>K (.ifc T v)
 | .int k n=>K (.int k n)
 | .bool b=>K (.bool b)
 | .tt=>K (.bool true)
 | .ff=>K (.bool false)
 | .str s=>K (.str s)
 | .lst t xs=>K (.lst t xs)
 | .box t x=>K (.box t x)
 | .nilp=>K .nilp
 | .nils=>K .nils
 | .nilf=>K .nilf
 | .nili=>K .nili
 | .gv g=>K (.gv g)
 | .gp _=>False
 | .iptr t x o=>K (.iptr t x o)
 | .obo t o=>K (.obo t o)
 | .undef=>K .undef
 | .junk=>K .junk
def lP (os:List Nat)(l:List V)(K:List V→Prop):Prop:=
 match l with
 |[]=>K []
 |v::l=>ch os v fun v=>lP os l fun l=>K (v::l)
end
structure KeepOK (os:List Nat)(h h':VH):Prop where
 sgl:∀m b,os[m]?=some b→Live (toH h) (b,0)→Live (toH h') (4+m,0)
 fam:∀k,k<4→∀i,Live (toH h) (k,i)→Live (toH h') (k,i)
section
variable {h':VH}
theorem Mi (H:KeepOK os h h'){m b:Nat}(hb:os[m]?=some b):Rn (toH h) (gI (gN os n)) (toH h') (.ref (b,0)) (.ref (4+m,0)):=by
 have e:gI (gN os n) (4+m,0)=(b,0):=by simp only[gI,gY,eG hb]
 have:=Rn.ref (h:=toH h) (g:=gI (gN os n)) (h':=toH h') (4+m,0) fun hl=>H.sgl m b hb (by rw[e] at hl;exact hl)
 rwa [e] at this
theorem Gp (H:KeepOK os h h'){m b:Nat}(hb:os[m]?=some b)(o:Nat):Rn (toH h) (gI (gN os n)) (toH h') (.ptr (b,0) o) (.ptr (4+m,0) o):=by
 have e:gI (gN os n) (4+m,0)=(b,0):=by simp only[gI,gY,eG hb]
 have:=Rn.ptr (h:=toH h) (g:=gI (gN os n)) (h':=toH h') (4+m,0) o fun hl=>H.sgl m b hb (by rw[e] at hl;exact hl)
 rwa [e] at this
theorem Je (H:KeepOK os h h'){m b:Nat}(hb:os[m]?=some b)(j o:Nat):Rn (toH h) (gI (gN os n)) (toH h') (.eptr (b,0) j o) (.eptr (4+m,0) j o):=by
 have e:gI (gN os n) (4+m,0)=(b,0):=by simp only[gI,gY,eG hb]
 have:=Rn.eptr (h:=toH h) (g:=gI (gN os n)) (h':=toH h') (4+m,0) j o fun hl=>H.sgl m b hb (by rw[e] at hl;exact hl)
 rwa [e] at this
theorem Jg (H:KeepOK os h h'){m b:Nat}(hb:os[m]?=some b)(o q:Nat):Rn (toH h) (gI (gN os n)) (toH h') (.vref (b,0) o q) (.vref (4+m,0) o q):=by
 have e:gI (gN os n) (4+m,0)=(b,0):=by simp only[gI,gY,eG hb]
 have:=Rn.vref (h:=toH h) (g:=gI (gN os n)) (h':=toH h') (4+m,0) o q fun hl=>H.sgl m b hb (by rw[e] at hl;exact hl)
 rwa [e] at this
theorem vI {k:Nat}(hk:k<4)(i:Nat):gI (gN os n) (k,i)=(k,i):=by simp only[gI,pG os n hk]
theorem B9 (H:KeepOK os h h'){k:Nat}(hk:k<4)(i:Nat):Rn (toH h) (gI (gN os n)) (toH h') (.ref (k,i)) (.ref (k,i)):=by
 have e:gI (gN os n) (k,i)=(k,i):=vI hk i
 have:=Rn.ref (h:=toH h) (g:=gI (gN os n)) (h':=toH h') (k,i) fun hl=>H.fam k hk i (by rw[e] at hl;exact hl)
 rwa [e] at this
theorem wd (H:KeepOK os h h'){k:Nat}(hk:k<4)(i o:Nat):Rn (toH h) (gI (gN os n)) (toH h') (.ptr (k,i) o) (.ptr (k,i) o):=by
 have e:gI (gN os n) (k,i)=(k,i):=vI hk i
 have:=Rn.ptr (h:=toH h) (g:=gI (gN os n)) (h':=toH h') (k,i) o fun hl=>H.fam k hk i (by rw[e] at hl;exact hl)
 rwa [e] at this
theorem Gn (H:KeepOK os h h'){k:Nat}(hk:k<4)(i j o:Nat):Rn (toH h) (gI (gN os n)) (toH h') (.eptr (k,i) j o) (.eptr (k,i) j o):=by
 have e:gI (gN os n) (k,i)=(k,i):=vI hk i
 have:=Rn.eptr (h:=toH h) (g:=gI (gN os n)) (h':=toH h') (k,i) j o fun hl=>H.fam k hk i (by rw[e] at hl;exact hl)
 rwa [e] at this
theorem qI (H:KeepOK os h h'){k:Nat}(hk:k<4)(o:Option Nat):Rn (toH h) (gI (gN os n)) (toH h') (mZ k o) (mZ k o):=by
 cases o with
 |none=>exact .pure _ rfl
 |some i=>exact B9 H hk i
theorem Kf (H:KeepOK os h h'){k:Nat}(hk:k<4)(o:Option Nat):Rn (toH h) (gI (gN os n)) (toH h') (qC k o) (qC k o):=by
 cases o with
 |none=>exact .pure _ rfl
 |some i=>exact wd H hk i 0
theorem nJ {a b:Nat}(h:Nat.blt a b=true):a<b:=by simpa[Nat.blt_eq] using h
mutual
theorem lO:∀{v:V} {K:V→Prop},ch os v K→∃r:V,(∀h',KeepOK os h h'→Rn (toH h) (gI (gN os n)) (toH h') v.toD r.toD)∧r.one=v.one∧K r
 | .ref b,K,hk=>by
  simp only[ch] at hk
  obtain⟨r,r1,r2,hk⟩:=gg hk
  split at hk
  ·obtain⟨m,rfl,hm⟩:=r2 _ rfl
   exact⟨.ref (4+m),fun h' H=>Mi H hm,rfl,hk⟩
  ·exact hk.elim
 | .ptr b o,K,hk=>by
  simp only[ch] at hk
  obtain⟨r,r1,r2,hk⟩:=gg hk
  split at hk
  ·obtain⟨m,rfl,hm⟩:=r2 _ rfl
   exact⟨.ptr (4+m) o,fun h' H=>Gp H hm o,rfl,hk⟩
  ·exact hk.elim
 | .eptr b j o,K,hk=>by
  simp only[ch] at hk
  obtain⟨r,r1,r2,hk⟩:=gg hk
  split at hk
  ·obtain⟨m,rfl,hm⟩:=r2 _ rfl
   exact⟨.eptr (4+m) j o,fun h' H=>Je H hm j o,rfl,hk⟩
  ·exact hk.elim
 | .vref b o q,K,hk=>by
  simp only[ch] at hk
  obtain⟨r,r1,r2,hk⟩:=gg hk
  split at hk
  ·obtain⟨m,rfl,hm⟩:=r2 _ rfl
   exact⟨.vref (4+m) o q,fun h' H=>Jg H hm o q,rfl,hk⟩
  ·exact hk.elim
 | .aptr b p j,K,hk=>by
  simp only[ch] at hk
  obtain⟨r,r1,r2,hk⟩:=gg hk
  split at hk
  ·obtain⟨m,rfl,hm⟩:=r2 _ rfl
   exact⟨.aptr (4+m) p j,fun h' H=>Gp H hm (p+j),rfl,hk⟩
  ·exact hk.elim
 | .fref k i,K,hk=>by simp only[ch] at hk;obtain⟨c,hk⟩:=hk.ok;exact⟨.fref k i,fun h' H=>B9 H (nJ c) i,rfl,hk⟩
 | .fptr k i o,K,hk=>by simp only[ch] at hk;obtain⟨c,hk⟩:=hk.ok;exact⟨.fptr k i o,fun h' H=>wd H (nJ c) i o,rfl,hk⟩
 | .feptr k i j o,K,hk=>by simp only[ch] at hk;obtain⟨c,hk⟩:=hk.ok;exact⟨.feptr k i j o,fun h' H=>Gn H (nJ c) i j o,rfl,hk⟩
 | .faptr k i p j,K,hk=>by simp only[ch] at hk;obtain⟨c,hk⟩:=hk.ok;exact⟨.faptr k i p j,fun h' H=>wd H (nJ c) i (p+j),rfl,hk⟩
 | .hro k o,K,hk=>by simp only[ch] at hk;obtain⟨c,hk⟩:=hk.ok;exact⟨.hro k o,fun h' H=>qI H (nJ c) o,rfl,hk⟩
 | .hpo k o,K,hk=>by simp only[ch] at hk;obtain⟨c,hk⟩:=hk.ok;exact⟨.hpo k o,fun h' H=>Kf H (nJ c) o,rfl,hk⟩
 | .agg cs,K,hk=>by
  simp only[ch] at hk
  obtain⟨r,h1,h2,h3,hk⟩:=kj hk
  exact⟨.agg r,fun h' H=>by simp only[V.toD];exact .agg _ _ h1 (h2 h' H),rfl,hk⟩
 | .tup cs,K,hk=>by
  simp only[ch] at hk
  obtain⟨r,h1,h2,h3,hk⟩:=kj hk
  exact⟨.tup r,fun h' H=>by simp only[V.toD];exact .tup _ _ h1 (h2 h' H),rfl,hk⟩
 | .clo f cs,K,hk=>by
  simp only[ch] at hk
  obtain⟨r,h1,h2,h3,hk⟩:=kj hk
  exact⟨.clo f r,fun h' H=>by simp only[V.toD];exact .clo f _ _ h1 (h2 h' H),rfl,hk⟩
 | .ifc T v,K,hk=>by
  simp only[ch] at hk
  obtain⟨r,h1,h2,hk⟩:=lO hk
  exact⟨.ifc T r,fun h' H=>by simp only[V.toD];exact .ifc T _ _ (h1 h' H),rfl,hk⟩
 | .int k m,K,hk=>⟨.int k m,fun h' H=>.pure _ rfl,rfl,by simpa only[ch] using hk⟩
 | .bool b,K,hk=>⟨.bool b,fun h' H=>.pure _ rfl,rfl,by simpa only[ch] using hk⟩
 | .tt,K,hk=>⟨.bool true,fun h' H=>.pure _ rfl,rfl,by simpa only[ch] using hk⟩
 | .ff,K,hk=>⟨.bool false,fun h' H=>.pure _ rfl,rfl,by simpa only[ch] using hk⟩
 | .str s,K,hk=>⟨.str s,fun h' H=>.pure _ rfl,rfl,by simpa only[ch] using hk⟩
 | .lst t xs,K,hk=>⟨.lst t xs,fun h' H=>.pure _ rfl,rfl,by simpa only[ch] using hk⟩
 | .box t x,K,hk=>⟨.box t x,fun h' H=>.pure _ rfl,rfl,by simpa only[ch] using hk⟩
 | .nilp,K,hk=>⟨.nilp,fun h' H=>.pure _ rfl,rfl,by simpa only[ch] using hk⟩
 | .nils,K,hk=>⟨.nils,fun h' H=>.pure _ rfl,rfl,by simpa only[ch] using hk⟩
 | .nilf,K,hk=>⟨.nilf,fun h' H=>.pure _ rfl,rfl,by simpa only[ch] using hk⟩
 | .nili,K,hk=>⟨.nili,fun h' H=>.pure _ rfl,rfl,by simpa only[ch] using hk⟩
 | .gv g,K,hk=>⟨.gv g,fun h' H=>.gv g,rfl,by simpa only[ch] using hk⟩
 | .gp _,K,hk=>by simp only[ch] at hk
 | .iptr t x o,K,hk=>⟨.iptr t x o,fun h' H=>.iptr _ _,rfl,by simpa only[ch] using hk⟩
 | .obo t o,K,hk=>⟨.obo t o,fun h' H=>.pure _ (by cases o<;>rfl),rfl,by simpa only[ch] using hk⟩
 | .undef,K,hk=>⟨.undef,fun h' H=>.undef _,rfl,by simpa only[ch] using hk⟩
 | .junk,K,hk=>⟨.junk,fun h' H=>.junk,rfl,by simpa only[ch] using hk⟩
theorem kj:∀{l:List V} {K:List V→Prop},lP os l K→∃r:List V,(ak l).length=(ak r).length∧(∀h',KeepOK os h h'→∀i,i<(ak l).length→Rn (toH h) (gI (gN os n)) (toH h') ((ak l).getD i .undef) ((ak r).getD i .undef))∧(l.all V.one=r.all V.one)∧K r
 |[],K,hk=>⟨[],rfl,fun h' H i hi=>by simp[ak] at hi,rfl,by simpa only[lP] using hk⟩
 |v::l,K,hk=>by
  simp only[lP] at hk
  obtain⟨v',h1,h2,hk⟩:=lO hk
  obtain⟨r,h3,h4,h5,hk⟩:=kj hk
  refine⟨v'::r,by simp only[ak,bF,h3],fun h' H i hi=>?_,by simp only[List.all_cons,h2,h5],hk⟩
  cases i with
  |zero=>simpa[ak] using h1 h' H
  |succ i=>simpa[ak] using h4 h' H i (by simpa[ak] using hi)
end
def EP (os:List Nat)(h:VH)(l:List V)(K:List V→Prop):Prop:=nz h l fun l=>lP os l K
theorem EI (g:HL)(l:List D){i:Nat}(hi:i<l.length):(lh g l).getD i .undef=fwd g (l.getD i .undef):=by
 rw[fm,ar,bf,am hi,ar,am hi]
 rfl
theorem rm {l:List V}{K:List V→Prop}(hk:EP os h l K):∃r:List V,(ak l).length=(ak r).length∧(∀h',KeepOK os h h'→∀i,i<(ak l).length→Rn (toH h) (gI (gN os n)) (toH h') ((ak l).getD i .undef) ((ak r).getD i .undef))∧((ak l).all D.one=true→(ak r).all D.one=true)∧K r:=by
 obtain⟨l',h1,hk⟩:=jh hk
 obtain⟨r,h2,h3,h4,hk⟩:=kj (h:=h) (n:=n) hk
 have hlen:(ak l).length=(ak l').length:=by rw[←h1,fm,aA]
 refine⟨r,hlen.trans h2,fun h' H i hi=>.fwd _ _ ?_,fun ha=>?_,hk⟩
 ·rw[←EI _ _ hi,h1]
  exact h3 h' H i (by rw[←hlen];exact hi)
 ·refine nZ _ ?_
  rw[←h4]
  have e:(ak l').all D.one=l'.all V.one:=by
   rw[cY,List.all_map]
   refine congrArg (fun f=>List.all l' f) (funext fun v=>oN v)
  rw[←e,←h1,fm,List.all_map]
  rw[aM] at ha⊢
  intro d hd
  simp only[Function.comp,rk]
  exact ha d hd
theorem tl (H:KeepOK os h h'){t:Ty}(ht:∀k∈t.fams,k<4)(x:t.den):∀c∈(ai t x).cells,Rn (toH h) (gI (gN os n)) (toH h') c c:=by
 intro c hc
 by_cases hp:t.pure=true
 ·have:=(kl hp x).2
  rw[aM] at this
  exact .pure c (this c hc)
 ·have lf:∀d:D,d.pure0=true→Rn (toH h) (gI (gN os n)) (toH h') d d:=fun d hd=>.pure d hd
  cases t<;>simp only[Ty.pure,not_true_eq_false] at hp
  case hr k=>
   simp only[ai,(oB k x).2,aZ] at hc
   subst hc
   exact qI H (ht k (by simp[Ty.fams])) x
  case hp k=>
   simp only[ai,(oA k x).2,aZ] at hc
   subst hc
   exact Kf H (ht k (by simp[Ty.fams])) x
  case vtxo k=>
   simp only[ai,D.cells,aK,gx,or_false] at hc
   rcases hc with rfl|rfl|rfl|rfl
   ·exact lf _ rfl
   ·exact lf _ rfl
   ·exact qI H (ht k (by simp[Ty.fams])) _
   ·exact lf _ rfl
  case pplm k=>
   simp only[ai,D.cells,iO,gz,dS,aK,gx,or_false] at hc
   rcases hc with rfl|rfl|rfl|rfl|rfl
   ·exact lf _ rfl
   ·exact lf _ rfl
   ·exact lf _ rfl
   ·exact lf _ rfl
   ·exact qI H (ht k (by simp[Ty.fams])) _
  case pplo k k'=>
   simp only[ai,D.cells,aK,gx,or_false] at hc
   rcases hc with rfl|rfl|rfl|rfl|rfl
   ·exact lf _ rfl
   ·exact lf _ rfl
   ·exact qI H (ht k (by simp[Ty.fams])) _
   ·exact lf _ rfl
   ·exact qI H (ht k' (by simp[Ty.fams])) _
  case evto k=>
   simp only[ai,D.cells,aK,gx,or_false] at hc
   rcases hc with rfl|rfl|rfl|rfl|rfl|rfl|rfl
   ·exact lf _ rfl
   ·exact lf _ rfl
   ·exact lf _ rfl
   ·exact lf _ rfl
   ·exact lf _ rfl
   ·exact qI H (ht k (by simp[Ty.fams])) _
   ·exact lf _ rfl
  case nod k=>
   simp only[ai,D.cells,iO,gz,dS,aK,gx,or_false] at hc
   rcases hc with rfl|rfl|rfl|rfl|rfl|rfl
   ·exact lf _ rfl
   ·exact lf _ rfl
   ·exact lf _ rfl
   ·exact lf _ rfl
   ·exact lf _ rfl
   ·exact qI H (ht k (by simp[Ty.fams])) _
theorem Al (H:KeepOK os h h'){t:Ty}(ht:∀k∈t.fams,k<4)(x:t.den):Rn (toH h) (gI (gN os n)) (toH h') (ai t x) (ai t x):=by
 have hc:=tl (n:=n) H ht x
 by_cases hag:∃cs,ai t x= .agg cs
 ·obtain⟨cs,he⟩:=hag
  rw[he] at hc⊢
  exact .agg cs cs rfl fun i hi=>hc _ (bl hi)
 ·have he:(ai t x).cells=[ai t x]:=dh fun cs hcs=>hag ⟨cs,hcs⟩
  exact hc _ (by rw[he];exact aZ.2 rfl)
theorem Ao (H:KeepOK os h h'){t:Ty}(ht:∀k∈t.fams,k<4)(E:TypeId)(xs:List t.den):RnB (toH h) (gI (gN os n)) (toH h') (.row E (xs.map (ai t))) (.row E (xs.map (ai t))):=by
 refine .row E _ _ rfl fun i hi=>?_
 obtain⟨x,_,hx⟩:=aB.1 (bl hi)
 rw[←hx]
 exact⟨Al H ht x,fun s hs=>⟨hs,fun j hj=>tl H ht x _ (bl (by rw[hs.1];exact hj))⟩⟩
theorem Gq (H:KeepOK os h h')(T:TypeId){cs:List D}(hc:∀c∈cs,Rn (toH h) (gI (gN os n)) (toH h') c c):RnB (toH h) (gI (gN os n)) (toH h') (.var T cs) (.var T cs):=.var T _ _ rfl fun i hi=>hc _ (bl hi)
def OH (os:List Nat)(h:VH)(v:V)(K:V→Prop):Prop:=match v with
 | .agg cs=>EP os h cs fun cs=>K (.agg cs)
 |v=>Chk v.one (dW h v fun v=>ch os v K)
theorem KV {v:V}{K:V→Prop}(hk:OH os h v K):∃r:V,(∀h',KeepOK os h h'→Rn (toH h) (gI (gN os n)) (toH h') v.toD r.toD∧∀s,wfC s v.toD→wfC s r.toD∧∀j,j<s→Rn (toH h) (gI (gN os n)) (toH h') (v.toD.cells.getD j .undef) (r.toD.cells.getD j .undef))∧K r:=by
 unfold OH at hk
 split at hk
 ·rename_i cs
  obtain⟨r,h1,h2,h3,hk⟩:=rm (n:=n) hk
  refine⟨.agg r,fun h' H=>⟨by simp only[V.toD];exact .agg _ _ h1 (h2 h' H),fun s hs=>?_⟩,hk⟩
  have hs1:(ak cs).length=s:=by have:=hs.1;simpa only[V.toD,D.cells] using this
  refine⟨⟨?_,?_⟩,fun j hj=>?_⟩
  ·show (ak r).length=s
   omega
  ·exact h3 (by have:=hs.2;simpa only[V.toD,D.cells] using this)
  ·exact h2 h' H j (by omega)
 ·obtain⟨c,hk⟩:=hk.ok
  obtain⟨v',h1,hk⟩:=mX hk
  obtain⟨r,h2,h3,hk⟩:=lO (h:=h) (n:=n) hk
  have o1:v.toD.one=true:=by rw[oN];exact c
  have o2:r.toD.one=true:=by
   rw[oN,h3,←oN,←h1,rk];exact o1
  refine⟨r,fun h' H=>?_,hk⟩
  have hr:Rn (toH h) (gI (gN os n)) (toH h') v.toD r.toD:=.fwd _ _ (by rw[h1];exact h2 h' H)
  refine⟨hr,fun s hs=>?_⟩
  have hs1:=hs.1
  rw[cQ o1] at hs1⊢
  rw[cQ o2]
  simp only[mF] at hs1
  subst hs1
  refine⟨⟨by rw[cQ o2];rfl,by rw[cQ o2];simp[o2]⟩,fun j hj=>?_⟩
  obtain rfl:j=0:=by omega
  exact hr
def KW (os:List Nat)(h:VH):List V→(List V→Prop)→Prop
 |[],K=>K []
 |v::l,K=>OH os h v fun v=>KW os h l fun l=>K (v::l)
theorem Bt:∀{l:List V} {K:List V→Prop},KW os h l K→∃r:List V,(∀h' E,KeepOK os h h'→RnB (toH h) (gI (gN os n)) (toH h') (.row E (ak l)) (.row E (ak r)))∧K r
 |[],K,hk=>⟨[],fun h' E H=>.row E _ _ rfl fun i hi=>by simp[ak] at hi,hk⟩
 |v::l,K,hk=>by
  obtain⟨v',h1,hk⟩:=KV (n:=n) hk
  obtain⟨r,h2,hk⟩:=Bt hk
  refine⟨v'::r,fun h' E H=>?_,hk⟩
  cases h2 h' E H with
  |row _ _ _ hl hc=>
   refine .row E _ _ (by simp only[ak,bF,hl]) fun i hi=>?_
   cases i with
   |zero=>simpa[ak] using h1 h' H
   |succ i=>simpa[ak] using hc i (by simpa[ak] using hi)
def NH (l:List Nat):Bool:=l.all fun k=>Nat.blt k 4
theorem zZ {l:List Nat}(h:NH l=true):∀k∈l,k<4:=by
 unfold NH at h
 rw[aM] at h
 exact fun k hk=>nJ (h k hk)
def OG (os:List Nat)(h:VH)(x:VB)(K:VB→Prop):Prop:=
 match x with
 | .var T cs=>EP os h cs fun cs=>K (.var T cs)
 | .vari T pre m t xs post=>Chk (NH t.fams) (EP os h pre fun pre=>EP os h post fun post=>K (.vari T pre m t xs post))
 | .row E t xs=>Chk (NH t.fams) (K (.row E t xs))
 | .lit E vs=>KW os h vs fun vs=>K (.lit E vs)
 | .froz t xs=>K (.froz t xs)
 | .fvb t x=>K (.fvb t x)
 | .moved _ _=>K .gone
 | .gone=>K .gone
 |_=>False
theorem KU {x:VB}{K:VB→Prop}(hk:OG os h x K):∃y d d',x.blks=[d]∧y.blks=[d']∧(∀h',KeepOK os h h'→RnB (toH h) (gI (gN os n)) (toH h') d d')∧K y:=by
 unfold OG at hk
 split at hk
 ·rename_i T cs
  obtain⟨r,h1,h2,_,hk⟩:=rm (n:=n) hk
  exact⟨_,_,_,rfl,rfl,fun h' H=>.var T _ _ h1 (h2 h' H),hk⟩
 ·rename_i T pre m t xs post
  obtain⟨c,hk⟩:=hk.ok
  obtain⟨pre',h1,h2,_,hk⟩:=rm (n:=n) hk
  obtain⟨post',h3,h4,_,hk⟩:=rm (n:=n) hk
  refine⟨_,_,_,rfl,rfl,fun h' H=>.var T _ _ (by simp only[aP,h1,h3]) fun i hi=>?_,hk⟩
  by_cases c1:i<(ak pre).length
  ·rw[bH,bH,fI (A:=ak pre) c1,fI (A:=ak pre') (by rw[←h1];exact c1)]
   exact h2 h' H i c1
  ·rw[bH,bH,fJ (A:=ak pre) (by omega),fJ (A:=ak pre') (by rw[←h1];omega),←h1]
   simp only[aP] at hi
   by_cases c2:i-(ak pre).length<(xs.map (ai t)).length
   ·rw[fI c2,fI c2]
    obtain⟨e,he,hee⟩:=aB.1 (bl c2)
    rw[←hee]
    exact Al H (zZ c) e
   ·rw[fJ (by omega),fJ (by omega)]
    exact h4 h' H _ (by omega)
 ·obtain⟨c,hk⟩:=hk.ok
  exact⟨_,_,_,rfl,rfl,fun h' H=>Ao H (zZ c) _ _,hk⟩
 ·obtain⟨r,h1,hk⟩:=Bt (n:=n) hk
  exact⟨_,_,_,rfl,rfl,fun h' H=>h1 h' _ H,hk⟩
 ·exact⟨_,_,_,rfl,rfl,fun h' H=>.froz _,hk⟩
 ·exact⟨_,_,_,rfl,rfl,fun h' H=>.fvar _,hk⟩
 ·exact⟨_,_,_,rfl,rfl,fun h' H=>.gone _,hk⟩
 ·exact⟨_,_,_,rfl,rfl,fun h' H=>.gone _,hk⟩
 ·exact hk.elim
end
end Go.Proofs.YtpefhoohfkeflabGreatDoor.Am
namespace Go.Proofs.YtpefhoohfkeflabGreatDoor.Am
open Go Go.RowKit
variable {P:Program} {N:Nat} {K:Id→Prop} {os:List Nat} {n:Nat} {h:VH} {σ:VSt}
def OI (os:List Nat)(h:VH):List Nat→Nat→(VH→Prop)→Prop
 |[],_,K=>K []
 |b::l,i,K=>eP h b fun x=>OG os h x fun y=>gJ (i+1) fun j=>OI os h l j fun r=>K ((i,y)::r)
theorem EO:∀{l:List Nat} {i:Nat} {K:VH→Prop},OI os h l i K→∃hs,(∀k x,look hs k=some x→∃m,k=i+m∧m<l.length)∧
   (∀m b,l[m]?=some b→∃x y d d',look h b=some x∧look hs (i+m)=some y∧x.blks=[d]∧y.blks=[d']∧∀h',KeepOK os h h'→RnB (toH h) (gI (gN os n)) (toH h') d d')∧K hs
 |[],i,K,hk=>⟨[],(fun k x hx=>by cases hx),by simp,hk⟩
 |b::l,i,K,hk=>by
  obtain⟨x,hx,hk⟩:=bi hk
  obtain⟨y,d,d',e1,e2,e3,hk⟩:=KU (n:=n) hk
  have hk:=bU hk
  obtain⟨hs,h3,h4,hk⟩:=EO hk
  refine⟨(i,y)::hs,fun k z hz=>?_,fun m b' hm=>?_,hk⟩
  ·simp only[look] at hz
   split at hz
   ·exact⟨0,by omega,by simp⟩
   ·obtain⟨m,e1,e2⟩:=h3 k z hz
    exact⟨m+1,by omega,by simpa using e2⟩
  ·cases m with
   |zero=>
    simp only[iQ,aw] at hm
    subst hm
    exact⟨x,y,d,d',hx,by simp[look],e1,e2,e3⟩
   |succ m=>
    obtain⟨z,z',f1,f2,q1,q2,q3⟩:=h4 m b' (by simpa using hm)
    refine⟨z,z',f1,f2,q1,?_,q3⟩
    simp only[look]
    rw[if_neg (by omega),show i+(m+1)=i+1+m by omega]
    exact q2
def Nl (h:VH):List Nat→(VH→Prop)→Prop
 |[],K=>K []
 |k::l,K=>match aV h k with
  |some x=>Chk (!x.sgl && NH x.fams) (Nl h l fun r=>K ((k,x)::r))
  |none=>Nl h l K
theorem zI:∀{l:List Nat} {K:VH→Prop},Nl h l K→∃hf,(∀k x,look hf k=some x→k∈l∧look h k=some x∧x.sgl=false∧∀j∈x.fams,j<4)∧(∀k∈l,look hf k=look h k)∧K hf
 |[],K,hk=>⟨[],(fun k x hx=>by cases hx),by simp,hk⟩
 |k::l,K,hk=>by
  simp only[Nl,aS] at hk
  cases hx:look h k with
  |none=>
   rw[hx] at hk
   obtain⟨hf,h1,h2,hk⟩:=zI hk
   refine⟨hf,fun j y hy=>?_,fun j hj=>?_,hk⟩
   ·obtain⟨q1,q2⟩:=h1 j y hy
    exact⟨bB _ q1,q2⟩
   ·by_cases hjl:j∈l
    ·exact h2 j hjl
    ·obtain rfl:j=k:=(aK.1 hj).resolve_right hjl
     rw[hx]
     cases hf':look hf j with
     |none=>rfl
     |some y=>exact absurd (h1 j y hf').1 hjl
  |some x=>
   rw[hx] at hk
   obtain⟨c,hk⟩:=hk.ok
   simp only[az,fO] at c
   obtain⟨hf,h1,h2,hk⟩:=zI hk
   refine⟨(k,x)::hf,fun j y hy=>?_,fun j hj=>?_,hk⟩
   ·simp only[look] at hy
    split at hy
    ·rename_i e
     cases hy
     subst e
     exact⟨bm ..,hx,c.1,zZ c.2⟩
    ·obtain⟨q1,q2⟩:=h1 j y hy
     exact⟨bB _ q1,q2⟩
   ·simp only[look]
    by_cases e:j=k
    ·rw[if_pos e,e,hx]
    ·rw[if_neg e]
     exact h2 j ((aK.1 hj).resolve_left e)
theorem Jf {h':VH}(H:KeepOK os h h'){x:VB}(hs:x.sgl=false)(hf:∀j∈x.fams,j<4):∀d∈x.blks,RnB (toH h) (gI (gN os n)) (toH h') d d:=by
 intro d hd
 cases x<;>simp[VB.sgl] at hs
 ·rename_i T t xs
  obtain⟨e,_,rfl⟩:=aB.1 hd
  exact Gq H T (tl H hf e)
 ·rename_i T m t xss
  obtain⟨xs,_,rfl⟩:=aB.1 hd
  refine Gq H T fun c hc=>?_
  obtain⟨e,_,rfl⟩:=aB.1 hc
  exact Al H hf e
 ·rename_i E t xss
  obtain⟨xs,_,rfl⟩:=aB.1 hd
  exact Ao H hf E xs
 ·rename_i E t xss
  obtain⟨xs,_,rfl⟩:=aB.1 hd
  cases xs with
  |none=>exact .gone _
  |some xs=>exact Ao H hf E xs
def B5:Nat→Nat→List Nat→Bool
 |0,_,_=>true
 |m+1,i,b::l=>Nat.beq b i && B5 m (i+1) l
 |_+1,_,[]=>false
theorem yp:∀{m i:Nat} {l:List Nat},B5 m i l=true→∀j,j<m→l[j]?=some (i+j)
 |0,i,l,_,j,hj=>by omega
 |m+1,i,[],hp,j,hj=>by cases hp
 |m+1,i,b::l,hp,j,hj=>by
  simp only[B5,az] at hp
  cases j with
  |zero=>simp[cq hp.1]
  |succ j=>
   have:=yp hp.2 j (by omega)
   rw[show i+1+j=i+(j+1) by omega] at this
   simpa using this
def KB (m:Nat)(K:Id→Prop):Prop:=∀b,K b→b.1<4+m
def Fu (m:Nat)(os:List Nat)(h:VH)(n:Nat)(K:VH→Prop):Prop:=Chk (Df os n && B5 m 4 os) (Nl h [0,1,2,3] fun hf=>OI os h os 4 fun hs=>Hq hf hs K)
theorem xR {m:Nat}{Q:VH→Prop}(hk:Fu m os h n Q):∃h',KeepOK os h h'∧Ren (toH h) (gI (gN os n)) (toH h')∧(∀K,KB m K→∀b,K b→Live (toH h) b→gI (gN os n) b=b∧Live (toH h') b)∧(∀b:Id,4+os.length≤b.1→look (toH h') b=none)∧Q h':=by
 obtain⟨c,hk⟩:=hk.ok
 simp only[az] at c
 obtain⟨c1,c2⟩:=c
 obtain⟨hf,f1,f2,hk⟩:=zI hk
 obtain⟨hs,s1,s2,hk⟩:=EO (n:=n) hk
 have hk:=u3 hk
 have hlow:∀k x,look hf k=some x→k<4:=fun k x hx=>by
  have:=(f1 k x hx).1
  simp only[aK,gx,or_false] at this
  omega
 have hf_none:∀m,look hf (4+m)=none:=by
  intro m
  cases hl:look hf (4+m) with
  |none=>rfl
  |some y=>have:=hlow _ _ hl;omega
 have fam:∀k,k<4→look (hf++hs) k=look h k:=by
  intro k hk
  have hm:k∈[0,1,2,3]:=by
   simp only[aK,gx,or_false];omega
  rw[ip,f2 k hm]
  cases hl:look h k with
  |some x=>rfl
  |none=>
   cases hl2:look hs k with
   |none=>rfl
   |some y=>obtain⟨m,e,_⟩:=s1 k y hl2;omega
 have sgl:∀m,look (hf++hs) (4+m)=look hs (4+m):=fun m=>by rw[ip,hf_none]
 have H:KeepOK os h (hf++hs):=by
  refine⟨fun m b hb _=>?_,fun k hk i hl=>?_⟩
  ·obtain⟨x,y,d,d',q1,q2,q3,q4,q5⟩:=s2 m b hb
   exact Live.of_look (av (by rw[sgl];exact q2) (by rw[q4];rfl))
  ·unfold Live at hl⊢
   rw[ap] at hl⊢
   rw[fam k hk]
   exact hl
 have cases':∀b x',look (toH (hf++hs)) b=some x'→(b.1<4∧∃x,look h b.1=some x∧look hf b.1=some x∧x.blks[b.2]?=some x')∨∃m c d,b=(4+m,0)∧os[m]?=some c∧look (toH h) (c,0)=some d∧RnB (toH h) (gI (gN os n)) (toH (hf++hs)) d x':=by
  intro b x' hx
  rw[ap] at hx
  obtain⟨x,q1,q2⟩:=bw.1 hx
  by_cases hb:b.1<4
  ·rw[fam _ hb] at q1
   have hm:b.1∈[0,1,2,3]:=by
    simp only[aK,gx,or_false];omega
   exact .inl ⟨hb,x,q1,by rw[f2 _ hm];exact q1,q2⟩
  ·obtain⟨m,hm⟩:∃m,b.1=4+m:=⟨b.1-4,by omega⟩
   rw[hm,sgl] at q1
   obtain⟨m',e,hlt⟩:=s1 _ _ q1
   obtain rfl:m=m':=by omega
   obtain⟨z,y,d,d',r1,r2,r3,r4,r5⟩:=s2 m os[m] (am hlt)
   rw[r2] at q1
   obtain rfl:=aq q1
   rw[r4] at q2
   obtain⟨b1,b2⟩:=b
   simp only at hm q2
   cases b2 with
   |succ j=>simp at q2
   |zero=>
    simp only[iQ,aw] at q2
    subst q2 hm
    exact .inr ⟨m,os[m],d,rfl,am hlt,av r1 (by rw[r3];rfl),r5 _ H⟩
 refine⟨hf++hs,H,⟨fun b x' hx=>?_,fun b c x y _ _ _ _ he=>EL c1 he⟩,fun K hK b hb hl=>?_,fun b hb=>?_,hk⟩
 ·rcases cases' b x' hx with⟨g1,x,g2,g3,g4⟩|⟨m,c,d,rfl,g1,g2,g3⟩
  ·refine⟨x',?_,?_⟩
   ·simp only[gI,pG os n g1]
    exact av g2 g4
   ·obtain⟨_,_,q3,q4⟩:=f1 _ _ g3
    exact Jf H q3 q4 x' (br g4)
  ·refine⟨d,?_,g3⟩
   simp only[gI,gY,eG g1]
   exact g2
 ·have hb4:=hK b hb
  by_cases hlt:b.1<4
  ·obtain⟨b1,b2⟩:=b
   exact⟨vI hlt b2,H.fam b1 hlt b2 hl⟩
  ·obtain⟨j,hj⟩:∃j,b.1=4+j:=⟨b.1-4,by omega⟩
   have hos:=yp c2 j (by omega)
   obtain⟨x,y,d,d',q1,q2,q3,q4,q5⟩:=s2 j _ hos
   obtain⟨b1,b2⟩:=b
   simp only at hj
   subst hj
   unfold Live at hl
   rw[ap,q1] at hl
   simp only[bc,q3] at hl
   cases b2 with
   |succ i=>simp at hl
   |zero=>
    refine⟨by simp only[gI,gY,eG hos],H.sgl j _ hos ?_⟩
    exact Live.of_look (av q1 (by rw[q3];rfl))
 ·cases hx:look (toH (hf++hs)) b with
  |none=>rfl
  |some x'=>
   exfalso
   rcases cases' b x' hx with⟨g1,_⟩|⟨m,c,d,rfl,g1,_⟩
   ·omega
   ·have:=(aR.1 g1).1
    simp only at hb
    omega
def sP (h:VH)(t:VT):List Nat→(VT→Prop)→Prop
 |[],K=>K []
 |k::ts,K=>(match aV t k with
  |some v=>dW h v fun v=>sP h t ts fun r=>K ((k,v)::r)
  |none=>sP h t ts K)
theorem pK {t:VT}:∀{ts:List Nat} {K:VT→Prop},sP h t ts K→∃r,(∀k v',look r k=some v'→∃v,look t k=some v∧fwd (toH h) v.toD=v'.toD)∧K r
 |[],K,hk=>⟨[],(fun k v hv=>by cases hv),hk⟩
 |k::ts,K,hk=>by
  simp only[sP,aS] at hk
  cases hl:look t k with
  |none=>
   rw[hl] at hk
   exact pK hk
  |some v=>
   rw[hl] at hk
   obtain⟨v',h1,h2⟩:=mX hk
   obtain⟨r,h3,h4⟩:=pK h2
   refine⟨(k,v')::r,fun j w hw=>?_,h4⟩
   simp only[look] at hw
   split at hw
   ·rename_i e
    cases hw
    subst e
    exact⟨v,hl,h1⟩
   ·exact h3 j w hw
def DR (os:List Nat):VT→(VT→Prop)→Prop
 |[],K=>K []
 |(k,v)::l,K=>ch os v fun v=>DR os l fun l=>K ((k,v)::l)
theorem wZ:∀{l:VT} {K:VT→Prop},DR os l K→∃r,(∀k v',look r k=some v'→∃v,look l k=some v∧∀h',KeepOK os h h'→Rn (toH h) (gI (gN os n)) (toH h') v.toD v'.toD)∧K r
 |[],K,hk=>⟨[],(fun k v hv=>by cases hv),hk⟩
 |(k,v)::l,K,hk=>by
  obtain⟨v',h1,_,h2⟩:=lO (h:=h) (n:=n) hk
  obtain⟨r,h3,h4⟩:=wZ h2
  refine⟨(k,v')::r,fun j w hw=>?_,h4⟩
  simp only[look] at hw⊢
  split at hw
  ·rename_i e
   cases hw
   exact⟨v,by rw[if_pos e],h1⟩
  ·rename_i e
   rw[if_neg e]
   exact h3 j w hw
def O7 (m:Nat)(ts:List Nat)(σ:VSt)(Q:VSt→Prop):Prop:=
 match σ with
 |⟨t0,h0,n0⟩=>sP h0 t0 ts fun t=>vK h0 (gr (List.range' 4 m) (FC h0 (J0 t))) fun os=>Fu m os h0 n0 fun h'=>DR os t fun t'=>gJ (4+os.length) fun n=>Q ⟨t',h',n⟩
theorem KX {m:Nat}{ts:List Nat}{Q:VSt→Prop}(hK:KB m K)(h:O7 m ts σ Q):∃σ',Weak P N K σ.toD σ'.toD∧Q σ':=by
 obtain⟨t,t1,h1⟩:=pK h
 obtain⟨os,h2⟩:=sH h1
 obtain⟨h',q1,q2,q3,q4,h3⟩:=xR h2
 obtain⟨t',t2,h4⟩:=wZ (h:=σ.h) (n:=σ.n) h3
 have h5:=bU h4
 refine⟨_,Hf (σ':=VSt.toD ⟨t',h',_⟩) q2 (fun k d' hd=>?_) (fun b hb hl=>q3 K hK b hb hl) q4,h5⟩
 simp only[VSt.toD,dj] at hd
 obtain⟨v',hv,rfl⟩:=bj.1 hd
 obtain⟨v,hv1,hv2⟩:=t2 k v' hv
 obtain⟨v0,hv3,hv4⟩:=t1 k v hv1
 exact⟨v0.toD,by simp only[VSt.toD,dj,hv3,aI],.fwd _ _ (by have h9:=hv2 h' q1;rw[←hv4] at h9;exact h9)⟩
end Go.Proofs.YtpefhoohfkeflabGreatDoor.Am
namespace Go.Proofs.YtpefhoohfkeflabGreatDoor.Am
open Go Go.RowKit
variable {P:Program} {N:Nat} {K:Id→Prop} {Q:Exit→VSt→Prop} {σ:VSt} {h:VH}
def rowP (h:VH):List Nat→List Nat
 |[]=>[]
 |b::l=>match aV h b with
  |some (.row _ t _)=>(match t.pure with|true=>b::rowP h l|false=>rowP h l)
  |_=>rowP h l
theorem rowP_ok:∀{l:List Nat},∀b∈rowP h l,N9 h b
 |[],b,hb=>by cases hb
 |c::l,b,hb=>by
  simp only[rowP] at hb
  split at hb
  ·rename_i E t xs hc
   rw[aS] at hc
   split at hb
   ·rename_i hp
    rcases aK.1 hb with rfl|hb
    ·exact .inl ⟨E,t,xs,hp,hc⟩
    ·exact rowP_ok b hb
   ·exact rowP_ok b hb
  ·exact rowP_ok b hb
def OE (h:VH)(l:List Nat)(K:VH→Prop):Prop:=gc (rowP h l) fun ws=>Og h ws fun u=>oU u h K
theorem EK {l:List Nat}{K:VH→Prop}(hk:OE h l K):∃h1,(∃bs,∀b,look (puts (frz (toH h) bs) (toH h)) b=look (toH h1) b)∧K h1:=by
 have h1:=ct hk
 have h2:=(AN h1).1
 have h3:=jq h2
 exact⟨_,⟨_,(G1 fun b hb=>rowP_ok b hb).1.1⟩,h3⟩
theorem JK {t:VT}{n:Nat}{h1:VH}{bs:List Id}(he:∀b,look (puts (frz (toH h) bs) (toH h)) b=look (toH h1) b):Weak P N K (VSt.toD ⟨t,h,n⟩) (VSt.toD ⟨t,h1,n⟩):=
 Weak.trans (He bs) fun _ _ _ _ _ _ hs=>hs.congr (fun _=>rfl) (fun b=>(he b).symm) rfl
def O5 (t:VT)(h:VH):List Nat→List Nat
 |[]=>[]
 |k::l=>(match aV t k with
  |some (.ptr b _)=>(match aV h b with|some x=>xG x|none=>[])
  |some v=>gt v
  |none=>[])++O5 t h l
def MV (m:Nat)(fs ts:List Nat)(σ:VSt)(Q:VSt→Prop):Prop:=
 match σ with|⟨t0,h0,n0⟩=>OE h0 (O5 t0 h0 fs) fun h=>O7 m ts ⟨t0,h,n0⟩ Q
theorem Cz {m:Nat}(hK:KB m K){fs ts:List Nat}{K1:VSt→Prop}(h:MV m fs ts σ K1):∃σ',Weak P N K σ.toD σ'.toD∧K1 σ':=by
 obtain⟨t0,h0,n0⟩:=σ
 obtain⟨h1,⟨bs,he⟩,h2⟩:=EK h
 obtain⟨σ',w1,h4⟩:=KX (P:=P) (N:=N) hK h2
 exact⟨σ',Weak.trans (JK he) w1,h4⟩
theorem AX {c:Code}{σ':VSt}(hw:Weak P N K σ.toD σ'.toD)(h:At P N K c Q σ'):At P N K c Q σ:=by
 obtain⟨e,σ1,h1,h2⟩:=h
 exact⟨e,σ1,.pre hw h1,h2⟩
theorem u6 {c:Code}{t:VT}{n:Nat}(k:Nat)(x:VB)(hx:x.blks=[])(ha:At P N K c Q ⟨t,h++[(k,x)],n⟩):At P N K c Q ⟨t,h,n⟩:=by
 refine AX (σ':=⟨t,h++[(k,x)],n⟩) (fun _ _ _ _ _ _ hs=>hs.congr (fun _=>rfl) (fun b=>?_) rfl) ha
 show look (toH (h++[(k,x)])) b=look (toH h) b
 rw[ap,ap,ip]
 cases hl:look h b.1 with
 |some y=>rfl
 |none=>
  simp only[look]
  split
  ·simp[hx]
  ·rfl
def Na (back:VSt→Prop)(Q:Exit→VSt→Prop):Exit→VSt→Prop
 | .normal,σ=>back σ
 |e,σ=>Q e σ
theorem ah {α:Type}{c:Code}{m:Nat}(hK:KB m K)(fs ts:List Nat)(st:α→VSt)(p:α→Prop)(μ:α→Nat)(x0:α)(h0:p x0)(hg:MV m fs ts σ fun σ'=>σ'=st x0)
  (round:∀x,p x→At P N K c (Na (fun σ'=>MV m fs ts σ' fun σ2=>∃y,p y∧μ y<μ x∧σ2=st y) Q) (st x)):At P N K (.loop c) Q σ:=by
 have key:∀n x,μ x=n→p x→∃e σ',LoopB P N K c (st x).toD e σ'.toD∧(ij P N K σ'.toD→Q e σ'):=by
  intro n
  induction n using Nat.strongRecOn with
  |_ n ih=>
   intro x hn hp
   obtain⟨e,σ1,h1,h2⟩:=round x hp
   cases e with
   |normal=>
    rcases ju (ij P N K σ1.toD) with hr|hr
    ·obtain⟨σ2,w1,y,q1,q2,rfl⟩:=Cz (P:=P) (N:=N) hK (h2 hr)
     obtain⟨e,σ3,h3,h4⟩:=ih (μ y) (by omega) y rfl q1
     exact⟨e,σ3,.round h1 (.pre w1 h3),h4⟩
    ·exact⟨.ret,σ1,.round h1 (.out (by simp) (jY hr _ _)),fun h=>absurd h hr⟩
   |_=>exact⟨_,σ1,.out (by simp) h1,h2⟩
 obtain⟨σ0,w0,rfl⟩:=Cz (P:=P) (N:=N) hK hg
 obtain⟨e,σ1,h1,h2⟩:=key _ x0 rfl h0
 exact⟨e,σ1,.pre w0 (.loop h1),h2⟩
def Fp:V→Bool
 | .ptr .. | .eptr .. | .iptr .. | .box .. | .aptr .. | .fptr .. | .feptr .. | .faptr ..=>true
 |_=>false
theorem C2 {v:V}(h:Fp v=true):eU v.toD=true:=by cases v<;>first|rfl|cases h
def Dl (Θ:TT)(σ:VSt):List ResultVar→(List V→Prop)→Prop
 |[],K=>K []
 | .tmp k::rs,K=>(match aV σ.t k with
  |some v=>Dl Θ σ rs fun vs=>K (v::vs)
  |none=>Dl Θ σ rs fun vs=>K (.undef::vs))
 | .cell k T::rs,K=>bJ σ.t k fun v=>Chk (Fp v) (bJ Θ T fun ti=>ya ti σ.h v fun r=>Dl Θ σ rs fun vs=>K (r::vs))
theorem rL {Θ:TT}(hΘ:Θ.ok P):∀{rs:List ResultVar} {K:List V→Prop},Dl Θ σ rs K→∃vs,rs.mapM (tf P σ.toD)=some (ak vs)∧K vs
 |[],K,h=>⟨[],rfl,h⟩
 | .tmp k::rs,K,h=>by
  simp only[Dl,aS] at h
  split at h
  ·rename_i v e
   obtain⟨vs,h1,h2⟩:=rL hΘ h
   have hr:tf P σ.toD (.tmp k)=some v.toD:=by simp only[tf,VSt.toD,dj,e,aI,d7]
   exact⟨v::vs,by simp only[iC,hr,h1,ak];rfl,h2⟩
  ·rename_i e
   obtain⟨vs,h1,h2⟩:=rL hΘ h
   have hr:tf P σ.toD (.tmp k)=some V.undef.toD:=by simp only[tf,VSt.toD,dj,e,Option.map_none,Option.getD_none];rfl
   exact⟨.undef::vs,by simp only[iC,hr,h1,ak];rfl,h2⟩
 | .cell k T::rs,K,h=>by
  obtain⟨v,l1,h1⟩:=aG h
  obtain⟨c,h2⟩:=h1.ok
  obtain⟨ti,l2,h3⟩:=aG h2
  obtain⟨r,h4,h5⟩:=sY (hΘ _ _ l2) h3
  obtain⟨vs,h6,h7⟩:=rL hΘ h5
  refine⟨r::vs,?_,h7⟩
  have hr:tf P σ.toD (.cell k T)=some r.toD:=by
   simp only[tf,VSt.toD,dj,l1,aI,bc,C2 c,if_true,h4]
  simp only[iC,hr,h6,ak]
  rfl
def LZ:List V→V
 |[v]=>v
 |vs=>.tup vs
theorem IN (vs:List V):one (ak vs)=(LZ vs).toD:=by
 match vs with
 |[]=>rfl
 |[v]=>rfl
 |v::v'::vs=>rfl
theorem EJ {g g':HL}(he:∀b,look g b=look g' b)(d:D):fwd g d=fwd g' d:=pF fun b _=>he b
theorem Rn.congr {h1 h2 h':HL}{g:Id→Id}(he:∀b,look h1 b=look h2 b){d d':D}(hr:Rn h1 g h' d d'):Rn h2 g h' d d':=by
 have hl:∀b,Live h2 b→Live h1 b:=fun b hb=>by unfold Live at hb⊢;rw[he];exact hb
 induction hr with
 |ref b hb=>exact .ref b fun h=>hb (hl _ h)
 |ptr b o hb=>exact .ptr b o fun h=>hb (hl _ h)
 |eptr b i o hb=>exact .eptr b i o fun h=>hb (hl _ h)
 |vref b o n hb=>exact .vref b o n fun h=>hb (hl _ h)
 |lst b l hb=>exact .lst b l (by rw[←he];exact hb)
 |box b cs hb=>exact .box b cs (by rw[←he];exact hb)
 |fwd d d' hd ih=>exact .fwd d d' (by rw[←EJ he];exact ih)
 |pure d hd=>exact .pure d hd
 |nils=>exact .nils
 |iptr e o=>exact .iptr e o
 |gv k=>exact .gv k
 |agg cs cs' hl hc ih=>exact .agg cs cs' hl ih
 |tup cs cs' hl hc ih=>exact .tup cs cs' hl ih
 |clo f cs cs' hl hc ih=>exact .clo f cs cs' hl ih
 |ifc T d d' hd ih=>exact .ifc T d d' ih
 |undef d=>exact .undef d
 |junk=>exact .junk
theorem Ren.congr {h1 h2 h':HL}{g:Id→Id}(he:∀b,look h1 b=look h2 b)(hr:Ren h1 g h'):Ren h2 g h':=by
 refine⟨fun b x' hx=>?_,hr.inj⟩
 obtain⟨x,h3,h4⟩:=hr.blk b x' hx
 refine⟨x,by rw[←he];exact h3,?_⟩
 cases h4 with
 |var T cs cs' hl hc=>exact .var T cs cs' hl fun i hi=>(hc i hi).congr he
 |row E l l' hl hc=>exact .row E l l' hl fun i hi=>⟨(hc i hi).1.congr he,fun s hs=>⟨((hc i hi).2 s hs).1,fun j hj=>(((hc i hi).2 s hs).2 j hj).congr he⟩⟩
 |froz l=>exact .froz l
 |fvar cs=>exact .fvar cs
 |gone x=>exact .gone x
def zC (Θ:TT)(rs:List ResultVar)(m:Nat)(pr:Bool)(σ:VSt)(Q:V→VH→Prop):Prop:=
 match σ with
 |⟨t0,h0,n0⟩=>Dl Θ ⟨t0,h0,n0⟩ rs fun vs=>OE h0 (match pr with|true=>gt (LZ vs)|false=>[]) fun h=>dW h (LZ vs) fun v=>vK h (gr (List.range' 4 m) (FC h (gt v))) fun os=>Fu m os h n0 fun hout=>ch os v fun r=>Q r hout
theorem Bp {Θ:TT}(hΘ:Θ.ok P){rs:List ResultVar}{m:Nat}(hK:KB m K){pr:Bool}{Q:V→VH→Prop}(h:zC Θ rs m pr σ Q):∃r hout,po P rs K σ.toD r.toD (toH hout)∧Q r hout:=by
 obtain⟨t0,h0,n0⟩:=σ
 obtain⟨vs,r1,h1⟩:=rL hΘ h
 obtain⟨hh,⟨bs,he⟩,h2⟩:=EK h1
 obtain⟨v,f1,h3⟩:=mX h2
 obtain⟨os,h4⟩:=sH h3
 obtain⟨hout,q1,q2,q3,q4,h5⟩:=xR h4
 obtain⟨r,b1,_,h6⟩:=lO (h:=hh) (n:=n0) h5
 refine⟨r,hout,⟨_,bs,_,r1,?_,q2.congr fun b=>(he b).symm,fun b hb hl=>?_⟩,h6⟩
 ·refine Rn.congr (fun b=>(he b).symm) ?_
  rw[IN]
  refine .fwd _ _ ?_
  rw[f1]
  exact b1 hout q1
 ·refine q3 K hK b hb ?_
  have hl2:=mb (bs:=bs) hl
  unfold Live at hl2⊢
  rw[←he]
  exact hl2
theorem kr {l:List D}{i:Nat}(hi:i<l.length):∀b∈al (l.getD i .undef),b∈bC l:=by
 refine jK ?_
 rw[ar,am hi]
 exact be hi
theorem uj (d:D):∀c∈d.cells,∀b∈al c,b∈al d:=by
 intro c hc b hb
 cases d with
 |agg cs=>simp only[al];exact jK hc b hb
 |_=>simp only[D.cells,aZ] at hc;subst hc;exact hb
theorem Rn.sub {h h' h2:HL}{g:Id→Id}{d d':D}(hr:Rn h g h' d d'):(∀b∈al d',Live h' b→Live h2 b)→Rn h g h2 d d':=by
 induction hr with
 |ref b hb=>intro hs;exact .ref b fun h=>hs b (by simp[al]) (hb h)
 |ptr b o hb=>intro hs;exact .ptr b o fun h=>hs b (by simp[al]) (hb h)
 |eptr b i o hb=>intro hs;exact .eptr b i o fun h=>hs b (by simp[al]) (hb h)
 |vref b o n hb=>intro hs;exact .vref b o n fun h=>hs b (by simp[al]) (hb h)
 |lst b l hb=>intro _;exact .lst b l hb
 |box b cs hb=>intro _;exact .box b cs hb
 |fwd d d' hd ih=>intro hs;exact .fwd d d' (ih hs)
 |pure d hd=>intro _;exact .pure d hd
 |nils=>intro _;exact .nils
 |iptr e o=>intro _;exact .iptr e o
 |gv k=>intro _;exact .gv k
 |agg cs cs' hl hc ih=>intro hs;exact .agg cs cs' hl fun i hi=>ih i hi fun b hb=>hs b (by simp only[al];exact kr (by omega) b hb)
 |tup cs cs' hl hc ih=>intro hs;exact .tup cs cs' hl fun i hi=>ih i hi fun b hb=>hs b (by simp only[al];exact kr (by omega) b hb)
 |clo f cs cs' hl hc ih=>intro hs;exact .clo f cs cs' hl fun i hi=>ih i hi fun b hb=>hs b (by simp only[al];exact kr (by omega) b hb)
 |ifc T d d' hd ih=>intro hs;exact .ifc T d d' (ih fun b hb=>hs b (by simpa only[al] using hb))
 |undef d=>intro _;exact .undef d
 |junk=>intro _;exact .junk
def Hr:Blk→List Id
 | .var _ cs=>bC cs
 | .row _ l=>bC l
 |_=>[]
theorem RnB.sub {h h' h2:HL}{g:Id→Id}{x x':Blk}(hr:RnB h g h' x x')(hs:∀b∈Hr x',Live h' b→Live h2 b):RnB h g h2 x x':=by
 cases hr with
 |var T cs cs' hl hc=>exact .var T cs cs' hl fun i hi=>(hc i hi).sub fun b hb=>hs b (kr (by omega) b hb)
 |row E l l' hl hc=>
  refine .row E l l' hl fun i hi=>⟨(hc i hi).1.sub fun b hb=>hs b (kr (by omega) b hb),fun s hw=>⟨((hc i hi).2 s hw).1,fun j hj=>(((hc i hi).2 s hw).2 j hj).sub fun b hb=>hs b (kr (i:=i) (by omega) b ?_)⟩⟩
  have hw2:=((hc i hi).2 s hw).1
  have hj2:j<(l'.getD i .undef).cells.length:=by rw[hw2.1];exact hj
  refine uj _ ((l'.getD i .undef).cells.getD j .undef) ?_ b hb
  rw[ar (l:=(l'.getD i .undef).cells),am hj2]
  exact be _
 |froz l=>exact .froz l
 |fvar cs=>exact .fvar cs
 |gone x=>exact .gone x
theorem Bg (t:Ty)(x:t.den):∀b∈al (ai t x),b.1∈t.fams:=by
 have hh:∀(k:Nat) (o:Option Nat),∀b∈al (mZ k o),b.1=k:=fun k o b hb=>by
  cases o with
  |none=>cases hb
  |some i=>simp only[mZ,al,aZ] at hb;rw[hb]
 intro b hb
 cases t
 case hr k=>simp only[ai] at hb;simp[Ty.fams,hh _ _ b hb]
 case hp k=>
  cases x with
  |none=>cases hb
  |some i=>simp only[ai,qC,al,aZ] at hb;rw[hb];simp[Ty.fams]
 case vtxo k=>simp only[ai,al,bC,dS,gy] at hb;simp[Ty.fams,hh _ _ b hb]
 case pplm k=>simp only[ai,iO,ga,gz,al,bC,dS,gy] at hb;simp[Ty.fams,hh _ _ b hb]
 case pplo k k'=>
  simp only[ai,al,bC,dS,gy,bh] at hb
  rcases hb with hb|hb<;>simp[Ty.fams,hh _ _ b hb]
 case evto k=>simp only[ai,al,bC,dS,gy] at hb;simp[Ty.fams,hh _ _ b hb]
 case nod k=>simp only[ai,iO,ga,gz,al,bC,dS,gy] at hb;simp[Ty.fams,hh _ _ b hb]
 case ob t=>cases x<;>cases hb
 all_goals cases hb
theorem lV (t:Ty)(xs:List t.den):∀b∈bC (xs.map (ai t)),b.1∈t.fams:=by
 intro b hb
 rw[gD,d8] at hb
 obtain⟨d,hd,hb⟩:=hb
 obtain⟨x,_,rfl⟩:=aB.1 hd
 exact Bg t x b hb
theorem wP {l m:List D}{b:Id}:b∈bC (l++m)↔b∈bC l∨b∈bC m:=by simp[gD]
theorem MP (y:VB):∀d∈y.blks,∀b∈Hr d,b.1∈xG y++y.fams:=by
 intro d hd b hb
 rw[bh]
 cases y with
 |var T cs=>simp only[VB.blks,aZ] at hd;subst hd;exact .inl (ed cs b hb)
 |vari T pre m t xs post=>
  simp only[VB.blks,aZ] at hd
  subst hd
  simp only[Hr,wP] at hb
  rcases hb with(hb|hb)|hb
  ·exact .inl (eq _ (ed _ b hb))
  ·exact .inr (lV t xs b hb)
  ·exact .inl (eL _ (ed _ b hb))
 |row E t xs=>simp only[VB.blks,aZ] at hd;subst hd;exact .inr (lV t xs b hb)
 |lit E vs=>simp only[VB.blks,aZ] at hd;subst hd;exact .inl (ed vs b hb)
 |fvar T t xs=>
  obtain⟨x,_,rfl⟩:=aB.1 hd
  simp only[Hr,gD,d8] at hb
  obtain⟨c,hc,hb⟩:=hb
  exact .inr (Bg t x b (uj _ c hc b hb))
 |fvari T m t xss=>obtain⟨xs,_,rfl⟩:=aB.1 hd;exact .inr (lV t xs b hb)
 |frow E t xss=>obtain⟨xs,_,rfl⟩:=aB.1 hd;exact .inr (lV t xs b hb)
 |frowx E t xss=>
  obtain⟨xs,_,rfl⟩:=aB.1 hd
  cases xs with
  |none=>cases hb
  |some xs=>exact .inr (lV t xs b hb)
 |froz t xs=>simp only[VB.blks,aZ] at hd;subst hd;cases hb
 |fvb t x=>simp only[VB.blks,aZ] at hd;subst hd;cases hb
 |moved k i=>simp only[VB.blks,aZ] at hd;subst hd;cases hb
 |gone=>simp only[VB.blks,aZ] at hd;subst hd;cases hb
def EZ:VH→Bool
 |[]=>false
 |(k,_)::l=>Nat.blt k 4||EZ l
def J7 (S:List Nat)(j:Nat):Bool:=Nat.ble 4 j||S.contains j
def IC (S l:List Nat):Bool:=l.all (J7 S)
def B2 (h:VH)(S:List Nat):List Nat:=h.flatMap fun p=>match J7 S p.1 with|true=>(xG p.2++p.2.fams).filter fun k=>Nat.blt k 4|false=>[]
def FR (S fs0:List Nat)(r:V)(h:VH):Bool:=IC S fs0 && IC S (gt r) && h.all fun p=>!J7 S p.1||IC S (xG p.2++p.2.fams)
def xz (S:List Nat):VH→(VH→Prop)→Prop
 |[],K=>K []
 |(j,x)::l,K=>match J7 S j with
  |true=>xz S l fun r=>K ((j,x)::r)
  |false=>xz S l K
theorem sD {S:List Nat}:∀{l:VH} {K:VH→Prop},xz S l K→∃l',(∀j,look l' j=if J7 S j=true then look l j else none)∧K l'
 |[],K,h=>⟨[],fun j=>by simp[look],h⟩
 |(k,x)::l,K,h=>by
  simp only[xz] at h
  split at h
  ·rename_i e
   obtain⟨l',h1,h2⟩:=sD (l:=l) h
   refine⟨_,fun j=>?_,h2⟩
   simp only[look,h1]
   by_cases ej:j=k
   ·subst ej;simp[e]
   ·simp[ej]
  ·rename_i e
   obtain⟨l',h1,h2⟩:=sD (l:=l) h
   refine⟨_,fun j=>?_,h2⟩
   simp only[look,h1]
   by_cases ej:j=k
   ·subst ej;simp[e]
   ·simp[ej]
def qx (fs0:List Nat)(r:V)(h:VH)(K:VH→Prop):Prop:=
 match EZ h with
 |false=>K h
 |true=>gc (gr [] (fs0++(gt r).filter fun k=>Nat.blt k 4)) fun S=>gc (gr S (B2 h S)) fun S=>gc (gr S (B2 h S)) fun S=>gc (gr S (B2 h S)) fun S=>Chk (FR S fs0 r h) (xz S h K)
theorem xj {fs0:List Nat}{r:V}{rs:List ResultVar}{σ:VSt}{K:Id→Prop}(hK:∀b,K b→b.1<4→b.1∈fs0){h:VH}{Q:VH→Prop}(hr:po P rs K σ.toD r.toD (toH h))(hk:qx fs0 r h Q):∃h',po P rs K σ.toD r.toD (toH h')∧Q h':=by
 unfold qx at hk
 split at hk
 ·exact⟨h,hr,hk⟩
 ·have hk:=ct (ct (ct (ct hk)))
  obtain⟨c,hk⟩:=hk.ok
  generalize gr _ (B2 h _)=S at *
  simp only[FR,IC,az,aM,cN,fO] at c
  obtain⟨⟨c1,c2⟩,c3⟩:=c
  obtain⟨h',h1,h2⟩:=sD hk
  refine⟨h',?_,h2⟩
  have hl:∀b:Id,look (toH h') b=if J7 S b.1=true then look (toH h) b else none:=by
   intro b
   rw[ap,ap,h1]
   split<;>rfl
  have hlv:∀b:Id,J7 S b.1=true→Live (toH h) b→Live (toH h') b:=by
   intro b hb hv
   unfold Live at hv⊢
   rw[hl,if_pos hb]
   exact hv
  obtain⟨ds,bs,g,r1,r2,r3,r4⟩:=hr
  refine⟨ds,bs,g,r1,r2.sub fun b hb=>hlv b (c2 _ (kv r b hb)),⟨fun b x' hx=>?_,fun b b2 x y hx hy=>?_⟩,fun b hb hv=>?_⟩
  ·rw[hl] at hx
   split at hx
   ·rename_i e
    obtain⟨x,q1,q2⟩:=r3.blk b x' hx
    refine⟨x,q1,q2.sub fun b2 hb2=>hlv b2 ?_⟩
    rw[ap] at hx
    obtain⟨y,hy1,hy2⟩:=bw.1 hx
    rcases c3 _ (di hy1) with h0|h0
    ·simp only at h0;rw[e] at h0;cases h0
    ·exact h0 _ (MP y x' (br hy2) b2 hb2)
   ·cases hx
  ·rw[hl] at hx hy
   split at hx
   ·split at hy
    ·exact r3.inj b b2 x y hx hy
    ·cases hy
   ·cases hx
  ·obtain⟨q1,q2⟩:=r4 b hb hv
   refine⟨q1,hlv b ?_ q2⟩
   rcases cG b.1 4 with hlt|hge
   ·exact c1 _ (hK b hb hlt)
   ·have:Nat.ble 4 b.1=true:=by rw[Nat.ble_eq];exact hge
    simp[J7,this]
def lW (h:VH):List Nat:=(keysV h).filter fun k=>Nat.blt k 4
def HV (Q:VSt→Prop):Exit→VSt→Prop
 | .normal,σ=>Q σ
 | .ret,σ=>Q σ
 |_,_=>False
def ae:List V→Nat→VT
 |[],_=>[]
 |v::l,k=>(k,v)::ae l (k+1)
theorem sd:∀(l:List V) (k:Nat),((ak l).zipIdx k).map (fun x=>(x.2,x.1))=fP (ae l k)
 |[],k=>rfl
 |v::l,k=>by simp[ak,mz,ae,sd l (k+1),fP]
theorem uo {hin:VH}{n0:Nat}(hl:z6 n0 hin=true):∀b:Id,n0≤b.1→look (toH hin) b=none:=by
 intro b hb
 rw[ap]
 cases hx:look hin b.1 with
 |none=>rfl
 |some x=>
  have:=vX hl b.1 (aB.2 ⟨_,di hx,rfl⟩)
  omega
theorem lS {Θ : TT} (hΘ : Θ.ok P) {f : FuncId} {fn : Func} {c : Code} (hf : P.funcs[f]? = some fn) (hb : fn.body = some c) (hname : (fn.name == "runtime.NumGoroutine") = false) (pr : Bool) {vs : List V} {hin : VH} (m n0 : Nat) (hn0 : 4 + m = n0) (hlt : z6 n0 hin = true) (hnd : j8 (keysV hin) = true) (hl : Nat.ble vs.length fn.ntmps = true)
  {R:V→VH→Prop} {r0:V} {hout0:VH} (h0:R r0 hout0)
  (h:∀K,KB m K→(∀d∈ak vs,bnd 6 d)→(∀x∈hin,∀d∈x.2.blks,bndB 6 d)→At P fn.ntmps K c (HV fun σ=>zC Θ fn.results.toList m pr σ fun r hout=>qx (lW hin) r hout (R r)) ⟨ae vs 0,hin,n0⟩):∃r hout,R r hout∧ag P f vs hin r hout:=by
 have hlen:(ak vs).length≤fn.ntmps:=by rw[aL];exact Nat.le_of_ble_eq_true hl
 have e1:uh (ak vs)=fP (ae vs 0):=sd vs 0
 have hfr:=uo hlt
 have hK:KB m (Live (toH hin)):=by
  intro b hb
  rcases cG b.1 (4+m) with hlt|hge
  ·exact hlt
  ·unfold Live at hb
   rw[hfr b (by omega)] at hb
   cases hb
 have hbnd:(∀b x,look (toH hin) b=some x→bndB 6 x)→∀x∈hin,∀d∈x.2.blks,bndB 6 d:=by
  rintro hq ⟨k,x⟩ hx d hd
  obtain⟨i,hi⟩:=iR hd
  exact hq (k,i) d (av (iq (by rw[fh];exact i6 hnd) hx) hi)
 rcases ju ((∀d∈ak vs,bnd 6 d)∧∀b x,look (toH hin) b=some x→bndB 6 x) with hbb|hbb
 ·obtain⟨e,σ',h1,h2⟩:=h _ hK hbb.1 (hbnd hbb.2)
  rcases ju (ij P fn.ntmps (Live (toH hin)) σ'.toD) with hr|hr
  ·have h3:=h2 hr
   have hfin:(e= .normal∨e= .ret)∧zC Θ fn.results.toList m pr σ' fun r hout=>qx (lW hin) r hout (R r):=by
    cases e with
    |normal=>exact⟨.inl rfl,h3⟩
    |ret=>exact⟨.inr rfl,h3⟩
    |_=>exact h3.elim
   obtain⟨r,hout1,q1,q2⟩:=Bp hΘ hK hfin.2
   obtain⟨hout,q1,q2⟩:=xj (fun b hb hlt=>by
    unfold Live at hb
    rw[ap] at hb
    obtain⟨d,hd⟩:=mD.1 hb
    obtain⟨y,hy,-⟩:=bw.1 hd
    simp only[lW,eM]
    exact⟨by rw[←fh];exact aB.2 ⟨_,di hy,rfl⟩,by simpa[Nat.blt_eq] using hlt⟩) q1 q2
   refine⟨r,hout,q2,zq hf hb hname rfl rfl hlen hfr fun _ _=>⟨e,σ'.toD,?_,fun _=>⟨hfin.1,q1⟩⟩⟩
   rw[e1]
   exact h1
  ·refine⟨r0,hout0,h0,zq hf hb hname rfl rfl hlen hfr fun _ _=>⟨e,σ'.toD,?_,fun h=>absurd h hr⟩⟩
   rw[e1]
   exact h1
 ·exact⟨r0,hout0,h0,zq hf hb hname rfl rfl hlen hfr fun b1 b2=>absurd ⟨b1,b2⟩ hbb⟩
theorem ab {Θ : TT} (hΘ : Θ.ok P) {f : FuncId} {fn : Func} {c : Code} (hf : P.funcs[f]? = some fn) (hb : fn.body = some c) (hname : (fn.name == "runtime.NumGoroutine") = false) (pr : Bool) {vs : List V} {hin : VH} (m n0 : Nat) (hn0 : 4 + m = n0) (hlt : z6 n0 hin = true) (hnd : j8 (keysV hin) = true) (hl : Nat.ble vs.length fn.ntmps = true) {r : V} {hout : VH}
  (h:∀K,KB m K→(∀d∈ak vs,bnd 6 d)→(∀x∈hin,∀d∈x.2.blks,bndB 6 d)→At P fn.ntmps K c (HV fun σ=>zC Θ fn.results.toList m pr σ fun r' hout'=>qx (lW hin) r' hout' fun hout'=>r'=r∧hout'=hout) ⟨ae vs 0,hin,n0⟩):ag P f vs hin r hout:=by
 obtain⟨r',hout',⟨rfl,rfl⟩,h2⟩:=lS hΘ hf hb hname pr m n0 hn0 hlt hnd hl (R:=fun r' hout'=>r'=r∧hout'=hout) ⟨rfl,rfl⟩ h
 exact h2
end Go.Proofs.YtpefhoohfkeflabGreatDoor.Am
namespace Go.Proofs.YtpefhoohfkeflabGreatDoor.Am
open Go Go.RowKit Go.ChangeShapes Go.WideShapes Go.ChangeAt
section
variable {H:Type} {enc:TypeId×Value→H} {P:Program}
theorem nQ {f:Func}{s:ChangeSpec}{apart fresh handsOn again:Bool}{W W':World}{args:Array Value}{v:Value}{ds gs:List (DataW H)}{before pa pv:List MemPlace}
  (hW:DataW.Whole enc P f.params.toList s.vars apart W args.toList ds gs before)
  (hres:∀(b:Nat) (sp:Nat→Bool) (hd:Bool),DataW.TrodAll enc P W' b sp hd f.resultTypes.toList (v.resultList f.resultTypes.size) (s.fn H (ds++gs)).results [])
  (hargs:∀sp:Nat→Bool,(∀p∈before,sp p.block=true)→DataW.TrodAll enc P W' 0 sp true f.params.toList args.toList (s.fn H (ds++gs)).args pa)
  (hvars:∀sp:Nat→Bool,(∀p∈before,sp p.block=true)→DataW.TrodVars enc P W' sp s.vars (s.fn H (ds++gs)).vars pv)
  (hps:before=pa++pv) (hb:Below W.heap.size W W')
  (hok:∀(j:Nat) (t:TypeId) (r:Value),f.resultTypes[j]?=some t→(v.resultList f.resultTypes.size)[j]?=some r→Value.okWide P W' .any 0 t r):
  s.post enc P f apart fresh handsOn again W args v W':=by
 have hlt:∀p∈before,p.block<W.heap.size:=fun p hp=>hW.lt p hp
 have hold:∀p∈before,(fun b=>decide (b<W.heap.size)) p.block=true:=fun p hp=>by simpa using hlt p hp
 refine⟨ds,gs,before,[],pa,pv,hW,hres _ _ _,hargs _ hold,hvars _ hold,World.keptBut_mono (fun p hp=>⟨hp,?_⟩) (hb.frame (· ∈before)),fun _=>?_⟩
 ·rw[hps,bh] at hp
  exact Or.inr hp
 ·obtain⟨_,_,_,_,_,hz,hn⟩:=hW
  refine⟨hok,_,_,([]++pa)++pv,⟨[]++pa,pv,trodAll_append (hargs _ (fun _ _=>rfl)) (hres _ _ _),hvars _ (fun _ _=>rfl),rfl,?_,?_⟩,?_⟩
  ·intro b off hp
   have hin:MemPlace.cell b off∈before:=by rw[hps];simpa using hp
   rw[hb.frozen (hlt _ hin)]
   exact hz b off hin
  ·intro ha
   have:=hn ha
   rw[hps] at this
   simpa using this
  ·intro p hp _
   rw[hps]
   simpa using hp
end
theorem pM {P:Program}{f:FuncId}{vs:List V}(h:ag P f vs [] (.bool true) []){w:World}{args:Array Value}(hl:(ak vs).length=args.size)
  (hr:∀i,i<(ak vs).length→Rep (fun k=>k<w.heap.size) w ((ak vs).getD i .undef) (args.getD i undef))
  (hg:∀g x,look Gl g=some x→g<w.heap.size∧∃ad,w.cell? ⟨g,0,none⟩=some (.iface x.1 (.pointer (some ad))):=by intro g x h;cases h)
  (ht:∀g zs,look Gt g=some zs→g<w.heap.size∧∃T fz,w.heap[g]?=some (.cells (zs.map (Value.int .u64)).toArray T fz):=by intro g x h;cases h):
  Calls P f args w fun e w'=>e= .returned (.bool true)∧Below w.heap.size w w':=by
 have hno:∀k,¬qD (fun _=>⟨0,0,0,0⟩) (toH []) k:=by
  rintro k ⟨b,x,hb,-⟩
  cases hb
 have hs:Sim P w (qD (fun _=>⟨0,0,0,0⟩) (toH [])) (fun _=>True) 0 (fun _=>⟨0,0,0,0⟩) [] (toH []) ef w:=by
  refine⟨fun _ _=>trivial,fun _ _=>trivial,Fr.refl _ _,rfl,rfl,?_,?_,?_,?_,?_⟩
  ·intro k d hk;cases hk
  ·intro b x hx;cases hx
  ·intro b x hx;cases hx
  ·intro b b' x x' hx;cases hx
  ·exact⟨fun g x hx=>⟨⟨trivial,hno g,(hg g x hx).1⟩,(hg g x hx).2⟩,fun g x hx=>⟨⟨trivial,hno g,(ht g x hx).1⟩,(ht g x hx).2⟩⟩
 refine(h.2 w (fun _=>True) (fun _=>⟨0,0,0,0⟩) args hs hl fun i hi=>.pure ((hr i hi).mono fun b hb=>⟨⟨⟨hb,trivial⟩,fun b x hx=>by cases hx⟩,rfl⟩)).mono fun e w' he=>?_
 obtain⟨u,ρ',rfl,-,hs',hc⟩:=he
 refine⟨by rw[hc.bool_inv],⟨hs'.fr.os,hs'.fr.tape,hs'.fr.output,hs'.fr.size,fun k hk=>hs'.fr.block k hk (hno k)⟩⟩
theorem fT {w:World}{a:Addr}{v:Value}(h:w.cell? a=some v):a.block<w.heap.size:=by
 rcases cG a.block w.heap.size with hl|hl
 ·exact hl
 ·have:w.heap[a.block]?=none:=by simp[hl]
  simp[World.cell?,this] at h
theorem Jd {w:World}{l:List D}{a:Addr}{n cap:Nat}{g:Nat→Value}(hn:l.length=n)(hcap:n≤cap)(hmax:cap≤maxLen)(hl:∀e∈l,e.cells=[e]∧e.pure0=true)
  (hc:∀i,i<n→w.cell? (a.add i)=some (g i)) (hr:∀i,i<n→Rep (fun k=>k<w.heap.size) w (l.getD i .undef) (g i)):Rep (fun k=>k<w.heap.size) w (.lst l) (.slice (some a) n cap):=by
 cases l with
 |nil=>
  simp only[dA] at hn
  subst hn
  exact .none _ _ (fun h=>by cases h) hmax
 |cons x l=>
  have hp:0<n:=by rw[←hn];simp
  have hsz:szl (x::l)=1:=by show x.cells.length=1;rw[(hl x (bm ..)).1];rfl
  obtain⟨b,off,spot⟩:=a
  have hspot:spot=none:=by simpa[Addr.add] using World.cell?_spot (hc 0 hp)
  subst hspot
  have h0:=fT (hc 0 hp)
  refine .lst _ n b off cap (fun i _=>g i) hn hcap hmax h0 ?_ (by rw[hsz];omega) ?_ ?_
  ·intro e he
   rw[hsz]
   exact⟨by rw[(hl e he).1];rfl,by rw[(hl e he).1];simp[(hl e he).2]⟩
  ·intro i j hi hj
   rw[hsz] at hj⊢
   obtain rfl:j=0:=by omega
   have:=hc i hi
   rw[Go.WideShapes.add_plain] at this
   rw[iT,jv]
   exact this
  ·intro i j hi hj
   rw[hsz] at hj
   obtain rfl:j=0:=by omega
   have hi':i<(x::l).length:=by omega
   have e:(x::l).getD i .undef=(x::l)[i]:=by simp[ar,am hi']
   have h1:=(hl _ (be hi')).1
   have h2:=hr i hi
   rw[e] at h2⊢
   rw[h1]
   exact h2
theorem CK {H:Type}{enc:TypeId×Value→H}{P:Program}{W:World}{sp:Nat→Bool}{hd:Bool}{t e:TypeId}{v:Value}{d:DataW H}{p:List MemPlace}{base:Nat}(ht:P.underlying t=some (.slice e))(he:P.underlying e=some (.int .u8))(hc:P.cellsOf e=1)
  (hv:Value.okWide P W .any base t v) (h:DataW.Trod enc P W 0 sp hd t v d p):∃c:List Int,(∀x∈c,0≤x∧x≤255)∧Rep (fun k=>k<W.heap.size) W (V.lst (.int .u8) c).toD v:=by
 obtain⟨a0,len0,cap0,rfl⟩:=okWide_slice ht hv
 obtain⟨fuel,h⟩:=h
 rcases open_ints ht he hc h with⟨h1,-⟩|⟨a,len,cap,zs,h1,h2,h3,h4,h5,-,h6,h7⟩
 ·have h1:[Value.slice a0 len0 cap0]=[.slice none 0 0]:=h1
  cases h1
  exact⟨[],by simp,.none _ _ (fun _=>rfl) (aX _)⟩
 ·have h1:[Value.slice a0 len0 cap0]=[.slice (some a) len cap]:=h1
  cases h1
  have hle:len0≤zs.length:=by rw[h5];split<;>omega
  have hlen:(zs.take len0).length=len0:=by rw[bP];omega
  refine⟨zs.take len0,fun x hx=>bounds_u8 (h7 x (jX hx)),?_⟩
  show Rep _ _ (.lst ((zs.take len0).map (ai (.int .u8)))) _
  refine Jd (g:=fun i=>.int .u8 (zs.getD i 0)) (by rw[aA,hlen]) h3 h4 ?_ (fun i hi=>h6 i (by omega)) ?_
  ·intro e he
   obtain⟨z,_,rfl⟩:=aB.1 he
   exact⟨rfl,rfl⟩
  ·intro i hi
   have e1:((zs.take len0).map (ai (.int .u8))).getD i .undef= .int .u8 (zs.getD i 0):=by
    have hi2:i<zs.length:=by omega
    simp[ar,bf,er,hi,am hi2,ai]
   rw[e1]
   exact .int _ _
def JR (W:World)(T:Ty)(x:T.den)(cs:List Value):Prop:=cs.length=T.sz∧∀j,j<T.sz→Rep (fun k=>k<W.heap.size) W ((ai T x).cells.getD j .undef) (cs.getD j undef)
theorem BO {α:Type}{p:Nat→α→Prop}:∀n,(∀i,i<n→∃d,p i d)→∃l:List α,l.length=n∧∀i (h:i<l.length),p i l[i]
 |0,_=>⟨[],rfl,fun i h=>absurd h (Nat.not_lt_zero i)⟩
 |n+1,h=>by
  obtain⟨l,hl,hp⟩:=BO n fun i hi=>h i (by omega)
  obtain⟨d,hd⟩:=h n (by omega)
  refine⟨l++[d],by simp[hl],fun i hi=>?_⟩
  rcases cG i l.length with hlt|hge
  ·rw[List.getElem_append_left hlt]
   exact hp i hlt
  ·obtain rfl:i=l.length:=by simp at hi;omega
   rw[List.getElem_append_right (ax _)]
   simpa[hl] using hd
theorem row_cells {H:Type}{enc:TypeId×Value→H}{P:Program}{W:World}{sp:Nat→Bool}{hd:Bool}{t e:TypeId}{T:Ty}{cs:List Value}{fuel:Nat}{x:DataW H×List MemPlace}(hp:T.pure=true)(ht:P.underlying t=some (.slice e))(hc:P.cellsOf e=T.sz)
  (hel:∀fuel cs x,DataW.trod enc P W 0 sp hd fuel e cs=some x→∃d,JR W T d cs) (h:DataW.trod enc P W 0 sp hd fuel t cs=some x):∃(l:List T.den) (v:Value),cs=[v]∧Rep (fun b=>b<W.heap.size) W (V.lst T l).toD v:=by
 rcases DataW.trod_slice ht h with⟨h1,-⟩|⟨a,len,cap,elems,rest,n,-,h1,-,-,hl,hm,hlen,hel2,-,-⟩
 ·exact⟨[],_,h1,.none _ _ (fun _=>rfl) (aX _)⟩
 ·have each:∀i,i<len→∃d:T.den,∃cs',W.cells? 0 (a.add (i*T.sz)) T.sz=some cs'∧JR W T d cs':=by
   intro i hi
   have h2:=hel2 i hi
   rw[am (by omega),hc,bw] at h2
   obtain⟨cs',h3,h4⟩:=h2
   obtain⟨d,hd⟩:=hel _ _ _ h4
   exact⟨d,cs',h3,hd⟩
  obtain⟨l,hll,hlp⟩:=BO len each
  refine⟨l,_,h1,?_⟩
  show Rep _ W (.lst (l.map (ai T))) _
  by_cases hz:l=[]
  ·subst hz
   subst hll
   exact .none _ _ (fun h=>by cases h) hm
  ·have hpos:0<l.length:=List.length_pos_iff.2 hz
   have hsz:szl (l.map (ai T))=T.sz:=by
    cases l with
    |nil=>exact absurd rfl hz
    |cons y l=>exact(fV T y).1
   have cell:∀i j,i<l.length→j<T.sz→∃v,W.cell? ((a.add (i*T.sz)).add j)=some v∧Rep (fun k=>k<W.heap.size) W ((ai T (l[i]?.getD (l[0]'hpos))).cells.getD j .undef) v:=by
    intro i j hi hj
    obtain⟨cs',h3,h4,h5⟩:=hlp i hi
    have h6:=(World.cells?_some h3).2.2 j hj
    have hj':j<cs'.length:=by omega
    refine⟨cs'[j],by rw[h6,am hj'],?_⟩
    have:=h5 j hj
    rw[am hi]
    simp only[ar (l:=cs'),am hj',d7] at this
    exact this
   obtain⟨b,off,spot⟩:=a
   obtain⟨v0,hv0,-⟩:=cell 0 0 hpos T.sz_pos
   have hspot:spot=none:=by simpa[Addr.add] using World.cell?_spot hv0
   subst hspot
   have hb:=fT hv0
   refine .lst _ len b off cap (fun i j=>(W.cell? ⟨b,off+i*T.sz+j,none⟩).getD undef) (by simpa using hll) hl hm (by simpa[Addr.add] using hb) ?_ (by rw[hsz];exact T.sz_pos) ?_ ?_
   ·intro e he
    obtain⟨y,-,rfl⟩:=aB.1 he
    rw[hsz]
    exact kl hp y
   ·intro i j hi hj
    rw[hsz] at hj⊢
    obtain⟨v,hv,-⟩:=cell i j (by omega) hj
    rw[Go.WideShapes.add_plain,Go.WideShapes.add_plain] at hv
    rw[hv]
    rfl
   ·intro i j hi hj
    rw[hsz] at hj
    obtain⟨v,hv,hr⟩:=cell i j (by omega) hj
    rw[Go.WideShapes.add_plain,Go.WideShapes.add_plain] at hv
    rw[hv]
    have e:(l.map (ai T)).getD i .undef=ai T (l[i]?.getD (l[0]'hpos)):=by
     have:i<l.length:=by omega
     simp[ar,am this]
    rw[e]
    exact hr
end Go.Proofs.YtpefhoohfkeflabGreatDoor.Am
namespace Go.Proofs.YtpefhoohfkeflabGreatDoor.Am
open Go Go.RowKit
theorem gd {φ K:Prop}(h:φ)(k:K):ci φ K:=⟨h,k⟩
theorem LU {b:Bool}{K:Prop}(h:b=true)(k:K):Mk b K:=⟨h,k⟩
theorem Kt {k:IntKind}{z:Int}{K:Int→Prop}(h:Nw k z)(g:K z):Ari k z K:=.inl ⟨h,g⟩
theorem Ks {z:Int}{K:Int→Prop}(h:-9223372036854775808≤z∧z≤9223372036854775807)(g:K z):Ari .i64 z K:=.inl ⟨h,g⟩
theorem J2 {α:Type}{xs:List α}{i:Int}{K:Nat→α→Prop}(h0:0≤i)(hl:i.toNat<xs.length)(h:∀x,xs[i.toNat]?=some x→K i.toNat x):mI xs i K:=
 ⟨h0,xs[i.toNat],am hl,h _ (am hl)⟩
theorem Nt {α:Type}{xs:List α}{i:Int}{K:Nat→α→Prop}{x:α}(h0:0≤i)(hx:xs[i.toNat]?=some x)(h:K i.toNat x):mI xs i K:=⟨h0,x,hx,h⟩
theorem ER {α:Type}{xs:List α}{i:Nat}{K:α→Prop}(hl:i<xs.length)(h:∀x,xs[i]?=some x→K x):fF xs i K:=
 ⟨xs[i],am hl,h _ (am hl)⟩
theorem Nm {α:Type}{xs:List α}{i:Nat}{K:α→Prop}{x:α}(hx:xs[i]?=some x)(h:K x):fF xs i K:=⟨x,hx,h⟩
theorem J3 {α:Type}{xs:List α}{i:Nat}{K:Nat→α→Prop}(hl:i<xs.length)(h:∀x,xs[i]?=some x→K i x):mI xs (i:Int) K:=
 ⟨Int.natCast_nonneg i,xs[i],am hl,h _ (am hl)⟩
theorem Lf {α:Type}{xs:List α}{i:Nat}{K:Nat→α→Prop}{x:α}(hx:xs[i]?=some x)(h:K i x):mI xs (i:Int) K:=⟨Int.natCast_nonneg i,x,hx,h⟩
theorem JZ {α:Type}{xs:List α}{i:Nat}{K:α→Prop}(hl:i<xs.length)(h:∀x,xs[i]?=some x→K x):fF xs (i:Int).toNat K:=ER hl h
theorem KY {α:Type}{xs:List α}{i:Nat}{K:α→Prop}{x:α}(hx:xs[i]?=some x)(h:K x):fF xs (i:Int).toNat K:=⟨x,hx,h⟩
theorem zm {b:Bool}{A B:Prop}(hb:b=true)(h:A):jx b A B:=⟨fun _=>h,fun h=>by rw[hb] at h;cases h⟩
theorem zl {b:Bool}{A B:Prop}(hb:b=false)(h:B):jx b A B:=⟨(fun h=>by rw[hb] at h;cases h),fun _=>h⟩
theorem D1 {b:Bool}{A B:Prop}(hb:b=false)(h:A):jx (!b) A B:=zm (by rw[hb];rfl) h
theorem D0 {b:Bool}{A B:Prop}(hb:b=true)(h:B):jx (!b) A B:=zl (by rw[hb];rfl) h
theorem Kx {p:Prop}[Decidable p]{A B:Prop}(hp:p)(h:A):jx (decide p) A B:=zm (decide_eq_true hp) h
theorem Kw {p:Prop}[Decidable p]{A B:Prop}(hp:¬p)(h:B):jx (decide p) A B:=zl (decide_eq_false hp) h
theorem DZ {p:Prop}[Decidable p]{A B:Prop}(h:p→A)(k:¬p→B):jx (decide p) A B:=⟨fun h'=>h (of_decide_eq_true h'),fun h'=>k (of_decide_eq_false h')⟩
theorem Nf {A B:Prop}(h:A):jx true A B:=⟨fun _=>h,fun h=>by cases h⟩
theorem Nd {A B:Prop}(h:B):jx false A B:=⟨(by intro h;cases h),fun _=>h⟩
theorem uk {b:Bool}{A B:Prop}(h:b=true→A)(k:b=false→B):jx b A B:=⟨h,k⟩
theorem bg {P:Program}{f:FuncId}{vs:List V}{hin:VH}{K:V→VH→Prop}{r:V}{hout:VH}(h:ag P f vs hin r hout)(k:K r hout):cR P f vs hin K:=⟨r,hout,h,k⟩
theorem n9 {P:Program}{f:FuncId}{vs:List V}{hin:VH}{K:V→VH→Prop}{α:Type}{R:α→Prop}{r:α→V}{hout:α→VH}(h:∃a,R a∧ag P f vs hin (r a) (hout a))(k:∀a,R a→K (r a) (hout a)):cR P f vs hin K:=by
 obtain⟨a,h1,h2⟩:=h
 exact⟨r a,hout a,h2,k a h1⟩
theorem MO {x:VB}{A B:Prop}(h:A):fv x x A B:=.inl ⟨rfl,h⟩
theorem MN {y x:VB}{A B:Prop}(h:B):fv y x A B:=.inr h
theorem Kb {α:Type}{A:Prop}{B:α→Prop}(h:A):iW none A B:=⟨(fun _=>h),(fun x hx=>nomatch hx)⟩
theorem Kc {α:Type}{x:α}{A:Prop}{B:α→Prop}(h:B x):iW (some x) A B:=⟨(fun hx=>nomatch hx),(fun y hy=>aq hy▸h)⟩
theorem L3 {α:Type}{o:Option α}{x:α}{A:Prop}{B:α→Prop}(he:o=some x)(h:B x):iW o A B:=by subst he;exact Kc h
theorem L2 {α:Type}{o:Option α}{A:Prop}{B:α→Prop}(he:o=none)(h:A):iW o A B:=by subst he;exact Kb h
theorem go {P Q:Prop}(h:Q)(s:Q→P:=by with_reducible first
  |exact LU (by kernel_rfl)|exact Nf|exact Nd|exact zm (by assumption)|exact zl (by assumption)|exact D1 rfl|exact D0 rfl|exact D1 (by assumption)|exact D0 (by assumption)
  |exact Kx (by first|assumption|omega|exact trivial|exact rfl)|exact Kw (by first|assumption|omega)|exact NI (by assumption)
  |exact gd (by first|omega|assumption|decide|((try unfold le);(try simp only[jt,aP,bF,dA,aA,iA]);omega))
  |exact Ks (by omega)|exact Lf (by assumption)|exact Nt (by omega) (by assumption)|exact KY (by assumption)|exact Nm (by assumption)
  |exact MO|exact MN|exact Kb|exact Kc|exact L3 (by assumption)|exact L2 (by assumption)|exact Kt (by simp only[Nw];omega)):P:=s h
theorem OJ {α:Type}{P:Prop}{C Q:α→Prop}(h:∀x,C x→Q x)(s:(∀x,C x→Q x)→P:=by with_reducible first
  |exact J3 (by omega)|exact J2 (by omega) (by omega)|exact JZ (by omega)|exact ER (by first|omega|(simp only[bF,dA,jt,aP];omega))):P:=s h
theorem Nq (n:Int)(h:-9223372036854775808≤n∧n≤9223372036854775807):IntKind.i64.wrap n=n:=by rw[IntKind.wrap_i64];omega
theorem MU {x y:Int}(hx:0≤x∧x<4611686018427387904)(hy:0≤y∧y<4611686018427387904):0≤IntKind.i64.wrap ((BitVec.ofInt IntKind.i64.bits x^^^BitVec.ofInt IntKind.i64.bits y).toNat:Nat):=by
 have hb:IntKind.i64.bits=64:=rfl
 rw[hb]
 have h1:(BitVec.ofInt 64 x).toNat<2^62:=by rw[BitVec.toNat_ofInt];omega
 have h2:(BitVec.ofInt 64 y).toNat<2^62:=by rw[BitVec.toNat_ofInt];omega
 have h3:(BitVec.ofInt 64 x^^^BitVec.ofInt 64 y).toNat<2^62:=by rw[BitVec.toNat_xor];exact Nat.xor_lt_two_pow h1 h2
 rw[Nq _ (by omega)]
 omega
variable {P:Program} {N:Nat} {K:Id→Prop}
def uZ:List V→Nat→Bool
 |[],0=>true
 | .nilp::l,m+1=>uZ l m
 |_,_=>false
theorem r6 {t:Ty}{d:t.den}(hd:ai t d= .nilp):∀{l:List V} {m:Nat},uZ l m=true→ak l=(List.replicate m d).map (ai t)
 |[],0,_=>rfl
 | .nilp::l,m+1,h=>by
  simp only[ak,List.replicate_succ,bI]
  rw[r6 hd (l:=l) (m:=m) h,hd]
  rfl
 |[],m+1,h=>by cases h
 |v::l,0,h=>by cases v<;>cases h
 | .int .. ::_,_+1,h| .bool _::_,_+1,h| .tt::_,_+1,h| .ff::_,_+1,h| .str _::_,_+1,h| .lst .. ::_,_+1,h| .box .. ::_,_+1,h| .agg _::_,_+1,h| .tup _::_,_+1,h
 | .nils::_,_+1,h| .nilf::_,_+1,h| .nili::_,_+1,h| .ifc .. ::_,_+1,h| .clo .. ::_,_+1,h| .ref _::_,_+1,h| .ptr .. ::_,_+1,h| .eptr .. ::_,_+1,h| .iptr .. ::_,_+1,h
 | .vref .. ::_,_+1,h| .aptr .. ::_,_+1,h| .fref .. ::_,_+1,h| .fptr .. ::_,_+1,h| .feptr .. ::_,_+1,h| .faptr .. ::_,_+1,h| .hro .. ::_,_+1,h| .hpo .. ::_,_+1,h| .obo .. ::_,_+1,h
 | .undef::_,_+1,h| .gp _::_,_+1,h| .gv _::_,_+1,h| .junk::_,_+1,h=>by cases h
def N1:(t:Ty)→Option t.den
 | .hp _=>some none
 | .ob _=>some none
 |_=>none
theorem Jy:∀{t:Ty} {d:t.den},N1 t=some d→ai t d= .nilp
 | .hp _,_,h=>by cases h;rfl
 | .ob _,_,h=>by cases h;rfl
def OX (h:VH)(b p m:Nat)(t:Ty)(K:VH→Prop):Prop:=
 eP h b fun x=>(match x with
  | .var T cs=>tD cs p fun pre=>Mk (uZ (cs.drop p) m) (match N1 t with
   |some d=>Dj b (.vari T pre m t (List.replicate m d) []) h K
   |none=>False)
  |_=>False)
theorem DN {c:Code}{Q:Exit→VSt→Prop}{t:VT}{h:VH}{n:Nat}(b p m:Nat)(ty:Ty)(hk:OX h b p m ty fun h'=>At P N K c Q ⟨t,h',n⟩):At P N K c Q ⟨t,h,n⟩:=by
 obtain⟨x,h1,hk⟩:=bi hk
 split at hk
 ·rename_i T cs
  obtain⟨hl,c1,hk⟩:=o8 hk
  split at hk
  ·rename_i dn hd
   have hd:=Jy hd
   have ha:=rH hk
   refine AX (σ':=⟨t,put b _ h,n⟩) (fun _ _ _ _ _ _ hs=>hs.congr (fun _=>rfl) (fun d=>?_) rfl) ha
   show look (toH (put b _ h)) d=look (toH h) d
   rw[ap,ap,af]
   split
   ·rename_i e
    rw[e,h1]
    have:VB.blks (.vari T (cs.take p) m ty (List.replicate m dn) [])=VB.blks (.var T cs):=by
     simp only[VB.blks,ak,gy]
     rw[←r6 hd c1]
     congr 2
     rw[cY,cY,cY,←cf,List.take_append_drop]
    simp only[bc,this]
   ·rfl
  ·exact hk.elim
 ·exact hk.elim
end Go.Proofs.YtpefhoohfkeflabGreatDoor.Am
namespace Go.Proofs.YtpefhoohfkeflabGreatDoor.Am
open Go
def eB (n:Nat)(p:Nat→Bool):Bool:=(List.range n).all p
theorem bD {n:Nat}{p:Nat→Bool}:eB n p=true↔∀j,j<n→p j=true:=by simp[eB]
theorem de {n:Nat}{p:Nat→Bool}(h:∀j,j<n→p j=true):eB n p=true:=bD.2 h
theorem dT {n j:Nat}{p:Nat→Bool}(hj:j<n)(h:p j=false):eB n p=false:=by
 rw[ck]
 intro ha
 rw[bD.1 ha j hj] at h
 cases h
theorem cD {i:Nat}{p:Nat→Bool}(h:∀j,j<i→p j=true)(hi:p i=true):∀j,j<i+1→p j=true:=by
 intro j hj
 rcases cG j i with hl|hg
 ·exact h j hl
 ·obtain rfl:j=i:=by omega
  exact hi
theorem b7 {α:Type}{l:List α}{i:Nat}{x d:α}(h:l[i]?=some x):l.getD i d=x:=by rw[ar,h];rfl
theorem fA {α:Type}{l:List α}{i:Nat}{d:α}(h:i<l.length):l.getD i d∈l:=by rw[ar,am h];exact be h
theorem dZ {α:Type}{l:List α}{x d:α}(h:x∈l):∃i,i<l.length∧l.getD i d=x:=by
 obtain⟨i,hi,rfl⟩:=qn h
 exact⟨i,hi,by rw[ar,am hi];rfl⟩
def jV (n lo hi:Int):Bool:=decide (lo≤n) && decide (n≤hi)
theorem aC {n lo hi:Int}:jV n lo hi=true↔lo≤n∧n≤hi:=by simp[jV]
def comV (c:List Int):Bool:=eB c.length (fun i=>jV (c.getD i 0) 1 9) && jV c.length 1 7
theorem ay {c:List Int}:comV c=true↔(∀x∈c,1≤x∧x≤9)∧1≤c.length∧c.length≤7:=by
 simp only[comV,az,bD,aC]
 constructor
 ·rintro⟨h1,h2⟩
  refine⟨fun x hx=>?_,by omega,by omega⟩
  obtain⟨i,hi,rfl⟩:=dZ (d:=0) hx
  exact h1 i hi
 ·rintro⟨h1,h2,h3⟩
  exact⟨fun j hj=>h1 _ (fA hj),by omega,by omega⟩
def qL (c:List Int):Int:=c.sum
theorem rQ {M:Int}(hM:0≤M):∀{l:List Int},(∀x∈l,0≤x∧x≤M)→0≤l.sum∧l.sum≤M*l.length
 |[],_=>by simp
 |x::l,h=>by
  have h1:=h x (bm ..)
  have h2:=rQ hM fun y hy=>h y (bB _ hy)
  rw[List.sum_cons,bF]
  have:M*((l.length+1:Nat):Int)=M*l.length+M:=by rw[Int.natCast_add,Int.mul_add];simp
  omega
theorem tB:∀{l:List Int},(∀x∈l,1≤x)→(l.length:Int)≤l.sum
 |[],_=>by simp
 |x::l,h=>by
  have h1:=h x (bm ..)
  have h2:=tB fun y hy=>h y (bB _ hy)
  rw[List.sum_cons,bF]
  omega
theorem ly {c:List Int}(h:comV c=true):1≤qL c∧qL c≤63:=by
 obtain⟨h1,h2,h3⟩:=ay.1 h
 have h4:=rQ (M:=9) (by omega) fun x hx=>⟨by have:=h1 x hx;omega,(h1 x hx).2⟩
 have h5:=tB fun x hx=>(h1 x hx).1
 unfold qL
 omega
def quo (c:List Int):Int:=(2*qL c).tdiv 3+1
theorem Gc {c:List Int}(h:comV c=true):1≤quo c∧quo c≤43:=by
 have h1:=ly h
 unfold quo
 rw[my (by omega)]
 omega
def du (c:List Int)(m:Int):Bool:=jV m 0 (c.length-1)
def jn (c ms:List Int)(i:Nat):Bool:=du c (ms.getD i 0) && (i==0||decide (ms.getD (i-1) 0<ms.getD i 0))
def en (c ms:List Int):Bool:=eB ms.length (jn c ms)
def lL (c ms:List Int):Int:=(ms.map fun m=>c.getD m.toNat 0).sum
theorem dE {c ms:List Int}(h:en c ms=true):∀m∈ms,0≤m∧m<c.length:=by
 intro m hm
 obtain⟨i,hi,rfl⟩:=dZ (d:=0) hm
 have:=bD.1 h i hi
 simp only[jn,az,du,aC] at this
 omega
theorem p9 {α:Type}{R:α→α→Prop}(ht:∀a b c,R a b→R b c→R a c):∀{l:List α},(∀i x y,l[i]?=some x→l[i+1]?=some y→R x y)→l.Pairwise R
 |[],_=>List.Pairwise.nil
 |[x],_=>by simp
 |x::y::l,h=>by
  have h0:R x y:=h 0 x y rfl rfl
  have ih:(y::l).Pairwise R:=p9 ht fun i a b ha hb=>h (i+1) a b (by simpa using ha) (by simpa using hb)
  refine List.Pairwise.cons (fun a ha=>?_) ih
  rcases aK.1 ha with rfl|ha
  ·exact h0
  ·exact ht _ _ _ h0 ((iB.1 ih).1 a ha)
theorem jo {c ms:List Int}(h:en c ms=true):ms.Pairwise (· < ·):=by
 refine p9 (fun _ _ _ h1 h2=>by omega) fun i x y hx hy=>?_
 have hl:=(aR.1 hy).1
 have:=bD.1 h (i+1) hl
 simp only[jn,az,cN,Nat.add_sub_cancel,b7 hx,b7 hy,decide_eq_true_eq] at this
 rcases this.2 with h|h
 ·simp at h
 ·exact h
theorem BQ {c ms:List Int}(h1:∀m∈ms,0≤m∧m<c.length)(h2:ms.Pairwise (· < ·)):en c ms=true:=by
 refine de fun j hj=>?_
 simp only[jn,du,az,aC,cN,beq_iff_eq,decide_eq_true_eq]
 have:=h1 _ (fA (d:=0) hj)
 refine⟨by omega,?_⟩
 cases j with
 |zero=>exact .inl rfl
 |succ j=>
  right
  rw[qO] at h2
  have:=h2 j (j+1) (by omega) hj (by omega)
  simpa[ar,am hj,am (show j<ms.length by omega)] using this
theorem u4:∀{a b:List Int},a.Pairwise (· < ·)→b.Pairwise (· < ·)→(∀x,x∈a↔x∈b)→a=b
 |[],[],_,_,_=>rfl
 |[],y::b,_,_,h=>by have:=(h y).2 (bm ..);cases this
 |x::a,[],_,_,h=>by have:=(h x).1 (bm ..);cases this
 |x::a,y::b,ha,hb,h=>by
  rw[iB] at ha hb
  have hxy:x=y:=by
   have h1:=(h x).1 (bm ..)
   have h2:=(h y).2 (bm ..)
   rcases aK.1 h1 with h1|h1
   ·exact h1
   ·rcases aK.1 h2 with h2|h2
    ·exact h2.symm
    ·have:=ha.1 y h2;have:=hb.1 x h1;omega
  subst hxy
  rw[u4 ha.2 hb.2 fun z=>?_]
  have hz:=h z
  constructor
  ·intro hz1
   have hlt:=ha.1 z hz1
   rcases aK.1 (hz.1 (bB _ hz1)) with e|e
   ·omega
   ·exact e
  ·intro hz1
   have hlt:=hb.1 z hz1
   rcases aK.1 (hz.2 (bB _ hz1)) with e|e
   ·omega
   ·exact e
theorem wB {c ms:List Int}(h:comV c=true):0≤lL c ms∧lL c ms≤9*ms.length:=by
 have hc:=(ay.1 h).1
 have:=rQ (M:=9) (by omega) (l:=ms.map fun m=>c.getD m.toNat 0) fun x hx=>by
  obtain⟨m,-,rfl⟩:=aB.1 hx
  rcases cG m.toNat c.length with hl|hg
  ·have:=hc _ (fA (d:=0) hl);omega
  ·simp[ar,ep hg]
 rwa [aA] at this
theorem tH (c ms:List Int)(m:Int):lL c (ms++[m])=lL c ms+c.getD m.toNat 0:=by simp[lL]
instance:Inhabited Vtx:=⟨⟨0,0,[],0⟩⟩
def v0:Vtx:=⟨0,0,[],0⟩
def vtxS (c:List Int)(v:Vtx):Bool:=jV v.round 0 30 && (du c v.author && (en c v.parents && (jV v.digest 0 990 && (if v.round=0 then v.parents.length==0 else decide (quo c≤lL c v.parents)))))
def e9 (r a:Int)(v:Vtx):Bool:=v.round==r && v.author==a
def eg (g:List Vtx)(r a:Int):Bool:=g.any (e9 r a)
def parOK (g:List Vtx)(v:Vtx):Bool:=v.parents.all fun p=>eg g (v.round-1) p
def bef (a b:Vtx):Bool:=decide (a.round<b.round)||decide (a.round=b.round) && decide (a.author<b.author)
theorem ui {a b c:Vtx}(h1:bef a b=true)(h2:bef b c=true):bef a c=true:=by
 simp only[bef,cN,az,decide_eq_true_eq] at *
 omega
def jN (c:List Int)(g:List Vtx)(i:Nat):Bool:=vtxS c (g.getD i v0) && ((i==0||bef (g.getD (i-1) v0) (g.getD i v0)) && parOK g (g.getD i v0))
def graS (c:List Int)(g:List Vtx):Bool:=comV c && eB g.length (jN c g)
def gE (c:List Int)(g:List Vtx)(i:Nat):Bool:=vtxS c (g.getD i v0) && ((i==0||bef (g.getD (i-1) v0) (g.getD i v0)) && parOK (g.take i) (g.getD i v0))
theorem io {r a:Int}{v:Vtx}:e9 r a v=true↔v.round=r∧v.author=a:=by simp[e9]
theorem cF {g:List Vtx}{r a:Int}:eg g r a=true↔∃v∈g,v.round=r∧v.author=a:=by simp[eg,io]
theorem ee {g:List Vtx}{v:Vtx}:parOK g v=true↔∀p∈v.parents,eg g (v.round-1) p=true:=by simp[parOK]
theorem DJ {g:List Vtx}(h:∀i,i<g.length→(i==0||bef (g.getD (i-1) v0) (g.getD i v0))=true):g.Pairwise fun a b=>bef a b=true:=by
 refine p9 (R:=fun a b=>bef a b=true) (fun _ _ _ h1 h2=>ui h1 h2) fun i x y hx hy=>?_
 have:=h (i+1) (aR.1 hy).1
 rw[Nat.add_sub_cancel,b7 hx,b7 hy] at this
 simpa using this
theorem iL {α:Type}{R:α→α→Prop}{l:List α}(h:l.Pairwise R){i j:Nat}{x y:α}(hij:i<j)(hx:l[i]?=some x)(hy:l[j]?=some y):R x y:=by
 obtain⟨hi,rfl⟩:=aR.1 hx
 obtain⟨hj,rfl⟩:=aR.1 hy
 exact qO.1 h i j hi hj hij
theorem F4 {g:List Vtx}(hp:g.Pairwise fun a b=>bef a b=true){i:Nat}{v:Vtx}(hv:g[i]?=some v):parOK (g.take i) v=parOK g v:=by
 rw[dR,ee,ee]
 constructor
 ·intro h p hp1
  obtain⟨u,hu,h1⟩:=cF.1 (h p hp1)
  exact cF.2 ⟨u,jX hu,h1⟩
 ·intro h p hp1
  obtain⟨u,hu,h1,h2⟩:=cF.1 (h p hp1)
  refine cF.2 ⟨u,?_,h1,h2⟩
  obtain⟨j,hj⟩:=iR hu
  have hji:j<i:=by
   rcases Nat.lt_trichotomy j i with h|rfl|h
   ·exact h
   ·rw[hj] at hv;obtain rfl:=aq hv;omega
   ·have:=iL hp h hv hj
    simp only[bef,cN,az,decide_eq_true_eq] at this
    omega
  exact br (i:=j) (by rw[er,if_pos hji];exact hj)
theorem Bu {c:List Int}{g:List Vtx}:eB g.length (gE c g)=eB g.length (jN c g):=by
 have key:(∀i,i<g.length→(i==0||bef (g.getD (i-1) v0) (g.getD i v0))=true)→∀i,i<g.length→parOK (g.take i) (g.getD i v0)=parOK g (g.getD i v0):=fun h i hi=>
  F4 (DJ h) (by rw[ar,am hi];rfl)
 rw[dR,bD,bD]
 constructor
 ·intro h i hi
  have h1:=h i hi
  simp only[gE,az] at h1
  simp only[jN,az]
  refine⟨h1.1,h1.2.1,?_⟩
  rw[←key (fun j hj=>?_) i hi]
  ·exact h1.2.2
  ·have:=h j hj
   simp only[gE,az] at this
   exact this.2.1
 ·intro h i hi
  have h1:=h i hi
  simp only[jN,az] at h1
  simp only[gE,az]
  refine⟨h1.1,h1.2.1,?_⟩
  rw[key (fun j hj=>?_) i hi]
  ·exact h1.2.2
  ·have:=h j hj
   simp only[jN,az] at this
   exact this.2.1
structure GraOK (c:List Int)(g:List Vtx):Prop where
 com:comV c=true
 vtx:∀v∈g,vtxS c v=true
 pw:g.Pairwise fun a b=>bef a b=true
 par:∀v∈g,parOK g v=true
theorem fX {c:List Int}{g:List Vtx}(h:graS c g=true):GraOK c g:=by
 simp only[graS,az,bD] at h
 obtain⟨h1,h2⟩:=h
 have h3:∀i,i<g.length→vtxS c (g.getD i v0)=true∧(i==0||bef (g.getD (i-1) v0) (g.getD i v0))=true∧parOK g (g.getD i v0)=true:=fun i hi=>by
  have:=h2 i hi
  simpa only[jN,az] using this
 refine⟨h1,fun v hv=>?_,DJ fun i hi=>(h3 i hi).2.1,fun v hv=>?_⟩<;>(obtain⟨i,hi,rfl⟩:=dZ (d:=v0) hv)
 ·exact(h3 i hi).1
 ·exact(h3 i hi).2.2
theorem bG {c:List Int}{v:Vtx}(h:vtxS c v=true):(0≤v.round∧v.round≤30)∧(0≤v.author∧v.author<c.length)∧en c v.parents=true∧(0≤v.digest∧v.digest≤990)∧(v.round=0→v.parents=[])∧(v.round≠0→quo c≤lL c v.parents):=by
 simp only[vtxS,du,az,aC] at h
 obtain⟨h1,h2,h3,h4,h5⟩:=h
 refine⟨h1,by omega,h3,h4,fun h0=>?_,fun h0=>?_⟩
 ·rw[if_pos h0] at h5;simpa using h5
 ·rw[if_neg h0] at h5;simpa using h5
def fx (g:List Vtx)(r:Int):List Int:=(g.filter fun v=>v.round==r).map (·.author)
theorem se {g:List Vtx}{r a:Int}:a∈fx g r↔eg g r a=true:=by
 rw[cF]
 simp only[fx,aB,eM,beq_iff_eq]
 constructor
 ·rintro⟨v,⟨h1,h2⟩,h3⟩;exact⟨v,h1,h2,h3⟩
 ·rintro⟨v,h1,h2,h3⟩;exact⟨v,⟨h1,h2⟩,h3⟩
theorem wY {g:List Vtx}(h:g.Pairwise fun a b=>bef a b=true)(r:Int):(fx g r).Pairwise (· < ·):=by
 unfold fx
 rw[mw]
 have h1:(g.filter fun v=>v.round==r).Pairwise fun a b=>bef a b=true:=h.sublist (qp ..)
 refine h1.imp_of_mem fun {a b} ha hb hab=>?_
 have ha:=(eM.1 ha).2
 have hb:=(eM.1 hb).2
 simp only[bef,cN,az,decide_eq_true_eq,beq_iff_eq] at *
 omega
theorem pu {c:List Int}{g:List Vtx}(h:GraOK c g)(r:Int):en c (fx g r)=true:=by
 refine BQ (fun m hm=>?_) (wY h.pw r)
 obtain⟨v,h1,-,rfl⟩:=cF.1 (se.1 hm)
 exact(bG (h.vtx v h1)).2.1
def wV (c:List Int)(g:List Vtx)(r:Int):List Int:=((List.range c.length).filter fun a:Nat=>eg g r (a:Int)).map fun a:Nat=>(a:Int)
theorem wW {c:List Int}{g:List Vtx}(h:GraOK c g)(r:Int):wV c g r=fx g r:=by
 refine u4 ?_ (wY h.pw r) fun x=>?_
 ·unfold wV
  rw[mw]
  refine(List.Pairwise.sublist (qp ..) List.pairwise_lt_range).imp fun {a b} hab=>by omega
 ·rw[se]
  simp only[wV,aB,eM,eN]
  constructor
  ·rintro⟨a,⟨h1,h2⟩,rfl⟩;exact h2
  ·intro hx
   obtain⟨v,h1,-,h3⟩:=cF.1 hx
   have:=(bG (h.vtx v h1)).2.1
   refine⟨x.toNat,⟨by omega,?_⟩,by omega⟩
   rw[show ((x.toNat:Nat):Int)=x by omega]
   exact hx
def kw (c:List Int)(g:List Vtx):Nat→Int
 |0=>-1
 |r+1=>if quo c≤lL c (fx g r) then r else kw c g r
def iJ (c:List Int)(g:List Vtx):Int:=kw c g 31
theorem oy (c:List Int)(g:List Vtx):∀n,-1≤kw c g n∧kw c g n<n
 |0=>by simp[kw]
 |n+1=>by
  have:=oy c g n
  unfold kw
  split<;>omega
structure GS where
 nodes:List Nod
 rows:List (List (Option Nat))
 plc:List (Option Nat)
def GS.at (s:GS)(r a:Int):Option Nat:=s.plc.getD (r*7+a).toNat none
def j3:GS:=⟨[],[],List.replicate 217 none⟩
def cE (s:GS)(v:Vtx):GS:=
 ⟨s.nodes++[⟨v,s.nodes.length,if v.parents=[] then none else some s.rows.length⟩],if v.parents=[] then s.rows else s.rows++[v.parents.map fun p=>s.at (v.round-1) p],s.plc.set (v.round*7+v.author).toNat (some s.nodes.length)⟩
def db (g:List Vtx):GS:=g.foldl cE j3
theorem lY (g:List Vtx)(v:Vtx):db (g++[v])=cE (db g) v:=by simp[db]
theorem cj {α:Type}{p:List α→Prop}(h0:p [])(h:∀l x,p l→p (l++[x])):∀l,p l:=by
 intro l
 have:∀n (l:List α),l.length=n→p l:=by
  intro n
  induction n with
  |zero=>intro l hl;rw[nU.1 hl];exact h0
  |succ n ih=>
   intro l hl
   have hne:l≠[]:=by intro h;rw[h] at hl;simp at hl
   rw[←List.dropLast_concat_getLast hne]
   exact h _ _ (ih _ (by simp[hl]))
 exact this _ l rfl
theorem fo (g:List Vtx):(db g).nodes.length=g.length∧(db g).plc.length=217:=by
 induction g using cj with
 |h0=>exact⟨rfl,iA⟩
 |h l x ih=>rw[lY];simp[cE,ih.1,ih.2]
def ji (v:Vtx):Prop:=(0≤v.round∧v.round≤30)∧0≤v.author∧v.author≤6
theorem dm {c:List Int}{v:Vtx}(hc:comV c=true)(h:vtxS c v=true):ji v:=by
 obtain⟨h1,h2,-⟩:=bG h
 have:=(ay.1 hc).2.2
 exact⟨h1,by omega,by omega⟩
theorem vL {g:List Vtx}(hg:∀v∈g,ji v){r a:Int}(hr:0≤r∧r≤30)(ha:0≤a∧a≤6):((db g).at r a).isSome=eg g r a∧∀i,(db g).at r a=some i→∃v,g[i]?=some v∧v.round=r∧v.author=a:=by
 induction g using cj with
 |h0=>
  have:(db []).at r a=none:=by
   simp only[db,List.foldl_nil,j3,GS.at,ar]
   rw[mE]
   split<;>rfl
  rw[this]
  exact⟨rfl,fun i hi=>by cases hi⟩
 |h l v ih=>
  have ih:=ih fun u hu=>hg u (eq _ hu)
  have hv:=hg v (by simp)
  have hl:=fo l
  have hk:(v.round*7+v.author).toNat<(db l).plc.length:=by
   obtain⟨h1,h2⟩:=hv
   rw[hl.2]
   omega
  have hany:eg (l++[v]) r a=(eg l r a||e9 r a v):=by simp[eg]
  rw[lY,hany]
  by_cases he:v.round=r∧v.author=a
  ·have h1:(cE (db l) v).at r a=some l.length:=by
    obtain⟨rfl,rfl⟩:=he
    simp only[cE,GS.at,ar]
    rw[List.getElem?_set_self hk,hl.1]
    rfl
   rw[h1,io.2 he,Bool.or_true]
   refine⟨rfl,fun i hi=>?_⟩
   obtain rfl:=aq hi
   exact⟨v,by simp,he⟩
  ·have hne:e9 r a v=false:=by rw[ck];exact fun h=>he (io.1 h)
   have h1:(cE (db l) v).at r a=(db l).at r a:=by
    simp only[cE,GS.at,ar]
    rw[nT]
    obtain⟨h1,h2⟩:=hv
    omega
   rw[h1,hne,kf]
   refine⟨ih.1,fun i hi=>?_⟩
   obtain⟨u,h2,h3⟩:=ih.2 i hi
   exact⟨u,by rw[cX (aR.1 h2).1];exact h2,h3⟩
def lG (g:List Vtx)(r a:Int):Int:=match g.findIdx? (e9 r a) with|some i=>i|none=>-1
theorem vE {g:List Vtx}{r a:Int}:(g.findIdx? (e9 r a)).isSome=eg g r a:=by simp[eg,List.findIdx?_isSome]
theorem xH {c:List Int}{g:List Vtx}(h:GraOK c g){r a:Int}(hr:0≤r∧r≤30)(ha:0≤a∧a≤6):(db g).at r a=g.findIdx? (e9 r a):=by
 obtain⟨h1,h2⟩:=vL (fun v hv=>dm h.com (h.vtx v hv)) hr ha
 cases e:(db g).at r a with
 |none=>
  rw[e] at h1
  have h3:=vE (g:=g) (r:=r) (a:=a)
  rw[←h1] at h3
  cases e2:g.findIdx? (e9 r a) with
  |none=>rfl
  |some j=>rw[e2] at h3;cases h3
 |some i=>
  rw[e,←vE] at h1
  obtain⟨v,hv1,hv2⟩:=h2 i e
  cases e2:g.findIdx? (e9 r a) with
  |none=>rw[e2] at h1;cases h1
  |some j=>
   rw[wF] at e2
   obtain⟨hj,e3,-⟩:=e2
   have e3:=io.1 e3
   congr 1
   rcases Nat.lt_trichotomy i j with hl|rfl|hg
   ·have:=iL h.pw hl hv1 (am hj)
    simp only[bef,cN,az,decide_eq_true_eq] at this
    omega
   ·rfl
   ·have:=iL h.pw hg (am hj) hv1
    simp only[bef,cN,az,decide_eq_true_eq] at this
    omega
abbrev bs (l:List UInt8):ByteArray:=⟨l.toArray⟩
theorem zi (a b:List UInt8):bs a++bs b=bs (a++b):=by
 apply iE
 simp
theorem Hv (l:List UInt8):(bs l).size=l.length:=rfl
theorem DQ (l:List UInt8):(ByteArray.mk l.toArray).size=l.length:=rfl
theorem lR (l:List UInt8)(i j:Nat):(bs l).extract i j=bs ((l.drop i).take (j-i)):=by
 apply iE
 simp
theorem Hs (x:ByteArray):∀(n i:Nat) (r:List UInt8),x.size-i=n→ByteArray.toList.loop x i r=r.reverse++x.data.toList.drop i:=by
 intro n
 induction n with
 |zero=>
  intro i r h
  rw[ByteArray.toList.loop]
  have:x.data.toList.length=x.size:=nE
  rw[if_neg (by omega),List.drop_eq_nil_of_le (by omega),gy]
 |succ n ih=>
  intro i r h
  rw[ByteArray.toList.loop]
  have hl:x.data.toList.length=x.size:=nE
  rw[if_pos (by omega),ih (i+1) _ (by omega),List.reverse_cons,bH]
  congr 1
  rw[nF (i:=i) (by omega)]
  have:x.get! i=x.data.toList[i]'(by omega):=by
   rw[ByteArray.get!,getElem!_pos x.data i (show i<x.data.size from(show i<x.size by omega))]
   simp
  rw[this]
  rfl
theorem M9 (x:ByteArray):x.toList=x.data.toList:=by
 rw[ByteArray.toList,Hs x _ 0 [] rfl]
 rfl
theorem AY (l:List UInt8):(bs l).toList=l:=M9 _
def lF:Nat→Nat→List UInt8
 |0,n=>[UInt8.ofNat (48+n)]
 |k+1,n=>if n<10 then[UInt8.ofNat (48+n)] else lF k (n/10)++[UInt8.ofNat (48+n % 10)]
def aQ (n:Int):List UInt8:=lF 3 n.toNat
theorem sr:∀(k n:Nat),1≤(lF k n).length∧(lF k n).length≤k+1
 |0,_=>⟨ax _,ax _⟩
 |k+1,n=>by
  have:=sr k (n/10)
  unfold lF
  split
  ·simp
  ·simp
   omega
theorem aO (n:Int):1≤(aQ n).length∧(aQ n).length≤4:=sr 3 _
theorem oh (c:UInt8)(hc:c.toNat<48):∀(k n:Nat),n<10^(k+1)→c∉lF k n
 |0,n,h=>by
  have h:n<10:=by simpa using h
  have:(UInt8.ofNat (48+n)).toNat=48+n:=by rw[UInt8.toNat_ofNat'];omega
  intro hm
  simp only[lF,aZ] at hm
  rw[hm,this] at hc
  omega
 |k+1,n,h=>by
  have one:∀m,m<10→c≠UInt8.ofNat (48+m):=fun m hm e=>by
   have:(UInt8.ofNat (48+m)).toNat=48+m:=by rw[UInt8.toNat_ofNat'];omega
   rw[e,this] at hc
   omega
  unfold lF
  split
  ·rename_i h10
   simpa using one n h10
  ·have h1:=oh c hc k (n/10) (by rw[Nat.pow_succ] at h;exact Nat.div_lt_of_lt_mul (by rw[Nat.mul_comm];exact h))
   simp only[bh,aZ,not_or]
   exact⟨h1,one _ (Nat.mod_lt _ (by omega))⟩
def ka (p:List UInt8):List (List UInt8)→List (List UInt8)
 |[]=>[p]
 |w::ws=>(p++w)::ws
def aJ (c:UInt8):List UInt8→List (List UInt8)
 |[]=>[[]]
 |x::l=>if x=c then[]::aJ c l else ka [x] (aJ c l)
theorem Di (a b:List UInt8)(l:List (List UInt8))(h:l≠[]):ka a (ka b l)=ka (a++b) l:=by
 cases l with
 |nil=>exact absurd rfl h
 |cons w ws=>simp[ka]
theorem IY (a:List UInt8)(l:List (List UInt8)):ka a l≠[]:=by cases l<;>simp[ka]
theorem yn {l:List (List UInt8)}(h:l≠[]):ka [] l=l:=by
 cases l with
 |nil=>exact absurd rfl h
 |cons w ws=>simp[ka]
theorem kY (c:UInt8)(l:List UInt8):aJ c l≠[]:=by
 cases l with
 |nil=>simp[aJ]
 |cons x l=>
  unfold aJ
  split
  ·simp
  ·exact IY _ _
theorem F7 (a:List UInt8){l:List (List UInt8)}(h:l≠[]):(ka a l).length=l.length:=by
 cases l with
 |nil=>exact absurd rfl h
 |cons w ws=>rfl
theorem eC (c:UInt8):∀l:List UInt8,(aJ c l).length=l.count c+1
 |[]=>rfl
 |x::l=>by
  have ih:=eC c l
  unfold aJ
  split
  ·rename_i h
   subst h
   simp[ih]
  ·rename_i h
   rw[F7 _ (kY c l),ih,List.count_cons_of_ne (by simpa using h)]
theorem iU (c:UInt8)(l:List UInt8):(aJ c l).length≤l.length+1:=by
 rw[eC]
 have:=List.count_le_length (a:=c) (l:=l)
 omega
theorem fU (c:UInt8):∀(l w:List UInt8),w∈aJ c l→w.length≤l.length
 |[],w,h=>by simp[aJ] at h;simp[h]
 |x::l,w,h=>by
  unfold aJ at h
  split at h
  ·rcases aK.1 h with rfl|h
   ·simp
   ·have:=fU c l w h
    simp only[bF]
    omega
  ·have hne:=kY c l
   have ih:=fU c l
   generalize aJ c l=k at *
   cases k with
   |nil=>exact absurd rfl hne
   |cons y k=>
    simp only[ka,aK] at h
    rcases h with rfl|h
    ·have:=ih y (by simp)
     simp only[aP,bF,dA]
     omega
    ·have:=ih w (by simp[h])
     simp only[bF]
     omega
def um (c:UInt8):Bool:=decide (48≤c.toNat) && decide (c.toNat≤57)
def mg (l:List UInt8):Int:=l.foldl (fun n c=>10*n+((c.toNat:Int)-48)) 0
def s7 (w:List UInt8):Int:=if 1≤w.length∧w.length≤3∧w.all um=true then mg w else-1
def cA (ws:List (List UInt8))(k:Nat):Int:=s7 (ws.getD k [])
theorem pU (l:List UInt8)(c:UInt8):mg (l++[c])=10*mg l+((c.toNat:Int)-48):=by simp[mg]
theorem vY:∀l:List UInt8,l.all um=true→0≤mg l∧mg l<10^l.length:=by
 intro l
 induction l using cj with
 |h0=>intro _;simp[mg]
 |h l c ih=>
  intro h
  simp only[List.all_append,List.all_cons,List.all_nil,Bool.and_true,az,um,decide_eq_true_eq] at h
  have:=ih h.1
  rw[pU,aP,mF,Int.pow_succ]
  omega
theorem BU (w:List UInt8):-1≤s7 w∧s7 w≤999:=by
 unfold s7
 split
 ·rename_i h
  have h1:=vY w h.2.2
  have h2:w.length=1∨w.length=2∨w.length=3:=by omega
  rcases h2 with h2|h2|h2<;>rw[h2] at h1<;>omega
 ·omega
def leaS (c l:List Int):Bool:=eB l.length (fun i=>du c (l.getD i 0)) && decide ((l.length:Int)≤15)
theorem bR {c l:List Int}:leaS c l=true↔(∀x∈l,0≤x∧x<c.length)∧l.length≤15:=by
 simp only[leaS,az,bD,du,aC,decide_eq_true_eq]
 constructor
 ·rintro⟨h1,h2⟩
  refine⟨fun x hx=>?_,by omega⟩
  obtain⟨i,hi,rfl⟩:=dZ (d:=0) hx
  have:=h1 i hi
  omega
 ·rintro⟨h1,h2⟩
  exact⟨fun i hi=>by have:=h1 _ (fA (d:=0) hi);omega,by omega⟩
def Bo (c:List Int):Int:=(qL c-1).tdiv 3
theorem Ez {c:List Int}(h:comV c=true):0≤Bo c∧Bo c≤20∧3*Bo c<qL c:=by
 have h1:=ly h
 unfold Bo
 rw[my (by omega)]
 omega
def badS (c:List Int)(b:Int):Bool:=jV b (-1) (c.length-1) && (decide (b<0)||decide (c.getD b.toNat 0≤Bo c))
theorem n3 {c:List Int}{b:Int}:badS c b=true↔b= -1∨((0≤b∧b<c.length)∧c.getD b.toNat 0≤Bo c):=by
 simp only[badS,az,aC,cN,decide_eq_true_eq]
 omega
def iK (c l:List Int)(b:Int):Bool:=comV c && (leaS c l && badS c b)
def w0:Wrl:=⟨[],[],0,[],[]⟩
def LV (c l:List Int)(b:Int):Wrl:=⟨c,l,b,List.replicate c.length [],[]⟩
def kV (a b:Vtx):Bool:=a.round==b.round && (a.author==b.author && (a.digest==b.digest && a.parents==b.parents))
theorem pe {a b:Vtx}:kV a b=true↔a=b:=by
 obtain⟨r,x,ps,d⟩:=a
 obtain⟨r2,x2,ps2,d2⟩:=b
 simp only[kV,az,beq_iff_eq,Vtx.mk.injEq]
 constructor
 ·rintro⟨h1,h2,h3,h4⟩;exact⟨h1,h2,h4,h3⟩
 ·rintro⟨h1,h2,h3,h4⟩;exact⟨h1,h2,h4,h3⟩
theorem G2 (a:Vtx):kV a a=true:=pe.2 rfl
def slt (a b:Vtx):Bool:=a.round==b.round && a.author==b.author
theorem rO {a b:Vtx}:slt a b=true↔a.round=b.round∧a.author=b.author:=by simp[slt]
theorem yD (a b:Vtx):slt a b=slt b a:=by
 rw[dR,rO,rO]
 constructor<;>rintro⟨h1,h2⟩<;>exact⟨h1.symm,h2.symm⟩
def n6 (bad:Int)(a b:List Int):Bool:=a.any fun m=>m !=bad && b.contains m
theorem n7 {bad:Int}{a b:List Int}:n6 bad a b=true↔∃m,m≠bad∧m∈a∧m∈b:=by
 simp only[n6,eZ,az,bne_iff_ne,iz]
 constructor
 ·rintro⟨m,h1,h2,h3⟩;exact⟨m,h2,h1,h3⟩
 ·rintro⟨m,h1,h2,h3⟩;exact⟨m,h2,h1,h3⟩
theorem CJ (bad:Int)(a b:List Int):n6 bad a b=n6 bad b a:=by
 rw[dR,n7,n7]
 constructor<;>rintro⟨m,h1,h2,h3⟩<;>exact⟨m,h1,h3,h2⟩
def fitP (bad:Int)(p q:Ppl):Bool:=!slt p.v q.v||(!kV p.v q.v && (p.v.author==bad && !n6 bad p.members q.members))
theorem pE (bad:Int)(p q:Ppl):fitP bad p q=fitP bad q p:=by
 unfold fitP
 rw[yD,CJ]
 cases h:slt q.v p.v
 ·rfl
 ·have h1:=rO.1 h
  have h2:kV p.v q.v=kV q.v p.v:=by
   rw[dR,pe,pe]
   exact⟨Eq.symm,Eq.symm⟩
  rw[h2,h1.2]
def p0:Ppl:=⟨v0,[]⟩
def oneP (c:List Int)(p:Ppl):Bool:=vtxS c p.v && en c p.members
def gu (c:List Int)(bad:Int)(ps:List Ppl)(i:Nat):Bool:=oneP c (ps.getD i p0) && eB i (fun k=>fitP bad (ps.getD i p0) (ps.getD k p0))
def gM (c:List Int)(bad:Int)(ps:List Ppl):Bool:=eB ps.length (gu c bad ps) && decide ((ps.length:Int)≤220)
def don (c:List Int)(p:Ppl):Bool:=decide (quo c≤lL c p.members)
def knw (c:List Int)(ps:List Ppl)(v:Vtx):Bool:=ps.any fun p=>don c p && kV p.v v
def pg (c:List Int)(ps:List Ppl)(g:List Vtx):Bool:=g.all (knw c ps) && graS c g
def gk (c:List Int)(bad:Int)(ps:List Ppl)(gs:List (List Vtx)):Bool:=eB gs.length fun i=>pg c ps (gs.getD i []) && (!((i:Int)==bad)||(gs.getD i []).isEmpty)
def j6 (bad:Int)(gs:List (List Vtx))(p:Ppl)(m:Nat):Bool:=!((m:Int) !=bad && ((m:Int)==p.v.author||p.members.contains (m:Int)))||parOK (gs.getD m []) p.v
def pL (bad:Int)(ps:List Ppl)(gs:List (List Vtx)):Bool:=ps.all fun p=>eB gs.length (j6 bad gs p)
def kT (w:Wrl):Bool:=iK w.com w.lead w.bad && ((w.views.length==w.com.length) && (gM w.com w.bad w.props && (gk w.com w.bad w.props w.views && pL w.bad w.props w.views)))
def aT (g:List Vtx):List (Option Vtx):=g.foldl (fun t v=>t.set (v.round*7+v.author).toNat (some v)) (List.replicate 217 none)
theorem jc (g:List Vtx)(v:Vtx):aT (g++[v])=(aT g).set (v.round*7+v.author).toNat (some v):=by simp[aT]
theorem d6 (g:List Vtx):(aT g).length=217:=by
 induction g using cj with
 |h0=>exact iA
 |h l x ih=>rw[jc,jt,ih]
theorem rR {g:List Vtx}(hg:∀v∈g,ji v){r a:Int}(hr:0≤r∧r≤30)(ha:0≤a∧a≤6):((aT g).getD (r*7+a).toNat none).isSome=eg g r a:=by
 induction g using cj with
 |h0=>
  have:(aT []).getD (r*7+a).toNat none=none:=by
   simp only[aT,List.foldl_nil,ar,mE]
   split<;>rfl
  rw[this]
  rfl
 |h l x ih=>
  have ih:=ih fun v hv=>hg v (bh.2 (.inl hv))
  obtain⟨⟨x1,x2⟩,x3,x4⟩:=hg x (by simp)
  have hl:=d6 l
  have hh:eg (l++[x]) r a=(eg l r a||e9 r a x):=by simp[eg]
  rw[jc,hh,ar,dp]
  by_cases he:x.round=r∧x.author=a
  ·have:e9 r a x=true:=by simp[e9,he.1,he.2]
   rw[this,Bool.or_true,if_pos (by rw[he.1,he.2]),if_pos (by omega)]
   rfl
  ·have:e9 r a x=false:=by
    rw[ck]
    intro h
    simp only[e9,az,beq_iff_eq,decide_eq_true_eq] at h
    exact he (by omega)
   rw[this,kf,if_neg (by omega),←ar,ih]
def qV (tab:List (Option Vtx))(v:Vtx):Bool:=v.parents.all fun p=>(tab.getD ((v.round-1)*7+p).toNat none).isSome
theorem r7 {α:Type}{l:List α}{p q:α→Bool}(h:∀x∈l,p x=q x):l.all p=l.all q:=by
 rw[dR,aM,aM]
 exact⟨fun h2 x hx=>by rw[←h x hx];exact h2 x hx,fun h2 x hx=>by rw[h x hx];exact h2 x hx⟩
theorem Cr {g:List Vtx}(hg:∀v∈g,ji v){v:Vtx}(hr:v.parents≠[]→1≤v.round∧v.round≤31)(hp:∀p∈v.parents,0≤p∧p≤6):qV (aT g) v=parOK g v:=
 r7 fun p h=>by
  have:=hr (List.ne_nil_of_mem h)
  exact rR hg (by omega) (hp p h)
def M0 (b:Int)(tabs:List (List (Option Vtx)))(v:Vtx)(ms:List Int):Bool:=ms.all fun m=>m==b||qV (tabs.getD m.toNat []) v
def xW (b:Int)(tabs:List (List (Option Vtx)))(ps:List Ppl):Bool:=ps.all fun p=>M0 b tabs p.v (p.v.author::p.members)
def Ob (n:Nat)(p:Ppl):Prop:=(∀m∈p.v.author::p.members,0≤m∧m<n)∧(p.v.parents≠[]→1≤p.v.round∧p.v.round≤31)∧(∀q∈p.v.parents,0≤q∧q≤6)∧p.members.length≤1000000∧p.v.parents.length≤1000000
theorem LO {b:Int}{gs:List (List Vtx)}{ps:List Ppl}(hg:∀g∈gs,∀v∈g,ji v)(hp:∀p∈ps,Ob gs.length p):xW b (gs.map aT) ps=pL b ps gs:=
 r7 fun p h=>by
  obtain⟨p1,p2,p3,-⟩:=hp p h
  have key:∀m:Nat,m<gs.length→qV ((gs.map aT).getD m []) p.v=parOK (gs.getD m []) p.v:=fun m hm=>by
   have e:(gs.map aT).getD m []=aT (gs.getD m []):=by simp only[ar,bf,am hm,aI,d7]
   rw[e]
   refine Cr (hg _ ?_) p2 p3
   rw[ar,am hm]
   exact be hm
  rw[dR,bD]
  simp only[M0,aM,cN,beq_iff_eq]
  constructor
  ·intro h1 m hm
   simp only[j6,cN,fO,nD]
   by_cases hb:(m:Int)=b
   ·exact .inl (.inl (by simp[hb]))
   by_cases hv:(m:Int)=p.v.author∨(m:Int)∈p.members
   ·rcases h1 (m:Int) (aK.2 hv) with h2|h2
    ·exact absurd h2 hb
    ·rw[pm,key m hm] at h2
     exact .inr h2
   ·refine .inl (.inr ?_)
    rw[ck]
    intro h2
    simp only[cN,beq_iff_eq,iz] at h2
    exact hv h2
  ·intro h1 m hm
   have hr:=p1 m hm
   have h2:=h1 m.toNat (by omega)
   simp only[j6,cN,fO,nD,Int.toNat_of_nonneg hr.1] at h2
   rcases h2 with(h2|h2)|h2
   ·exact .inl (by simpa using h2)
   ·exfalso
    rw[ck] at h2
    apply h2
    simp only[cN,beq_iff_eq,iz]
    exact aK.1 hm
   ·rw[key m.toNat (by omega)]
    exact .inr h2
def fQ (tab:List (Option Vtx)):List Vtx:=tab.filterMap id
theorem rg:∀{l:List (Option Vtx)},(∀x∈l,x=none)→l.filterMap id=[]
 |[],_=>rfl
 |x::l,h=>by
  rw[h x (bm ..),List.filterMap_cons_none rfl]
  exact rg fun y hy=>h y (bB _ hy)
theorem vD (l:List (Option Vtx))(y:Vtx):(some y::l).filterMap id=y::l.filterMap id:=List.filterMap_cons_some (f:=id) rfl
theorem EF:∀{l:List (Option Vtx)} {k:Nat} {v:Vtx},k<l.length→(∀j,k≤j→l.getD j none=none)→(l.set k (some v)).filterMap id=l.filterMap id++[v]
 |[],_,_,h,_=>absurd h (Nat.not_lt_zero _)
 |x::l,0,v,_,h=>by
  have hn:∀y∈x::l,y=none:=fun y hy=>by
   obtain⟨j,hj,rfl⟩:=dZ (d:=none) hy
   exact h j (aX _)
  rw[rg hn,List.set_cons_zero,vD,rg fun y hy=>hn y (bB _ hy)]
  rfl
 |x::l,k+1,v,hk,h=>by
  have ih:=EF (l:=l) (k:=k) (v:=v) (by simpa using hk) fun j hj=>by
   have:=h (j+1) (by omega)
   simpa using this
  rw[List.set_cons_succ]
  cases x with
  |none=>rw[List.filterMap_cons_none rfl,List.filterMap_cons_none rfl,ih]
  |some y=>rw[vD,vD,ih];rfl
theorem Dr {g:List Vtx}{j:Nat}(h:∀v∈g,(v.round*7+v.author).toNat≠j):(aT g).getD j none=none:=by
 induction g using cj with
 |h0=>
  simp only[aT,List.foldl_nil,ar,mE]
  split<;>rfl
 |h l x ih=>
  rw[jc,ar,nT (h x (by simp)),←ar]
  exact ih fun v hv=>h v (bh.2 (.inl hv))
theorem JI {g:List Vtx}(hg:∀v∈g,ji v)(hs:g.Pairwise fun a b=>bef a b=true):fQ (aT g)=g:=by
 induction g using cj with
 |h0=>exact rg fun x hx=>qj hx
 |h l x ih=>
  obtain⟨s1,-,s3⟩:=qk.1 hs
  have ih:=ih (fun v hv=>hg v (bh.2 (.inl hv))) s1
  obtain⟨⟨x1,x2⟩,x3,x4⟩:=hg x (by simp)
  rw[jc,fQ,EF (by rw[d6];omega) fun j hj=>Dr fun v hv=>?_]
  ·exact congrArg (· ++[x]) ih
  ·have hb:=s3 v hv x (by simp)
   obtain⟨⟨v1,v2⟩,v3,v4⟩:=hg v (bh.2 (.inl hv))
   simp only[bef,cN,az,decide_eq_true_eq] at hb
   omega
def gq (w:Wrl):Bool:=iK w.com w.lead w.bad && (gM w.com w.bad w.props && ((w.views.length==w.com.length) && gk w.com w.bad w.props w.views))
theorem nu (w:Wrl):kT w=(gq w && pL w.bad w.props w.views):=by
 simp only[kT,gq]
 cases iK w.com w.lead w.bad<;>cases (w.views.length==w.com.length)<;>cases gM w.com w.bad w.props<;>cases gk w.com w.bad w.props w.views<;>simp
theorem nR {w:Wrl}(h:gq w=true):comV w.com=true∧leaS w.com w.lead=true∧badS w.com w.bad=true∧gM w.com w.bad w.props=true∧w.views.length=w.com.length∧gk w.com w.bad w.props w.views=true:=by
 simp only[gq,iK,az,beq_iff_eq] at h
 obtain⟨⟨h1,h2,h3⟩,h4,h5,h6⟩:=h
 exact⟨h1,h2,h3,h4,h5,h6⟩
theorem Bv {c:List Int}{g:List Vtx}(h:graS c g=true):∀v∈g,vtxS c v=true:=by
 intro v hv
 obtain⟨j,hj,rfl⟩:=dZ (d:=v0) hv
 simp only[graS,az,bD] at h
 have:=h.2 j hj
 simp only[jN,az] at this
 exact this.1
theorem B3 {w:Wrl}(h:gq w=true):∀g∈w.views,graS w.com g=true:=by
 obtain⟨-,-,-,-,-,h6⟩:=nR h
 intro g hg
 obtain⟨j,hj,rfl⟩:=dZ (d:=[]) hg
 simp only[gk,bD,az] at h6
 have:=(h6 j hj).1
 simp only[pg,az] at this
 exact this.2
theorem nO {α:Type}[BEq α][LawfulBEq α]:∀{a b:List α},a.Nodup→a⊆b→a.length≤b.length
 |[],_,_,_=>aX _
 |x::a,b,h,hs=>by
  rw[List.nodup_cons] at h
  have hx:x∈b:=hs (bm ..)
  have:=nO (b:=b.erase x) h.2 fun y hy=>by
   have hne:y≠x:=fun e=>h.1 (e▸hy)
   exact(List.mem_erase_of_ne hne).2 (hs (bB _ hy))
  rw[List.length_erase_of_mem hx] at this
  have:=List.length_pos_of_mem hx
  simp only[bF]
  omega
theorem kA {c ms:List Int}(h:en c ms=true):ms.length≤c.length:=by
 have h1:=dE h
 have h2:ms⊆(List.range c.length).map fun n:Nat=>(n:Int):=fun m hm=>by
  have:=h1 m hm
  rw[aB]
  exact⟨m.toNat,by rw[eN];omega,by omega⟩
 have h3:ms.Nodup:=(jo h).imp fun hab=>by omega
 have:=nO h3 h2
 simpa using this
theorem ph {c:List Int}{v:Vtx}(hc:comV c=true)(h:vtxS c v=true):v.parents.length≤7:=by
 obtain⟨-,-,h3,-⟩:=bG h
 have:=kA h3
 have:=(ay.1 hc).2
 omega
theorem oS {w:Wrl}(h:gq w=true):∀g∈w.views,∀v∈g,ji v∧v.parents.length≤1000:=fun g hg v hv=>by
 have hc:=(nR h).1
 have h1:=Bv (B3 h g hg) v hv
 exact⟨dm hc h1,by have:=ph hc h1;omega⟩
theorem rG {c:List Int}{b:Int}{ps:List Ppl}(h:gM c b ps=true):∀p∈ps,oneP c p=true:=by
 intro p hp
 obtain⟨j,hj,rfl⟩:=dZ (d:=p0) hp
 simp only[gM,az,bD] at h
 have:=h.1 j hj
 simp only[gu,az] at this
 exact this.1
theorem m8 {c:List Int}{b:Int}{ps:List Ppl}(h:gM c b ps=true):ps.length≤220:=by
 simp only[gM,az,decide_eq_true_eq] at h
 omega
theorem IO {c:List Int}{p:Ppl}(hc:comV c=true)(h:oneP c p=true):Ob c.length p:=by
 simp only[oneP,az] at h
 obtain⟨h1,h2⟩:=h
 have h7:=(ay.1 hc).2
 have hl:=ph hc h1
 obtain⟨v1,v2,v3,v4,v5,v6⟩:=bG h1
 have hml:=kA h2
 refine⟨fun m hm=>?_,fun hne=>?_,fun q hq=>?_,by omega,by omega⟩
 ·rcases aK.1 hm with rfl|hm
  ·omega
  ·exact dE h2 m hm
 ·by_cases h0:p.v.round=0
  ·exact absurd (v5 h0) hne
  ·omega
 ·have:=dE v3 q hq
  omega
theorem rF {w:Wrl}(h:gq w=true):∀p∈w.props,Ob w.views.length p:=by
 obtain⟨hc,-,-,h4,h5,-⟩:=nR h
 rw[h5]
 exact fun p hp=>IO hc (rG h4 p hp)
theorem F8 {w:Wrl}(h:gq w=true):xW w.bad (w.views.map aT) w.props=pL w.bad w.props w.views:=
 LO (fun g hg v hv=>(oS h g hg v hv).1) (rF h)
structure WOK (w:Wrl):Prop where
 com:comV w.com=true
 lead:leaS w.com w.lead=true
 bad:badS w.com w.bad=true
 one:∀p∈w.props,oneP w.com p=true
 fit:w.props.Pairwise fun q p=>fitP w.bad p q=true
 plen:w.props.length≤220
 vlen:w.views.length=w.com.length
 gra:∀g∈w.views,graS w.com g=true
 knw:∀g∈w.views,∀v∈g,∃p∈w.props,don w.com p=true∧p.v=v
 bv:∀i:Nat,i<w.views.length→(i:Int)=w.bad→w.views.getD i []=[]
 kp:∀p∈w.props,∀m:Nat,m<w.views.length→(m:Int)≠w.bad→((m:Int)=p.v.author∨(m:Int)∈p.members)→parOK (w.views.getD m []) p.v=true
theorem BJ {c:List Int}{ps:List Ppl}{v:Vtx}:knw c ps v=true↔∃p∈ps,don c p=true∧p.v=v:=by
 simp only[knw,eZ,az,pe]
theorem xX {b:Int}{ps:List Ppl}{gs:List (List Vtx)}:pL b ps gs=true↔∀p∈ps,∀m:Nat,m<gs.length→(m:Int)≠b→((m:Int)=p.v.author∨(m:Int)∈p.members)→parOK (gs.getD m []) p.v=true:=by
 simp only[pL,aM,bD,j6,cN,fO,nD,bne_eq_false_iff_eq,Bool.or_eq_false_iff,beq_eq_false_iff_ne]
 constructor
 ·intro h p hp m hm hb hv
  rcases h p hp m hm with(h1|h1)|h1
  ·exact absurd h1 hb
  ·rcases hv with hv|hv
   ·exact absurd hv h1.1
   ·have:=h1.2
    rw[iz.2 hv] at this
    cases this
  ·exact h1
 ·intro h p hp m hm
  by_cases hb:(m:Int)=b
  ·exact .inl (.inl hb)
  by_cases hv:(m:Int)=p.v.author∨(m:Int)∈p.members
  ·exact .inr (h p hp m hm hb hv)
  ·refine .inl (.inr ⟨fun h=>hv (.inl h),?_⟩)
   rw[ck]
   exact fun h=>hv (.inr (iz.1 h))
theorem yq {c:List Int}{b:Int}{ps:List Ppl}:gM c b ps=true↔(∀p∈ps,oneP c p=true)∧(ps.Pairwise fun q p=>fitP b p q=true)∧ps.length≤220:=by
 constructor
 ·intro h
  refine⟨rG h,?_,m8 h⟩
  simp only[gM,az,bD] at h
  rw[qO]
  intro i j hi hj hij
  have:=h.1 j hj
  simp only[gu,az,bD] at this
  have:=this.2 i hij
  simpa[ar,am hi,am hj] using this
 ·rintro⟨h1,h2,h3⟩
  simp only[gM,az,bD,decide_eq_true_eq]
  refine⟨fun j hj=>?_,by omega⟩
  simp only[gu,az,bD]
  refine⟨h1 _ (fA hj),fun i hi=>?_⟩
  have:=qO.1 h2 i j (by omega) hj hi
  simpa[ar,am hj,am (show i<ps.length by omega)] using this
theorem yS {c:List Int}{b:Int}{ps:List Ppl}{gs:List (List Vtx)}:gk c b ps gs=true↔(∀g∈gs,graS c g=true)∧(∀g∈gs,∀v∈g,knw c ps v=true)∧∀i:Nat,i<gs.length→(i:Int)=b→gs.getD i []=[]:=by
 simp only[gk,bD,pg,az,aM,cN,fO,beq_eq_false_iff_ne,List.isEmpty_iff]
 constructor
 ·intro h
  refine⟨fun g hg=>?_,fun g hg=>?_,fun i hi hb=>?_⟩
  ·obtain⟨j,hj,rfl⟩:=dZ (d:=[]) hg
   exact(h j hj).1.2
  ·obtain⟨j,hj,rfl⟩:=dZ (d:=[]) hg
   exact(h j hj).1.1
  ·rcases (h i hi).2 with h1|h1
   ·exact absurd hb h1
   ·exact h1
 ·rintro⟨h1,h2,h3⟩ i hi
  have hm:gs.getD i []∈gs:=fA hi
  refine⟨⟨h2 _ hm,h1 _ hm⟩,?_⟩
  by_cases hb:(i:Int)=b
  ·exact .inr (h3 i hi hb)
  ·exact .inl hb
theorem ig {w:Wrl}:kT w=true↔WOK w:=by
 rw[nu,az]
 constructor
 ·rintro⟨h1,h2⟩
  obtain⟨p1,p2,p3,p4,p5,p6⟩:=nR h1
  obtain⟨q1,q2,q3⟩:=yq.1 p4
  obtain⟨r1,r2,r3⟩:=yS.1 p6
  exact⟨p1,p2,p3,q1,q2,q3,p5,r1,fun g hg v hv=>BJ.1 (r2 g hg v hv),r3,xX.1 h2⟩
 ·intro h
  refine⟨?_,xX.2 h.kp⟩
  have h1:=yq.2 ⟨h.one,h.fit,h.plen⟩
  have h2:=yS.2 ⟨h.gra,fun g hg v hv=>BJ.2 (h.knw g hg v hv),h.bv⟩
  simp[gq,iK,h.com,h.lead,h.bad,h1,h2,h.vlen]
def good (w:Wrl)(m:Int):Bool:=du w.com m && m !=w.bad
def view (w:Wrl)(m:Int):List Vtx:=w.views.getD m.toNat []
def lJ (ps:List Ppl)(m:Int):Int:=ps.foldl (fun n p=>if p.v.author=m then max n (p.v.round+1) else n) 0
def tR (w:Wrl)(v:Vtx):Wrl:={w with props:=w.props++[⟨v,[]⟩]}
def ir (w:Wrl)(m d:Int):Vtx:=⟨iJ w.com (view w m)+1,m,if 0<iJ w.com (view w m)+1 then fx (view w m) (iJ w.com (view w m)) else[],d⟩
def jH (w:Wrl)(m d:Int):Bool:=good w m && (jV d 0 990 && (decide (w.props.length<220) && (decide (lJ w.props m≤(ir w m d).round) && vtxS w.com (ir w m d))))
def eJ (w:Wrl)(m d:Int):Wrl:=if jH w m d then tR w (ir w m d) else w
def fZ:List Int→Int→List Int
 |[],n=>[n]
 |x::l,n=>if x<n then x::fZ l n else if x=n then x::l else n::x::l
def aW (w:Wrl)(i:Int):Ppl:=w.props.getD i.toNat p0
def ml (w:Wrl)(i m:Int):Wrl:={w with props:=w.props.set i.toNat ⟨(aW w i).v,fZ (aW w i).members m⟩}
def ru (w:Wrl)(i:Int):Bool:=jV i 0 (w.props.length-1)
def HH (w:Wrl)(m i:Int):Bool:=(List.range w.props.length).any fun j=>(j:Int) !=i && (slt (w.props.getD j p0).v (aW w i).v && (w.props.getD j p0).members.contains m)
def jI (w:Wrl)(m i:Int):Bool:=good w m && (ru w i && (!HH w m i && parOK (view w m) (aW w i).v))
def eS (w:Wrl)(m i:Int):Wrl:=if jI w m i then ml w i m else w
def gG:List Vtx→Vtx→List Vtx
 |[],v=>[v]
 |x::g,v=>if bef x v then x::gG g v else v::x::g
def fe (w:Wrl)(m i:Int):Bool:=good w m && (ru w i && (don w.com (aW w i) && (!eg (view w m) (aW w i).v.round (aW w i).v.author && parOK (view w m) (aW w i).v)))
def dD (w:Wrl)(m i:Int):Wrl:=if fe w m i then {w with views:=w.views.set m.toNat (gG (view w m) (aW w i).v)} else w
def jz (w:Wrl)(v:Vtx):Bool:=decide (0≤w.bad) && (v.author==w.bad && (vtxS w.com v && (decide (w.props.length<220) && !w.props.any fun p=>kV p.v v)))
def iN (w:Wrl)(v:Vtx):Wrl:=if jz w v then tR w v else w
def lQ (w:Wrl)(i:Int):Bool:=decide (0≤w.bad) && ru w i
def iM (w:Wrl)(i:Int):Wrl:=if lQ w i then ml w i w.bad else w
def jw (w:Wrl)(e:Evt):Wrl:=
 if e.kind=1 then eJ w e.a e.b else if e.kind=2 then eS w e.a e.b else if e.kind=3 then dD w e.a e.b else if e.kind=4 then iN w e.v else if e.kind=5 then iM w e.b else w
theorem rD (ps:List Ppl)(p:Ppl)(m:Int):lJ (ps++[p]) m=if p.v.author=m then max (lJ ps m) (p.v.round+1) else lJ ps m:=by simp only[lJ,List.foldl_append,List.foldl_cons,List.foldl_nil]
theorem FL {ps:List Ppl}{m:Int}:∀p∈ps,p.v.author=m→p.v.round+1≤lJ ps m:=by
 induction ps using cj with
 |h0=>intro p hp;cases hp
 |h l x ih=>
  intro p hp ha
  rw[rD]
  rcases bh.1 hp with h|h
  ·have:=ih p h ha
   split<;>omega
  ·obtain rfl:=aZ.1 h
   rw[if_pos ha]
   omega
theorem FE (c:List Int):en c []=true:=rfl
theorem Hp {ps:List Ppl}{b:Int}{p:Ppl}(h:ps.Pairwise fun q p=>fitP b p q=true)(hn:∀q∈ps,fitP b p q=true):(ps++[p]).Pairwise fun q p=>fitP b p q=true:=
 qk.2 ⟨h,by simp,fun q hq p' hp'=>by obtain rfl:=aZ.1 hp';exact hn q hq⟩
theorem ED {b:Int}{p q:Ppl}(h:¬(p.v.round=q.v.round∧p.v.author=q.v.author)):fitP b p q=true:=by
 have:slt p.v q.v=false:=by rw[ck];exact fun h2=>h (rO.1 h2)
 simp[fitP,this]
theorem AS {w:Wrl}(h:WOK w){v:Vtx}(h1:vtxS w.com v=true)(h2:w.props.length<220)(h3:∀q∈w.props,fitP w.bad ⟨v,[]⟩ q=true)
  (h4:∀m:Nat,m<w.views.length→(m:Int)≠w.bad→(m:Int)=v.author→parOK (w.views.getD m []) v=true):WOK (tR w v) where
 com:=h.com
 lead:=h.lead
 bad:=h.bad
 one p hp:=by
  rcases bh.1 hp with hp|hp
  ·exact h.one p hp
  ·obtain rfl:=aZ.1 hp
   simp only[tR,oneP,h1,FE,Bool.and_self]
 fit:=Hp h.fit h3
 plen:=by simp only[tR,aP,mF];omega
 vlen:=h.vlen
 gra:=h.gra
 knw g hg u hu:=by
  obtain⟨p,hp,h5⟩:=h.knw g hg u hu
  exact⟨p,bh.2 (.inl hp),h5⟩
 bv:=h.bv
 kp p hp m hm hb hv:=by
  rcases bh.1 hp with hp|hp
  ·exact h.kp p hp m hm hb hv
  ·obtain rfl:=aZ.1 hp
   rcases hv with hv|hv
   ·exact h4 m hm hb hv
   ·cases hv
theorem we {w:Wrl}(h:WOK w)(m d:Int):WOK (eJ w m d):=by
 unfold eJ
 split
 rotate_left
 ·exact h
 rename_i hb
 simp only[jH,az,decide_eq_true_eq] at hb
 obtain⟨-,-,h1,h2,h3⟩:=hb
 refine AS h h3 h1 (fun q hq=>ED fun hs=>?_) fun k hk _ hka=>?_
 ·have:=FL q hq (m:=m) hs.2.symm
  have:=hs.1
  dsimp only at this
  omega
 ·have hka:(k:Int)=m:=hka
  have hv:w.views.getD k []=view w m:=by unfold view;rw[←hka];rfl
  rw[hv,ee]
  intro p hp
  have hp:p∈if 0<iJ w.com (view w m)+1 then fx (view w m) (iJ w.com (view w m)) else[]:=hp
  split at hp
  ·have hr:(ir w m d).round-1=iJ w.com (view w m):=by simp only[ir];omega
   rw[hr]
   exact se.1 hp
  ·cases hp
theorem Ce {w:Wrl}(h:WOK w)(v:Vtx):WOK (iN w v):=by
 unfold iN
 split
 rotate_left
 ·exact h
 rename_i hb
 simp only[jz,az,decide_eq_true_eq,beq_iff_eq,fO] at hb
 obtain⟨h0,h1,h2,h3,h4⟩:=hb
 refine AS h h2 h3 (fun q hq=>?_) fun k _ hk hka=>absurd (hka.trans h1) hk
 have hne:kV v q.v=false:=by
  rw[ck]
  intro he
  rw[pe] at he
  have:(w.props.any fun p=>kV p.v v)=true:=eZ.2 ⟨q,hq,by rw[he];exact G2 _⟩
  rw[h4] at this
  cases this
 have ha:(v.author==w.bad)=true:=by simpa using h1
 simp[fitP,hne,ha,n6]
theorem lZ {l:List Int}{n x:Int}:x∈fZ l n↔x=n∨x∈l:=by
 induction l with
 |nil=>simp[fZ]
 |cons y l ih=>
  unfold fZ
  split
  ·simp only[aK,ih]
   constructor
   ·rintro(h|h|h)
    ·exact .inr (.inl h)
    ·exact .inl h
    ·exact .inr (.inr h)
   ·rintro(h|h|h)
    ·exact .inr (.inl h)
    ·exact .inl h
    ·exact .inr (.inr h)
  ·split
   ·rename_i h1 h2
    simp only[aK,h2]
    constructor
    ·intro h;exact .inr h
    ·rintro(h|h)
     ·exact .inl h
     ·exact h
   ·simp only[aK]
theorem Fj {l:List Int}{n:Int}(h:l.Pairwise (· < ·)):(fZ l n).Pairwise (· < ·):=by
 induction l with
 |nil=>simp[fZ]
 |cons y l ih=>
  rw[iB] at h
  unfold fZ
  split
  ·rw[iB]
   refine⟨fun x hx=>?_,ih h.2⟩
   rcases lZ.1 hx with rfl|hx
   ·assumption
   ·exact h.1 x hx
  ·split
   ·exact iB.2 h
   ·rw[iB,iB]
    refine⟨fun x hx=>?_,h⟩
    rcases aK.1 hx with rfl|hx
    ·omega
    ·have:=h.1 x hx
     omega
theorem C0 {c ms:List Int}{m:Int}(h:en c ms=true)(hm:0≤m∧m<c.length):en c (fZ ms m)=true:=by
 refine BQ (fun x hx=>?_) (Fj (jo h))
 rcases lZ.1 hx with rfl|hx
 ·exact hm
 ·exact dE h x hx
theorem xJ {c:List Int}(hc:comV c=true)(m:Int):∀ms:List Int,lL c ms≤lL c (fZ ms m)
 |[]=>by
  have:0≤c.getD m.toNat 0:=by
   by_cases h:m.toNat<c.length
   ·have:=(ay.1 hc).1 _ (fA (d:=0) h);omega
   ·rw[ar,ep (by omega)];simp
  simpa[lL,fZ] using this
 |y::ms=>by
  have ih:=xJ hc m ms
  have:0≤c.getD m.toNat 0:=by
   by_cases h:m.toNat<c.length
   ·have:=(ay.1 hc).1 _ (fA (d:=0) h);omega
   ·rw[ar,ep (by omega)];simp
  unfold fZ
  simp only[lL] at ih⊢
  split
  ·simp only[bI,List.sum_cons];omega
  ·split
   ·simp
   ·simp only[bI,List.sum_cons];omega
theorem DT {b m:Int}{a c:List Int}(h:m=b∨m∉c):n6 b (fZ a m) c=n6 b a c:=by
 rw[dR,n7,n7]
 constructor
 ·rintro⟨x,h1,h2,h3⟩
  rcases lZ.1 h2 with rfl|h2
  ·rcases h with h|h
   ·exact absurd h h1
   ·exact absurd h3 h
  ·exact⟨x,h1,h2,h3⟩
 ·rintro⟨x,h1,h2,h3⟩
  exact⟨x,h1,lZ.2 (.inr h2),h3⟩
theorem Me {α:Type}{R:α→α→Prop}{l:List α}{i:Nat}{x:α}(h:l.Pairwise R)(h1:∀j y,j<i→l[j]?=some y→R y x)(h2:∀j y,i<j→l[j]?=some y→R x y):(l.set i x).Pairwise R:=by
 rw[qO] at h⊢
 intro a b ha hb hab
 rw[jt] at ha hb
 rw[List.getElem_set,List.getElem_set]
 split
 ·rename_i e
  rw[if_neg (by omega)]
  exact h2 b _ (by omega) (am hb)
 ·split
  ·exact h1 a _ (by omega) (am ha)
  ·exact h a b ha hb hab
theorem mem_set {α:Type}{l:List α}{i:Nat}{x y:α}(h:y∈l.set i x):y=x∨y∈l:=by
 rcases List.mem_or_eq_of_mem_set h with h|h
 ·exact .inr h
 ·exact .inl h
theorem lr {w:Wrl}{i:Int}(hi:ru w i=true):i.toNat<w.props.length∧w.props[i.toNat]?=some (aW w i)∧aW w i∈w.props:=by
 have:=aC.1 hi
 have hl:i.toNat<w.props.length:=by omega
 refine⟨hl,?_,fA hl⟩
 unfold aW
 rw[ar,am hl]
 rfl
theorem Cd {w:Wrl}(h:WOK w){i m:Int}(hi:ru w i=true)(hm:0≤m∧m<w.com.length)
  (h1:m=w.bad∨(∀j:Nat,j<w.props.length→(j:Int)≠i→slt (w.props.getD j p0).v (aW w i).v=true→m∉(w.props.getD j p0).members))
  (h2:m=w.bad∨parOK (view w m) (aW w i).v=true):WOK (ml w i m):=by
 obtain⟨hl,hx,hp⟩:=lr hi
 have hir:=aC.1 hi
 have hone:=h.one _ hp
 have key:∀j:Nat,∀q,j≠i.toNat→w.props[j]?=some q→fitP w.bad (aW w i) q=true→fitP w.bad ⟨(aW w i).v,fZ (aW w i).members m⟩ q=true:=fun j q hj hq hf=>by
  unfold fitP at hf⊢
  dsimp only
  cases hs:slt (aW w i).v q.v
  ·simp
  ·rw[hs] at hf
   rw[DT]
   ·exact hf
   ·rcases h1 with h1|h1
    ·exact .inl h1
    ·right
     have:=h1 j (aR.1 hq).1 (by omega) (by rw[b7 hq,yD];exact hs)
     rwa [b7 hq] at this
 have hset:∀y∈w.props,∃z∈(ml w i m).props,z.v=y.v∧(don w.com y=true→don w.com z=true):=fun y hy=>by
  obtain⟨j,hj⟩:=iR hy
  by_cases hji:j=i.toNat
  ·subst hji
   rw[hx] at hj
   obtain rfl:=aq hj
   refine⟨_,List.mem_set hl ..,rfl,fun hd=>?_⟩
   simp only[don,decide_eq_true_eq] at hd⊢
   have:=xJ h.com m (aW w i).members
   omega
  ·refine⟨y,br (i:=j) ?_,rfl,id⟩
   simp only[ml]
   rw[nT (by omega)]
   exact hj
 refine⟨h.com,h.lead,h.bad,fun p hp'=>?_,Me h.fit (fun j y hj hy=>?_) (fun j y hj hy=>?_),by simp only[ml,jt];exact h.plen,h.vlen,h.gra,fun g hg v hv=>?_,h.bv,fun p hp' k hk hb hv=>?_⟩
 ·rcases mem_set hp' with rfl|hp'
  ·simp only[oneP,az] at hone⊢
   exact⟨hone.1,C0 hone.2 hm⟩
  ·exact h.one p hp'
 ·refine key j y (by omega) hy ?_
  exact iL h.fit hj hy hx
 ·rw[pE]
  refine key j y (by omega) hy ?_
  rw[pE]
  exact iL h.fit hj hx hy
 ·obtain⟨p,hp,hd,rfl⟩:=h.knw g hg v hv
  obtain⟨z,hz,hzv,hzd⟩:=hset p hp
  exact⟨z,hz,hzd hd,hzv⟩
 ·rcases mem_set hp' with rfl|hp'
  ·dsimp only at hv⊢
   by_cases hkm:(k:Int)=m
   ·rcases h2 with h2|h2
    ·exact absurd (hkm.trans h2) hb
    ·unfold view at h2
     rw[←hkm] at h2
     exact h2
   ·refine h.kp _ hp k hk hb ?_
    rcases hv with hv|hv
    ·exact .inl hv
    ·rcases lZ.1 hv with hv|hv
     ·exact absurd hv hkm
     ·exact .inr hv
  ·exact h.kp p hp' k hk hb hv
theorem fg {w:Wrl}{m:Int}:good w m=true↔(0≤m∧m<w.com.length)∧m≠w.bad:=by
 simp only[good,du,az,aC,bne_iff_ne]
 omega
theorem wg {w:Wrl}(h:WOK w)(m i:Int):WOK (eS w m i):=by
 unfold eS
 split
 rotate_left
 ·exact h
 rename_i hb
 simp only[jI,az,fO] at hb
 obtain⟨h1,h2,h3,h4⟩:=hb
 refine Cd h h2 (fg.1 h1).1 (.inr fun j hj hji hs hm=>?_) (.inr h4)
 have:HH w m i=true:=by
  refine eZ.2 ⟨j,eN.2 hj,?_⟩
  rw[hs,iz.2 hm]
  simpa using hji
 rw[h3] at this
 cases this
theorem Cc {w:Wrl}(h:WOK w)(i:Int):WOK (iM w i):=by
 unfold iM
 split
 rotate_left
 ·exact h
 rename_i hb
 simp only[lQ,az,decide_eq_true_eq] at hb
 have:=n3.1 h.bad
 exact Cd h hb.2 (by omega) (.inl rfl) (.inl rfl)
theorem ky {g:List Vtx}{v x:Vtx}:x∈gG g v↔x=v∨x∈g:=by
 induction g with
 |nil=>simp[gG]
 |cons y g ih=>
  unfold gG
  split
  ·simp only[aK,ih]
   constructor
   ·rintro(h|h|h)
    ·exact .inr (.inl h)
    ·exact .inl h
    ·exact .inr (.inr h)
   ·rintro(h|h|h)
    ·exact .inr (.inl h)
    ·exact .inl h
    ·exact .inr (.inr h)
  ·simp only[aK]
theorem Ht {a b:Vtx}(h:¬(a.round=b.round∧a.author=b.author))(h2:bef a b=false):bef b a=true:=by
 simp only[bef,cN,az,decide_eq_true_eq,Bool.or_eq_false_iff,nD,decide_eq_false_iff_not] at *
 omega
theorem Ip {g:List Vtx}{v:Vtx}(h:g.Pairwise fun a b=>bef a b=true)(hn:eg g v.round v.author=false):(gG g v).Pairwise fun a b=>bef a b=true:=by
 induction g with
 |nil=>simp[gG]
 |cons y g ih=>
  rw[iB] at h
  have hn2:e9 v.round v.author y=false∧eg g v.round v.author=false:=by simpa[eg] using hn
  unfold gG
  split
  ·rw[iB]
   refine⟨fun x hx=>?_,ih h.2 hn2.2⟩
   rcases ky.1 hx with rfl|hx
   ·assumption
   ·exact h.1 x hx
  ·rename_i hb
   have hvy:bef v y=true:=Ht (fun he=>by
    rw[io.2 he] at hn2
    cases hn2.1) (by simpa using hb)
   rw[iB,iB]
   refine⟨fun x hx=>?_,h⟩
   rcases aK.1 hx with rfl|hx
   ·exact hvy
   ·exact ui hvy (h.1 x hx)
theorem CX {g g':List Vtx}{r a:Int}(h:∀x∈g,x∈g')(hh:eg g r a=true):eg g' r a=true:=by
 obtain⟨v,hv,e⟩:=cF.1 hh
 exact cF.2 ⟨v,h v hv,e⟩
theorem nP {g g':List Vtx}{v:Vtx}(h:∀x∈g,x∈g')(hh:parOK g v=true):parOK g' v=true:=
 ee.2 fun p hp=>CX h (ee.1 hh p hp)
theorem H8 {c:List Int}{g:List Vtx}(h:GraOK c g):graS c g=true:=by
 simp only[graS,az,bD,jN,cN,beq_iff_eq]
 refine⟨h.com,fun i hi=>⟨h.vtx _ (fA hi),?_,h.par _ (fA hi)⟩⟩
 cases i with
 |zero=>exact .inl rfl
 |succ i=>
  right
  exact iL h.pw (show i<i+1 by omega) (by rw[Nat.add_sub_cancel,ar,am (show i<g.length by omega)];rfl) (by rw[ar,am hi];rfl)
theorem Fk {c:List Int}{g:List Vtx}{v:Vtx}(h:graS c g=true)(h1:vtxS c v=true)(h2:eg g v.round v.author=false)(h3:parOK g v=true):graS c (gG g v)=true:=by
 have hg:=fX h
 have hs:∀x∈g,x∈gG g v:=fun x hx=>ky.2 (.inr hx)
 refine H8 ⟨hg.com,fun x hx=>?_,Ip hg.pw h2,fun x hx=>?_⟩
 ·rcases ky.1 hx with rfl|hx
  ·exact h1
  ·exact hg.vtx x hx
 ·rcases ky.1 hx with rfl|hx
  ·exact nP hs h3
  ·exact nP hs (hg.par x hx)
theorem xE {α:Type}{l:List α}{i j:Nat}{x d:α}(hi:i<l.length):(l.set i x).getD j d=if i=j then x else l.getD j d:=by
 simp only[ar,dp]
 split
 ·subst_vars;simp[hi]
 ·rfl
theorem rN {w:Wrl}(h:WOK w)(m i:Int):WOK (dD w m i):=by
 unfold dD
 split
 rotate_left
 ·exact h
 rename_i hb
 simp only[fe,az,fO] at hb
 obtain⟨h1,h2,h3,h4,h5⟩:=hb
 have hg:=fg.1 h1
 obtain⟨hl,hx,hp⟩:=lr h2
 have hone:=h.one _ hp
 simp only[oneP,az] at hone
 have hml:m.toNat<w.views.length:=by rw[h.vlen];omega
 have hvm:view w m∈w.views:=fA hml
 refine⟨h.com,h.lead,h.bad,h.one,h.fit,h.plen,by simp only[jt];exact h.vlen,fun g hg'=>?_,fun g hg' v hv=>?_,fun k hk hkb=>?_,fun p hp' k hk hb hv=>?_⟩
 ·rcases mem_set hg' with rfl|hg'
  ·exact Fk (h.gra _ hvm) hone.1 h4 h5
  ·exact h.gra g hg'
 ·rcases mem_set hg' with rfl|hg'
  ·rcases ky.1 hv with rfl|hv
   ·exact⟨aW w i,hp,h3,rfl⟩
   ·exact h.knw _ hvm v hv
  ·exact h.knw g hg' v hv
 ·simp only[jt] at hk
  have hkb:(k:Int)=w.bad:=hkb
  dsimp only
  rw[xE hml,if_neg (by intro e;apply hg.2;omega)]
  exact h.bv k hk hkb
 ·simp only[jt] at hk
  have:=h.kp p hp' k hk hb hv
  dsimp only
  rw[xE hml]
  split
  ·rename_i e
   subst e
   exact nP (fun x hx=>ky.2 (.inr hx)) this
  ·exact this
theorem Ap {w:Wrl}(h:WOK w)(e:Evt):WOK (jw w e):=by
 unfold jw
 split
 ·exact we h _ _
 split
 ·exact wg h _ _
 split
 ·exact rN h _ _
 split
 ·exact Ce h _
 split
 ·exact Cc h _
 ·exact h
theorem H9 {c:List Int}{g:List Vtx}(h:graS c g=true):g.length≤217:=by
 have hg:=fX h
 have ht:∀v∈g,ji v:=fun v hv=>dm hg.com (hg.vtx v hv)
 have h1:((g.map fun v=>(v.round*7+v.author).toNat)).Nodup:=by
  rw[List.Nodup,mw]
  refine hg.pw.imp_of_mem fun {a b} ha hb hab=>?_
  obtain⟨⟨a1,a2⟩,a3,a4⟩:=ht a ha
  obtain⟨⟨b1,b2⟩,b3,b4⟩:=ht b hb
  simp only[bef,cN,az,decide_eq_true_eq] at hab
  omega
 have h2:=nO h1 (b:=List.range 217) fun k hk=>by
  obtain⟨v,hv,rfl⟩:=aB.1 hk
  obtain⟨⟨a1,a2⟩,a3,a4⟩:=ht v hv
  rw[eN]
  omega
 simpa using h2
theorem BD:∀{l:List Int} {n:Int} {k:Nat},(∀y∈l.take k,y<n)→k≤l.length→(∀y,l[k]?=some y→¬y<n)→fZ l n=if l[k]?=some n then l else l.take k++[n]++l.drop k
 |[],n,k,_,hk,_=>by
  obtain rfl:k=0:=by simpa using hk
  simp[fZ]
 |x::l,n,0,_,_,h=>by
  have hx:=h x rfl
  unfold fZ
  rw[if_neg hx]
  simp
 |x::l,n,k+1,h1,hk,h=>by
  have hx:x<n:=h1 x (by simp)
  unfold fZ
  rw[if_pos hx,BD (l:=l) (k:=k) (fun y hy=>h1 y (by simp[hy])) (by simpa using hk) (fun y hy=>h y (by simpa using hy))]
  simp only[List.getElem?_cons_succ]
  split<;>simp
theorem BE:∀{g:List Vtx} {v:Vtx} {k:Nat},(∀y∈g.take k,bef y v=true)→k≤g.length→(∀y,g[k]?=some y→bef y v=false)→gG g v=g.take k++[v]++g.drop k
 |[],v,k,_,hk,_=>by
  obtain rfl:k=0:=by simpa using hk
  simp[gG]
 |x::g,v,0,_,_,h=>by
  have hx:=h x rfl
  unfold gG
  rw[if_neg (by rw[hx];simp)]
  simp
 |x::g,v,k+1,h1,hk,h=>by
  have hx:bef x v=true:=h1 x (by simp)
  unfold gG
  rw[if_pos hx,BE (g:=g) (k:=k) (fun y hy=>h1 y (by simp[hy])) (by simpa using hk) (fun y hy=>h y (by simpa using hy))]
  simp
theorem xK (g:List Vtx)(v:Vtx):(gG g v).length=g.length+1:=by
 induction g with
 |nil=>rfl
 |cons x g ih=>unfold gG;split<;>simp[ih]
theorem FK {ps:List Ppl}{m:Int}(h:∀p∈ps,0≤p.v.round∧p.v.round≤30):0≤lJ ps m∧lJ ps m≤31:=by
 induction ps using cj with
 |h0=>simp[lJ]
 |h l x ih=>
  have ih:=ih fun p hp=>h p (bh.2 (.inl hp))
  have hx:=h x (by simp)
  rw[rD]
  split<;>omega
theorem WOK.len {w:Wrl}(h:WOK w):1≤w.com.length∧w.com.length≤7:=(ay.1 h.com).2
theorem WOK.vl {w:Wrl}(h:WOK w):∀g∈w.views,g.length≤217:=fun g hg=>H9 (h.gra g hg)
theorem WOK.vv {w:Wrl}(h:WOK w):∀g∈w.views,∀v∈g,vtxS w.com v=true:=fun g hg=>Bv (h.gra g hg)
theorem WOK.pv {w:Wrl}(h:WOK w):∀p∈w.props,vtxS w.com p.v=true∧en w.com p.members=true:=fun p hp=>by
 have:=h.one p hp
 simpa only[oneP,az] using this
theorem WOK.par {w:Wrl}(h:WOK w){v:Vtx}(hv:vtxS w.com v=true):v.parents.length≤7:=ph h.com hv
theorem WOK.mem {w:Wrl}(h:WOK w):∀p∈w.props,p.members.length≤7:=fun p hp=>by
 have:=kA (h.pv p hp).2
 have:=h.len
 omega
theorem WOK.view {w:Wrl}(h:WOK w){m:Int}(hm:good w m=true):w.views[m.toNat]?=some (view w m)∧view w m∈w.views∧m.toNat<w.views.length:=by
 have hg:=fg.1 hm
 have hl:m.toNat<w.views.length:=by rw[h.vlen];omega
 refine⟨?_,fA hl,hl⟩
 unfold Am.view
 rw[ar,am hl]
 rfl
def fN (w:Wrl):Nat:=(w.views.map List.length).sum
theorem Ju {l:List (List Vtx)}{i:Nat}{g x:List Vtx}(h:l[i]?=some g)(hx:x.length=g.length+1):((l.set i x).map List.length).sum=(l.map List.length).sum+1:=by
 induction l generalizing i with
 |nil=>simp at h
 |cons y l ih=>
  cases i with
  |zero=>
   simp only[iQ,aw] at h
   subst h
   simp only[List.set_cons_zero,bI,List.sum_cons,hx]
   omega
  |succ i=>
   simp only[List.set_cons_succ,bI,List.sum_cons]
   rw[ih (by simpa using h)]
   omega
theorem lw {w:Wrl}(h:WOK w)(m i:Int):(fe w m i=false∧dD w m i=w)∨(fe w m i=true∧fN (dD w m i)=fN w+1):=by
 cases hb:fe w m i
 ·exact .inl ⟨rfl,by simp[dD,hb]⟩
 ·refine .inr ⟨rfl,?_⟩
  have hg:good w m=true:=by
   simp only[fe,az] at hb
   exact hb.1
  have:=Ju (h.view hg).1 (xK (view w m) (aW w i).v)
  simpa[dD,hb,fN] using this
theorem oZ (w:Wrl)(m i:Int):(dD w m i).com=w.com∧(dD w m i).props=w.props∧(dD w m i).bad=w.bad∧(dD w m i).lead=w.lead:=by
 unfold dD
 split<;>exact⟨rfl,rfl,rfl,rfl⟩
theorem ww {w:Wrl}(h:WOK w):fN w≤1519:=by
 have h1:∀l:List (List Vtx),(∀g∈l,g.length≤217)→(l.map List.length).sum≤217*l.length:=by
  intro l
  induction l with
  |nil=>intro _;simp
  |cons x l ih=>
   intro hl
   have:=ih fun g hg=>hl g (bB _ hg)
   have:=hl x (bm ..)
   simp only[bI,List.sum_cons,bF]
   omega
 have:=h1 w.views h.vl
 have:=h.vlen
 have:=h.len
 unfold fN
 omega
def dN (w:Wrl)(i:Int):Nat→Wrl
 |0=>w
 |n+1=>dD (dN w i n) n i
theorem lU {w:Wrl}(h:WOK w)(i:Int):∀n,WOK (dN w i n)
 |0=>h
 |n+1=>rN (lU h i n) _ _
theorem kk (w:Wrl)(i:Int):∀n,(dN w i n).com=w.com∧(dN w i n).props=w.props
 |0=>⟨rfl,rfl⟩
 |n+1=>by
  have h1:=oZ (dN w i n) n i
  have h2:=kk w i n
  exact⟨h1.1.trans h2.1,h1.2.1.trans h2.2⟩
def ce (w:Wrl):Nat→Wrl
 |0=>w
 |k+1=>dN (ce w k) k (ce w k).com.length
theorem kG {w:Wrl}(h:WOK w):∀k,WOK (ce w k)
 |0=>h
 |k+1=>lU (kG h k) _ _
theorem eI (w:Wrl):∀k,(ce w k).com=w.com∧(ce w k).props=w.props
 |0=>⟨rfl,rfl⟩
 |k+1=>by
  have h1:=kk (ce w k) k (ce w k).com.length
  have h2:=eI w k
  exact⟨h1.1.trans h2.1,h1.2.trans h2.2⟩
def pass (w:Wrl):Wrl:=ce w w.props.length
theorem oP {w:Wrl}(h:WOK w):WOK (pass w):=kG h _
def cV (w:Wrl):Wrl:=if h:fN w<fN (pass w)∧fN (pass w)≤1519 then cV (pass w) else pass w
termination_by 1519-fN w
decreasing_by omega
theorem Cf:∀(n:Nat) {w:Wrl},1519-fN w≤n→WOK w→WOK (cV w):=by
 intro n
 induction n with
 |zero=>
  intro w hn h
  rw[cV]
  split
  ·omega
  ·exact oP h
 |succ n ih=>
  intro w hn h
  rw[cV]
  split
  ·exact ih (by omega) (oP h)
  ·exact oP h
def iP (w:Wrl)(i:Int):Nat→Wrl
 |0=>w
 |n+1=>eS (iP w i n) n i
theorem tG {w:Wrl}(h:WOK w)(i:Int):∀n,WOK (iP w i n)
 |0=>h
 |n+1=>wg (tG h i n) _ _
theorem Gw (w:Wrl)(m i:Int):(eS w m i).com=w.com∧(eS w m i).props.length=w.props.length:=by
 unfold eS
 split
 ·exact⟨rfl,by simp[ml]⟩
 ·exact⟨rfl,rfl⟩
theorem np (w:Wrl)(i:Int):∀n,(iP w i n).com=w.com∧(iP w i n).props.length=w.props.length
 |0=>⟨rfl,rfl⟩
 |n+1=>by
  have h1:=Gw (iP w i n) n i
  have h2:=np w i n
  exact⟨h1.1.trans h2.1,h1.2.trans h2.2⟩
def dd (w:Wrl):Nat→Wrl
 |0=>w
 |k+1=>iP (dd w k) k (dd w k).com.length
theorem gT {w:Wrl}(h:WOK w):∀k,WOK (dd w k)
 |0=>h
 |k+1=>tG (gT h k) _ _
theorem fE (w:Wrl):∀k,(dd w k).com=w.com∧(dd w k).props.length=w.props.length
 |0=>⟨rfl,rfl⟩
 |k+1=>by
  have h1:=np (dd w k) k (dd w k).com.length
  have h2:=fE w k
  exact⟨h1.1.trans h2.1,h1.2.trans h2.2⟩
def iw (w:Wrl):Wrl:=dd w w.props.length
def dk (w:Wrl)(r:Nat):Nat→Wrl
 |0=>w
 |n+1=>eJ (dk w r n) n (7*r+n)
theorem oT {w:Wrl}(h:WOK w)(r:Nat):∀n,WOK (dk w r n)
 |0=>h
 |n+1=>we (oT h r n) _ _
theorem Gv (w:Wrl)(m d:Int):(eJ w m d).com=w.com:=by
 unfold eJ
 split<;>rfl
theorem m9 (w:Wrl)(r:Nat):∀n,(dk w r n).com=w.com
 |0=>rfl
 |n+1=>(Gv _ _ _).trans (m9 w r n)
def fk (w:Wrl):Wrl:=cV (iw w)
def Pa (w:Wrl)(r:Nat):Wrl:=fk (dk (fk w) r (fk w).com.length)
def aU (w:Wrl):Nat→Wrl
 |0=>cV w
 |r+1=>Pa (aU w r) r
theorem oY {w:Wrl}(h:WOK w):WOK (fk w):=Cf _ (ax _) (gT h _)
theorem Mj {w:Wrl}(h:WOK w)(r:Nat):WOK (Pa w r):=oY (oT (oY h) _ _)
theorem iX {w:Wrl}(h:WOK w):∀r,WOK (aU w r)
 |0=>Cf _ (ax _) h
 |r+1=>Mj (iX h r) r

end Go.Proofs.YtpefhoohfkeflabGreatDoor.Am
