/- The plain machine with types: regions. The plain machine with types: control. The plain machine with types: what is no more wanted is forgotten. The plain machine with types: what is no more wanted is forgotten, put together. The plain machine with types: loops, results, contracts. From a contract to a row: what a law's call leaves; how an argument reads. The plain machine with types: how the marks are met. The plain machine with types: a variable with a table of nil pointers. The plain machine with types: a cut between two parts. The plain machine: the lock of one goroutine; a function that d -/
import Derived.WalkKit
import Derived.ProofKit
import Derived.OpenShut
import Derived.Carry
import Derived.ChangeSlices
import Derived.ChangeSame
import Derived.Conc.MuLone
import Derived.Defers
import Derived.Test.YtpefhoohfkeflaaGreatDoorRows
import Derived.Lib.Builder
import Derived.Lib.UnsafeStr
import Derived.Lib.Walk
import Derived.Lib.Strings
import Derived.Laws.Externs
import Derived.RegionTactic
import Derived.Shelf.RegionOpenPlain
import Derived.Lib.Slices
import Derived.Lib.AppendStr
import Derived.Laws.IdiomCopy
import Derived.Laws.BitsLemmas
import Derived.Test.YtpefhoohfkeflaaGreatDoorEA4
set_option linter.unusedSimpArgs false
set_option linter.unusedVariables false
set_option maxHeartbeats 1000000
namespace Go.Proofs.YtpefhoohfkeflaaGreatDoor.Am
open Go Go.RowKit
variable {P:Program} {N:Nat}
def vz (a b:List Nat):Bool:=a.all fun x=>!b.contains x
abbrev ui:=List (Nat×List Nat×List Nat)
def ow (dep:List Nat)(fws:ui)(f ws:List Nat):Bool:=
 fws.all fun x=>(vz x.2.2 f && vz x.2.2 ws && vz ws x.2.1)||dep.contains x.1
def Ec (fws:ui)(f ws:List Nat):Bool:=fws.all fun x=>vz x.2.2 f && vz x.2.2 ws && vz ws x.2.1
theorem Ed {dep:List Nat}{fws:ui}{f ws:List Nat}(h:Ec fws f ws=true):ow dep fws f ws=true:=by
 unfold Ec at h
 unfold ow
 rw[aM] at h⊢
 intro x hx
 rw[h x hx]
 rfl
theorem Ee {dep:List Nat}{fws:ui}:ow dep fws [] []=true:=by
 unfold ow
 rw[aM]
 intro x hx
 simp[vz]
def A7 (dep:Unit→List Nat)(fws:ui)(f ws:List Nat)(K:Prop):Prop:=
 match Ec fws f ws with
 |true=>K
 |false=>Mk (ow (dep ()) fws f ws) K
theorem xk {dep:Unit→List Nat}{fws:ui}{f ws:List Nat}{K:Prop}(h:A7 dep fws f ws K):ow (dep ()) fws f ws=true∧K:=by
 unfold A7 at h
 split at h
 ·rename_i e;exact⟨Ed e,h⟩
 ·exact h
def ss (N:Nat)(dst:Option Tmp):Bool:=match dst with|some d=>Nat.blt d N|none=>true
def yA (dst:Option Nat)(v:V)(t:VT):VT:=match dst with|some k=>(k,v)::t|none=>t
theorem rK (dst:Option Nat)(v:V)(t:VT):fW (yA dst v t)=iB dst v.toD (fW t):=by cases dst<;>rfl
def KG (n:Nat):VH→Nat
 |[]=>0
 |(x,_)::u=>bif Nat.ble n x then KG n u+1 else KG n u
def Ge (dst:Option Nat)(v:V)(t:VT)(K:VT→Prop):Prop:=match dst with|some k=>K ((k,v)::t)|none=>K t
theorem yB {dst:Option Nat}{v:V}{t:VT}{K:VT→Prop}(h:Ge dst v t K):K (yA dst v t):=by cases dst<;>exact h
theorem DN {l:List Nat}{b x:Nat}:x∈Kx l b↔x∈l∨x=b:=by
 unfold Kx
 split
 ·rename_i h
  refine⟨.inl,fun h'=>h'.elim id fun e=>?_⟩
  subst e
  simpa using h
 ·simp
theorem uj:∀{bs l:List Nat} {x:Nat},x∈gA l bs↔x∈l∨x∈bs
 |[],l,x=>by simp[gA]
 |b::bs,l,x=>by
  simp only[gA,uj,DN,aA]
  exact or_assoc
def fC (y x:VB)(A B:Prop):Prop:=(y=x∧A)∨B
def tu (h:VH):VH→(VH→List Nat→Prop)→Prop
 |[],K=>K [] []
 |(k,x)::u,K=>match aW h k with
  |some y=>fC y x (tu h u fun r ds=>K r (k::ds)) (tu h u fun r ds=>K ((k,x)::r) ds)
  |none=>tu h u fun r ds=>K ((k,x)::r) ds
def Au (h u:VH)(K:VH→List Nat→Prop):Prop:=match ki (keysV u) with
 |true=>tu h u K
 |false=>K u []
structure SameOK (h u u':VH)(ds:List Nat):Prop where
 sub:∀k∈keysV u',k∈keysV u
 out:∀k∈ds,k∉keysV u'
 rest:∀k∈keysV u,k∉ds→k∈keysV u'
 new:∀g:VH,∀k,k∉ds→look (puts u' g) k=look (puts u g) k
 old:∀g:VH,∀k∈ds,look (puts u g) k=look h k
theorem uR (h u:VH):SameOK h u u []:=⟨fun _ h=>h,(by simp),fun _ h _=>h,fun _ _ _=>rfl,(by simp)⟩
theorem eM (k:Nat)(x:VB)(u:VH):keysV ((k,x)::u)=k::keysV u:=rfl
theorem x9 {u:VH}{k:Nat}(h:k∉keysV u):∀x∈u,x.1≠k:=fun x hx e=>h (by rw[←fp];exact aD.2 ⟨x,hx,e⟩)
theorem tv {h:VH}:∀{u:VH} {K:VH→List Nat→Prop},(keysV u).Nodup→tu h u K→∃u' ds,SameOK h u u' ds∧(∀k∈ds,k∈keysV u)∧K u' ds
 |[],K,_,hk=>⟨[],[],uR h [],by simp,hk⟩
 |(k,x)::u,K,hn,hk=>by
  rw[eM,List.nodup_cons] at hn
  have keep:(tu h u fun r ds=>K ((k,x)::r) ds)→∃u' ds,SameOK h ((k,x)::u) u' ds∧(∀j∈ds,j∈keysV ((k,x)::u))∧K u' ds:=by
   intro hk
   obtain⟨u',ds,s,hd,hk⟩:=tv hn.2 hk
   refine⟨_,ds,⟨fun j hj=>?_,fun j hj hc=>?_,fun j hj hne=>?_,fun g j hj=>s.new _ j hj,fun g j hj=>s.old _ j hj⟩,fun j hj=>by rw[eM];exact bw _ (hd j hj),hk⟩
   ·rw[eM] at hj⊢
    rcases aA.1 hj with e|hj
    ·rw[e];exact bh ..
    ·exact bw _ (s.sub j hj)
   ·rw[eM] at hc
    rcases aA.1 hc with e|hc
    ·exact hn.1 (e▸hd j hj)
    ·exact s.out j hj hc
   ·rw[eM] at hj⊢
    rcases aA.1 hj with e|hj
    ·rw[e];exact bh ..
    ·exact bw _ (s.rest j hj hne)
  simp only[tu] at hk
  split at hk
  ·rename_i y hy
   rw[aS] at hy
   rcases hk with⟨e,hk⟩|hk
   ·subst e
    obtain⟨u',ds,s,hd,hk⟩:=tv hn.2 hk
    refine⟨u',k::ds,⟨fun j hj=>by rw[eM];exact bw _ (s.sub j hj),fun j hj hc=>?_,fun j hj hne=>?_,fun g j hj=>?_,fun g j hj=>?_⟩,fun j hj=>?_,hk⟩
    ·rcases aA.1 hj with e|hj
     ·exact hn.1 (e▸s.sub j hc)
     ·exact s.out j hj hc
    ·rw[eM] at hj
     rcases aA.1 hj with e|hj
     ·exact absurd (e▸bh ..) hne
     ·exact s.rest j hj fun h=>hne (bw _ h)
    ·have hjk:j≠k:=fun e=>hj (e▸bh ..)
     show _=look (puts u (put k y g)) j
     rw[s.new g j fun h=>hj (bw _ h)]
     exact pX u j (by rw[af,if_neg hjk])
    ·show look (puts u (put k y g)) j=_
     rcases aA.1 hj with e|hj
     ·subst e
      rw[aN _ _ _ (x9 hn.1),af,if_pos rfl,hy]
     ·exact s.old _ j hj
    ·rw[eM]
     rcases aA.1 hj with e|hj
     ·rw[e];exact bh ..
     ·exact bw _ (hd j hj)
   ·exact keep hk
  ·exact keep hk
theorem Dr {h u:VH}{K:VH→List Nat→Prop}(hk:Au h u K):∃u' ds,SameOK h u u' ds∧K u' ds:=by
 unfold Au at hk
 split at hk
 ·rename_i e
  obtain⟨u',ds,s,_,hk⟩:=tv (je e) hk
  exact⟨u',ds,s,hk⟩
 ·exact⟨u,[],uR h u,hk⟩
theorem yj {u:HL}{p:Id→Bool}:∀{g:HL} {b:Id},p b=true→look (puts (u.filter fun x=>p x.1) g) b=look (puts u g) b:=by
 induction u with
 |nil=>intro g b _;rfl
 |cons x u ih=>
  intro g b hp
  by_cases hx:p x.1=true
  ·rw[List.filter_cons_of_pos (by exact hx)]
   exact ih hp
  ·rw[List.filter_cons_of_neg (by exact hx),ih hp]
   have hne:b≠x.1:=fun e=>hx (e▸hp)
   exact bX (u:=u) (by rw[af,if_neg hne])
theorem StepOK.same {o:Oper}{t:VT}{h u u':VH}{r:V}{gl ds:List Nat}(hs:StepOK P N o t h r u gl)(s:SameOK h u u' ds):StepOK P N o t h r u' (gl++ds):=by
 obtain⟨uu,hU,hS⟩:=hs
 have hin:∀b:Id,b.1∈ds→look (toH (puts u h)) b=look (toH h) b:=fun b hb=>by rw[ap,ap,s.old h b.1 hb]
 have hout:∀(g:HL) (b:Id),b.1∈ds→look (puts (uu.filter fun x=>!ds.contains x.1.1) g) b=look g b:=fun g b hb=>aN _ _ _ fun x hx e=>by
  have:=(dW.1 hx).2
  rw[e] at this
  simp[hb] at this
 have hnew:∀(g:HL) (b:Id),b.1∉ds→look (puts (uu.filter fun x=>!ds.contains x.1.1) g) b=look (puts uu g) b:=fun g b hb=>yj (p:=fun b=>!ds.contains b.1) (by simp[hb])
 refine⟨uu.filter fun x=>!ds.contains x.1.1,⟨fun b=>?_,fun x hx=>?_⟩,fun f hf t' h' ht ha w0 S A ρ a w hsim=>?_⟩
 ·by_cases hb:b.1∈ds
  ·rw[hout _ b hb,ap,ap,aN _ _ _ (x9 (s.out _ hb))]
  ·rw[hnew _ b hb,hU.1 b,ap,ap,s.new h b.1 hb]
 ·obtain⟨h1,h2⟩:=dW.1 hx
  have h3:=hU.2 x h1
  rw[fp] at h3⊢
  exact s.rest _ h3 (by simpa using h2)
 ·have hw:=hS f (fun k hk=>hf k (ey _ hk)) t' h' ht ha w0 S A ρ a w hsim
  refine Reg.wp_exit_mono (K:=tR P w0 S A N ρ t' h' (puts uu h') a o.dst r.toD) ?_ hw
  rintro a' w' ⟨v,ρ',rfl,hex,q1,q2⟩
  have he:∀b:Id,look (puts (uu.filter fun x=>!ds.contains x.1.1) h') b=look (puts uu h') b:=by
   intro b
   by_cases hb:b.1∈ds
   ·have e1:look (toH h) b=look h' b:=ha b (hf _ (eV _ hb))
    rw[hout _ b hb,←e1,←hin b hb,←hU.1 b]
    exact bX e1
   ·exact hnew _ b hb
  have hL:Live (puts (uu.filter fun x=>!ds.contains x.1.1) h')=Live (puts uu h'):=funext fun b=>by simp only[Live,he]
  have hO:okOf A ρ' (puts (uu.filter fun x=>!ds.contains x.1.1) h') w'=okOf A ρ' (puts uu h') w':=funext fun k=>by simp only[okOf,he]
  refine⟨v,ρ',rfl,hex,q1.congr (fun _=>rfl) he,?_⟩
  rw[hL,hO]
  exact q2
def AN (P:Program)(Θ:TT)(dep:Nat→List Nat)(chk:Bool)(N:Nat)(o:Oper)(k:Nat)(fws:ui)(t:VT)(h:VH)(n:Nat)(K:ui→VSt→Prop):Prop:=
 Chk (ss N o.dst) (GP P Θ o.op t h n fun d u gl=>Ge o.dst d t fun t'=>match u with
  |[]=>(match chk with
   |false=>K fws ⟨t',h,n⟩
   |true=>gh (gA [] gl) fun f=>(match f with
    |[]=>K fws ⟨t',h,n⟩
    |f=>A7 (fun _=>dep k) fws f [] (K ((k,f,[])::fws) ⟨t',h,n⟩)))
  |u=>gU (n+KG n u) fun n'=>match chk with
   |false=>Chk (Ab n' u) (o5 u h fun h'=>K fws ⟨t',h',n'⟩)
   |true=>Au h u fun u ds=>Chk (Ab n' u) (o5 u h fun h'=>gh (gA [] (gl++ds)) fun f=>gh (keysV u) fun ws=>A7 (fun _=>dep k) fws f ws (K ((k,f,ws)::fws) ⟨t',h',n'⟩)))
def uW (N:Nat)(o:Oper)(t:VT)(h:VH)(n:Nat)(K:VSt→Prop):Prop:=Chk (ss N o.dst) (Ge o.dst (.tup []) t fun t'=>K ⟨t',h,n⟩)
def lJ (P:Program)(Θ:TT)(ops:Array Oper)(dep:Nat→List Nat)(chk:Bool)(N:Nat):List Oper→Nat→ui→VSt→(VSt→Prop)→Prop
 |[],_,_,σ,K=>K σ
 |o::l,k,fws,⟨t,h,n⟩,K=>match o.guard with
  |none=>AN P Θ dep chk N o k fws t h n fun fws' σ'=>lJ P Θ ops dep chk N l (k+1) fws' σ' K
  |some (g,want)=>(match(ops[g]?).bind (·.dst) with
   |some s=>bK t s fun v=>(match v with
    | .tt=>(match want with
      |true=>AN P Θ dep chk N o k fws t h n fun fws' σ'=>lJ P Θ ops dep chk N l (k+1) fws' σ' K
      |false=>uW N o t h n fun σ'=>lJ P Θ ops dep chk N l (k+1) fws σ' K)
    | .ff=>(match want with
      |false=>AN P Θ dep chk N o k fws t h n fun fws' σ'=>lJ P Θ ops dep chk N l (k+1) fws' σ' K
      |true=>uW N o t h n fun σ'=>lJ P Θ ops dep chk N l (k+1) fws σ' K)
    | .bool b=>jM b
     (match want with
      |true=>AN P Θ dep chk N o k fws ((s,.tt)::t) h n fun fws' σ'=>lJ P Θ ops dep chk N l (k+1) fws' σ' K
      |false=>uW N o ((s,.tt)::t) h n fun σ'=>lJ P Θ ops dep chk N l (k+1) fws σ' K)
     (match want with
      |false=>AN P Θ dep chk N o k fws ((s,.ff)::t) h n fun fws' σ'=>lJ P Θ ops dep chk N l (k+1) fws' σ' K
      |true=>uW N o ((s,.ff)::t) h n fun σ'=>lJ P Θ ops dep chk N l (k+1) fws σ' K)
    | .tup []=>uW N o t h n fun σ'=>lJ P Θ ops dep chk N l (k+1) fws σ' K
    |_=>False)
   |none=>False)
theorem OpS.congr {o:Oper}{t t':List (Nat×D)}{h h':HL}{d:D}{u:HL}{f:List Nat}(ht:∀x,look t x=look t' x)(hh:∀b,look h b=look h' b)(hd:OpS P N o t h d u f):OpS P N o t' h' d u f:=
 fun t2 h2 e1 e2=>hd t2 h2 (fun x hx=>(sv fun k _=>ht k).trans (e1 x hx)) fun b hb=>(hh b).trans (e2 b hb)
theorem TRun.congr {ops:Array Oper}:∀{L:List (Oper×Rc)} {t t':List (Nat×D)} {h h':HL} {n:Nat},(∀x,look t x=look t' x)→(∀b,look h b=look h' b)→TRun P ops N t h n L→TRun P ops N t' h' n L
 |[],_,_,_,_,_,_,_,_=>trivial
 |(o,r)::L,t,t',h,h',n,he,hh,⟨h1,h2,h3⟩=>by
  refine⟨h1,?_,TRun.congr (fun x=>?_) (fun b=>bX (hh b)) h3⟩
  ·have hg:dA ops t o=dA ops t' o:=oH fun k _=>he k
   rcases h2 with⟨g1,g2⟩|⟨g1,g2⟩
   ·exact .inl ⟨hg▸g1,g2.congr he hh⟩
   ·exact .inr ⟨hg▸g1,g2⟩
  ·rw[fQ,fQ,he x]
def Nd (k:Nat)(pre:List (Oper×Rc))(fws:ui):Prop:=
 pre.length=k∧∀i o r,pre[i]?=some (o,r)→(r.u≠[]∨r.f≠[])→∃f ws,(i,f,ws)∈fws∧(∀x∈r.u,x.1.1∈ws)∧∀x∈r.f,x∈f
theorem qk:∀(k k':Nat) (l:List (Oper×Rc)) (t:List (Nat×D)),kt (fun _=>true) k l t=kt (fun _=>true) k' l t
 |_,_,[],_=>rfl
 |k,k',(o,r)::l,t=>qk (k+1) (k'+1) l _
theorem qj:∀(k k':Nat) (l:List (Oper×Rc)) (t:HL),jy (fun _=>true) k l t=jy (fun _=>true) k' l t
 |_,_,[],_=>rfl
 |k,k',(o,r)::l,t=>qj (k+1) (k'+1) l _
def lW (σ:VSt):Prop:=∀c:Id,σ.n≤c.1→look (toH σ.h) c=none
def Runs (P:Program)(N:Nat)(ops:Array Oper)(dep:Nat→List Nat)(chk:Bool)(l:List Oper)(k:Nat)(fws:ui)(σ σ':VSt):Prop:=
 ∀pre:List (Oper×Rc),(chk=true→Nd k pre fws)→∃L:List (Oper×Rc),L.map (·.1)=l∧TRun P ops N (fW σ.t) (toH σ.h) σ.n L∧
  (∀x,look (fW σ'.t) x=look (kt (fun _=>true) 0 L (fW σ.t)) x)∧(∀x,look (toH σ'.h) x=look (jy (fun _=>true) 0 L (toH σ.h)) x)∧
  lW σ'∧
  (chk=true→∀i j oi ri oj rj,i<k+j→(pre++L)[i]?=some (oi,ri)→L[j]?=some (oj,rj)→(dep (k+j)).contains i=false→(∀x∈ri.u,x.1.1∉rj.f∧∀y∈rj.u,x.1.1≠y.1.1)∧(∀x∈rj.u,x.1.1∉ri.f))
variable {ops:Array Oper} {dep:Nat→List Nat} {chk:Bool}
theorem Runs.nil {k:Nat}{fws:ui}{σ:VSt}(hn:lW σ):Runs P N ops dep chk [] k fws σ σ:=fun pre _=>
 ⟨[],rfl,trivial,fun _=>rfl,fun _=>rfl,hn,fun _ i j oi ri oj rj _ _ hj=>by simp at hj⟩
theorem Runs.congr {l:List Oper}{k:Nat}{fws:ui}{σ τ σ':VSt}(h:Runs P N ops dep chk l k fws τ σ')(ht:∀x,look (fW τ.t) x=look (fW σ.t) x)(hh:τ.h=σ.h)(hn:τ.n=σ.n):Runs P N ops dep chk l k fws σ σ':=by
 intro pre hpre
 obtain⟨L,h1,h2,h3,h4,h5,h6⟩:=h pre hpre
 rw[hh] at h2 h4
 rw[hn] at h2
 exact⟨L,h1,h2.congr ht (fun _=>rfl),fun x=>by rw[h3];exact nv _ L 0 _ _ x (ht x),h4,h5,h6⟩
theorem vA {a b:List Nat}(h:vz a b=true):∀x∈a,x∉b:=by
 intro x hx
 unfold vz at h
 rw[aM] at h
 simpa using h x hx
theorem Runs.step {o:Oper}{l:List Oper}{k:Nat}{fws:ui}{σ σ':VSt}{d:V}{u:VH}{gl:List Nat}{n':Nat}(hg:dA ops (fW σ.t) o=some true)(hd:ss N o.dst=true)(ha:StepOK P N o σ.t σ.h d u gl)(hn:σ.n≤n')(hu:Ab n' u=true)
  (hc:chk=true→ow (dep k) fws gl (keysV u)=true) {fws':ui} (hf:chk=true→fws'=(k,gl,keysV u)::fws∨(fws'=fws∧gl=[]∧u=[])) (h:Runs P N ops dep chk l (k+1) fws' ⟨yA o.dst d σ.t,puts u σ.h,n'⟩ σ'):Runs P N ops dep chk (o::l) k fws σ σ':=by
 intro pre hpre
 obtain⟨uu,hU,hS⟩:=ha
 have hS:=hS gl fun k hk=>hk
 let r:Rc:=⟨d.toD,uu,gl,σ.n,n'⟩
 have huk:∀x∈uu,x.1.1∈keysV u:=fun x hx=>by rw[←fp];exact hU.2 x hx
 obtain⟨L,h1,h2,h3,h4,h5,h6⟩:=h (pre++[(o,r)]) (fun hchk=>by
  obtain⟨q1,q2⟩:=hpre hchk
  refine⟨by simp[q1],fun i o' r' hi hne=>?_⟩
  have hmono:∀x∈fws,x∈fws':=by
   intro x hx
   rcases hf hchk with e|⟨e,_⟩
   ·rw[e];exact bw _ hx
   ·rw[e];exact hx
  rcases ct i pre.length with hlt|hge
  ·rw[db hlt] at hi
   obtain⟨f,ws,a1,a2⟩:=q2 i o' r' hi hne
   exact⟨f,ws,hmono _ a1,a2⟩
  ·rw[fb hge] at hi
   have:i-pre.length=0:=by
    have:=(aQ.1 hi).1
    simpa using this
   rw[this] at hi
   simp only[iV,aw,a7] at hi
   obtain⟨rfl,rfl⟩:=hi
   have hik:i=k:=by omega
   rcases hf hchk with e|⟨_,e1,e2⟩
   ·rw[hik,e]
    exact⟨gl,keysV u,bh ..,huk,fun x hx=>hx⟩
   ·exfalso
    rcases hne with hne|hne
    ·refine hne ?_
     show uu=[]
     cases huu:uu with
     |nil=>rfl
     |cons x l=>have:=huk x (by rw[huu];exact bh ..);rw[e2] at this;cases this
    ·exact hne e1)
 have hdst:∀x,o.dst=some x→x<N:=by
  intro x hx
  simpa[ss,hx,Nat.blt_eq] using hd
 rw[rK] at h2
 have h2':=h2.congr (fun _=>rfl) (fun b=>(hU.1 b).symm)
 refine⟨(o,r)::L,by simp[h1],⟨⟨rfl,hn,fun x hx=>wc hu _ (hU.2 x hx),hdst⟩,.inl ⟨hg,hS⟩,h2'⟩,fun x=>(h3 x).trans ?_,fun x=>(h4 x).trans ?_,h5,fun hchk i j oi ri oj rj hij hi hj hdp=>?_⟩
 ·show look (kt _ 0 L (fW (yA o.dst d σ.t))) x=look (kt _ 1 L (if(fun _=>true) 0=true then _ else _)) x
  simp only[if_true,rK]
  rw[qk 0 1]
 ·show look (jy _ 0 L (toH (puts u σ.h))) x=look (jy _ 1 L (if(fun _=>true) 0=true then _ else _)) x
  simp only[if_true]
  rw[qj 0 1]
  exact nu _ L 1 _ _ x (hU.1 x).symm
 ·cases j with
  |zero=>
   simp only[iV,aw,a7] at hj
   obtain⟨rfl,rfl⟩:=hj
   obtain⟨q1,q2⟩:=hpre hchk
   rw[db (by omega)] at hi
   by_cases hne:ri.u≠[]∨ri.f≠[]
   ·obtain⟨f0,ws0,hm,m1,m2⟩:=q2 i oi ri hi hne
    have hcf:=hc hchk
    unfold ow at hcf
    rw[aM] at hcf
    have:=hcf _ hm
    simp only[jK] at hdp
    simp only[hdp,kq,aB] at this
    obtain⟨⟨c1,c2⟩,c3⟩:=this
    exact⟨fun x hx=>⟨vA c1 _ (m1 x hx),fun y hy he=>vA c2 _ (m1 x hx) (he▸huk y hy)⟩,fun x hx hxf=>vA c3 _ (huk x hx) (m2 _ hxf)⟩
   ·have e1:ri.u=[]:=by
     rcases jJ (ri.u=[]) with h|h
     ·exact h
     ·exact absurd (.inl h) hne
    have e2:ri.f=[]:=by
     rcases jJ (ri.f=[]) with h|h
     ·exact h
     ·exact absurd (.inr h) hne
    rw[e1,e2]
    exact⟨fun x hx=>(by cases hx),fun x hx h=>(by cases h)⟩
  |succ j=>
   refine h6 hchk i j oi ri oj rj (by omega) (by simpa using hi) (by simpa using hj) (by rw[show k+1+j=k+(j+1) by omega];exact hdp)
theorem Runs.skip {o:Oper}{l:List Oper}{k:Nat}{fws:ui}{σ σ':VSt}(hg:dA ops (fW σ.t) o=some false)(hd:ss N o.dst=true)(h:Runs P N ops dep chk l (k+1) fws ⟨yA o.dst (.tup []) σ.t,σ.h,σ.n⟩ σ'):Runs P N ops dep chk (o::l) k fws σ σ':=by
 intro pre hpre
 let r:Rc:=⟨.tup [],[],[],σ.n,σ.n⟩
 obtain⟨L,h1,h2,h3,h4,h5,h6⟩:=h (pre++[(o,r)]) (fun hchk=>by
  obtain⟨q1,q2⟩:=hpre hchk
  refine⟨by simp[q1],fun i o' r' hi hne=>?_⟩
  rcases ct i pre.length with hlt|hge
  ·rw[db hlt] at hi
   exact q2 i o' r' hi hne
  ·rw[fb hge] at hi
   have:i-pre.length=0:=by
    have:=(aQ.1 hi).1
    simpa using this
   rw[this] at hi
   simp only[iV,aw,a7] at hi
   obtain⟨rfl,rfl⟩:=hi
   simp[r] at hne)
 have hdst:∀x,o.dst=some x→x<N:=by
  intro x hx
  simpa[ss,hx,Nat.blt_eq] using hd
 rw[rK] at h2
 refine⟨(o,r)::L,by simp[h1],⟨⟨rfl,ax _,by simp[r],hdst⟩,.inr ⟨hg,rfl,rfl,rfl⟩,h2⟩,fun x=>(h3 x).trans ?_,fun x=>(h4 x).trans ?_,h5,fun hchk i j oi ri oj rj hij hi hj hdp=>?_⟩
 ·show look (kt _ 0 L (fW (yA o.dst (.tup []) σ.t))) x=look (kt _ 1 L (if(fun _=>true) 0=true then _ else _)) x
  simp only[if_true,rK]
  rw[qk 0 1]
  rfl
 ·show look (jy _ 0 L (toH σ.h)) x=look (jy _ 1 L (if(fun _=>true) 0=true then _ else _)) x
  simp only[if_true]
  rw[qj 0 1]
  rfl
 ·cases j with
  |zero=>
   simp only[iV,aw,a7] at hj
   obtain⟨rfl,rfl⟩:=hj
   refine⟨fun x hx=>⟨by simp[r],by simp[r]⟩,by simp[r]⟩
  |succ j=>
   refine h6 hchk i j oi ri oj rj (by omega) (by simpa using hi) (by simpa using hj) (by rw[show k+1+j=k+(j+1) by omega];exact hdp)
theorem wW {gl:List Nat}{o:Oper}{t:VT}{h:VH}{r:V}{u:VH}(hs:StepOK P N o t h r u gl):StepOK P N o t h r u (gA [] gl):=fS hs fun k hk=>uj.2 (.inr hk)
theorem JH {Θ:TT}(hΘ:Θ.ok P){o:Oper}{k:Nat}{fws:ui}{σ:VSt}(hfr:lW σ){K:ui→VSt→Prop}(h:AN P Θ dep chk N o k fws σ.t σ.h σ.n K):
  ∃(d:V) (u:VH) (gl:List Nat) (n':Nat) (fws':ui),ss N o.dst=true∧StepOK P N o σ.t σ.h d u gl∧σ.n≤n'∧Ab n' u=true∧(chk=true→ow (dep k) fws gl (keysV u)=true)∧
   (chk=true→fws'=(k,gl,keysV u)::fws∨(fws'=fws∧gl=[]∧u=[]))∧K fws' ⟨yA o.dst d σ.t,puts u σ.h,n'⟩:=by
 obtain⟨hd,h1⟩:=Chk.ok h
 obtain⟨d,u,gl,ha0,h2⟩:=GQ (N:=N) hΘ hfr h1
 have ha:=wW ha0
 have h3:=yB h2
 split at h3
 ·split at h3
  ·exact⟨d,[],_,σ.n,fws,hd,ha,ax _,rfl,fun hc=>(by cases hc),fun hc=>(by cases hc),h3⟩
  ·have h4:=cy h3
   split at h4
   ·rename_i e
    exact⟨d,[],_,σ.n,fws,hd,ha,ax _,rfl,fun _=>by rw[e];exact Ee,fun _=>.inr ⟨rfl,e,rfl⟩,h4⟩
   ·obtain⟨h5,h6⟩:=xk h4
    exact⟨d,[],_,σ.n,_,hd,ha,ax _,rfl,fun _=>h5,fun _=>.inl rfl,h6⟩
 ·have h4:=bY h3
  split at h4
  ·obtain⟨hl,h5⟩:=h4.ok
   have h6:=jw h5
   exact⟨d,_,_,_,fws,hd,ha,Nat.le_add_right _ _,hl,fun hc=>(by cases hc),fun hc=>(by cases hc),h6⟩
  ·obtain⟨u',ds,s,h5⟩:=Dr h4
   obtain⟨hl,h5⟩:=h5.ok
   have h6:=jw h5
   have ha2:=wW (ha0.same s)
   obtain⟨h7,h8⟩:=xk (cy (cy h6))
   exact⟨d,_,_,_,_,hd,ha2,Nat.le_add_right _ _,hl,fun _=>h7,fun _=>.inl rfl,h8⟩
theorem zK {o:Oper}{t:VT}{h:VH}{n n':Nat}{d:V}{u:VH}{gl:List Nat}(hn:∀c:Id,n≤c.1→look (toH h) c=none)(hle:n≤n')(ha:StepOK P N o t h d u gl)(hu:Ab n' u=true){t':VT}:lW ⟨t',puts u h,n'⟩:=by
 obtain⟨uu,hU,_⟩:=ha
 exact ut (n:=n') (fun c hc=>hn c (cz hle hc)) hU hu
theorem fP {o:Oper}{t:VT}{g s:Nat}{want b:Bool}{v:V}(h1:o.guard=some (g,want))(h2:(ops[g]?).bind (·.dst)=some s)(h3:look t s=some v)(hv:v.toD= .bool b):dA ops (fW t) o=some (b==want):=by
 unfold dA
 rw[h1]
 simp only[h2,du,h3,aJ,hv]
theorem ml {t:VT}{s:Nat}{v v':V}(h:look t s=some v)(he:v'.toD=v.toD)(x:Nat):look (fW ((s,v')::t)) x=look (fW t) x:=by
 rw[du,du]
 show Option.map _ (if x=s then _ else _)=_
 split
 ·rename_i e;subst e;rw[h];simp[he]
 ·rfl
theorem nB {Θ:TT}(hΘ:Θ.ok P):∀{l:List Oper} {k:Nat} {fws:ui} {σ:VSt} {K:VSt→Prop},lW σ→lJ P Θ ops dep chk N l k fws σ K→∃σ',K σ'∧Runs P N ops dep chk l k fws σ σ'
 |[],k,fws,σ,K,hn,h=>⟨σ,h,Runs.nil hn⟩
 |o::l,k,fws,σ,K,hn,h=>by
  have run:∀σ:VSt,lW σ→dA ops (fW σ.t) o=some true→(AN P Θ dep chk N o k fws σ.t σ.h σ.n fun fws' σ'=>lJ P Θ ops dep chk N l (k+1) fws' σ' K)→∃σ',K σ'∧Runs P N ops dep chk (o::l) k fws σ σ':=by
   intro σ hn hg h
   obtain⟨d,u,gl,n',fws',h1,h2,h3,h4,h5,h6,h7⟩:=JH hΘ hn h
   obtain⟨σ',h9,h10⟩:=nB hΘ (zK hn h3 h2 h4) h7
   exact⟨σ',h9,Runs.step hg h1 h2 h3 h4 h5 h6 h10⟩
  have skip:∀σ:VSt,lW σ→dA ops (fW σ.t) o=some false→(uW N o σ.t σ.h σ.n fun σ'=>lJ P Θ ops dep chk N l (k+1) fws σ' K)→∃σ',K σ'∧Runs P N ops dep chk (o::l) k fws σ σ':=by
   intro σ hn hg h
   obtain⟨hd,h7⟩:=Chk.ok h
   have h7:=yB h7
   obtain⟨σ',h8,h9⟩:=nB (σ:=⟨yA o.dst (.tup []) σ.t,σ.h,σ.n⟩) hΘ hn h7
   exact⟨σ',h8,Runs.skip hg hd h9⟩
  obtain⟨st,sh,sn⟩:=σ
  unfold lJ at h
  split at h
  ·rename_i e
   exact run ⟨st,sh,sn⟩ hn (by unfold dA;rw[e]) h
  ·rename_i g want e
   split at h
   ·rename_i s es
    obtain⟨v,h1,h2⟩:=aH h
    split at h2
    ·cases want with
     |true=>exact run ⟨st,sh,sn⟩ hn (fP e es (b:=true) h1 rfl) h2
     |false=>exact skip ⟨st,sh,sn⟩ hn (fP e es (b:=true) h1 rfl) h2
    ·cases want with
     |true=>exact skip ⟨st,sh,sn⟩ hn (fP e es (b:=false) h1 rfl) h2
     |false=>exact run ⟨st,sh,sn⟩ hn (fP e es (b:=false) h1 rfl) h2
    ·rename_i b
     cases b with
     |true=>
      have h3:=h2.1 rfl
      have hsh:∀x,look (fW ((s,.tt)::st)) x=look (fW st) x:=ml h1 rfl
      cases want with
      |true=>
       obtain⟨σ',k1,k2⟩:=run ⟨(s,.tt)::st,sh,sn⟩ hn (fP e es (b:=true) (v:=.tt) (by simp[look]) rfl) h3
       exact⟨σ',k1,k2.congr hsh rfl rfl⟩
      |false=>
       obtain⟨σ',k1,k2⟩:=skip ⟨(s,.tt)::st,sh,sn⟩ hn (fP e es (b:=true) (v:=.tt) (by simp[look]) rfl) h3
       exact⟨σ',k1,k2.congr hsh rfl rfl⟩
     |false=>
      have h3:=h2.2 rfl
      have hsh:∀x,look (fW ((s,.ff)::st)) x=look (fW st) x:=ml h1 rfl
      cases want with
      |true=>
       obtain⟨σ',k1,k2⟩:=skip ⟨(s,.ff)::st,sh,sn⟩ hn (fP e es (b:=false) (v:=.ff) (by simp[look]) rfl) h3
       exact⟨σ',k1,k2.congr hsh rfl rfl⟩
      |false=>
       obtain⟨σ',k1,k2⟩:=run ⟨(s,.ff)::st,sh,sn⟩ hn (fP e es (b:=false) (v:=.ff) (by simp[look]) rfl) h3
       exact⟨σ',k1,k2.congr hsh rfl rfl⟩
    ·refine skip ⟨st,sh,sn⟩ hn ?_ h2
     unfold dA
     rw[e]
     simp only[es,du,h1,aJ,V.toD,ak]
    ·exact h2.elim
   ·exact h.elim
end Go.Proofs.YtpefhoohfkeflaaGreatDoor.Am
namespace Go.Proofs.YtpefhoohfkeflaaGreatDoor.Am
open Go Go.RowKit
variable {P:Program} {N:Nat} {K:Id→Prop}
def At (P:Program)(N:Nat)(K:Id→Prop)(c:Code)(Q:Exit→VSt→Prop)(σ:VSt):Prop:=∃e σ',Brings P N K c σ.toD e σ'.toD∧(ir P N K σ'.toD→Q e σ')
theorem j8 {c:Code}{σ:St}(h:¬ir P N K σ)(e:Exit)(σ':St):Brings P N K c σ e σ':=fun w0 S A ρ0 a w hs=>absurd ⟨w0,S,A,ρ0,a,w,hs⟩ h
variable {Q:Exit→VSt→Prop} {σ:VSt}
theorem At.real {c:Code}(h:ir P N K σ.toD→At P N K c Q σ):At P N K c Q σ:=by
 rcases jJ (ir P N K σ.toD) with hr|hr
 ·exact h hr
 ·exact⟨.normal,σ,j8 hr _ _,fun h=>absurd h hr⟩
theorem At.mono {c:Code}{Q':Exit→VSt→Prop}(h:At P N K c Q σ)(hq:∀e σ,Q e σ→Q' e σ):At P N K c Q' σ:=by
 obtain⟨e,σ',h1,h2⟩:=h
 exact⟨e,σ',h1,fun hr=>hq _ _ (h2 hr)⟩
def N5 (next:VSt→Prop)(Q:Exit→VSt→Prop):Exit→VSt→Prop
 | .normal,σ=>next σ
 |e,σ=>Q e σ
def zl (id:Nat)(Q:Exit→VSt→Prop):Exit→VSt→Prop
 | .exit id',σ=>bif Nat.beq id' id then Q .normal σ else Q (.exit id') σ
 |e,σ=>Q e σ
theorem cO (h:Q .normal σ):At P N K .skip Q σ:=⟨.normal,σ,.skip,fun _=>h⟩
theorem dy (h:Q .ret σ):At P N K .ret Q σ:=⟨.ret,σ,.ret,fun _=>h⟩
theorem cL {id:Nat}(h:Q (.exit id) σ):At P N K (.exit id) Q σ:=⟨.exit id,σ,.exit,fun _=>h⟩
theorem dZ {x y:Code}(h:At P N K x (N5 (At P N K y Q) Q) σ):At P N K (.seq x y) Q σ:=by
 obtain⟨e,σ1,h1,h2⟩:=h
 rcases jJ (ir P N K σ1.toD) with hr|hr
 ·cases e with
  |normal=>
   obtain⟨e2,σ2,h3,h4⟩:=h2 hr
   exact⟨e2,σ2,.seqN h1 h3,h4⟩
  |_=>exact⟨_,σ1,.seqX (by simp) h1,fun hr=>h2 hr⟩
 ·cases e with
  |normal=>exact⟨.normal,σ1,.seqN h1 (j8 hr _ _),fun h=>absurd h hr⟩
  |_=>exact⟨_,σ1,.seqX (by simp) h1,fun h=>absurd h hr⟩
theorem cZ {id:Nat}{c:Code}(h:At P N K c (zl id Q) σ):At P N K (.block id c) Q σ:=by
 obtain⟨e,σ1,h1,h2⟩:=h
 cases e with
 |exit id'=>
  by_cases hid:id'=id
  ·subst hid
   exact⟨.normal,σ1,.blockE h1,fun hr=>by have:=h2 hr;simpa only[zl,Nat.beq_refl,cond_true] using this⟩
  ·refine⟨.exit id',σ1,.blockX (by simp[hid]) h1,fun hr=>?_⟩
   have hb:Nat.beq id' id=false:=by
    cases hb:Nat.beq id' id with
    |false=>rfl
    |true=>exact absurd (cu hb) hid
   have:=h2 hr
   simpa only[zl,hb,cond_false] using this
 |_=>exact⟨_,σ1,.blockX (by simp) h1,h2⟩
def J4 (c:Operand)(σ:VSt)(A B:VSt→Prop):Prop:=
 match c,σ with
 | .tmp s,⟨t,h,n⟩=>bK t s fun v=>(match v with
  | .tt=>A ⟨t,h,n⟩
  | .ff=>B ⟨t,h,n⟩
  | .bool b=>jM b (A ⟨(s,.tt)::t,h,n⟩) (B ⟨(s,.ff)::t,h,n⟩)
  |_=>False)
 | .const (.bool true),σ=>A σ
 | .const (.bool false),σ=>B σ
 |_,_=>False
theorem SimS.congr {w0:World}{S:SD}{A:Nat→Prop}{ρ0:Id→Pl}{a:Act}{w:World}{σ σ':St}(h:SimS P w0 S A N ρ0 K σ a w)(ht:∀x,look σ'.t x=look σ.t x)(hh:∀x,look σ'.h x=look σ.h x)(hn:σ'.n=σ.n):SimS P w0 S A N ρ0 K σ' a w:=by
 obtain⟨h1,h2,ρ,h3,h4⟩:=h
 refine⟨fun b hb=>by rw[hh];exact h1 b (by omega),fun b hb=>?_,ρ,h3,h4.congr ht hh⟩
 have:=h2 b hb
 unfold Live at this⊢
 rw[hh]
 exact this
theorem qQ {s:Nat}{v v':V}(h:look σ.t s=some v)(he:v'.toD=v.toD):Weak P N K σ.toD (VSt.toD ⟨(s,v')::σ.t,σ.h,σ.n⟩):=
 fun _ _ _ _ _ _ hs=>hs.congr (fun x=>ml h he x) (fun _=>rfl) rfl
theorem dk {c:Operand}{x y:Code}(h:J4 c σ (At P N K x Q) (At P N K y Q)):At P N K (.cond c x y) Q σ:=by
 unfold J4 at h
 split at h
 ·rename_i s st sh sn
  obtain⟨v,h1,h2⟩:=aH h
  split at h2
  ·obtain⟨e,σ1,h3,h4⟩:=h2
   exact⟨e,σ1,.condT (by simp only[aZ,VSt.toD,du,h1,aJ,V.toD]) h3,h4⟩
  ·obtain⟨e,σ1,h3,h4⟩:=h2
   exact⟨e,σ1,.condF (by simp only[aZ,VSt.toD,du,h1,aJ,V.toD]) h3,h4⟩
  ·rename_i b
   have hev:aZ (VSt.toD ⟨st,sh,sn⟩).t (.tmp s)=some (.bool b):=by simp only[aZ,VSt.toD,du,h1,aJ,V.toD]
   cases b with
   |true=>
    obtain⟨e,σ1,h3,h4⟩:=h2.1 rfl
    exact⟨e,σ1,.condT hev (.pre (qQ (σ:=⟨st,sh,sn⟩) h1 rfl) h3),h4⟩
   |false=>
    obtain⟨e,σ1,h3,h4⟩:=h2.2 rfl
    exact⟨e,σ1,.condF hev (.pre (qQ (σ:=⟨st,sh,sn⟩) h1 rfl) h3),h4⟩
  ·exact h2.elim
 ·obtain⟨e,σ1,h3,h4⟩:=h
  exact⟨e,σ1,.condT rfl h3,h4⟩
 ·obtain⟨e,σ1,h3,h4⟩:=h
  exact⟨e,σ1,.condF rfl h3,h4⟩
 ·exact h.elim
theorem w6 {c:Code}(h:lW σ→At P N K c Q σ):At P N K c Q σ:=by
 rcases jJ (lW σ) with hr|hr
 ·exact h hr
 ·refine At.real fun⟨w0,S,A,ρ0,a,w,hs⟩=>absurd hs.1 hr
theorem cN {Θ:TT}(hΘ:Θ.ok P){id:Nat}{ops:Array Oper}(h:lJ P Θ ops (fun _=>[]) false N ops.toList 0 [] σ (Q .normal)):At P N K (.region id ops false) Q σ:=by
 refine w6 fun hn=>?_
 obtain⟨σ',h1,h2⟩:=nB hΘ hn h
 obtain⟨L,l1,l2,l3,l4,l5,_⟩:=h2 [] fun h=>by cases h
 exact⟨.normal,σ',.regionS l1 l2 l3 l4 fun _=>l5,fun _=>h1⟩
def Nf (o:Oper):Nat:=o.after.toList.foldl (fun m e=>bif Region.binds .any e then m|||(1<<<e.on) else m) 0
def Ky (ops:List Oper):Nat→Nat→Nat
 |0,m=>m
 |j+1,m=>match m.testBit j with
  |true=>Ky ops j (m|||(match ops[j]? with|some o=>Nf o|none=>0))
  |false=>Ky ops j m
def KL (ops:Array Oper)(k:Nat):List Nat:=
 match ops.toList[k]? with
 |some o=>(List.range k).filter fun i=>(Ky ops.toList k (Nf o)).testBit i
 |none=>[]
theorem cM {Θ:TT}(hΘ:Θ.ok P)(hm:P.follows .mixedOrders=true){id:Nat}{ops:Array Oper}(hok:Reg.okB ops (KL ops)=true)(h:lJ P Θ ops (KL ops) true N ops.toList 0 [] σ (Q .normal)):At P N K (.region id ops true) Q σ:=by
 refine w6 fun hn=>?_
 obtain⟨σ',h1,h2⟩:=nB hΘ hn h
 obtain⟨L,l1,l2,l3,l4,l5,l6⟩:=h2 [] fun _=>⟨rfl,fun i o r hi=>by simp at hi⟩
 refine⟨.normal,σ',(.regionD (KL ops) hm hok l1 l2 ?_ l3 l4 fun _=>l5),fun _=>h1⟩
 intro i j oi ri oj rj hij hi hj hdp
 exact l6 rfl i j oi ri oj rj (by omega) (by simpa using hi) hj (by simpa using hdp)
end Go.Proofs.YtpefhoohfkeflaaGreatDoor.Am
namespace Go.Proofs.YtpefhoohfkeflaaGreatDoor.Am
open Go Go.RowKit
variable {P:Program} {N:Nat} {K:Id→Prop} {os:List Nat} {n:Nat} {h:VH}
def OQ (h:VH)(b:Nat):Bool:=match aW h b with
 |some (.row ..)|some (.lit ..)|some (.var ..)|some (.vari ..)=>true
 |_=>false
def FF (h:VH):List Nat→List Nat
 |[]=>[]
 |b::l=>match Nat.ble 4 b && OQ h b with|true=>b::FF h l|false=>FF h l
def xN:VB→List Nat
 | .var _ cs=>ge cs
 | .vari _ pre _ _ _ post=>ge pre++ge post
 | .lit _ vs=>ge vs
 |_=>[]
def vR (h:VH):Nat→Nat→List Nat→(List Nat→Prop)→Prop
 |0,_,l,K=>K l
 |k+1,i,l,K=>match l[i]? with
  |none=>K l
  |some b=>gh (gA l (FF h (match aW h b with|some x=>xN x|none=>[]))) fun l=>vR h k (i+1) l K
theorem uw {h:VH}:∀{k i:Nat} {l:List Nat} {K:List Nat→Prop},vR h k i l K→∃l,K l
 |0,_,l,_,hk=>⟨l,hk⟩
 |k+1,i,l,K,hk=>by
  simp only[vR] at hk
  split at hk
  ·exact⟨_,hk⟩
  ·have hk:=cy hk
   exact uw hk
def vS (h:VH)(l:List Nat)(K:List Nat→Prop):Prop:=gh l fun l=>vR h 60 0 l K
theorem sH {h:VH}{l:List Nat}{K:List Nat→Prop}(hk:vS h l K):∃l,K l:=uw (cy hk)
def J8:VT→List Nat
 |[]=>[]
 |(_,v)::l=>gB v++J8 l
mutual
def ci (os:List Nat)(v:V)(K:V→Prop):Prop:=
 match v with
 | .ref b=>qb b os 4 fun r=>(match r with|some i=>K (.ref i)|none=>False)
 | .ptr b o=>qb b os 4 fun r=>(match r with|some i=>K (.ptr i o)|none=>False)
 | .eptr b j o=>qb b os 4 fun r=>(match r with|some i=>K (.eptr i j o)|none=>False)
 | .vref b o q=>qb b os 4 fun r=>(match r with|some i=>K (.vref i o q)|none=>False)
 | .aptr b p j=>qb b os 4 fun r=>(match r with|some i=>K (.aptr i p j)|none=>False)
 | .fref k i=>Chk (Nat.blt k 4) (K (.fref k i))
 | .fptr k i o=>Chk (Nat.blt k 4) (K (.fptr k i o))
 | .feptr k i j o=>Chk (Nat.blt k 4) (K (.feptr k i j o))
 | .faptr k i p j=>Chk (Nat.blt k 4) (K (.faptr k i p j))
 | .hro k o=>Chk (Nat.blt k 4) (K (.hro k o))
 | .hpo k o=>Chk (Nat.blt k 4) (K (.hpo k o))
 | .agg cs=>lZ os cs fun cs=>K (.agg cs)
 | .tup cs=>lZ os cs fun cs=>K (.tup cs)
 | .clo f cs=>lZ os cs fun cs=>K (.clo f cs)
 | .ifc T v=>ci os v fun v=>K (.ifc T v)
 | .int k n=>K (.int k n)
 | .bool b=>K (.bool b)
 | .tt=>K (.bool true)
 | .ff=>K (.bool false)
 | .str s=>K (.str s)
 | .lst t xs=>K (.lst t xs)
 | .box t x=>K (.box t x)
 | .nilp=>K .nilp
 | .nils=>K .nils
 | .nilf=>K .nilf
 | .nili=>K .nili
 | .gv g=>K (.gv g)
 | .gp _=>False
 | .iptr t x o=>K (.iptr t x o)
 | .obo t o=>K (.obo t o)
 | .undef=>K .undef
 | .junk=>K .junk
def lZ (os:List Nat)(l:List V)(K:List V→Prop):Prop:=
 match l with
 |[]=>K []
 |v::l=>ci os v fun v=>lZ os l fun l=>K (v::l)
end
structure KeepOK (os:List Nat)(h h':VH):Prop where
 sgl:∀m b,os[m]?=some b→Live (toH h) (b,0)→Live (toH h') (4+m,0)
 fam:∀k,k<4→∀i,Live (toH h) (k,i)→Live (toH h') (k,i)
section
variable {h':VH}
theorem Mp (H:KeepOK os h h'){m b:Nat}(hb:os[m]?=some b):Rn (toH h) (gI (gN os n)) (toH h') (.ref (b,0)) (.ref (4+m,0)):=by
 have e:gI (gN os n) (4+m,0)=(b,0):=by simp only[gI,im,eP hb]
 have:=Rn.ref (h:=toH h) (g:=gI (gN os n)) (h':=toH h') (4+m,0) fun hl=>H.sgl m b hb (by rw[e] at hl;exact hl)
 rwa [e] at this
theorem Gu (H:KeepOK os h h'){m b:Nat}(hb:os[m]?=some b)(o:Nat):Rn (toH h) (gI (gN os n)) (toH h') (.ptr (b,0) o) (.ptr (4+m,0) o):=by
 have e:gI (gN os n) (4+m,0)=(b,0):=by simp only[gI,im,eP hb]
 have:=Rn.ptr (h:=toH h) (g:=gI (gN os n)) (h':=toH h') (4+m,0) o fun hl=>H.sgl m b hb (by rw[e] at hl;exact hl)
 rwa [e] at this
theorem Jg (H:KeepOK os h h'){m b:Nat}(hb:os[m]?=some b)(j o:Nat):Rn (toH h) (gI (gN os n)) (toH h') (.eptr (b,0) j o) (.eptr (4+m,0) j o):=by
 have e:gI (gN os n) (4+m,0)=(b,0):=by simp only[gI,im,eP hb]
 have:=Rn.eptr (h:=toH h) (g:=gI (gN os n)) (h':=toH h') (4+m,0) j o fun hl=>H.sgl m b hb (by rw[e] at hl;exact hl)
 rwa [e] at this
theorem Ji (H:KeepOK os h h'){m b:Nat}(hb:os[m]?=some b)(o q:Nat):Rn (toH h) (gI (gN os n)) (toH h') (.vref (b,0) o q) (.vref (4+m,0) o q):=by
 have e:gI (gN os n) (4+m,0)=(b,0):=by simp only[gI,im,eP hb]
 have:=Rn.vref (h:=toH h) (g:=gI (gN os n)) (h':=toH h') (4+m,0) o q fun hl=>H.sgl m b hb (by rw[e] at hl;exact hl)
 rwa [e] at this
theorem vQ {k:Nat}(hk:k<4)(i:Nat):gI (gN os n) (k,i)=(k,i):=by simp only[gI,pO os n hk]
theorem Cd (H:KeepOK os h h'){k:Nat}(hk:k<4)(i:Nat):Rn (toH h) (gI (gN os n)) (toH h') (.ref (k,i)) (.ref (k,i)):=by
 have e:gI (gN os n) (k,i)=(k,i):=vQ hk i
 have:=Rn.ref (h:=toH h) (g:=gI (gN os n)) (h':=toH h') (k,i) fun hl=>H.fam k hk i (by rw[e] at hl;exact hl)
 rwa [e] at this
theorem wl (H:KeepOK os h h'){k:Nat}(hk:k<4)(i o:Nat):Rn (toH h) (gI (gN os n)) (toH h') (.ptr (k,i) o) (.ptr (k,i) o):=by
 have e:gI (gN os n) (k,i)=(k,i):=vQ hk i
 have:=Rn.ptr (h:=toH h) (g:=gI (gN os n)) (h':=toH h') (k,i) o fun hl=>H.fam k hk i (by rw[e] at hl;exact hl)
 rwa [e] at this
theorem Gs (H:KeepOK os h h'){k:Nat}(hk:k<4)(i j o:Nat):Rn (toH h) (gI (gN os n)) (toH h') (.eptr (k,i) j o) (.eptr (k,i) j o):=by
 have e:gI (gN os n) (k,i)=(k,i):=vQ hk i
 have:=Rn.eptr (h:=toH h) (g:=gI (gN os n)) (h':=toH h') (k,i) j o fun hl=>H.fam k hk i (by rw[e] at hl;exact hl)
 rwa [e] at this
theorem qM (H:KeepOK os h h'){k:Nat}(hk:k<4)(o:Option Nat):Rn (toH h) (gI (gN os n)) (toH h') (na k o) (na k o):=by
 cases o with
 |none=>exact .pure _ rfl
 |some i=>exact Cd H hk i
theorem Kn (H:KeepOK os h h'){k:Nat}(hk:k<4)(o:Option Nat):Rn (toH h) (gI (gN os n)) (toH h') (qI k o) (qI k o):=by
 cases o with
 |none=>exact .pure _ rfl
 |some i=>exact wl H hk i 0
theorem nT {a b:Nat}(h:Nat.blt a b=true):a<b:=by simpa[Nat.blt_eq] using h
mutual
theorem lY:∀{v:V} {K:V→Prop},ci os v K→∃r:V,(∀h',KeepOK os h h'→Rn (toH h) (gI (gN os n)) (toH h') v.toD r.toD)∧r.one=v.one∧K r
 | .ref b,K,hk=>by
  simp only[ci] at hk
  obtain⟨r,r1,r2,hk⟩:=gn hk
  split at hk
  ·obtain⟨m,rfl,hm⟩:=r2 _ rfl
   exact⟨.ref (4+m),fun h' H=>Mp H hm,rfl,hk⟩
  ·exact hk.elim
 | .ptr b o,K,hk=>by
  simp only[ci] at hk
  obtain⟨r,r1,r2,hk⟩:=gn hk
  split at hk
  ·obtain⟨m,rfl,hm⟩:=r2 _ rfl
   exact⟨.ptr (4+m) o,fun h' H=>Gu H hm o,rfl,hk⟩
  ·exact hk.elim
 | .eptr b j o,K,hk=>by
  simp only[ci] at hk
  obtain⟨r,r1,r2,hk⟩:=gn hk
  split at hk
  ·obtain⟨m,rfl,hm⟩:=r2 _ rfl
   exact⟨.eptr (4+m) j o,fun h' H=>Jg H hm j o,rfl,hk⟩
  ·exact hk.elim
 | .vref b o q,K,hk=>by
  simp only[ci] at hk
  obtain⟨r,r1,r2,hk⟩:=gn hk
  split at hk
  ·obtain⟨m,rfl,hm⟩:=r2 _ rfl
   exact⟨.vref (4+m) o q,fun h' H=>Ji H hm o q,rfl,hk⟩
  ·exact hk.elim
 | .aptr b p j,K,hk=>by
  simp only[ci] at hk
  obtain⟨r,r1,r2,hk⟩:=gn hk
  split at hk
  ·obtain⟨m,rfl,hm⟩:=r2 _ rfl
   exact⟨.aptr (4+m) p j,fun h' H=>Gu H hm (p+j),rfl,hk⟩
  ·exact hk.elim
 | .fref k i,K,hk=>by simp only[ci] at hk;obtain⟨c,hk⟩:=hk.ok;exact⟨.fref k i,fun h' H=>Cd H (nT c) i,rfl,hk⟩
 | .fptr k i o,K,hk=>by simp only[ci] at hk;obtain⟨c,hk⟩:=hk.ok;exact⟨.fptr k i o,fun h' H=>wl H (nT c) i o,rfl,hk⟩
 | .feptr k i j o,K,hk=>by simp only[ci] at hk;obtain⟨c,hk⟩:=hk.ok;exact⟨.feptr k i j o,fun h' H=>Gs H (nT c) i j o,rfl,hk⟩
 | .faptr k i p j,K,hk=>by simp only[ci] at hk;obtain⟨c,hk⟩:=hk.ok;exact⟨.faptr k i p j,fun h' H=>wl H (nT c) i (p+j),rfl,hk⟩
 | .hro k o,K,hk=>by simp only[ci] at hk;obtain⟨c,hk⟩:=hk.ok;exact⟨.hro k o,fun h' H=>qM H (nT c) o,rfl,hk⟩
 | .hpo k o,K,hk=>by simp only[ci] at hk;obtain⟨c,hk⟩:=hk.ok;exact⟨.hpo k o,fun h' H=>Kn H (nT c) o,rfl,hk⟩
 | .agg cs,K,hk=>by
  simp only[ci] at hk
  obtain⟨r,h1,h2,h3,hk⟩:=kv hk
  exact⟨.agg r,fun h' H=>by simp only[V.toD];exact .agg _ _ h1 (h2 h' H),rfl,hk⟩
 | .tup cs,K,hk=>by
  simp only[ci] at hk
  obtain⟨r,h1,h2,h3,hk⟩:=kv hk
  exact⟨.tup r,fun h' H=>by simp only[V.toD];exact .tup _ _ h1 (h2 h' H),rfl,hk⟩
 | .clo f cs,K,hk=>by
  simp only[ci] at hk
  obtain⟨r,h1,h2,h3,hk⟩:=kv hk
  exact⟨.clo f r,fun h' H=>by simp only[V.toD];exact .clo f _ _ h1 (h2 h' H),rfl,hk⟩
 | .ifc T v,K,hk=>by
  simp only[ci] at hk
  obtain⟨r,h1,h2,hk⟩:=lY hk
  exact⟨.ifc T r,fun h' H=>by simp only[V.toD];exact .ifc T _ _ (h1 h' H),rfl,hk⟩
 | .int k m,K,hk=>⟨.int k m,fun h' H=>.pure _ rfl,rfl,by simpa only[ci] using hk⟩
 | .bool b,K,hk=>⟨.bool b,fun h' H=>.pure _ rfl,rfl,by simpa only[ci] using hk⟩
 | .tt,K,hk=>⟨.bool true,fun h' H=>.pure _ rfl,rfl,by simpa only[ci] using hk⟩
 | .ff,K,hk=>⟨.bool false,fun h' H=>.pure _ rfl,rfl,by simpa only[ci] using hk⟩
 | .str s,K,hk=>⟨.str s,fun h' H=>.pure _ rfl,rfl,by simpa only[ci] using hk⟩
 | .lst t xs,K,hk=>⟨.lst t xs,fun h' H=>.pure _ rfl,rfl,by simpa only[ci] using hk⟩
 | .box t x,K,hk=>⟨.box t x,fun h' H=>.pure _ rfl,rfl,by simpa only[ci] using hk⟩
 | .nilp,K,hk=>⟨.nilp,fun h' H=>.pure _ rfl,rfl,by simpa only[ci] using hk⟩
 | .nils,K,hk=>⟨.nils,fun h' H=>.pure _ rfl,rfl,by simpa only[ci] using hk⟩
 | .nilf,K,hk=>⟨.nilf,fun h' H=>.pure _ rfl,rfl,by simpa only[ci] using hk⟩
 | .nili,K,hk=>⟨.nili,fun h' H=>.pure _ rfl,rfl,by simpa only[ci] using hk⟩
 | .gv g,K,hk=>⟨.gv g,fun h' H=>.gv g,rfl,by simpa only[ci] using hk⟩
 | .gp _,K,hk=>by simp only[ci] at hk
 | .iptr t x o,K,hk=>⟨.iptr t x o,fun h' H=>.iptr _ _,rfl,by simpa only[ci] using hk⟩
 | .obo t o,K,hk=>⟨.obo t o,fun h' H=>.pure _ (by cases o<;>rfl),rfl,by simpa only[ci] using hk⟩
 | .undef,K,hk=>⟨.undef,fun h' H=>.undef _,rfl,by simpa only[ci] using hk⟩
 | .junk,K,hk=>⟨.junk,fun h' H=>.junk,rfl,by simpa only[ci] using hk⟩
theorem kv:∀{l:List V} {K:List V→Prop},lZ os l K→∃r:List V,(ak l).length=(ak r).length∧(∀h',KeepOK os h h'→∀i,i<(ak l).length→Rn (toH h) (gI (gN os n)) (toH h') ((ak l).getD i .undef) ((ak r).getD i .undef))∧(l.all V.one=r.all V.one)∧K r
 |[],K,hk=>⟨[],rfl,fun h' H i hi=>by simp[ak] at hi,rfl,by simpa only[lZ] using hk⟩
 |v::l,K,hk=>by
  simp only[lZ] at hk
  obtain⟨v',h1,h2,hk⟩:=lY hk
  obtain⟨r,h3,h4,h5,hk⟩:=kv hk
  refine⟨v'::r,by simp only[ak,bH,h3],fun h' H i hi=>?_,by simp only[List.all_cons,h2,h5],hk⟩
  cases i with
  |zero=>simpa[ak] using h1 h' H
  |succ i=>simpa[ak] using h4 h' H i (by simpa[ak] using hi)
end
def ET (os:List Nat)(h:VH)(l:List V)(K:List V→Prop):Prop:=nJ h l fun l=>lZ os l K
theorem EM (g:HL)(l:List D){i:Nat}(hi:i<l.length):(ly g l).getD i .undef=fwd g (l.getD i .undef):=by
 rw[fw,aq,bf,am hi,aq,am hi]
 rfl
theorem rr {l:List V}{K:List V→Prop}(hk:ET os h l K):∃r:List V,(ak l).length=(ak r).length∧(∀h',KeepOK os h h'→∀i,i<(ak l).length→Rn (toH h) (gI (gN os n)) (toH h') ((ak l).getD i .undef) ((ak r).getD i .undef))∧((ak l).all D.one=true→(ak r).all D.one=true)∧K r:=by
 obtain⟨l',h1,hk⟩:=jp hk
 obtain⟨r,h2,h3,h4,hk⟩:=kv (h:=h) (n:=n) hk
 have hlen:(ak l).length=(ak l').length:=by rw[←h1,fw,az]
 refine⟨r,hlen.trans h2,fun h' H i hi=>.fwd _ _ ?_,fun ha=>?_,hk⟩
 ·rw[←EM _ _ hi,h1]
  exact h3 h' H i (by rw[←hlen];exact hi)
 ·refine ol _ ?_
  rw[←h4]
  have e:(ak l').all D.one=l'.all V.one:=by
   rw[dd,List.all_map]
   refine congrArg (fun f=>List.all l' f) (funext fun v=>oW v)
  rw[←e,←h1,fw,List.all_map]
  rw[aM] at ha⊢
  intro d hd
  simp only[Function.comp,rp]
  exact ha d hd
theorem tp (H:KeepOK os h h'){t:Ty}(ht:∀k∈t.fams,k<4)(x:t.den):∀c∈(ai t x).cells,Rn (toH h) (gI (gN os n)) (toH h') c c:=by
 intro c hc
 by_cases hp:t.pure=true
 ·have:=(kz hp x).2
  rw[aM] at this
  exact .pure c (this c hc)
 ·have lf:∀d:D,d.pure0=true→Rn (toH h) (gI (gN os n)) (toH h') d d:=fun d hd=>.pure d hd
  cases t<;>simp only[Ty.pure,not_true_eq_false] at hp
  case hr k=>
   simp only[ai,(oL k x).2,aY] at hc
   subst hc
   exact qM H (ht k (by simp[Ty.fams])) x
  case hp k=>
   simp only[ai,(oK k x).2,aY] at hc
   subst hc
   exact Kn H (ht k (by simp[Ty.fams])) x
  case vtxo k=>
   simp only[ai,D.cells,aA,gE,or_false] at hc
   rcases hc with rfl|rfl|rfl|rfl
   ·exact lf _ rfl
   ·exact lf _ rfl
   ·exact qM H (ht k (by simp[Ty.fams])) _
   ·exact lf _ rfl
  case pplm k=>
   simp only[ai,D.cells,iT,gH,eB,aA,gE,or_false] at hc
   rcases hc with rfl|rfl|rfl|rfl|rfl
   ·exact lf _ rfl
   ·exact lf _ rfl
   ·exact lf _ rfl
   ·exact lf _ rfl
   ·exact qM H (ht k (by simp[Ty.fams])) _
  case pplo k k'=>
   simp only[ai,D.cells,aA,gE,or_false] at hc
   rcases hc with rfl|rfl|rfl|rfl|rfl
   ·exact lf _ rfl
   ·exact lf _ rfl
   ·exact qM H (ht k (by simp[Ty.fams])) _
   ·exact lf _ rfl
   ·exact qM H (ht k' (by simp[Ty.fams])) _
  case evto k=>
   simp only[ai,D.cells,aA,gE,or_false] at hc
   rcases hc with rfl|rfl|rfl|rfl|rfl|rfl|rfl
   ·exact lf _ rfl
   ·exact lf _ rfl
   ·exact lf _ rfl
   ·exact lf _ rfl
   ·exact lf _ rfl
   ·exact qM H (ht k (by simp[Ty.fams])) _
   ·exact lf _ rfl
  case nod k=>
   simp only[ai,D.cells,iT,gH,eB,aA,gE,or_false] at hc
   rcases hc with rfl|rfl|rfl|rfl|rfl|rfl
   ·exact lf _ rfl
   ·exact lf _ rfl
   ·exact lf _ rfl
   ·exact lf _ rfl
   ·exact lf _ rfl
   ·exact qM H (ht k (by simp[Ty.fams])) _
theorem Ap (H:KeepOK os h h'){t:Ty}(ht:∀k∈t.fams,k<4)(x:t.den):Rn (toH h) (gI (gN os n)) (toH h') (ai t x) (ai t x):=by
 have hc:=tp (n:=n) H ht x
 by_cases hag:∃cs,ai t x= .agg cs
 ·obtain⟨cs,he⟩:=hag
  rw[he] at hc⊢
  exact .agg cs cs rfl fun i hi=>hc _ (bl hi)
 ·have he:(ai t x).cells=[ai t x]:=dr fun cs hcs=>hag ⟨cs,hcs⟩
  exact hc _ (by rw[he];exact aY.2 rfl)
theorem Aq (H:KeepOK os h h'){t:Ty}(ht:∀k∈t.fams,k<4)(E:TypeId)(xs:List t.den):RnB (toH h) (gI (gN os n)) (toH h') (.row E (xs.map (ai t))) (.row E (xs.map (ai t))):=by
 refine .row E _ _ rfl fun i hi=>?_
 obtain⟨x,_,hx⟩:=aD.1 (bl hi)
 rw[←hx]
 exact⟨Ap H ht x,fun s hs=>⟨hs,fun j hj=>tp H ht x _ (bl (by rw[hs.1];exact hj))⟩⟩
theorem Gv (H:KeepOK os h h')(T:TypeId){cs:List D}(hc:∀c∈cs,Rn (toH h) (gI (gN os n)) (toH h') c c):RnB (toH h) (gI (gN os n)) (toH h') (.var T cs) (.var T cs):=.var T _ _ rfl fun i hi=>hc _ (bl hi)
def OI (os:List Nat)(h:VH)(v:V)(K:V→Prop):Prop:=match v with
 | .agg cs=>ET os h cs fun cs=>K (.agg cs)
 |v=>Chk v.one (d6 h v fun v=>ci os v K)
theorem K3 {v:V}{K:V→Prop}(hk:OI os h v K):∃r:V,(∀h',KeepOK os h h'→Rn (toH h) (gI (gN os n)) (toH h') v.toD r.toD∧∀s,wfC s v.toD→wfC s r.toD∧∀j,j<s→Rn (toH h) (gI (gN os n)) (toH h') (v.toD.cells.getD j .undef) (r.toD.cells.getD j .undef))∧K r:=by
 unfold OI at hk
 split at hk
 ·rename_i cs
  obtain⟨r,h1,h2,h3,hk⟩:=rr (n:=n) hk
  refine⟨.agg r,fun h' H=>⟨by simp only[V.toD];exact .agg _ _ h1 (h2 h' H),fun s hs=>?_⟩,hk⟩
  have hs1:(ak cs).length=s:=by have:=hs.1;simpa only[V.toD,D.cells] using this
  refine⟨⟨?_,?_⟩,fun j hj=>?_⟩
  ·show (ak r).length=s
   omega
  ·exact h3 (by have:=hs.2;simpa only[V.toD,D.cells] using this)
  ·exact h2 h' H j (by omega)
 ·obtain⟨c,hk⟩:=hk.ok
  obtain⟨v',h1,hk⟩:=m8 hk
  obtain⟨r,h2,h3,hk⟩:=lY (h:=h) (n:=n) hk
  have o1:v.toD.one=true:=by rw[oW];exact c
  have o2:r.toD.one=true:=by
   rw[oW,h3,←oW,←h1,rp];exact o1
  refine⟨r,fun h' H=>?_,hk⟩
  have hr:Rn (toH h) (gI (gN os n)) (toH h') v.toD r.toD:=.fwd _ _ (by rw[h1];exact h2 h' H)
  refine⟨hr,fun s hs=>?_⟩
  have hs1:=hs.1
  rw[cV o1] at hs1⊢
  rw[cV o2]
  simp only[mM] at hs1
  subst hs1
  refine⟨⟨by rw[cV o2];rfl,by rw[cV o2];simp[o2]⟩,fun j hj=>?_⟩
  obtain rfl:j=0:=by omega
  exact hr
def K4 (os:List Nat)(h:VH):List V→(List V→Prop)→Prop
 |[],K=>K []
 |v::l,K=>OI os h v fun v=>K4 os h l fun l=>K (v::l)
theorem Bt:∀{l:List V} {K:List V→Prop},K4 os h l K→∃r:List V,(∀h' E,KeepOK os h h'→RnB (toH h) (gI (gN os n)) (toH h') (.row E (ak l)) (.row E (ak r)))∧K r
 |[],K,hk=>⟨[],fun h' E H=>.row E _ _ rfl fun i hi=>by simp[ak] at hi,hk⟩
 |v::l,K,hk=>by
  obtain⟨v',h1,hk⟩:=K3 (n:=n) hk
  obtain⟨r,h2,hk⟩:=Bt hk
  refine⟨v'::r,fun h' E H=>?_,hk⟩
  cases h2 h' E H with
  |row _ _ _ hl hc=>
   refine .row E _ _ (by simp only[ak,bH,hl]) fun i hi=>?_
   cases i with
   |zero=>simpa[ak] using h1 h' H
   |succ i=>simpa[ak] using hc i (by simpa[ak] using hi)
def NL (l:List Nat):Bool:=l.all fun k=>Nat.blt k 4
theorem Aa {l:List Nat}(h:NL l=true):∀k∈l,k<4:=by
 unfold NL at h
 rw[aM] at h
 exact fun k hk=>nT (h k hk)
def OH (os:List Nat)(h:VH)(x:VB)(K:VB→Prop):Prop:=
 match x with
 | .var T cs=>ET os h cs fun cs=>K (.var T cs)
 | .vari T pre m t xs post=>Chk (NL t.fams) (ET os h pre fun pre=>ET os h post fun post=>K (.vari T pre m t xs post))
 | .row E t xs=>Chk (NL t.fams) (K (.row E t xs))
 | .lit E vs=>K4 os h vs fun vs=>K (.lit E vs)
 | .froz t xs=>K (.froz t xs)
 | .fvb t x=>K (.fvb t x)
 | .moved _ _=>K .gone
 | .gone=>K .gone
 |_=>False
theorem K2 {x:VB}{K:VB→Prop}(hk:OH os h x K):∃y d d',x.blks=[d]∧y.blks=[d']∧(∀h',KeepOK os h h'→RnB (toH h) (gI (gN os n)) (toH h') d d')∧K y:=by
 unfold OH at hk
 split at hk
 ·rename_i T cs
  obtain⟨r,h1,h2,_,hk⟩:=rr (n:=n) hk
  exact⟨_,_,_,rfl,rfl,fun h' H=>.var T _ _ h1 (h2 h' H),hk⟩
 ·rename_i T pre m t xs post
  obtain⟨c,hk⟩:=hk.ok
  obtain⟨pre',h1,h2,_,hk⟩:=rr (n:=n) hk
  obtain⟨post',h3,h4,_,hk⟩:=rr (n:=n) hk
  refine⟨_,_,_,rfl,rfl,fun h' H=>.var T _ _ (by simp only[aO,h1,h3]) fun i hi=>?_,hk⟩
  by_cases c1:i<(ak pre).length
  ·rw[bJ,bJ,fN (A:=ak pre) c1,fN (A:=ak pre') (by rw[←h1];exact c1)]
   exact h2 h' H i c1
  ·rw[bJ,bJ,fO (A:=ak pre) (by omega),fO (A:=ak pre') (by rw[←h1];omega),←h1]
   simp only[aO] at hi
   by_cases c2:i-(ak pre).length<(xs.map (ai t)).length
   ·rw[fN c2,fN c2]
    obtain⟨e,he,hee⟩:=aD.1 (bl c2)
    rw[←hee]
    exact Ap H (Aa c) e
   ·rw[fO (by omega),fO (by omega)]
    exact h4 h' H _ (by omega)
 ·obtain⟨c,hk⟩:=hk.ok
  exact⟨_,_,_,rfl,rfl,fun h' H=>Aq H (Aa c) _ _,hk⟩
 ·obtain⟨r,h1,hk⟩:=Bt (n:=n) hk
  exact⟨_,_,_,rfl,rfl,fun h' H=>h1 h' _ H,hk⟩
 ·exact⟨_,_,_,rfl,rfl,fun h' H=>.froz _,hk⟩
 ·exact⟨_,_,_,rfl,rfl,fun h' H=>.fvar _,hk⟩
 ·exact⟨_,_,_,rfl,rfl,fun h' H=>.gone _,hk⟩
 ·exact⟨_,_,_,rfl,rfl,fun h' H=>.gone _,hk⟩
 ·exact hk.elim
end
end Go.Proofs.YtpefhoohfkeflaaGreatDoor.Am
namespace Go.Proofs.YtpefhoohfkeflaaGreatDoor.Am
open Go Go.RowKit
variable {P:Program} {N:Nat} {K:Id→Prop} {os:List Nat} {n:Nat} {h:VH} {σ:VSt}
def OJ (os:List Nat)(h:VH):List Nat→Nat→(VH→Prop)→Prop
 |[],_,K=>K []
 |b::l,i,K=>eX h b fun x=>OH os h x fun y=>gU (i+1) fun j=>OJ os h l j fun r=>K ((i,y)::r)
theorem ES:∀{l:List Nat} {i:Nat} {K:VH→Prop},OJ os h l i K→∃hs,(∀k x,look hs k=some x→∃m,k=i+m∧m<l.length)∧
   (∀m b,l[m]?=some b→∃x y d d',look h b=some x∧look hs (i+m)=some y∧x.blks=[d]∧y.blks=[d']∧∀h',KeepOK os h h'→RnB (toH h) (gI (gN os n)) (toH h') d d')∧K hs
 |[],i,K,hk=>⟨[],(fun k x hx=>by cases hx),by simp,hk⟩
 |b::l,i,K,hk=>by
  obtain⟨x,hx,hk⟩:=bj hk
  obtain⟨y,d,d',e1,e2,e3,hk⟩:=K2 (n:=n) hk
  have hk:=bY hk
  obtain⟨hs,h3,h4,hk⟩:=ES hk
  refine⟨(i,y)::hs,fun k z hz=>?_,fun m b' hm=>?_,hk⟩
  ·simp only[look] at hz
   split at hz
   ·exact⟨0,by omega,by simp⟩
   ·obtain⟨m,e1,e2⟩:=h3 k z hz
    exact⟨m+1,by omega,by simpa using e2⟩
  ·cases m with
   |zero=>
    simp only[iV,aw] at hm
    subst hm
    exact⟨x,y,d,d',hx,by simp[look],e1,e2,e3⟩
   |succ m=>
    obtain⟨z,z',f1,f2,q1,q2,q3⟩:=h4 m b' (by simpa using hm)
    refine⟨z,z',f1,f2,q1,?_,q3⟩
    simp only[look]
    rw[if_neg (by omega),show i+(m+1)=i+1+m by omega]
    exact q2
def Nr (h:VH):List Nat→(VH→Prop)→Prop
 |[],K=>K []
 |k::l,K=>match aW h k with
  |some x=>Chk (!x.sgl && NL x.fams) (Nr h l fun r=>K ((k,x)::r))
  |none=>Nr h l K
theorem zM:∀{l:List Nat} {K:VH→Prop},Nr h l K→∃hf,(∀k x,look hf k=some x→k∈l∧look h k=some x∧x.sgl=false∧∀j∈x.fams,j<4)∧(∀k∈l,look hf k=look h k)∧K hf
 |[],K,hk=>⟨[],(fun k x hx=>by cases hx),by simp,hk⟩
 |k::l,K,hk=>by
  simp only[Nr,aS] at hk
  cases hx:look h k with
  |none=>
   rw[hx] at hk
   obtain⟨hf,h1,h2,hk⟩:=zM hk
   refine⟨hf,fun j y hy=>?_,fun j hj=>?_,hk⟩
   ·obtain⟨q1,q2⟩:=h1 j y hy
    exact⟨bw _ q1,q2⟩
   ·by_cases hjl:j∈l
    ·exact h2 j hjl
    ·obtain rfl:j=k:=(aA.1 hj).resolve_right hjl
     rw[hx]
     cases hf':look hf j with
     |none=>rfl
     |some y=>exact absurd (h1 j y hf').1 hjl
  |some x=>
   rw[hx] at hk
   obtain⟨c,hk⟩:=hk.ok
   simp only[aB,fV] at c
   obtain⟨hf,h1,h2,hk⟩:=zM hk
   refine⟨(k,x)::hf,fun j y hy=>?_,fun j hj=>?_,hk⟩
   ·simp only[look] at hy
    split at hy
    ·rename_i e
     cases hy
     subst e
     exact⟨bh ..,hx,c.1,Aa c.2⟩
    ·obtain⟨q1,q2⟩:=h1 j y hy
     exact⟨bw _ q1,q2⟩
   ·simp only[look]
    by_cases e:j=k
    ·rw[if_pos e,e,hx]
    ·rw[if_neg e]
     exact h2 j ((aA.1 hj).resolve_left e)
theorem Jh {h':VH}(H:KeepOK os h h'){x:VB}(hs:x.sgl=false)(hf:∀j∈x.fams,j<4):∀d∈x.blks,RnB (toH h) (gI (gN os n)) (toH h') d d:=by
 intro d hd
 cases x<;>simp[VB.sgl] at hs
 ·rename_i T t xs
  obtain⟨e,_,rfl⟩:=aD.1 hd
  exact Gv H T (tp H hf e)
 ·rename_i T m t xss
  obtain⟨xs,_,rfl⟩:=aD.1 hd
  refine Gv H T fun c hc=>?_
  obtain⟨e,_,rfl⟩:=aD.1 hc
  exact Ap H hf e
 ·rename_i E t xss
  obtain⟨xs,_,rfl⟩:=aD.1 hd
  exact Aq H hf E xs
 ·rename_i E t xss
  obtain⟨xs,_,rfl⟩:=aD.1 hd
  cases xs with
  |none=>exact .gone _
  |some xs=>exact Aq H hf E xs
def B9:Nat→Nat→List Nat→Bool
 |0,_,_=>true
 |m+1,i,b::l=>Nat.beq b i && B9 m (i+1) l
 |_+1,_,[]=>false
theorem yx:∀{m i:Nat} {l:List Nat},B9 m i l=true→∀j,j<m→l[j]?=some (i+j)
 |0,i,l,_,j,hj=>by omega
 |m+1,i,[],hp,j,hj=>by cases hp
 |m+1,i,b::l,hp,j,hj=>by
  simp only[B9,aB] at hp
  cases j with
  |zero=>simp[cu hp.1]
  |succ j=>
   have:=yx hp.2 j (by omega)
   rw[show i+1+j=i+(j+1) by omega] at this
   simpa using this
def KB (m:Nat)(K:Id→Prop):Prop:=∀b,K b→b.1<4+m
def Fx (m:Nat)(os:List Nat)(h:VH)(n:Nat)(K:VH→Prop):Prop:=Chk (Di os n && B9 m 4 os) (Nr h [0,1,2,3] fun hf=>OJ os h os 4 fun hs=>Hu hf hs K)
theorem x6 {m:Nat}{Q:VH→Prop}(hk:Fx m os h n Q):∃h',KeepOK os h h'∧Ren (toH h) (gI (gN os n)) (toH h')∧(∀K,KB m K→∀b,K b→Live (toH h) b→gI (gN os n) b=b∧Live (toH h') b)∧(∀b:Id,4+os.length≤b.1→look (toH h') b=none)∧Q h':=by
 obtain⟨c,hk⟩:=hk.ok
 simp only[aB] at c
 obtain⟨c1,c2⟩:=c
 obtain⟨hf,f1,f2,hk⟩:=zM hk
 obtain⟨hs,s1,s2,hk⟩:=ES (n:=n) hk
 have hk:=vb hk
 have hlow:∀k x,look hf k=some x→k<4:=fun k x hx=>by
  have:=(f1 k x hx).1
  simp only[aA,gE,or_false] at this
  omega
 have hf_none:∀m,look hf (4+m)=none:=by
  intro m
  cases hl:look hf (4+m) with
  |none=>rfl
  |some y=>have:=hlow _ _ hl;omega
 have fam:∀k,k<4→look (hf++hs) k=look h k:=by
  intro k hk
  have hm:k∈[0,1,2,3]:=by
   simp only[aA,gE,or_false];omega
  rw[iy,f2 k hm]
  cases hl:look h k with
  |some x=>rfl
  |none=>
   cases hl2:look hs k with
   |none=>rfl
   |some y=>obtain⟨m,e,_⟩:=s1 k y hl2;omega
 have sgl:∀m,look (hf++hs) (4+m)=look hs (4+m):=fun m=>by rw[iy,hf_none]
 have H:KeepOK os h (hf++hs):=by
  refine⟨fun m b hb _=>?_,fun k hk i hl=>?_⟩
  ·obtain⟨x,y,d,d',q1,q2,q3,q4,q5⟩:=s2 m b hb
   exact Live.of_look (av (by rw[sgl];exact q2) (by rw[q4];rfl))
  ·unfold Live at hl⊢
   rw[ap] at hl⊢
   rw[fam k hk]
   exact hl
 have cases':∀b x',look (toH (hf++hs)) b=some x'→(b.1<4∧∃x,look h b.1=some x∧look hf b.1=some x∧x.blks[b.2]?=some x')∨∃m c d,b=(4+m,0)∧os[m]?=some c∧look (toH h) (c,0)=some d∧RnB (toH h) (gI (gN os n)) (toH (hf++hs)) d x':=by
  intro b x' hx
  rw[ap] at hx
  obtain⟨x,q1,q2⟩:=bF.1 hx
  by_cases hb:b.1<4
  ·rw[fam _ hb] at q1
   have hm:b.1∈[0,1,2,3]:=by
    simp only[aA,gE,or_false];omega
   exact .inl ⟨hb,x,q1,by rw[f2 _ hm];exact q1,q2⟩
  ·obtain⟨m,hm⟩:∃m,b.1=4+m:=⟨b.1-4,by omega⟩
   rw[hm,sgl] at q1
   obtain⟨m',e,hlt⟩:=s1 _ _ q1
   obtain rfl:m=m':=by omega
   obtain⟨z,y,d,d',r1,r2,r3,r4,r5⟩:=s2 m os[m] (am hlt)
   rw[r2] at q1
   obtain rfl:=ar q1
   rw[r4] at q2
   obtain⟨b1,b2⟩:=b
   simp only at hm q2
   cases b2 with
   |succ j=>simp at q2
   |zero=>
    simp only[iV,aw] at q2
    subst q2 hm
    exact .inr ⟨m,os[m],d,rfl,am hlt,av r1 (by rw[r3];rfl),r5 _ H⟩
 refine⟨hf++hs,H,⟨fun b x' hx=>?_,fun b c x y _ _ _ _ he=>EP c1 he⟩,fun K hK b hb hl=>?_,fun b hb=>?_,hk⟩
 ·rcases cases' b x' hx with⟨g1,x,g2,g3,g4⟩|⟨m,c,d,rfl,g1,g2,g3⟩
  ·refine⟨x',?_,?_⟩
   ·simp only[gI,pO os n g1]
    exact av g2 g4
   ·obtain⟨_,_,q3,q4⟩:=f1 _ _ g3
    exact Jh H q3 q4 x' (bn g4)
  ·refine⟨d,?_,g3⟩
   simp only[gI,im,eP g1]
   exact g2
 ·have hb4:=hK b hb
  by_cases hlt:b.1<4
  ·obtain⟨b1,b2⟩:=b
   exact⟨vQ hlt b2,H.fam b1 hlt b2 hl⟩
  ·obtain⟨j,hj⟩:∃j,b.1=4+j:=⟨b.1-4,by omega⟩
   have hos:=yx c2 j (by omega)
   obtain⟨x,y,d,d',q1,q2,q3,q4,q5⟩:=s2 j _ hos
   obtain⟨b1,b2⟩:=b
   simp only at hj
   subst hj
   unfold Live at hl
   rw[ap,q1] at hl
   simp only[bc,q3] at hl
   cases b2 with
   |succ i=>simp at hl
   |zero=>
    refine⟨by simp only[gI,im,eP hos],H.sgl j _ hos ?_⟩
    exact Live.of_look (av q1 (by rw[q3];rfl))
 ·cases hx:look (toH (hf++hs)) b with
  |none=>rfl
  |some x'=>
   exfalso
   rcases cases' b x' hx with⟨g1,_⟩|⟨m,c,d,rfl,g1,_⟩
   ·omega
   ·have:=(aQ.1 g1).1
    simp only at hb
    omega
def sO (h:VH)(t:VT):List Nat→(VT→Prop)→Prop
 |[],K=>K []
 |k::ts,K=>(match aW t k with
  |some v=>d6 h v fun v=>sO h t ts fun r=>K ((k,v)::r)
  |none=>sO h t ts K)
theorem pS {t:VT}:∀{ts:List Nat} {K:VT→Prop},sO h t ts K→∃r,(∀k v',look r k=some v'→∃v,look t k=some v∧fwd (toH h) v.toD=v'.toD)∧K r
 |[],K,hk=>⟨[],(fun k v hv=>by cases hv),hk⟩
 |k::ts,K,hk=>by
  simp only[sO,aS] at hk
  cases hl:look t k with
  |none=>
   rw[hl] at hk
   exact pS hk
  |some v=>
   rw[hl] at hk
   obtain⟨v',h1,h2⟩:=m8 hk
   obtain⟨r,h3,h4⟩:=pS h2
   refine⟨(k,v')::r,fun j w hw=>?_,h4⟩
   simp only[look] at hw
   split at hw
   ·rename_i e
    cases hw
    subst e
    exact⟨v,hl,h1⟩
   ·exact h3 j w hw
def DX (os:List Nat):VT→(VT→Prop)→Prop
 |[],K=>K []
 |(k,v)::l,K=>ci os v fun v=>DX os l fun l=>K ((k,v)::l)
theorem xb:∀{l:VT} {K:VT→Prop},DX os l K→∃r,(∀k v',look r k=some v'→∃v,look l k=some v∧∀h',KeepOK os h h'→Rn (toH h) (gI (gN os n)) (toH h') v.toD v'.toD)∧K r
 |[],K,hk=>⟨[],(fun k v hv=>by cases hv),hk⟩
 |(k,v)::l,K,hk=>by
  obtain⟨v',h1,_,h2⟩:=lY (h:=h) (n:=n) hk
  obtain⟨r,h3,h4⟩:=xb h2
  refine⟨(k,v')::r,fun j w hw=>?_,h4⟩
  simp only[look] at hw⊢
  split at hw
  ·rename_i e
   cases hw
   exact⟨v,by rw[if_pos e],h1⟩
  ·rename_i e
   rw[if_neg e]
   exact h3 j w hw
def O6 (m:Nat)(ts:List Nat)(σ:VSt)(Q:VSt→Prop):Prop:=
 match σ with
 |⟨t0,h0,n0⟩=>sO h0 t0 ts fun t=>vS h0 (gA (List.range' 4 m) (FF h0 (J8 t))) fun os=>Fx m os h0 n0 fun h'=>DX os t fun t'=>gU (4+os.length) fun n=>Q ⟨t',h',n⟩
theorem K5 {m:Nat}{ts:List Nat}{Q:VSt→Prop}(hK:KB m K)(h:O6 m ts σ Q):∃σ',Weak P N K σ.toD σ'.toD∧Q σ':=by
 obtain⟨t,t1,h1⟩:=pS h
 obtain⟨os,h2⟩:=sH h1
 obtain⟨h',q1,q2,q3,q4,h3⟩:=x6 h2
 obtain⟨t',t2,h4⟩:=xb (h:=σ.h) (n:=σ.n) h3
 have h5:=bY h4
 refine⟨_,Hi (σ':=VSt.toD ⟨t',h',_⟩) q2 (fun k d' hd=>?_) (fun b hb hl=>q3 K hK b hb hl) q4,h5⟩
 simp only[VSt.toD,du] at hd
 obtain⟨v',hv,rfl⟩:=bm.1 hd
 obtain⟨v,hv1,hv2⟩:=t2 k v' hv
 obtain⟨v0,hv3,hv4⟩:=t1 k v hv1
 exact⟨v0.toD,by simp only[VSt.toD,du,hv3,aJ],.fwd _ _ (by have h9:=hv2 h' q1;rw[←hv4] at h9;exact h9)⟩
end Go.Proofs.YtpefhoohfkeflaaGreatDoor.Am
namespace Go.Proofs.YtpefhoohfkeflaaGreatDoor.Am
open Go Go.RowKit
variable {P:Program} {N:Nat} {K:Id→Prop} {Q:Exit→VSt→Prop} {σ:VSt} {h:VH}
def rowP (h:VH):List Nat→List Nat
 |[]=>[]
 |b::l=>match aW h b with
  |some (.row _ t _)=>(match t.pure with|true=>b::rowP h l|false=>rowP h l)
  |_=>rowP h l
theorem rowP_ok:∀{l:List Nat},∀b∈rowP h l,Ob h b
 |[],b,hb=>by cases hb
 |c::l,b,hb=>by
  simp only[rowP] at hb
  split at hb
  ·rename_i E t xs hc
   rw[aS] at hc
   split at hb
   ·rename_i hp
    rcases aA.1 hb with rfl|hb
    ·exact .inl ⟨E,t,xs,hp,hc⟩
    ·exact rowP_ok b hb
   ·exact rowP_ok b hb
  ·exact rowP_ok b hb
def OF (h:VH)(l:List Nat)(K:VH→Prop):Prop:=gh (rowP h l) fun ws=>Oi h ws fun u=>o5 u h K
theorem EO {l:List Nat}{K:VH→Prop}(hk:OF h l K):∃h1,(∃bs,∀b,look (puts (frz (toH h) bs) (toH h)) b=look (toH h1) b)∧K h1:=by
 have h1:=cy hk
 have h2:=(AO h1).1
 have h3:=jw h2
 exact⟨_,⟨_,(G4 fun b hb=>rowP_ok b hb).1.1⟩,h3⟩
theorem JP {t:VT}{n:Nat}{h1:VH}{bs:List Id}(he:∀b,look (puts (frz (toH h) bs) (toH h)) b=look (toH h1) b):Weak P N K (VSt.toD ⟨t,h,n⟩) (VSt.toD ⟨t,h1,n⟩):=
 Weak.trans (Hh bs) fun _ _ _ _ _ _ hs=>hs.congr (fun _=>rfl) (fun b=>(he b).symm) rfl
def O4 (t:VT)(h:VH):List Nat→List Nat
 |[]=>[]
 |k::l=>(match aW t k with
  |some (.ptr b _)=>(match aW h b with|some x=>xN x|none=>[])
  |some v=>gB v
  |none=>[])++O4 t h l
def M2 (m:Nat)(fs ts:List Nat)(σ:VSt)(Q:VSt→Prop):Prop:=
 match σ with|⟨t0,h0,n0⟩=>OF h0 (O4 t0 h0 fs) fun h=>O6 m ts ⟨t0,h,n0⟩ Q
theorem CC {m:Nat}(hK:KB m K){fs ts:List Nat}{K1:VSt→Prop}(h:M2 m fs ts σ K1):∃σ',Weak P N K σ.toD σ'.toD∧K1 σ':=by
 obtain⟨t0,h0,n0⟩:=σ
 obtain⟨h1,⟨bs,he⟩,h2⟩:=EO h
 obtain⟨σ',w1,h4⟩:=K5 (P:=P) (N:=N) hK h2
 exact⟨σ',Weak.trans (JP he) w1,h4⟩
theorem AY {c:Code}{σ':VSt}(hw:Weak P N K σ.toD σ'.toD)(h:At P N K c Q σ'):At P N K c Q σ:=by
 obtain⟨e,σ1,h1,h2⟩:=h
 exact⟨e,σ1,.pre hw h1,h2⟩
theorem vg {c:Code}{t:VT}{n:Nat}(k:Nat)(x:VB)(hx:x.blks=[])(ha:At P N K c Q ⟨t,h++[(k,x)],n⟩):At P N K c Q ⟨t,h,n⟩:=by
 refine AY (σ':=⟨t,h++[(k,x)],n⟩) (fun _ _ _ _ _ _ hs=>hs.congr (fun _=>rfl) (fun b=>?_) rfl) ha
 show look (toH (h++[(k,x)])) b=look (toH h) b
 rw[ap,ap,iy]
 cases hl:look h b.1 with
 |some y=>rfl
 |none=>
  simp only[look]
  split
  ·simp[hx]
  ·rfl
def Ni (back:VSt→Prop)(Q:Exit→VSt→Prop):Exit→VSt→Prop
 | .normal,σ=>back σ
 |e,σ=>Q e σ
theorem ah {α:Type}{c:Code}{m:Nat}(hK:KB m K)(fs ts:List Nat)(st:α→VSt)(p:α→Prop)(μ:α→Nat)(x0:α)(h0:p x0)(hg:M2 m fs ts σ fun σ'=>σ'=st x0)
  (round:∀x,p x→At P N K c (Ni (fun σ'=>M2 m fs ts σ' fun σ2=>∃y,p y∧μ y<μ x∧σ2=st y) Q) (st x)):At P N K (.loop c) Q σ:=by
 have key:∀n x,μ x=n→p x→∃e σ',LoopB P N K c (st x).toD e σ'.toD∧(ir P N K σ'.toD→Q e σ'):=by
  intro n
  induction n using Nat.strongRecOn with
  |_ n ih=>
   intro x hn hp
   obtain⟨e,σ1,h1,h2⟩:=round x hp
   cases e with
   |normal=>
    rcases jJ (ir P N K σ1.toD) with hr|hr
    ·obtain⟨σ2,w1,y,q1,q2,rfl⟩:=CC (P:=P) (N:=N) hK (h2 hr)
     obtain⟨e,σ3,h3,h4⟩:=ih (μ y) (by omega) y rfl q1
     exact⟨e,σ3,.round h1 (.pre w1 h3),h4⟩
    ·exact⟨.ret,σ1,.round h1 (.out (by simp) (j8 hr _ _)),fun h=>absurd h hr⟩
   |_=>exact⟨_,σ1,.out (by simp) h1,h2⟩
 obtain⟨σ0,w0,rfl⟩:=CC (P:=P) (N:=N) hK hg
 obtain⟨e,σ1,h1,h2⟩:=key _ x0 rfl h0
 exact⟨e,σ1,.pre w0 (.loop h1),h2⟩
def Ft:V→Bool
 | .ptr .. | .eptr .. | .iptr .. | .box .. | .aptr .. | .fptr .. | .feptr .. | .faptr ..=>true
 |_=>false
theorem C5 {v:V}(h:Ft v=true):fa v.toD=true:=by cases v<;>first|rfl|cases h
def Do (Θ:TT)(σ:VSt):List ResultVar→(List V→Prop)→Prop
 |[],K=>K []
 | .tmp k::rs,K=>(match aW σ.t k with
  |some v=>Do Θ σ rs fun vs=>K (v::vs)
  |none=>Do Θ σ rs fun vs=>K (.undef::vs))
 | .cell k T::rs,K=>bK σ.t k fun v=>Chk (Ft v) (bK Θ T fun ti=>yh ti σ.h v fun r=>Do Θ σ rs fun vs=>K (r::vs))
theorem rN {Θ:TT}(hΘ:Θ.ok P):∀{rs:List ResultVar} {K:List V→Prop},Do Θ σ rs K→∃vs,rs.mapM (th P σ.toD)=some (ak vs)∧K vs
 |[],K,h=>⟨[],rfl,h⟩
 | .tmp k::rs,K,h=>by
  simp only[Do,aS] at h
  split at h
  ·rename_i v e
   obtain⟨vs,h1,h2⟩:=rN hΘ h
   have hr:th P σ.toD (.tmp k)=some v.toD:=by simp only[th,VSt.toD,du,e,aJ,eg]
   exact⟨v::vs,by simp only[iI,hr,h1,ak];rfl,h2⟩
  ·rename_i e
   obtain⟨vs,h1,h2⟩:=rN hΘ h
   have hr:th P σ.toD (.tmp k)=some V.undef.toD:=by simp only[th,VSt.toD,du,e,Option.map_none,Option.getD_none];rfl
   exact⟨.undef::vs,by simp only[iI,hr,h1,ak];rfl,h2⟩
 | .cell k T::rs,K,h=>by
  obtain⟨v,l1,h1⟩:=aH h
  obtain⟨c,h2⟩:=h1.ok
  obtain⟨ti,l2,h3⟩:=aH h2
  obtain⟨r,h4,h5⟩:=sY (hΘ _ _ l2) h3
  obtain⟨vs,h6,h7⟩:=rN hΘ h5
  refine⟨r::vs,?_,h7⟩
  have hr:th P σ.toD (.cell k T)=some r.toD:=by
   simp only[th,VSt.toD,du,l1,aJ,bc,C5 c,if_true,h4]
  simp only[iI,hr,h6,ak]
  rfl
def L6:List V→V
 |[v]=>v
 |vs=>.tup vs
theorem IP (vs:List V):one (ak vs)=(L6 vs).toD:=by
 match vs with
 |[]=>rfl
 |[v]=>rfl
 |v::v'::vs=>rfl
theorem EN {g g':HL}(he:∀b,look g b=look g' b)(d:D):fwd g d=fwd g' d:=pN fun b _=>he b
theorem Rn.congr {h1 h2 h':HL}{g:Id→Id}(he:∀b,look h1 b=look h2 b){d d':D}(hr:Rn h1 g h' d d'):Rn h2 g h' d d':=by
 have hl:∀b,Live h2 b→Live h1 b:=fun b hb=>by unfold Live at hb⊢;rw[he];exact hb
 induction hr with
 |ref b hb=>exact .ref b fun h=>hb (hl _ h)
 |ptr b o hb=>exact .ptr b o fun h=>hb (hl _ h)
 |eptr b i o hb=>exact .eptr b i o fun h=>hb (hl _ h)
 |vref b o n hb=>exact .vref b o n fun h=>hb (hl _ h)
 |lst b l hb=>exact .lst b l (by rw[←he];exact hb)
 |box b cs hb=>exact .box b cs (by rw[←he];exact hb)
 |fwd d d' hd ih=>exact .fwd d d' (by rw[←EN he];exact ih)
 |pure d hd=>exact .pure d hd
 |nils=>exact .nils
 |iptr e o=>exact .iptr e o
 |gv k=>exact .gv k
 |agg cs cs' hl hc ih=>exact .agg cs cs' hl ih
 |tup cs cs' hl hc ih=>exact .tup cs cs' hl ih
 |clo f cs cs' hl hc ih=>exact .clo f cs cs' hl ih
 |ifc T d d' hd ih=>exact .ifc T d d' ih
 |undef d=>exact .undef d
 |junk=>exact .junk
theorem Ren.congr {h1 h2 h':HL}{g:Id→Id}(he:∀b,look h1 b=look h2 b)(hr:Ren h1 g h'):Ren h2 g h':=by
 refine⟨fun b x' hx=>?_,hr.inj⟩
 obtain⟨x,h3,h4⟩:=hr.blk b x' hx
 refine⟨x,by rw[←he];exact h3,?_⟩
 cases h4 with
 |var T cs cs' hl hc=>exact .var T cs cs' hl fun i hi=>(hc i hi).congr he
 |row E l l' hl hc=>exact .row E l l' hl fun i hi=>⟨(hc i hi).1.congr he,fun s hs=>⟨((hc i hi).2 s hs).1,fun j hj=>(((hc i hi).2 s hs).2 j hj).congr he⟩⟩
 |froz l=>exact .froz l
 |fvar cs=>exact .fvar cs
 |gone x=>exact .gone x
def zG (Θ:TT)(rs:List ResultVar)(m:Nat)(pr:Bool)(σ:VSt)(Q:V→VH→Prop):Prop:=
 match σ with
 |⟨t0,h0,n0⟩=>Do Θ ⟨t0,h0,n0⟩ rs fun vs=>OF h0 (match pr with|true=>gB (L6 vs)|false=>[]) fun h=>d6 h (L6 vs) fun v=>vS h (gA (List.range' 4 m) (FF h (gB v))) fun os=>Fx m os h n0 fun hout=>ci os v fun r=>Q r hout
theorem Bp {Θ:TT}(hΘ:Θ.ok P){rs:List ResultVar}{m:Nat}(hK:KB m K){pr:Bool}{Q:V→VH→Prop}(h:zG Θ rs m pr σ Q):∃r hout,pA P rs K σ.toD r.toD (toH hout)∧Q r hout:=by
 obtain⟨t0,h0,n0⟩:=σ
 obtain⟨vs,r1,h1⟩:=rN hΘ h
 obtain⟨hh,⟨bs,he⟩,h2⟩:=EO h1
 obtain⟨v,f1,h3⟩:=m8 h2
 obtain⟨os,h4⟩:=sH h3
 obtain⟨hout,q1,q2,q3,q4,h5⟩:=x6 h4
 obtain⟨r,b1,_,h6⟩:=lY (h:=hh) (n:=n0) h5
 refine⟨r,hout,⟨_,bs,_,r1,?_,q2.congr fun b=>(he b).symm,fun b hb hl=>?_⟩,h6⟩
 ·refine Rn.congr (fun b=>(he b).symm) ?_
  rw[IP]
  refine .fwd _ _ ?_
  rw[f1]
  exact b1 hout q1
 ·refine q3 K hK b hb ?_
  have hl2:=mj (bs:=bs) hl
  unfold Live at hl2⊢
  rw[←he]
  exact hl2
theorem kE {l:List D}{i:Nat}(hi:i<l.length):∀b∈al (l.getD i .undef),b∈bC l:=by
 refine jS ?_
 rw[aq,am hi]
 exact be hi
theorem ul (d:D):∀c∈d.cells,∀b∈al c,b∈al d:=by
 intro c hc b hb
 cases d with
 |agg cs=>simp only[al];exact jS hc b hb
 |_=>simp only[D.cells,aY] at hc;subst hc;exact hb
theorem Rn.sub {h h' h2:HL}{g:Id→Id}{d d':D}(hr:Rn h g h' d d'):(∀b∈al d',Live h' b→Live h2 b)→Rn h g h2 d d':=by
 induction hr with
 |ref b hb=>intro hs;exact .ref b fun h=>hs b (by simp[al]) (hb h)
 |ptr b o hb=>intro hs;exact .ptr b o fun h=>hs b (by simp[al]) (hb h)
 |eptr b i o hb=>intro hs;exact .eptr b i o fun h=>hs b (by simp[al]) (hb h)
 |vref b o n hb=>intro hs;exact .vref b o n fun h=>hs b (by simp[al]) (hb h)
 |lst b l hb=>intro _;exact .lst b l hb
 |box b cs hb=>intro _;exact .box b cs hb
 |fwd d d' hd ih=>intro hs;exact .fwd d d' (ih hs)
 |pure d hd=>intro _;exact .pure d hd
 |nils=>intro _;exact .nils
 |iptr e o=>intro _;exact .iptr e o
 |gv k=>intro _;exact .gv k
 |agg cs cs' hl hc ih=>intro hs;exact .agg cs cs' hl fun i hi=>ih i hi fun b hb=>hs b (by simp only[al];exact kE (by omega) b hb)
 |tup cs cs' hl hc ih=>intro hs;exact .tup cs cs' hl fun i hi=>ih i hi fun b hb=>hs b (by simp only[al];exact kE (by omega) b hb)
 |clo f cs cs' hl hc ih=>intro hs;exact .clo f cs cs' hl fun i hi=>ih i hi fun b hb=>hs b (by simp only[al];exact kE (by omega) b hb)
 |ifc T d d' hd ih=>intro hs;exact .ifc T d d' (ih fun b hb=>hs b (by simpa only[al] using hb))
 |undef d=>intro _;exact .undef d
 |junk=>intro _;exact .junk
def Hv:Blk→List Id
 | .var _ cs=>bC cs
 | .row _ l=>bC l
 |_=>[]
theorem RnB.sub {h h' h2:HL}{g:Id→Id}{x x':Blk}(hr:RnB h g h' x x')(hs:∀b∈Hv x',Live h' b→Live h2 b):RnB h g h2 x x':=by
 cases hr with
 |var T cs cs' hl hc=>exact .var T cs cs' hl fun i hi=>(hc i hi).sub fun b hb=>hs b (kE (by omega) b hb)
 |row E l l' hl hc=>
  refine .row E l l' hl fun i hi=>⟨(hc i hi).1.sub fun b hb=>hs b (kE (by omega) b hb),fun s hw=>⟨((hc i hi).2 s hw).1,fun j hj=>(((hc i hi).2 s hw).2 j hj).sub fun b hb=>hs b (kE (i:=i) (by omega) b ?_)⟩⟩
  have hw2:=((hc i hi).2 s hw).1
  have hj2:j<(l'.getD i .undef).cells.length:=by rw[hw2.1];exact hj
  refine ul _ ((l'.getD i .undef).cells.getD j .undef) ?_ b hb
  rw[aq (l:=(l'.getD i .undef).cells),am hj2]
  exact be _
 |froz l=>exact .froz l
 |fvar cs=>exact .fvar cs
 |gone x=>exact .gone x
theorem Bh (t:Ty)(x:t.den):∀b∈al (ai t x),b.1∈t.fams:=by
 have hh:∀(k:Nat) (o:Option Nat),∀b∈al (na k o),b.1=k:=fun k o b hb=>by
  cases o with
  |none=>cases hb
  |some i=>simp only[na,al,aY] at hb;rw[hb]
 intro b hb
 cases t
 case hr k=>simp only[ai] at hb;simp[Ty.fams,hh _ _ b hb]
 case hp k=>
  cases x with
  |none=>cases hb
  |some i=>simp only[ai,qI,al,aY] at hb;rw[hb];simp[Ty.fams]
 case vtxo k=>simp only[ai,al,bC,eB,gG] at hb;simp[Ty.fams,hh _ _ b hb]
 case pplm k=>simp only[ai,iT,gf,gH,al,bC,eB,gG] at hb;simp[Ty.fams,hh _ _ b hb]
 case pplo k k'=>
  simp only[ai,al,bC,eB,gG,bi] at hb
  rcases hb with hb|hb<;>simp[Ty.fams,hh _ _ b hb]
 case evto k=>simp only[ai,al,bC,eB,gG] at hb;simp[Ty.fams,hh _ _ b hb]
 case nod k=>simp only[ai,iT,gf,gH,al,bC,eB,gG] at hb;simp[Ty.fams,hh _ _ b hb]
 case ob t=>cases x<;>cases hb
 all_goals cases hb
theorem mb (t:Ty)(xs:List t.den):∀b∈bC (xs.map (ai t)),b.1∈t.fams:=by
 intro b hb
 rw[gL,en] at hb
 obtain⟨d,hd,hb⟩:=hb
 obtain⟨x,_,rfl⟩:=aD.1 hd
 exact Bh t x b hb
theorem wX {l m:List D}{b:Id}:b∈bC (l++m)↔b∈bC l∨b∈bC m:=by simp[gL]
theorem MU (y:VB):∀d∈y.blks,∀b∈Hv d,b.1∈xN y++y.fams:=by
 intro d hd b hb
 rw[bi]
 cases y with
 |var T cs=>simp only[VB.blks,aY] at hd;subst hd;exact .inl (eq cs b hb)
 |vari T pre m t xs post=>
  simp only[VB.blks,aY] at hd
  subst hd
  simp only[Hv,wX] at hb
  rcases hb with(hb|hb)|hb
  ·exact .inl (ey _ (eq _ b hb))
  ·exact .inr (mb t xs b hb)
  ·exact .inl (eV _ (eq _ b hb))
 |row E t xs=>simp only[VB.blks,aY] at hd;subst hd;exact .inr (mb t xs b hb)
 |lit E vs=>simp only[VB.blks,aY] at hd;subst hd;exact .inl (eq vs b hb)
 |fvar T t xs=>
  obtain⟨x,_,rfl⟩:=aD.1 hd
  simp only[Hv,gL,en] at hb
  obtain⟨c,hc,hb⟩:=hb
  exact .inr (Bh t x b (ul _ c hc b hb))
 |fvari T m t xss=>obtain⟨xs,_,rfl⟩:=aD.1 hd;exact .inr (mb t xs b hb)
 |frow E t xss=>obtain⟨xs,_,rfl⟩:=aD.1 hd;exact .inr (mb t xs b hb)
 |frowx E t xss=>
  obtain⟨xs,_,rfl⟩:=aD.1 hd
  cases xs with
  |none=>cases hb
  |some xs=>exact .inr (mb t xs b hb)
 |froz t xs=>simp only[VB.blks,aY] at hd;subst hd;cases hb
 |fvb t x=>simp only[VB.blks,aY] at hd;subst hd;cases hb
 |moved k i=>simp only[VB.blks,aY] at hd;subst hd;cases hb
 |gone=>simp only[VB.blks,aY] at hd;subst hd;cases hb
def E4:VH→Bool
 |[]=>false
 |(k,_)::l=>Nat.blt k 4||E4 l
def Kf (S:List Nat)(j:Nat):Bool:=Nat.ble 4 j||S.contains j
def IF (S l:List Nat):Bool:=l.all (Kf S)
def B6 (h:VH)(S:List Nat):List Nat:=h.flatMap fun p=>match Kf S p.1 with|true=>(xN p.2++p.2.fams).filter fun k=>Nat.blt k 4|false=>[]
def FV (S fs0:List Nat)(r:V)(h:VH):Bool:=IF S fs0 && IF S (gB r) && h.all fun p=>!Kf S p.1||IF S (xN p.2++p.2.fams)
def xG (S:List Nat):VH→(VH→Prop)→Prop
 |[],K=>K []
 |(j,x)::l,K=>match Kf S j with
  |true=>xG S l fun r=>K ((j,x)::r)
  |false=>xG S l K
theorem sD {S:List Nat}:∀{l:VH} {K:VH→Prop},xG S l K→∃l',(∀j,look l' j=if Kf S j=true then look l j else none)∧K l'
 |[],K,h=>⟨[],fun j=>by simp[look],h⟩
 |(k,x)::l,K,h=>by
  simp only[xG] at h
  split at h
  ·rename_i e
   obtain⟨l',h1,h2⟩:=sD (l:=l) h
   refine⟨_,fun j=>?_,h2⟩
   simp only[look,h1]
   by_cases ej:j=k
   ·subst ej;simp[e]
   ·simp[ej]
  ·rename_i e
   obtain⟨l',h1,h2⟩:=sD (l:=l) h
   refine⟨_,fun j=>?_,h2⟩
   simp only[look,h1]
   by_cases ej:j=k
   ·subst ej;simp[e]
   ·simp[ej]
def qC (fs0:List Nat)(r:V)(h:VH)(K:VH→Prop):Prop:=
 match E4 h with
 |false=>K h
 |true=>gh (gA [] (fs0++(gB r).filter fun k=>Nat.blt k 4)) fun S=>gh (gA S (B6 h S)) fun S=>gh (gA S (B6 h S)) fun S=>gh (gA S (B6 h S)) fun S=>Chk (FV S fs0 r h) (xG S h K)
theorem xr {fs0:List Nat}{r:V}{rs:List ResultVar}{σ:VSt}{K:Id→Prop}(hK:∀b,K b→b.1<4→b.1∈fs0){h:VH}{Q:VH→Prop}(hr:pA P rs K σ.toD r.toD (toH h))(hk:qC fs0 r h Q):∃h',pA P rs K σ.toD r.toD (toH h')∧Q h':=by
 unfold qC at hk
 split at hk
 ·exact⟨h,hr,hk⟩
 ·have hk:=cy (cy (cy (cy hk)))
  obtain⟨c,hk⟩:=hk.ok
  generalize gA _ (B6 h _)=S at *
  simp only[FV,IF,aB,aM,cK,fV] at c
  obtain⟨⟨c1,c2⟩,c3⟩:=c
  obtain⟨h',h1,h2⟩:=sD hk
  refine⟨h',?_,h2⟩
  have hl:∀b:Id,look (toH h') b=if Kf S b.1=true then look (toH h) b else none:=by
   intro b
   rw[ap,ap,h1]
   split<;>rfl
  have hlv:∀b:Id,Kf S b.1=true→Live (toH h) b→Live (toH h') b:=by
   intro b hb hv
   unfold Live at hv⊢
   rw[hl,if_pos hb]
   exact hv
  obtain⟨ds,bs,g,r1,r2,r3,r4⟩:=hr
  refine⟨ds,bs,g,r1,r2.sub fun b hb=>hlv b (c2 _ (kG r b hb)),⟨fun b x' hx=>?_,fun b b2 x y hx hy=>?_⟩,fun b hb hv=>?_⟩
  ·rw[hl] at hx
   split at hx
   ·rename_i e
    obtain⟨x,q1,q2⟩:=r3.blk b x' hx
    refine⟨x,q1,q2.sub fun b2 hb2=>hlv b2 ?_⟩
    rw[ap] at hx
    obtain⟨y,hy1,hy2⟩:=bF.1 hx
    rcases c3 _ (dt hy1) with h0|h0
    ·simp only at h0;rw[e] at h0;cases h0
    ·exact h0 _ (MU y x' (bn hy2) b2 hb2)
   ·cases hx
  ·rw[hl] at hx hy
   split at hx
   ·split at hy
    ·exact r3.inj b b2 x y hx hy
    ·cases hy
   ·cases hx
  ·obtain⟨q1,q2⟩:=r4 b hb hv
   refine⟨q1,hlv b ?_ q2⟩
   rcases ct b.1 4 with hlt|hge
   ·exact c1 _ (hK b hb hlt)
   ·have:Nat.ble 4 b.1=true:=by rw[Nat.ble_eq];exact hge
    simp[Kf,this]
def mc (h:VH):List Nat:=(keysV h).filter fun k=>Nat.blt k 4
def HY (Q:VSt→Prop):Exit→VSt→Prop
 | .normal,σ=>Q σ
 | .ret,σ=>Q σ
 |_,_=>False
def ae:List V→Nat→VT
 |[],_=>[]
 |v::l,k=>(k,v)::ae l (k+1)
theorem sd:∀(l:List V) (k:Nat),((ak l).zipIdx k).map (fun x=>(x.2,x.1))=fW (ae l k)
 |[],k=>rfl
 |v::l,k=>by simp[ak,mG,ae,sd l (k+1),fW]
theorem ur {hin:VH}{n0:Nat}(hl:Ab n0 hin=true):∀b:Id,n0≤b.1→look (toH hin) b=none:=by
 intro b hb
 rw[ap]
 cases hx:look hin b.1 with
 |none=>rfl
 |some x=>
  have:=wc hl b.1 (aD.2 ⟨_,dt hx,rfl⟩)
  omega
theorem l9 {Θ : TT} (hΘ : Θ.ok P) {f : FuncId} {fn : Func} {c : Code} (hf : P.funcs[f]? = some fn) (hb : fn.body = some c) (hname : (fn.name == "runtime.NumGoroutine") = false) (pr : Bool) {vs : List V} {hin : VH} (m n0 : Nat) (hn0 : 4 + m = n0) (hlt : Ab n0 hin = true) (hnd : ki (keysV hin) = true) (hl : Nat.ble vs.length fn.ntmps = true)
  {R:V→VH→Prop} {r0:V} {hout0:VH} (h0:R r0 hout0)
  (h:∀K,KB m K→(∀d∈ak vs,bnd 6 d)→(∀x∈hin,∀d∈x.2.blks,bndB 6 d)→At P fn.ntmps K c (HY fun σ=>zG Θ fn.results.toList m pr σ fun r hout=>qC (mc hin) r hout (R r)) ⟨ae vs 0,hin,n0⟩):∃r hout,R r hout∧ag P f vs hin r hout:=by
 have hlen:(ak vs).length≤fn.ntmps:=by rw[aL];exact Nat.le_of_ble_eq_true hl
 have e1:uk (ak vs)=fW (ae vs 0):=sd vs 0
 have hfr:=ur hlt
 have hK:KB m (Live (toH hin)):=by
  intro b hb
  rcases ct b.1 (4+m) with hlt|hge
  ·exact hlt
  ·unfold Live at hb
   rw[hfr b (by omega)] at hb
   cases hb
 have hbnd:(∀b x,look (toH hin) b=some x→bndB 6 x)→∀x∈hin,∀d∈x.2.blks,bndB 6 d:=by
  rintro hq ⟨k,x⟩ hx d hd
  obtain⟨i,hi⟩:=gw hd
  exact hq (k,i) d (av (iz (by rw[fp];exact je hnd) hx) hi)
 rcases jJ ((∀d∈ak vs,bnd 6 d)∧∀b x,look (toH hin) b=some x→bndB 6 x) with hbb|hbb
 ·obtain⟨e,σ',h1,h2⟩:=h _ hK hbb.1 (hbnd hbb.2)
  rcases jJ (ir P fn.ntmps (Live (toH hin)) σ'.toD) with hr|hr
  ·have h3:=h2 hr
   have hfin:(e= .normal∨e= .ret)∧zG Θ fn.results.toList m pr σ' fun r hout=>qC (mc hin) r hout (R r):=by
    cases e with
    |normal=>exact⟨.inl rfl,h3⟩
    |ret=>exact⟨.inr rfl,h3⟩
    |_=>exact h3.elim
   obtain⟨r,hout1,q1,q2⟩:=Bp hΘ hK hfin.2
   obtain⟨hout,q1,q2⟩:=xr (fun b hb hlt=>by
    unfold Live at hb
    rw[ap] at hb
    obtain⟨d,hd⟩:=mK.1 hb
    obtain⟨y,hy,-⟩:=bF.1 hd
    simp only[mc,dW]
    exact⟨by rw[←fp];exact aD.2 ⟨_,dt hy,rfl⟩,by simpa[Nat.blt_eq] using hlt⟩) q1 q2
   refine⟨r,hout,q2,zw hf hb hname rfl rfl hlen hfr fun _ _=>⟨e,σ'.toD,?_,fun _=>⟨hfin.1,q1⟩⟩⟩
   rw[e1]
   exact h1
  ·refine⟨r0,hout0,h0,zw hf hb hname rfl rfl hlen hfr fun _ _=>⟨e,σ'.toD,?_,fun h=>absurd h hr⟩⟩
   rw[e1]
   exact h1
 ·exact⟨r0,hout0,h0,zw hf hb hname rfl rfl hlen hfr fun b1 b2=>absurd ⟨b1,b2⟩ hbb⟩
theorem ab {Θ : TT} (hΘ : Θ.ok P) {f : FuncId} {fn : Func} {c : Code} (hf : P.funcs[f]? = some fn) (hb : fn.body = some c) (hname : (fn.name == "runtime.NumGoroutine") = false) (pr : Bool) {vs : List V} {hin : VH} (m n0 : Nat) (hn0 : 4 + m = n0) (hlt : Ab n0 hin = true) (hnd : ki (keysV hin) = true) (hl : Nat.ble vs.length fn.ntmps = true) {r : V} {hout : VH}
  (h:∀K,KB m K→(∀d∈ak vs,bnd 6 d)→(∀x∈hin,∀d∈x.2.blks,bndB 6 d)→At P fn.ntmps K c (HY fun σ=>zG Θ fn.results.toList m pr σ fun r' hout'=>qC (mc hin) r' hout' fun hout'=>r'=r∧hout'=hout) ⟨ae vs 0,hin,n0⟩):ag P f vs hin r hout:=by
 obtain⟨r',hout',⟨rfl,rfl⟩,h2⟩:=l9 hΘ hf hb hname pr m n0 hn0 hlt hnd hl (R:=fun r' hout'=>r'=r∧hout'=hout) ⟨rfl,rfl⟩ h
 exact h2
end Go.Proofs.YtpefhoohfkeflaaGreatDoor.Am
namespace Go.Proofs.YtpefhoohfkeflaaGreatDoor.Am
open Go Go.RowKit Go.ChangeShapes Go.WideShapes Go.ChangeAt
section
variable {H:Type} {enc:TypeId×Value→H} {P:Program}
theorem n4 {f:Func}{s:ChangeSpec}{apart fresh handsOn again:Bool}{W W':World}{args:Array Value}{v:Value}{ds gs:List (DataW H)}{before pa pv:List MemPlace}
  (hW:DataW.Whole enc P f.params.toList s.vars apart W args.toList ds gs before)
  (hres:∀(b:Nat) (sp:Nat→Bool) (hd:Bool),DataW.TrodAll enc P W' b sp hd f.resultTypes.toList (v.resultList f.resultTypes.size) (s.fn H (ds++gs)).results [])
  (hargs:∀sp:Nat→Bool,(∀p∈before,sp p.block=true)→DataW.TrodAll enc P W' 0 sp true f.params.toList args.toList (s.fn H (ds++gs)).args pa)
  (hvars:∀sp:Nat→Bool,(∀p∈before,sp p.block=true)→DataW.TrodVars enc P W' sp s.vars (s.fn H (ds++gs)).vars pv)
  (hps:before=pa++pv) (hb:Below W.heap.size W W')
  (hok:∀(j:Nat) (t:TypeId) (r:Value),f.resultTypes[j]?=some t→(v.resultList f.resultTypes.size)[j]?=some r→Value.okWide P W' .any 0 t r):
  s.post enc P f apart fresh handsOn again W args v W':=by
 have hlt:∀p∈before,p.block<W.heap.size:=fun p hp=>hW.lt p hp
 have hold:∀p∈before,(fun b=>decide (b<W.heap.size)) p.block=true:=fun p hp=>by simpa using hlt p hp
 refine⟨ds,gs,before,[],pa,pv,hW,hres _ _ _,hargs _ hold,hvars _ hold,World.keptBut_mono (fun p hp=>⟨hp,?_⟩) (hb.frame (· ∈before)),fun _=>?_⟩
 ·rw[hps,bi] at hp
  exact Or.inr hp
 ·obtain⟨_,_,_,_,_,hz,hn⟩:=hW
  refine⟨hok,_,_,([]++pa)++pv,⟨[]++pa,pv,trodAll_append (hargs _ (fun _ _=>rfl)) (hres _ _ _),hvars _ (fun _ _=>rfl),rfl,?_,?_⟩,?_⟩
  ·intro b off hp
   have hin:MemPlace.cell b off∈before:=by rw[hps];simpa using hp
   rw[hb.frozen (hlt _ hin)]
   exact hz b off hin
  ·intro ha
   have:=hn ha
   rw[hps] at this
   simpa using this
  ·intro p hp _
   rw[hps]
   simpa using hp
end
theorem pU {P:Program}{f:FuncId}{vs:List V}(h:ag P f vs [] (.bool true) []){w:World}{args:Array Value}(hl:(ak vs).length=args.size)
  (hr:∀i,i<(ak vs).length→Rep (fun k=>k<w.heap.size) w ((ak vs).getD i .undef) (args.getD i undef))
  (hg:∀g x,look Gl g=some x→g<w.heap.size∧∃ad,w.cell? ⟨g,0,none⟩=some (.iface x.1 (.pointer (some ad))):=by intro g x h;cases h)
  (ht:∀g zs,look Gt g=some zs→g<w.heap.size∧∃T fz,w.heap[g]?=some (.cells (zs.map (Value.int .u64)).toArray T fz):=by intro g x h;cases h):
  Calls P f args w fun e w'=>e= .returned (.bool true)∧Below w.heap.size w w':=by
 have hno:∀k,¬qJ (fun _=>⟨0,0,0,0⟩) (toH []) k:=by
  rintro k ⟨b,x,hb,-⟩
  cases hb
 have hs:Sim P w (qJ (fun _=>⟨0,0,0,0⟩) (toH [])) (fun _=>True) 0 (fun _=>⟨0,0,0,0⟩) [] (toH []) er w:=by
  refine⟨fun _ _=>trivial,fun _ _=>trivial,Fr.refl _ _,rfl,rfl,?_,?_,?_,?_,?_⟩
  ·intro k d hk;cases hk
  ·intro b x hx;cases hx
  ·intro b x hx;cases hx
  ·intro b b' x x' hx;cases hx
  ·exact⟨fun g x hx=>⟨⟨trivial,hno g,(hg g x hx).1⟩,(hg g x hx).2⟩,fun g x hx=>⟨⟨trivial,hno g,(ht g x hx).1⟩,(ht g x hx).2⟩⟩
 refine(h.2 w (fun _=>True) (fun _=>⟨0,0,0,0⟩) args hs hl fun i hi=>.pure ((hr i hi).mono fun b hb=>⟨⟨⟨hb,trivial⟩,fun b x hx=>by cases hx⟩,rfl⟩)).mono fun e w' he=>?_
 obtain⟨u,ρ',rfl,-,hs',hc⟩:=he
 refine⟨by rw[hc.bool_inv],⟨hs'.fr.os,hs'.fr.tape,hs'.fr.output,hs'.fr.size,fun k hk=>hs'.fr.block k hk (hno k)⟩⟩
theorem ga {w:World}{a:Addr}{v:Value}(h:w.cell? a=some v):a.block<w.heap.size:=by
 rcases ct a.block w.heap.size with hl|hl
 ·exact hl
 ·have:w.heap[a.block]?=none:=by simp[hl]
  simp[World.cell?,this] at h
theorem Jf {w:World}{l:List D}{a:Addr}{n cap:Nat}{g:Nat→Value}(hn:l.length=n)(hcap:n≤cap)(hmax:cap≤maxLen)(hl:∀e∈l,e.cells=[e]∧e.pure0=true)
  (hc:∀i,i<n→w.cell? (a.add i)=some (g i)) (hr:∀i,i<n→Rep (fun k=>k<w.heap.size) w (l.getD i .undef) (g i)):Rep (fun k=>k<w.heap.size) w (.lst l) (.slice (some a) n cap):=by
 cases l with
 |nil=>
  simp only[dG] at hn
  subst hn
  exact .none _ _ (fun h=>by cases h) hmax
 |cons x l=>
  have hp:0<n:=by rw[←hn];simp
  have hsz:szl (x::l)=1:=by show x.cells.length=1;rw[(hl x (bh ..)).1];rfl
  obtain⟨b,off,spot⟩:=a
  have hspot:spot=none:=by simpa[Addr.add] using World.cell?_spot (hc 0 hp)
  subst hspot
  have h0:=ga (hc 0 hp)
  refine .lst _ n b off cap (fun i _=>g i) hn hcap hmax h0 ?_ (by rw[hsz];omega) ?_ ?_
  ·intro e he
   rw[hsz]
   exact⟨by rw[(hl e he).1];rfl,by rw[(hl e he).1];simp[(hl e he).2]⟩
  ·intro i j hi hj
   rw[hsz] at hj⊢
   obtain rfl:j=0:=by omega
   have:=hc i hi
   rw[Go.WideShapes.add_plain] at this
   rw[iX,jK]
   exact this
  ·intro i j hi hj
   rw[hsz] at hj
   obtain rfl:j=0:=by omega
   have hi':i<(x::l).length:=by omega
   have e:(x::l).getD i .undef=(x::l)[i]:=by simp[aq,am hi']
   have h1:=(hl _ (be hi')).1
   have h2:=hr i hi
   rw[e] at h2⊢
   rw[h1]
   exact h2
theorem CN {H:Type}{enc:TypeId×Value→H}{P:Program}{W:World}{sp:Nat→Bool}{hd:Bool}{t e:TypeId}{v:Value}{d:DataW H}{p:List MemPlace}{base:Nat}(ht:P.underlying t=some (.slice e))(he:P.underlying e=some (.int .u8))(hc:P.cellsOf e=1)
  (hv:Value.okWide P W .any base t v) (h:DataW.Trod enc P W 0 sp hd t v d p):∃c:List Int,(∀x∈c,0≤x∧x≤255)∧Rep (fun k=>k<W.heap.size) W (V.lst (.int .u8) c).toD v:=by
 obtain⟨a0,len0,cap0,rfl⟩:=okWide_slice ht hv
 obtain⟨fuel,h⟩:=h
 rcases open_ints ht he hc h with⟨h1,-⟩|⟨a,len,cap,zs,h1,h2,h3,h4,h5,-,h6,h7⟩
 ·have h1:[Value.slice a0 len0 cap0]=[.slice none 0 0]:=h1
  cases h1
  exact⟨[],by simp,.none _ _ (fun _=>rfl) (aX _)⟩
 ·have h1:[Value.slice a0 len0 cap0]=[.slice (some a) len cap]:=h1
  cases h1
  have hle:len0≤zs.length:=by rw[h5];split<;>omega
  have hlen:(zs.take len0).length=len0:=by rw[bQ];omega
  refine⟨zs.take len0,fun x hx=>bounds_u8 (h7 x (j7 hx)),?_⟩
  show Rep _ _ (.lst ((zs.take len0).map (ai (.int .u8)))) _
  refine Jf (g:=fun i=>.int .u8 (zs.getD i 0)) (by rw[az,hlen]) h3 h4 ?_ (fun i hi=>h6 i (by omega)) ?_
  ·intro e he
   obtain⟨z,_,rfl⟩:=aD.1 he
   exact⟨rfl,rfl⟩
  ·intro i hi
   have e1:((zs.take len0).map (ai (.int .u8))).getD i .undef= .int .u8 (zs.getD i 0):=by
    have hi2:i<zs.length:=by omega
    simp[aq,bf,eA,hi,am hi2,ai]
   rw[e1]
   exact .int _ _
def JW (W:World)(T:Ty)(x:T.den)(cs:List Value):Prop:=cs.length=T.sz∧∀j,j<T.sz→Rep (fun k=>k<W.heap.size) W ((ai T x).cells.getD j .undef) (cs.getD j undef)
theorem BR {α:Type}{p:Nat→α→Prop}:∀n,(∀i,i<n→∃d,p i d)→∃l:List α,l.length=n∧∀i (h:i<l.length),p i l[i]
 |0,_=>⟨[],rfl,fun i h=>absurd h (Nat.not_lt_zero i)⟩
 |n+1,h=>by
  obtain⟨l,hl,hp⟩:=BR n fun i hi=>h i (by omega)
  obtain⟨d,hd⟩:=h n (by omega)
  refine⟨l++[d],by simp[hl],fun i hi=>?_⟩
  rcases ct i l.length with hlt|hge
  ·rw[List.getElem_append_left hlt]
   exact hp i hlt
  ·obtain rfl:i=l.length:=by simp at hi;omega
   rw[List.getElem_append_right (ax _)]
   simpa[hl] using hd
theorem row_cells {H:Type}{enc:TypeId×Value→H}{P:Program}{W:World}{sp:Nat→Bool}{hd:Bool}{t e:TypeId}{T:Ty}{cs:List Value}{fuel:Nat}{x:DataW H×List MemPlace}(hp:T.pure=true)(ht:P.underlying t=some (.slice e))(hc:P.cellsOf e=T.sz)
  (hel:∀fuel cs x,DataW.trod enc P W 0 sp hd fuel e cs=some x→∃d,JW W T d cs) (h:DataW.trod enc P W 0 sp hd fuel t cs=some x):∃(l:List T.den) (v:Value),cs=[v]∧Rep (fun b=>b<W.heap.size) W (V.lst T l).toD v:=by
 rcases DataW.trod_slice ht h with⟨h1,-⟩|⟨a,len,cap,elems,rest,n,-,h1,-,-,hl,hm,hlen,hel2,-,-⟩
 ·exact⟨[],_,h1,.none _ _ (fun _=>rfl) (aX _)⟩
 ·have each:∀i,i<len→∃d:T.den,∃cs',W.cells? 0 (a.add (i*T.sz)) T.sz=some cs'∧JW W T d cs':=by
   intro i hi
   have h2:=hel2 i hi
   rw[am (by omega),hc,bF] at h2
   obtain⟨cs',h3,h4⟩:=h2
   obtain⟨d,hd⟩:=hel _ _ _ h4
   exact⟨d,cs',h3,hd⟩
  obtain⟨l,hll,hlp⟩:=BR len each
  refine⟨l,_,h1,?_⟩
  show Rep _ W (.lst (l.map (ai T))) _
  by_cases hz:l=[]
  ·subst hz
   subst hll
   exact .none _ _ (fun h=>by cases h) hm
  ·have hpos:0<l.length:=List.length_pos_iff.2 hz
   have hsz:szl (l.map (ai T))=T.sz:=by
    cases l with
    |nil=>exact absurd rfl hz
    |cons y l=>exact(gc T y).1
   have cell:∀i j,i<l.length→j<T.sz→∃v,W.cell? ((a.add (i*T.sz)).add j)=some v∧Rep (fun k=>k<W.heap.size) W ((ai T (l[i]?.getD (l[0]'hpos))).cells.getD j .undef) v:=by
    intro i j hi hj
    obtain⟨cs',h3,h4,h5⟩:=hlp i hi
    have h6:=(World.cells?_some h3).2.2 j hj
    have hj':j<cs'.length:=by omega
    refine⟨cs'[j],by rw[h6,am hj'],?_⟩
    have:=h5 j hj
    rw[am hi]
    simp only[aq (l:=cs'),am hj',eg] at this
    exact this
   obtain⟨b,off,spot⟩:=a
   obtain⟨v0,hv0,-⟩:=cell 0 0 hpos T.sz_pos
   have hspot:spot=none:=by simpa[Addr.add] using World.cell?_spot hv0
   subst hspot
   have hb:=ga hv0
   refine .lst _ len b off cap (fun i j=>(W.cell? ⟨b,off+i*T.sz+j,none⟩).getD undef) (by simpa using hll) hl hm (by simpa[Addr.add] using hb) ?_ (by rw[hsz];exact T.sz_pos) ?_ ?_
   ·intro e he
    obtain⟨y,-,rfl⟩:=aD.1 he
    rw[hsz]
    exact kz hp y
   ·intro i j hi hj
    rw[hsz] at hj⊢
    obtain⟨v,hv,-⟩:=cell i j (by omega) hj
    rw[Go.WideShapes.add_plain,Go.WideShapes.add_plain] at hv
    rw[hv]
    rfl
   ·intro i j hi hj
    rw[hsz] at hj
    obtain⟨v,hv,hr⟩:=cell i j (by omega) hj
    rw[Go.WideShapes.add_plain,Go.WideShapes.add_plain] at hv
    rw[hv]
    have e:(l.map (ai T)).getD i .undef=ai T (l[i]?.getD (l[0]'hpos)):=by
     have:i<l.length:=by omega
     simp[aq,am this]
    rw[e]
    exact hr
end Go.Proofs.YtpefhoohfkeflaaGreatDoor.Am
namespace Go.Proofs.YtpefhoohfkeflaaGreatDoor.Am
open Go Go.RowKit
theorem gj {φ K:Prop}(h:φ)(k:K):ck φ K:=⟨h,k⟩
theorem L1 {b:Bool}{K:Prop}(h:b=true)(k:K):Mk b K:=⟨h,k⟩
theorem KA {k:IntKind}{z:Int}{K:Int→Prop}(h:NC k z)(g:K z):Ari k z K:=.inl ⟨h,g⟩
theorem Kz {z:Int}{K:Int→Prop}(h:-9223372036854775808≤z∧z≤9223372036854775807)(g:K z):Ari .i64 z K:=.inl ⟨h,g⟩
theorem Ka {α:Type}{xs:List α}{i:Int}{K:Nat→α→Prop}(h0:0≤i)(hl:i.toNat<xs.length)(h:∀x,xs[i.toNat]?=some x→K i.toNat x):mQ xs i K:=
 ⟨h0,xs[i.toNat],am hl,h _ (am hl)⟩
theorem Nz {α:Type}{xs:List α}{i:Int}{K:Nat→α→Prop}{x:α}(h0:0≤i)(hx:xs[i.toNat]?=some x)(h:K i.toNat x):mQ xs i K:=⟨h0,x,hx,h⟩
theorem EV {α:Type}{xs:List α}{i:Nat}{K:α→Prop}(hl:i<xs.length)(h:∀x,xs[i]?=some x→K x):fK xs i K:=
 ⟨xs[i],am hl,h _ (am hl)⟩
theorem Ns {α:Type}{xs:List α}{i:Nat}{K:α→Prop}{x:α}(hx:xs[i]?=some x)(h:K x):fK xs i K:=⟨x,hx,h⟩
theorem Kb {α:Type}{xs:List α}{i:Nat}{K:Nat→α→Prop}(hl:i<xs.length)(h:∀x,xs[i]?=some x→K i x):mQ xs (i:Int) K:=
 ⟨Int.natCast_nonneg i,xs[i],am hl,h _ (am hl)⟩
theorem Lm {α:Type}{xs:List α}{i:Nat}{K:Nat→α→Prop}{x:α}(hx:xs[i]?=some x)(h:K i x):mQ xs (i:Int) K:=⟨Int.natCast_nonneg i,x,hx,h⟩
theorem J7 {α:Type}{xs:List α}{i:Nat}{K:α→Prop}(hl:i<xs.length)(h:∀x,xs[i]?=some x→K x):fK xs (i:Int).toNat K:=EV hl h
theorem K6 {α:Type}{xs:List α}{i:Nat}{K:α→Prop}{x:α}(hx:xs[i]?=some x)(h:K x):fK xs (i:Int).toNat K:=⟨x,hx,h⟩
theorem zr {b:Bool}{A B:Prop}(hb:b=true)(h:A):jM b A B:=⟨fun _=>h,fun h=>by rw[hb] at h;cases h⟩
theorem zq {b:Bool}{A B:Prop}(hb:b=false)(h:B):jM b A B:=⟨(fun h=>by rw[hb] at h;cases h),fun _=>h⟩
theorem D7 {b:Bool}{A B:Prop}(hb:b=false)(h:A):jM (!b) A B:=zr (by rw[hb];rfl) h
theorem D6 {b:Bool}{A B:Prop}(hb:b=true)(h:B):jM (!b) A B:=zq (by rw[hb];rfl) h
theorem KF {p:Prop}[Decidable p]{A B:Prop}(hp:p)(h:A):jM (decide p) A B:=zr (decide_eq_true hp) h
theorem KE {p:Prop}[Decidable p]{A B:Prop}(hp:¬p)(h:B):jM (decide p) A B:=zq (decide_eq_false hp) h
theorem D5 {p:Prop}[Decidable p]{A B:Prop}(h:p→A)(k:¬p→B):jM (decide p) A B:=⟨fun h'=>h (of_decide_eq_true h'),fun h'=>k (of_decide_eq_false h')⟩
theorem Nl {A B:Prop}(h:A):jM true A B:=⟨fun _=>h,fun h=>by cases h⟩
theorem Nk {A B:Prop}(h:B):jM false A B:=⟨(by intro h;cases h),fun _=>h⟩
theorem um {b:Bool}{A B:Prop}(h:b=true→A)(k:b=false→B):jM b A B:=⟨h,k⟩
theorem bg {P:Program}{f:FuncId}{vs:List V}{hin:VH}{K:V→VH→Prop}{r:V}{hout:VH}(h:ag P f vs hin r hout)(k:K r hout):cX P f vs hin K:=⟨r,hout,h,k⟩
theorem ou {P:Program}{f:FuncId}{vs:List V}{hin:VH}{K:V→VH→Prop}{α:Type}{R:α→Prop}{r:α→V}{hout:α→VH}(h:∃a,R a∧ag P f vs hin (r a) (hout a))(k:∀a,R a→K (r a) (hout a)):cX P f vs hin K:=by
 obtain⟨a,h1,h2⟩:=h
 exact⟨r a,hout a,h2,k a h1⟩
theorem MT {x:VB}{A B:Prop}(h:A):fC x x A B:=.inl ⟨rfl,h⟩
theorem MS {y x:VB}{A B:Prop}(h:B):fC y x A B:=.inr h
theorem Kj {α:Type}{A:Prop}{B:α→Prop}(h:A):i7 none A B:=⟨(fun _=>h),(fun x hx=>nomatch hx)⟩
theorem Kk {α:Type}{x:α}{A:Prop}{B:α→Prop}(h:B x):i7 (some x) A B:=⟨(fun hx=>nomatch hx),(fun y hy=>ar hy▸h)⟩
theorem L9 {α:Type}{o:Option α}{x:α}{A:Prop}{B:α→Prop}(he:o=some x)(h:B x):i7 o A B:=by subst he;exact Kk h
theorem L8 {α:Type}{o:Option α}{A:Prop}{B:α→Prop}(he:o=none)(h:A):i7 o A B:=by subst he;exact Kj h
theorem go {P Q:Prop}(h:Q)(s:Q→P:=by with_reducible first
  |exact L1 (by kernel_rfl)|exact Nl|exact Nk|exact zr (by assumption)|exact zq (by assumption)|exact D7 rfl|exact D6 rfl|exact D7 (by assumption)|exact D6 (by assumption)
  |exact KF (by first|assumption|omega|exact trivial|exact rfl)|exact KE (by first|assumption|omega)|exact NM (by assumption)
  |exact gj (by first|omega|assumption|decide|((try unfold lw);(try simp only[jI,aO,bH,dG,az,iG]);omega))
  |exact Kz (by omega)|exact Lm (by assumption)|exact Nz (by omega) (by assumption)|exact K6 (by assumption)|exact Ns (by assumption)
  |exact MT|exact MS|exact Kj|exact Kk|exact L9 (by assumption)|exact L8 (by assumption)|exact KA (by simp only[NC];omega)):P:=s h
theorem OK {α:Type}{P:Prop}{C Q:α→Prop}(h:∀x,C x→Q x)(s:(∀x,C x→Q x)→P:=by with_reducible first
  |exact Kb (by omega)|exact Ka (by omega) (by omega)|exact J7 (by omega)|exact EV (by first|omega|(simp only[bH,dG,jI,aO];omega))):P:=s h
theorem Nw (n:Int)(h:-9223372036854775808≤n∧n≤9223372036854775807):IntKind.i64.wrap n=n:=by rw[IntKind.wrap_i64];omega
theorem M1 {x y:Int}(hx:0≤x∧x<4611686018427387904)(hy:0≤y∧y<4611686018427387904):0≤IntKind.i64.wrap ((BitVec.ofInt IntKind.i64.bits x^^^BitVec.ofInt IntKind.i64.bits y).toNat:Nat):=by
 have hb:IntKind.i64.bits=64:=rfl
 rw[hb]
 have h1:(BitVec.ofInt 64 x).toNat<2^62:=by rw[BitVec.toNat_ofInt];omega
 have h2:(BitVec.ofInt 64 y).toNat<2^62:=by rw[BitVec.toNat_ofInt];omega
 have h3:(BitVec.ofInt 64 x^^^BitVec.ofInt 64 y).toNat<2^62:=by rw[BitVec.toNat_xor];exact Nat.xor_lt_two_pow h1 h2
 rw[Nw _ (by omega)]
 omega
variable {P:Program} {N:Nat} {K:Id→Prop}
def va:List V→Nat→Bool
 |[],0=>true
 | .nilp::l,m+1=>va l m
 |_,_=>false
theorem r6 {t:Ty}{d:t.den}(hd:ai t d= .nilp):∀{l:List V} {m:Nat},va l m=true→ak l=(List.replicate m d).map (ai t)
 |[],0,_=>rfl
 | .nilp::l,m+1,h=>by
  simp only[ak,List.replicate_succ,bB]
  rw[r6 hd (l:=l) (m:=m) h,hd]
  rfl
 |[],m+1,h=>by cases h
 |v::l,0,h=>by cases v<;>cases h
 | .int .. ::_,_+1,h| .bool _::_,_+1,h| .tt::_,_+1,h| .ff::_,_+1,h| .str _::_,_+1,h| .lst .. ::_,_+1,h| .box .. ::_,_+1,h| .agg _::_,_+1,h| .tup _::_,_+1,h
 | .nils::_,_+1,h| .nilf::_,_+1,h| .nili::_,_+1,h| .ifc .. ::_,_+1,h| .clo .. ::_,_+1,h| .ref _::_,_+1,h| .ptr .. ::_,_+1,h| .eptr .. ::_,_+1,h| .iptr .. ::_,_+1,h
 | .vref .. ::_,_+1,h| .aptr .. ::_,_+1,h| .fref .. ::_,_+1,h| .fptr .. ::_,_+1,h| .feptr .. ::_,_+1,h| .faptr .. ::_,_+1,h| .hro .. ::_,_+1,h| .hpo .. ::_,_+1,h| .obo .. ::_,_+1,h
 | .undef::_,_+1,h| .gp _::_,_+1,h| .gv _::_,_+1,h| .junk::_,_+1,h=>by cases h
def N4:(t:Ty)→Option t.den
 | .hp _=>some none
 | .ob _=>some none
 |_=>none
theorem JD:∀{t:Ty} {d:t.den},N4 t=some d→ai t d= .nilp
 | .hp _,_,h=>by cases h;rfl
 | .ob _,_,h=>by cases h;rfl
def OW (h:VH)(b p m:Nat)(t:Ty)(K:VH→Prop):Prop:=
 eX h b fun x=>(match x with
  | .var T cs=>tF cs p fun pre=>Mk (va (cs.drop p) m) (match N4 t with
   |some d=>Dm b (.vari T pre m t (List.replicate m d) []) h K
   |none=>False)
  |_=>False)
theorem DU {c:Code}{Q:Exit→VSt→Prop}{t:VT}{h:VH}{n:Nat}(b p m:Nat)(ty:Ty)(hk:OW h b p m ty fun h'=>At P N K c Q ⟨t,h',n⟩):At P N K c Q ⟨t,h,n⟩:=by
 obtain⟨x,h1,hk⟩:=bj hk
 split at hk
 ·rename_i T cs
  obtain⟨hl,c1,hk⟩:=pi hk
  split at hk
  ·rename_i dn hd
   have hd:=JD hd
   have ha:=rJ hk
   refine AY (σ':=⟨t,put b _ h,n⟩) (fun _ _ _ _ _ _ hs=>hs.congr (fun _=>rfl) (fun d=>?_) rfl) ha
   show look (toH (put b _ h)) d=look (toH h) d
   rw[ap,ap,af]
   split
   ·rename_i e
    rw[e,h1]
    have:VB.blks (.vari T (cs.take p) m ty (List.replicate m dn) [])=VB.blks (.var T cs):=by
     simp only[VB.blks,ak,gG]
     rw[←r6 hd c1]
     congr 2
     rw[dd,dd,dd,←cg,List.take_append_drop]
    simp only[bc,this]
   ·rfl
  ·exact hk.elim
 ·exact hk.elim
end Go.Proofs.YtpefhoohfkeflaaGreatDoor.Am
namespace Go.Proofs.YtpefhoohfkeflaaGreatDoor.Am
open Go Go.RowKit
variable {P:Program} {N:Nat} {K:Id→Prop} {σ:VSt} {Q:Exit→VSt→Prop}
end Go.Proofs.YtpefhoohfkeflaaGreatDoor.Am
namespace Go.Proofs.YtpefhoohfkeflaaGreatDoor.Am
open Go Go.RowKit
variable {P:Program} {w0:World} {S:SD} {A:Nat→Prop} {N:Nat} {ρ:Id→Pl} {t:List (Nat×D)} {h:HL} {a:Act} {w:World}
theorem tz {g:Nat}{c:Array Value}{T:TypeId}{v:Value}(hg:w.heap[g]?=some (.cells c T (0,0))):w.setCell ⟨g,0,none⟩ v=w.setRow g (c.setIfInBounds 0 v):=by
 have:w.heap.modify g (fun o=>match o with
   | .cells cs E fr=>.cells (cs.setIfInBounds 0 v) E fr
   |o=>o)=w.heap.modify g (fun o=>match o with
   | .cells _ E fr=>.cells (c.setIfInBounds 0 v) E fr
   |o=>o):=by
  apply Array.ext_getElem?
  intro i
  rw[n7,n7]
  by_cases e:g=i
  ·subst e
   simp[hg]
  ·simp[e]
 simp only[World.setCell,World.setRow]
 first|exact congrArg (fun x=>{w with heap:=x}) this|simpa using this
theorem Sim.cell0 (s:Sim P w0 S A N ρ t h a w){b:Id}{T:TypeId}{x:D}{cs:List D}(hb:look h b=some (.var T (x::cs)))(k:IntKind)(n:Int):Sim P w0 S A N ρ t (put b (.var T (.int k n::cs)) h) a (w.setCell ⟨(ρ b).blk,0,none⟩ (.int k n)):=by
 obtain⟨c,g1,g2,g3⟩:=s.blk b _ hb
 rw[tz g1]
 refine s.write hb rfl _ fun hC hR=>⟨_,setRow_heap w _ c _ T _ g1,by simpa using g2,fun j hj=>?_⟩
 have hpos:0<c.size:=by rw[g2];simp
 cases j with
 |zero=>
  have:(c.setIfInBounds 0 (.int k n)).getD 0 undef= .int k n:=by simp[bL,hpos]
  rw[this]
  exact C.int k n
 |succ j=>
  have:(c.setIfInBounds 0 (.int k n)).getD (j+1) undef=c.getD (j+1) undef:=by simp[bL,wO]
  rw[this]
  exact hC _ _ (g3 (j+1) (by simpa using hj))
theorem Sim.at0 (s:Sim P w0 S A N ρ t h a w){b:Id}{T:TypeId}{k:IntKind}{n:Int}{cs:List D}(hb:look h b=some (.var T (.int k n::cs))):w.cell? ⟨(ρ b).blk,0,none⟩=some (.int k n)∧w.frozen? ⟨(ρ b).blk,0,none⟩=false:=by
 obtain⟨c,g1,g2,g3⟩:=s.blk b _ hb
 have hpos:0<c.size:=by rw[g2];simp
 have h1:=(g3 0 (by simp)).int_inv
 rw[bL,eU hpos,eg] at h1
 refine⟨?_,?_⟩
 ·simp[World.cell?,g1,eU hpos,h1]
 ·simp[World.frozen?,g1]
theorem AU {vs:Array Value}(h:1=vs.size):∃v,vs= #[v]:=by
 refine⟨vs[0],Array.ext (by simp;omega) fun i h1 h2=>?_⟩
 match i,h2 with
 |0,_=>rfl
theorem D9 {L:Go.Conc.Locks.MuLink}(H:Go.Conc.Locks.MuLib P L){h:HL}{b:Id}{T:TypeId}{cs:List D}(hb:look h b=some (.var T (.int .i32 0::cs))):
  ∀hout:HL,(∀b',look hout b'=look (put b (.var T (.int .i32 1::cs)) h) b')→Con P L.lock [.ptr b 0] h (.tup []) hout:=by
 intro hout hh
 refine⟨⟨_,H.f_lock,rfl,rfl⟩,fun w A ρ vs s hl hcv=>?_⟩
 obtain⟨v,rfl⟩:=AU hl
 obtain⟨-,e0⟩:=(hcv 0 (by simp)).ptr_inv
 have e0:v= .pointer (some ⟨(ρ b).blk,0,none⟩):=e0
 subst e0
 obtain⟨q1,q2⟩:=s.at0 hb
 refine(Go.MuLone.lock_free H _ w q1 q2).mono ?_
 rintro e w' ⟨rfl,rfl⟩
 exact⟨_,ρ,rfl,fun b' hb'=>⟨rfl,by
  have:Live (put b (.var T (.int .i32 1::cs)) h) b':=hb'.put
  unfold Live at this⊢
  rw[hh]
  exact this⟩,(s.cell0 hb _ _).congr (fun _=>rfl) hh,.tup [] #[] rfl (fun i hi=>by simp at hi)⟩
theorem CQ {L:Go.Conc.Locks.MuLink}(H:Go.Conc.Locks.MuLib P L){h:VH}{T:TypeId}{cs:List V}(hb:look h 4=some (.var T (.int .i32 0::cs))):ag P L.lock [.ptr 4 0] h (.tup []) (put 4 (.var T (.int .i32 1::cs)) h):=by
 refine D9 (cs:=ak cs) H (av (i:=0) hb rfl) _ fun b'=>?_
 obtain⟨b1,b2⟩:=b'
 rw[ap,af,af,ap]
 by_cases e:b1=4
 ·subst e
  rw[if_pos rfl,hb]
  cases b2 with
  |zero=>rw[if_pos rfl];rfl
  |succ j=>rw[if_neg (by simp)];rfl
 ·rw[if_neg e,if_neg (fun h=>e (Prod.mk.inj h).1)]
def dU (fu:FuncId)(g:Nat):Deferred:={target:=.fn (.func fu) #[],args:=#[]++ #[.pointer (some ⟨g,0,none⟩)]}
theorem Sim.defs {dfs:List Deferred}(s:Sim P w0 S A N ρ t h a w):Sim P w0 ⟨S.S,dfs⟩ A N ρ t h {a with defers:=dfs} w:=
 ⟨s.base,s.inS,s.fr,rfl,s.size,s.tmp,s.blk,s.own,s.inj,s.gl⟩
theorem SimS.defs {dfs:List Deferred}{ρ0:Id→Pl}{K:Id→Prop}{σ:St}(s:SimS P w0 S A N ρ0 K σ a w):SimS P w0 ⟨S.S,dfs⟩ A N ρ0 K σ {a with defers:=dfs} w:=by
 obtain⟨h1,h2,ρ,h3,h4⟩:=s
 exact⟨h1,h2,ρ,h3,h4.defs⟩
def u4 (P:Program)(N:Nat)(K:Id→Prop)(fu:FuncId)(b:Id)(c:Code)(σ:St)(e:Exit)(σ':St):Prop:=
 ∀w0 S A ρ0 a w,S.dfs=[]→SimS P w0 S A N ρ0 K σ a w→c.wp P (fun e' a' w'=>e'=e∧SimS P w0 ⟨S.S,[dU fu (ρ0 b).blk]⟩ A N ρ0 K σ' a' w') a w
def Kv (P:Program)(N:Nat)(K:Id→Prop)(fu:FuncId)(b:Id)(c:Code)(Q:Exit→VSt→Prop)(σ:VSt):Prop:=∃e σ',u4 P N K fu b c σ.toD e σ'.toD∧(ir P N K σ'.toD→Q e σ')
variable {K:Id→Prop} {fu:FuncId} {b:Id} {Q:Exit→VSt→Prop} {σ:VSt}
theorem sf {c:Code}{σ:St}(h:¬ir P N K σ)(e:Exit)(σ':St):u4 P N K fu b c σ e σ':=fun w0 S A ρ0 a w _ hs=>absurd ⟨w0,S,A,ρ0,a,w,hs⟩ h
theorem q9 {x y:Code}(h:At P N K x (fun e σ=>e= .normal∧Kv P N K fu b y Q σ) σ):Kv P N K fu b (.seq x y) Q σ:=by
 obtain⟨e,σ1,h1,h2⟩:=h
 rcases jJ (ir P N K σ1.toD) with hr|hr
 ·obtain⟨rfl,e2,σ2,h3,h4⟩:=h2 hr
  refine⟨e2,σ2,fun w0 S A ρ0 a w hd hs=>wp_seq (wp_mono (h1 w0 S A ρ0 a w hs) ?_),h4⟩
  rintro e' a' w' ⟨rfl,hs'⟩
  exact h3 w0 S A ρ0 a' w' hd hs'
 ·rcases jJ (ir P N K σ.toD) with hr0|hr0
  ·refine⟨e,σ1,fun w0 S A ρ0 a w hd hs=>wp_seq (wp_mono (h1 w0 S A ρ0 a w hs) ?_),fun h=>absurd h hr⟩
   rintro e' a' w' ⟨rfl,hs'⟩
   exact absurd ⟨_,_,_,_,_,_,hs'⟩ hr
  ·exact⟨.normal,σ1,sf hr0 _ _,fun h=>absurd h hr⟩
theorem w5 {x y:Code}(h:Kv P N K fu b x (fun e σ=>e= .normal∧At P N K y Q σ) σ):Kv P N K fu b (.seq x y) Q σ:=by
 obtain⟨e,σ1,h1,h2⟩:=h
 rcases jJ (ir P N K σ1.toD) with hr|hr
 ·obtain⟨rfl,e2,σ2,h3,h4⟩:=h2 hr
  refine⟨e2,σ2,fun w0 S A ρ0 a w hd hs=>wp_seq (wp_mono (h1 w0 S A ρ0 a w hd hs) ?_),h4⟩
  rintro e' a' w' ⟨rfl,hs'⟩
  exact h3 w0 _ A ρ0 a' w' hs'
 ·refine⟨e,σ1,fun w0 S A ρ0 a w hd hs=>wp_seq (wp_mono (h1 w0 S A ρ0 a w hd hs) ?_),fun h=>absurd h hr⟩
  rintro e' a' w' ⟨rfl,hs'⟩
  exact absurd ⟨_,_,_,_,_,_,hs'⟩ hr
theorem s9 {ops:Array Oper}{ρ0:Id→Pl}{Q:Exit→Act→World→Prop}{r:List Nat}:∀(L:List (Oper×Rc)) (k:Nat) (t:List (Nat×D)) (h:HL) (n:Nat) (a:Act) (w:World) (ρ:Id→Pl),TRun P ops N t h n L→(∀b:Id,n≤b.1→look h b=none)→
  (∀b,K b→Live h b)→(∀b,K b→ρ b=ρ0 b)→(∀i,i<L.length→ops[k+i]?=(L[i]?).map (·.1))→Sim P w0 S A N ρ t h a w→
  (∀ρ a w,(∀b,K b→ρ b=ρ0 b)→Sim P w0 S A N ρ (kt (fun _=>true) k L t) (jy (fun _=>true) k L h) a w→wpOps P ops Q r a w)→wpOps P ops Q (List.range' k L.length++r) a w
 |[],k,t,h,n,a,w,ρ,_,_,_,hρ,_,s,hq=>hq ρ a w hρ s
 |(o,rc)::L,k,t,h,n,a,w,ρ,hT,hn,hK,hρ,hops,s,hq=>by
  obtain⟨⟨rfl,h1,h2,h3⟩,h4,h5⟩:=hT
  simp only[bH,List.range'_succ,gH]
  rw[wpOps_cons]
  unfold wpOp
  have ho:ops[k]?=some o:=by simpa using hops 0 (by simp)
  rw[ho]
  simp only
  have hn':∀b:Id,rc.n'≤b.1→look (puts rc.u h) b=none:=by
   intro b hb
   rw[aN _ _ _ fun x hx e=>by have:=h2 x hx;rw[e] at this;omega]
   exact hn b (by omega)
  have lU:∀(ρ':Id→Pl) (v:Value) (w':World),Ext h ρ ρ'→Sim P w0 S A N ρ' (iB o.dst rc.d t) (puts rc.u h) (a.put o.dst v) w'→wpOps P ops Q (List.range' (k+1) L.length++r) (a.put o.dst v) w':=by
   intro ρ' v w' hex s'
   exact s9 L (k+1) _ _ rc.n' _ w' ρ' h5 hn' (fun b hb=>np _ _ _ (hK b hb)) (fun b hb=>(hex b (hK b hb)).trans (hρ b hb)) (fun i hi=>by rw[show k+1+i=k+(i+1) by omega];exact hops (i+1) (by simpa using hi)) s' hq
  rcases h4 with⟨g1,g2⟩|⟨g1,g2,g3,g4⟩
  ·rw[s.guard g1]
   simp only[if_true]
   left
   have hw:=g2 t h (fun x hx=>rfl) (fun b hb=>rfl) _ _ _ ρ a w s
   refine Reg.wp_exit_mono (K:=tR P w0 S A N ρ t h (puts rc.u h) a o.dst rc.d) ?_ hw
   rintro a' w' ⟨v,ρ',rfl,hex,q1,q2⟩
   exact lU ρ' v w' hex (q1.putO h3 q2)
  ·rw[s.guard g1]
   simp only[fg,if_false]
   refine lU ρ undef w (Ext.refl _ _) ?_
   rw[g2,g3]
   exact s.putO h3 (.tup [] #[] rfl fun i hi=>absurd hi (Nat.not_lt_zero i))
theorem AW {Θ:TT}(hΘ:Θ.ok P){id:Nat}{ops:Array Oper}{l:List Oper}{od:Oper}{x:Tmp}{Ts:Array TypeId}(hops:ops.toList=l++[od])(hod:od.op= .defer {callee:=.value (.func fu),args:=#[.tmp x],argTypes:=Ts}∧od.guard=none∧od.dst=none)
  (hx:x<N) (h:lJ P Θ ops (fun _=>[]) false N l 0 [] σ (fun σ=>look (fW σ.t) x=some (.ptr b 0)∧K b∧Q .normal σ)):Kv P N K fu b (.region id ops false) Q σ:=by
 rcases jJ (¬ir P N K σ.toD) with hr|hr
 ·exact⟨.normal,σ,sf hr _ _,fun h=>absurd h hr⟩
 have hr:=Classical.not_not.1 hr
 have hfr:lW σ:=by obtain⟨w0,S,A,ρ0,a,w,hs⟩:=hr;exact hs.1
 obtain⟨σ',⟨q1,q2,q3⟩,h2⟩:=nB hΘ hfr h
 obtain⟨L,l1,l2,l3,l4,l5,_⟩:=h2 [] fun h=>by cases h
 refine⟨.normal,σ',?_,fun _=>q3⟩
 rintro w0 S A ρ0 a w hd ⟨hn,hK,ρ,hρ,s⟩
 refine wp_region ?_
 have hll:L.length=l.length:=by rw[←l1,az]
 have hsz:ops.size=L.length+1:=by have:=congrArg List.length hops;simp only[nP,aO,mM] at this;omega
 have hget:∀i:Nat,ops[i]?=(l++[od])[i]?:=fun i=>by rw[←hops];simp
 rw[hsz,List.range_eq_range',List.range'_concat]
 simp only[iK,fh]
 refine s9 L 0 _ _ _ a w ρ l2 hn hK hρ (fun i hi=>?_) s fun ρ' a' w' hρ' s'=>?_
 ·rw[fh,hget,db (by omega),←l1,bf]
 ·obtain⟨od1,od2,od3⟩:=hod
  have s2:=s'.congr (t':=fW σ'.t) (h':=toH σ'.h) (fun x=>(l3 x)) (fun b=>(l4 b))
  have hv:=(s2.tmp x _ q1).2
  obtain⟨-,hv⟩:=hv.ptr_inv
  rw[hρ' b q2] at hv
  have ho:ops[L.length]?=some od:=by rw[hget,hll,fb (ax _)];simp
  simp only[wpOps,ho]
  have hwant:Region.wanted od (yielded ops a'.tmps)=true:=by simp[Region.wanted,od2]
  rw[if_pos hwant]
  left
  have hex:(execOp a'.eval od).run P w'= .ok (.defer (dU fu (ρ0 b).blk)) w':=by
   have he:a'.eval (.tmp x)= .pointer (some ⟨(ρ0 b).blk,0,none⟩):=by
    rw[←hv];rfl
   obtain⟨dst,op,ty,pos,after,guard⟩:=od
   subst od1
   simp only[execOp,resolve,List.map_toArray,bB,eD,he]
   rfl
  unfold Oper.wp
  rw[hex,Oper.upon_defer,od3]
  have hdf:a'.defers=[]:=s2.defers.trans hd
  refine⟨trivial,l5,fun b hb=>?_,ρ',hρ',?_⟩
  ·have:=kY (fun _=>true) L 0 (toH σ.h) b (hK b hb)
   show Live (toH σ'.h) b
   unfold Live at this⊢
   rw[l4]
   exact this
  ·have:=s2.defs (dfs:=[dU fu (ρ0 b).blk])
   rw[hdf]
   exact this
theorem HZ {w:World}{hin:HL}{ρ:Id→Pl}{fn:Func}{N:Nat}{σ:St}{a':Act}{w':World}{r:D}{hout:HL}{ρ1:Id→Pl}(hK:∀b,Live hin b→Live σ.h b)(hρ1:∀b,Live hin b→ρ1 b=ρ b)(s1:Sim P w (qJ ρ hin) A N ρ1 σ.t σ.h a' w')
  (hr:pA P fn.results.toList (Live hin) σ r hout):∃u,(results fn a'.tmps).run P w'= .ok u w'∧∃v ρ'',Ending.returned u= .returned v∧(∀b,Live hin b→ρ'' b=ρ b∧Live hout b)∧Sim P w (qJ ρ hin) A 0 ρ'' [] hout er w'∧C ρ'' (Live hout) (okOf A ρ'' hout w') w' r v:=by
 obtain⟨ds',bs,g,hrds,hrn,hren,hkeep⟩:=hr
 obtain⟨vs',r1,r2,r3⟩:=s1.results (f:=Mo a'.tmps) (fun r=>by cases r<;>rfl) hrds
 have hone:=FX r2 r3
 have hrun:(results fn a'.tmps).run P w'= .ok (if h:vs'.toArray.size=1 then vs'.toArray[0] else .tuple vs'.toArray) w':=by
  rw[tl,Array.mapM_eq_mapM_toList,Sem.run_bind,map_eq_pure_bind,Sem.run_bind,r1]
  rfl
 generalize (if h:vs'.toArray.size=1 then vs'.toArray[0] else Value.tuple vs'.toArray)=u at *
 obtain⟨q1,q2,q3⟩:=s1.frz_ok bs
 have hcu:C ρ1 (Live (puts (frz σ.h bs) σ.h)) (okOf A ρ1 (puts (frz σ.h bs) σ.h) w') w' (one ds') u:=hone.mono (fun b hb=>⟨mj hb,rfl⟩) (fun k hk=>⟨⟨hk.1,fun b y hy hmu=>by
  rcases q2 b with q|⟨y',z1,z2⟩
  ·rw[q] at hy;exact hk.2 b y hy hmu
  ·rw[z2] at hy
   obtain rfl:=ar hy
   rw[(kD z1).2.1] at hmu;cases hmu⟩,rfl⟩)
 obtain⟨s3,hok3⟩:=q1.ren (N':=0) (a':=er) (t':=[]) hren rfl rfl (fun k d' hk=>by cases hk)
 exact⟨u,hrun,u,fun b=>ρ1 (g b),rfl,fun b hb=>⟨by show ρ1 (g b)=_;rw[(hkeep b hb (hK b hb)).1];exact hρ1 b hb,(hkeep b hb (hK b hb)).2⟩,s3,q1.rn hok3 hrn hcu⟩
theorem vq {L : Go.Conc.Locks.MuLink} (H : Go.Conc.Locks.MuLib P L) {f : FuncId} {fn : Func} {c : Code} (hf : P.funcs[f]? = some fn) (hb : fn.body = some c) (hname : (fn.name == "runtime.NumGoroutine") = false) {N : Nat} {rs : List ResultVar} (hN : fn.ntmps = N) (hrs : fn.results.toList = rs) {ds : List D} {hin : HL} {n0 : Nat} {r : D} {hout : HL}
  (hl:ds.length≤N) (hn0:∀b:Id,n0≤b.1→look hin b=none) (hLb:Live hin b)
  (hF:(∀d∈ds,bnd 6 d)→(∀b x,look hin b=some x→bndB 6 x)→∃e σ,u4 P N (Live hin) L.unlock b c ⟨uk ds,hin,n0⟩ e σ∧(ir P N (Live hin) σ→(e= .normal∨e= .ret)∧∃T cs h2,look σ.h b=some (.var T (.int .i32 1::cs))∧(∀b',look h2 b'=look (put b (.var T (.int .i32 0::cs)) σ.h) b')∧pA P rs (Live hin) ⟨σ.t,h2,σ.n⟩ r hout)):Con P f ds hin r hout:=by
 subst hN hrs
 refine⟨⟨fn,hf,by rw[hb];rfl,hname⟩,fun w A ρ vs s hlen hv=>?_⟩
 obtain⟨e,σ,hA,hfin⟩:=hF (fun d hd=>by
  obtain⟨i,hi,rfl⟩:=b7 hd
  exact(hv i hi).bnd 6) (fun b x hx=>s.bndB 6 hx)
 refine calls_of_wp_defers hf hb ?_
 have hs0:SimS P w (qJ ρ hin) A fn.ntmps ρ (Live hin) ⟨uk ds,hin,n0⟩ {tmps:=vs++Array.replicate (fn.ntmps-vs.size) undef,defers:=[]} w:=by
  refine⟨hn0,fun b hb=>hb,ρ,fun b hb=>rfl,s.base,s.inS,s.fr,rfl,by simp;omega,fun k d hk=>?_,s.blk,s.own,s.inj,s.gl⟩
  have hk2:look ((ds.zipIdx 0).map fun x=>(x.2,x.1)) k=some d:=hk
  rw[pW] at hk2
  simp only[aX,if_true,Nat.sub_zero] at hk2
  have hk':k<ds.length:=(aQ.1 hk2).1
  refine⟨by omega,?_⟩
  have:=hv k hk'
  rw[aq,hk2] at this
  have hkv:k<vs.size:=by omega
  simpa[bL,Array.getElem?_append,hkv] using this
 refine wp_mono (hA _ _ _ ρ _ w rfl hs0) ?_
 clear hA
 rintro e' a' w' ⟨rfl,hs1⟩
 obtain⟨he,T,cs,h2,hlk,hh2,hres⟩:=hfin ⟨_,_,_,_,_,_,hs1⟩
 clear hfin
 obtain⟨hn,hK,ρ1,hρ1,s1⟩:=hs1
 have hdf:a'.defers=[dU L.unlock (ρ b).blk]:=s1.defers
 have hlv:Leaves P fn a'.tmps (fun e w'=>∃u ρ',e= .returned u∧(∀b,Live hin b→ρ' b=ρ b∧Live hout b)∧Sim P w (qJ ρ hin) A 0 ρ' [] hout er w'∧C ρ' (Live hout) (okOf A ρ' hout w') w' r u) a'.defers .returning w':=by
  obtain⟨c1,c2⟩:=s1.at0 hlk
  rw[hρ1 b hLb] at c1 c2
  rw[hdf]
  refine leaves_cons (f:=L.unlock) (args:=#[.pointer (some ⟨(ρ b).blk,0,none⟩)]) (by simp) ?_ ?_
  ·simp[invoke,callFunc,H.f_unlock,go_sem]
   rfl
  ·refine(Go.MuLone.unlock_deferred H _ .returning w' c1 c2).mono ?_
   rintro e u' w'' ⟨rfl,rfl,rfl⟩
   have s2:=(s1.cell0 hlk .i32 0).defs (dfs:=[])
   rw[hρ1 b hLb] at s2
   exact HZ (a':={a' with defers:=[]}) (σ:=⟨σ.t,h2,σ.n⟩) (fun b2 hb2=>by
    have:Live (put b (.var T (.int .i32 0::cs)) σ.h) b2:=(hK b2 hb2).put
    unfold Live at this⊢
    rw[hh2]
    exact this) hρ1 (s2.congr (fun _=>rfl) hh2) hres
 rcases he with rfl|rfl<;>exact hlv
def JG (σ:VSt)(Q:VSt→Prop):Prop:=match aW σ.h 4 with
 |some (.var T (.int .i32 1::cs))=>Q ⟨σ.t,put 4 (.var T (.int .i32 0::cs)) σ.h,σ.n⟩
 |_=>False
theorem HD {L : Go.Conc.Locks.MuLink} (H : Go.Conc.Locks.MuLib P L) {Θ : TT} (hΘ : Θ.ok P) {f : FuncId} {fn : Func} {c : Code} (hf : P.funcs[f]? = some fn) (hb : fn.body = some c) (hname : (fn.name == "runtime.NumGoroutine") = false) (pr : Bool) {vs : List V} {hin : VH} (m n0 : Nat) (hn0 : 4 + m = n0) (hlt : Ab n0 hin = true) (hnd : ki (keysV hin) = true) (hl : Nat.ble vs.length fn.ntmps = true)
  (hlb:Live (toH hin) (4,0)) {R:V→VH→Prop} {r0:V} {hout0:VH} (h0:R r0 hout0)
  (h:∀K,KB m K→K (4,0)→(∀d∈ak vs,bnd 6 d)→(∀x∈hin,∀d∈x.2.blks,bndB 6 d)→Kv P fn.ntmps K L.unlock (4,0) c (HY fun σ=>JG σ fun σ=>zG Θ fn.results.toList m pr σ fun r hout=>qC (mc hin) r hout (R r)) ⟨ae vs 0,hin,n0⟩):∃r hout,R r hout∧ag P f vs hin r hout:=by
 have hlen:(ak vs).length≤fn.ntmps:=by rw[aL];exact Nat.le_of_ble_eq_true hl
 have e1:uk (ak vs)=fW (ae vs 0):=sd vs 0
 have hfr:=ur hlt
 have hK:KB m (Live (toH hin)):=by
  intro b hb
  rcases ct b.1 (4+m) with hlt|hge
  ·exact hlt
  ·unfold Live at hb
   rw[hfr b (by omega)] at hb
   cases hb
 have hbnd:(∀b x,look (toH hin) b=some x→bndB 6 x)→∀x∈hin,∀d∈x.2.blks,bndB 6 d:=by
  rintro hq ⟨k,x⟩ hx d hd
  obtain⟨i,hi⟩:=gw hd
  exact hq (k,i) d (av (iz (by rw[fp];exact je hnd) hx) hi)
 rcases jJ ((∀d∈ak vs,bnd 6 d)∧∀b x,look (toH hin) b=some x→bndB 6 x) with hbb|hbb
 ·obtain⟨e,σ',h1,h2⟩:=h _ hK hlb hbb.1 (hbnd hbb.2)
  rcases jJ (ir P fn.ntmps (Live (toH hin)) σ'.toD) with hr|hr
  ·have h3:=h2 hr
   have hfin:(e= .normal∨e= .ret)∧JG σ' fun σ=>zG Θ fn.results.toList m pr σ fun r hout=>qC (mc hin) r hout (R r):=by
    cases e with
    |normal=>exact⟨.inl rfl,h3⟩
    |ret=>exact⟨.inr rfl,h3⟩
    |_=>exact h3.elim
   obtain⟨he,hfin⟩:=hfin
   unfold JG at hfin
   split at hfin
   ·rename_i T cs hlk
    rw[aS] at hlk
    obtain⟨r,hout1,q1,q2⟩:=Bp hΘ hK hfin
    obtain⟨hout,q1,q2⟩:=xr (fun b hb hlt=>by
     unfold Live at hb
     rw[ap] at hb
     obtain⟨d,hd⟩:=mK.1 hb
     obtain⟨y,hy,-⟩:=bF.1 hd
     simp only[mc,dW]
     exact⟨by rw[←fp];exact aD.2 ⟨_,dt hy,rfl⟩,by simpa[Nat.blt_eq] using hlt⟩) q1 q2
    refine⟨r,hout,q2,vq H hf hb hname rfl rfl hlen hfr hlb fun _ _=>⟨e,σ'.toD,?_,fun _=>⟨he,T,ak cs,toH (put 4 (.var T (.int .i32 0::cs)) σ'.h),av (i:=0) hlk rfl,fun b'=>?_,q1⟩⟩⟩
    ·rw[e1]
     exact h1
    ·show look (toH (put 4 (.var T (.int .i32 0::cs)) σ'.h)) b'=look (put (4,0) (.var T (ak (.int .i32 0::cs))) (toH σ'.h)) b'
     obtain⟨b1,b2⟩:=b'
     rw[ap,af,af,ap]
     by_cases e:b1=4
     ·subst e
      rw[if_pos rfl,hlk]
      cases b2 with
      |zero=>rw[if_pos rfl];rfl
      |succ j=>rw[if_neg (by simp)];rfl
     ·rw[if_neg e,if_neg (fun h=>e (Prod.mk.inj h).1)]
   ·exact hfin.elim
  ·refine⟨r0,hout0,h0,vq H hf hb hname rfl rfl hlen hfr hlb fun _ _=>⟨e,σ'.toD,?_,fun h=>absurd h hr⟩⟩
   rw[e1]
   exact h1
 ·exact⟨r0,hout0,h0,vq H hf hb hname rfl rfl hlen hfr hlb fun b1 b2=>absurd ⟨b1,b2⟩ hbb⟩
theorem A6 {L : Go.Conc.Locks.MuLink} (H : Go.Conc.Locks.MuLib P L) {Θ : TT} (hΘ : Θ.ok P) {f : FuncId} {fn : Func} {c : Code} (hf : P.funcs[f]? = some fn) (hb : fn.body = some c) (hname : (fn.name == "runtime.NumGoroutine") = false) (pr : Bool) {vs : List V} {hin : VH} (m n0 : Nat) (hn0 : 4 + m = n0) (hlt : Ab n0 hin = true) (hnd : ki (keysV hin) = true) (hl : Nat.ble vs.length fn.ntmps = true) (hlb : Live (toH hin) (4, 0)) {r : V} {hout : VH}
  (h:∀K,KB m K→K (4,0)→(∀d∈ak vs,bnd 6 d)→(∀x∈hin,∀d∈x.2.blks,bndB 6 d)→Kv P fn.ntmps K L.unlock (4,0) c (HY fun σ=>JG σ fun σ=>zG Θ fn.results.toList m pr σ fun r' hout'=>qC (mc hin) r' hout' fun hout'=>r'=r∧hout'=hout) ⟨ae vs 0,hin,n0⟩):ag P f vs hin r hout:=by
 obtain⟨r',hout',⟨rfl,rfl⟩,h2⟩:=HD H hΘ hf hb hname pr m n0 hn0 hlt hnd hl hlb (R:=fun r' hout'=>r'=r∧hout'=hout) ⟨rfl,rfl⟩ h
 exact h2
end Go.Proofs.YtpefhoohfkeflaaGreatDoor.Am
namespace Go.Proofs.YtpefhoohfkeflaaGreatDoor.Am
open Go Go.RowKit
variable {P:Program} {w0:World} {S:SD} {A:Nat→Prop} {N:Nat} {ρ:Id→Pl} {t:List (Nat×D)} {h:HL} {a:Act} {w:World} {K:Id→Prop} {Q:Exit→VSt→Prop} {σ:VSt}
theorem Iq {L:Id→Prop}{ok:Nat→Prop}{T:TypeId}{s:ByteArray}{v:Value}(h:C ρ L ok w (.ifc T (.agg [.str s])) v):v= .iface T (.agg #[.string s]):=by
 obtain⟨v',rfl,h1⟩:=h.ifc_inv
 obtain⟨vs,rfl,h2,h3⟩:=h1.agg_inv
 have h4:1=vs.size:=h2
 obtain⟨x,rfl⟩:=AU h4
 have h5:C ρ L ok w (.str s) x:=h3 0 Nat.one_pos
 rw[h5.str_inv]
theorem DT {Θ:TT}(hΘ:Θ.ok P){id:Nat}{ops:Array Oper}{l:List Oper}{od:Oper}{x:Tmp}{T:TypeId}{bt:ByteArray}(hops:ops.toList=l++[od])(hod:od.op= .panic (.tmp x)∧od.guard=none)
  (h:lJ P Θ ops (fun _=>[]) false N l 0 [] σ (fun σ=>look (fW σ.t) x=some (.ifc T (.agg [.str bt]))∧Q (.panic [{v:=.iface T (.agg #[.string bt]),recovered:=false}]) σ)):At P N K (.region id ops false) Q σ:=by
 refine At.real fun hr=>?_
 have hfr:lW σ:=by obtain⟨w0,S,A,ρ0,a,w,hs⟩:=hr;exact hs.1
 obtain⟨σ',⟨q1,q3⟩,h2⟩:=nB hΘ hfr h
 obtain⟨L,l1,l2,l3,l4,l5,_⟩:=h2 [] fun h=>by cases h
 refine⟨_,σ',?_,fun _=>q3⟩
 rintro w0 S A ρ0 a w ⟨hn,hK,ρ,hρ,s⟩
 refine wp_region ?_
 have hll:L.length=l.length:=by rw[←l1,az]
 have hsz:ops.size=L.length+1:=by have:=congrArg List.length hops;simp only[nP,aO,mM] at this;omega
 have hget:∀i:Nat,ops[i]?=(l++[od])[i]?:=fun i=>by rw[←hops];simp
 rw[hsz,List.range_eq_range',List.range'_concat]
 simp only[iK,fh]
 refine s9 L 0 _ _ _ a w ρ l2 hn hK hρ (fun i hi=>?_) s fun ρ' a' w' hρ' s'=>?_
 ·rw[fh,hget,db (by omega),←l1,bf]
 ·obtain⟨od1,od2⟩:=hod
  have s2:=s'.congr (t':=fW σ'.t) (h':=toH σ'.h) (fun x=>(l3 x)) (fun b=>(l4 b))
  have hv:=Iq (s2.tmp x _ q1).2
  have ho:ops[L.length]?=some od:=by rw[hget,hll,fb (ax _)];simp
  simp only[wpOps,ho]
  have hwant:Region.wanted od (yielded ops a'.tmps)=true:=by simp[Region.wanted,od2]
  rw[if_pos hwant]
  left
  have hex:(execOp a'.eval od).run P w'= .halt (.panic (.iface T (.agg #[.string bt]))) w':=by
   have he:a'.eval (.tmp x)= .iface T (.agg #[.string bt]):=by
    rw[←hv];rfl
   obtain⟨dst,op,ty,pos,after,guard⟩:=od
   subst od1
   simp only[execOp,he]
   rfl
  unfold Oper.wp
  rw[hex,Oper.upon_panic]
  refine⟨rfl,l5,fun b hb=>?_,ρ',hρ',s2⟩
  have:=kY (fun _=>true) L 0 (toH σ.h) b (hK b hb)
  show Live (toH σ'.h) b
  unfold Live at this⊢
  rw[l4]
  exact this
theorem xc {f:FuncId}{fn:Func}{c:Code}(hf:P.funcs[f]?=some fn)(hb:fn.body=some c){x:ByteArray}{chain:List PanicEntry}(hN:2≤fn.ntmps)(hA:At P fn.ntmps (fun _=>False) c (fun e _=>e= .panic chain) ⟨[(1,.str x)],[],4⟩)
  (w:World) (v:Value) (hg:(∀g y,look Gl g=some y→g<w.heap.size∧∃ad,w.cell? ⟨g,0,none⟩=some (.iface y.1 (.pointer (some ad))))∧∀g zs,look Gt g=some zs→g<w.heap.size∧∃T fz,w.heap[g]?=some (.cells (zs.map (Value.int .u64)).toArray T fz)):
  Calls P f #[v,.string x] w fun e w'=>e= .panicked chain∧Below w.heap.size w w':=by
 obtain⟨e,σ',h1,h2⟩:=hA
 refine calls_of_wp hf hb ?_
 have hs0:SimS P w ⟨fun _=>False,[]⟩ (fun _=>True) fn.ntmps (fun _=>⟨0,0,0,0⟩) (fun _=>False) (VSt.toD ⟨[(1,.str x)],[],4⟩) {tmps:=#[v,.string x]++Array.replicate (fn.ntmps-2) undef,defers:=[]} w:=by
  refine⟨fun b _=>rfl,fun b hb=>hb.elim,fun _=>⟨0,0,0,0⟩,fun b hb=>rfl,fun _ _=>trivial,fun _ _=>trivial,Fr.refl _ _,rfl,by simp;omega,fun k d hk=>?_,fun b x hx=>(by cases hx),fun b x hx=>(by cases hx),fun b b' x x' hx=>(by cases hx),fun g y hx=>⟨⟨trivial,id,(hg.1 g y hx).1⟩,(hg.1 g y hx).2⟩,fun g zs hx=>⟨⟨trivial,id,(hg.2 g zs hx).1⟩,(hg.2 g zs hx).2⟩⟩
  have hk2:(if k=1 then some (D.str x) else none)=some d:=hk
  split at hk2
  ·rename_i e1
   subst e1
   obtain rfl:=ar hk2
   refine⟨by omega,?_⟩
   have:(#[v,.string x]++Array.replicate (fn.ntmps-2) undef).getD 1 undef= .string x:=by
    rw[bL,uZ (by simp)]
    rfl
   rw[this]
   exact C.str x
  ·cases hk2
 refine wp_mono (h1 _ _ _ _ _ w hs0) ?_
 rintro e' a' w' ⟨rfl,hs1⟩
 obtain rfl:=h2 ⟨_,_,_,_,_,_,hs1⟩
 obtain⟨-,-,ρ,-,s⟩:=hs1
 exact⟨s.defers,rfl,s.fr.os,s.fr.tape,s.fr.output,s.fr.size,fun k hk=>s.fr.block k hk id⟩
end Go.Proofs.YtpefhoohfkeflaaGreatDoor.Am
namespace Go.Proofs.YtpefhoohfkeflaaGreatDoor.Am
open Go
def Θ:TT:=[
  (3,⟨.int .i64,1,8,some (.int .i64 0),some (.int .i64),false⟩),
  (5,⟨.int .u8,1,1,some (.int .u8 0),some (.int .u8),false⟩),
  (21,⟨.int .i32,1,4,some (.int .i32 0),some (.int .i32),false⟩),
  (109,⟨.int .u32,1,4,some (.int .u32 0),some (.int .u32),false⟩),
  (170,⟨.int .u64,1,8,some (.int .u64 0),some (.int .u64),false⟩),
  (4,⟨.bool,1,1,some (.bool false),some (.bool),false⟩),
  (24,⟨.slice 5,1,24,some (.nils),some (.lst (.int .u8)),false⟩),
  (27,⟨.slice 3,1,24,some (.nils),some (.lst (.int .i64)),false⟩),
  (28,⟨.slice 69,1,24,some (.nils),some (.lst (.lst (.vtx))),false⟩),
  (29,⟨.slice 93,1,24,some (.nils),some (.lst (.ppl)),false⟩),
  (33,⟨.slice 9,1,24,some (.nils),some (.lst (.str)),false⟩),
  (67,⟨.slice 79,1,24,some (.nils),some (.lst (.slt)),false⟩),
  (69,⟨.slice 58,1,24,some (.nils),some (.lst (.vtx)),false⟩),
  (115,⟨.slice 118,1,24,some (.nils),none,false⟩),
  (159,⟨.slice 162,1,24,some (.nils),none,false⟩),
  (164,⟨.slice 4,1,24,some (.nils),some (.lst (.bool)),false⟩),
  (180,⟨.slice 181,1,24,some (.nils),none,false⟩),
  (114,⟨.slice 3,1,24,some (.nils),some (.lst (.int .i64)),false⟩),
  (190,⟨.slice 58,1,24,some (.nils),some (.lst (.vtx)),false⟩),
  (31,⟨.struct [(27,0,1),(27,1,1),(3,2,1),(28,3,1),(29,4,1)],5,104,some (.agg [.nils,.nils,.int .i64 0,.nils,.nils]),some (.wrl),false⟩),
  (41,⟨.struct [(39,0,1),(24,1,1)],2,32,some (.agg [.nilp,.nils]),none,false⟩),
  (43,⟨.struct [(31,0,5),(41,5,2)],7,136,some (.agg [.nils,.nils,.int .i64 0,.nils,.nils,.nilp,.nils]),none,false⟩),
  (58,⟨.struct [(3,0,1),(3,1,1),(27,2,1),(3,3,1)],4,48,some (.agg [.int .i64 0,.int .i64 0,.nils,.int .i64 0]),some (.vtx),false⟩),
  (62,⟨.struct [(3,0,1),(3,1,1),(3,2,1),(58,3,4)],7,72,some (.agg [.int .i64 0,.int .i64 0,.int .i64 0,.int .i64 0,.int .i64 0,.nils,.int .i64 0]),some (.evt),false⟩),
  (75,⟨.struct [(9,0,1)],1,16,some (.agg [.str ⟨#[]⟩]),none,false⟩),
  (79,⟨.struct [(3,0,1),(3,1,1)],2,16,some (.agg [.int .i64 0,.int .i64 0]),some (.slt),false⟩),
  (82,⟨.struct [(24,0,1),(3,1,1)],2,32,some (.agg [.nils,.int .i64 0]),none,false⟩),
  (93,⟨.struct [(58,0,4),(27,4,1)],5,72,some (.agg [.int .i64 0,.int .i64 0,.nils,.int .i64 0,.nils]),some (.ppl),false⟩),
  (108,⟨.struct [],0,0,some (.agg []),none,false⟩),
  (111,⟨.struct [(21,0,1),(109,1,1)],2,8,some (.agg [.int .i32 0,.int .u32 0]),none,false⟩),
  (113,⟨.struct [(108,0,0),(111,0,2)],2,8,some (.agg [.int .i32 0,.int .u32 0]),none,false⟩),
  (117,⟨.struct [(113,0,2),(114,2,1),(27,3,1),(3,4,1),(115,5,1),(29,6,1)],7,112,some (.agg [.int .i32 0,.int .u32 0,.nils,.nils,.int .i64 0,.nils,.nils]),none,false⟩),
  (156,⟨.struct [(154,0,1),(27,1,1)],2,32,some (.agg [.nilp,.nils]),none,false⟩),
  (162,⟨.struct [(58,0,4),(3,4,1)],5,56,some (.agg [.int .i64 0,.int .i64 0,.nils,.int .i64 0,.int .i64 0]),none,false⟩),
  (185,⟨.struct [(114,0,1),(180,1,1),(183,2,217)],219,1784,some (.agg [.nils,.nils,.nilp,.nilp,.nilp,.nilp,.nilp,.nilp,.nilp,.nilp,.nilp,.nilp,.nilp,.nilp,.nilp,.nilp,.nilp,.nilp,.nilp,.nilp,.nilp,.nilp,.nilp,.nilp,.nilp,.nilp,.nilp,.nilp,.nilp,.nilp,.nilp,.nilp,.nilp,.nilp,.nilp,.nilp,.nilp,.nilp,.nilp,.nilp,.nilp,.nilp,.nilp,.nilp,.nilp,.nilp,.nilp,.nilp,.nilp,.nilp,.nilp,.nilp,.nilp,.nilp,.nilp,.nilp,.nilp,.nilp,.nilp,.nilp,.nilp,.nilp,.nilp,.nilp,.nilp,.nilp,.nilp,.nilp,.nilp,.nilp,.nilp,.nilp,.nilp,.nilp,.nilp,.nilp,.nilp,.nilp,.nilp,.nilp,.nilp,.nilp,.nilp,.nilp,.nilp,.nilp,.nilp,.nilp,.nilp,.nilp,.nilp,.nilp,.nilp,.nilp,.nilp,.nilp,.nilp,.nilp,.nilp,.nilp,.nilp,.nilp,.nilp,.nilp,.nilp,.nilp,.nilp,.nilp,.nilp,.nilp,.nilp,.nilp,.nilp,.nilp,.nilp,.nilp,.nilp,.nilp,.nilp,.nilp,.nilp,.nilp,.nilp,.nilp,.nilp,.nilp,.nilp,.nilp,.nilp,.nilp,.nilp,.nilp,.nilp,.nilp,.nilp,.nilp,.nilp,.nilp,.nilp,.nilp,.nilp,.nilp,.nilp,.nilp,.nilp,.nilp,.nilp,.nilp,.nilp,.nilp,.nilp,.nilp,.nilp,.nilp,.nilp,.nilp,.nilp,.nilp,.nilp,.nilp,.nilp,.nilp,.nilp,.nilp,.nilp,.nilp,.nilp,.nilp,.nilp,.nilp,.nilp,.nilp,.nilp,.nilp,.nilp,.nilp,.nilp,.nilp,.nilp,.nilp,.nilp,.nilp,.nilp,.nilp,.nilp,.nilp,.nilp,.nilp,.nilp,.nilp,.nilp,.nilp,.nilp,.nilp,.nilp,.nilp,.nilp,.nilp,.nilp,.nilp,.nilp,.nilp,.nilp,.nilp,.nilp,.nilp,.nilp,.nilp,.nilp,.nilp,.nilp,.nilp,.nilp,.nilp,.nilp,.nilp,.nilp,.nilp,.nilp]),none,false⟩),
  (193,⟨.struct [(58,0,4),(3,4,1),(180,5,1)],6,80,some (.agg [.int .i64 0,.int .i64 0,.nils,.int .i64 0,.int .i64 0,.nils]),none,false⟩),
  (9,⟨.str,1,16,some (.str ⟨#[]⟩),some (.str),false⟩),
  (38,⟨.ptr 43,1,8,some (.nilp),none,false⟩),
  (39,⟨.ptr 41,1,8,some (.nilp),none,false⟩),
  (49,⟨.ptr 82,1,8,some (.nilp),none,false⟩),
  (70,⟨.ptr 117,1,8,some (.nilp),none,false⟩),
  (118,⟨.ptr 148,1,8,some (.nilp),none,false⟩),
  (145,⟨.ptr 58,1,8,some (.nilp),none,false⟩),
  (146,⟨.arr 7 145,7,56,some (.agg [.nilp,.nilp,.nilp,.nilp,.nilp,.nilp,.nilp]),none,false⟩),
  (154,⟨.ptr 185,1,8,some (.nilp),none,false⟩),
  (181,⟨.ptr 193,1,8,some (.nilp),none,false⟩),
  (182,⟨.arr 7 181,7,56,some (.agg [.nilp,.nilp,.nilp,.nilp,.nilp,.nilp,.nilp]),none,false⟩),
  (183,⟨.arr 31 182,217,1736,some (.agg [.nilp,.nilp,.nilp,.nilp,.nilp,.nilp,.nilp,.nilp,.nilp,.nilp,.nilp,.nilp,.nilp,.nilp,.nilp,.nilp,.nilp,.nilp,.nilp,.nilp,.nilp,.nilp,.nilp,.nilp,.nilp,.nilp,.nilp,.nilp,.nilp,.nilp,.nilp,.nilp,.nilp,.nilp,.nilp,.nilp,.nilp,.nilp,.nilp,.nilp,.nilp,.nilp,.nilp,.nilp,.nilp,.nilp,.nilp,.nilp,.nilp,.nilp,.nilp,.nilp,.nilp,.nilp,.nilp,.nilp,.nilp,.nilp,.nilp,.nilp,.nilp,.nilp,.nilp,.nilp,.nilp,.nilp,.nilp,.nilp,.nilp,.nilp,.nilp,.nilp,.nilp,.nilp,.nilp,.nilp,.nilp,.nilp,.nilp,.nilp,.nilp,.nilp,.nilp,.nilp,.nilp,.nilp,.nilp,.nilp,.nilp,.nilp,.nilp,.nilp,.nilp,.nilp,.nilp,.nilp,.nilp,.nilp,.nilp,.nilp,.nilp,.nilp,.nilp,.nilp,.nilp,.nilp,.nilp,.nilp,.nilp,.nilp,.nilp,.nilp,.nilp,.nilp,.nilp,.nilp,.nilp,.nilp,.nilp,.nilp,.nilp,.nilp,.nilp,.nilp,.nilp,.nilp,.nilp,.nilp,.nilp,.nilp,.nilp,.nilp,.nilp,.nilp,.nilp,.nilp,.nilp,.nilp,.nilp,.nilp,.nilp,.nilp,.nilp,.nilp,.nilp,.nilp,.nilp,.nilp,.nilp,.nilp,.nilp,.nilp,.nilp,.nilp,.nilp,.nilp,.nilp,.nilp,.nilp,.nilp,.nilp,.nilp,.nilp,.nilp,.nilp,.nilp,.nilp,.nilp,.nilp,.nilp,.nilp,.nilp,.nilp,.nilp,.nilp,.nilp,.nilp,.nilp,.nilp,.nilp,.nilp,.nilp,.nilp,.nilp,.nilp,.nilp,.nilp,.nilp,.nilp,.nilp,.nilp,.nilp,.nilp,.nilp,.nilp,.nilp,.nilp,.nilp,.nilp,.nilp,.nilp,.nilp,.nilp,.nilp,.nilp,.nilp,.nilp,.nilp,.nilp,.nilp,.nilp,.nilp,.nilp,.nilp,.nilp,.nilp,.nilp]),none,false⟩),
  (189,⟨.ptr 190,1,8,some (.nilp),none,false⟩),
  (220,⟨.ptr 93,1,8,some (.nilp),none,false⟩),
  (148,⟨.arr 31 146,217,1736,some (.agg [.nilp,.nilp,.nilp,.nilp,.nilp,.nilp,.nilp,.nilp,.nilp,.nilp,.nilp,.nilp,.nilp,.nilp,.nilp,.nilp,.nilp,.nilp,.nilp,.nilp,.nilp,.nilp,.nilp,.nilp,.nilp,.nilp,.nilp,.nilp,.nilp,.nilp,.nilp,.nilp,.nilp,.nilp,.nilp,.nilp,.nilp,.nilp,.nilp,.nilp,.nilp,.nilp,.nilp,.nilp,.nilp,.nilp,.nilp,.nilp,.nilp,.nilp,.nilp,.nilp,.nilp,.nilp,.nilp,.nilp,.nilp,.nilp,.nilp,.nilp,.nilp,.nilp,.nilp,.nilp,.nilp,.nilp,.nilp,.nilp,.nilp,.nilp,.nilp,.nilp,.nilp,.nilp,.nilp,.nilp,.nilp,.nilp,.nilp,.nilp,.nilp,.nilp,.nilp,.nilp,.nilp,.nilp,.nilp,.nilp,.nilp,.nilp,.nilp,.nilp,.nilp,.nilp,.nilp,.nilp,.nilp,.nilp,.nilp,.nilp,.nilp,.nilp,.nilp,.nilp,.nilp,.nilp,.nilp,.nilp,.nilp,.nilp,.nilp,.nilp,.nilp,.nilp,.nilp,.nilp,.nilp,.nilp,.nilp,.nilp,.nilp,.nilp,.nilp,.nilp,.nilp,.nilp,.nilp,.nilp,.nilp,.nilp,.nilp,.nilp,.nilp,.nilp,.nilp,.nilp,.nilp,.nilp,.nilp,.nilp,.nilp,.nilp,.nilp,.nilp,.nilp,.nilp,.nilp,.nilp,.nilp,.nilp,.nilp,.nilp,.nilp,.nilp,.nilp,.nilp,.nilp,.nilp,.nilp,.nilp,.nilp,.nilp,.nilp,.nilp,.nilp,.nilp,.nilp,.nilp,.nilp,.nilp,.nilp,.nilp,.nilp,.nilp,.nilp,.nilp,.nilp,.nilp,.nilp,.nilp,.nilp,.nilp,.nilp,.nilp,.nilp,.nilp,.nilp,.nilp,.nilp,.nilp,.nilp,.nilp,.nilp,.nilp,.nilp,.nilp,.nilp,.nilp,.nilp,.nilp,.nilp,.nilp,.nilp,.nilp,.nilp,.nilp,.nilp,.nilp,.nilp,.nilp,.nilp,.nilp,.nilp,.nilp,.nilp,.nilp,.nilp]),none,false⟩)]
theorem aj:TT.ok Tryz.prog Θ:=TT.okB_ok (by kernel_rfl)
theorem mixed:Tryz.prog.follows .mixedOrders=true:=by kernel_rfl
structure Hid (Q:Prop):Prop where
 h:Q
theorem K8:(∀(p:Prop) [Decidable p],(decide p=true)=p)∧(∀(p:Prop) [Decidable p],(decide p=false)=¬p)∧(∀b:Bool,((!b)=true)=(b=false))∧(∀b:Bool,((!b)=false)=(b=true))∧(∀(α:Type) [BEq α] [LawfulBEq α] (a b:α),((a==b)=true)=(a=b))∧(∀(α:Type) [BEq α] [LawfulBEq α] (a b:α),((a !=b)=true)=¬a=b)∧(∀(α:Type) [BEq α] [LawfulBEq α] (a b:α),((a==b)=false)=¬a=b)∧(∀(α:Type) [BEq α] [LawfulBEq α] (a b:α),((a !=b)=false)=(a=b))∧∀(α:Type) (a b:α),(a≠b)=¬a=b:=by
 refine⟨fun p _=>by simp,fun p _=>by simp,fun b=>by simp,fun b=>by simp,fun α _ _ a b=>by simp,fun α _ _ a b=>by simp,fun α _ _ a b=>by simp,fun α _ _ a b=>by simp,fun α a b=>rfl⟩
theorem cr {P:Program}{h:VH}{n:Nat}{f:FuncId}{vs vs':List V}{K:V→VH→List Nat→Prop}{hin hout:VH}{r:V}{Q:Prop}(hc:ag P f vs' hin r hout)(k:Q)(s:ag P f vs' hin r hout→Hid Q→cd P h n f vs K:=by
  intro hc h
  refine fF ?_
  conv=>whnf
  with_reducible refine bg hc ?_
  conv=>whnf
  exact h.h):cd P h n f vs K:=s hc ⟨k⟩
theorem co {P:Program}{h:VH}{n:Nat}{f:FuncId}{vs vs':List V}{K:V→VH→List Nat→Prop}{hin hout:VH}{r:V}{Q:Prop}(hc:ag P f vs' hin r hout)(k:Q)(s:ag P f vs' hin r hout→Hid Q→cd P h n f vs K:=by
  intro hc h
  refine KD ?_
  conv=>whnf
  with_reducible refine bg hc ?_
  conv=>whnf
  exact h.h):cd P h n f vs K:=s hc ⟨k⟩
theorem sa {α:Type}{P:Prop}{C Q:α→Prop}(h:∀x,C x→Q x)(s:(∀x,C x→Q x)→P:=by
  intro h
  with_reducible first|refine Kb (by omega) fun x hx=>?_|refine Ka (by omega) (by omega) fun x hx=>?_|refine J7 (by omega) fun x hx=>?_|refine EV (by first|omega|(simp only[bH,dG,jI,aO];omega)) fun x hx=>?_
  conv=>whnf
  exact h x hx):P:=s h
theorem sb {b:Bool}{A B C D Q R:Prop}(h:C→Q)(k:D→R)(s:(C→Q)→(D→R)→jM b A B:=by
  intro h k
  with_reducible refine um (fun hq=>?_) (fun hq=>?_)
  ·first|(have _:True→True:=h;((try simp only[K8] at hq)<;>omega))|((try simp only[K8] at hq);(conv=>whnf);exact h hq)
  ·first|(have _:True→True:=k;((try simp only[K8] at hq)<;>omega))|((try simp only[K8] at hq);(conv=>whnf);exact k hq)):jM b A B:=s h k
theorem st {P Q:Prop}(h:Q)(s:Hid Q→P:=by
  intro h
  (first|(with_reducible first|apply dZ|apply cZ)|((first|with_reducible apply cN aj|refine go ?_|(with_reducible first|apply dk|apply dy|apply cL|apply cO|refine cM aj mixed (by kernel_rfl) ?_))<;>conv=>whnf))
  repeat(first|(with_reducible first|apply dZ|apply cZ)|((first|with_reducible apply cN aj|refine go ?_|(with_reducible first|apply dk|apply dy|apply cL|apply cO|refine cM aj mixed (by kernel_rfl) ?_))<;>conv=>whnf))
  exact h.h):P:=s ⟨h⟩
theorem Pe {P Q:Prop}(h:Q)(s:Hid Q→P:=by
  intro h
  (first|(with_reducible first|apply dZ)|((first|with_reducible apply cN aj|refine go ?_|(with_reducible first|apply dk|apply dy|apply cL|apply cO|refine cM aj mixed (by kernel_rfl) ?_))<;>conv=>whnf))
  repeat(first|(with_reducible first|apply dZ)|((first|with_reducible apply cN aj|refine go ?_|(with_reducible first|apply dk|apply dy|apply cL|apply cO|refine cM aj mixed (by kernel_rfl) ?_))<;>conv=>whnf))
  exact h.h):P:=s ⟨h⟩
theorem Pd {P Q:Prop}(h:Q)(s:Hid Q→P:=by
  intro h
  (first|(with_reducible first|apply dZ)|((first|with_reducible apply cN aj|refine go ?_|(with_reducible first|apply dy|apply cL|apply cO|refine cM aj mixed (by kernel_rfl) ?_))<;>conv=>whnf))
  repeat(first|(with_reducible first|apply dZ)|((first|with_reducible apply cN aj|refine go ?_|(with_reducible first|apply dy|apply cL|apply cO|refine cM aj mixed (by kernel_rfl) ?_))<;>conv=>whnf))
  exact h.h):P:=s ⟨h⟩
def eH (n:Nat)(p:Nat→Bool):Bool:=(List.range n).all p
theorem bD {n:Nat}{p:Nat→Bool}:eH n p=true↔∀j,j<n→p j=true:=by simp[eH]
theorem dj {n:Nat}{p:Nat→Bool}(h:∀j,j<n→p j=true):eH n p=true:=bD.2 h
theorem dY {n j:Nat}{p:Nat→Bool}(hj:j<n)(h:p j=false):eH n p=false:=by
 rw[cj]
 intro ha
 rw[bD.1 ha j hj] at h
 cases h
theorem cH {i:Nat}{p:Nat→Bool}(h:∀j,j<i→p j=true)(hi:p i=true):∀j,j<i+1→p j=true:=by
 intro j hj
 rcases ct j i with hl|hg
 ·exact h j hl
 ·obtain rfl:j=i:=by omega
  exact hi
theorem bW {α:Type}{l:List α}{i:Nat}{x d:α}(h:l[i]?=some x):l.getD i d=x:=by rw[aq,h];rfl
theorem fj {α:Type}{l:List α}{i:Nat}{d:α}(h:i<l.length):l.getD i d∈l:=by rw[aq,am h];exact be h
theorem ed {α:Type}{l:List α}{x d:α}(h:x∈l):∃i,i<l.length∧l.getD i d=x:=by
 obtain⟨i,hi,rfl⟩:=qt h
 exact⟨i,hi,by rw[aq,am hi];rfl⟩
def j5 (n lo hi:Int):Bool:=decide (lo≤n) && decide (n≤hi)
theorem aC {n lo hi:Int}:j5 n lo hi=true↔lo≤n∧n≤hi:=by simp[j5]
def comV (c:List Int):Bool:=eH c.length (fun i=>j5 (c.getD i 0) 1 9) && j5 c.length 1 7
theorem ay {c:List Int}:comV c=true↔(∀x∈c,1≤x∧x≤9)∧1≤c.length∧c.length≤7:=by
 simp only[comV,aB,bD,aC]
 constructor
 ·rintro⟨h1,h2⟩
  refine⟨fun x hx=>?_,by omega,by omega⟩
  obtain⟨i,hi,rfl⟩:=ed (d:=0) hx
  exact h1 i hi
 ·rintro⟨h1,h2,h3⟩
  exact⟨fun j hj=>h1 _ (fj hj),by omega,by omega⟩
def n6 (c:List Int):Int:=c.sum
theorem rQ {M:Int}(hM:0≤M):∀{l:List Int},(∀x∈l,0≤x∧x≤M)→0≤l.sum∧l.sum≤M*l.length
 |[],_=>by simp
 |x::l,h=>by
  have h1:=h x (bh ..)
  have h2:=rQ hM fun y hy=>h y (bw _ hy)
  rw[List.sum_cons,bH]
  have:M*((l.length+1:Nat):Int)=M*l.length+M:=by rw[Int.natCast_add,Int.mul_add];simp
  omega
theorem tD:∀{l:List Int},(∀x∈l,1≤x)→(l.length:Int)≤l.sum
 |[],_=>by simp
 |x::l,h=>by
  have h1:=h x (bh ..)
  have h2:=tD fun y hy=>h y (bw _ hy)
  rw[List.sum_cons,bH]
  omega
theorem jz {c:List Int}(h:comV c=true):1≤n6 c∧n6 c≤63:=by
 obtain⟨h1,h2,h3⟩:=ay.1 h
 have h4:=rQ (M:=9) (by omega) fun x hx=>⟨by have:=h1 x hx;omega,(h1 x hx).2⟩
 have h5:=tD fun x hx=>(h1 x hx).1
 unfold n6
 omega
def quo (c:List Int):Int:=(2*n6 c).tdiv 3+1
theorem Gf {c:List Int}(h:comV c=true):1≤quo c∧quo c≤43:=by
 have h1:=jz h
 unfold quo
 rw[jH (by omega)]
 omega
def dB (c:List Int)(m:Int):Bool:=j5 m 0 (c.length-1)
def ju (c ms:List Int)(i:Nat):Bool:=dB c (ms.getD i 0) && (i==0||decide (ms.getD (i-1) 0<ms.getD i 0))
def d8 (c ms:List Int):Bool:=eH ms.length (ju c ms)
def fo (c ms:List Int):Int:=(ms.map fun m=>c.getD m.toNat 0).sum
theorem cD {c ms:List Int}(h:d8 c ms=true):∀m∈ms,0≤m∧m<c.length:=by
 intro m hm
 obtain⟨i,hi,rfl⟩:=ed (d:=0) hm
 have:=bD.1 h i hi
 simp only[ju,aB,dB,aC] at this
 omega
theorem qf {α:Type}{R:α→α→Prop}(ht:∀a b c,R a b→R b c→R a c):∀{l:List α},(∀i x y,l[i]?=some x→l[i+1]?=some y→R x y)→l.Pairwise R
 |[],_=>List.Pairwise.nil
 |[x],_=>by simp
 |x::y::l,h=>by
  have h0:R x y:=h 0 x y rfl rfl
  have ih:(y::l).Pairwise R:=qf ht fun i a b ha hb=>h (i+1) a b (by simpa using ha) (by simpa using hb)
  refine List.Pairwise.cons (fun a ha=>?_) ih
  rcases aA.1 ha with rfl|ha
  ·exact h0
  ·exact ht _ _ _ h0 ((fv.1 ih).1 a ha)
theorem fq {c ms:List Int}(h:d8 c ms=true):ms.Pairwise (· < ·):=by
 refine qf (fun _ _ _ h1 h2=>by omega) fun i x y hx hy=>?_
 have hl:=(aQ.1 hy).1
 have:=bD.1 h (i+1) hl
 simp only[ju,aB,cK,Nat.add_sub_cancel,bW hx,bW hy,decide_eq_true_eq] at this
 rcases this.2 with h|h
 ·simp at h
 ·exact h
theorem BU {c ms:List Int}(h1:∀m∈ms,0≤m∧m<c.length)(h2:ms.Pairwise (· < ·)):d8 c ms=true:=by
 refine dj fun j hj=>?_
 simp only[ju,dB,aB,aC,cK,beq_iff_eq,decide_eq_true_eq]
 have:=h1 _ (fj (d:=0) hj)
 refine⟨by omega,?_⟩
 cases j with
 |zero=>exact .inl rfl
 |succ j=>
  right
  rw[qR] at h2
  have:=h2 j (j+1) (by omega) hj (by omega)
  simpa[aq,am hj,am (show j<ms.length by omega)] using this
theorem vd:∀{a b:List Int},a.Pairwise (· < ·)→b.Pairwise (· < ·)→(∀x,x∈a↔x∈b)→a=b
 |[],[],_,_,_=>rfl
 |[],y::b,_,_,h=>by have:=(h y).2 (bh ..);cases this
 |x::a,[],_,_,h=>by have:=(h x).1 (bh ..);cases this
 |x::a,y::b,ha,hb,h=>by
  rw[fv] at ha hb
  have hxy:x=y:=by
   have h1:=(h x).1 (bh ..)
   have h2:=(h y).2 (bh ..)
   rcases aA.1 h1 with h1|h1
   ·exact h1
   ·rcases aA.1 h2 with h2|h2
    ·exact h2.symm
    ·have:=ha.1 y h2;have:=hb.1 x h1;omega
  subst hxy
  rw[vd ha.2 hb.2 fun z=>?_]
  have hz:=h z
  constructor
  ·intro hz1
   have hlt:=ha.1 z hz1
   rcases aA.1 (hz.1 (bw _ hz1)) with e|e
   ·omega
   ·exact e
  ·intro hz1
   have hlt:=hb.1 z hz1
   rcases aA.1 (hz.2 (bw _ hz1)) with e|e
   ·omega
   ·exact e
theorem wJ:∀{a b c:List Int},(∀x∈c,0≤x)→a.Pairwise (· < ·)→b.Pairwise (· < ·)→(∀x∈a,x∈b)→fo c a≤fo c b
 |a,[],c,hc,ha,hb,h=>by
  cases a with
  |nil=>simp
  |cons x a=>exact absurd (h x (bh ..)) (by simp)
 |a,y::b,c,hc,ha,hb,h=>by
  rw[fv] at hb
  have hy:0≤c.getD y.toNat 0:=by
   rcases ct y.toNat c.length with hl|hg
   ·exact hc _ (fj hl)
   ·simp[aq,dP hg]
  have hcons:∀l,fo c (y::l)=c.getD y.toNat 0+fo c l:=fun l=>by simp[fo]
  rw[hcons]
  cases a with
  |nil=>
   have:=wJ (a:=[]) hc List.Pairwise.nil hb.2 (by simp)
   have e:fo c []=0:=rfl
   omega
  |cons x a=>
   have ha':=fv.1 ha
   rcases aA.1 (h x (bh ..)) with rfl|hx
   ·have hcx:fo c (x::a)=c.getD x.toNat 0+fo c a:=hcons a
    have:=wJ hc ha'.2 hb.2 fun z hz=>by
     have hlt:=ha'.1 z hz
     rcases aA.1 (h z (bw _ hz)) with e|e
     ·omega
     ·exact e
    omega
   ·have:=wJ (a:=x::a) hc ha hb.2 fun z hz=>by
     rcases aA.1 (h z hz) with e|e
     ·subst e
      have h1:=hb.1 x hx
      rcases aA.1 hz with e|e
      ·omega
      ·have:=ha'.1 _ e;omega
     ·exact e
    omega
theorem wH {c ms:List Int}(h:comV c=true):0≤fo c ms∧fo c ms≤9*ms.length:=by
 have hc:=(ay.1 h).1
 have:=rQ (M:=9) (by omega) (l:=ms.map fun m=>c.getD m.toNat 0) fun x hx=>by
  obtain⟨m,-,rfl⟩:=aD.1 hx
  rcases ct m.toNat c.length with hl|hg
  ·have:=hc _ (fj (d:=0) hl);omega
  ·simp[aq,dP hg]
 rwa [az] at this
theorem tL (c ms:List Int)(m:Int):fo c (ms++[m])=fo c ms+c.getD m.toNat 0:=by simp[fo]
instance:Inhabited Vtx:=⟨⟨0,0,[],0⟩⟩
def v0:Vtx:=⟨0,0,[],0⟩
def vtxS (c:List Int)(v:Vtx):Bool:=j5 v.round 0 30 && (dB c v.author && (d8 c v.parents && (j5 v.digest 0 990 && (if v.round=0 then v.parents.length==0 else decide (quo c≤fo c v.parents)))))
def fl (r a:Int)(v:Vtx):Bool:=v.round==r && v.author==a
def d7 (g:List Vtx)(r a:Int):Bool:=g.any (fl r a)
def parOK (g:List Vtx)(v:Vtx):Bool:=v.parents.all fun p=>d7 g (v.round-1) p
def bef (a b:Vtx):Bool:=decide (a.round<b.round)||decide (a.round=b.round) && decide (a.author<b.author)
theorem pF {a b c:Vtx}(h1:bef a b=true)(h2:bef b c=true):bef a c=true:=by
 simp only[bef,cK,aB,decide_eq_true_eq] at *
 omega
def jV (c:List Int)(g:List Vtx)(i:Nat):Bool:=vtxS c (g.getD i v0) && ((i==0||bef (g.getD (i-1) v0) (g.getD i v0)) && parOK g (g.getD i v0))
def graS (c:List Int)(g:List Vtx):Bool:=comV c && eH g.length (jV c g)
def gQ (c:List Int)(g:List Vtx)(i:Nat):Bool:=vtxS c (g.getD i v0) && ((i==0||bef (g.getD (i-1) v0) (g.getD i v0)) && parOK (g.take i) (g.getD i v0))
theorem iw {r a:Int}{v:Vtx}:fl r a v=true↔v.round=r∧v.author=a:=by simp[fl]
theorem ce {g:List Vtx}{r a:Int}:d7 g r a=true↔∃v∈g,v.round=r∧v.author=a:=by simp[d7,iw]
theorem dK {g:List Vtx}{v:Vtx}:parOK g v=true↔∀p∈v.parents,d7 g (v.round-1) p=true:=by simp[parOK]
theorem DO {g:List Vtx}(h:∀i,i<g.length→(i==0||bef (g.getD (i-1) v0) (g.getD i v0))=true):g.Pairwise fun a b=>bef a b=true:=by
 refine qf (R:=fun a b=>bef a b=true) (fun _ _ _ h1 h2=>pF h1 h2) fun i x y hx hy=>?_
 have:=h (i+1) (aQ.1 hy).1
 rw[Nat.add_sub_cancel,bW hx,bW hy] at this
 simpa using this
theorem ic {α:Type}{R:α→α→Prop}{l:List α}(h:l.Pairwise R){i j:Nat}{x y:α}(hij:i<j)(hx:l[i]?=some x)(hy:l[j]?=some y):R x y:=by
 obtain⟨hi,rfl⟩:=aQ.1 hx
 obtain⟨hj,rfl⟩:=aQ.1 hy
 exact qR.1 h i j hi hj hij
theorem F7 {g:List Vtx}(hp:g.Pairwise fun a b=>bef a b=true){i:Nat}{v:Vtx}(hv:g[i]?=some v):parOK (g.take i) v=parOK g v:=by
 rw[eo,dK,dK]
 constructor
 ·intro h p hp1
  obtain⟨u,hu,h1⟩:=ce.1 (h p hp1)
  exact ce.2 ⟨u,j7 hu,h1⟩
 ·intro h p hp1
  obtain⟨u,hu,h1,h2⟩:=ce.1 (h p hp1)
  refine ce.2 ⟨u,?_,h1,h2⟩
  obtain⟨j,hj⟩:=gw hu
  have hji:j<i:=by
   rcases Nat.lt_trichotomy j i with h|rfl|h
   ·exact h
   ·rw[hj] at hv;obtain rfl:=ar hv;omega
   ·have:=ic hp h hv hj
    simp only[bef,cK,aB,decide_eq_true_eq] at this
    omega
  exact bn (i:=j) (by rw[eA,if_pos hji];exact hj)
theorem Bv {c:List Int}{g:List Vtx}:eH g.length (gQ c g)=eH g.length (jV c g):=by
 have key:(∀i,i<g.length→(i==0||bef (g.getD (i-1) v0) (g.getD i v0))=true)→∀i,i<g.length→parOK (g.take i) (g.getD i v0)=parOK g (g.getD i v0):=fun h i hi=>
  F7 (DO h) (by rw[aq,am hi];rfl)
 rw[eo,bD,bD]
 constructor
 ·intro h i hi
  have h1:=h i hi
  simp only[gQ,aB] at h1
  simp only[jV,aB]
  refine⟨h1.1,h1.2.1,?_⟩
  rw[←key (fun j hj=>?_) i hi]
  ·exact h1.2.2
  ·have:=h j hj
   simp only[gQ,aB] at this
   exact this.2.1
 ·intro h i hi
  have h1:=h i hi
  simp only[jV,aB] at h1
  simp only[gQ,aB]
  refine⟨h1.1,h1.2.1,?_⟩
  rw[key (fun j hj=>?_) i hi]
  ·exact h1.2.2
  ·have:=h j hj
   simp only[jV,aB] at this
   exact this.2.1
structure GraOK (c:List Int)(g:List Vtx):Prop where
 com:comV c=true
 vtx:∀v∈g,vtxS c v=true
 pw:g.Pairwise fun a b=>bef a b=true
 par:∀v∈g,parOK g v=true
theorem eZ {c:List Int}{g:List Vtx}(h:graS c g=true):GraOK c g:=by
 simp only[graS,aB,bD] at h
 obtain⟨h1,h2⟩:=h
 have h3:∀i,i<g.length→vtxS c (g.getD i v0)=true∧(i==0||bef (g.getD (i-1) v0) (g.getD i v0))=true∧parOK g (g.getD i v0)=true:=fun i hi=>by
  have:=h2 i hi
  simpa only[jV,aB] using this
 refine⟨h1,fun v hv=>?_,DO fun i hi=>(h3 i hi).2.1,fun v hv=>?_⟩<;>(obtain⟨i,hi,rfl⟩:=ed (d:=v0) hv)
 ·exact(h3 i hi).1
 ·exact(h3 i hi).2.2
theorem bG {c:List Int}{v:Vtx}(h:vtxS c v=true):(0≤v.round∧v.round≤30)∧(0≤v.author∧v.author<c.length)∧d8 c v.parents=true∧(0≤v.digest∧v.digest≤990)∧(v.round=0→v.parents=[])∧(v.round≠0→quo c≤fo c v.parents):=by
 simp only[vtxS,dB,aB,aC] at h
 obtain⟨h1,h2,h3,h4,h5⟩:=h
 refine⟨h1,by omega,h3,h4,fun h0=>?_,fun h0=>?_⟩
 ·rw[if_pos h0] at h5;simpa using h5
 ·rw[if_neg h0] at h5;simpa using h5
def fE (g:List Vtx)(r:Int):List Int:=(g.filter fun v=>v.round==r).map (·.author)
theorem se {g:List Vtx}{r a:Int}:a∈fE g r↔d7 g r a=true:=by
 rw[ce]
 simp only[fE,aD,dW,beq_iff_eq]
 constructor
 ·rintro⟨v,⟨h1,h2⟩,h3⟩;exact⟨v,h1,h2,h3⟩
 ·rintro⟨v,h1,h2,h3⟩;exact⟨v,⟨h1,h2⟩,h3⟩
theorem xa {g:List Vtx}(h:g.Pairwise fun a b=>bef a b=true)(r:Int):(fE g r).Pairwise (· < ·):=by
 unfold fE
 rw[lL]
 have h1:(g.filter fun v=>v.round==r).Pairwise fun a b=>bef a b=true:=h.sublist (qu ..)
 refine h1.imp_of_mem fun {a b} ha hb hab=>?_
 have ha:=(dW.1 ha).2
 have hb:=(dW.1 hb).2
 simp only[bef,cK,aB,decide_eq_true_eq,beq_iff_eq] at *
 omega
theorem pE {c:List Int}{g:List Vtx}(h:GraOK c g)(r:Int):d8 c (fE g r)=true:=by
 refine BU (fun m hm=>?_) (xa h.pw r)
 obtain⟨v,h1,-,rfl⟩:=ce.1 (se.1 hm)
 exact(bG (h.vtx v h1)).2.1
def w7 (c:List Int)(g:List Vtx)(r:Int):List Int:=((List.range c.length).filter fun a:Nat=>d7 g r (a:Int)).map fun a:Nat=>(a:Int)
theorem w8 {c:List Int}{g:List Vtx}(h:GraOK c g)(r:Int):w7 c g r=fE g r:=by
 refine vd ?_ (xa h.pw r) fun x=>?_
 ·unfold w7
  rw[lL]
  refine(List.Pairwise.sublist (qu ..) List.pairwise_lt_range).imp fun {a b} hab=>by omega
 ·rw[se]
  simp only[w7,aD,dW,eC]
  constructor
  ·rintro⟨a,⟨h1,h2⟩,rfl⟩;exact h2
  ·intro hx
   obtain⟨v,h1,-,h3⟩:=ce.1 hx
   have:=(bG (h.vtx v h1)).2.1
   refine⟨x.toNat,⟨by omega,?_⟩,by omega⟩
   rw[show ((x.toNat:Nat):Int)=x by omega]
   exact hx
def kH (c:List Int)(g:List Vtx):Nat→Int
 |0=>-1
 |r+1=>if quo c≤fo c (fE g r) then r else kH c g r
def iO (c:List Int)(g:List Vtx):Int:=kH c g 31
theorem oI (c:List Int)(g:List Vtx):∀n,-1≤kH c g n∧kH c g n<n
 |0=>by simp[kH]
 |n+1=>by
  have:=oI c g n
  unfold kH
  split<;>omega
structure GS where
 nodes:List Nod
 rows:List (List (Option Nat))
 plc:List (Option Nat)
def GS.at (s:GS)(r a:Int):Option Nat:=s.plc.getD (r*7+a).toNat none
def ka:GS:=⟨[],[],List.replicate 217 none⟩
def cJ (s:GS)(v:Vtx):GS:=
 ⟨s.nodes++[⟨v,s.nodes.length,if v.parents=[] then none else some s.rows.length⟩],if v.parents=[] then s.rows else s.rows++[v.parents.map fun p=>s.at (v.round-1) p],s.plc.set (v.round*7+v.author).toNat (some s.nodes.length)⟩
def dg (g:List Vtx):GS:=g.foldl cJ ka
theorem me (g:List Vtx)(v:Vtx):dg (g++[v])=cJ (dg g) v:=by simp[dg]
theorem cq {α:Type}{p:List α→Prop}(h0:p [])(h:∀l x,p l→p (l++[x])):∀l,p l:=by
 intro l
 have:∀n (l:List α),l.length=n→p l:=by
  intro n
  induction n with
  |zero=>intro l hl;rw[n9.1 hl];exact h0
  |succ n ih=>
   intro l hl
   have hne:l≠[]:=by intro h;rw[h] at hl;simp at hl
   rw[←List.dropLast_concat_getLast hne]
   exact h _ _ (ih _ (by simp[hl]))
 exact this _ l rfl
theorem fx (g:List Vtx):(dg g).nodes.length=g.length∧(dg g).plc.length=217:=by
 induction g using cq with
 |h0=>exact⟨rfl,iG⟩
 |h l x ih=>rw[me];simp[cJ,ih.1,ih.2]
def jq (v:Vtx):Prop:=(0≤v.round∧v.round≤30)∧0≤v.author∧v.author≤6
theorem dw {c:List Int}{v:Vtx}(hc:comV c=true)(h:vtxS c v=true):jq v:=by
 obtain⟨h1,h2,-⟩:=bG h
 have:=(ay.1 hc).2.2
 exact⟨h1,by omega,by omega⟩
theorem vT {g:List Vtx}(hg:∀v∈g,jq v){r a:Int}(hr:0≤r∧r≤30)(ha:0≤a∧a≤6):((dg g).at r a).isSome=d7 g r a∧∀i,(dg g).at r a=some i→∃v,g[i]?=some v∧v.round=r∧v.author=a:=by
 induction g using cq with
 |h0=>
  have:(dg []).at r a=none:=by
   simp only[dg,List.foldl_nil,ka,GS.at,aq]
   rw[mL]
   split<;>rfl
  rw[this]
  exact⟨rfl,fun i hi=>by cases hi⟩
 |h l v ih=>
  have ih:=ih fun u hu=>hg u (ey _ hu)
  have hv:=hg v (by simp)
  have hl:=fx l
  have hk:(v.round*7+v.author).toNat<(dg l).plc.length:=by
   obtain⟨h1,h2⟩:=hv
   rw[hl.2]
   omega
  have hany:d7 (l++[v]) r a=(d7 l r a||fl r a v):=by simp[d7]
  rw[me,hany]
  by_cases he:v.round=r∧v.author=a
  ·have h1:(cJ (dg l) v).at r a=some l.length:=by
    obtain⟨rfl,rfl⟩:=he
    simp only[cJ,GS.at,aq]
    rw[List.getElem?_set_self hk,hl.1]
    rfl
   rw[h1,iw.2 he,Bool.or_true]
   refine⟨rfl,fun i hi=>?_⟩
   obtain rfl:=ar hi
   exact⟨v,by simp,he⟩
  ·have hne:fl r a v=false:=by rw[cj];exact fun h=>he (iw.1 h)
   have h1:(cJ (dg l) v).at r a=(dg l).at r a:=by
    simp only[cJ,GS.at,aq]
    rw[n8]
    obtain⟨h1,h2⟩:=hv
    omega
   rw[h1,hne,kq]
   refine⟨ih.1,fun i hi=>?_⟩
   obtain⟨u,h2,h3⟩:=ih.2 i hi
   exact⟨u,by rw[db (aQ.1 h2).1];exact h2,h3⟩
def lS (g:List Vtx)(r a:Int):Int:=match g.findIdx? (fl r a) with|some i=>i|none=>-1
theorem vM {g:List Vtx}{r a:Int}:(g.findIdx? (fl r a)).isSome=d7 g r a:=by simp[d7,List.findIdx?_isSome]
theorem xO {c:List Int}{g:List Vtx}(h:GraOK c g){r a:Int}(hr:0≤r∧r≤30)(ha:0≤a∧a≤6):(dg g).at r a=g.findIdx? (fl r a):=by
 obtain⟨h1,h2⟩:=vT (fun v hv=>dw h.com (h.vtx v hv)) hr ha
 cases e:(dg g).at r a with
 |none=>
  rw[e] at h1
  have h3:=vM (g:=g) (r:=r) (a:=a)
  rw[←h1] at h3
  cases e2:g.findIdx? (fl r a) with
  |none=>rfl
  |some j=>rw[e2] at h3;cases h3
 |some i=>
  rw[e,←vM] at h1
  obtain⟨v,hv1,hv2⟩:=h2 i e
  cases e2:g.findIdx? (fl r a) with
  |none=>rw[e2] at h1;cases h1
  |some j=>
   rw[wN] at e2
   obtain⟨hj,e3,-⟩:=e2
   have e3:=iw.1 e3
   congr 1
   rcases Nat.lt_trichotomy i j with hl|rfl|hg
   ·have:=ic h.pw hl hv1 (am hj)
    simp only[bef,cK,aB,decide_eq_true_eq] at this
    omega
   ·rfl
   ·have:=ic h.pw hg (am hj) hv1
    simp only[bef,cK,aB,decide_eq_true_eq] at this
    omega
abbrev bs (l:List UInt8):ByteArray:=⟨l.toArray⟩
theorem vh (a b:List UInt8):bs a++bs b=bs (a++b):=by
 apply iW
 simp
theorem Hz (l:List UInt8):(bs l).size=l.length:=rfl
theorem JZ (l:List UInt8):(ByteArray.mk l.toArray).size=l.length:=rfl
theorem lk (l:List UInt8)(i j:Nat):(bs l).extract i j=bs ((l.drop i).take (j-i)):=by
 apply iW
 simp
theorem Hw (x:ByteArray):∀(n i:Nat) (r:List UInt8),x.size-i=n→ByteArray.toList.loop x i r=r.reverse++x.data.toList.drop i:=by
 intro n
 induction n with
 |zero=>
  intro i r h
  rw[ByteArray.toList.loop]
  have:x.data.toList.length=x.size:=nP
  rw[if_neg (by omega),List.drop_eq_nil_of_le (by omega),gG]
 |succ n ih=>
  intro i r h
  rw[ByteArray.toList.loop]
  have hl:x.data.toList.length=x.size:=nP
  rw[if_pos (by omega),ih (i+1) _ (by omega),List.reverse_cons,bJ]
  congr 1
  rw[nQ (i:=i) (by omega)]
  have:x.get! i=x.data.toList[i]'(by omega):=by
   rw[ByteArray.get!,getElem!_pos x.data i (show i<x.data.size from(show i<x.size by omega))]
   simp
  rw[this]
  rfl
theorem Nh (x:ByteArray):x.toList=x.data.toList:=by
 rw[ByteArray.toList,Hw x _ 0 [] rfl]
 rfl
theorem AZ (l:List UInt8):(bs l).toList=l:=Nh _
def lR:Nat→Nat→List UInt8
 |0,n=>[UInt8.ofNat (48+n)]
 |k+1,n=>if n<10 then[UInt8.ofNat (48+n)] else lR k (n/10)++[UInt8.ofNat (48+n % 10)]
def aR (n:Int):List UInt8:=lR 3 n.toNat
theorem sq:∀(k n:Nat),1≤(lR k n).length∧(lR k n).length≤k+1
 |0,_=>⟨ax _,ax _⟩
 |k+1,n=>by
  have:=sq k (n/10)
  unfold lR
  split
  ·simp
  ·simp
   omega
theorem aP (n:Int):1≤(aR n).length∧(aR n).length≤4:=sq 3 _
theorem oA (c:UInt8)(hc:c.toNat<48):∀(k n:Nat),n<10^(k+1)→c∉lR k n
 |0,n,h=>by
  have h:n<10:=by simpa using h
  have:(UInt8.ofNat (48+n)).toNat=48+n:=by rw[UInt8.toNat_ofNat'];omega
  intro hm
  simp only[lR,aY] at hm
  rw[hm,this] at hc
  omega
 |k+1,n,h=>by
  have one:∀m,m<10→c≠UInt8.ofNat (48+m):=fun m hm e=>by
   have:(UInt8.ofNat (48+m)).toNat=48+m:=by rw[UInt8.toNat_ofNat'];omega
   rw[e,this] at hc
   omega
  unfold lR
  split
  ·rename_i h10
   simpa using one n h10
  ·have h1:=oA c hc k (n/10) (by rw[Nat.pow_succ] at h;exact Nat.div_lt_of_lt_mul (by rw[Nat.mul_comm];exact h))
   simp only[bi,aY,not_or]
   exact⟨h1,one _ (Nat.mod_lt _ (by omega))⟩
def kl (p:List UInt8):List (List UInt8)→List (List UInt8)
 |[]=>[p]
 |w::ws=>(p++w)::ws
def aK (c:UInt8):List UInt8→List (List UInt8)
 |[]=>[[]]
 |x::l=>if x=c then[]::aK c l else kl [x] (aK c l)
theorem Dl (a b:List UInt8)(l:List (List UInt8))(h:l≠[]):kl a (kl b l)=kl (a++b) l:=by
 cases l with
 |nil=>exact absurd rfl h
 |cons w ws=>simp[kl]
theorem I0 (a:List UInt8)(l:List (List UInt8)):kl a l≠[]:=by cases l<;>simp[kl]
theorem yv {l:List (List UInt8)}(h:l≠[]):kl [] l=l:=by
 cases l with
 |nil=>exact absurd rfl h
 |cons w ws=>simp[kl]
theorem lp (c:UInt8)(l:List UInt8):aK c l≠[]:=by
 cases l with
 |nil=>simp[aK]
 |cons x l=>
  unfold aK
  split
  ·simp
  ·exact I0 _ _
theorem Ga (a:List UInt8){l:List (List UInt8)}(h:l≠[]):(kl a l).length=l.length:=by
 cases l with
 |nil=>exact absurd rfl h
 |cons w ws=>rfl
theorem eI (c:UInt8):∀l:List UInt8,(aK c l).length=l.count c+1
 |[]=>rfl
 |x::l=>by
  have ih:=eI c l
  unfold aK
  split
  ·rename_i h
   subst h
   simp[ih]
  ·rename_i h
   rw[Ga _ (lp c l),ih,List.count_cons_of_ne (by simpa using h)]
theorem iY (c:UInt8)(l:List UInt8):(aK c l).length≤l.length+1:=by
 rw[eI]
 have:=List.count_le_length (a:=c) (l:=l)
 omega
theorem gb (c:UInt8):∀(l w:List UInt8),w∈aK c l→w.length≤l.length
 |[],w,h=>by simp[aK] at h;simp[h]
 |x::l,w,h=>by
  unfold aK at h
  split at h
  ·rcases aA.1 h with rfl|h
   ·simp
   ·have:=gb c l w h
    simp only[bH]
    omega
  ·have hne:=lp c l
   have ih:=gb c l
   generalize aK c l=k at *
   cases k with
   |nil=>exact absurd rfl hne
   |cons y k=>
    simp only[kl,aA] at h
    rcases h with rfl|h
    ·have:=ih y (by simp)
     simp only[aO,bH,dG]
     omega
    ·have:=ih w (by simp[h])
     simp only[bH]
     omega
def uo (c:UInt8):Bool:=decide (48≤c.toNat) && decide (c.toNat≤57)
def mq (l:List UInt8):Int:=l.foldl (fun n c=>10*n+((c.toNat:Int)-48)) 0
def s7 (w:List UInt8):Int:=if 1≤w.length∧w.length≤3∧w.all uo=true then mq w else-1
def cE (ws:List (List UInt8))(k:Nat):Int:=s7 (ws.getD k [])
theorem p8 (l:List UInt8)(c:UInt8):mq (l++[c])=10*mq l+((c.toNat:Int)-48):=by simp[mq]
theorem wd:∀l:List UInt8,l.all uo=true→0≤mq l∧mq l<10^l.length:=by
 intro l
 induction l using cq with
 |h0=>intro _;simp[mq]
 |h l c ih=>
  intro h
  simp only[List.all_append,List.all_cons,List.all_nil,Bool.and_true,aB,uo,decide_eq_true_eq] at h
  have:=ih h.1
  rw[p8,aO,mM,Int.pow_succ]
  omega
theorem BY (w:List UInt8):-1≤s7 w∧s7 w≤999:=by
 unfold s7
 split
 ·rename_i h
  have h1:=wd w h.2.2
  have h2:w.length=1∨w.length=2∨w.length=3:=by omega
  rcases h2 with h2|h2|h2<;>rw[h2] at h1<;>omega
 ·omega
end Go.Proofs.YtpefhoohfkeflaaGreatDoor.Am
namespace Go.Proofs.YtpefhoohfkeflaaGreatDoor.Am
open Go Go.RowKit
set_option maxHeartbeats 1000000 in
set_option maxRecDepth 100000 in
theorem A1 (b o:Nat)(w:World)(h0:w.cell? ⟨b,o,none⟩=some (.pointer (some ⟨b,o,none⟩))):
  Calls Tryz.prog 122 #[.pointer (some ⟨b,o,none⟩)] w fun e w'=>e= .returned (.tuple #[])∧w'=w:=by
 obtain⟨j,hj,_⟩:∃j,Tryz.prog.info? 41=some j∧j.size=2:=⟨_,rfl,by kernel_rfl⟩
 go_enter Tryz.func122,Tryz.ntmps122
 go_wp2
 rw[Lib.run_neq_ptr_same w _ Tryz.underlying39 hj]
 go_wp2
 go_end0
 exact⟨rfl,rfl⟩
set_option maxHeartbeats 1000000 in
set_option maxRecDepth 100000 in
theorem D2 (b:Nat)(w:World)(h0:w.cell? ⟨b,5,none⟩=some (.pointer none))(hsh:w.shape? b=some (43,7))(hfz:w.frozen? ⟨b,5,none⟩=false):
  Calls Tryz.prog 122 #[.pointer (some ⟨b,5,none⟩)] w fun e w'=>e= .returned (.tuple #[])∧w'=w.setCell ⟨b,5,none⟩ (.pointer (some ⟨b,5,none⟩)):=by
 obtain⟨j,hj,hjs⟩:∃j,Tryz.prog.info? 41=some j∧j.size=2:=⟨_,rfl,by kernel_rfl⟩
 go_enter Tryz.func122,Tryz.ntmps122
 go_wp2
 rw[Lib.run_to_unsafe w ⟨b,5,none⟩ Tryz.underlying39 Tryz.underlying171 hj (by rw[hjs];decide) hsh (show 5<7 by decide)]
 simp only[Result.andThen]
 rw[Oper.upon_value]
 go_wp2
 rw[run_callFunc_extern Tryz.func149 (by kernel_rfl) (by kernel_rfl) (by kernel_rfl) (e:=Extern.AbiNoEscape.same) (by kernel_rfl)]
 rw[Lib.run_noEscape]
 simp only[Result.andThen]
 rw[Oper.upon_value]
 go_wp2
 rw[Lib.run_from_unsafe w ⟨b,5,none⟩ Tryz.underlying171 Tryz.underlying39 hj hsh (by kernel_rfl)]
 simp only[Result.andThen]
 rw[Oper.upon_value]
 go_wp2
 go_end0
 exact⟨rfl,rfl⟩
set_option maxHeartbeats 1000000 in
set_option maxRecDepth 100000 in
theorem Mt (b g cap cells:Nat)(l:List UInt8)(w:World)(h6:w.cell? ⟨b,6,none⟩=some (.slice (some ⟨g,0,none⟩) l.length cap))(hcap:cap≠0)(hsh:w.shape? g=some (5,cells))(hn:l.length≤cells)(h63:l.length≤9223372036854775807)(h0:l≠[])
  (hc:∀j x,l[j]?=some x→w.cell? ((⟨g,0,none⟩:Addr).add j)=some (.int .u8 x.toNat)):
  Calls Tryz.prog 19 #[.pointer (some ⟨b,5,none⟩)] w fun e w'=>e= .returned (.string ⟨l.toArray⟩)∧w'=w.drew.freeze ⟨g,0,none⟩ l.length:=by
 have c1:w.drew.cell? ⟨b,6,none⟩=some (.slice (some ⟨g,0,none⟩) l.length cap):=h6
 have hSD:(Builtin.unsafeSliceData_ #[24] 80 #[.slice (some ⟨g,0,none⟩) l.length cap]).run Tryz.prog w.drew= .ok (.pointer (some ⟨g,0,none⟩)) w.drew:=
  Lib.run_unsafeSliceData_row _ _ _ _ _ _ hcap
 have hUS:(Builtin.unsafeString_ #[80,3] 9 #[.pointer (some ⟨g,0,none⟩),.int .i64 l.length]).run Tryz.prog w.drew= .ok (.string ⟨l.toArray⟩) (w.drew.freeze ⟨g,0,none⟩ l.length):=
  Lib.run_unsafeString_row w.drew 80 3 9 5 Tryz.underlying80 (by kernel_rfl) g cells hsh l h0 hn h63 hc
 have mixed:Tryz.prog.follows .mixedOrders=true:=by kernel_rfl
 go_enter Tryz.func19,Tryz.ntmps19
 go_wp2
 go_region_o
 all_goals (go_wp2;go_ret;exact⟨rfl,rfl⟩)
theorem qX {w:World}{g k:Nat}{c:Array Value}{T:TypeId}{v:Value}(hg:w.heap[g]?=some (.cells c T (0,0))):w.setCell ⟨g,k,none⟩ v=w.setRow g (c.setIfInBounds k v):=by
 have:w.heap.modify g (fun o=>match o with
   | .cells cs E fr=>.cells (cs.setIfInBounds k v) E fr
   |o=>o)=w.heap.modify g (fun o=>match o with
   | .cells _ E fr=>.cells (c.setIfInBounds k v) E fr
   |o=>o):=by
  apply Array.ext_getElem?
  intro i
  rw[n7,n7]
  by_cases e:g=i
  ·subst e
   simp[hg]
  ·simp[e]
 simp only[World.setCell,World.setRow]
 first|exact congrArg (fun x=>{w with heap:=x}) this|simpa using this
section
variable {P:Program} {w0:World} {S:SD} {A:Nat→Prop} {N:Nat} {ρ:Id→Pl} {t:List (Nat×D)} {h:HL} {a:Act} {w:World}
theorem Sim.cellK (s:Sim P w0 S A N ρ t h a w){b:Id}{T:TypeId}{cs:List D}(hb:look h b=some (.var T cs)){k:Nat}(hk:k<cs.length){d:D}{v:Value}(hd:C ρ (Live h) (okOf A ρ h w) w d v):Sim P w0 S A N ρ t (put b (.var T (cs.set k d)) h) a (w.setCell ⟨(ρ b).blk,k,none⟩ v):=by
 obtain⟨c,g1,g2,g3⟩:=s.blk b _ hb
 rw[qX g1]
 refine s.write hb rfl _ fun hC hR=>⟨_,setRow_heap w _ c _ T _ g1,by simpa using g2,fun j hj=>?_⟩
 rw[jI] at hj
 by_cases e:j=k
 ·subst e
  have e1:(c.setIfInBounds j v).getD j undef=v:=by
   have:j<c.size:=by omega
   simp[bL,this]
  have e2:(cs.set j d).getD j .undef=d:=by simp[aq,hj]
  rw[e1,e2]
  exact hC _ _ hd
 ·have e1:(c.setIfInBounds k v).getD j undef=c.getD j undef:=by
   simp[bL,wO (cm e)]
  have e2:(cs.set k d).getD j .undef=cs.getD j .undef:=by simp[aq,n8 (cm e)]
  rw[e1,e2]
  exact hC _ _ (g3 j hj)
theorem Sim.atK (s:Sim P w0 S A N ρ t h a w){b:Id}{T:TypeId}{cs:List D}(hb:look h b=some (.var T cs)){k:Nat}{d:D}(hk:cs[k]?=some d):w.shape? (ρ b).blk=some (T,cs.length)∧w.frozen? ⟨(ρ b).blk,k,none⟩=false∧∃v,w.cell? ⟨(ρ b).blk,k,none⟩=some v∧C ρ (Live h) (okOf A ρ h w) w d v:=by
 obtain⟨c,g1,g2,g3⟩:=s.blk b _ hb
 obtain⟨hl,e⟩:=aQ.1 hk
 have hl2:k<c.size:=by omega
 have h1:=g3 k hl
 have e1:cs.getD k .undef=d:=by rw[aq,hk];rfl
 have e2:c.getD k undef=c[k]:=by simp[bL,hl2]
 rw[e1,e2] at h1
 exact⟨by simp[World.shape?,g1,g2],by simp[World.frozen?,g1],c[k],by simp[World.cell?,g1,hl2],h1⟩
theorem Sim.giveUp (s:Sim P w0 S A N ρ t h a w){b:Id}{E:TypeId}{l:List D}(hb:look h b=some (.row E l)){w':World}(hos:w'.os=w.os)(htp:w'.tape=w.tape)(hout:w'.output=w.output)(hsz:w'.heap.size=w.heap.size)(hne:∀k,k≠(ρ b).blk→w'.heap[k]?=w.heap[k]?):Sim P w0 S A N ρ t (put b .gone h) a w':=by
 have hown:=s.own b _ hb rfl
 refine s.step (s.fr.andThen (T:=fun k=>k=(ρ b).blk) ⟨hos,htp,hout,by omega,fun i hi hn=>hne i hn⟩ fun i hi e=>by subst e;exact hown.2) (fun b' hb'=>⟨hb'.put,rfl⟩) (fun k hk=>?_) (fun b' x hx=>?_) (by omega) fun b1 b2 x x' hx hx' hl hl' he=>?_
 ·have hkb:k≠(ρ b).blk:=fun e=>hk.2 b _ hb rfl e.symm
  refine⟨⟨⟨by have:=hk.1.1;omega,hk.1.2⟩,fun b' x hx hm=>?_⟩,hne k hkb⟩
  rw[af] at hx
  by_cases e:b'=b
  ·rw[if_pos e] at hx
   obtain rfl:=ar hx
   cases hm
  ·rw[if_neg e] at hx
   exact hk.2 b' x hx hm
 ·rw[af] at hx
  by_cases e:b'=b
  ·rw[if_pos e] at hx
   obtain rfl:=ar hx
   exact .inr ⟨trivial,fun h=>by cases h⟩
  ·rw[if_neg e] at hx
   refine .inl ⟨hx,fun hm=>hne _ fun e2=>e ?_⟩
   exact s.inj b' b x _ hx hb (by cases x<;>first|rfl|cases hm) rfl e2
 ·rw[af] at hx hx'
  by_cases e:b1=b
  ·rw[if_pos e] at hx
   obtain rfl:=ar hx
   cases hl
  ·by_cases e':b2=b
   ·rw[if_pos e'] at hx'
    obtain rfl:=ar hx'
    cases hl'
   ·rw[if_neg e] at hx
    rw[if_neg e'] at hx'
    exact s.inj b1 b2 x x' hx hx' hl hl' he
end
theorem HC {h:HL}{b:Id}{T:TypeId}{cs:List D}{o:Nat}(hb:look h b=some (.var T cs))(ho:cs[o]?=some (.ptr b o)):Con Tryz.prog 122 [.ptr b o] h (.tup []) h:=by
 refine⟨⟨_,Tryz.func122,rfl,rfl⟩,fun w A ρ vs s hl hcv=>?_⟩
 obtain⟨v,rfl⟩:=AU hl
 obtain⟨-,e0⟩:=(hcv 0 (by simp)).ptr_inv
 have e0:v= .pointer (some ⟨(ρ b).blk,o,none⟩):=e0
 subst e0
 obtain⟨-,-,v5,h5,hc5⟩:=s.atK hb ho
 obtain⟨-,rfl⟩:=hc5.ptr_inv
 refine(A1 (ρ b).blk o w h5).mono ?_
 rintro e w' ⟨rfl,rfl⟩
 exact⟨_,ρ,rfl,fun b' hb'=>⟨rfl,hb'⟩,s,.tup [] #[] rfl (fun i hi=>by simp at hi)⟩
theorem It {l:List UInt8}{j:Nat}{x:UInt8}(h:l[j]?=some x):(l.map fun c=>D.int .u8 (c.toNat:Int)).getD j .undef= .int .u8 x.toNat:=by
 rw[aq,bf,h];rfl
theorem HE {h:HL}{b b2:Id}{T:TypeId}{cs:List D}{l:List UInt8}(hb:look h b=some (.var T cs))(ho:cs[6]?=some (.ref b2))(hr:look h b2=some (.row 5 (l.map fun c=>D.int .u8 (c.toNat:Int))))(h0:l≠[]):
  ∀hout:HL,(∀b',look hout b'=look (put b2 .gone h) b')→Con Tryz.prog 19 [.ptr b 5] h (.str (bs l)) hout:=by
 intro hout hh
 refine⟨⟨_,Tryz.func19,rfl,rfl⟩,fun w A ρ vs s hl hcv=>?_⟩
 obtain⟨v,rfl⟩:=AU hl
 obtain⟨hlv,e0⟩:=(hcv 0 (by simp)).ptr_inv
 have e0:v= .pointer (some ⟨(ρ b).blk,5,none⟩):=e0
 subst e0
 obtain⟨-,-,v6,h6,hc6⟩:=s.atK hb ho
 obtain⟨-,rfl⟩:=hc6.ref_inv
 obtain⟨c,g1,g2,g3,g4,g5,g6,g7,g8,g9⟩:=s.blk b2 _ hr
 have hsz:(ρ b2).sz=1:=by
  have:(Tryz.prog.info? 5).map (·.size)=some 1:=by kernel_rfl
  rw[this] at g7
  exact(ar g7).symm
 rw[hsz] at g2 g9
 rw[az] at g3
 have hlp:0<l.length:=List.length_pos_iff.2 h0
 rw[←g3] at h6
 have h63:l.length≤9223372036854775807:=by unfold maxLen at g5;omega
 refine(Mt (ρ b).blk (ρ b2).blk (ρ b2).cap c.size l w h6 (by omega) (by simp[World.shape?,g1]) (by omega) h63 h0 fun j x hj=>?_).mono ?_
 ·have hjl:=(aQ.1 hj).1
  have h1:=g9 j 0 (by simpa using hjl) (by omega)
  rw[It hj] at h1
  have h2:C ρ (Live h) (okOf A ρ h w) w (.int .u8 x.toNat) (c.getD (j*1+0) undef):=h1
  have h3:=h2.int_inv
  have hjc:j<c.size:=by omega
  rw[iX,jK,bL,eU hjc,eg] at h3
  rw[d9]
  simp[World.cell?,g1,hjc,h3]
 ·rintro e w' ⟨rfl,rfl⟩
  have hs':Sim Tryz.prog w (qJ ρ h) A 0 ρ [] (put b2 .gone h) er (w.drew.freeze ⟨(ρ b2).blk,0,none⟩ l.length):=by
   refine s.giveUp hr ?_ ?_ ?_ ?_ fun k hk=>?_
   ·unfold World.freeze;split<;>rfl
   ·unfold World.freeze;split<;>rfl
   ·unfold World.freeze;split<;>rfl
   ·unfold World.freeze
    split
    ·rfl
    ·exact Array.size_modify
   ·unfold World.freeze
    split
    ·rfl
    ·refine(n7 ..).trans ?_
     rw[if_neg (cm hk)]
     rfl
  refine⟨_,ρ,rfl,fun b' hb'=>⟨rfl,by
   have:Live (put b2 .gone h) b':=hb'.put
   unfold Live at this⊢
   rw[hh]
   exact this⟩,hs'.congr (fun _=>rfl) hh,.str _⟩

end Go.Proofs.YtpefhoohfkeflaaGreatDoor.Am
