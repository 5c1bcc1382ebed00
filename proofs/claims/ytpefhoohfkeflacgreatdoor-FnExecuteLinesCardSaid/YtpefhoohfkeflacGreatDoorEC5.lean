/- The plain machine with types: regions. The plain machine with types: control. The plain machine with types: what is no more wanted is forgotten. The plain machine with types: what is no more wanted is forgotten, put together. The plain machine with types: loops, results, contracts. From a contract to a row: what a law's call leaves; how an argument reads. The plain machine with types: how the marks are met. The plain machine with types: a variable with a table of nil pointers. Committees and graphs: plain laws. Scripts: texts of bytes, plain. Runs: plain definitions of what is valid, and laws. -/
import Derived.WalkKit
import Derived.ProofKit
import Derived.OpenShut
import Derived.Carry
import Derived.ChangeSlices
import Derived.ChangeSame
import Derived.Test.YtpefhoohfkeflacGreatDoorEC4
set_option linter.unusedSimpArgs false
set_option linter.unusedVariables false
set_option maxHeartbeats 1000000
namespace Go.Proofs.YtpefhoohfkeflacGreatDoor.Am
open Go Go.RowKit
variable {P:Program} {N:Nat}
def u9 (a b:List Nat):Bool:=a.all fun x=>!b.contains x
abbrev t6:=List (Nat×List Nat×List Nat)
def n6 (dep:List Nat)(fws:t6)(f ws:List Nat):Bool:=
 fws.all fun x=>(u9 x.2.2 f && u9 x.2.2 ws && u9 ws x.2.1)||dep.contains x.1
def DU (fws:t6)(f ws:List Nat):Bool:=fws.all fun x=>u9 x.2.2 f && u9 x.2.2 ws && u9 ws x.2.1
theorem DV {dep:List Nat}{fws:t6}{f ws:List Nat}(h:DU fws f ws=true):n6 dep fws f ws=true:=by
 unfold DU at h
 unfold n6
 rw[aM] at h⊢
 intro x hx
 rw[h x hx]
 rfl
theorem DW {dep:List Nat}{fws:t6}:n6 dep fws [] []=true:=by
 unfold n6
 rw[aM]
 intro x hx
 simp[u9]
def AU (dep:Unit→List Nat)(fws:t6)(f ws:List Nat)(K:Prop):Prop:=
 match DU fws f ws with
 |true=>K
 |false=>Mk (n6 (dep ()) fws f ws) K
theorem wY {dep:Unit→List Nat}{fws:t6}{f ws:List Nat}{K:Prop}(h:AU dep fws f ws K):n6 (dep ()) fws f ws=true∧K:=by
 unfold AU at h
 split at h
 ·rename_i e;exact⟨DV e,h⟩
 ·exact h
def sj (N:Nat)(dst:Option Tmp):Bool:=match dst with|some d=>Nat.blt d N|none=>true
def yj (dst:Option Nat)(v:V)(t:VT):VT:=match dst with|some k=>(k,v)::t|none=>t
theorem rA (dst:Option Nat)(v:V)(t:VT):fL (yj dst v t)=im dst v.toD (fL t):=by cases dst<;>rfl
def Kk (n:Nat):VH→Nat
 |[]=>0
 |(x,_)::u=>bif Nat.ble n x then Kk n u+1 else Kk n u
def F0 (dst:Option Nat)(v:V)(t:VT)(K:VT→Prop):Prop:=match dst with|some k=>K ((k,v)::t)|none=>K t
theorem yk {dst:Option Nat}{v:V}{t:VT}{K:VT→Prop}(h:F0 dst v t K):K (yj dst v t):=by cases dst<;>exact h
theorem Dw {l:List Nat}{b x:Nat}:x∈Kc l b↔x∈l∨x=b:=by
 unfold Kc
 split
 ·rename_i h
  refine⟨.inl,fun h'=>h'.elim id fun e=>?_⟩
  subst e
  simpa using h
 ·simp
theorem t7:∀{bs l:List Nat} {x:Nat},x∈gn l bs↔x∈l∨x∈bs
 |[],l,x=>by simp[gn]
 |b::bs,l,x=>by
  simp only[gn,t7,Dw,aJ]
  exact or_assoc
def fo (y x:VB)(A B:Prop):Prop:=(y=x∧A)∨B
def ta (h:VH):VH→(VH→List Nat→Prop)→Prop
 |[],K=>K [] []
 |(k,x)::u,K=>match aU h k with
  |some y=>fo y x (ta h u fun r ds=>K r (k::ds)) (ta h u fun r ds=>K ((k,x)::r) ds)
  |none=>ta h u fun r ds=>K ((k,x)::r) ds
def Ac (h u:VH)(K:VH→List Nat→Prop):Prop:=match j4 (keysV u) with
 |true=>ta h u K
 |false=>K u []
structure SameOK (h u u':VH)(ds:List Nat):Prop where
 sub:∀k∈keysV u',k∈keysV u
 out:∀k∈ds,k∉keysV u'
 rest:∀k∈keysV u,k∉ds→k∈keysV u'
 new:∀g:VH,∀k,k∉ds→look (puts u' g) k=look (puts u g) k
 old:∀g:VH,∀k∈ds,look (puts u g) k=look h k
theorem uE (h u:VH):SameOK h u u []:=⟨fun _ h=>h,(by simp),fun _ h _=>h,fun _ _ _=>rfl,(by simp)⟩
theorem eC (k:Nat)(x:VB)(u:VH):keysV ((k,x)::u)=k::keysV u:=rfl
theorem xL {u:VH}{k:Nat}(h:k∉keysV u):∀x∈u,x.1≠k:=fun x hx e=>h (by rw[←fe];exact aB.2 ⟨x,hx,e⟩)
theorem tb {h:VH}:∀{u:VH} {K:VH→List Nat→Prop},(keysV u).Nodup→ta h u K→∃u' ds,SameOK h u u' ds∧(∀k∈ds,k∈keysV u)∧K u' ds
 |[],K,_,hk=>⟨[],[],uE h [],by simp,hk⟩
 |(k,x)::u,K,hn,hk=>by
  rw[eC,List.nodup_cons] at hn
  have keep:(ta h u fun r ds=>K ((k,x)::r) ds)→∃u' ds,SameOK h ((k,x)::u) u' ds∧(∀j∈ds,j∈keysV ((k,x)::u))∧K u' ds:=by
   intro hk
   obtain⟨u',ds,s,hd,hk⟩:=tb hn.2 hk
   refine⟨_,ds,⟨fun j hj=>?_,fun j hj hc=>?_,fun j hj hne=>?_,fun g j hj=>s.new _ j hj,fun g j hj=>s.old _ j hj⟩,fun j hj=>by rw[eC];exact bA _ (hd j hj),hk⟩
   ·rw[eC] at hj⊢
    rcases aJ.1 hj with e|hj
    ·rw[e];exact bk ..
    ·exact bA _ (s.sub j hj)
   ·rw[eC] at hc
    rcases aJ.1 hc with e|hc
    ·exact hn.1 (e▸hd j hj)
    ·exact s.out j hj hc
   ·rw[eC] at hj⊢
    rcases aJ.1 hj with e|hj
    ·rw[e];exact bk ..
    ·exact bA _ (s.rest j hj hne)
  simp only[ta] at hk
  split at hk
  ·rename_i y hy
   rw[aS] at hy
   rcases hk with⟨e,hk⟩|hk
   ·subst e
    obtain⟨u',ds,s,hd,hk⟩:=tb hn.2 hk
    refine⟨u',k::ds,⟨fun j hj=>by rw[eC];exact bA _ (s.sub j hj),fun j hj hc=>?_,fun j hj hne=>?_,fun g j hj=>?_,fun g j hj=>?_⟩,fun j hj=>?_,hk⟩
    ·rcases aJ.1 hj with e|hj
     ·exact hn.1 (e▸s.sub j hc)
     ·exact s.out j hj hc
    ·rw[eC] at hj
     rcases aJ.1 hj with e|hj
     ·exact absurd (e▸bk ..) hne
     ·exact s.rest j hj fun h=>hne (bA _ h)
    ·have hjk:j≠k:=fun e=>hj (e▸bk ..)
     show _=look (puts u (put k y g)) j
     rw[s.new g j fun h=>hj (bA _ h)]
     exact pK u j (by rw[af,if_neg hjk])
    ·show look (puts u (put k y g)) j=_
     rcases aJ.1 hj with e|hj
     ·subst e
      rw[aN _ _ _ (xL hn.1),af,if_pos rfl,hy]
     ·exact s.old _ j hj
    ·rw[eC]
     rcases aJ.1 hj with e|hj
     ·rw[e];exact bk ..
     ·exact bA _ (hd j hj)
   ·exact keep hk
  ·exact keep hk
theorem Dc {h u:VH}{K:VH→List Nat→Prop}(hk:Ac h u K):∃u' ds,SameOK h u u' ds∧K u' ds:=by
 unfold Ac at hk
 split at hk
 ·rename_i e
  obtain⟨u',ds,s,_,hk⟩:=tb (iW e) hk
  exact⟨u',ds,s,hk⟩
 ·exact⟨u,[],uE h u,hk⟩
theorem xX {u:HL}{p:Id→Bool}:∀{g:HL} {b:Id},p b=true→look (puts (u.filter fun x=>p x.1) g) b=look (puts u g) b:=by
 induction u with
 |nil=>intro g b _;rfl
 |cons x u ih=>
  intro g b hp
  by_cases hx:p x.1=true
  ·rw[List.filter_cons_of_pos (by exact hx)]
   exact ih hp
  ·rw[List.filter_cons_of_neg (by exact hx),ih hp]
   have hne:b≠x.1:=fun e=>hx (e▸hp)
   exact bT (u:=u) (by rw[af,if_neg hne])
theorem StepOK.same {o:Oper}{t:VT}{h u u':VH}{r:V}{gl ds:List Nat}(hs:StepOK P N o t h r u gl)(s:SameOK h u u' ds):StepOK P N o t h r u' (gl++ds):=by
 obtain⟨uu,hU,hS⟩:=hs
 have hin:∀b:Id,b.1∈ds→look (toH (puts u h)) b=look (toH h) b:=fun b hb=>by rw[ap,ap,s.old h b.1 hb]
 have hout:∀(g:HL) (b:Id),b.1∈ds→look (puts (uu.filter fun x=>!ds.contains x.1.1) g) b=look g b:=fun g b hb=>aN _ _ _ fun x hx e=>by
  have:=(eL.1 hx).2
  rw[e] at this
  simp[hb] at this
 have hnew:∀(g:HL) (b:Id),b.1∉ds→look (puts (uu.filter fun x=>!ds.contains x.1.1) g) b=look (puts uu g) b:=fun g b hb=>xX (p:=fun b=>!ds.contains b.1) (by simp[hb])
 refine⟨uu.filter fun x=>!ds.contains x.1.1,⟨fun b=>?_,fun x hx=>?_⟩,fun f hf t' h' ht ha w0 S A ρ a w hsim=>?_⟩
 ·by_cases hb:b.1∈ds
  ·rw[hout _ b hb,ap,ap,aN _ _ _ (xL (s.out _ hb))]
  ·rw[hnew _ b hb,hU.1 b,ap,ap,s.new h b.1 hb]
 ·obtain⟨h1,h2⟩:=eL.1 hx
  have h3:=hU.2 x h1
  rw[fe] at h3⊢
  exact s.rest _ h3 (by simpa using h2)
 ·have hw:=hS f (fun k hk=>hf k (eh _ hk)) t' h' ht ha w0 S A ρ a w hsim
  refine Reg.wp_exit_mono (K:=tE P w0 S A N ρ t' h' (puts uu h') a o.dst r.toD) ?_ hw
  rintro a' w' ⟨v,ρ',rfl,hex,q1,q2⟩
  have he:∀b:Id,look (puts (uu.filter fun x=>!ds.contains x.1.1) h') b=look (puts uu h') b:=by
   intro b
   by_cases hb:b.1∈ds
   ·have e1:look (toH h) b=look h' b:=ha b (hf _ (eK _ hb))
    rw[hout _ b hb,←e1,←hin b hb,←hU.1 b]
    exact bT e1
   ·exact hnew _ b hb
  have hL:Live (puts (uu.filter fun x=>!ds.contains x.1.1) h')=Live (puts uu h'):=funext fun b=>by simp only[Live,he]
  have hO:okOf A ρ' (puts (uu.filter fun x=>!ds.contains x.1.1) h') w'=okOf A ρ' (puts uu h') w':=funext fun k=>by simp only[okOf,he]
  refine⟨v,ρ',rfl,hex,q1.congr (fun _=>rfl) he,?_⟩
  rw[hL,hO]
  exact q2
def Ay (P:Program)(Θ:TT)(dep:Nat→List Nat)(chk:Bool)(N:Nat)(o:Oper)(k:Nat)(fws:t6)(t:VT)(h:VH)(n:Nat)(K:t6→VSt→Prop):Prop:=
 Chk (sj N o.dst) (GA P Θ o.op t h n fun d u gl=>F0 o.dst d t fun t'=>match u with
  |[]=>(match chk with
   |false=>K fws ⟨t',h,n⟩
   |true=>fY (gn [] gl) fun f=>(match f with
    |[]=>K fws ⟨t',h,n⟩
    |f=>AU (fun _=>dep k) fws f [] (K ((k,f,[])::fws) ⟨t',h,n⟩)))
  |u=>gE (n+Kk n u) fun n'=>match chk with
   |false=>Chk (zN n' u) (oO u h fun h'=>K fws ⟨t',h',n'⟩)
   |true=>Ac h u fun u ds=>Chk (zN n' u) (oO u h fun h'=>fY (gn [] (gl++ds)) fun f=>fY (keysV u) fun ws=>AU (fun _=>dep k) fws f ws (K ((k,f,ws)::fws) ⟨t',h',n'⟩)))
def uJ (N:Nat)(o:Oper)(t:VT)(h:VH)(n:Nat)(K:VSt→Prop):Prop:=Chk (sj N o.dst) (F0 o.dst (.tup []) t fun t'=>K ⟨t',h,n⟩)
def lv (P:Program)(Θ:TT)(ops:Array Oper)(dep:Nat→List Nat)(chk:Bool)(N:Nat):List Oper→Nat→t6→VSt→(VSt→Prop)→Prop
 |[],_,_,σ,K=>K σ
 |o::l,k,fws,⟨t,h,n⟩,K=>match o.guard with
  |none=>Ay P Θ dep chk N o k fws t h n fun fws' σ'=>lv P Θ ops dep chk N l (k+1) fws' σ' K
  |some (g,want)=>(match(ops[g]?).bind (·.dst) with
   |some s=>bI t s fun v=>(match v with
    | .tt=>(match want with
      |true=>Ay P Θ dep chk N o k fws t h n fun fws' σ'=>lv P Θ ops dep chk N l (k+1) fws' σ' K
      |false=>uJ N o t h n fun σ'=>lv P Θ ops dep chk N l (k+1) fws σ' K)
    | .ff=>(match want with
      |false=>Ay P Θ dep chk N o k fws t h n fun fws' σ'=>lv P Θ ops dep chk N l (k+1) fws' σ' K
      |true=>uJ N o t h n fun σ'=>lv P Θ ops dep chk N l (k+1) fws σ' K)
    | .bool b=>ju b
     (match want with
      |true=>Ay P Θ dep chk N o k fws ((s,.tt)::t) h n fun fws' σ'=>lv P Θ ops dep chk N l (k+1) fws' σ' K
      |false=>uJ N o ((s,.tt)::t) h n fun σ'=>lv P Θ ops dep chk N l (k+1) fws σ' K)
     (match want with
      |false=>Ay P Θ dep chk N o k fws ((s,.ff)::t) h n fun fws' σ'=>lv P Θ ops dep chk N l (k+1) fws' σ' K
      |true=>uJ N o ((s,.ff)::t) h n fun σ'=>lv P Θ ops dep chk N l (k+1) fws σ' K)
    | .tup []=>uJ N o t h n fun σ'=>lv P Θ ops dep chk N l (k+1) fws σ' K
    |_=>False)
   |none=>False)
theorem OpS.congr {o:Oper}{t t':List (Nat×D)}{h h':HL}{d:D}{u:HL}{f:List Nat}(ht:∀x,look t x=look t' x)(hh:∀b,look h b=look h' b)(hd:OpS P N o t h d u f):OpS P N o t' h' d u f:=
 fun t2 h2 e1 e2=>hd t2 h2 (fun x hx=>(sm fun k _=>ht k).trans (e1 x hx)) fun b hb=>(hh b).trans (e2 b hb)
theorem TRun.congr {ops:Array Oper}:∀{L:List (Oper×Rc)} {t t':List (Nat×D)} {h h':HL} {n:Nat},(∀x,look t x=look t' x)→(∀b,look h b=look h' b)→TRun P ops N t h n L→TRun P ops N t' h' n L
 |[],_,_,_,_,_,_,_,_=>trivial
 |(o,r)::L,t,t',h,h',n,he,hh,⟨h1,h2,h3⟩=>by
  refine⟨h1,?_,TRun.congr (fun x=>?_) (fun b=>bT (hh b)) h3⟩
  ·have hg:dr ops t o=dr ops t' o:=ol fun k _=>he k
   rcases h2 with⟨g1,g2⟩|⟨g1,g2⟩
   ·exact .inl ⟨hg▸g1,g2.congr he hh⟩
   ·exact .inr ⟨hg▸g1,g2⟩
  ·rw[fH,fH,he x]
def MR (k:Nat)(pre:List (Oper×Rc))(fws:t6):Prop:=
 pre.length=k∧∀i o r,pre[i]?=some (o,r)→(r.u≠[]∨r.f≠[])→∃f ws,(i,f,ws)∈fws∧(∀x∈r.u,x.1.1∈ws)∧∀x∈r.f,x∈f
theorem p7:∀(k k':Nat) (l:List (Oper×Rc)) (t:List (Nat×D)),kb (fun _=>true) k l t=kb (fun _=>true) k' l t
 |_,_,[],_=>rfl
 |k,k',(o,r)::l,t=>p7 (k+1) (k'+1) l _
theorem pZ:∀(k k':Nat) (l:List (Oper×Rc)) (t:HL),jp (fun _=>true) k l t=jp (fun _=>true) k' l t
 |_,_,[],_=>rfl
 |k,k',(o,r)::l,t=>pZ (k+1) (k'+1) l _
def lG (σ:VSt):Prop:=∀c:Id,σ.n≤c.1→look (toH σ.h) c=none
def Runs (P:Program)(N:Nat)(ops:Array Oper)(dep:Nat→List Nat)(chk:Bool)(l:List Oper)(k:Nat)(fws:t6)(σ σ':VSt):Prop:=
 ∀pre:List (Oper×Rc),(chk=true→MR k pre fws)→∃L:List (Oper×Rc),L.map (·.1)=l∧TRun P ops N (fL σ.t) (toH σ.h) σ.n L∧
  (∀x,look (fL σ'.t) x=look (kb (fun _=>true) 0 L (fL σ.t)) x)∧(∀x,look (toH σ'.h) x=look (jp (fun _=>true) 0 L (toH σ.h)) x)∧
  lG σ'∧
  (chk=true→∀i j oi ri oj rj,i<k+j→(pre++L)[i]?=some (oi,ri)→L[j]?=some (oj,rj)→(dep (k+j)).contains i=false→(∀x∈ri.u,x.1.1∉rj.f∧∀y∈rj.u,x.1.1≠y.1.1)∧(∀x∈rj.u,x.1.1∉ri.f))
variable {ops:Array Oper} {dep:Nat→List Nat} {chk:Bool}
theorem Runs.nil {k:Nat}{fws:t6}{σ:VSt}(hn:lG σ):Runs P N ops dep chk [] k fws σ σ:=fun pre _=>
 ⟨[],rfl,trivial,fun _=>rfl,fun _=>rfl,hn,fun _ i j oi ri oj rj _ _ hj=>by simp at hj⟩
theorem Runs.congr {l:List Oper}{k:Nat}{fws:t6}{σ τ σ':VSt}(h:Runs P N ops dep chk l k fws τ σ')(ht:∀x,look (fL τ.t) x=look (fL σ.t) x)(hh:τ.h=σ.h)(hn:τ.n=σ.n):Runs P N ops dep chk l k fws σ σ':=by
 intro pre hpre
 obtain⟨L,h1,h2,h3,h4,h5,h6⟩:=h pre hpre
 rw[hh] at h2 h4
 rw[hn] at h2
 exact⟨L,h1,h2.congr ht (fun _=>rfl),fun x=>by rw[h3];exact m6 _ L 0 _ _ x (ht x),h4,h5,h6⟩
theorem va {a b:List Nat}(h:u9 a b=true):∀x∈a,x∉b:=by
 intro x hx
 unfold u9 at h
 rw[aM] at h
 simpa using h x hx
theorem Runs.step {o:Oper}{l:List Oper}{k:Nat}{fws:t6}{σ σ':VSt}{d:V}{u:VH}{gl:List Nat}{n':Nat}(hg:dr ops (fL σ.t) o=some true)(hd:sj N o.dst=true)(ha:StepOK P N o σ.t σ.h d u gl)(hn:σ.n≤n')(hu:zN n' u=true)
  (hc:chk=true→n6 (dep k) fws gl (keysV u)=true) {fws':t6} (hf:chk=true→fws'=(k,gl,keysV u)::fws∨(fws'=fws∧gl=[]∧u=[])) (h:Runs P N ops dep chk l (k+1) fws' ⟨yj o.dst d σ.t,puts u σ.h,n'⟩ σ'):Runs P N ops dep chk (o::l) k fws σ σ':=by
 intro pre hpre
 obtain⟨uu,hU,hS⟩:=ha
 have hS:=hS gl fun k hk=>hk
 let r:Rc:=⟨d.toD,uu,gl,σ.n,n'⟩
 have huk:∀x∈uu,x.1.1∈keysV u:=fun x hx=>by rw[←fe];exact hU.2 x hx
 obtain⟨L,h1,h2,h3,h4,h5,h6⟩:=h (pre++[(o,r)]) (fun hchk=>by
  obtain⟨q1,q2⟩:=hpre hchk
  refine⟨by simp[q1],fun i o' r' hi hne=>?_⟩
  have hmono:∀x∈fws,x∈fws':=by
   intro x hx
   rcases hf hchk with e|⟨e,_⟩
   ·rw[e];exact bA _ hx
   ·rw[e];exact hx
  rcases cG i pre.length with hlt|hge
  ·rw[cW hlt] at hi
   obtain⟨f,ws,a1,a2⟩:=q2 i o' r' hi hne
   exact⟨f,ws,hmono _ a1,a2⟩
  ·rw[eJ hge] at hi
   have:i-pre.length=0:=by
    have:=(aR.1 hi).1
    simpa using this
   rw[this] at hi
   simp only[iL,aw,aZ] at hi
   obtain⟨rfl,rfl⟩:=hi
   have hik:i=k:=by omega
   rcases hf hchk with e|⟨_,e1,e2⟩
   ·rw[hik,e]
    exact⟨gl,keysV u,bk ..,huk,fun x hx=>hx⟩
   ·exfalso
    rcases hne with hne|hne
    ·refine hne ?_
     show uu=[]
     cases huu:uu with
     |nil=>rfl
     |cons x l=>have:=huk x (by rw[huu];exact bk ..);rw[e2] at this;cases this
    ·exact hne e1)
 have hdst:∀x,o.dst=some x→x<N:=by
  intro x hx
  simpa[sj,hx,Nat.blt_eq] using hd
 rw[rA] at h2
 have h2':=h2.congr (fun _=>rfl) (fun b=>(hU.1 b).symm)
 refine⟨(o,r)::L,by simp[h1],⟨⟨rfl,hn,fun x hx=>vP hu _ (hU.2 x hx),hdst⟩,.inl ⟨hg,hS⟩,h2'⟩,fun x=>(h3 x).trans ?_,fun x=>(h4 x).trans ?_,h5,fun hchk i j oi ri oj rj hij hi hj hdp=>?_⟩
 ·show look (kb _ 0 L (fL (yj o.dst d σ.t))) x=look (kb _ 1 L (if(fun _=>true) 0=true then _ else _)) x
  simp only[if_true,rA]
  rw[p7 0 1]
 ·show look (jp _ 0 L (toH (puts u σ.h))) x=look (jp _ 1 L (if(fun _=>true) 0=true then _ else _)) x
  simp only[if_true]
  rw[pZ 0 1]
  exact m5 _ L 1 _ _ x (hU.1 x).symm
 ·cases j with
  |zero=>
   simp only[iL,aw,aZ] at hj
   obtain⟨rfl,rfl⟩:=hj
   obtain⟨q1,q2⟩:=hpre hchk
   rw[cW (by omega)] at hi
   by_cases hne:ri.u≠[]∨ri.f≠[]
   ·obtain⟨f0,ws0,hm,m1,m2⟩:=q2 i oi ri hi hne
    have hcf:=hc hchk
    unfold n6 at hcf
    rw[aM] at hcf
    have:=hcf _ hm
    simp only[js] at hdp
    simp only[hdp,j9,aA] at this
    obtain⟨⟨c1,c2⟩,c3⟩:=this
    exact⟨fun x hx=>⟨va c1 _ (m1 x hx),fun y hy he=>va c2 _ (m1 x hx) (he▸huk y hy)⟩,fun x hx hxf=>va c3 _ (huk x hx) (m2 _ hxf)⟩
   ·have e1:ri.u=[]:=by
     rcases jr (ri.u=[]) with h|h
     ·exact h
     ·exact absurd (.inl h) hne
    have e2:ri.f=[]:=by
     rcases jr (ri.f=[]) with h|h
     ·exact h
     ·exact absurd (.inr h) hne
    rw[e1,e2]
    exact⟨fun x hx=>(by cases hx),fun x hx h=>(by cases h)⟩
  |succ j=>
   refine h6 hchk i j oi ri oj rj (by omega) (by simpa using hi) (by simpa using hj) (by rw[show k+1+j=k+(j+1) by omega];exact hdp)
theorem Runs.skip {o:Oper}{l:List Oper}{k:Nat}{fws:t6}{σ σ':VSt}(hg:dr ops (fL σ.t) o=some false)(hd:sj N o.dst=true)(h:Runs P N ops dep chk l (k+1) fws ⟨yj o.dst (.tup []) σ.t,σ.h,σ.n⟩ σ'):Runs P N ops dep chk (o::l) k fws σ σ':=by
 intro pre hpre
 let r:Rc:=⟨.tup [],[],[],σ.n,σ.n⟩
 obtain⟨L,h1,h2,h3,h4,h5,h6⟩:=h (pre++[(o,r)]) (fun hchk=>by
  obtain⟨q1,q2⟩:=hpre hchk
  refine⟨by simp[q1],fun i o' r' hi hne=>?_⟩
  rcases cG i pre.length with hlt|hge
  ·rw[cW hlt] at hi
   exact q2 i o' r' hi hne
  ·rw[eJ hge] at hi
   have:i-pre.length=0:=by
    have:=(aR.1 hi).1
    simpa using this
   rw[this] at hi
   simp only[iL,aw,aZ] at hi
   obtain⟨rfl,rfl⟩:=hi
   simp[r] at hne)
 have hdst:∀x,o.dst=some x→x<N:=by
  intro x hx
  simpa[sj,hx,Nat.blt_eq] using hd
 rw[rA] at h2
 refine⟨(o,r)::L,by simp[h1],⟨⟨rfl,ax _,by simp[r],hdst⟩,.inr ⟨hg,rfl,rfl,rfl⟩,h2⟩,fun x=>(h3 x).trans ?_,fun x=>(h4 x).trans ?_,h5,fun hchk i j oi ri oj rj hij hi hj hdp=>?_⟩
 ·show look (kb _ 0 L (fL (yj o.dst (.tup []) σ.t))) x=look (kb _ 1 L (if(fun _=>true) 0=true then _ else _)) x
  simp only[if_true,rA]
  rw[p7 0 1]
  rfl
 ·show look (jp _ 0 L (toH σ.h)) x=look (jp _ 1 L (if(fun _=>true) 0=true then _ else _)) x
  simp only[if_true]
  rw[pZ 0 1]
  rfl
 ·cases j with
  |zero=>
   simp only[iL,aw,aZ] at hj
   obtain⟨rfl,rfl⟩:=hj
   refine⟨fun x hx=>⟨by simp[r],by simp[r]⟩,by simp[r]⟩
  |succ j=>
   refine h6 hchk i j oi ri oj rj (by omega) (by simpa using hi) (by simpa using hj) (by rw[show k+1+j=k+(j+1) by omega];exact hdp)
theorem wG {gl:List Nat}{o:Oper}{t:VT}{h:VH}{r:V}{u:VH}(hs:StepOK P N o t h r u gl):StepOK P N o t h r u (gn [] gl):=fI hs fun k hk=>t7.2 (.inr hk)
theorem Jo {Θ:TT}(hΘ:Θ.ok P){o:Oper}{k:Nat}{fws:t6}{σ:VSt}(hfr:lG σ){K:t6→VSt→Prop}(h:Ay P Θ dep chk N o k fws σ.t σ.h σ.n K):
  ∃(d:V) (u:VH) (gl:List Nat) (n':Nat) (fws':t6),sj N o.dst=true∧StepOK P N o σ.t σ.h d u gl∧σ.n≤n'∧zN n' u=true∧(chk=true→n6 (dep k) fws gl (keysV u)=true)∧
   (chk=true→fws'=(k,gl,keysV u)::fws∨(fws'=fws∧gl=[]∧u=[]))∧K fws' ⟨yj o.dst d σ.t,puts u σ.h,n'⟩:=by
 obtain⟨hd,h1⟩:=Chk.ok h
 obtain⟨d,u,gl,ha0,h2⟩:=GB (N:=N) hΘ hfr h1
 have ha:=wG ha0
 have h3:=yk h2
 split at h3
 ·split at h3
  ·exact⟨d,[],_,σ.n,fws,hd,ha,ax _,rfl,fun hc=>(by cases hc),fun hc=>(by cases hc),h3⟩
  ·have h4:=ct h3
   split at h4
   ·rename_i e
    exact⟨d,[],_,σ.n,fws,hd,ha,ax _,rfl,fun _=>by rw[e];exact DW,fun _=>.inr ⟨rfl,e,rfl⟩,h4⟩
   ·obtain⟨h5,h6⟩:=wY h4
    exact⟨d,[],_,σ.n,_,hd,ha,ax _,rfl,fun _=>h5,fun _=>.inl rfl,h6⟩
 ·have h4:=bU h3
  split at h4
  ·obtain⟨hl,h5⟩:=h4.ok
   have h6:=jn h5
   exact⟨d,_,_,_,fws,hd,ha,Nat.le_add_right _ _,hl,fun hc=>(by cases hc),fun hc=>(by cases hc),h6⟩
  ·obtain⟨u',ds,s,h5⟩:=Dc h4
   obtain⟨hl,h5⟩:=h5.ok
   have h6:=jn h5
   have ha2:=wG (ha0.same s)
   obtain⟨h7,h8⟩:=wY (ct (ct h6))
   exact⟨d,_,_,_,_,hd,ha2,Nat.le_add_right _ _,hl,fun _=>h7,fun _=>.inl rfl,h8⟩
theorem zq {o:Oper}{t:VT}{h:VH}{n n':Nat}{d:V}{u:VH}{gl:List Nat}(hn:∀c:Id,n≤c.1→look (toH h) c=none)(hle:n≤n')(ha:StepOK P N o t h d u gl)(hu:zN n' u=true){t':VT}:lG ⟨t',puts u h,n'⟩:=by
 obtain⟨uu,hU,_⟩:=ha
 exact uh (n:=n') (fun c hc=>hn c (cu hle hc)) hU hu
theorem fG {o:Oper}{t:VT}{g s:Nat}{want b:Bool}{v:V}(h1:o.guard=some (g,want))(h2:(ops[g]?).bind (·.dst)=some s)(h3:look t s=some v)(hv:v.toD= .bool b):dr ops (fL t) o=some (b==want):=by
 unfold dr
 rw[h1]
 simp only[h2,dj,h3,aI,hv]
theorem lY {t:VT}{s:Nat}{v v':V}(h:look t s=some v)(he:v'.toD=v.toD)(x:Nat):look (fL ((s,v')::t)) x=look (fL t) x:=by
 rw[dj,dj]
 show Option.map _ (if x=s then _ else _)=_
 split
 ·rename_i e;subst e;rw[h];simp[he]
 ·rfl
theorem nc {Θ:TT}(hΘ:Θ.ok P):∀{l:List Oper} {k:Nat} {fws:t6} {σ:VSt} {K:VSt→Prop},lG σ→lv P Θ ops dep chk N l k fws σ K→∃σ',K σ'∧Runs P N ops dep chk l k fws σ σ'
 |[],k,fws,σ,K,hn,h=>⟨σ,h,Runs.nil hn⟩
 |o::l,k,fws,σ,K,hn,h=>by
  have run:∀σ:VSt,lG σ→dr ops (fL σ.t) o=some true→(Ay P Θ dep chk N o k fws σ.t σ.h σ.n fun fws' σ'=>lv P Θ ops dep chk N l (k+1) fws' σ' K)→∃σ',K σ'∧Runs P N ops dep chk (o::l) k fws σ σ':=by
   intro σ hn hg h
   obtain⟨d,u,gl,n',fws',h1,h2,h3,h4,h5,h6,h7⟩:=Jo hΘ hn h
   obtain⟨σ',h9,h10⟩:=nc hΘ (zq hn h3 h2 h4) h7
   exact⟨σ',h9,Runs.step hg h1 h2 h3 h4 h5 h6 h10⟩
  have skip:∀σ:VSt,lG σ→dr ops (fL σ.t) o=some false→(uJ N o σ.t σ.h σ.n fun σ'=>lv P Θ ops dep chk N l (k+1) fws σ' K)→∃σ',K σ'∧Runs P N ops dep chk (o::l) k fws σ σ':=by
   intro σ hn hg h
   obtain⟨hd,h7⟩:=Chk.ok h
   have h7:=yk h7
   obtain⟨σ',h8,h9⟩:=nc (σ:=⟨yj o.dst (.tup []) σ.t,σ.h,σ.n⟩) hΘ hn h7
   exact⟨σ',h8,Runs.skip hg hd h9⟩
  obtain⟨st,sh,sn⟩:=σ
  unfold lv at h
  split at h
  ·rename_i e
   exact run ⟨st,sh,sn⟩ hn (by unfold dr;rw[e]) h
  ·rename_i g want e
   split at h
   ·rename_i s es
    obtain⟨v,h1,h2⟩:=aD h
    split at h2
    ·cases want with
     |true=>exact run ⟨st,sh,sn⟩ hn (fG e es (b:=true) h1 rfl) h2
     |false=>exact skip ⟨st,sh,sn⟩ hn (fG e es (b:=true) h1 rfl) h2
    ·cases want with
     |true=>exact skip ⟨st,sh,sn⟩ hn (fG e es (b:=false) h1 rfl) h2
     |false=>exact run ⟨st,sh,sn⟩ hn (fG e es (b:=false) h1 rfl) h2
    ·rename_i b
     cases b with
     |true=>
      have h3:=h2.1 rfl
      have hsh:∀x,look (fL ((s,.tt)::st)) x=look (fL st) x:=lY h1 rfl
      cases want with
      |true=>
       obtain⟨σ',k1,k2⟩:=run ⟨(s,.tt)::st,sh,sn⟩ hn (fG e es (b:=true) (v:=.tt) (by simp[look]) rfl) h3
       exact⟨σ',k1,k2.congr hsh rfl rfl⟩
      |false=>
       obtain⟨σ',k1,k2⟩:=skip ⟨(s,.tt)::st,sh,sn⟩ hn (fG e es (b:=true) (v:=.tt) (by simp[look]) rfl) h3
       exact⟨σ',k1,k2.congr hsh rfl rfl⟩
     |false=>
      have h3:=h2.2 rfl
      have hsh:∀x,look (fL ((s,.ff)::st)) x=look (fL st) x:=lY h1 rfl
      cases want with
      |true=>
       obtain⟨σ',k1,k2⟩:=skip ⟨(s,.ff)::st,sh,sn⟩ hn (fG e es (b:=false) (v:=.ff) (by simp[look]) rfl) h3
       exact⟨σ',k1,k2.congr hsh rfl rfl⟩
      |false=>
       obtain⟨σ',k1,k2⟩:=run ⟨(s,.ff)::st,sh,sn⟩ hn (fG e es (b:=false) (v:=.ff) (by simp[look]) rfl) h3
       exact⟨σ',k1,k2.congr hsh rfl rfl⟩
    ·refine skip ⟨st,sh,sn⟩ hn ?_ h2
     unfold dr
     rw[e]
     simp only[es,dj,h1,aI,V.toD,ak]
    ·exact h2.elim
   ·exact h.elim
end Go.Proofs.YtpefhoohfkeflacGreatDoor.Am
namespace Go.Proofs.YtpefhoohfkeflacGreatDoor.Am
open Go Go.RowKit
variable {P:Program} {N:Nat} {K:Id→Prop}
def At (P:Program)(N:Nat)(K:Id→Prop)(c:Code)(Q:Exit→VSt→Prop)(σ:VSt):Prop:=∃e σ',Brings P N K c σ.toD e σ'.toD∧(gY P N K σ'.toD→Q e σ')
theorem jV {c:Code}{σ:St}(h:¬gY P N K σ)(e:Exit)(σ':St):Brings P N K c σ e σ':=fun w0 S A ρ0 a w hs=>absurd ⟨w0,S,A,ρ0,a,w,hs⟩ h
variable {Q:Exit→VSt→Prop} {σ:VSt}
theorem At.real {c:Code}(h:gY P N K σ.toD→At P N K c Q σ):At P N K c Q σ:=by
 rcases jr (gY P N K σ.toD) with hr|hr
 ·exact h hr
 ·exact⟨.normal,σ,jV hr _ _,fun h=>absurd h hr⟩
theorem At.mono {c:Code}{Q':Exit→VSt→Prop}(h:At P N K c Q σ)(hq:∀e σ,Q e σ→Q' e σ):At P N K c Q' σ:=by
 obtain⟨e,σ',h1,h2⟩:=h
 exact⟨e,σ',h1,fun hr=>hq _ _ (h2 hr)⟩
def NK (next:VSt→Prop)(Q:Exit→VSt→Prop):Exit→VSt→Prop
 | .normal,σ=>next σ
 |e,σ=>Q e σ
def yY (id:Nat)(Q:Exit→VSt→Prop):Exit→VSt→Prop
 | .exit id',σ=>bif Nat.beq id' id then Q .normal σ else Q (.exit id') σ
 |e,σ=>Q e σ
theorem cK (h:Q .normal σ):At P N K .skip Q σ:=⟨.normal,σ,.skip,fun _=>h⟩
theorem dp (h:Q .ret σ):At P N K .ret Q σ:=⟨.ret,σ,.ret,fun _=>h⟩
theorem cH {id:Nat}(h:Q (.exit id) σ):At P N K (.exit id) Q σ:=⟨.exit id,σ,.exit,fun _=>h⟩
theorem dQ {x y:Code}(h:At P N K x (NK (At P N K y Q) Q) σ):At P N K (.seq x y) Q σ:=by
 obtain⟨e,σ1,h1,h2⟩:=h
 rcases jr (gY P N K σ1.toD) with hr|hr
 ·cases e with
  |normal=>
   obtain⟨e2,σ2,h3,h4⟩:=h2 hr
   exact⟨e2,σ2,.seqN h1 h3,h4⟩
  |_=>exact⟨_,σ1,.seqX (by simp) h1,fun hr=>h2 hr⟩
 ·cases e with
  |normal=>exact⟨.normal,σ1,.seqN h1 (jV hr _ _),fun h=>absurd h hr⟩
  |_=>exact⟨_,σ1,.seqX (by simp) h1,fun h=>absurd h hr⟩
theorem cU {id:Nat}{c:Code}(h:At P N K c (yY id Q) σ):At P N K (.block id c) Q σ:=by
 obtain⟨e,σ1,h1,h2⟩:=h
 cases e with
 |exit id'=>
  by_cases hid:id'=id
  ·subst hid
   exact⟨.normal,σ1,.blockE h1,fun hr=>by have:=h2 hr;simpa only[yY,Nat.beq_refl,cond_true] using this⟩
  ·refine⟨.exit id',σ1,.blockX (by simp[hid]) h1,fun hr=>?_⟩
   have hb:Nat.beq id' id=false:=by
    cases hb:Nat.beq id' id with
    |false=>rfl
    |true=>exact absurd (cq hb) hid
   have:=h2 hr
   simpa only[yY,hb,cond_false] using this
 |_=>exact⟨_,σ1,.blockX (by simp) h1,h2⟩
def JK (c:Operand)(σ:VSt)(A B:VSt→Prop):Prop:=
 match c,σ with
 | .tmp s,⟨t,h,n⟩=>bI t s fun v=>(match v with
  | .tt=>A ⟨t,h,n⟩
  | .ff=>B ⟨t,h,n⟩
  | .bool b=>ju b (A ⟨(s,.tt)::t,h,n⟩) (B ⟨(s,.ff)::t,h,n⟩)
  |_=>False)
 | .const (.bool true),σ=>A σ
 | .const (.bool false),σ=>B σ
 |_,_=>False
theorem SimS.congr {w0:World}{S:SD}{A:Nat→Prop}{ρ0:Id→Pl}{a:Act}{w:World}{σ σ':St}(h:SimS P w0 S A N ρ0 K σ a w)(ht:∀x,look σ'.t x=look σ.t x)(hh:∀x,look σ'.h x=look σ.h x)(hn:σ'.n=σ.n):SimS P w0 S A N ρ0 K σ' a w:=by
 obtain⟨h1,h2,ρ,h3,h4⟩:=h
 refine⟨fun b hb=>by rw[hh];exact h1 b (by omega),fun b hb=>?_,ρ,h3,h4.congr ht hh⟩
 have:=h2 b hb
 unfold Live at this⊢
 rw[hh]
 exact this
theorem qH {s:Nat}{v v':V}(h:look σ.t s=some v)(he:v'.toD=v.toD):Weak P N K σ.toD (VSt.toD ⟨(s,v')::σ.t,σ.h,σ.n⟩):=
 fun _ _ _ _ _ _ hs=>hs.congr (fun x=>lY h he x) (fun _=>rfl) rfl
theorem df {c:Operand}{x y:Code}(h:JK c σ (At P N K x Q) (At P N K y Q)):At P N K (.cond c x y) Q σ:=by
 unfold JK at h
 split at h
 ·rename_i s st sh sn
  obtain⟨v,h1,h2⟩:=aD h
  split at h2
  ·obtain⟨e,σ1,h3,h4⟩:=h2
   exact⟨e,σ1,.condT (by simp only[aX,VSt.toD,dj,h1,aI,V.toD]) h3,h4⟩
  ·obtain⟨e,σ1,h3,h4⟩:=h2
   exact⟨e,σ1,.condF (by simp only[aX,VSt.toD,dj,h1,aI,V.toD]) h3,h4⟩
  ·rename_i b
   have hev:aX (VSt.toD ⟨st,sh,sn⟩).t (.tmp s)=some (.bool b):=by simp only[aX,VSt.toD,dj,h1,aI,V.toD]
   cases b with
   |true=>
    obtain⟨e,σ1,h3,h4⟩:=h2.1 rfl
    exact⟨e,σ1,.condT hev (.pre (qH (σ:=⟨st,sh,sn⟩) h1 rfl) h3),h4⟩
   |false=>
    obtain⟨e,σ1,h3,h4⟩:=h2.2 rfl
    exact⟨e,σ1,.condF hev (.pre (qH (σ:=⟨st,sh,sn⟩) h1 rfl) h3),h4⟩
  ·exact h2.elim
 ·obtain⟨e,σ1,h3,h4⟩:=h
  exact⟨e,σ1,.condT rfl h3,h4⟩
 ·obtain⟨e,σ1,h3,h4⟩:=h
  exact⟨e,σ1,.condF rfl h3,h4⟩
 ·exact h.elim
theorem wM {c:Code}(h:lG σ→At P N K c Q σ):At P N K c Q σ:=by
 rcases jr (lG σ) with hr|hr
 ·exact h hr
 ·refine At.real fun⟨w0,S,A,ρ0,a,w,hs⟩=>absurd hs.1 hr
theorem cJ {Θ:TT}(hΘ:Θ.ok P){id:Nat}{ops:Array Oper}(h:lv P Θ ops (fun _=>[]) false N ops.toList 0 [] σ (Q .normal)):At P N K (.region id ops false) Q σ:=by
 refine wM fun hn=>?_
 obtain⟨σ',h1,h2⟩:=nc hΘ hn h
 obtain⟨L,l1,l2,l3,l4,l5,_⟩:=h2 [] fun h=>by cases h
 exact⟨.normal,σ',.regionS l1 l2 l3 l4 fun _=>l5,fun _=>h1⟩
def MS (o:Oper):Nat:=o.after.toList.foldl (fun m e=>bif Region.binds .any e then m|||(1<<<e.on) else m) 0
def Kd (ops:List Oper):Nat→Nat→Nat
 |0,m=>m
 |j+1,m=>match m.testBit j with
  |true=>Kd ops j (m|||(match ops[j]? with|some o=>MS o|none=>0))
  |false=>Kd ops j m
def Kp (ops:Array Oper)(k:Nat):List Nat:=
 match ops.toList[k]? with
 |some o=>(List.range k).filter fun i=>(Kd ops.toList k (MS o)).testBit i
 |none=>[]
theorem cI {Θ:TT}(hΘ:Θ.ok P)(hm:P.follows .mixedOrders=true){id:Nat}{ops:Array Oper}(hok:Reg.okB ops (Kp ops)=true)(h:lv P Θ ops (Kp ops) true N ops.toList 0 [] σ (Q .normal)):At P N K (.region id ops true) Q σ:=by
 refine wM fun hn=>?_
 obtain⟨σ',h1,h2⟩:=nc hΘ hn h
 obtain⟨L,l1,l2,l3,l4,l5,l6⟩:=h2 [] fun _=>⟨rfl,fun i o r hi=>by simp at hi⟩
 refine⟨.normal,σ',(.regionD (Kp ops) hm hok l1 l2 ?_ l3 l4 fun _=>l5),fun _=>h1⟩
 intro i j oi ri oj rj hij hi hj hdp
 exact l6 rfl i j oi ri oj rj (by omega) (by simpa using hi) hj (by simpa using hdp)
end Go.Proofs.YtpefhoohfkeflacGreatDoor.Am
namespace Go.Proofs.YtpefhoohfkeflacGreatDoor.Am
open Go Go.RowKit
variable {P:Program} {N:Nat} {K:Id→Prop} {os:List Nat} {n:Nat} {h:VH}
def Oz (h:VH)(b:Nat):Bool:=match aU h b with
 |some (.row ..)|some (.lit ..)|some (.var ..)|some (.vari ..)=>true
 |_=>false
def Fs (h:VH):List Nat→List Nat
 |[]=>[]
 |b::l=>match Nat.ble 4 b && Oz h b with|true=>b::Fs h l|false=>Fs h l
def xu:VB→List Nat
 | .var _ cs=>fU cs
 | .vari _ pre _ _ _ post=>fU pre++fU post
 | .lit _ vs=>fU vs
 |_=>[]
def vC (h:VH):Nat→Nat→List Nat→(List Nat→Prop)→Prop
 |0,_,l,K=>K l
 |k+1,i,l,K=>match l[i]? with
  |none=>K l
  |some b=>fY (gn l (Fs h (match aU h b with|some x=>xu x|none=>[]))) fun l=>vC h k (i+1) l K
theorem uj {h:VH}:∀{k i:Nat} {l:List Nat} {K:List Nat→Prop},vC h k i l K→∃l,K l
 |0,_,l,_,hk=>⟨l,hk⟩
 |k+1,i,l,K,hk=>by
  simp only[vC] at hk
  split at hk
  ·exact⟨_,hk⟩
  ·have hk:=ct hk
   exact uj hk
def vD (h:VH)(l:List Nat)(K:List Nat→Prop):Prop:=fY l fun l=>vC h 60 0 l K
theorem sA {h:VH}{l:List Nat}{K:List Nat→Prop}(hk:vD h l K):∃l,K l:=uj (ct hk)
def JN:VT→List Nat
 |[]=>[]
 |(_,v)::l=>gq v++JN l
mutual
def ch (os:List Nat)(v:V)(K:V→Prop):Prop:=
 match v with
 | .ref b=>pS b os 4 fun r=>(match r with|some i=>K (.ref i)|none=>False)
 | .ptr b o=>pS b os 4 fun r=>(match r with|some i=>K (.ptr i o)|none=>False)
 | .eptr b j o=>pS b os 4 fun r=>(match r with|some i=>K (.eptr i j o)|none=>False)
 | .vref b o q=>pS b os 4 fun r=>(match r with|some i=>K (.vref i o q)|none=>False)
 | .aptr b p j=>pS b os 4 fun r=>(match r with|some i=>K (.aptr i p j)|none=>False)
 | .fref k i=>Chk (Nat.blt k 4) (K (.fref k i))
 | .fptr k i o=>Chk (Nat.blt k 4) (K (.fptr k i o))
 | .feptr k i j o=>Chk (Nat.blt k 4) (K (.feptr k i j o))
 | .faptr k i p j=>Chk (Nat.blt k 4) (K (.faptr k i p j))
 | .hro k o=>Chk (Nat.blt k 4) (K (.hro k o))
 | .hpo k o=>Chk (Nat.blt k 4) (K (.hpo k o))
 | .agg cs=>lJ os cs fun cs=>K (.agg cs)
 | .tup cs=>lJ os cs fun cs=>K (.tup cs)
 | .clo f cs=>lJ os cs fun cs=>K (.clo f cs)
 | .ifc T v=>ch os v fun v=>K (.ifc T v)
 | .int k n=>K (.int k n)
 | .bool b=>K (.bool b)
 | .tt=>K (.bool true)
 | .ff=>K (.bool false)
 | .str s=>K (.str s)
 | .lst t xs=>K (.lst t xs)
 | .box t x=>K (.box t x)
 | .nilp=>K .nilp
 | .nils=>K .nils
 | .nilf=>K .nilf
 | .nili=>K .nili
 | .gv g=>K (.gv g)
 | .gp _=>False
 | .iptr t x o=>K (.iptr t x o)
 | .obo t o=>K (.obo t o)
 | .undef=>K .undef
 | .junk=>K .junk
def lJ (os:List Nat)(l:List V)(K:List V→Prop):Prop:=
 match l with
 |[]=>K []
 |v::l=>ch os v fun v=>lJ os l fun l=>K (v::l)
end
structure KeepOK (os:List Nat)(h h':VH):Prop where
 sgl:∀m b,os[m]?=some b→Live (toH h) (b,0)→Live (toH h') (4+m,0)
 fam:∀k,k<4→∀i,Live (toH h) (k,i)→Live (toH h') (k,i)
section
variable {h':VH}
theorem L2 (H:KeepOK os h h'){m b:Nat}(hb:os[m]?=some b):Rn (toH h) (gI (gN os n)) (toH h') (.ref (b,0)) (.ref (4+m,0)):=by
 have e:gI (gN os n) (4+m,0)=(b,0):=by simp only[gI,gS,eE hb]
 have:=Rn.ref (h:=toH h) (g:=gI (gN os n)) (h':=toH h') (4+m,0) fun hl=>H.sgl m b hb (by rw[e] at hl;exact hl)
 rwa [e] at this
theorem Gc (H:KeepOK os h h'){m b:Nat}(hb:os[m]?=some b)(o:Nat):Rn (toH h) (gI (gN os n)) (toH h') (.ptr (b,0) o) (.ptr (4+m,0) o):=by
 have e:gI (gN os n) (4+m,0)=(b,0):=by simp only[gI,gS,eE hb]
 have:=Rn.ptr (h:=toH h) (g:=gI (gN os n)) (h':=toH h') (4+m,0) o fun hl=>H.sgl m b hb (by rw[e] at hl;exact hl)
 rwa [e] at this
theorem I0 (H:KeepOK os h h'){m b:Nat}(hb:os[m]?=some b)(j o:Nat):Rn (toH h) (gI (gN os n)) (toH h') (.eptr (b,0) j o) (.eptr (4+m,0) j o):=by
 have e:gI (gN os n) (4+m,0)=(b,0):=by simp only[gI,gS,eE hb]
 have:=Rn.eptr (h:=toH h) (g:=gI (gN os n)) (h':=toH h') (4+m,0) j o fun hl=>H.sgl m b hb (by rw[e] at hl;exact hl)
 rwa [e] at this
theorem I2 (H:KeepOK os h h'){m b:Nat}(hb:os[m]?=some b)(o q:Nat):Rn (toH h) (gI (gN os n)) (toH h') (.vref (b,0) o q) (.vref (4+m,0) o q):=by
 have e:gI (gN os n) (4+m,0)=(b,0):=by simp only[gI,gS,eE hb]
 have:=Rn.vref (h:=toH h) (g:=gI (gN os n)) (h':=toH h') (4+m,0) o q fun hl=>H.sgl m b hb (by rw[e] at hl;exact hl)
 rwa [e] at this
theorem vA {k:Nat}(hk:k<4)(i:Nat):gI (gN os n) (k,i)=(k,i):=by simp only[gI,pB os n hk]
theorem BY (H:KeepOK os h h'){k:Nat}(hk:k<4)(i:Nat):Rn (toH h) (gI (gN os n)) (toH h') (.ref (k,i)) (.ref (k,i)):=by
 have e:gI (gN os n) (k,i)=(k,i):=vA hk i
 have:=Rn.ref (h:=toH h) (g:=gI (gN os n)) (h':=toH h') (k,i) fun hl=>H.fam k hk i (by rw[e] at hl;exact hl)
 rwa [e] at this
theorem vX (H:KeepOK os h h'){k:Nat}(hk:k<4)(i o:Nat):Rn (toH h) (gI (gN os n)) (toH h') (.ptr (k,i) o) (.ptr (k,i) o):=by
 have e:gI (gN os n) (k,i)=(k,i):=vA hk i
 have:=Rn.ptr (h:=toH h) (g:=gI (gN os n)) (h':=toH h') (k,i) o fun hl=>H.fam k hk i (by rw[e] at hl;exact hl)
 rwa [e] at this
theorem Gb (H:KeepOK os h h'){k:Nat}(hk:k<4)(i j o:Nat):Rn (toH h) (gI (gN os n)) (toH h') (.eptr (k,i) j o) (.eptr (k,i) j o):=by
 have e:gI (gN os n) (k,i)=(k,i):=vA hk i
 have:=Rn.eptr (h:=toH h) (g:=gI (gN os n)) (h':=toH h') (k,i) j o fun hl=>H.fam k hk i (by rw[e] at hl;exact hl)
 rwa [e] at this
theorem qz (H:KeepOK os h h'){k:Nat}(hk:k<4)(o:Option Nat):Rn (toH h) (gI (gN os n)) (toH h') (mS k o) (mS k o):=by
 cases o with
 |none=>exact .pure _ rfl
 |some i=>exact BY H hk i
theorem J2 (H:KeepOK os h h'){k:Nat}(hk:k<4)(o:Option Nat):Rn (toH h) (gI (gN os n)) (toH h') (qu k o) (qu k o):=by
 cases o with
 |none=>exact .pure _ rfl
 |some i=>exact vX H hk i 0
theorem nC {a b:Nat}(h:Nat.blt a b=true):a<b:=by simpa[Nat.blt_eq] using h
mutual
theorem lI:∀{v:V} {K:V→Prop},ch os v K→∃r:V,(∀h',KeepOK os h h'→Rn (toH h) (gI (gN os n)) (toH h') v.toD r.toD)∧r.one=v.one∧K r
 | .ref b,K,hk=>by
  simp only[ch] at hk
  obtain⟨r,r1,r2,hk⟩:=gc hk
  split at hk
  ·obtain⟨m,rfl,hm⟩:=r2 _ rfl
   exact⟨.ref (4+m),fun h' H=>L2 H hm,rfl,hk⟩
  ·exact hk.elim
 | .ptr b o,K,hk=>by
  simp only[ch] at hk
  obtain⟨r,r1,r2,hk⟩:=gc hk
  split at hk
  ·obtain⟨m,rfl,hm⟩:=r2 _ rfl
   exact⟨.ptr (4+m) o,fun h' H=>Gc H hm o,rfl,hk⟩
  ·exact hk.elim
 | .eptr b j o,K,hk=>by
  simp only[ch] at hk
  obtain⟨r,r1,r2,hk⟩:=gc hk
  split at hk
  ·obtain⟨m,rfl,hm⟩:=r2 _ rfl
   exact⟨.eptr (4+m) j o,fun h' H=>I0 H hm j o,rfl,hk⟩
  ·exact hk.elim
 | .vref b o q,K,hk=>by
  simp only[ch] at hk
  obtain⟨r,r1,r2,hk⟩:=gc hk
  split at hk
  ·obtain⟨m,rfl,hm⟩:=r2 _ rfl
   exact⟨.vref (4+m) o q,fun h' H=>I2 H hm o q,rfl,hk⟩
  ·exact hk.elim
 | .aptr b p j,K,hk=>by
  simp only[ch] at hk
  obtain⟨r,r1,r2,hk⟩:=gc hk
  split at hk
  ·obtain⟨m,rfl,hm⟩:=r2 _ rfl
   exact⟨.aptr (4+m) p j,fun h' H=>Gc H hm (p+j),rfl,hk⟩
  ·exact hk.elim
 | .fref k i,K,hk=>by simp only[ch] at hk;obtain⟨c,hk⟩:=hk.ok;exact⟨.fref k i,fun h' H=>BY H (nC c) i,rfl,hk⟩
 | .fptr k i o,K,hk=>by simp only[ch] at hk;obtain⟨c,hk⟩:=hk.ok;exact⟨.fptr k i o,fun h' H=>vX H (nC c) i o,rfl,hk⟩
 | .feptr k i j o,K,hk=>by simp only[ch] at hk;obtain⟨c,hk⟩:=hk.ok;exact⟨.feptr k i j o,fun h' H=>Gb H (nC c) i j o,rfl,hk⟩
 | .faptr k i p j,K,hk=>by simp only[ch] at hk;obtain⟨c,hk⟩:=hk.ok;exact⟨.faptr k i p j,fun h' H=>vX H (nC c) i (p+j),rfl,hk⟩
 | .hro k o,K,hk=>by simp only[ch] at hk;obtain⟨c,hk⟩:=hk.ok;exact⟨.hro k o,fun h' H=>qz H (nC c) o,rfl,hk⟩
 | .hpo k o,K,hk=>by simp only[ch] at hk;obtain⟨c,hk⟩:=hk.ok;exact⟨.hpo k o,fun h' H=>J2 H (nC c) o,rfl,hk⟩
 | .agg cs,K,hk=>by
  simp only[ch] at hk
  obtain⟨r,h1,h2,h3,hk⟩:=kf hk
  exact⟨.agg r,fun h' H=>by simp only[V.toD];exact .agg _ _ h1 (h2 h' H),rfl,hk⟩
 | .tup cs,K,hk=>by
  simp only[ch] at hk
  obtain⟨r,h1,h2,h3,hk⟩:=kf hk
  exact⟨.tup r,fun h' H=>by simp only[V.toD];exact .tup _ _ h1 (h2 h' H),rfl,hk⟩
 | .clo f cs,K,hk=>by
  simp only[ch] at hk
  obtain⟨r,h1,h2,h3,hk⟩:=kf hk
  exact⟨.clo f r,fun h' H=>by simp only[V.toD];exact .clo f _ _ h1 (h2 h' H),rfl,hk⟩
 | .ifc T v,K,hk=>by
  simp only[ch] at hk
  obtain⟨r,h1,h2,hk⟩:=lI hk
  exact⟨.ifc T r,fun h' H=>by simp only[V.toD];exact .ifc T _ _ (h1 h' H),rfl,hk⟩
 | .int k m,K,hk=>⟨.int k m,fun h' H=>.pure _ rfl,rfl,by simpa only[ch] using hk⟩
 | .bool b,K,hk=>⟨.bool b,fun h' H=>.pure _ rfl,rfl,by simpa only[ch] using hk⟩
 | .tt,K,hk=>⟨.bool true,fun h' H=>.pure _ rfl,rfl,by simpa only[ch] using hk⟩
 | .ff,K,hk=>⟨.bool false,fun h' H=>.pure _ rfl,rfl,by simpa only[ch] using hk⟩
 | .str s,K,hk=>⟨.str s,fun h' H=>.pure _ rfl,rfl,by simpa only[ch] using hk⟩
 | .lst t xs,K,hk=>⟨.lst t xs,fun h' H=>.pure _ rfl,rfl,by simpa only[ch] using hk⟩
 | .box t x,K,hk=>⟨.box t x,fun h' H=>.pure _ rfl,rfl,by simpa only[ch] using hk⟩
 | .nilp,K,hk=>⟨.nilp,fun h' H=>.pure _ rfl,rfl,by simpa only[ch] using hk⟩
 | .nils,K,hk=>⟨.nils,fun h' H=>.pure _ rfl,rfl,by simpa only[ch] using hk⟩
 | .nilf,K,hk=>⟨.nilf,fun h' H=>.pure _ rfl,rfl,by simpa only[ch] using hk⟩
 | .nili,K,hk=>⟨.nili,fun h' H=>.pure _ rfl,rfl,by simpa only[ch] using hk⟩
 | .gv g,K,hk=>⟨.gv g,fun h' H=>.gv g,rfl,by simpa only[ch] using hk⟩
 | .gp _,K,hk=>by simp only[ch] at hk
 | .iptr t x o,K,hk=>⟨.iptr t x o,fun h' H=>.iptr _ _,rfl,by simpa only[ch] using hk⟩
 | .obo t o,K,hk=>⟨.obo t o,fun h' H=>.pure _ (by cases o<;>rfl),rfl,by simpa only[ch] using hk⟩
 | .undef,K,hk=>⟨.undef,fun h' H=>.undef _,rfl,by simpa only[ch] using hk⟩
 | .junk,K,hk=>⟨.junk,fun h' H=>.junk,rfl,by simpa only[ch] using hk⟩
theorem kf:∀{l:List V} {K:List V→Prop},lJ os l K→∃r:List V,(ak l).length=(ak r).length∧(∀h',KeepOK os h h'→∀i,i<(ak l).length→Rn (toH h) (gI (gN os n)) (toH h') ((ak l).getD i .undef) ((ak r).getD i .undef))∧(l.all V.one=r.all V.one)∧K r
 |[],K,hk=>⟨[],rfl,fun h' H i hi=>by simp[ak] at hi,rfl,by simpa only[lJ] using hk⟩
 |v::l,K,hk=>by
  simp only[lJ] at hk
  obtain⟨v',h1,h2,hk⟩:=lI hk
  obtain⟨r,h3,h4,h5,hk⟩:=kf hk
  refine⟨v'::r,by simp only[ak,bF,h3],fun h' H i hi=>?_,by simp only[List.all_cons,h2,h5],hk⟩
  cases i with
  |zero=>simpa[ak] using h1 h' H
  |succ i=>simpa[ak] using h4 h' H i (by simpa[ak] using hi)
end
def EE (os:List Nat)(h:VH)(l:List V)(K:List V→Prop):Prop:=np h l fun l=>lJ os l K
theorem Ex (g:HL)(l:List D){i:Nat}(hi:i<l.length):(lc g l).getD i .undef=fwd g (l.getD i .undef):=by
 rw[fh,aq,be,am hi,aq,am hi]
 rfl
theorem ra {l:List V}{K:List V→Prop}(hk:EE os h l K):∃r:List V,(ak l).length=(ak r).length∧(∀h',KeepOK os h h'→∀i,i<(ak l).length→Rn (toH h) (gI (gN os n)) (toH h') ((ak l).getD i .undef) ((ak r).getD i .undef))∧((ak l).all D.one=true→(ak r).all D.one=true)∧K r:=by
 obtain⟨l',h1,hk⟩:=je hk
 obtain⟨r,h2,h3,h4,hk⟩:=kf (h:=h) (n:=n) hk
 have hlen:(ak l).length=(ak l').length:=by rw[←h1,fh,az]
 refine⟨r,hlen.trans h2,fun h' H i hi=>.fwd _ _ ?_,fun ha=>?_,hk⟩
 ·rw[←Ex _ _ hi,h1]
  exact h3 h' H i (by rw[←hlen];exact hi)
 ·refine nV _ ?_
  rw[←h4]
  have e:(ak l').all D.one=l'.all V.one:=by
   rw[cX,List.all_map]
   refine congrArg (fun f=>List.all l' f) (funext fun v=>oH v)
  rw[←e,←h1,fh,List.all_map]
  rw[aM] at ha⊢
  intro d hd
  simp only[Function.comp,q8]
  exact ha d hd
theorem s8 (H:KeepOK os h h'){t:Ty}(ht:∀k∈t.fams,k<4)(x:t.den):∀c∈(ai t x).cells,Rn (toH h) (gI (gN os n)) (toH h') c c:=by
 intro c hc
 by_cases hp:t.pure=true
 ·have:=(ki hp x).2
  rw[aM] at this
  exact .pure c (this c hc)
 ·have lf:∀d:D,d.pure0=true→Rn (toH h) (gI (gN os n)) (toH h') d d:=fun d hd=>.pure d hd
  cases t<;>simp only[Ty.pure,not_true_eq_false] at hp
  case hr k=>
   simp only[ai,(ou k x).2,aY] at hc
   subst hc
   exact qz H (ht k (by simp[Ty.fams])) x
  case hp k=>
   simp only[ai,(ot k x).2,aY] at hc
   subst hc
   exact J2 H (ht k (by simp[Ty.fams])) x
  case vtxo k=>
   simp only[ai,D.cells,aJ,gu,or_false] at hc
   rcases hc with rfl|rfl|rfl|rfl
   ·exact lf _ rfl
   ·exact lf _ rfl
   ·exact qz H (ht k (by simp[Ty.fams])) _
   ·exact lf _ rfl
  case pplm k=>
   simp only[ai,D.cells,iJ,gx,eo,aJ,gu,or_false] at hc
   rcases hc with rfl|rfl|rfl|rfl|rfl
   ·exact lf _ rfl
   ·exact lf _ rfl
   ·exact lf _ rfl
   ·exact lf _ rfl
   ·exact qz H (ht k (by simp[Ty.fams])) _
  case pplo k k'=>
   simp only[ai,D.cells,aJ,gu,or_false] at hc
   rcases hc with rfl|rfl|rfl|rfl|rfl
   ·exact lf _ rfl
   ·exact lf _ rfl
   ·exact qz H (ht k (by simp[Ty.fams])) _
   ·exact lf _ rfl
   ·exact qz H (ht k' (by simp[Ty.fams])) _
  case evto k=>
   simp only[ai,D.cells,aJ,gu,or_false] at hc
   rcases hc with rfl|rfl|rfl|rfl|rfl|rfl|rfl
   ·exact lf _ rfl
   ·exact lf _ rfl
   ·exact lf _ rfl
   ·exact lf _ rfl
   ·exact lf _ rfl
   ·exact qz H (ht k (by simp[Ty.fams])) _
   ·exact lf _ rfl
  case nod k=>
   simp only[ai,D.cells,iJ,gx,eo,aJ,gu,or_false] at hc
   rcases hc with rfl|rfl|rfl|rfl|rfl|rfl
   ·exact lf _ rfl
   ·exact lf _ rfl
   ·exact lf _ rfl
   ·exact lf _ rfl
   ·exact lf _ rfl
   ·exact qz H (ht k (by simp[Ty.fams])) _
theorem z7 (H:KeepOK os h h'){t:Ty}(ht:∀k∈t.fams,k<4)(x:t.den):Rn (toH h) (gI (gN os n)) (toH h') (ai t x) (ai t x):=by
 have hc:=s8 (n:=n) H ht x
 by_cases hag:∃cs,ai t x= .agg cs
 ·obtain⟨cs,he⟩:=hag
  rw[he] at hc⊢
  exact .agg cs cs rfl fun i hi=>hc _ (bj hi)
 ·have he:(ai t x).cells=[ai t x]:=dh fun cs hcs=>hag ⟨cs,hcs⟩
  exact hc _ (by rw[he];exact aY.2 rfl)
theorem z8 (H:KeepOK os h h'){t:Ty}(ht:∀k∈t.fams,k<4)(E:TypeId)(xs:List t.den):RnB (toH h) (gI (gN os n)) (toH h') (.row E (xs.map (ai t))) (.row E (xs.map (ai t))):=by
 refine .row E _ _ rfl fun i hi=>?_
 obtain⟨x,_,hx⟩:=aB.1 (bj hi)
 rw[←hx]
 exact⟨z7 H ht x,fun s hs=>⟨hs,fun j hj=>s8 H ht x _ (bj (by rw[hs.1];exact hj))⟩⟩
theorem Gd (H:KeepOK os h h')(T:TypeId){cs:List D}(hc:∀c∈cs,Rn (toH h) (gI (gN os n)) (toH h') c c):RnB (toH h) (gI (gN os n)) (toH h') (.var T cs) (.var T cs):=.var T _ _ rfl fun i hi=>hc _ (bj hi)
def On (os:List Nat)(h:VH)(v:V)(K:V→Prop):Prop:=match v with
 | .agg cs=>EE os h cs fun cs=>K (.agg cs)
 |v=>Chk v.one (dR h v fun v=>ch os v K)
theorem KG {v:V}{K:V→Prop}(hk:On os h v K):∃r:V,(∀h',KeepOK os h h'→Rn (toH h) (gI (gN os n)) (toH h') v.toD r.toD∧∀s,wfC s v.toD→wfC s r.toD∧∀j,j<s→Rn (toH h) (gI (gN os n)) (toH h') (v.toD.cells.getD j .undef) (r.toD.cells.getD j .undef))∧K r:=by
 unfold On at hk
 split at hk
 ·rename_i cs
  obtain⟨r,h1,h2,h3,hk⟩:=ra (n:=n) hk
  refine⟨.agg r,fun h' H=>⟨by simp only[V.toD];exact .agg _ _ h1 (h2 h' H),fun s hs=>?_⟩,hk⟩
  have hs1:(ak cs).length=s:=by have:=hs.1;simpa only[V.toD,D.cells] using this
  refine⟨⟨?_,?_⟩,fun j hj=>?_⟩
  ·show (ak r).length=s
   omega
  ·exact h3 (by have:=hs.2;simpa only[V.toD,D.cells] using this)
  ·exact h2 h' H j (by omega)
 ·obtain⟨c,hk⟩:=hk.ok
  obtain⟨v',h1,hk⟩:=mO hk
  obtain⟨r,h2,h3,hk⟩:=lI (h:=h) (n:=n) hk
  have o1:v.toD.one=true:=by rw[oH];exact c
  have o2:r.toD.one=true:=by
   rw[oH,h3,←oH,←h1,q8];exact o1
  refine⟨r,fun h' H=>?_,hk⟩
  have hr:Rn (toH h) (gI (gN os n)) (toH h') v.toD r.toD:=.fwd _ _ (by rw[h1];exact h2 h' H)
  refine⟨hr,fun s hs=>?_⟩
  have hs1:=hs.1
  rw[cQ o1] at hs1⊢
  rw[cQ o2]
  simp only[mw] at hs1
  subst hs1
  refine⟨⟨by rw[cQ o2];rfl,by rw[cQ o2];simp[o2]⟩,fun j hj=>?_⟩
  obtain rfl:j=0:=by omega
  exact hr
def KH (os:List Nat)(h:VH):List V→(List V→Prop)→Prop
 |[],K=>K []
 |v::l,K=>On os h v fun v=>KH os h l fun l=>K (v::l)
theorem Bh:∀{l:List V} {K:List V→Prop},KH os h l K→∃r:List V,(∀h' E,KeepOK os h h'→RnB (toH h) (gI (gN os n)) (toH h') (.row E (ak l)) (.row E (ak r)))∧K r
 |[],K,hk=>⟨[],fun h' E H=>.row E _ _ rfl fun i hi=>by simp[ak] at hi,hk⟩
 |v::l,K,hk=>by
  obtain⟨v',h1,hk⟩:=KG (n:=n) hk
  obtain⟨r,h2,hk⟩:=Bh hk
  refine⟨v'::r,fun h' E H=>?_,hk⟩
  cases h2 h' E H with
  |row _ _ _ hl hc=>
   refine .row E _ _ (by simp only[ak,bF,hl]) fun i hi=>?_
   cases i with
   |zero=>simpa[ak] using h1 h' H
   |succ i=>simpa[ak] using hc i (by simpa[ak] using hi)
def Nq (l:List Nat):Bool:=l.all fun k=>Nat.blt k 4
theorem zM {l:List Nat}(h:Nq l=true):∀k∈l,k<4:=by
 unfold Nq at h
 rw[aM] at h
 exact fun k hk=>nC (h k hk)
def Om (os:List Nat)(h:VH)(x:VB)(K:VB→Prop):Prop:=
 match x with
 | .var T cs=>EE os h cs fun cs=>K (.var T cs)
 | .vari T pre m t xs post=>Chk (Nq t.fams) (EE os h pre fun pre=>EE os h post fun post=>K (.vari T pre m t xs post))
 | .row E t xs=>Chk (Nq t.fams) (K (.row E t xs))
 | .lit E vs=>KH os h vs fun vs=>K (.lit E vs)
 | .froz t xs=>K (.froz t xs)
 | .fvb t x=>K (.fvb t x)
 | .moved _ _=>K .gone
 | .gone=>K .gone
 |_=>False
theorem KF {x:VB}{K:VB→Prop}(hk:Om os h x K):∃y d d',x.blks=[d]∧y.blks=[d']∧(∀h',KeepOK os h h'→RnB (toH h) (gI (gN os n)) (toH h') d d')∧K y:=by
 unfold Om at hk
 split at hk
 ·rename_i T cs
  obtain⟨r,h1,h2,_,hk⟩:=ra (n:=n) hk
  exact⟨_,_,_,rfl,rfl,fun h' H=>.var T _ _ h1 (h2 h' H),hk⟩
 ·rename_i T pre m t xs post
  obtain⟨c,hk⟩:=hk.ok
  obtain⟨pre',h1,h2,_,hk⟩:=ra (n:=n) hk
  obtain⟨post',h3,h4,_,hk⟩:=ra (n:=n) hk
  refine⟨_,_,_,rfl,rfl,fun h' H=>.var T _ _ (by simp only[aP,h1,h3]) fun i hi=>?_,hk⟩
  by_cases c1:i<(ak pre).length
  ·rw[bH,bH,fE (A:=ak pre) c1,fE (A:=ak pre') (by rw[←h1];exact c1)]
   exact h2 h' H i c1
  ·rw[bH,bH,fF (A:=ak pre) (by omega),fF (A:=ak pre') (by rw[←h1];omega),←h1]
   simp only[aP] at hi
   by_cases c2:i-(ak pre).length<(xs.map (ai t)).length
   ·rw[fE c2,fE c2]
    obtain⟨e,he,hee⟩:=aB.1 (bj c2)
    rw[←hee]
    exact z7 H (zM c) e
   ·rw[fF (by omega),fF (by omega)]
    exact h4 h' H _ (by omega)
 ·obtain⟨c,hk⟩:=hk.ok
  exact⟨_,_,_,rfl,rfl,fun h' H=>z8 H (zM c) _ _,hk⟩
 ·obtain⟨r,h1,hk⟩:=Bh (n:=n) hk
  exact⟨_,_,_,rfl,rfl,fun h' H=>h1 h' _ H,hk⟩
 ·exact⟨_,_,_,rfl,rfl,fun h' H=>.froz _,hk⟩
 ·exact⟨_,_,_,rfl,rfl,fun h' H=>.fvar _,hk⟩
 ·exact⟨_,_,_,rfl,rfl,fun h' H=>.gone _,hk⟩
 ·exact⟨_,_,_,rfl,rfl,fun h' H=>.gone _,hk⟩
 ·exact hk.elim
end
end Go.Proofs.YtpefhoohfkeflacGreatDoor.Am
namespace Go.Proofs.YtpefhoohfkeflacGreatDoor.Am
open Go Go.RowKit
variable {P:Program} {N:Nat} {K:Id→Prop} {os:List Nat} {n:Nat} {h:VH} {σ:VSt}
def Oo (os:List Nat)(h:VH):List Nat→Nat→(VH→Prop)→Prop
 |[],_,K=>K []
 |b::l,i,K=>eO h b fun x=>Om os h x fun y=>gE (i+1) fun j=>Oo os h l j fun r=>K ((i,y)::r)
theorem ED:∀{l:List Nat} {i:Nat} {K:VH→Prop},Oo os h l i K→∃hs,(∀k x,look hs k=some x→∃m,k=i+m∧m<l.length)∧
   (∀m b,l[m]?=some b→∃x y d d',look h b=some x∧look hs (i+m)=some y∧x.blks=[d]∧y.blks=[d']∧∀h',KeepOK os h h'→RnB (toH h) (gI (gN os n)) (toH h') d d')∧K hs
 |[],i,K,hk=>⟨[],(fun k x hx=>by cases hx),by simp,hk⟩
 |b::l,i,K,hk=>by
  obtain⟨x,hx,hk⟩:=bh hk
  obtain⟨y,d,d',e1,e2,e3,hk⟩:=KF (n:=n) hk
  have hk:=bU hk
  obtain⟨hs,h3,h4,hk⟩:=ED hk
  refine⟨(i,y)::hs,fun k z hz=>?_,fun m b' hm=>?_,hk⟩
  ·simp only[look] at hz
   split at hz
   ·exact⟨0,by omega,by simp⟩
   ·obtain⟨m,e1,e2⟩:=h3 k z hz
    exact⟨m+1,by omega,by simpa using e2⟩
  ·cases m with
   |zero=>
    simp only[iL,aw] at hm
    subst hm
    exact⟨x,y,d,d',hx,by simp[look],e1,e2,e3⟩
   |succ m=>
    obtain⟨z,z',f1,f2,q1,q2,q3⟩:=h4 m b' (by simpa using hm)
    refine⟨z,z',f1,f2,q1,?_,q3⟩
    simp only[look]
    rw[if_neg (by omega),show i+(m+1)=i+1+m by omega]
    exact q2
def M5 (h:VH):List Nat→(VH→Prop)→Prop
 |[],K=>K []
 |k::l,K=>match aU h k with
  |some x=>Chk (!x.sgl && Nq x.fams) (M5 h l fun r=>K ((k,x)::r))
  |none=>M5 h l K
theorem zt:∀{l:List Nat} {K:VH→Prop},M5 h l K→∃hf,(∀k x,look hf k=some x→k∈l∧look h k=some x∧x.sgl=false∧∀j∈x.fams,j<4)∧(∀k∈l,look hf k=look h k)∧K hf
 |[],K,hk=>⟨[],(fun k x hx=>by cases hx),by simp,hk⟩
 |k::l,K,hk=>by
  simp only[M5,aS] at hk
  cases hx:look h k with
  |none=>
   rw[hx] at hk
   obtain⟨hf,h1,h2,hk⟩:=zt hk
   refine⟨hf,fun j y hy=>?_,fun j hj=>?_,hk⟩
   ·obtain⟨q1,q2⟩:=h1 j y hy
    exact⟨bA _ q1,q2⟩
   ·by_cases hjl:j∈l
    ·exact h2 j hjl
    ·obtain rfl:j=k:=(aJ.1 hj).resolve_right hjl
     rw[hx]
     cases hf':look hf j with
     |none=>rfl
     |some y=>exact absurd (h1 j y hf').1 hjl
  |some x=>
   rw[hx] at hk
   obtain⟨c,hk⟩:=hk.ok
   simp only[aA,fK] at c
   obtain⟨hf,h1,h2,hk⟩:=zt hk
   refine⟨(k,x)::hf,fun j y hy=>?_,fun j hj=>?_,hk⟩
   ·simp only[look] at hy
    split at hy
    ·rename_i e
     cases hy
     subst e
     exact⟨bk ..,hx,c.1,zM c.2⟩
    ·obtain⟨q1,q2⟩:=h1 j y hy
     exact⟨bA _ q1,q2⟩
   ·simp only[look]
    by_cases e:j=k
    ·rw[if_pos e,e,hx]
    ·rw[if_neg e]
     exact h2 j ((aJ.1 hj).resolve_left e)
theorem I1 {h':VH}(H:KeepOK os h h'){x:VB}(hs:x.sgl=false)(hf:∀j∈x.fams,j<4):∀d∈x.blks,RnB (toH h) (gI (gN os n)) (toH h') d d:=by
 intro d hd
 cases x<;>simp[VB.sgl] at hs
 ·rename_i T t xs
  obtain⟨e,_,rfl⟩:=aB.1 hd
  exact Gd H T (s8 H hf e)
 ·rename_i T m t xss
  obtain⟨xs,_,rfl⟩:=aB.1 hd
  refine Gd H T fun c hc=>?_
  obtain⟨e,_,rfl⟩:=aB.1 hc
  exact z7 H hf e
 ·rename_i E t xss
  obtain⟨xs,_,rfl⟩:=aB.1 hd
  exact z8 H hf E xs
 ·rename_i E t xss
  obtain⟨xs,_,rfl⟩:=aB.1 hd
  cases xs with
  |none=>exact .gone _
  |some xs=>exact z8 H hf E xs
def BU:Nat→Nat→List Nat→Bool
 |0,_,_=>true
 |m+1,i,b::l=>Nat.beq b i && BU m (i+1) l
 |_+1,_,[]=>false
theorem yg:∀{m i:Nat} {l:List Nat},BU m i l=true→∀j,j<m→l[j]?=some (i+j)
 |0,i,l,_,j,hj=>by omega
 |m+1,i,[],hp,j,hj=>by cases hp
 |m+1,i,b::l,hp,j,hj=>by
  simp only[BU,aA] at hp
  cases j with
  |zero=>simp[cq hp.1]
  |succ j=>
   have:=yg hp.2 j (by omega)
   rw[show i+1+j=i+(j+1) by omega] at this
   simpa using this
def KB (m:Nat)(K:Id→Prop):Prop:=∀b,K b→b.1<4+m
def Fi (m:Nat)(os:List Nat)(h:VH)(n:Nat)(K:VH→Prop):Prop:=Chk (C3 os n && BU m 4 os) (M5 h [0,1,2,3] fun hf=>Oo os h os 4 fun hs=>Hc hf hs K)
theorem xI {m:Nat}{Q:VH→Prop}(hk:Fi m os h n Q):∃h',KeepOK os h h'∧Ren (toH h) (gI (gN os n)) (toH h')∧(∀K,KB m K→∀b,K b→Live (toH h) b→gI (gN os n) b=b∧Live (toH h') b)∧(∀b:Id,4+os.length≤b.1→look (toH h') b=none)∧Q h':=by
 obtain⟨c,hk⟩:=hk.ok
 simp only[aA] at c
 obtain⟨c1,c2⟩:=c
 obtain⟨hf,f1,f2,hk⟩:=zt hk
 obtain⟨hs,s1,s2,hk⟩:=ED (n:=n) hk
 have hk:=uT hk
 have hlow:∀k x,look hf k=some x→k<4:=fun k x hx=>by
  have:=(f1 k x hx).1
  simp only[aJ,gu,or_false] at this
  omega
 have hf_none:∀m,look hf (4+m)=none:=by
  intro m
  cases hl:look hf (4+m) with
  |none=>rfl
  |some y=>have:=hlow _ _ hl;omega
 have fam:∀k,k<4→look (hf++hs) k=look h k:=by
  intro k hk
  have hm:k∈[0,1,2,3]:=by
   simp only[aJ,gu,or_false];omega
  rw[ig,f2 k hm]
  cases hl:look h k with
  |some x=>rfl
  |none=>
   cases hl2:look hs k with
   |none=>rfl
   |some y=>obtain⟨m,e,_⟩:=s1 k y hl2;omega
 have sgl:∀m,look (hf++hs) (4+m)=look hs (4+m):=fun m=>by rw[ig,hf_none]
 have H:KeepOK os h (hf++hs):=by
  refine⟨fun m b hb _=>?_,fun k hk i hl=>?_⟩
  ·obtain⟨x,y,d,d',q1,q2,q3,q4,q5⟩:=s2 m b hb
   exact Live.of_look (av (by rw[sgl];exact q2) (by rw[q4];rfl))
  ·unfold Live at hl⊢
   rw[ap] at hl⊢
   rw[fam k hk]
   exact hl
 have cases':∀b x',look (toH (hf++hs)) b=some x'→(b.1<4∧∃x,look h b.1=some x∧look hf b.1=some x∧x.blks[b.2]?=some x')∨∃m c d,b=(4+m,0)∧os[m]?=some c∧look (toH h) (c,0)=some d∧RnB (toH h) (gI (gN os n)) (toH (hf++hs)) d x':=by
  intro b x' hx
  rw[ap] at hx
  obtain⟨x,q1,q2⟩:=bE.1 hx
  by_cases hb:b.1<4
  ·rw[fam _ hb] at q1
   have hm:b.1∈[0,1,2,3]:=by
    simp only[aJ,gu,or_false];omega
   exact .inl ⟨hb,x,q1,by rw[f2 _ hm];exact q1,q2⟩
  ·obtain⟨m,hm⟩:∃m,b.1=4+m:=⟨b.1-4,by omega⟩
   rw[hm,sgl] at q1
   obtain⟨m',e,hlt⟩:=s1 _ _ q1
   obtain rfl:m=m':=by omega
   obtain⟨z,y,d,d',r1,r2,r3,r4,r5⟩:=s2 m os[m] (am hlt)
   rw[r2] at q1
   obtain rfl:=ar q1
   rw[r4] at q2
   obtain⟨b1,b2⟩:=b
   simp only at hm q2
   cases b2 with
   |succ j=>simp at q2
   |zero=>
    simp only[iL,aw] at q2
    subst q2 hm
    exact .inr ⟨m,os[m],d,rfl,am hlt,av r1 (by rw[r3];rfl),r5 _ H⟩
 refine⟨hf++hs,H,⟨fun b x' hx=>?_,fun b c x y _ _ _ _ he=>EA c1 he⟩,fun K hK b hb hl=>?_,fun b hb=>?_,hk⟩
 ·rcases cases' b x' hx with⟨g1,x,g2,g3,g4⟩|⟨m,c,d,rfl,g1,g2,g3⟩
  ·refine⟨x',?_,?_⟩
   ·simp only[gI,pB os n g1]
    exact av g2 g4
   ·obtain⟨_,_,q3,q4⟩:=f1 _ _ g3
    exact I1 H q3 q4 x' (br g4)
  ·refine⟨d,?_,g3⟩
   simp only[gI,gS,eE g1]
   exact g2
 ·have hb4:=hK b hb
  by_cases hlt:b.1<4
  ·obtain⟨b1,b2⟩:=b
   exact⟨vA hlt b2,H.fam b1 hlt b2 hl⟩
  ·obtain⟨j,hj⟩:∃j,b.1=4+j:=⟨b.1-4,by omega⟩
   have hos:=yg c2 j (by omega)
   obtain⟨x,y,d,d',q1,q2,q3,q4,q5⟩:=s2 j _ hos
   obtain⟨b1,b2⟩:=b
   simp only at hj
   subst hj
   unfold Live at hl
   rw[ap,q1] at hl
   simp only[ba,q3] at hl
   cases b2 with
   |succ i=>simp at hl
   |zero=>
    refine⟨by simp only[gI,gS,eE hos],H.sgl j _ hos ?_⟩
    exact Live.of_look (av q1 (by rw[q3];rfl))
 ·cases hx:look (toH (hf++hs)) b with
  |none=>rfl
  |some x'=>
   exfalso
   rcases cases' b x' hx with⟨g1,_⟩|⟨m,c,d,rfl,g1,_⟩
   ·omega
   ·have:=(aR.1 g1).1
    simp only at hb
    omega
def sG (h:VH)(t:VT):List Nat→(VT→Prop)→Prop
 |[],K=>K []
 |k::ts,K=>(match aU t k with
  |some v=>dR h v fun v=>sG h t ts fun r=>K ((k,v)::r)
  |none=>sG h t ts K)
theorem pF {t:VT}:∀{ts:List Nat} {K:VT→Prop},sG h t ts K→∃r,(∀k v',look r k=some v'→∃v,look t k=some v∧fwd (toH h) v.toD=v'.toD)∧K r
 |[],K,hk=>⟨[],(fun k v hv=>by cases hv),hk⟩
 |k::ts,K,hk=>by
  simp only[sG,aS] at hk
  cases hl:look t k with
  |none=>
   rw[hl] at hk
   exact pF hk
  |some v=>
   rw[hl] at hk
   obtain⟨v',h1,h2⟩:=mO hk
   obtain⟨r,h3,h4⟩:=pF h2
   refine⟨(k,v')::r,fun j w hw=>?_,h4⟩
   simp only[look] at hw
   split at hw
   ·rename_i e
    cases hw
    subst e
    exact⟨v,hl,h1⟩
   ·exact h3 j w hw
def DE (os:List Nat):VT→(VT→Prop)→Prop
 |[],K=>K []
 |(k,v)::l,K=>ch os v fun v=>DE os l fun l=>K ((k,v)::l)
theorem wR:∀{l:VT} {K:VT→Prop},DE os l K→∃r,(∀k v',look r k=some v'→∃v,look l k=some v∧∀h',KeepOK os h h'→Rn (toH h) (gI (gN os n)) (toH h') v.toD v'.toD)∧K r
 |[],K,hk=>⟨[],(fun k v hv=>by cases hv),hk⟩
 |(k,v)::l,K,hk=>by
  obtain⟨v',h1,_,h2⟩:=lI (h:=h) (n:=n) hk
  obtain⟨r,h3,h4⟩:=wR h2
  refine⟨(k,v')::r,fun j w hw=>?_,h4⟩
  simp only[look] at hw⊢
  split at hw
  ·rename_i e
   cases hw
   exact⟨v,by rw[if_pos e],h1⟩
  ·rename_i e
   rw[if_neg e]
   exact h3 j w hw
def OP (m:Nat)(ts:List Nat)(σ:VSt)(Q:VSt→Prop):Prop:=
 match σ with
 |⟨t0,h0,n0⟩=>sG h0 t0 ts fun t=>vD h0 (gn (List.range' 4 m) (Fs h0 (JN t))) fun os=>Fi m os h0 n0 fun h'=>DE os t fun t'=>gE (4+os.length) fun n=>Q ⟨t',h',n⟩
theorem KI {m:Nat}{ts:List Nat}{Q:VSt→Prop}(hK:KB m K)(h:OP m ts σ Q):∃σ',Weak P N K σ.toD σ'.toD∧Q σ':=by
 obtain⟨t,t1,h1⟩:=pF h
 obtain⟨os,h2⟩:=sA h1
 obtain⟨h',q1,q2,q3,q4,h3⟩:=xI h2
 obtain⟨t',t2,h4⟩:=wR (h:=σ.h) (n:=σ.n) h3
 have h5:=bU h4
 refine⟨_,G2 (σ':=VSt.toD ⟨t',h',_⟩) q2 (fun k d' hd=>?_) (fun b hb hl=>q3 K hK b hb hl) q4,h5⟩
 simp only[VSt.toD,dj] at hd
 obtain⟨v',hv,rfl⟩:=bm.1 hd
 obtain⟨v,hv1,hv2⟩:=t2 k v' hv
 obtain⟨v0,hv3,hv4⟩:=t1 k v hv1
 exact⟨v0.toD,by simp only[VSt.toD,dj,hv3,aI],.fwd _ _ (by have h9:=hv2 h' q1;rw[←hv4] at h9;exact h9)⟩
end Go.Proofs.YtpefhoohfkeflacGreatDoor.Am
namespace Go.Proofs.YtpefhoohfkeflacGreatDoor.Am
open Go Go.RowKit
variable {P:Program} {N:Nat} {K:Id→Prop} {Q:Exit→VSt→Prop} {σ:VSt} {h:VH}
def rowP (h:VH):List Nat→List Nat
 |[]=>[]
 |b::l=>match aU h b with
  |some (.row _ t _)=>(match t.pure with|true=>b::rowP h l|false=>rowP h l)
  |_=>rowP h l
theorem rowP_ok:∀{l:List Nat},∀b∈rowP h l,NT h b
 |[],b,hb=>by cases hb
 |c::l,b,hb=>by
  simp only[rowP] at hb
  split at hb
  ·rename_i E t xs hc
   rw[aS] at hc
   split at hb
   ·rename_i hp
    rcases aJ.1 hb with rfl|hb
    ·exact .inl ⟨E,t,xs,hp,hc⟩
    ·exact rowP_ok b hb
   ·exact rowP_ok b hb
  ·exact rowP_ok b hb
def Ok (h:VH)(l:List Nat)(K:VH→Prop):Prop:=fY (rowP h l) fun ws=>N0 h ws fun u=>oO u h K
theorem Ez {l:List Nat}{K:VH→Prop}(hk:Ok h l K):∃h1,(∃bs,∀b,look (puts (frz (toH h) bs) (toH h)) b=look (toH h1) b)∧K h1:=by
 have h1:=ct hk
 have h2:=(AA h1).1
 have h3:=jn h2
 exact⟨_,⟨_,(GO fun b hb=>rowP_ok b hb).1.1⟩,h3⟩
theorem Jw {t:VT}{n:Nat}{h1:VH}{bs:List Id}(he:∀b,look (puts (frz (toH h) bs) (toH h)) b=look (toH h1) b):Weak P N K (VSt.toD ⟨t,h,n⟩) (VSt.toD ⟨t,h1,n⟩):=
 Weak.trans (G1 bs) fun _ _ _ _ _ _ hs=>hs.congr (fun _=>rfl) (fun b=>(he b).symm) rfl
def ON (t:VT)(h:VH):List Nat→List Nat
 |[]=>[]
 |k::l=>(match aU t k with
  |some (.ptr b _)=>(match aU h b with|some x=>xu x|none=>[])
  |some v=>gq v
  |none=>[])++ON t h l
def MG (m:Nat)(fs ts:List Nat)(σ:VSt)(Q:VSt→Prop):Prop:=
 match σ with|⟨t0,h0,n0⟩=>Ok h0 (ON t0 h0 fs) fun h=>OP m ts ⟨t0,h,n0⟩ Q
theorem Cn {m:Nat}(hK:KB m K){fs ts:List Nat}{K1:VSt→Prop}(h:MG m fs ts σ K1):∃σ',Weak P N K σ.toD σ'.toD∧K1 σ':=by
 obtain⟨t0,h0,n0⟩:=σ
 obtain⟨h1,⟨bs,he⟩,h2⟩:=Ez h
 obtain⟨σ',w1,h4⟩:=KI (P:=P) (N:=N) hK h2
 exact⟨σ',Weak.trans (Jw he) w1,h4⟩
theorem AK {c:Code}{σ':VSt}(hw:Weak P N K σ.toD σ'.toD)(h:At P N K c Q σ'):At P N K c Q σ:=by
 obtain⟨e,σ1,h1,h2⟩:=h
 exact⟨e,σ1,.pre hw h1,h2⟩
theorem uW {c:Code}{t:VT}{n:Nat}(k:Nat)(x:VB)(hx:x.blks=[])(ha:At P N K c Q ⟨t,h++[(k,x)],n⟩):At P N K c Q ⟨t,h,n⟩:=by
 refine AK (σ':=⟨t,h++[(k,x)],n⟩) (fun _ _ _ _ _ _ hs=>hs.congr (fun _=>rfl) (fun b=>?_) rfl) ha
 show look (toH (h++[(k,x)])) b=look (toH h) b
 rw[ap,ap,ig]
 cases hl:look h b.1 with
 |some y=>rfl
 |none=>
  simp only[look]
  split
  ·simp[hx]
  ·rfl
def MV (back:VSt→Prop)(Q:Exit→VSt→Prop):Exit→VSt→Prop
 | .normal,σ=>back σ
 |e,σ=>Q e σ
theorem ah {α:Type}{c:Code}{m:Nat}(hK:KB m K)(fs ts:List Nat)(st:α→VSt)(p:α→Prop)(μ:α→Nat)(x0:α)(h0:p x0)(hg:MG m fs ts σ fun σ'=>σ'=st x0)
  (round:∀x,p x→At P N K c (MV (fun σ'=>MG m fs ts σ' fun σ2=>∃y,p y∧μ y<μ x∧σ2=st y) Q) (st x)):At P N K (.loop c) Q σ:=by
 have key:∀n x,μ x=n→p x→∃e σ',LoopB P N K c (st x).toD e σ'.toD∧(gY P N K σ'.toD→Q e σ'):=by
  intro n
  induction n using Nat.strongRecOn with
  |_ n ih=>
   intro x hn hp
   obtain⟨e,σ1,h1,h2⟩:=round x hp
   cases e with
   |normal=>
    rcases jr (gY P N K σ1.toD) with hr|hr
    ·obtain⟨σ2,w1,y,q1,q2,rfl⟩:=Cn (P:=P) (N:=N) hK (h2 hr)
     obtain⟨e,σ3,h3,h4⟩:=ih (μ y) (by omega) y rfl q1
     exact⟨e,σ3,.round h1 (.pre w1 h3),h4⟩
    ·exact⟨.ret,σ1,.round h1 (.out (by simp) (jV hr _ _)),fun h=>absurd h hr⟩
   |_=>exact⟨_,σ1,.out (by simp) h1,h2⟩
 obtain⟨σ0,w0,rfl⟩:=Cn (P:=P) (N:=N) hK hg
 obtain⟨e,σ1,h1,h2⟩:=key _ x0 rfl h0
 exact⟨e,σ1,.pre w0 (.loop h1),h2⟩
def Fd:V→Bool
 | .ptr .. | .eptr .. | .iptr .. | .box .. | .aptr .. | .fptr .. | .feptr .. | .faptr ..=>true
 |_=>false
theorem CQ {v:V}(h:Fd v=true):eS v.toD=true:=by cases v<;>first|rfl|cases h
def C9 (Θ:TT)(σ:VSt):List ResultVar→(List V→Prop)→Prop
 |[],K=>K []
 | .tmp k::rs,K=>(match aU σ.t k with
  |some v=>C9 Θ σ rs fun vs=>K (v::vs)
  |none=>C9 Θ σ rs fun vs=>K (.undef::vs))
 | .cell k T::rs,K=>bI σ.t k fun v=>Chk (Fd v) (bI Θ T fun ti=>xV ti σ.h v fun r=>C9 Θ σ rs fun vs=>K (r::vs))
theorem rE {Θ:TT}(hΘ:Θ.ok P):∀{rs:List ResultVar} {K:List V→Prop},C9 Θ σ rs K→∃vs,rs.mapM (s6 P σ.toD)=some (ak vs)∧K vs
 |[],K,h=>⟨[],rfl,h⟩
 | .tmp k::rs,K,h=>by
  simp only[C9,aS] at h
  split at h
  ·rename_i v e
   obtain⟨vs,h1,h2⟩:=rE hΘ h
   have hr:s6 P σ.toD (.tmp k)=some v.toD:=by simp only[s6,VSt.toD,dj,e,aI,dY]
   exact⟨v::vs,by simp only[iw,hr,h1,ak];rfl,h2⟩
  ·rename_i e
   obtain⟨vs,h1,h2⟩:=rE hΘ h
   have hr:s6 P σ.toD (.tmp k)=some V.undef.toD:=by simp only[s6,VSt.toD,dj,e,Option.map_none,Option.getD_none];rfl
   exact⟨.undef::vs,by simp only[iw,hr,h1,ak];rfl,h2⟩
 | .cell k T::rs,K,h=>by
  obtain⟨v,l1,h1⟩:=aD h
  obtain⟨c,h2⟩:=h1.ok
  obtain⟨ti,l2,h3⟩:=aD h2
  obtain⟨r,h4,h5⟩:=sO (hΘ _ _ l2) h3
  obtain⟨vs,h6,h7⟩:=rE hΘ h5
  refine⟨r::vs,?_,h7⟩
  have hr:s6 P σ.toD (.cell k T)=some r.toD:=by
   simp only[s6,VSt.toD,dj,l1,aI,ba,CQ c,if_true,h4]
  simp only[iw,hr,h6,ak]
  rfl
def LJ:List V→V
 |[v]=>v
 |vs=>.tup vs
theorem Iz (vs:List V):one (ak vs)=(LJ vs).toD:=by
 match vs with
 |[]=>rfl
 |[v]=>rfl
 |v::v'::vs=>rfl
theorem Ey {g g':HL}(he:∀b,look g b=look g' b)(d:D):fwd g d=fwd g' d:=pA fun b _=>he b
theorem Rn.congr {h1 h2 h':HL}{g:Id→Id}(he:∀b,look h1 b=look h2 b){d d':D}(hr:Rn h1 g h' d d'):Rn h2 g h' d d':=by
 have hl:∀b,Live h2 b→Live h1 b:=fun b hb=>by unfold Live at hb⊢;rw[he];exact hb
 induction hr with
 |ref b hb=>exact .ref b fun h=>hb (hl _ h)
 |ptr b o hb=>exact .ptr b o fun h=>hb (hl _ h)
 |eptr b i o hb=>exact .eptr b i o fun h=>hb (hl _ h)
 |vref b o n hb=>exact .vref b o n fun h=>hb (hl _ h)
 |lst b l hb=>exact .lst b l (by rw[←he];exact hb)
 |box b cs hb=>exact .box b cs (by rw[←he];exact hb)
 |fwd d d' hd ih=>exact .fwd d d' (by rw[←Ey he];exact ih)
 |pure d hd=>exact .pure d hd
 |nils=>exact .nils
 |iptr e o=>exact .iptr e o
 |gv k=>exact .gv k
 |agg cs cs' hl hc ih=>exact .agg cs cs' hl ih
 |tup cs cs' hl hc ih=>exact .tup cs cs' hl ih
 |clo f cs cs' hl hc ih=>exact .clo f cs cs' hl ih
 |ifc T d d' hd ih=>exact .ifc T d d' ih
 |undef d=>exact .undef d
 |junk=>exact .junk
theorem Ren.congr {h1 h2 h':HL}{g:Id→Id}(he:∀b,look h1 b=look h2 b)(hr:Ren h1 g h'):Ren h2 g h':=by
 refine⟨fun b x' hx=>?_,hr.inj⟩
 obtain⟨x,h3,h4⟩:=hr.blk b x' hx
 refine⟨x,by rw[←he];exact h3,?_⟩
 cases h4 with
 |var T cs cs' hl hc=>exact .var T cs cs' hl fun i hi=>(hc i hi).congr he
 |row E l l' hl hc=>exact .row E l l' hl fun i hi=>⟨(hc i hi).1.congr he,fun s hs=>⟨((hc i hi).2 s hs).1,fun j hj=>(((hc i hi).2 s hs).2 j hj).congr he⟩⟩
 |froz l=>exact .froz l
 |fvar cs=>exact .fvar cs
 |gone x=>exact .gone x
def zl (Θ:TT)(rs:List ResultVar)(m:Nat)(pr:Bool)(σ:VSt)(Q:V→VH→Prop):Prop:=
 match σ with
 |⟨t0,h0,n0⟩=>C9 Θ ⟨t0,h0,n0⟩ rs fun vs=>Ok h0 (match pr with|true=>gq (LJ vs)|false=>[]) fun h=>dR h (LJ vs) fun v=>vD h (gn (List.range' 4 m) (Fs h (gq v))) fun os=>Fi m os h n0 fun hout=>ch os v fun r=>Q r hout
theorem Bd {Θ:TT}(hΘ:Θ.ok P){rs:List ResultVar}{m:Nat}(hK:KB m K){pr:Bool}{Q:V→VH→Prop}(h:zl Θ rs m pr σ Q):∃r hout,ph P rs K σ.toD r.toD (toH hout)∧Q r hout:=by
 obtain⟨t0,h0,n0⟩:=σ
 obtain⟨vs,r1,h1⟩:=rE hΘ h
 obtain⟨hh,⟨bs,he⟩,h2⟩:=Ez h1
 obtain⟨v,f1,h3⟩:=mO h2
 obtain⟨os,h4⟩:=sA h3
 obtain⟨hout,q1,q2,q3,q4,h5⟩:=xI h4
 obtain⟨r,b1,_,h6⟩:=lI (h:=hh) (n:=n0) h5
 refine⟨r,hout,⟨_,bs,_,r1,?_,q2.congr fun b=>(he b).symm,fun b hb hl=>?_⟩,h6⟩
 ·refine Rn.congr (fun b=>(he b).symm) ?_
  rw[Iz]
  refine .fwd _ _ ?_
  rw[f1]
  exact b1 hout q1
 ·refine q3 K hK b hb ?_
  have hl2:=lX (bs:=bs) hl
  unfold Live at hl2⊢
  rw[←he]
  exact hl2
theorem km {l:List D}{i:Nat}(hi:i<l.length):∀b∈al (l.getD i .undef),b∈bB l:=by
 refine jH ?_
 rw[aq,am hi]
 exact bd hi
theorem ub (d:D):∀c∈d.cells,∀b∈al c,b∈al d:=by
 intro c hc b hb
 cases d with
 |agg cs=>simp only[al];exact jH hc b hb
 |_=>simp only[D.cells,aY] at hc;subst hc;exact hb
theorem Rn.sub {h h' h2:HL}{g:Id→Id}{d d':D}(hr:Rn h g h' d d'):(∀b∈al d',Live h' b→Live h2 b)→Rn h g h2 d d':=by
 induction hr with
 |ref b hb=>intro hs;exact .ref b fun h=>hs b (by simp[al]) (hb h)
 |ptr b o hb=>intro hs;exact .ptr b o fun h=>hs b (by simp[al]) (hb h)
 |eptr b i o hb=>intro hs;exact .eptr b i o fun h=>hs b (by simp[al]) (hb h)
 |vref b o n hb=>intro hs;exact .vref b o n fun h=>hs b (by simp[al]) (hb h)
 |lst b l hb=>intro _;exact .lst b l hb
 |box b cs hb=>intro _;exact .box b cs hb
 |fwd d d' hd ih=>intro hs;exact .fwd d d' (ih hs)
 |pure d hd=>intro _;exact .pure d hd
 |nils=>intro _;exact .nils
 |iptr e o=>intro _;exact .iptr e o
 |gv k=>intro _;exact .gv k
 |agg cs cs' hl hc ih=>intro hs;exact .agg cs cs' hl fun i hi=>ih i hi fun b hb=>hs b (by simp only[al];exact km (by omega) b hb)
 |tup cs cs' hl hc ih=>intro hs;exact .tup cs cs' hl fun i hi=>ih i hi fun b hb=>hs b (by simp only[al];exact km (by omega) b hb)
 |clo f cs cs' hl hc ih=>intro hs;exact .clo f cs cs' hl fun i hi=>ih i hi fun b hb=>hs b (by simp only[al];exact km (by omega) b hb)
 |ifc T d d' hd ih=>intro hs;exact .ifc T d d' (ih fun b hb=>hs b (by simpa only[al] using hb))
 |undef d=>intro _;exact .undef d
 |junk=>intro _;exact .junk
def Hd:Blk→List Id
 | .var _ cs=>bB cs
 | .row _ l=>bB l
 |_=>[]
theorem RnB.sub {h h' h2:HL}{g:Id→Id}{x x':Blk}(hr:RnB h g h' x x')(hs:∀b∈Hd x',Live h' b→Live h2 b):RnB h g h2 x x':=by
 cases hr with
 |var T cs cs' hl hc=>exact .var T cs cs' hl fun i hi=>(hc i hi).sub fun b hb=>hs b (km (by omega) b hb)
 |row E l l' hl hc=>
  refine .row E l l' hl fun i hi=>⟨(hc i hi).1.sub fun b hb=>hs b (km (by omega) b hb),fun s hw=>⟨((hc i hi).2 s hw).1,fun j hj=>(((hc i hi).2 s hw).2 j hj).sub fun b hb=>hs b (km (i:=i) (by omega) b ?_)⟩⟩
  have hw2:=((hc i hi).2 s hw).1
  have hj2:j<(l'.getD i .undef).cells.length:=by rw[hw2.1];exact hj
  refine ub _ ((l'.getD i .undef).cells.getD j .undef) ?_ b hb
  rw[aq (l:=(l'.getD i .undef).cells),am hj2]
  exact bd _
 |froz l=>exact .froz l
 |fvar cs=>exact .fvar cs
 |gone x=>exact .gone x
theorem A4 (t:Ty)(x:t.den):∀b∈al (ai t x),b.1∈t.fams:=by
 have hh:∀(k:Nat) (o:Option Nat),∀b∈al (mS k o),b.1=k:=fun k o b hb=>by
  cases o with
  |none=>cases hb
  |some i=>simp only[mS,al,aY] at hb;rw[hb]
 intro b hb
 cases t
 case hr k=>simp only[ai] at hb;simp[Ty.fams,hh _ _ b hb]
 case hp k=>
  cases x with
  |none=>cases hb
  |some i=>simp only[ai,qu,al,aY] at hb;rw[hb];simp[Ty.fams]
 case vtxo k=>simp only[ai,al,bB,eo,gw] at hb;simp[Ty.fams,hh _ _ b hb]
 case pplm k=>simp only[ai,iJ,fW,gx,al,bB,eo,gw] at hb;simp[Ty.fams,hh _ _ b hb]
 case pplo k k'=>
  simp only[ai,al,bB,eo,gw,bl] at hb
  rcases hb with hb|hb<;>simp[Ty.fams,hh _ _ b hb]
 case evto k=>simp only[ai,al,bB,eo,gw] at hb;simp[Ty.fams,hh _ _ b hb]
 case nod k=>simp only[ai,iJ,fW,gx,al,bB,eo,gw] at hb;simp[Ty.fams,hh _ _ b hb]
 case ob t=>cases x<;>cases hb
 all_goals cases hb
theorem lO (t:Ty)(xs:List t.den):∀b∈bB (xs.map (ai t)),b.1∈t.fams:=by
 intro b hb
 rw[gA,dZ] at hb
 obtain⟨d,hd,hb⟩:=hb
 obtain⟨x,_,rfl⟩:=aB.1 hd
 exact A4 t x b hb
theorem wH {l m:List D}{b:Id}:b∈bB (l++m)↔b∈bB l∨b∈bB m:=by simp[gA]
theorem My (y:VB):∀d∈y.blks,∀b∈Hd d,b.1∈xu y++y.fams:=by
 intro d hd b hb
 rw[bl]
 cases y with
 |var T cs=>simp only[VB.blks,aY] at hd;subst hd;exact .inl (d8 cs b hb)
 |vari T pre m t xs post=>
  simp only[VB.blks,aY] at hd
  subst hd
  simp only[Hd,wH] at hb
  rcases hb with(hb|hb)|hb
  ·exact .inl (eh _ (d8 _ b hb))
  ·exact .inr (lO t xs b hb)
  ·exact .inl (eK _ (d8 _ b hb))
 |row E t xs=>simp only[VB.blks,aY] at hd;subst hd;exact .inr (lO t xs b hb)
 |lit E vs=>simp only[VB.blks,aY] at hd;subst hd;exact .inl (d8 vs b hb)
 |fvar T t xs=>
  obtain⟨x,_,rfl⟩:=aB.1 hd
  simp only[Hd,gA,dZ] at hb
  obtain⟨c,hc,hb⟩:=hb
  exact .inr (A4 t x b (ub _ c hc b hb))
 |fvari T m t xss=>obtain⟨xs,_,rfl⟩:=aB.1 hd;exact .inr (lO t xs b hb)
 |frow E t xss=>obtain⟨xs,_,rfl⟩:=aB.1 hd;exact .inr (lO t xs b hb)
 |frowx E t xss=>
  obtain⟨xs,_,rfl⟩:=aB.1 hd
  cases xs with
  |none=>cases hb
  |some xs=>exact .inr (lO t xs b hb)
 |froz t xs=>simp only[VB.blks,aY] at hd;subst hd;cases hb
 |fvb t x=>simp only[VB.blks,aY] at hd;subst hd;cases hb
 |moved k i=>simp only[VB.blks,aY] at hd;subst hd;cases hb
 |gone=>simp only[VB.blks,aY] at hd;subst hd;cases hb
def EO:VH→Bool
 |[]=>false
 |(k,_)::l=>Nat.blt k 4||EO l
def JU (S:List Nat)(j:Nat):Bool:=Nat.ble 4 j||S.contains j
def Io (S l:List Nat):Bool:=l.all (JU S)
def BR (h:VH)(S:List Nat):List Nat:=h.flatMap fun p=>match JU S p.1 with|true=>(xu p.2++p.2.fams).filter fun k=>Nat.blt k 4|false=>[]
def FH (S fs0:List Nat)(r:V)(h:VH):Bool:=Io S fs0 && Io S (gq r) && h.all fun p=>!JU S p.1||Io S (xu p.2++p.2.fams)
def xm (S:List Nat):VH→(VH→Prop)→Prop
 |[],K=>K []
 |(j,x)::l,K=>match JU S j with
  |true=>xm S l fun r=>K ((j,x)::r)
  |false=>xm S l K
theorem su {S:List Nat}:∀{l:VH} {K:VH→Prop},xm S l K→∃l',(∀j,look l' j=if JU S j=true then look l j else none)∧K l'
 |[],K,h=>⟨[],fun j=>by simp[look],h⟩
 |(k,x)::l,K,h=>by
  simp only[xm] at h
  split at h
  ·rename_i e
   obtain⟨l',h1,h2⟩:=su (l:=l) h
   refine⟨_,fun j=>?_,h2⟩
   simp only[look,h1]
   by_cases ej:j=k
   ·subst ej;simp[e]
   ·simp[ej]
  ·rename_i e
   obtain⟨l',h1,h2⟩:=su (l:=l) h
   refine⟨_,fun j=>?_,h2⟩
   simp only[look,h1]
   by_cases ej:j=k
   ·subst ej;simp[e]
   ·simp[ej]
def qp (fs0:List Nat)(r:V)(h:VH)(K:VH→Prop):Prop:=
 match EO h with
 |false=>K h
 |true=>fY (gn [] (fs0++(gq r).filter fun k=>Nat.blt k 4)) fun S=>fY (gn S (BR h S)) fun S=>fY (gn S (BR h S)) fun S=>fY (gn S (BR h S)) fun S=>Chk (FH S fs0 r h) (xm S h K)
theorem w8 {fs0:List Nat}{r:V}{rs:List ResultVar}{σ:VSt}{K:Id→Prop}(hK:∀b,K b→b.1<4→b.1∈fs0){h:VH}{Q:VH→Prop}(hr:ph P rs K σ.toD r.toD (toH h))(hk:qp fs0 r h Q):∃h',ph P rs K σ.toD r.toD (toH h')∧Q h':=by
 unfold qp at hk
 split at hk
 ·exact⟨h,hr,hk⟩
 ·have hk:=ct (ct (ct (ct hk)))
  obtain⟨c,hk⟩:=hk.ok
  generalize gn _ (BR h _)=S at *
  simp only[FH,Io,aA,aM,cN,fK] at c
  obtain⟨⟨c1,c2⟩,c3⟩:=c
  obtain⟨h',h1,h2⟩:=su hk
  refine⟨h',?_,h2⟩
  have hl:∀b:Id,look (toH h') b=if JU S b.1=true then look (toH h) b else none:=by
   intro b
   rw[ap,ap,h1]
   split<;>rfl
  have hlv:∀b:Id,JU S b.1=true→Live (toH h) b→Live (toH h') b:=by
   intro b hb hv
   unfold Live at hv⊢
   rw[hl,if_pos hb]
   exact hv
  obtain⟨ds,bs,g,r1,r2,r3,r4⟩:=hr
  refine⟨ds,bs,g,r1,r2.sub fun b hb=>hlv b (c2 _ (kq r b hb)),⟨fun b x' hx=>?_,fun b b2 x y hx hy=>?_⟩,fun b hb hv=>?_⟩
  ·rw[hl] at hx
   split at hx
   ·rename_i e
    obtain⟨x,q1,q2⟩:=r3.blk b x' hx
    refine⟨x,q1,q2.sub fun b2 hb2=>hlv b2 ?_⟩
    rw[ap] at hx
    obtain⟨y,hy1,hy2⟩:=bE.1 hx
    rcases c3 _ (di hy1) with h0|h0
    ·simp only at h0;rw[e] at h0;cases h0
    ·exact h0 _ (My y x' (br hy2) b2 hb2)
   ·cases hx
  ·rw[hl] at hx hy
   split at hx
   ·split at hy
    ·exact r3.inj b b2 x y hx hy
    ·cases hy
   ·cases hx
  ·obtain⟨q1,q2⟩:=r4 b hb hv
   refine⟨q1,hlv b ?_ q2⟩
   rcases cG b.1 4 with hlt|hge
   ·exact c1 _ (hK b hb hlt)
   ·have:Nat.ble 4 b.1=true:=by rw[Nat.ble_eq];exact hge
    simp[JU,this]
def lP (h:VH):List Nat:=(keysV h).filter fun k=>Nat.blt k 4
def HF (Q:VSt→Prop):Exit→VSt→Prop
 | .normal,σ=>Q σ
 | .ret,σ=>Q σ
 |_,_=>False
def ae:List V→Nat→VT
 |[],_=>[]
 |v::l,k=>(k,v)::ae l (k+1)
theorem rV:∀(l:List V) (k:Nat),((ak l).zipIdx k).map (fun x=>(x.2,x.1))=fL (ae l k)
 |[],k=>rfl
 |v::l,k=>by simp[ak,mm,ae,rV l (k+1),fL]
theorem ug {hin:VH}{n0:Nat}(hl:zN n0 hin=true):∀b:Id,n0≤b.1→look (toH hin) b=none:=by
 intro b hb
 rw[ap]
 cases hx:look hin b.1 with
 |none=>rfl
 |some x=>
  have:=vP hl b.1 (aB.2 ⟨_,di hx,rfl⟩)
  omega
theorem lL {Θ : TT} (hΘ : Θ.ok P) {f : FuncId} {fn : Func} {c : Code} (hf : P.funcs[f]? = some fn) (hb : fn.body = some c) (hname : (fn.name == "runtime.NumGoroutine") = false) (pr : Bool) {vs : List V} {hin : VH} (m n0 : Nat) (hn0 : 4 + m = n0) (hlt : zN n0 hin = true) (hnd : j4 (keysV hin) = true) (hl : Nat.ble vs.length fn.ntmps = true)
  {R:V→VH→Prop} {r0:V} {hout0:VH} (h0:R r0 hout0)
  (h:∀K,KB m K→(∀d∈ak vs,bnd 6 d)→(∀x∈hin,∀d∈x.2.blks,bndB 6 d)→At P fn.ntmps K c (HF fun σ=>zl Θ fn.results.toList m pr σ fun r hout=>qp (lP hin) r hout (R r)) ⟨ae vs 0,hin,n0⟩):∃r hout,R r hout∧ag P f vs hin r hout:=by
 have hlen:(ak vs).length≤fn.ntmps:=by rw[aL];exact Nat.le_of_ble_eq_true hl
 have e1:t8 (ak vs)=fL (ae vs 0):=rV vs 0
 have hfr:=ug hlt
 have hK:KB m (Live (toH hin)):=by
  intro b hb
  rcases cG b.1 (4+m) with hlt|hge
  ·exact hlt
  ·unfold Live at hb
   rw[hfr b (by omega)] at hb
   cases hb
 have hbnd:(∀b x,look (toH hin) b=some x→bndB 6 x)→∀x∈hin,∀d∈x.2.blks,bndB 6 d:=by
  rintro hq ⟨k,x⟩ hx d hd
  obtain⟨i,hi⟩:=iM hd
  exact hq (k,i) d (av (ij (by rw[fe];exact iW hnd) hx) hi)
 rcases jr ((∀d∈ak vs,bnd 6 d)∧∀b x,look (toH hin) b=some x→bndB 6 x) with hbb|hbb
 ·obtain⟨e,σ',h1,h2⟩:=h _ hK hbb.1 (hbnd hbb.2)
  rcases jr (gY P fn.ntmps (Live (toH hin)) σ'.toD) with hr|hr
  ·have h3:=h2 hr
   have hfin:(e= .normal∨e= .ret)∧zl Θ fn.results.toList m pr σ' fun r hout=>qp (lP hin) r hout (R r):=by
    cases e with
    |normal=>exact⟨.inl rfl,h3⟩
    |ret=>exact⟨.inr rfl,h3⟩
    |_=>exact h3.elim
   obtain⟨r,hout1,q1,q2⟩:=Bd hΘ hK hfin.2
   obtain⟨hout,q1,q2⟩:=w8 (fun b hb hlt=>by
    unfold Live at hb
    rw[ap] at hb
    obtain⟨d,hd⟩:=mq.1 hb
    obtain⟨y,hy,-⟩:=bE.1 hd
    simp only[lP,eL]
    exact⟨by rw[←fe];exact aB.2 ⟨_,di hy,rfl⟩,by simpa[Nat.blt_eq] using hlt⟩) q1 q2
   refine⟨r,hout,q2,zb hf hb hname rfl rfl hlen hfr fun _ _=>⟨e,σ'.toD,?_,fun _=>⟨hfin.1,q1⟩⟩⟩
   rw[e1]
   exact h1
  ·refine⟨r0,hout0,h0,zb hf hb hname rfl rfl hlen hfr fun _ _=>⟨e,σ'.toD,?_,fun h=>absurd h hr⟩⟩
   rw[e1]
   exact h1
 ·exact⟨r0,hout0,h0,zb hf hb hname rfl rfl hlen hfr fun b1 b2=>absurd ⟨b1,b2⟩ hbb⟩
theorem ab {Θ : TT} (hΘ : Θ.ok P) {f : FuncId} {fn : Func} {c : Code} (hf : P.funcs[f]? = some fn) (hb : fn.body = some c) (hname : (fn.name == "runtime.NumGoroutine") = false) (pr : Bool) {vs : List V} {hin : VH} (m n0 : Nat) (hn0 : 4 + m = n0) (hlt : zN n0 hin = true) (hnd : j4 (keysV hin) = true) (hl : Nat.ble vs.length fn.ntmps = true) {r : V} {hout : VH}
  (h:∀K,KB m K→(∀d∈ak vs,bnd 6 d)→(∀x∈hin,∀d∈x.2.blks,bndB 6 d)→At P fn.ntmps K c (HF fun σ=>zl Θ fn.results.toList m pr σ fun r' hout'=>qp (lP hin) r' hout' fun hout'=>r'=r∧hout'=hout) ⟨ae vs 0,hin,n0⟩):ag P f vs hin r hout:=by
 obtain⟨r',hout',⟨rfl,rfl⟩,h2⟩:=lL hΘ hf hb hname pr m n0 hn0 hlt hnd hl (R:=fun r' hout'=>r'=r∧hout'=hout) ⟨rfl,rfl⟩ h
 exact h2
end Go.Proofs.YtpefhoohfkeflacGreatDoor.Am
namespace Go.Proofs.YtpefhoohfkeflacGreatDoor.Am
open Go Go.RowKit Go.ChangeShapes Go.WideShapes Go.ChangeAt
section
variable {H:Type} {enc:TypeId×Value→H} {P:Program}
theorem nL {f:Func}{s:ChangeSpec}{apart fresh handsOn again:Bool}{W W':World}{args:Array Value}{v:Value}{ds gs:List (DataW H)}{before pa pv:List MemPlace}
  (hW:DataW.Whole enc P f.params.toList s.vars apart W args.toList ds gs before)
  (hres:∀(b:Nat) (sp:Nat→Bool) (hd:Bool),DataW.TrodAll enc P W' b sp hd f.resultTypes.toList (v.resultList f.resultTypes.size) (s.fn H (ds++gs)).results [])
  (hargs:∀sp:Nat→Bool,(∀p∈before,sp p.block=true)→DataW.TrodAll enc P W' 0 sp true f.params.toList args.toList (s.fn H (ds++gs)).args pa)
  (hvars:∀sp:Nat→Bool,(∀p∈before,sp p.block=true)→DataW.TrodVars enc P W' sp s.vars (s.fn H (ds++gs)).vars pv)
  (hps:before=pa++pv) (hb:Below W.heap.size W W')
  (hok:∀(j:Nat) (t:TypeId) (r:Value),f.resultTypes[j]?=some t→(v.resultList f.resultTypes.size)[j]?=some r→Value.okWide P W' .any 0 t r):
  s.post enc P f apart fresh handsOn again W args v W':=by
 have hlt:∀p∈before,p.block<W.heap.size:=fun p hp=>hW.lt p hp
 have hold:∀p∈before,(fun b=>decide (b<W.heap.size)) p.block=true:=fun p hp=>by simpa using hlt p hp
 refine⟨ds,gs,before,[],pa,pv,hW,hres _ _ _,hargs _ hold,hvars _ hold,World.keptBut_mono (fun p hp=>⟨hp,?_⟩) (hb.frame (· ∈before)),fun _=>?_⟩
 ·rw[hps,bl] at hp
  exact Or.inr hp
 ·obtain⟨_,_,_,_,_,hz,hn⟩:=hW
  refine⟨hok,_,_,([]++pa)++pv,⟨[]++pa,pv,trodAll_append (hargs _ (fun _ _=>rfl)) (hres _ _ _),hvars _ (fun _ _=>rfl),rfl,?_,?_⟩,?_⟩
  ·intro b off hp
   have hin:MemPlace.cell b off∈before:=by rw[hps];simpa using hp
   rw[hb.frozen (hlt _ hin)]
   exact hz b off hin
  ·intro ha
   have:=hn ha
   rw[hps] at this
   simpa using this
  ·intro p hp _
   rw[hps]
   simpa using hp
end
theorem pH {P:Program}{f:FuncId}{vs:List V}(h:ag P f vs [] (.bool true) []){w:World}{args:Array Value}(hl:(ak vs).length=args.size)
  (hr:∀i,i<(ak vs).length→Rep (fun k=>k<w.heap.size) w ((ak vs).getD i .undef) (args.getD i undef))
  (hg:∀g x,look Gl g=some x→g<w.heap.size∧∃ad,w.cell? ⟨g,0,none⟩=some (.iface x.1 (.pointer (some ad))):=by intro g x h;cases h)
  (ht:∀g zs,look Gt g=some zs→g<w.heap.size∧∃T fz,w.heap[g]?=some (.cells (zs.map (Value.int .u64)).toArray T fz):=by intro g x h;cases h):
  Calls P f args w fun e w'=>e= .returned (.bool true)∧Below w.heap.size w w':=by
 have hno:∀k,¬qv (fun _=>⟨0,0,0,0⟩) (toH []) k:=by
  rintro k ⟨b,x,hb,-⟩
  cases hb
 have hs:Sim P w (qv (fun _=>⟨0,0,0,0⟩) (toH [])) (fun _=>True) 0 (fun _=>⟨0,0,0,0⟩) [] (toH []) ec w:=by
  refine⟨fun _ _=>trivial,fun _ _=>trivial,Fr.refl _ _,rfl,rfl,?_,?_,?_,?_,?_⟩
  ·intro k d hk;cases hk
  ·intro b x hx;cases hx
  ·intro b x hx;cases hx
  ·intro b b' x x' hx;cases hx
  ·exact⟨fun g x hx=>⟨⟨trivial,hno g,(hg g x hx).1⟩,(hg g x hx).2⟩,fun g x hx=>⟨⟨trivial,hno g,(ht g x hx).1⟩,(ht g x hx).2⟩⟩
 refine(h.2 w (fun _=>True) (fun _=>⟨0,0,0,0⟩) args hs hl fun i hi=>.pure ((hr i hi).mono fun b hb=>⟨⟨⟨hb,trivial⟩,fun b x hx=>by cases hx⟩,rfl⟩)).mono fun e w' he=>?_
 obtain⟨u,ρ',rfl,-,hs',hc⟩:=he
 refine⟨by rw[hc.bool_inv],⟨hs'.fr.os,hs'.fr.tape,hs'.fr.output,hs'.fr.size,fun k hk=>hs'.fr.block k hk (hno k)⟩⟩
theorem fP {w:World}{a:Addr}{v:Value}(h:w.cell? a=some v):a.block<w.heap.size:=by
 rcases cG a.block w.heap.size with hl|hl
 ·exact hl
 ·have:w.heap[a.block]?=none:=by simp[hl]
  simp[World.cell?,this] at h
theorem IZ {w:World}{l:List D}{a:Addr}{n cap:Nat}{g:Nat→Value}(hn:l.length=n)(hcap:n≤cap)(hmax:cap≤maxLen)(hl:∀e∈l,e.cells=[e]∧e.pure0=true)
  (hc:∀i,i<n→w.cell? (a.add i)=some (g i)) (hr:∀i,i<n→Rep (fun k=>k<w.heap.size) w (l.getD i .undef) (g i)):Rep (fun k=>k<w.heap.size) w (.lst l) (.slice (some a) n cap):=by
 cases l with
 |nil=>
  simp only[dz] at hn
  subst hn
  exact .none _ _ (fun h=>by cases h) hmax
 |cons x l=>
  have hp:0<n:=by rw[←hn];simp
  have hsz:szl (x::l)=1:=by show x.cells.length=1;rw[(hl x (bk ..)).1];rfl
  obtain⟨b,off,spot⟩:=a
  have hspot:spot=none:=by simpa[Addr.add] using World.cell?_spot (hc 0 hp)
  subst hspot
  have h0:=fP (hc 0 hp)
  refine .lst _ n b off cap (fun i _=>g i) hn hcap hmax h0 ?_ (by rw[hsz];omega) ?_ ?_
  ·intro e he
   rw[hsz]
   exact⟨by rw[(hl e he).1];rfl,by rw[(hl e he).1];simp[(hl e he).2]⟩
  ·intro i j hi hj
   rw[hsz] at hj⊢
   obtain rfl:j=0:=by omega
   have:=hc i hi
   rw[Go.WideShapes.add_plain] at this
   rw[iP,js]
   exact this
  ·intro i j hi hj
   rw[hsz] at hj
   obtain rfl:j=0:=by omega
   have hi':i<(x::l).length:=by omega
   have e:(x::l).getD i .undef=(x::l)[i]:=by simp[aq,am hi']
   have h1:=(hl _ (bd hi')).1
   have h2:=hr i hi
   rw[e] at h2⊢
   rw[h1]
   exact h2
theorem Cy {H:Type}{enc:TypeId×Value→H}{P:Program}{W:World}{sp:Nat→Bool}{hd:Bool}{t e:TypeId}{v:Value}{d:DataW H}{p:List MemPlace}{base:Nat}(ht:P.underlying t=some (.slice e))(he:P.underlying e=some (.int .u8))(hc:P.cellsOf e=1)
  (hv:Value.okWide P W .any base t v) (h:DataW.Trod enc P W 0 sp hd t v d p):∃c:List Int,(∀x∈c,0≤x∧x≤255)∧Rep (fun k=>k<W.heap.size) W (V.lst (.int .u8) c).toD v:=by
 obtain⟨a0,len0,cap0,rfl⟩:=okWide_slice ht hv
 obtain⟨fuel,h⟩:=h
 rcases open_ints ht he hc h with⟨h1,-⟩|⟨a,len,cap,zs,h1,h2,h3,h4,h5,-,h6,h7⟩
 ·have h1:[Value.slice a0 len0 cap0]=[.slice none 0 0]:=h1
  cases h1
  exact⟨[],by simp,.none _ _ (fun _=>rfl) (aW _)⟩
 ·have h1:[Value.slice a0 len0 cap0]=[.slice (some a) len cap]:=h1
  cases h1
  have hle:len0≤zs.length:=by rw[h5];split<;>omega
  have hlen:(zs.take len0).length=len0:=by rw[bP];omega
  refine⟨zs.take len0,fun x hx=>bounds_u8 (h7 x (jU hx)),?_⟩
  show Rep _ _ (.lst ((zs.take len0).map (ai (.int .u8)))) _
  refine IZ (g:=fun i=>.int .u8 (zs.getD i 0)) (by rw[az,hlen]) h3 h4 ?_ (fun i hi=>h6 i (by omega)) ?_
  ·intro e he
   obtain⟨z,_,rfl⟩:=aB.1 he
   exact⟨rfl,rfl⟩
  ·intro i hi
   have e1:((zs.take len0).map (ai (.int .u8))).getD i .undef= .int .u8 (zs.getD i 0):=by
    have hi2:i<zs.length:=by omega
    simp[aq,be,en,hi,am hi2,ai]
   rw[e1]
   exact .int _ _
def JD (W:World)(T:Ty)(x:T.den)(cs:List Value):Prop:=cs.length=T.sz∧∀j,j<T.sz→Rep (fun k=>k<W.heap.size) W ((ai T x).cells.getD j .undef) (cs.getD j undef)
theorem BD {α:Type}{p:Nat→α→Prop}:∀n,(∀i,i<n→∃d,p i d)→∃l:List α,l.length=n∧∀i (h:i<l.length),p i l[i]
 |0,_=>⟨[],rfl,fun i h=>absurd h (Nat.not_lt_zero i)⟩
 |n+1,h=>by
  obtain⟨l,hl,hp⟩:=BD n fun i hi=>h i (by omega)
  obtain⟨d,hd⟩:=h n (by omega)
  refine⟨l++[d],by simp[hl],fun i hi=>?_⟩
  rcases cG i l.length with hlt|hge
  ·rw[List.getElem_append_left hlt]
   exact hp i hlt
  ·obtain rfl:i=l.length:=by simp at hi;omega
   rw[List.getElem_append_right (ax _)]
   simpa[hl] using hd
theorem row_cells {H:Type}{enc:TypeId×Value→H}{P:Program}{W:World}{sp:Nat→Bool}{hd:Bool}{t e:TypeId}{T:Ty}{cs:List Value}{fuel:Nat}{x:DataW H×List MemPlace}(hp:T.pure=true)(ht:P.underlying t=some (.slice e))(hc:P.cellsOf e=T.sz)
  (hel:∀fuel cs x,DataW.trod enc P W 0 sp hd fuel e cs=some x→∃d,JD W T d cs) (h:DataW.trod enc P W 0 sp hd fuel t cs=some x):∃(l:List T.den) (v:Value),cs=[v]∧Rep (fun b=>b<W.heap.size) W (V.lst T l).toD v:=by
 rcases DataW.trod_slice ht h with⟨h1,-⟩|⟨a,len,cap,elems,rest,n,-,h1,-,-,hl,hm,hlen,hel2,-,-⟩
 ·exact⟨[],_,h1,.none _ _ (fun _=>rfl) (aW _)⟩
 ·have each:∀i,i<len→∃d:T.den,∃cs',W.cells? 0 (a.add (i*T.sz)) T.sz=some cs'∧JD W T d cs':=by
   intro i hi
   have h2:=hel2 i hi
   rw[am (by omega),hc,bE] at h2
   obtain⟨cs',h3,h4⟩:=h2
   obtain⟨d,hd⟩:=hel _ _ _ h4
   exact⟨d,cs',h3,hd⟩
  obtain⟨l,hll,hlp⟩:=BD len each
  refine⟨l,_,h1,?_⟩
  show Rep _ W (.lst (l.map (ai T))) _
  by_cases hz:l=[]
  ·subst hz
   subst hll
   exact .none _ _ (fun h=>by cases h) hm
  ·have hpos:0<l.length:=List.length_pos_iff.2 hz
   have hsz:szl (l.map (ai T))=T.sz:=by
    cases l with
    |nil=>exact absurd rfl hz
    |cons y l=>exact(fR T y).1
   have cell:∀i j,i<l.length→j<T.sz→∃v,W.cell? ((a.add (i*T.sz)).add j)=some v∧Rep (fun k=>k<W.heap.size) W ((ai T (l[i]?.getD (l[0]'hpos))).cells.getD j .undef) v:=by
    intro i j hi hj
    obtain⟨cs',h3,h4,h5⟩:=hlp i hi
    have h6:=(World.cells?_some h3).2.2 j hj
    have hj':j<cs'.length:=by omega
    refine⟨cs'[j],by rw[h6,am hj'],?_⟩
    have:=h5 j hj
    rw[am hi]
    simp only[aq (l:=cs'),am hj',dY] at this
    exact this
   obtain⟨b,off,spot⟩:=a
   obtain⟨v0,hv0,-⟩:=cell 0 0 hpos T.sz_pos
   have hspot:spot=none:=by simpa[Addr.add] using World.cell?_spot hv0
   subst hspot
   have hb:=fP hv0
   refine .lst _ len b off cap (fun i j=>(W.cell? ⟨b,off+i*T.sz+j,none⟩).getD undef) (by simpa using hll) hl hm (by simpa[Addr.add] using hb) ?_ (by rw[hsz];exact T.sz_pos) ?_ ?_
   ·intro e he
    obtain⟨y,-,rfl⟩:=aB.1 he
    rw[hsz]
    exact ki hp y
   ·intro i j hi hj
    rw[hsz] at hj⊢
    obtain⟨v,hv,-⟩:=cell i j (by omega) hj
    rw[Go.WideShapes.add_plain,Go.WideShapes.add_plain] at hv
    rw[hv]
    rfl
   ·intro i j hi hj
    rw[hsz] at hj
    obtain⟨v,hv,hr⟩:=cell i j (by omega) hj
    rw[Go.WideShapes.add_plain,Go.WideShapes.add_plain] at hv
    rw[hv]
    have e:(l.map (ai T)).getD i .undef=ai T (l[i]?.getD (l[0]'hpos)):=by
     have:i<l.length:=by omega
     simp[aq,am this]
    rw[e]
    exact hr
end Go.Proofs.YtpefhoohfkeflacGreatDoor.Am
namespace Go.Proofs.YtpefhoohfkeflacGreatDoor.Am
open Go Go.RowKit
theorem fZ {φ K:Prop}(h:φ)(k:K):ci φ K:=⟨h,k⟩
theorem LE {b:Bool}{K:Prop}(h:b=true)(k:K):Mk b K:=⟨h,k⟩
theorem Kf {k:IntKind}{z:Int}{K:Int→Prop}(h:Nh k z)(g:K z):Ari k z K:=.inl ⟨h,g⟩
theorem Ke {z:Int}{K:Int→Prop}(h:-9223372036854775808≤z∧z≤9223372036854775807)(g:K z):Ari .i64 z K:=.inl ⟨h,g⟩
theorem JP {α:Type}{xs:List α}{i:Int}{K:Nat→α→Prop}(h0:0≤i)(hl:i.toNat<xs.length)(h:∀x,xs[i.toNat]?=some x→K i.toNat x):mA xs i K:=
 ⟨h0,xs[i.toNat],am hl,h _ (am hl)⟩
theorem Nd {α:Type}{xs:List α}{i:Int}{K:Nat→α→Prop}{x:α}(h0:0≤i)(hx:xs[i.toNat]?=some x)(h:K i.toNat x):mA xs i K:=⟨h0,x,hx,h⟩
theorem EG {α:Type}{xs:List α}{i:Nat}{K:α→Prop}(hl:i<xs.length)(h:∀x,xs[i]?=some x→K x):fB xs i K:=
 ⟨xs[i],am hl,h _ (am hl)⟩
theorem M6 {α:Type}{xs:List α}{i:Nat}{K:α→Prop}{x:α}(hx:xs[i]?=some x)(h:K x):fB xs i K:=⟨x,hx,h⟩
theorem JQ {α:Type}{xs:List α}{i:Nat}{K:Nat→α→Prop}(hl:i<xs.length)(h:∀x,xs[i]?=some x→K i x):mA xs (i:Int) K:=
 ⟨Int.natCast_nonneg i,xs[i],am hl,h _ (am hl)⟩
theorem KZ {α:Type}{xs:List α}{i:Nat}{K:Nat→α→Prop}{x:α}(hx:xs[i]?=some x)(h:K i x):mA xs (i:Int) K:=⟨Int.natCast_nonneg i,x,hx,h⟩
theorem JM {α:Type}{xs:List α}{i:Nat}{K:α→Prop}(hl:i<xs.length)(h:∀x,xs[i]?=some x→K x):fB xs (i:Int).toNat K:=EG hl h
theorem KJ {α:Type}{xs:List α}{i:Nat}{K:α→Prop}{x:α}(hx:xs[i]?=some x)(h:K x):fB xs (i:Int).toNat K:=⟨x,hx,h⟩
theorem y8 {b:Bool}{A B:Prop}(hb:b=true)(h:A):ju b A B:=⟨fun _=>h,fun h=>by rw[hb] at h;cases h⟩
theorem y7 {b:Bool}{A B:Prop}(hb:b=false)(h:B):ju b A B:=⟨(fun h=>by rw[hb] at h;cases h),fun _=>h⟩
theorem DP {b:Bool}{A B:Prop}(hb:b=false)(h:A):ju (!b) A B:=y8 (by rw[hb];rfl) h
theorem DO {b:Bool}{A B:Prop}(hb:b=true)(h:B):ju (!b) A B:=y7 (by rw[hb];rfl) h
theorem Kj {p:Prop}[Decidable p]{A B:Prop}(hp:p)(h:A):ju (decide p) A B:=y8 (decide_eq_true hp) h
theorem Ki {p:Prop}[Decidable p]{A B:Prop}(hp:¬p)(h:B):ju (decide p) A B:=y7 (decide_eq_false hp) h
theorem DN {p:Prop}[Decidable p]{A B:Prop}(h:p→A)(k:¬p→B):ju (decide p) A B:=⟨fun h'=>h (of_decide_eq_true h'),fun h'=>k (of_decide_eq_false h')⟩
theorem MZ {A B:Prop}(h:A):ju true A B:=⟨fun _=>h,fun h=>by cases h⟩
theorem MY {A B:Prop}(h:B):ju false A B:=⟨(by intro h;cases h),fun _=>h⟩
theorem uc {b:Bool}{A B:Prop}(h:b=true→A)(k:b=false→B):ju b A B:=⟨h,k⟩
theorem bf {P:Program}{f:FuncId}{vs:List V}{hin:VH}{K:V→VH→Prop}{r:V}{hout:VH}(h:ag P f vs hin r hout)(k:K r hout):cR P f vs hin K:=⟨r,hout,h,k⟩
theorem n4 {P:Program}{f:FuncId}{vs:List V}{hin:VH}{K:V→VH→Prop}{α:Type}{R:α→Prop}{r:α→V}{hout:α→VH}(h:∃a,R a∧ag P f vs hin (r a) (hout a))(k:∀a,R a→K (r a) (hout a)):cR P f vs hin K:=by
 obtain⟨a,h1,h2⟩:=h
 exact⟨r a,hout a,h2,k a h1⟩
theorem Mx {x:VB}{A B:Prop}(h:A):fo x x A B:=.inl ⟨rfl,h⟩
theorem Mw {y x:VB}{A B:Prop}(h:B):fo y x A B:=.inr h
theorem JY {α:Type}{A:Prop}{B:α→Prop}(h:A):iT none A B:=⟨(fun _=>h),(fun x hx=>nomatch hx)⟩
theorem JZ {α:Type}{x:α}{A:Prop}{B:α→Prop}(h:B x):iT (some x) A B:=⟨(fun hx=>nomatch hx),(fun y hy=>ar hy▸h)⟩
theorem LM {α:Type}{o:Option α}{x:α}{A:Prop}{B:α→Prop}(he:o=some x)(h:B x):iT o A B:=by subst he;exact JZ h
theorem LL {α:Type}{o:Option α}{A:Prop}{B:α→Prop}(he:o=none)(h:A):iT o A B:=by subst he;exact JY h
theorem go {P Q:Prop}(h:Q)(s:Q→P:=by with_reducible first
  |exact LE (by kernel_rfl)|exact MZ|exact MY|exact y8 (by assumption)|exact y7 (by assumption)|exact DP rfl|exact DO rfl|exact DP (by assumption)|exact DO (by assumption)
  |exact Kj (by first|assumption|omega|exact trivial|exact rfl)|exact Ki (by first|assumption|omega)|exact Nr (by assumption)
  |exact fZ (by first|omega|assumption|decide|((try unfold kZ);(try simp only[jq,aP,bF,dz,az,iu]);omega))
  |exact Ke (by omega)|exact KZ (by assumption)|exact Nd (by omega) (by assumption)|exact KJ (by assumption)|exact M6 (by assumption)
  |exact Mx|exact Mw|exact JY|exact JZ|exact LM (by assumption)|exact LL (by assumption)|exact Kf (by simp only[Nh];omega)):P:=s h
theorem Oq {α:Type}{P:Prop}{C Q:α→Prop}(h:∀x,C x→Q x)(s:(∀x,C x→Q x)→P:=by with_reducible first
  |exact JQ (by omega)|exact JP (by omega) (by omega)|exact JM (by omega)|exact EG (by first|omega|(simp only[bF,dz,jq,aP];omega))):P:=s h
theorem Na (n:Int)(h:-9223372036854775808≤n∧n≤9223372036854775807):IntKind.i64.wrap n=n:=by rw[IntKind.wrap_i64];omega
theorem MF {x y:Int}(hx:0≤x∧x<4611686018427387904)(hy:0≤y∧y<4611686018427387904):0≤IntKind.i64.wrap ((BitVec.ofInt IntKind.i64.bits x^^^BitVec.ofInt IntKind.i64.bits y).toNat:Nat):=by
 have hb:IntKind.i64.bits=64:=rfl
 rw[hb]
 have h1:(BitVec.ofInt 64 x).toNat<2^62:=by rw[BitVec.toNat_ofInt];omega
 have h2:(BitVec.ofInt 64 y).toNat<2^62:=by rw[BitVec.toNat_ofInt];omega
 have h3:(BitVec.ofInt 64 x^^^BitVec.ofInt 64 y).toNat<2^62:=by rw[BitVec.toNat_xor];exact Nat.xor_lt_two_pow h1 h2
 rw[Na _ (by omega)]
 omega
variable {P:Program} {N:Nat} {K:Id→Prop}
def uS:List V→Nat→Bool
 |[],0=>true
 | .nilp::l,m+1=>uS l m
 |_,_=>false
theorem rR {t:Ty}{d:t.den}(hd:ai t d= .nilp):∀{l:List V} {m:Nat},uS l m=true→ak l=(List.replicate m d).map (ai t)
 |[],0,_=>rfl
 | .nilp::l,m+1,h=>by
  simp only[ak,List.replicate_succ,bK]
  rw[rR hd (l:=l) (m:=m) h,hd]
  rfl
 |[],m+1,h=>by cases h
 |v::l,0,h=>by cases v<;>cases h
 | .int .. ::_,_+1,h| .bool _::_,_+1,h| .tt::_,_+1,h| .ff::_,_+1,h| .str _::_,_+1,h| .lst .. ::_,_+1,h| .box .. ::_,_+1,h| .agg _::_,_+1,h| .tup _::_,_+1,h
 | .nils::_,_+1,h| .nilf::_,_+1,h| .nili::_,_+1,h| .ifc .. ::_,_+1,h| .clo .. ::_,_+1,h| .ref _::_,_+1,h| .ptr .. ::_,_+1,h| .eptr .. ::_,_+1,h| .iptr .. ::_,_+1,h
 | .vref .. ::_,_+1,h| .aptr .. ::_,_+1,h| .fref .. ::_,_+1,h| .fptr .. ::_,_+1,h| .feptr .. ::_,_+1,h| .faptr .. ::_,_+1,h| .hro .. ::_,_+1,h| .hpo .. ::_,_+1,h| .obo .. ::_,_+1,h
 | .undef::_,_+1,h| .gp _::_,_+1,h| .gv _::_,_+1,h| .junk::_,_+1,h=>by cases h
def NJ:(t:Ty)→Option t.den
 | .hp _=>some none
 | .ob _=>some none
 |_=>none
theorem Jk:∀{t:Ty} {d:t.den},NJ t=some d→ai t d= .nilp
 | .hp _,_,h=>by cases h;rfl
 | .ob _,_,h=>by cases h;rfl
def OF (h:VH)(b p m:Nat)(t:Ty)(K:VH→Prop):Prop:=
 eO h b fun x=>(match x with
  | .var T cs=>tu cs p fun pre=>Mk (uS (cs.drop p) m) (match NJ t with
   |some d=>C7 b (.vari T pre m t (List.replicate m d) []) h K
   |none=>False)
  |_=>False)
theorem DB {c:Code}{Q:Exit→VSt→Prop}{t:VT}{h:VH}{n:Nat}(b p m:Nat)(ty:Ty)(hk:OF h b p m ty fun h'=>At P N K c Q ⟨t,h',n⟩):At P N K c Q ⟨t,h,n⟩:=by
 obtain⟨x,h1,hk⟩:=bh hk
 split at hk
 ·rename_i T cs
  obtain⟨hl,c1,hk⟩:=oY hk
  split at hk
  ·rename_i dn hd
   have hd:=Jk hd
   have ha:=rz hk
   refine AK (σ':=⟨t,put b _ h,n⟩) (fun _ _ _ _ _ _ hs=>hs.congr (fun _=>rfl) (fun d=>?_) rfl) ha
   show look (toH (put b _ h)) d=look (toH h) d
   rw[ap,ap,af]
   split
   ·rename_i e
    rw[e,h1]
    have:VB.blks (.vari T (cs.take p) m ty (List.replicate m dn) [])=VB.blks (.var T cs):=by
     simp only[VB.blks,ak,gw]
     rw[←rR hd c1]
     congr 2
     rw[cX,cX,cX,←ce,List.take_append_drop]
    simp only[ba,this]
   ·rfl
  ·exact hk.elim
 ·exact hk.elim
end Go.Proofs.YtpefhoohfkeflacGreatDoor.Am
namespace Go.Proofs.YtpefhoohfkeflacGreatDoor.Am
open Go
def ey (n:Nat)(p:Nat→Bool):Bool:=(List.range n).all p
theorem bC {n:Nat}{p:Nat→Bool}:ey n p=true↔∀j,j<n→p j=true:=by simp[ey]
theorem de {n:Nat}{p:Nat→Bool}(h:∀j,j<n→p j=true):ey n p=true:=bC.2 h
theorem dP {n j:Nat}{p:Nat→Bool}(hj:j<n)(h:p j=false):ey n p=false:=by
 rw[ck]
 intro ha
 rw[bC.1 ha j hj] at h
 cases h
theorem cD {i:Nat}{p:Nat→Bool}(h:∀j,j<i→p j=true)(hi:p i=true):∀j,j<i+1→p j=true:=by
 intro j hj
 rcases cG j i with hl|hg
 ·exact h j hl
 ·obtain rfl:j=i:=by omega
  exact hi
theorem bZ {α:Type}{l:List α}{i:Nat}{x d:α}(h:l[i]?=some x):l.getD i d=x:=by rw[aq,h];rfl
theorem fv {α:Type}{l:List α}{i:Nat}{d:α}(h:i<l.length):l.getD i d∈l:=by rw[aq,am h];exact bd h
theorem dV {α:Type}{l:List α}{x d:α}(h:x∈l):∃i,i<l.length∧l.getD i d=x:=by
 obtain⟨i,hi,rfl⟩:=qg h
 exact⟨i,hi,by rw[aq,am hi];rfl⟩
def jS (n lo hi:Int):Bool:=decide (lo≤n) && decide (n≤hi)
theorem aC {n lo hi:Int}:jS n lo hi=true↔lo≤n∧n≤hi:=by simp[jS]
def comV (c:List Int):Bool:=ey c.length (fun i=>jS (c.getD i 0) 1 9) && jS c.length 1 7
theorem ay {c:List Int}:comV c=true↔(∀x∈c,1≤x∧x≤9)∧1≤c.length∧c.length≤7:=by
 simp only[comV,aA,bC,aC]
 constructor
 ·rintro⟨h1,h2⟩
  refine⟨fun x hx=>?_,by omega,by omega⟩
  obtain⟨i,hi,rfl⟩:=dV (d:=0) hx
  exact h1 i hi
 ·rintro⟨h1,h2,h3⟩
  exact⟨fun j hj=>h1 _ (fv hj),by omega,by omega⟩
def qD (c:List Int):Int:=c.sum
theorem rI {M:Int}(hM:0≤M):∀{l:List Int},(∀x∈l,0≤x∧x≤M)→0≤l.sum∧l.sum≤M*l.length
 |[],_=>by simp
 |x::l,h=>by
  have h1:=h x (bk ..)
  have h2:=rI hM fun y hy=>h y (bA _ hy)
  rw[List.sum_cons,bF]
  have:M*((l.length+1:Nat):Int)=M*l.length+M:=by rw[Int.natCast_add,Int.mul_add];simp
  omega
theorem tq:∀{l:List Int},(∀x∈l,1≤x)→(l.length:Int)≤l.sum
 |[],_=>by simp
 |x::l,h=>by
  have h1:=h x (bk ..)
  have h2:=tq fun y hy=>h y (bA _ hy)
  rw[List.sum_cons,bF]
  omega
theorem lr {c:List Int}(h:comV c=true):1≤qD c∧qD c≤63:=by
 obtain⟨h1,h2,h3⟩:=ay.1 h
 have h4:=rI (M:=9) (by omega) fun x hx=>⟨by have:=h1 x hx;omega,(h1 x hx).2⟩
 have h5:=tq fun x hx=>(h1 x hx).1
 unfold qD
 omega
def quo (c:List Int):Int:=(2*qD c).tdiv 3+1
theorem F1 {c:List Int}(h:comV c=true):1≤quo c∧quo c≤43:=by
 have h1:=lr h
 unfold quo
 rw[ml (by omega)]
 omega
def dt (c:List Int)(m:Int):Bool:=jS m 0 (c.length-1)
def jj (c ms:List Int)(i:Nat):Bool:=dt c (ms.getD i 0) && (i==0||decide (ms.getD (i-1) 0<ms.getD i 0))
def ee (c ms:List Int):Bool:=ey ms.length (jj c ms)
def lF (c ms:List Int):Int:=(ms.map fun m=>c.getD m.toNat 0).sum
theorem dC {c ms:List Int}(h:ee c ms=true):∀m∈ms,0≤m∧m<c.length:=by
 intro m hm
 obtain⟨i,hi,rfl⟩:=dV (d:=0) hm
 have:=bC.1 h i hi
 simp only[jj,aA,dt,aC] at this
 omega
theorem pV {α:Type}{R:α→α→Prop}(ht:∀a b c,R a b→R b c→R a c):∀{l:List α},(∀i x y,l[i]?=some x→l[i+1]?=some y→R x y)→l.Pairwise R
 |[],_=>List.Pairwise.nil
 |[x],_=>by simp
 |x::y::l,h=>by
  have h0:R x y:=h 0 x y rfl rfl
  have ih:(y::l).Pairwise R:=pV ht fun i a b ha hb=>h (i+1) a b (by simpa using ha) (by simpa using hb)
  refine List.Pairwise.cons (fun a ha=>?_) ih
  rcases aJ.1 ha with rfl|ha
  ·exact h0
  ·exact ht _ _ _ h0 ((iv.1 ih).1 a ha)
theorem jl {c ms:List Int}(h:ee c ms=true):ms.Pairwise (· < ·):=by
 refine pV (fun _ _ _ h1 h2=>by omega) fun i x y hx hy=>?_
 have hl:=(aR.1 hy).1
 have:=bC.1 h (i+1) hl
 simp only[jj,aA,cN,Nat.add_sub_cancel,bZ hx,bZ hy,decide_eq_true_eq] at this
 rcases this.2 with h|h
 ·simp at h
 ·exact h
theorem BF {c ms:List Int}(h1:∀m∈ms,0≤m∧m<c.length)(h2:ms.Pairwise (· < ·)):ee c ms=true:=by
 refine de fun j hj=>?_
 simp only[jj,dt,aA,aC,cN,beq_iff_eq,decide_eq_true_eq]
 have:=h1 _ (fv (d:=0) hj)
 refine⟨by omega,?_⟩
 cases j with
 |zero=>exact .inl rfl
 |succ j=>
  right
  rw[qI] at h2
  have:=h2 j (j+1) (by omega) hj (by omega)
  simpa[aq,am hj,am (show j<ms.length by omega)] using this
theorem uU:∀{a b:List Int},a.Pairwise (· < ·)→b.Pairwise (· < ·)→(∀x,x∈a↔x∈b)→a=b
 |[],[],_,_,_=>rfl
 |[],y::b,_,_,h=>by have:=(h y).2 (bk ..);cases this
 |x::a,[],_,_,h=>by have:=(h x).1 (bk ..);cases this
 |x::a,y::b,ha,hb,h=>by
  rw[iv] at ha hb
  have hxy:x=y:=by
   have h1:=(h x).1 (bk ..)
   have h2:=(h y).2 (bk ..)
   rcases aJ.1 h1 with h1|h1
   ·exact h1
   ·rcases aJ.1 h2 with h2|h2
    ·exact h2.symm
    ·have:=ha.1 y h2;have:=hb.1 x h1;omega
  subst hxy
  rw[uU ha.2 hb.2 fun z=>?_]
  have hz:=h z
  constructor
  ·intro hz1
   have hlt:=ha.1 z hz1
   rcases aJ.1 (hz.1 (bA _ hz1)) with e|e
   ·omega
   ·exact e
  ·intro hz1
   have hlt:=hb.1 z hz1
   rcases aJ.1 (hz.2 (bA _ hz1)) with e|e
   ·omega
   ·exact e
theorem wq {c ms:List Int}(h:comV c=true):0≤lF c ms∧lF c ms≤9*ms.length:=by
 have hc:=(ay.1 h).1
 have:=rI (M:=9) (by omega) (l:=ms.map fun m=>c.getD m.toNat 0) fun x hx=>by
  obtain⟨m,-,rfl⟩:=aB.1 hx
  rcases cG m.toNat c.length with hl|hg
  ·have:=hc _ (fv (d:=0) hl);omega
  ·simp[aq,eg hg]
 rwa [az] at this
theorem tz (c ms:List Int)(m:Int):lF c (ms++[m])=lF c ms+c.getD m.toNat 0:=by simp[lF]
instance:Inhabited Vtx:=⟨⟨0,0,[],0⟩⟩
def v0:Vtx:=⟨0,0,[],0⟩
def vtxS (c:List Int)(v:Vtx):Bool:=jS v.round 0 30 && (dt c v.author && (ee c v.parents && (jS v.digest 0 990 && (if v.round=0 then v.parents.length==0 else decide (quo c≤lF c v.parents)))))
def eZ (r a:Int)(v:Vtx):Bool:=v.round==r && v.author==a
def ed (g:List Vtx)(r a:Int):Bool:=g.any (eZ r a)
def parOK (g:List Vtx)(v:Vtx):Bool:=v.parents.all fun p=>ed g (v.round-1) p
def bef (a b:Vtx):Bool:=decide (a.round<b.round)||decide (a.round=b.round) && decide (a.author<b.author)
theorem ua {a b c:Vtx}(h1:bef a b=true)(h2:bef b c=true):bef a c=true:=by
 simp only[bef,cN,aA,decide_eq_true_eq] at *
 omega
def jK (c:List Int)(g:List Vtx)(i:Nat):Bool:=vtxS c (g.getD i v0) && ((i==0||bef (g.getD (i-1) v0) (g.getD i v0)) && parOK g (g.getD i v0))
def graS (c:List Int)(g:List Vtx):Bool:=comV c && ey g.length (jK c g)
def gB (c:List Int)(g:List Vtx)(i:Nat):Bool:=vtxS c (g.getD i v0) && ((i==0||bef (g.getD (i-1) v0) (g.getD i v0)) && parOK (g.take i) (g.getD i v0))
theorem ic {r a:Int}{v:Vtx}:eZ r a v=true↔v.round=r∧v.author=a:=by simp[eZ]
theorem cF {g:List Vtx}{r a:Int}:ed g r a=true↔∃v∈g,v.round=r∧v.author=a:=by simp[ed,ic]
theorem d9 {g:List Vtx}{v:Vtx}:parOK g v=true↔∀p∈v.parents,ed g (v.round-1) p=true:=by simp[parOK]
theorem Dx {g:List Vtx}(h:∀i,i<g.length→(i==0||bef (g.getD (i-1) v0) (g.getD i v0))=true):g.Pairwise fun a b=>bef a b=true:=by
 refine pV (R:=fun a b=>bef a b=true) (fun _ _ _ h1 h2=>ua h1 h2) fun i x y hx hy=>?_
 have:=h (i+1) (aR.1 hy).1
 rw[Nat.add_sub_cancel,bZ hx,bZ hy] at this
 simpa using this
theorem iF {α:Type}{R:α→α→Prop}{l:List α}(h:l.Pairwise R){i j:Nat}{x y:α}(hij:i<j)(hx:l[i]?=some x)(hy:l[j]?=some y):R x y:=by
 obtain⟨hi,rfl⟩:=aR.1 hx
 obtain⟨hj,rfl⟩:=aR.1 hy
 exact qI.1 h i j hi hj hij
theorem FT {g:List Vtx}(hp:g.Pairwise fun a b=>bef a b=true){i:Nat}{v:Vtx}(hv:g[i]?=some v):parOK (g.take i) v=parOK g v:=by
 rw[d6,d9,d9]
 constructor
 ·intro h p hp1
  obtain⟨u,hu,h1⟩:=cF.1 (h p hp1)
  exact cF.2 ⟨u,jU hu,h1⟩
 ·intro h p hp1
  obtain⟨u,hu,h1,h2⟩:=cF.1 (h p hp1)
  refine cF.2 ⟨u,?_,h1,h2⟩
  obtain⟨j,hj⟩:=iM hu
  have hji:j<i:=by
   rcases Nat.lt_trichotomy j i with h|rfl|h
   ·exact h
   ·rw[hj] at hv;obtain rfl:=ar hv;omega
   ·have:=iF hp h hv hj
    simp only[bef,cN,aA,decide_eq_true_eq] at this
    omega
  exact br (i:=j) (by rw[en,if_pos hji];exact hj)
theorem Bi {c:List Int}{g:List Vtx}:ey g.length (gB c g)=ey g.length (jK c g):=by
 have key:(∀i,i<g.length→(i==0||bef (g.getD (i-1) v0) (g.getD i v0))=true)→∀i,i<g.length→parOK (g.take i) (g.getD i v0)=parOK g (g.getD i v0):=fun h i hi=>
  FT (Dx h) (by rw[aq,am hi];rfl)
 rw[d6,bC,bC]
 constructor
 ·intro h i hi
  have h1:=h i hi
  simp only[gB,aA] at h1
  simp only[jK,aA]
  refine⟨h1.1,h1.2.1,?_⟩
  rw[←key (fun j hj=>?_) i hi]
  ·exact h1.2.2
  ·have:=h j hj
   simp only[gB,aA] at this
   exact this.2.1
 ·intro h i hi
  have h1:=h i hi
  simp only[jK,aA] at h1
  simp only[gB,aA]
  refine⟨h1.1,h1.2.1,?_⟩
  rw[key (fun j hj=>?_) i hi]
  ·exact h1.2.2
  ·have:=h j hj
   simp only[jK,aA] at this
   exact this.2.1
structure GraOK (c:List Int)(g:List Vtx):Prop where
 com:comV c=true
 vtx:∀v∈g,vtxS c v=true
 pw:g.Pairwise fun a b=>bef a b=true
 par:∀v∈g,parOK g v=true
theorem fT {c:List Int}{g:List Vtx}(h:graS c g=true):GraOK c g:=by
 simp only[graS,aA,bC] at h
 obtain⟨h1,h2⟩:=h
 have h3:∀i,i<g.length→vtxS c (g.getD i v0)=true∧(i==0||bef (g.getD (i-1) v0) (g.getD i v0))=true∧parOK g (g.getD i v0)=true:=fun i hi=>by
  have:=h2 i hi
  simpa only[jK,aA] using this
 refine⟨h1,fun v hv=>?_,Dx fun i hi=>(h3 i hi).2.1,fun v hv=>?_⟩<;>(obtain⟨i,hi,rfl⟩:=dV (d:=v0) hv)
 ·exact(h3 i hi).1
 ·exact(h3 i hi).2.2
theorem bG {c:List Int}{v:Vtx}(h:vtxS c v=true):(0≤v.round∧v.round≤30)∧(0≤v.author∧v.author<c.length)∧ee c v.parents=true∧(0≤v.digest∧v.digest≤990)∧(v.round=0→v.parents=[])∧(v.round≠0→quo c≤lF c v.parents):=by
 simp only[vtxS,dt,aA,aC] at h
 obtain⟨h1,h2,h3,h4,h5⟩:=h
 refine⟨h1,by omega,h3,h4,fun h0=>?_,fun h0=>?_⟩
 ·rw[if_pos h0] at h5;simpa using h5
 ·rw[if_neg h0] at h5;simpa using h5
def fq (g:List Vtx)(r:Int):List Int:=(g.filter fun v=>v.round==r).map (·.author)
theorem rY {g:List Vtx}{r a:Int}:a∈fq g r↔ed g r a=true:=by
 rw[cF]
 simp only[fq,aB,eL,beq_iff_eq]
 constructor
 ·rintro⟨v,⟨h1,h2⟩,h3⟩;exact⟨v,h1,h2,h3⟩
 ·rintro⟨v,h1,h2,h3⟩;exact⟨v,⟨h1,h2⟩,h3⟩
theorem wQ {g:List Vtx}(h:g.Pairwise fun a b=>bef a b=true)(r:Int):(fq g r).Pairwise (· < ·):=by
 unfold fq
 rw[mj]
 have h1:(g.filter fun v=>v.round==r).Pairwise fun a b=>bef a b=true:=h.sublist (qi ..)
 refine h1.imp_of_mem fun {a b} ha hb hab=>?_
 have ha:=(eL.1 ha).2
 have hb:=(eL.1 hb).2
 simp only[bef,cN,aA,decide_eq_true_eq,beq_iff_eq] at *
 omega
theorem pk {c:List Int}{g:List Vtx}(h:GraOK c g)(r:Int):ee c (fq g r)=true:=by
 refine BF (fun m hm=>?_) (wQ h.pw r)
 obtain⟨v,h1,-,rfl⟩:=cF.1 (rY.1 hm)
 exact(bG (h.vtx v h1)).2.1
def wN (c:List Int)(g:List Vtx)(r:Int):List Int:=((List.range c.length).filter fun a:Nat=>ed g r (a:Int)).map fun a:Nat=>(a:Int)
theorem wO {c:List Int}{g:List Vtx}(h:GraOK c g)(r:Int):wN c g r=fq g r:=by
 refine uU ?_ (wQ h.pw r) fun x=>?_
 ·unfold wN
  rw[mj]
  refine(List.Pairwise.sublist (qi ..) List.pairwise_lt_range).imp fun {a b} hab=>by omega
 ·rw[rY]
  simp only[wN,aB,eL,eM]
  constructor
  ·rintro⟨a,⟨h1,h2⟩,rfl⟩;exact h2
  ·intro hx
   obtain⟨v,h1,-,h3⟩:=cF.1 hx
   have:=(bG (h.vtx v h1)).2.1
   refine⟨x.toNat,⟨by omega,?_⟩,by omega⟩
   rw[show ((x.toNat:Nat):Int)=x by omega]
   exact hx
def kr (c:List Int)(g:List Vtx):Nat→Int
 |0=>-1
 |r+1=>if quo c≤lF c (fq g r) then r else kr c g r
def iD (c:List Int)(g:List Vtx):Int:=kr c g 31
theorem om (c:List Int)(g:List Vtx):∀n,-1≤kr c g n∧kr c g n<n
 |0=>by simp[kr]
 |n+1=>by
  have:=om c g n
  unfold kr
  split<;>omega
structure GS where
 nodes:List Nod
 rows:List (List (Option Nat))
 plc:List (Option Nat)
def GS.at (s:GS)(r a:Int):Option Nat:=s.plc.getD (r*7+a).toNat none
def jX:GS:=⟨[],[],List.replicate 217 none⟩
def cE (s:GS)(v:Vtx):GS:=
 ⟨s.nodes++[⟨v,s.nodes.length,if v.parents=[] then none else some s.rows.length⟩],if v.parents=[] then s.rows else s.rows++[v.parents.map fun p=>s.at (v.round-1) p],s.plc.set (v.round*7+v.author).toNat (some s.nodes.length)⟩
def da (g:List Vtx):GS:=g.foldl cE jX
theorem lR (g:List Vtx)(v:Vtx):da (g++[v])=cE (da g) v:=by simp[da]
theorem cj {α:Type}{p:List α→Prop}(h0:p [])(h:∀l x,p l→p (l++[x])):∀l,p l:=by
 intro l
 have:∀n (l:List α),l.length=n→p l:=by
  intro n
  induction n with
  |zero=>intro l hl;rw[nP.1 hl];exact h0
  |succ n ih=>
   intro l hl
   have hne:l≠[]:=by intro h;rw[h] at hl;simp at hl
   rw[←List.dropLast_concat_getLast hne]
   exact h _ _ (ih _ (by simp[hl]))
 exact this _ l rfl
theorem fj (g:List Vtx):(da g).nodes.length=g.length∧(da g).plc.length=217:=by
 induction g using cj with
 |h0=>exact⟨rfl,iu⟩
 |h l x ih=>rw[lR];simp[cE,ih.1,ih.2]
def jf (v:Vtx):Prop:=(0≤v.round∧v.round≤30)∧0≤v.author∧v.author≤6
theorem dk {c:List Int}{v:Vtx}(hc:comV c=true)(h:vtxS c v=true):jf v:=by
 obtain⟨h1,h2,-⟩:=bG h
 have:=(ay.1 hc).2.2
 exact⟨h1,by omega,by omega⟩
theorem vE {g:List Vtx}(hg:∀v∈g,jf v){r a:Int}(hr:0≤r∧r≤30)(ha:0≤a∧a≤6):((da g).at r a).isSome=ed g r a∧∀i,(da g).at r a=some i→∃v,g[i]?=some v∧v.round=r∧v.author=a:=by
 induction g using cj with
 |h0=>
  have:(da []).at r a=none:=by
   simp only[da,List.foldl_nil,jX,GS.at,aq]
   rw[mt]
   split<;>rfl
  rw[this]
  exact⟨rfl,fun i hi=>by cases hi⟩
 |h l v ih=>
  have ih:=ih fun u hu=>hg u (eh _ hu)
  have hv:=hg v (by simp)
  have hl:=fj l
  have hk:(v.round*7+v.author).toNat<(da l).plc.length:=by
   obtain⟨h1,h2⟩:=hv
   rw[hl.2]
   omega
  have hany:ed (l++[v]) r a=(ed l r a||eZ r a v):=by simp[ed]
  rw[lR,hany]
  by_cases he:v.round=r∧v.author=a
  ·have h1:(cE (da l) v).at r a=some l.length:=by
    obtain⟨rfl,rfl⟩:=he
    simp only[cE,GS.at,aq]
    rw[List.getElem?_set_self hk,hl.1]
    rfl
   rw[h1,ic.2 he,Bool.or_true]
   refine⟨rfl,fun i hi=>?_⟩
   obtain rfl:=ar hi
   exact⟨v,by simp,he⟩
  ·have hne:eZ r a v=false:=by rw[ck];exact fun h=>he (ic.1 h)
   have h1:(cE (da l) v).at r a=(da l).at r a:=by
    simp only[cE,GS.at,aq]
    rw[nO]
    obtain⟨h1,h2⟩:=hv
    omega
   rw[h1,hne,j9]
   refine⟨ih.1,fun i hi=>?_⟩
   obtain⟨u,h2,h3⟩:=ih.2 i hi
   exact⟨u,by rw[cW (aR.1 h2).1];exact h2,h3⟩
def lB (g:List Vtx)(r a:Int):Int:=match g.findIdx? (eZ r a) with|some i=>i|none=>-1
theorem vq {g:List Vtx}{r a:Int}:(g.findIdx? (eZ r a)).isSome=ed g r a:=by simp[ed,List.findIdx?_isSome]
theorem xw {c:List Int}{g:List Vtx}(h:GraOK c g){r a:Int}(hr:0≤r∧r≤30)(ha:0≤a∧a≤6):(da g).at r a=g.findIdx? (eZ r a):=by
 obtain⟨h1,h2⟩:=vE (fun v hv=>dk h.com (h.vtx v hv)) hr ha
 cases e:(da g).at r a with
 |none=>
  rw[e] at h1
  have h3:=vq (g:=g) (r:=r) (a:=a)
  rw[←h1] at h3
  cases e2:g.findIdx? (eZ r a) with
  |none=>rfl
  |some j=>rw[e2] at h3;cases h3
 |some i=>
  rw[e,←vq] at h1
  obtain⟨v,hv1,hv2⟩:=h2 i e
  cases e2:g.findIdx? (eZ r a) with
  |none=>rw[e2] at h1;cases h1
  |some j=>
   rw[ww] at e2
   obtain⟨hj,e3,-⟩:=e2
   have e3:=ic.1 e3
   congr 1
   rcases Nat.lt_trichotomy i j with hl|rfl|hg
   ·have:=iF h.pw hl hv1 (am hj)
    simp only[bef,cN,aA,decide_eq_true_eq] at this
    omega
   ·rfl
   ·have:=iF h.pw hg (am hj) hv1
    simp only[bef,cN,aA,decide_eq_true_eq] at this
    omega
abbrev bs (l:List UInt8):ByteArray:=⟨l.toArray⟩
theorem DH (a b:List UInt8):bs a++bs b=bs (a++b):=by
 apply iO
 simp
theorem Hh (l:List UInt8):(bs l).size=l.length:=rfl
theorem JG (l:List UInt8):(ByteArray.mk l.toArray).size=l.length:=rfl
theorem po (l:List UInt8)(i j:Nat):(bs l).extract i j=bs ((l.drop i).take (j-i)):=by
 apply iO
 simp
theorem He (x:ByteArray):∀(n i:Nat) (r:List UInt8),x.size-i=n→ByteArray.toList.loop x i r=r.reverse++x.data.toList.drop i:=by
 intro n
 induction n with
 |zero=>
  intro i r h
  rw[ByteArray.toList.loop]
  have:x.data.toList.length=x.size:=nx
  rw[if_neg (by omega),List.drop_eq_nil_of_le (by omega),gw]
 |succ n ih=>
  intro i r h
  rw[ByteArray.toList.loop]
  have hl:x.data.toList.length=x.size:=nx
  rw[if_pos (by omega),ih (i+1) _ (by omega),List.reverse_cons,bH]
  congr 1
  rw[ny (i:=i) (by omega)]
  have:x.get! i=x.data.toList[i]'(by omega):=by
   rw[ByteArray.get!,getElem!_pos x.data i (show i<x.data.size from(show i<x.size by omega))]
   simp
  rw[this]
  rfl
theorem MU (x:ByteArray):x.toList=x.data.toList:=by
 rw[ByteArray.toList,He x _ 0 [] rfl]
 rfl
theorem AL (l:List UInt8):(bs l).toList=l:=MU _
def lA:Nat→Nat→List UInt8
 |0,n=>[UInt8.ofNat (48+n)]
 |k+1,n=>if n<10 then[UInt8.ofNat (48+n)] else lA k (n/10)++[UInt8.ofNat (48+n % 10)]
def aQ (n:Int):List UInt8:=lA 3 n.toNat
theorem se:∀(k n:Nat),1≤(lA k n).length∧(lA k n).length≤k+1
 |0,_=>⟨ax _,ax _⟩
 |k+1,n=>by
  have:=se k (n/10)
  unfold lA
  split
  ·simp
  ·simp
   omega
theorem aO (n:Int):1≤(aQ n).length∧(aQ n).length≤4:=se 3 _
theorem n9 (c:UInt8)(hc:c.toNat<48):∀(k n:Nat),n<10^(k+1)→c∉lA k n
 |0,n,h=>by
  have h:n<10:=by simpa using h
  have:(UInt8.ofNat (48+n)).toNat=48+n:=by rw[UInt8.toNat_ofNat'];omega
  intro hm
  simp only[lA,aY] at hm
  rw[hm,this] at hc
  omega
 |k+1,n,h=>by
  have one:∀m,m<10→c≠UInt8.ofNat (48+m):=fun m hm e=>by
   have:(UInt8.ofNat (48+m)).toNat=48+m:=by rw[UInt8.toNat_ofNat'];omega
   rw[e,this] at hc
   omega
  unfold lA
  split
  ·rename_i h10
   simpa using one n h10
  ·have h1:=n9 c hc k (n/10) (by rw[Nat.pow_succ] at h;exact Nat.div_lt_of_lt_mul (by rw[Nat.mul_comm];exact h))
   simp only[bl,aY,not_or]
   exact⟨h1,one _ (Nat.mod_lt _ (by omega))⟩
def j6 (p:List UInt8):List (List UInt8)→List (List UInt8)
 |[]=>[p]
 |w::ws=>(p++w)::ws
def aK (c:UInt8):List UInt8→List (List UInt8)
 |[]=>[[]]
 |x::l=>if x=c then[]::aK c l else j6 [x] (aK c l)
theorem C6 (a b:List UInt8)(l:List (List UInt8))(h:l≠[]):j6 a (j6 b l)=j6 (a++b) l:=by
 cases l with
 |nil=>exact absurd rfl h
 |cons w ws=>simp[j6]
theorem IK (a:List UInt8)(l:List (List UInt8)):j6 a l≠[]:=by cases l<;>simp[j6]
theorem ye {l:List (List UInt8)}(h:l≠[]):j6 [] l=l:=by
 cases l with
 |nil=>exact absurd rfl h
 |cons w ws=>simp[j6]
theorem kU (c:UInt8)(l:List UInt8):aK c l≠[]:=by
 cases l with
 |nil=>simp[aK]
 |cons x l=>
  unfold aK
  split
  ·simp
  ·exact IK _ _
theorem FW (a:List UInt8){l:List (List UInt8)}(h:l≠[]):(j6 a l).length=l.length:=by
 cases l with
 |nil=>exact absurd rfl h
 |cons w ws=>rfl
theorem eA (c:UInt8):∀l:List UInt8,(aK c l).length=l.count c+1
 |[]=>rfl
 |x::l=>by
  have ih:=eA c l
  unfold aK
  split
  ·rename_i h
   subst h
   simp[ih]
  ·rename_i h
   rw[FW _ (kU c l),ih,List.count_cons_of_ne (by simpa using h)]
theorem iQ (c:UInt8)(l:List UInt8):(aK c l).length≤l.length+1:=by
 rw[eA]
 have:=List.count_le_length (a:=c) (l:=l)
 omega
theorem fQ (c:UInt8):∀(l w:List UInt8),w∈aK c l→w.length≤l.length
 |[],w,h=>by simp[aK] at h;simp[h]
 |x::l,w,h=>by
  unfold aK at h
  split at h
  ·rcases aJ.1 h with rfl|h
   ·simp
   ·have:=fQ c l w h
    simp only[bF]
    omega
  ·have hne:=kU c l
   have ih:=fQ c l
   generalize aK c l=k at *
   cases k with
   |nil=>exact absurd rfl hne
   |cons y k=>
    simp only[j6,aJ] at h
    rcases h with rfl|h
    ·have:=ih y (by simp)
     simp only[aP,bF,dz]
     omega
    ·have:=ih w (by simp[h])
     simp only[bF]
     omega
def ue (c:UInt8):Bool:=decide (48≤c.toNat) && decide (c.toNat≤57)
def l9 (l:List UInt8):Int:=l.foldl (fun n c=>10*n+((c.toNat:Int)-48)) 0
def sU (w:List UInt8):Int:=if 1≤w.length∧w.length≤3∧w.all ue=true then l9 w else-1
def cA (ws:List (List UInt8))(k:Nat):Int:=sU (ws.getD k [])
theorem pO (l:List UInt8)(c:UInt8):l9 (l++[c])=10*l9 l+((c.toNat:Int)-48):=by simp[l9]
theorem vQ:∀l:List UInt8,l.all ue=true→0≤l9 l∧l9 l<10^l.length:=by
 intro l
 induction l using cj with
 |h0=>intro _;simp[l9]
 |h l c ih=>
  intro h
  simp only[List.all_append,List.all_cons,List.all_nil,Bool.and_true,aA,ue,decide_eq_true_eq] at h
  have:=ih h.1
  rw[pO,aP,mw,Int.pow_succ]
  omega
theorem BJ (w:List UInt8):-1≤sU w∧sU w≤999:=by
 unfold sU
 split
 ·rename_i h
  have h1:=vQ w h.2.2
  have h2:w.length=1∨w.length=2∨w.length=3:=by omega
  rcases h2 with h2|h2|h2<;>rw[h2] at h1<;>omega
 ·omega
def leaS (c l:List Int):Bool:=ey l.length (fun i=>dt c (l.getD i 0)) && decide ((l.length:Int)≤15)
theorem bR {c l:List Int}:leaS c l=true↔(∀x∈l,0≤x∧x<c.length)∧l.length≤15:=by
 simp only[leaS,aA,bC,dt,aC,decide_eq_true_eq]
 constructor
 ·rintro⟨h1,h2⟩
  refine⟨fun x hx=>?_,by omega⟩
  obtain⟨i,hi,rfl⟩:=dV (d:=0) hx
  have:=h1 i hi
  omega
 ·rintro⟨h1,h2⟩
  exact⟨fun i hi=>by have:=h1 _ (fv (d:=0) hi);omega,by omega⟩
def Bc (c:List Int):Int:=(qD c-1).tdiv 3
theorem Em {c:List Int}(h:comV c=true):0≤Bc c∧Bc c≤20∧3*Bc c<qD c:=by
 have h1:=lr h
 unfold Bc
 rw[ml (by omega)]
 omega
def badS (c:List Int)(b:Int):Bool:=jS b (-1) (c.length-1) && (decide (b<0)||decide (c.getD b.toNat 0≤Bc c))
theorem nW {c:List Int}{b:Int}:badS c b=true↔b= -1∨((0≤b∧b<c.length)∧c.getD b.toNat 0≤Bc c):=by
 simp only[badS,aA,aC,cN,decide_eq_true_eq]
 omega
def iE (c l:List Int)(b:Int):Bool:=comV c && (leaS c l && badS c b)
def w0:Wrl:=⟨[],[],0,[],[]⟩
def LF (c l:List Int)(b:Int):Wrl:=⟨c,l,b,List.replicate c.length [],[]⟩
def kR (a b:Vtx):Bool:=a.round==b.round && (a.author==b.author && (a.digest==b.digest && a.parents==b.parents))
theorem o6 {a b:Vtx}:kR a b=true↔a=b:=by
 obtain⟨r,x,ps,d⟩:=a
 obtain⟨r2,x2,ps2,d2⟩:=b
 simp only[kR,aA,beq_iff_eq,Vtx.mk.injEq]
 constructor
 ·rintro⟨h1,h2,h3,h4⟩;exact⟨h1,h2,h4,h3⟩
 ·rintro⟨h1,h2,h3,h4⟩;exact⟨h1,h2,h4,h3⟩
theorem GP (a:Vtx):kR a a=true:=o6.2 rfl
def slt (a b:Vtx):Bool:=a.round==b.round && a.author==b.author
theorem rH {a b:Vtx}:slt a b=true↔a.round=b.round∧a.author=b.author:=by simp[slt]
theorem yr (a b:Vtx):slt a b=slt b a:=by
 rw[d6,rH,rH]
 constructor<;>rintro⟨h1,h2⟩<;>exact⟨h1.symm,h2.symm⟩
def nD (bad:Int)(a b:List Int):Bool:=a.any fun m=>m !=bad && b.contains m
theorem nZ {bad:Int}{a b:List Int}:nD bad a b=true↔∃m,m≠bad∧m∈a∧m∈b:=by
 simp only[nD,fJ,aA,bne_iff_ne,ir]
 constructor
 ·rintro⟨m,h1,h2,h3⟩;exact⟨m,h2,h1,h3⟩
 ·rintro⟨m,h1,h2,h3⟩;exact⟨m,h2,h1,h3⟩
theorem Cx (bad:Int)(a b:List Int):nD bad a b=nD bad b a:=by
 rw[d6,nZ,nZ]
 constructor<;>rintro⟨m,h1,h2,h3⟩<;>exact⟨m,h1,h3,h2⟩
def fitP (bad:Int)(p q:Ppl):Bool:=!slt p.v q.v||(!kR p.v q.v && (p.v.author==bad && !nD bad p.members q.members))
theorem pz (bad:Int)(p q:Ppl):fitP bad p q=fitP bad q p:=by
 unfold fitP
 rw[yr,Cx]
 cases h:slt q.v p.v
 ·rfl
 ·have h1:=rH.1 h
  have h2:kR p.v q.v=kR q.v p.v:=by
   rw[d6,o6,o6]
   exact⟨Eq.symm,Eq.symm⟩
  rw[h2,h1.2]
def p0:Ppl:=⟨v0,[]⟩
def oneP (c:List Int)(p:Ppl):Bool:=vtxS c p.v && ee c p.members
def gr (c:List Int)(bad:Int)(ps:List Ppl)(i:Nat):Bool:=oneP c (ps.getD i p0) && ey i (fun k=>fitP bad (ps.getD i p0) (ps.getD k p0))
def gJ (c:List Int)(bad:Int)(ps:List Ppl):Bool:=ey ps.length (gr c bad ps) && decide ((ps.length:Int)≤220)
def don (c:List Int)(p:Ppl):Bool:=decide (quo c≤lF c p.members)
def knw (c:List Int)(ps:List Ppl)(v:Vtx):Bool:=ps.any fun p=>don c p && kR p.v v
def o8 (c:List Int)(ps:List Ppl)(g:List Vtx):Bool:=g.all (knw c ps) && graS c g
def gg (c:List Int)(bad:Int)(ps:List Ppl)(gs:List (List Vtx)):Bool:=ey gs.length fun i=>o8 c ps (gs.getD i []) && (!((i:Int)==bad)||(gs.getD i []).isEmpty)
def j2 (bad:Int)(gs:List (List Vtx))(p:Ppl)(m:Nat):Bool:=!((m:Int) !=bad && ((m:Int)==p.v.author||p.members.contains (m:Int)))||parOK (gs.getD m []) p.v
def pG (bad:Int)(ps:List Ppl)(gs:List (List Vtx)):Bool:=ps.all fun p=>ey gs.length (j2 bad gs p)
def kP (w:Wrl):Bool:=iE w.com w.lead w.bad && ((w.views.length==w.com.length) && (gJ w.com w.bad w.props && (gg w.com w.bad w.props w.views && pG w.bad w.props w.views)))
def aT (g:List Vtx):List (Option Vtx):=g.foldl (fun t v=>t.set (v.round*7+v.author).toNat (some v)) (List.replicate 217 none)
theorem i7 (g:List Vtx)(v:Vtx):aT (g++[v])=(aT g).set (v.round*7+v.author).toNat (some v):=by simp[aT]
theorem dX (g:List Vtx):(aT g).length=217:=by
 induction g using cj with
 |h0=>exact iu
 |h l x ih=>rw[i7,jq,ih]
theorem rJ {g:List Vtx}(hg:∀v∈g,jf v){r a:Int}(hr:0≤r∧r≤30)(ha:0≤a∧a≤6):((aT g).getD (r*7+a).toNat none).isSome=ed g r a:=by
 induction g using cj with
 |h0=>
  have:(aT []).getD (r*7+a).toNat none=none:=by
   simp only[aT,List.foldl_nil,aq,mt]
   split<;>rfl
  rw[this]
  rfl
 |h l x ih=>
  have ih:=ih fun v hv=>hg v (bl.2 (.inl hv))
  obtain⟨⟨x1,x2⟩,x3,x4⟩:=hg x (by simp)
  have hl:=dX l
  have hh:ed (l++[x]) r a=(ed l r a||eZ r a x):=by simp[ed]
  rw[i7,hh,aq,dm]
  by_cases he:x.round=r∧x.author=a
  ·have:eZ r a x=true:=by simp[eZ,he.1,he.2]
   rw[this,Bool.or_true,if_pos (by rw[he.1,he.2]),if_pos (by omega)]
   rfl
  ·have:eZ r a x=false:=by
    rw[ck]
    intro h
    simp only[eZ,aA,beq_iff_eq,decide_eq_true_eq] at h
    exact he (by omega)
   rw[this,j9,if_neg (by omega),←aq,ih]
def qP (tab:List (Option Vtx))(v:Vtx):Bool:=v.parents.all fun p=>(tab.getD ((v.round-1)*7+p).toNat none).isSome
theorem rS {α:Type}{l:List α}{p q:α→Bool}(h:∀x∈l,p x=q x):l.all p=l.all q:=by
 rw[d6,aM,aM]
 exact⟨fun h2 x hx=>by rw[←h x hx];exact h2 x hx,fun h2 x hx=>by rw[h x hx];exact h2 x hx⟩
theorem Cf {g:List Vtx}(hg:∀v∈g,jf v){v:Vtx}(hr:v.parents≠[]→1≤v.round∧v.round≤31)(hp:∀p∈v.parents,0≤p∧p≤6):qP (aT g) v=parOK g v:=
 rS fun p h=>by
  have:=hr (List.ne_nil_of_mem h)
  exact rJ hg (by omega) (hp p h)
def ML (b:Int)(tabs:List (List (Option Vtx)))(v:Vtx)(ms:List Int):Bool:=ms.all fun m=>m==b||qP (tabs.getD m.toNat []) v
def xM (b:Int)(tabs:List (List (Option Vtx)))(ps:List Ppl):Bool:=ps.all fun p=>ML b tabs p.v (p.v.author::p.members)
def NV (n:Nat)(p:Ppl):Prop:=(∀m∈p.v.author::p.members,0≤m∧m<n)∧(p.v.parents≠[]→1≤p.v.round∧p.v.round≤31)∧(∀q∈p.v.parents,0≤q∧q≤6)∧p.members.length≤1000000∧p.v.parents.length≤1000000
theorem Ly {b:Int}{gs:List (List Vtx)}{ps:List Ppl}(hg:∀g∈gs,∀v∈g,jf v)(hp:∀p∈ps,NV gs.length p):xM b (gs.map aT) ps=pG b ps gs:=
 rS fun p h=>by
  obtain⟨p1,p2,p3,-⟩:=hp p h
  have key:∀m:Nat,m<gs.length→qP ((gs.map aT).getD m []) p.v=parOK (gs.getD m []) p.v:=fun m hm=>by
   have e:(gs.map aT).getD m []=aT (gs.getD m []):=by simp only[aq,be,am hm,aI,dY]
   rw[e]
   refine Cf (hg _ ?_) p2 p3
   rw[aq,am hm]
   exact bd hm
  rw[d6,bC]
  simp only[ML,aM,cN,beq_iff_eq]
  constructor
  ·intro h1 m hm
   simp only[j2,cN,fK,nw]
   by_cases hb:(m:Int)=b
   ·exact .inl (.inl (by simp[hb]))
   by_cases hv:(m:Int)=p.v.author∨(m:Int)∈p.members
   ·rcases h1 (m:Int) (aJ.2 hv) with h2|h2
    ·exact absurd h2 hb
    ·rw[pf,key m hm] at h2
     exact .inr h2
   ·refine .inl (.inr ?_)
    rw[ck]
    intro h2
    simp only[cN,beq_iff_eq,ir] at h2
    exact hv h2
  ·intro h1 m hm
   have hr:=p1 m hm
   have h2:=h1 m.toNat (by omega)
   simp only[j2,cN,fK,nw,Int.toNat_of_nonneg hr.1] at h2
   rcases h2 with(h2|h2)|h2
   ·exact .inl (by simpa using h2)
   ·exfalso
    rw[ck] at h2
    apply h2
    simp only[cN,beq_iff_eq,ir]
    exact aJ.1 hm
   ·rw[key m.toNat (by omega)]
    exact .inr h2
def fM (tab:List (Option Vtx)):List Vtx:=tab.filterMap id
theorem qZ:∀{l:List (Option Vtx)},(∀x∈l,x=none)→l.filterMap id=[]
 |[],_=>rfl
 |x::l,h=>by
  rw[h x (bk ..),List.filterMap_cons_none rfl]
  exact qZ fun y hy=>h y (bA _ hy)
theorem vp (l:List (Option Vtx))(y:Vtx):(some y::l).filterMap id=y::l.filterMap id:=List.filterMap_cons_some (f:=id) rfl
theorem Eu:∀{l:List (Option Vtx)} {k:Nat} {v:Vtx},k<l.length→(∀j,k≤j→l.getD j none=none)→(l.set k (some v)).filterMap id=l.filterMap id++[v]
 |[],_,_,h,_=>absurd h (Nat.not_lt_zero _)
 |x::l,0,v,_,h=>by
  have hn:∀y∈x::l,y=none:=fun y hy=>by
   obtain⟨j,hj,rfl⟩:=dV (d:=none) hy
   exact h j (aW _)
  rw[qZ hn,List.set_cons_zero,vp,qZ fun y hy=>hn y (bA _ hy)]
  rfl
 |x::l,k+1,v,hk,h=>by
  have ih:=Eu (l:=l) (k:=k) (v:=v) (by simpa using hk) fun j hj=>by
   have:=h (j+1) (by omega)
   simpa using this
  rw[List.set_cons_succ]
  cases x with
  |none=>rw[List.filterMap_cons_none rfl,List.filterMap_cons_none rfl,ih]
  |some y=>rw[vp,vp,ih];rfl
theorem Df {g:List Vtx}{j:Nat}(h:∀v∈g,(v.round*7+v.author).toNat≠j):(aT g).getD j none=none:=by
 induction g using cj with
 |h0=>
  simp only[aT,List.foldl_nil,aq,mt]
  split<;>rfl
 |h l x ih=>
  rw[i7,aq,nO (h x (by simp)),←aq]
  exact ih fun v hv=>h v (bl.2 (.inl hv))
theorem Ju {g:List Vtx}(hg:∀v∈g,jf v)(hs:g.Pairwise fun a b=>bef a b=true):fM (aT g)=g:=by
 induction g using cj with
 |h0=>exact qZ fun x hx=>qb hx
 |h l x ih=>
  obtain⟨s1,-,s3⟩:=qc.1 hs
  have ih:=ih (fun v hv=>hg v (bl.2 (.inl hv))) s1
  obtain⟨⟨x1,x2⟩,x3,x4⟩:=hg x (by simp)
  rw[i7,fM,Eu (by rw[dX];omega) fun j hj=>Df fun v hv=>?_]
  ·exact congrArg (· ++[x]) ih
  ·have hb:=s3 v hv x (by simp)
   obtain⟨⟨v1,v2⟩,v3,v4⟩:=hg v (bl.2 (.inl hv))
   simp only[bef,cN,aA,decide_eq_true_eq] at hb
   omega
def gk (w:Wrl):Bool:=iE w.com w.lead w.bad && (gJ w.com w.bad w.props && ((w.views.length==w.com.length) && gg w.com w.bad w.props w.views))
theorem ng (w:Wrl):kP w=(gk w && pG w.bad w.props w.views):=by
 simp only[kP,gk]
 cases iE w.com w.lead w.bad<;>cases (w.views.length==w.com.length)<;>cases gJ w.com w.bad w.props<;>cases gg w.com w.bad w.props w.views<;>simp
theorem nM {w:Wrl}(h:gk w=true):comV w.com=true∧leaS w.com w.lead=true∧badS w.com w.bad=true∧gJ w.com w.bad w.props=true∧w.views.length=w.com.length∧gg w.com w.bad w.props w.views=true:=by
 simp only[gk,iE,aA,beq_iff_eq] at h
 obtain⟨⟨h1,h2,h3⟩,h4,h5,h6⟩:=h
 exact⟨h1,h2,h3,h4,h5,h6⟩
theorem Bj {c:List Int}{g:List Vtx}(h:graS c g=true):∀v∈g,vtxS c v=true:=by
 intro v hv
 obtain⟨j,hj,rfl⟩:=dV (d:=v0) hv
 simp only[graS,aA,bC] at h
 have:=h.2 j hj
 simp only[jK,aA] at this
 exact this.1
theorem BS {w:Wrl}(h:gk w=true):∀g∈w.views,graS w.com g=true:=by
 obtain⟨-,-,-,-,-,h6⟩:=nM h
 intro g hg
 obtain⟨j,hj,rfl⟩:=dV (d:=[]) hg
 simp only[gg,bC,aA] at h6
 have:=(h6 j hj).1
 simp only[o8,aA] at this
 exact this.2
theorem nI {α:Type}[BEq α][LawfulBEq α]:∀{a b:List α},a.Nodup→a⊆b→a.length≤b.length
 |[],_,_,_=>aW _
 |x::a,b,h,hs=>by
  rw[List.nodup_cons] at h
  have hx:x∈b:=hs (bk ..)
  have:=nI (b:=b.erase x) h.2 fun y hy=>by
   have hne:y≠x:=fun e=>h.1 (e▸hy)
   exact(List.mem_erase_of_ne hne).2 (hs (bA _ hy))
  rw[List.length_erase_of_mem hx] at this
  have:=List.length_pos_of_mem hx
  simp only[bF]
  omega
theorem kw {c ms:List Int}(h:ee c ms=true):ms.length≤c.length:=by
 have h1:=dC h
 have h2:ms⊆(List.range c.length).map fun n:Nat=>(n:Int):=fun m hm=>by
  have:=h1 m hm
  rw[aB]
  exact⟨m.toNat,by rw[eM];omega,by omega⟩
 have h3:ms.Nodup:=(jl h).imp fun hab=>by omega
 have:=nI h3 h2
 simpa using this
theorem o9 {c:List Int}{v:Vtx}(hc:comV c=true)(h:vtxS c v=true):v.parents.length≤7:=by
 obtain⟨-,-,h3,-⟩:=bG h
 have:=kw h3
 have:=(ay.1 hc).2
 omega
theorem oM {w:Wrl}(h:gk w=true):∀g∈w.views,∀v∈g,jf v∧v.parents.length≤1000:=fun g hg v hv=>by
 have hc:=(nM h).1
 have h1:=Bj (BS h g hg) v hv
 exact⟨dk hc h1,by have:=o9 hc h1;omega⟩
theorem ry {c:List Int}{b:Int}{ps:List Ppl}(h:gJ c b ps=true):∀p∈ps,oneP c p=true:=by
 intro p hp
 obtain⟨j,hj,rfl⟩:=dV (d:=p0) hp
 simp only[gJ,aA,bC] at h
 have:=h.1 j hj
 simp only[gr,aA] at this
 exact this.1
theorem mY {c:List Int}{b:Int}{ps:List Ppl}(h:gJ c b ps=true):ps.length≤220:=by
 simp only[gJ,aA,decide_eq_true_eq] at h
 omega
theorem IA {c:List Int}{p:Ppl}(hc:comV c=true)(h:oneP c p=true):NV c.length p:=by
 simp only[oneP,aA] at h
 obtain⟨h1,h2⟩:=h
 have h7:=(ay.1 hc).2
 have hl:=o9 hc h1
 obtain⟨v1,v2,v3,v4,v5,v6⟩:=bG h1
 have hml:=kw h2
 refine⟨fun m hm=>?_,fun hne=>?_,fun q hq=>?_,by omega,by omega⟩
 ·rcases aJ.1 hm with rfl|hm
  ·omega
  ·exact dC h2 m hm
 ·by_cases h0:p.v.round=0
  ·exact absurd (v5 h0) hne
  ·omega
 ·have:=dC v3 q hq
  omega
theorem rx {w:Wrl}(h:gk w=true):∀p∈w.props,NV w.views.length p:=by
 obtain⟨hc,-,-,h4,h5,-⟩:=nM h
 rw[h5]
 exact fun p hp=>IA hc (ry h4 p hp)
theorem FX {w:Wrl}(h:gk w=true):xM w.bad (w.views.map aT) w.props=pG w.bad w.props w.views:=
 Ly (fun g hg v hv=>(oM h g hg v hv).1) (rx h)
structure WOK (w:Wrl):Prop where
 com:comV w.com=true
 lead:leaS w.com w.lead=true
 bad:badS w.com w.bad=true
 one:∀p∈w.props,oneP w.com p=true
 fit:w.props.Pairwise fun q p=>fitP w.bad p q=true
 plen:w.props.length≤220
 vlen:w.views.length=w.com.length
 gra:∀g∈w.views,graS w.com g=true
 knw:∀g∈w.views,∀v∈g,∃p∈w.props,don w.com p=true∧p.v=v
 bv:∀i:Nat,i<w.views.length→(i:Int)=w.bad→w.views.getD i []=[]
 kp:∀p∈w.props,∀m:Nat,m<w.views.length→(m:Int)≠w.bad→((m:Int)=p.v.author∨(m:Int)∈p.members)→parOK (w.views.getD m []) p.v=true
theorem By {c:List Int}{ps:List Ppl}{v:Vtx}:knw c ps v=true↔∃p∈ps,don c p=true∧p.v=v:=by
 simp only[knw,fJ,aA,o6]
theorem xN {b:Int}{ps:List Ppl}{gs:List (List Vtx)}:pG b ps gs=true↔∀p∈ps,∀m:Nat,m<gs.length→(m:Int)≠b→((m:Int)=p.v.author∨(m:Int)∈p.members)→parOK (gs.getD m []) p.v=true:=by
 simp only[pG,aM,bC,j2,cN,fK,nw,bne_eq_false_iff_eq,Bool.or_eq_false_iff,beq_eq_false_iff_ne]
 constructor
 ·intro h p hp m hm hb hv
  rcases h p hp m hm with(h1|h1)|h1
  ·exact absurd h1 hb
  ·rcases hv with hv|hv
   ·exact absurd hv h1.1
   ·have:=h1.2
    rw[ir.2 hv] at this
    cases this
  ·exact h1
 ·intro h p hp m hm
  by_cases hb:(m:Int)=b
  ·exact .inl (.inl hb)
  by_cases hv:(m:Int)=p.v.author∨(m:Int)∈p.members
  ·exact .inr (h p hp m hm hb hv)
  ·refine .inl (.inr ⟨fun h=>hv (.inl h),?_⟩)
   rw[ck]
   exact fun h=>hv (.inr (ir.1 h))
theorem yh {c:List Int}{b:Int}{ps:List Ppl}:gJ c b ps=true↔(∀p∈ps,oneP c p=true)∧(ps.Pairwise fun q p=>fitP b p q=true)∧ps.length≤220:=by
 constructor
 ·intro h
  refine⟨ry h,?_,mY h⟩
  simp only[gJ,aA,bC] at h
  rw[qI]
  intro i j hi hj hij
  have:=h.1 j hj
  simp only[gr,aA,bC] at this
  have:=this.2 i hij
  simpa[aq,am hi,am hj] using this
 ·rintro⟨h1,h2,h3⟩
  simp only[gJ,aA,bC,decide_eq_true_eq]
  refine⟨fun j hj=>?_,by omega⟩
  simp only[gr,aA,bC]
  refine⟨h1 _ (fv hj),fun i hi=>?_⟩
  have:=qI.1 h2 i j (by omega) hj hi
  simpa[aq,am hj,am (show i<ps.length by omega)] using this
theorem yH {c:List Int}{b:Int}{ps:List Ppl}{gs:List (List Vtx)}:gg c b ps gs=true↔(∀g∈gs,graS c g=true)∧(∀g∈gs,∀v∈g,knw c ps v=true)∧∀i:Nat,i<gs.length→(i:Int)=b→gs.getD i []=[]:=by
 simp only[gg,bC,o8,aA,aM,cN,fK,beq_eq_false_iff_ne,List.isEmpty_iff]
 constructor
 ·intro h
  refine⟨fun g hg=>?_,fun g hg=>?_,fun i hi hb=>?_⟩
  ·obtain⟨j,hj,rfl⟩:=dV (d:=[]) hg
   exact(h j hj).1.2
  ·obtain⟨j,hj,rfl⟩:=dV (d:=[]) hg
   exact(h j hj).1.1
  ·rcases (h i hi).2 with h1|h1
   ·exact absurd hb h1
   ·exact h1
 ·rintro⟨h1,h2,h3⟩ i hi
  have hm:gs.getD i []∈gs:=fv hi
  refine⟨⟨h2 _ hm,h1 _ hm⟩,?_⟩
  by_cases hb:(i:Int)=b
  ·exact .inr (h3 i hi hb)
  ·exact .inl hb
theorem iS {w:Wrl}:kP w=true↔WOK w:=by
 rw[ng,aA]
 constructor
 ·rintro⟨h1,h2⟩
  obtain⟨p1,p2,p3,p4,p5,p6⟩:=nM h1
  obtain⟨q1,q2,q3⟩:=yh.1 p4
  obtain⟨r1,r2,r3⟩:=yH.1 p6
  exact⟨p1,p2,p3,q1,q2,q3,p5,r1,fun g hg v hv=>By.1 (r2 g hg v hv),r3,xN.1 h2⟩
 ·intro h
  refine⟨?_,xN.2 h.kp⟩
  have h1:=yh.2 ⟨h.one,h.fit,h.plen⟩
  have h2:=yH.2 ⟨h.gra,fun g hg v hv=>By.2 (h.knw g hg v hv),h.bv⟩
  simp[gk,iE,h.com,h.lead,h.bad,h1,h2,h.vlen]
def good (w:Wrl)(m:Int):Bool:=dt w.com m && m !=w.bad
def view (w:Wrl)(m:Int):List Vtx:=w.views.getD m.toNat []
def lD (ps:List Ppl)(m:Int):Int:=ps.foldl (fun n p=>if p.v.author=m then max n (p.v.round+1) else n) 0
def tH (w:Wrl)(v:Vtx):Wrl:={w with props:=w.props++[⟨v,[]⟩]}
def il (w:Wrl)(m d:Int):Vtx:=⟨iD w.com (view w m)+1,m,if 0<iD w.com (view w m)+1 then fq (view w m) (iD w.com (view w m)) else[],d⟩
def jx (w:Wrl)(m d:Int):Bool:=good w m && (jS d 0 990 && (decide (w.props.length<220) && (decide (lD w.props m≤(il w m d).round) && vtxS w.com (il w m d))))
def eH (w:Wrl)(m d:Int):Wrl:=if jx w m d then tH w (il w m d) else w
def fV:List Int→Int→List Int
 |[],n=>[n]
 |x::l,n=>if x<n then x::fV l n else if x=n then x::l else n::x::l
def aV (w:Wrl)(i:Int):Ppl:=w.props.getD i.toNat p0
def md (w:Wrl)(i m:Int):Wrl:={w with props:=w.props.set i.toNat ⟨(aV w i).v,fV (aV w i).members m⟩}
def rk (w:Wrl)(i:Int):Bool:=jS i 0 (w.props.length-1)
def Hs (w:Wrl)(m i:Int):Bool:=(List.range w.props.length).any fun j=>(j:Int) !=i && (slt (w.props.getD j p0).v (aV w i).v && (w.props.getD j p0).members.contains m)
def jy (w:Wrl)(m i:Int):Bool:=good w m && (rk w i && (!Hs w m i && parOK (view w m) (aV w i).v))
def eR (w:Wrl)(m i:Int):Wrl:=if jy w m i then md w i m else w
def gC:List Vtx→Vtx→List Vtx
 |[],v=>[v]
 |x::g,v=>if bef x v then x::gC g v else v::x::g
def fa (w:Wrl)(m i:Int):Bool:=good w m && (rk w i && (don w.com (aV w i) && (!ed (view w m) (aV w i).v.round (aV w i).v.author && parOK (view w m) (aV w i).v)))
def dB (w:Wrl)(m i:Int):Wrl:=if fa w m i then {w with views:=w.views.set m.toNat (gC (view w m) (aV w i).v)} else w
def jw (w:Wrl)(v:Vtx):Bool:=decide (0≤w.bad) && (v.author==w.bad && (vtxS w.com v && (decide (w.props.length<220) && !w.props.any fun p=>kR p.v v)))
def iH (w:Wrl)(v:Vtx):Wrl:=if jw w v then tH w v else w
def lK (w:Wrl)(i:Int):Bool:=decide (0≤w.bad) && rk w i
def iG (w:Wrl)(i:Int):Wrl:=if lK w i then md w i w.bad else w
def jt (w:Wrl)(e:Evt):Wrl:=
 if e.kind=1 then eH w e.a e.b else if e.kind=2 then eR w e.a e.b else if e.kind=3 then dB w e.a e.b else if e.kind=4 then iH w e.v else if e.kind=5 then iG w e.b else w
theorem ru (ps:List Ppl)(p:Ppl)(m:Int):lD (ps++[p]) m=if p.v.author=m then max (lD ps m) (p.v.round+1) else lD ps m:=by simp only[lD,List.foldl_append,List.foldl_cons,List.foldl_nil]
theorem FB {ps:List Ppl}{m:Int}:∀p∈ps,p.v.author=m→p.v.round+1≤lD ps m:=by
 induction ps using cj with
 |h0=>intro p hp;cases hp
 |h l x ih=>
  intro p hp ha
  rw[ru]
  rcases bl.1 hp with h|h
  ·have:=ih p h ha
   split<;>omega
  ·obtain rfl:=aY.1 h
   rw[if_pos ha]
   omega
theorem Fu (c:List Int):ee c []=true:=rfl
theorem Hb {ps:List Ppl}{b:Int}{p:Ppl}(h:ps.Pairwise fun q p=>fitP b p q=true)(hn:∀q∈ps,fitP b p q=true):(ps++[p]).Pairwise fun q p=>fitP b p q=true:=
 qc.2 ⟨h,by simp,fun q hq p' hp'=>by obtain rfl:=aY.1 hp';exact hn q hq⟩
theorem Er {b:Int}{p q:Ppl}(h:¬(p.v.round=q.v.round∧p.v.author=q.v.author)):fitP b p q=true:=by
 have:slt p.v q.v=false:=by rw[ck];exact fun h2=>h (rH.1 h2)
 simp[fitP,this]
theorem AF {w:Wrl}(h:WOK w){v:Vtx}(h1:vtxS w.com v=true)(h2:w.props.length<220)(h3:∀q∈w.props,fitP w.bad ⟨v,[]⟩ q=true)
  (h4:∀m:Nat,m<w.views.length→(m:Int)≠w.bad→(m:Int)=v.author→parOK (w.views.getD m []) v=true):WOK (tH w v) where
 com:=h.com
 lead:=h.lead
 bad:=h.bad
 one p hp:=by
  rcases bl.1 hp with hp|hp
  ·exact h.one p hp
  ·obtain rfl:=aY.1 hp
   simp only[tH,oneP,h1,Fu,Bool.and_self]
 fit:=Hb h.fit h3
 plen:=by simp only[tH,aP,mw];omega
 vlen:=h.vlen
 gra:=h.gra
 knw g hg u hu:=by
  obtain⟨p,hp,h5⟩:=h.knw g hg u hu
  exact⟨p,bl.2 (.inl hp),h5⟩
 bv:=h.bv
 kp p hp m hm hb hv:=by
  rcases bl.1 hp with hp|hp
  ·exact h.kp p hp m hm hb hv
  ·obtain rfl:=aY.1 hp
   rcases hv with hv|hv
   ·exact h4 m hm hb hv
   ·cases hv
theorem vZ {w:Wrl}(h:WOK w)(m d:Int):WOK (eH w m d):=by
 unfold eH
 split
 rotate_left
 ·exact h
 rename_i hb
 simp only[jx,aA,decide_eq_true_eq] at hb
 obtain⟨-,-,h1,h2,h3⟩:=hb
 refine AF h h3 h1 (fun q hq=>Er fun hs=>?_) fun k hk _ hka=>?_
 ·have:=FB q hq (m:=m) hs.2.symm
  have:=hs.1
  dsimp only at this
  omega
 ·have hka:(k:Int)=m:=hka
  have hv:w.views.getD k []=view w m:=by unfold view;rw[←hka];rfl
  rw[hv,d9]
  intro p hp
  have hp:p∈if 0<iD w.com (view w m)+1 then fq (view w m) (iD w.com (view w m)) else[]:=hp
  split at hp
  ·have hr:(il w m d).round-1=iD w.com (view w m):=by simp only[il];omega
   rw[hr]
   exact rY.1 hp
  ·cases hp
theorem B2 {w:Wrl}(h:WOK w)(v:Vtx):WOK (iH w v):=by
 unfold iH
 split
 rotate_left
 ·exact h
 rename_i hb
 simp only[jw,aA,decide_eq_true_eq,beq_iff_eq,fK] at hb
 obtain⟨h0,h1,h2,h3,h4⟩:=hb
 refine AF h h2 h3 (fun q hq=>?_) fun k _ hk hka=>absurd (hka.trans h1) hk
 have hne:kR v q.v=false:=by
  rw[ck]
  intro he
  rw[o6] at he
  have:(w.props.any fun p=>kR p.v v)=true:=fJ.2 ⟨q,hq,by rw[he];exact GP _⟩
  rw[h4] at this
  cases this
 have ha:(v.author==w.bad)=true:=by simpa using h1
 simp[fitP,hne,ha,nD]
theorem lS {l:List Int}{n x:Int}:x∈fV l n↔x=n∨x∈l:=by
 induction l with
 |nil=>simp[fV]
 |cons y l ih=>
  unfold fV
  split
  ·simp only[aJ,ih]
   constructor
   ·rintro(h|h|h)
    ·exact .inr (.inl h)
    ·exact .inl h
    ·exact .inr (.inr h)
   ·rintro(h|h|h)
    ·exact .inr (.inl h)
    ·exact .inl h
    ·exact .inr (.inr h)
  ·split
   ·rename_i h1 h2
    simp only[aJ,h2]
    constructor
    ·intro h;exact .inr h
    ·rintro(h|h)
     ·exact .inl h
     ·exact h
   ·simp only[aJ]
theorem E8 {l:List Int}{n:Int}(h:l.Pairwise (· < ·)):(fV l n).Pairwise (· < ·):=by
 induction l with
 |nil=>simp[fV]
 |cons y l ih=>
  rw[iv] at h
  unfold fV
  split
  ·rw[iv]
   refine⟨fun x hx=>?_,ih h.2⟩
   rcases lS.1 hx with rfl|hx
   ·assumption
   ·exact h.1 x hx
  ·split
   ·exact iv.2 h
   ·rw[iv,iv]
    refine⟨fun x hx=>?_,h⟩
    rcases aJ.1 hx with rfl|hx
    ·omega
    ·have:=h.1 x hx
     omega
theorem CO {c ms:List Int}{m:Int}(h:ee c ms=true)(hm:0≤m∧m<c.length):ee c (fV ms m)=true:=by
 refine BF (fun x hx=>?_) (E8 (jl h))
 rcases lS.1 hx with rfl|hx
 ·exact hm
 ·exact dC h x hx
theorem xz {c:List Int}(hc:comV c=true)(m:Int):∀ms:List Int,lF c ms≤lF c (fV ms m)
 |[]=>by
  have:0≤c.getD m.toNat 0:=by
   by_cases h:m.toNat<c.length
   ·have:=(ay.1 hc).1 _ (fv (d:=0) h);omega
   ·rw[aq,eg (by omega)];simp
  simpa[lF,fV] using this
 |y::ms=>by
  have ih:=xz hc m ms
  have:0≤c.getD m.toNat 0:=by
   by_cases h:m.toNat<c.length
   ·have:=(ay.1 hc).1 _ (fv (d:=0) h);omega
   ·rw[aq,eg (by omega)];simp
  unfold fV
  simp only[lF] at ih⊢
  split
  ·simp only[bK,List.sum_cons];omega
  ·split
   ·simp
   ·simp only[bK,List.sum_cons];omega
theorem DG {b m:Int}{a c:List Int}(h:m=b∨m∉c):nD b (fV a m) c=nD b a c:=by
 rw[d6,nZ,nZ]
 constructor
 ·rintro⟨x,h1,h2,h3⟩
  rcases lS.1 h2 with rfl|h2
  ·rcases h with h|h
   ·exact absurd h h1
   ·exact absurd h3 h
  ·exact⟨x,h1,h2,h3⟩
 ·rintro⟨x,h1,h2,h3⟩
  exact⟨x,h1,lS.2 (.inr h2),h3⟩
theorem LX {α:Type}{R:α→α→Prop}{l:List α}{i:Nat}{x:α}(h:l.Pairwise R)(h1:∀j y,j<i→l[j]?=some y→R y x)(h2:∀j y,i<j→l[j]?=some y→R x y):(l.set i x).Pairwise R:=by
 rw[qI] at h⊢
 intro a b ha hb hab
 rw[jq] at ha hb
 rw[List.getElem_set,List.getElem_set]
 split
 ·rename_i e
  rw[if_neg (by omega)]
  exact h2 b _ (by omega) (am hb)
 ·split
  ·exact h1 a _ (by omega) (am ha)
  ·exact h a b ha hb hab
theorem mem_set {α:Type}{l:List α}{i:Nat}{x y:α}(h:y∈l.set i x):y=x∨y∈l:=by
 rcases List.mem_or_eq_of_mem_set h with h|h
 ·exact .inr h
 ·exact .inl h
theorem li {w:Wrl}{i:Int}(hi:rk w i=true):i.toNat<w.props.length∧w.props[i.toNat]?=some (aV w i)∧aV w i∈w.props:=by
 have:=aC.1 hi
 have hl:i.toNat<w.props.length:=by omega
 refine⟨hl,?_,fv hl⟩
 unfold aV
 rw[aq,am hl]
 rfl
theorem B1 {w:Wrl}(h:WOK w){i m:Int}(hi:rk w i=true)(hm:0≤m∧m<w.com.length)
  (h1:m=w.bad∨(∀j:Nat,j<w.props.length→(j:Int)≠i→slt (w.props.getD j p0).v (aV w i).v=true→m∉(w.props.getD j p0).members))
  (h2:m=w.bad∨parOK (view w m) (aV w i).v=true):WOK (md w i m):=by
 obtain⟨hl,hx,hp⟩:=li hi
 have hir:=aC.1 hi
 have hone:=h.one _ hp
 have key:∀j:Nat,∀q,j≠i.toNat→w.props[j]?=some q→fitP w.bad (aV w i) q=true→fitP w.bad ⟨(aV w i).v,fV (aV w i).members m⟩ q=true:=fun j q hj hq hf=>by
  unfold fitP at hf⊢
  dsimp only
  cases hs:slt (aV w i).v q.v
  ·simp
  ·rw[hs] at hf
   rw[DG]
   ·exact hf
   ·rcases h1 with h1|h1
    ·exact .inl h1
    ·right
     have:=h1 j (aR.1 hq).1 (by omega) (by rw[bZ hq,yr];exact hs)
     rwa [bZ hq] at this
 have hset:∀y∈w.props,∃z∈(md w i m).props,z.v=y.v∧(don w.com y=true→don w.com z=true):=fun y hy=>by
  obtain⟨j,hj⟩:=iM hy
  by_cases hji:j=i.toNat
  ·subst hji
   rw[hx] at hj
   obtain rfl:=ar hj
   refine⟨_,List.mem_set hl ..,rfl,fun hd=>?_⟩
   simp only[don,decide_eq_true_eq] at hd⊢
   have:=xz h.com m (aV w i).members
   omega
  ·refine⟨y,br (i:=j) ?_,rfl,id⟩
   simp only[md]
   rw[nO (by omega)]
   exact hj
 refine⟨h.com,h.lead,h.bad,fun p hp'=>?_,LX h.fit (fun j y hj hy=>?_) (fun j y hj hy=>?_),by simp only[md,jq];exact h.plen,h.vlen,h.gra,fun g hg v hv=>?_,h.bv,fun p hp' k hk hb hv=>?_⟩
 ·rcases mem_set hp' with rfl|hp'
  ·simp only[oneP,aA] at hone⊢
   exact⟨hone.1,CO hone.2 hm⟩
  ·exact h.one p hp'
 ·refine key j y (by omega) hy ?_
  exact iF h.fit hj hy hx
 ·rw[pz]
  refine key j y (by omega) hy ?_
  rw[pz]
  exact iF h.fit hj hx hy
 ·obtain⟨p,hp,hd,rfl⟩:=h.knw g hg v hv
  obtain⟨z,hz,hzv,hzd⟩:=hset p hp
  exact⟨z,hz,hzd hd,hzv⟩
 ·rcases mem_set hp' with rfl|hp'
  ·dsimp only at hv⊢
   by_cases hkm:(k:Int)=m
   ·rcases h2 with h2|h2
    ·exact absurd (hkm.trans h2) hb
    ·unfold view at h2
     rw[←hkm] at h2
     exact h2
   ·refine h.kp _ hp k hk hb ?_
    rcases hv with hv|hv
    ·exact .inl hv
    ·rcases lS.1 hv with hv|hv
     ·exact absurd hv hkm
     ·exact .inr hv
  ·exact h.kp p hp' k hk hb hv
theorem fb {w:Wrl}{m:Int}:good w m=true↔(0≤m∧m<w.com.length)∧m≠w.bad:=by
 simp only[good,dt,aA,aC,bne_iff_ne]
 omega
theorem v7 {w:Wrl}(h:WOK w)(m i:Int):WOK (eR w m i):=by
 unfold eR
 split
 rotate_left
 ·exact h
 rename_i hb
 simp only[jy,aA,fK] at hb
 obtain⟨h1,h2,h3,h4⟩:=hb
 refine B1 h h2 (fb.1 h1).1 (.inr fun j hj hji hs hm=>?_) (.inr h4)
 have:Hs w m i=true:=by
  refine fJ.2 ⟨j,eM.2 hj,?_⟩
  rw[hs,ir.2 hm]
  simpa using hji
 rw[h3] at this
 cases this
theorem B0 {w:Wrl}(h:WOK w)(i:Int):WOK (iG w i):=by
 unfold iG
 split
 rotate_left
 ·exact h
 rename_i hb
 simp only[lK,aA,decide_eq_true_eq] at hb
 have:=nW.1 h.bad
 exact B1 h hb.2 (by omega) (.inl rfl) (.inl rfl)
theorem ku {g:List Vtx}{v x:Vtx}:x∈gC g v↔x=v∨x∈g:=by
 induction g with
 |nil=>simp[gC]
 |cons y g ih=>
  unfold gC
  split
  ·simp only[aJ,ih]
   constructor
   ·rintro(h|h|h)
    ·exact .inr (.inl h)
    ·exact .inl h
    ·exact .inr (.inr h)
   ·rintro(h|h|h)
    ·exact .inr (.inl h)
    ·exact .inl h
    ·exact .inr (.inr h)
  ·simp only[aJ]
theorem Hf {a b:Vtx}(h:¬(a.round=b.round∧a.author=b.author))(h2:bef a b=false):bef b a=true:=by
 simp only[bef,cN,aA,decide_eq_true_eq,Bool.or_eq_false_iff,nw,decide_eq_false_iff_not] at *
 omega
theorem H9 {g:List Vtx}{v:Vtx}(h:g.Pairwise fun a b=>bef a b=true)(hn:ed g v.round v.author=false):(gC g v).Pairwise fun a b=>bef a b=true:=by
 induction g with
 |nil=>simp[gC]
 |cons y g ih=>
  rw[iv] at h
  have hn2:eZ v.round v.author y=false∧ed g v.round v.author=false:=by simpa[ed] using hn
  unfold gC
  split
  ·rw[iv]
   refine⟨fun x hx=>?_,ih h.2 hn2.2⟩
   rcases ku.1 hx with rfl|hx
   ·assumption
   ·exact h.1 x hx
  ·rename_i hb
   have hvy:bef v y=true:=Hf (fun he=>by
    rw[ic.2 he] at hn2
    cases hn2.1) (by simpa using hb)
   rw[iv,iv]
   refine⟨fun x hx=>?_,h⟩
   rcases aJ.1 hx with rfl|hx
   ·exact hvy
   ·exact ua hvy (h.1 x hx)
theorem CL {g g':List Vtx}{r a:Int}(h:∀x∈g,x∈g')(hh:ed g r a=true):ed g' r a=true:=by
 obtain⟨v,hv,e⟩:=cF.1 hh
 exact cF.2 ⟨v,h v hv,e⟩
theorem nK {g g':List Vtx}{v:Vtx}(h:∀x∈g,x∈g')(hh:parOK g v=true):parOK g' v=true:=
 d9.2 fun p hp=>CL h (d9.1 hh p hp)
theorem HT {c:List Int}{g:List Vtx}(h:GraOK c g):graS c g=true:=by
 simp only[graS,aA,bC,jK,cN,beq_iff_eq]
 refine⟨h.com,fun i hi=>⟨h.vtx _ (fv hi),?_,h.par _ (fv hi)⟩⟩
 cases i with
 |zero=>exact .inl rfl
 |succ i=>
  right
  exact iF h.pw (show i<i+1 by omega) (by rw[Nat.add_sub_cancel,aq,am (show i<g.length by omega)];rfl) (by rw[aq,am hi];rfl)
theorem E9 {c:List Int}{g:List Vtx}{v:Vtx}(h:graS c g=true)(h1:vtxS c v=true)(h2:ed g v.round v.author=false)(h3:parOK g v=true):graS c (gC g v)=true:=by
 have hg:=fT h
 have hs:∀x∈g,x∈gC g v:=fun x hx=>ku.2 (.inr hx)
 refine HT ⟨hg.com,fun x hx=>?_,H9 hg.pw h2,fun x hx=>?_⟩
 ·rcases ku.1 hx with rfl|hx
  ·exact h1
  ·exact hg.vtx x hx
 ·rcases ku.1 hx with rfl|hx
  ·exact nK hs h3
  ·exact nK hs (hg.par x hx)
theorem xr {α:Type}{l:List α}{i j:Nat}{x d:α}(hi:i<l.length):(l.set i x).getD j d=if i=j then x else l.getD j d:=by
 simp only[aq,dm]
 split
 ·subst_vars;simp[hi]
 ·rfl
theorem rG {w:Wrl}(h:WOK w)(m i:Int):WOK (dB w m i):=by
 unfold dB
 split
 rotate_left
 ·exact h
 rename_i hb
 simp only[fa,aA,fK] at hb
 obtain⟨h1,h2,h3,h4,h5⟩:=hb
 have hg:=fb.1 h1
 obtain⟨hl,hx,hp⟩:=li h2
 have hone:=h.one _ hp
 simp only[oneP,aA] at hone
 have hml:m.toNat<w.views.length:=by rw[h.vlen];omega
 have hvm:view w m∈w.views:=fv hml
 refine⟨h.com,h.lead,h.bad,h.one,h.fit,h.plen,by simp only[jq];exact h.vlen,fun g hg'=>?_,fun g hg' v hv=>?_,fun k hk hkb=>?_,fun p hp' k hk hb hv=>?_⟩
 ·rcases mem_set hg' with rfl|hg'
  ·exact E9 (h.gra _ hvm) hone.1 h4 h5
  ·exact h.gra g hg'
 ·rcases mem_set hg' with rfl|hg'
  ·rcases ku.1 hv with rfl|hv
   ·exact⟨aV w i,hp,h3,rfl⟩
   ·exact h.knw _ hvm v hv
  ·exact h.knw g hg' v hv
 ·simp only[jq] at hk
  have hkb:(k:Int)=w.bad:=hkb
  dsimp only
  rw[xr hml,if_neg (by intro e;apply hg.2;omega)]
  exact h.bv k hk hkb
 ·simp only[jq] at hk
  have:=h.kp p hp' k hk hb hv
  dsimp only
  rw[xr hml]
  split
  ·rename_i e
   subst e
   exact nK (fun x hx=>ku.2 (.inr hx)) this
  ·exact this
theorem Aa {w:Wrl}(h:WOK w)(e:Evt):WOK (jt w e):=by
 unfold jt
 split
 ·exact vZ h _ _
 split
 ·exact v7 h _ _
 split
 ·exact rG h _ _
 split
 ·exact B2 h _
 split
 ·exact B0 h _
 ·exact h
theorem HU {c:List Int}{g:List Vtx}(h:graS c g=true):g.length≤217:=by
 have hg:=fT h
 have ht:∀v∈g,jf v:=fun v hv=>dk hg.com (hg.vtx v hv)
 have h1:((g.map fun v=>(v.round*7+v.author).toNat)).Nodup:=by
  rw[List.Nodup,mj]
  refine hg.pw.imp_of_mem fun {a b} ha hb hab=>?_
  obtain⟨⟨a1,a2⟩,a3,a4⟩:=ht a ha
  obtain⟨⟨b1,b2⟩,b3,b4⟩:=ht b hb
  simp only[bef,cN,aA,decide_eq_true_eq] at hab
  omega
 have h2:=nI h1 (b:=List.range 217) fun k hk=>by
  obtain⟨v,hv,rfl⟩:=aB.1 hk
  obtain⟨⟨a1,a2⟩,a3,a4⟩:=ht v hv
  rw[eM]
  omega
 simpa using h2
theorem Br:∀{l:List Int} {n:Int} {k:Nat},(∀y∈l.take k,y<n)→k≤l.length→(∀y,l[k]?=some y→¬y<n)→fV l n=if l[k]?=some n then l else l.take k++[n]++l.drop k
 |[],n,k,_,hk,_=>by
  obtain rfl:k=0:=by simpa using hk
  simp[fV]
 |x::l,n,0,_,_,h=>by
  have hx:=h x rfl
  unfold fV
  rw[if_neg hx]
  simp
 |x::l,n,k+1,h1,hk,h=>by
  have hx:x<n:=h1 x (by simp)
  unfold fV
  rw[if_pos hx,Br (l:=l) (k:=k) (fun y hy=>h1 y (by simp[hy])) (by simpa using hk) (fun y hy=>h y (by simpa using hy))]
  simp only[List.getElem?_cons_succ]
  split<;>simp
theorem Bs:∀{g:List Vtx} {v:Vtx} {k:Nat},(∀y∈g.take k,bef y v=true)→k≤g.length→(∀y,g[k]?=some y→bef y v=false)→gC g v=g.take k++[v]++g.drop k
 |[],v,k,_,hk,_=>by
  obtain rfl:k=0:=by simpa using hk
  simp[gC]
 |x::g,v,0,_,_,h=>by
  have hx:=h x rfl
  unfold gC
  rw[if_neg (by rw[hx];simp)]
  simp
 |x::g,v,k+1,h1,hk,h=>by
  have hx:bef x v=true:=h1 x (by simp)
  unfold gC
  rw[if_pos hx,Bs (g:=g) (k:=k) (fun y hy=>h1 y (by simp[hy])) (by simpa using hk) (fun y hy=>h y (by simpa using hy))]
  simp
theorem xA (g:List Vtx)(v:Vtx):(gC g v).length=g.length+1:=by
 induction g with
 |nil=>rfl
 |cons x g ih=>unfold gC;split<;>simp[ih]
theorem FA {ps:List Ppl}{m:Int}(h:∀p∈ps,0≤p.v.round∧p.v.round≤30):0≤lD ps m∧lD ps m≤31:=by
 induction ps using cj with
 |h0=>simp[lD]
 |h l x ih=>
  have ih:=ih fun p hp=>h p (bl.2 (.inl hp))
  have hx:=h x (by simp)
  rw[ru]
  split<;>omega
theorem WOK.len {w:Wrl}(h:WOK w):1≤w.com.length∧w.com.length≤7:=(ay.1 h.com).2
theorem WOK.vl {w:Wrl}(h:WOK w):∀g∈w.views,g.length≤217:=fun g hg=>HU (h.gra g hg)
theorem WOK.vv {w:Wrl}(h:WOK w):∀g∈w.views,∀v∈g,vtxS w.com v=true:=fun g hg=>Bj (h.gra g hg)
theorem WOK.pv {w:Wrl}(h:WOK w):∀p∈w.props,vtxS w.com p.v=true∧ee w.com p.members=true:=fun p hp=>by
 have:=h.one p hp
 simpa only[oneP,aA] using this
theorem WOK.par {w:Wrl}(h:WOK w){v:Vtx}(hv:vtxS w.com v=true):v.parents.length≤7:=o9 h.com hv
theorem WOK.mem {w:Wrl}(h:WOK w):∀p∈w.props,p.members.length≤7:=fun p hp=>by
 have:=kw (h.pv p hp).2
 have:=h.len
 omega
theorem WOK.view {w:Wrl}(h:WOK w){m:Int}(hm:good w m=true):w.views[m.toNat]?=some (view w m)∧view w m∈w.views∧m.toNat<w.views.length:=by
 have hg:=fb.1 hm
 have hl:m.toNat<w.views.length:=by rw[h.vlen];omega
 refine⟨?_,fv hl,hl⟩
 unfold Am.view
 rw[aq,am hl]
 rfl
def gf (w:Wrl):Nat:=(w.views.map List.length).sum
theorem Jg {l:List (List Vtx)}{i:Nat}{g x:List Vtx}(h:l[i]?=some g)(hx:x.length=g.length+1):((l.set i x).map List.length).sum=(l.map List.length).sum+1:=by
 induction l generalizing i with
 |nil=>simp at h
 |cons y l ih=>
  cases i with
  |zero=>
   simp only[iL,aw] at h
   subst h
   simp only[List.set_cons_zero,bK,List.sum_cons,hx]
   omega
  |succ i=>
   simp only[List.set_cons_succ,bK,List.sum_cons]
   rw[ih (by simpa using h)]
   omega
theorem lp {w:Wrl}(h:WOK w)(m i:Int):(fa w m i=false∧dB w m i=w)∨(fa w m i=true∧gf (dB w m i)=gf w+1):=by
 cases hb:fa w m i
 ·exact .inl ⟨rfl,by simp[dB,hb]⟩
 ·refine .inr ⟨rfl,?_⟩
  have hg:good w m=true:=by
   simp only[fa,aA] at hb
   exact hb.1
  have:=Jg (h.view hg).1 (xA (view w m) (aV w i).v)
  simpa[dB,hb,gf] using this
theorem oT (w:Wrl)(m i:Int):(dB w m i).com=w.com∧(dB w m i).props=w.props∧(dB w m i).bad=w.bad∧(dB w m i).lead=w.lead:=by
 unfold dB
 split<;>exact⟨rfl,rfl,rfl,rfl⟩
theorem wk {w:Wrl}(h:WOK w):gf w≤1519:=by
 have h1:∀l:List (List Vtx),(∀g∈l,g.length≤217)→(l.map List.length).sum≤217*l.length:=by
  intro l
  induction l with
  |nil=>intro _;simp
  |cons x l ih=>
   intro hl
   have:=ih fun g hg=>hl g (bA _ hg)
   have:=hl x (bk ..)
   simp only[bK,List.sum_cons,bF]
   omega
 have:=h1 w.views h.vl
 have:=h.vlen
 have:=h.len
 unfold gf
 omega
def dM (w:Wrl)(i:Int):Nat→Wrl
 |0=>w
 |n+1=>dB (dM w i n) n i
theorem lN {w:Wrl}(h:WOK w)(i:Int):∀n,WOK (dM w i n)
 |0=>h
 |n+1=>rG (lN h i n) _ _
theorem kh (w:Wrl)(i:Int):∀n,(dM w i n).com=w.com∧(dM w i n).props=w.props
 |0=>⟨rfl,rfl⟩
 |n+1=>by
  have h1:=oT (dM w i n) n i
  have h2:=kh w i n
  exact⟨h1.1.trans h2.1,h1.2.1.trans h2.2⟩
def cd (w:Wrl):Nat→Wrl
 |0=>w
 |k+1=>dM (cd w k) k (cd w k).com.length
theorem kC {w:Wrl}(h:WOK w):∀k,WOK (cd w k)
 |0=>h
 |k+1=>lN (kC h k) _ _
theorem eG (w:Wrl):∀k,(cd w k).com=w.com∧(cd w k).props=w.props
 |0=>⟨rfl,rfl⟩
 |k+1=>by
  have h1:=kh (cd w k) k (cd w k).com.length
  have h2:=eG w k
  exact⟨h1.1.trans h2.1,h1.2.trans h2.2⟩
def pass (w:Wrl):Wrl:=cd w w.props.length
theorem oJ {w:Wrl}(h:WOK w):WOK (pass w):=kC h _
def db (w:Wrl):Wrl:=if h:gf w<gf (pass w)∧gf (pass w)≤1519 then db (pass w) else pass w
termination_by 1519-gf w
decreasing_by omega
theorem B3:∀(n:Nat) {w:Wrl},1519-gf w≤n→WOK w→WOK (db w):=by
 intro n
 induction n with
 |zero=>
  intro w hn h
  rw[db]
  split
  ·omega
  ·exact oJ h
 |succ n ih=>
  intro w hn h
  rw[db]
  split
  ·exact ih (by omega) (oJ h)
  ·exact oJ h
def iK (w:Wrl)(i:Int):Nat→Wrl
 |0=>w
 |n+1=>eR (iK w i n) n i
theorem tx {w:Wrl}(h:WOK w)(i:Int):∀n,WOK (iK w i n)
 |0=>h
 |n+1=>v7 (tx h i n) _ _
theorem Gh (w:Wrl)(m i:Int):(eR w m i).com=w.com∧(eR w m i).props.length=w.props.length:=by
 unfold eR
 split
 ·exact⟨rfl,by simp[md]⟩
 ·exact⟨rfl,rfl⟩
theorem nd (w:Wrl)(i:Int):∀n,(iK w i n).com=w.com∧(iK w i n).props.length=w.props.length
 |0=>⟨rfl,rfl⟩
 |n+1=>by
  have h1:=Gh (iK w i n) n i
  have h2:=nd w i n
  exact⟨h1.1.trans h2.1,h1.2.trans h2.2⟩
def dd (w:Wrl):Nat→Wrl
 |0=>w
 |k+1=>iK (dd w k) k (dd w k).com.length
theorem gL {w:Wrl}(h:WOK w):∀k,WOK (dd w k)
 |0=>h
 |k+1=>tx (gL h k) _ _
theorem fA (w:Wrl):∀k,(dd w k).com=w.com∧(dd w k).props.length=w.props.length
 |0=>⟨rfl,rfl⟩
 |k+1=>by
  have h1:=nd (dd w k) k (dd w k).com.length
  have h2:=fA w k
  exact⟨h1.1.trans h2.1,h1.2.trans h2.2⟩
def iI (w:Wrl):Wrl:=dd w w.props.length
def dF (w:Wrl)(r:Nat):Nat→Wrl
 |0=>w
 |n+1=>eH (dF w r n) n (7*r+n)
theorem oN {w:Wrl}(h:WOK w)(r:Nat):∀n,WOK (dF w r n)
 |0=>h
 |n+1=>vZ (oN h r n) _ _
theorem Gg (w:Wrl)(m d:Int):(eH w m d).com=w.com:=by
 unfold eH
 split<;>rfl
theorem mZ (w:Wrl)(r:Nat):∀n,(dF w r n).com=w.com
 |0=>rfl
 |n+1=>(Gg _ _ _).trans (mZ w r n)
def gm (w:Wrl):Wrl:=db (iI w)
def OS (w:Wrl)(r:Nat):Wrl:=gm (dF (gm w) r (gm w).com.length)
def bg (w:Wrl):Nat→Wrl
 |0=>db w
 |r+1=>OS (bg w r) r
theorem oS {w:Wrl}(h:WOK w):WOK (gm w):=B3 _ (ax _) (gL h _)
theorem L3 {w:Wrl}(h:WOK w)(r:Nat):WOK (OS w r):=oS (oN (oS h) _ _)
theorem kg {w:Wrl}(h:WOK w):∀r,WOK (bg w r)
 |0=>B3 _ (ax _) h
 |r+1=>L3 (kg h r) r

end Go.Proofs.YtpefhoohfkeflacGreatDoor.Am
