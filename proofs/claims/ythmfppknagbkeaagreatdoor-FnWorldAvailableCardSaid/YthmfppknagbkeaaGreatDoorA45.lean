/- The plain machine with types: what is no more wanted is forgotten, put together. The plain machine with types: loops, results, contracts. From a contract to a row: what a law's call leaves; how an argument reads. The plain machine with types: how the marks are met. The plain machine with types: a variable with a table of nil pointers. Committees and graphs: plain laws. Runs: plain definitions of what is valid, and laws. The program's types, by program (gsa.py). Committees and graphs: what the specification's functions give. Committees and vertices: what the program's functions give. -/
import Derived.WalkKit
import Derived.ProofKit
import Derived.OpenShut
import Derived.Carry
import Derived.ChangeSlices
import Derived.ChangeSame
import Derived.Test.YthmfppknagbkeaaGreatDoorRows
import Derived.Test.YthmfppknagbkeaaGreatDoorA44
set_option linter.unusedSimpArgs false
set_option linter.unusedVariables false
set_option maxHeartbeats 1000000
namespace Go.Proofs.YthmfppknagbkeaaGreatDoor.Am
open Go Go.RowKit
variable {P:Program} {N:Nat} {K:Id→Prop} {os:List Nat} {n:Nat} {h:VH} {σ:VSt}
def IU (os:List Nat)(h:VH):List Nat→Nat→(VH→Prop)→Prop
 |[],_,K=>K []
 |b::l,i,K=>dj h b fun x=>IS os h x fun y=>eJ (i+1) fun j=>IU os h l j fun r=>K ((i,y)::r)
theorem AF:∀{l:List Nat} {i:Nat} {K:VH→Prop},IU os h l i K→∃hs,(∀k x,look hs k=some x→∃m,k=i+m∧m<l.length)∧
   (∀m b,l[m]?=some b→∃x y d d',look h b=some x∧look hs (i+m)=some y∧x.blks=[d]∧y.blks=[d']∧∀h',KeepOK os h h'→RnB (toH h) (gI (gN os n)) (toH h') d d')∧K hs
 |[],i,K,hk=>⟨[],(fun k x hx=>by cases hx),by simp,hk⟩
 |b::l,i,K,hk=>by
  obtain⟨x,hx,hk⟩:=aG hk
  obtain⟨y,d,d',e1,e2,e3,hk⟩:=F1 (n:=n) hk
  have hk:=aW hk
  obtain⟨hs,h3,h4,hk⟩:=AF hk
  refine⟨(i,y)::hs,fun k z hz=>?_,fun m b' hm=>?_,hk⟩
  ·simp only[look] at hz
   split at hz
   ·exact⟨0,by omega,by simp⟩
   ·obtain⟨m,e1,e2⟩:=h3 k z hz
    exact⟨m+1,by omega,by simpa using e2⟩
  ·cases m with
   |zero=>
    simp only[List.getElem?_cons_zero,Option.some.injEq] at hm
    subst hm
    exact⟨x,y,d,d',hx,by simp[look],e1,e2,e3⟩
   |succ m=>
    obtain⟨z,z',f1,f2,q1,q2,q3⟩:=h4 m b' (by simpa using hm)
    refine⟨z,z',f1,f2,q1,?_,q3⟩
    simp only[look]
    rw[if_neg (by omega),show i+(m+1)=i+1+m by omega]
    exact q2
def HU (h:VH):List Nat→(VH→Prop)→Prop
 |[],K=>K []
 |k::l,K=>match aC h k with
  |some x=>Chk (!x.sgl && Ic x.fams) (HU h l fun r=>K ((k,x)::r))
  |none=>HU h l K
theorem vE:∀{l:List Nat} {K:VH→Prop},HU h l K→∃hf,(∀k x,look hf k=some x→k∈l∧look h k=some x∧x.sgl=false∧∀j∈x.fams,j<4)∧(∀k∈l,look hf k=look h k)∧K hf
 |[],K,hk=>⟨[],(fun k x hx=>by cases hx),by simp,hk⟩
 |k::l,K,hk=>by
  simp only[HU,aD] at hk
  cases hx:look h k with
  |none=>
   rw[hx] at hk
   obtain⟨hf,h1,h2,hk⟩:=vE hk
   refine⟨hf,fun j y hy=>?_,fun j hj=>?_,hk⟩
   ·obtain⟨q1,q2⟩:=h1 j y hy
    exact⟨List.mem_cons_of_mem _ q1,q2⟩
   ·by_cases hjl:j∈l
    ·exact h2 j hjl
    ·obtain rfl:j=k:=(List.mem_cons.1 hj).resolve_right hjl
     rw[hx]
     cases hf':look hf j with
     |none=>rfl
     |some y=>exact absurd (h1 j y hf').1 hjl
  |some x=>
   rw[hx] at hk
   obtain⟨c,hk⟩:=hk.ok
   simp only[Bool.and_eq_true,Bool.not_eq_true'] at c
   obtain⟨hf,h1,h2,hk⟩:=vE hk
   refine⟨(k,x)::hf,fun j y hy=>?_,fun j hj=>?_,hk⟩
   ·simp only[look] at hy
    split at hy
    ·rename_i e
     cases hy
     subst e
     exact⟨List.mem_cons_self ..,hx,c.1,vX c.2⟩
    ·obtain⟨q1,q2⟩:=h1 j y hy
     exact⟨List.mem_cons_of_mem _ q1,q2⟩
   ·simp only[look]
    by_cases e:j=k
    ·rw[if_pos e,e,hx]
    ·rw[if_neg e]
     exact h2 j ((List.mem_cons.1 hj).resolve_left e)
theorem Ez {h':VH}(H:KeepOK os h h'){x:VB}(hs:x.sgl=false)(hf:∀j∈x.fams,j<4):∀d∈x.blks,RnB (toH h) (gI (gN os n)) (toH h') d d:=by
 intro d hd
 cases x<;>simp[VB.sgl] at hs
 ·rename_i T t xs
  obtain⟨e,_,rfl⟩:=List.mem_map.1 hd
  exact B2 H T (pc H hf e)
 ·rename_i T m t xss
  obtain⟨xs,_,rfl⟩:=List.mem_map.1 hd
  refine B2 H T fun c hc=>?_
  obtain⟨e,_,rfl⟩:=List.mem_map.1 hc
  exact wi H hf e
 ·rename_i E t xss
  obtain⟨xs,_,rfl⟩:=List.mem_map.1 hd
  exact wj H hf E xs
 ·rename_i E t xss
  obtain⟨xs,_,rfl⟩:=List.mem_map.1 hd
  cases xs with
  |none=>exact .gone _
  |some xs=>exact wj H hf E xs
def xU:Nat→Nat→List Nat→Bool
 |0,_,_=>true
 |m+1,i,b::l=>Nat.beq b i && xU m (i+1) l
 |_+1,_,[]=>false
theorem uo:∀{m i:Nat} {l:List Nat},xU m i l=true→∀j,j<m→l[j]?=some (i+j)
 |0,i,l,_,j,hj=>by omega
 |m+1,i,[],hp,j,hj=>by cases hp
 |m+1,i,b::l,hp,j,hj=>by
  simp only[xU,Bool.and_eq_true] at hp
  cases j with
  |zero=>simp[Nat.eq_of_beq_eq_true hp.1]
  |succ j=>
   have:=uo hp.2 j (by omega)
   rw[show i+1+j=i+(j+1) by omega] at this
   simpa using this
def KB (m:Nat)(K:Id→Prop):Prop:=∀b,K b→b.1<4+m
def Bb (m:Nat)(os:List Nat)(h:VH)(n:Nat)(K:VH→Prop):Prop:=Chk (yS os n && xU m 4 os) (HU h [0,1,2,3] fun hf=>IU os h os 4 fun hs=>CP hf hs K)
theorem t5 {m:Nat}{Q:VH→Prop}(hk:Bb m os h n Q):∃h',KeepOK os h h'∧Ren (toH h) (gI (gN os n)) (toH h')∧(∀K,KB m K→∀b,K b→Live (toH h) b→gI (gN os n) b=b∧Live (toH h') b)∧(∀b:Id,4+os.length≤b.1→look (toH h') b=none)∧Q h':=by
 obtain⟨c,hk⟩:=hk.ok
 simp only[Bool.and_eq_true] at c
 obtain⟨c1,c2⟩:=c
 obtain⟨hf,f1,f2,hk⟩:=vE hk
 obtain⟨hs,s1,s2,hk⟩:=AF (n:=n) hk
 have hk:=qM hk
 have hlow:∀k x,look hf k=some x→k<4:=fun k x hx=>by
  have:=(f1 k x hx).1
  simp only[List.mem_cons,List.not_mem_nil,or_false] at this
  omega
 have hf_none:∀m,look hf (4+m)=none:=by
  intro m
  cases hl:look hf (4+m) with
  |none=>rfl
  |some y=>have:=hlow _ _ hl;omega
 have fam:∀k,k<4→look (hf++hs) k=look h k:=by
  intro k hk
  have hm:k∈[0,1,2,3]:=by
   simp only[List.mem_cons,List.not_mem_nil,or_false];omega
  rw[fb,f2 k hm]
  cases hl:look h k with
  |some x=>rfl
  |none=>
   cases hl2:look hs k with
   |none=>rfl
   |some y=>obtain⟨m,e,_⟩:=s1 k y hl2;omega
 have sgl:∀m,look (hf++hs) (4+m)=look hs (4+m):=fun m=>by rw[fb,hf_none]
 have H:KeepOK os h (hf++hs):=by
  refine⟨fun m b hb _=>?_,fun k hk i hl=>?_⟩
  ·obtain⟨x,y,d,d',q1,q2,q3,q4,q5⟩:=s2 m b hb
   exact Live.of_look (am (by rw[sgl];exact q2) (by rw[q4];rfl))
  ·unfold Live at hl⊢
   rw[ak] at hl⊢
   rw[fam k hk]
   exact hl
 have cases':∀b x',look (toH (hf++hs)) b=some x'→(b.1<4∧∃x,look h b.1=some x∧look hf b.1=some x∧x.blks[b.2]?=some x')∨∃m c d,b=(4+m,0)∧os[m]?=some c∧look (toH h) (c,0)=some d∧RnB (toH h) (gI (gN os n)) (toH (hf++hs)) d x':=by
  intro b x' hx
  rw[ak] at hx
  obtain⟨x,q1,q2⟩:=Option.bind_eq_some_iff.1 hx
  by_cases hb:b.1<4
  ·rw[fam _ hb] at q1
   have hm:b.1∈[0,1,2,3]:=by
    simp only[List.mem_cons,List.not_mem_nil,or_false];omega
   exact .inl ⟨hb,x,q1,by rw[f2 _ hm];exact q1,q2⟩
  ·obtain⟨m,hm⟩:∃m,b.1=4+m:=⟨b.1-4,by omega⟩
   rw[hm,sgl] at q1
   obtain⟨m',e,hlt⟩:=s1 _ _ q1
   obtain rfl:m=m':=by omega
   obtain⟨z,y,d,d',r1,r2,r3,r4,r5⟩:=s2 m os[m] (List.getElem?_eq_getElem hlt)
   rw[r2] at q1
   obtain rfl:=Option.some.inj q1
   rw[r4] at q2
   obtain⟨b1,b2⟩:=b
   simp only at hm q2
   cases b2 with
   |succ j=>simp at q2
   |zero=>
    simp only[List.getElem?_cons_zero,Option.some.injEq] at q2
    subst q2 hm
    exact .inr ⟨m,os[m],d,rfl,List.getElem?_eq_getElem hlt,am r1 (by rw[r3];rfl),r5 _ H⟩
 refine⟨hf++hs,H,⟨fun b x' hx=>?_,fun b c x y _ _ _ _ he=>AC c1 he⟩,fun K hK b hb hl=>?_,fun b hb=>?_,hk⟩
 ·rcases cases' b x' hx with⟨g1,x,g2,g3,g4⟩|⟨m,c,d,rfl,g1,g2,g3⟩
  ·refine⟨x',?_,?_⟩
   ·simp only[gI,mo os n g1]
    exact am g2 g4
   ·obtain⟨_,_,q3,q4⟩:=f1 _ _ g3
    exact Ez H q3 q4 x' (List.mem_of_getElem? g4)
  ·refine⟨d,?_,g3⟩
   simp only[gI,eV,db g1]
   exact g2
 ·have hb4:=hK b hb
  by_cases hlt:b.1<4
  ·obtain⟨b1,b2⟩:=b
   exact⟨rE hlt b2,H.fam b1 hlt b2 hl⟩
  ·obtain⟨j,hj⟩:∃j,b.1=4+j:=⟨b.1-4,by omega⟩
   have hos:=uo c2 j (by omega)
   obtain⟨x,y,d,d',q1,q2,q3,q4,q5⟩:=s2 j _ hos
   obtain⟨b1,b2⟩:=b
   simp only at hj
   subst hj
   unfold Live at hl
   rw[ak,q1] at hl
   simp only[Option.bind_some,q3] at hl
   cases b2 with
   |succ i=>simp at hl
   |zero=>
    refine⟨by simp only[gI,eV,db hos],H.sgl j _ hos ?_⟩
    exact Live.of_look (am q1 (by rw[q3];rfl))
 ·cases hx:look (toH (hf++hs)) b with
  |none=>rfl
  |some x'=>
   exfalso
   rcases cases' b x' hx with⟨g1,_⟩|⟨m,c,d,rfl,g1,_⟩
   ·omega
   ·have:=(List.getElem?_eq_some_iff.1 g1).1
    simp only at hb
    omega
def oP (h:VH)(t:VT):List Nat→(VT→Prop)→Prop
 |[],K=>K []
 |k::ts,K=>(match aC t k with
  |some v=>cz h v fun v=>oP h t ts fun r=>K ((k,v)::r)
  |none=>oP h t ts K)
theorem mw {t:VT}:∀{ts:List Nat} {K:VT→Prop},oP h t ts K→∃r,(∀k v',look r k=some v'→∃v,look t k=some v∧fwd (toH h) v.toD=v'.toD)∧K r
 |[],K,hk=>⟨[],(fun k v hv=>by cases hv),hk⟩
 |k::ts,K,hk=>by
  simp only[oP,aD] at hk
  cases hl:look t k with
  |none=>
   rw[hl] at hk
   exact mw hk
  |some v=>
   rw[hl] at hk
   obtain⟨v',h1,h2⟩:=j3 hk
   obtain⟨r,h3,h4⟩:=mw h2
   refine⟨(k,v')::r,fun j w hw=>?_,h4⟩
   simp only[look] at hw
   split at hw
   ·rename_i e
    cases hw
    subst e
    exact⟨v,hl,h1⟩
   ·exact h3 j w hw
def zE (os:List Nat):VT→(VT→Prop)→Prop
 |[],K=>K []
 |(k,v)::l,K=>bh os v fun v=>zE os l fun l=>K ((k,v)::l)
theorem s9:∀{l:VT} {K:VT→Prop},zE os l K→∃r,(∀k v',look r k=some v'→∃v,look l k=some v∧∀h',KeepOK os h h'→Rn (toH h) (gI (gN os n)) (toH h') v.toD v'.toD)∧K r
 |[],K,hk=>⟨[],(fun k v hv=>by cases hv),hk⟩
 |(k,v)::l,K,hk=>by
  obtain⟨v',h1,_,h2⟩:=jh (h:=h) (n:=n) hk
  obtain⟨r,h3,h4⟩:=s9 h2
  refine⟨(k,v')::r,fun j w hw=>?_,h4⟩
  simp only[look] at hw⊢
  split at hw
  ·rename_i e
   cases hw
   exact⟨v,by rw[if_pos e],h1⟩
  ·rename_i e
   rw[if_neg e]
   exact h3 j w hw
def I9 (m:Nat)(ts:List Nat)(σ:VSt)(Q:VSt→Prop):Prop:=
 match σ with
 |⟨t0,h0,n0⟩=>oP h0 t0 ts fun t=>rG h0 (e9 (List.range' 4 m) (Bm h0 (Fe t))) fun os=>Bb m os h0 n0 fun h'=>zE os t fun t'=>eJ (4+os.length) fun n=>Q ⟨t',h',n⟩
theorem F4 {m:Nat}{ts:List Nat}{Q:VSt→Prop}(hK:KB m K)(h:I9 m ts σ Q):∃σ',Weak P N K σ.toD σ'.toD∧Q σ':=by
 obtain⟨t,t1,h1⟩:=mw h
 obtain⟨os,h2⟩:=oH h1
 obtain⟨h',q1,q2,q3,q4,h3⟩:=t5 h2
 obtain⟨t',t2,h4⟩:=s9 (h:=σ.h) (n:=σ.n) h3
 have h5:=aW h4
 refine⟨_,CI (σ':=VSt.toD ⟨t',h',_⟩) q2 (fun k d' hd=>?_) (fun b hb hl=>q3 K hK b hb hl) q4,h5⟩
 simp only[VSt.toD,bU] at hd
 obtain⟨v',hv,rfl⟩:=Option.map_eq_some_iff.1 hd
 obtain⟨v,hv1,hv2⟩:=t2 k v' hv
 obtain⟨v0,hv3,hv4⟩:=t1 k v hv1
 exact⟨v0.toD,by simp only[VSt.toD,bU,hv3,Option.map_some],.fwd _ _ (by have h9:=hv2 h' q1;rw[←hv4] at h9;exact h9)⟩
end Go.Proofs.YthmfppknagbkeaaGreatDoor.Am
namespace Go.Proofs.YthmfppknagbkeaaGreatDoor.Am
open Go Go.RowKit
variable {P:Program} {N:Nat} {K:Id→Prop} {Q:Exit→VSt→Prop} {σ:VSt} {h:VH}
def rowP (h:VH):List Nat→List Nat
 |[]=>[]
 |b::l=>match aC h b with
  |some (.row _ t _)=>(match t.pure with|true=>b::rowP h l|false=>rowP h l)
  |_=>rowP h l
theorem rowP_ok:∀{l:List Nat},∀b∈rowP h l,Iw h b
 |[],b,hb=>by cases hb
 |c::l,b,hb=>by
  simp only[rowP] at hb
  split at hb
  ·rename_i E t xs hc
   rw[aD] at hc
   split at hb
   ·rename_i hp
    rcases List.mem_cons.1 hb with rfl|hb
    ·exact .inl ⟨E,t,xs,hp,hc⟩
    ·exact rowP_ok b hb
   ·exact rowP_ok b hb
  ·exact rowP_ok b hb
def IR (h:VH)(l:List Nat)(K:VH→Prop):Prop:=eA (rowP h l) fun ws=>IE h ws fun u=>lF u h K
theorem AB {l:List Nat}{K:VH→Prop}(hk:IR h l K):∃h1,(∃bs,∀b,look (puts (frz (toH h) bs) (toH h)) b=look (toH h1) b)∧K h1:=by
 have h1:=bw hk
 have h2:=(wK h1).1
 have h3:=fV h2
 exact⟨_,⟨_,(Cw fun b hb=>rowP_ok b hb).1.1⟩,h3⟩
theorem EY {t:VT}{n:Nat}{h1:VH}{bs:List Id}(he:∀b,look (puts (frz (toH h) bs) (toH h)) b=look (toH h1) b):Weak P N K (VSt.toD ⟨t,h,n⟩) (VSt.toD ⟨t,h1,n⟩):=
 Weak.trans (CH bs) fun _ _ _ _ _ _ hs=>hs.congr (fun _=>rfl) (fun b=>(he b).symm) rfl
def I7 (t:VT)(h:VH):List Nat→List Nat
 |[]=>[]
 |k::l=>(match aC t k with
  |some (.ptr b _)=>(match aC h b with|some x=>tL x|none=>[])
  |some v=>ex v
  |none=>[])++I7 t h l
def E3 (m:Nat)(fs ts:List Nat)(σ:VSt)(Q:VSt→Prop):Prop:=
 match σ with|⟨t0,h0,n0⟩=>IR h0 (I7 t0 h0 fs) fun h=>I9 m ts ⟨t0,h,n0⟩ Q
theorem sN {m:Nat}(hK:KB m K){fs ts:List Nat}{K1:VSt→Prop}(h:E3 m fs ts σ K1):∃σ',Weak P N K σ.toD σ'.toD∧K1 σ':=by
 obtain⟨t0,h0,n0⟩:=σ
 obtain⟨h1,⟨bs,he⟩,h2⟩:=AB h
 obtain⟨σ',w1,h4⟩:=F4 (P:=P) (N:=N) hK h2
 exact⟨σ',Weak.trans (EY he) w1,h4⟩
theorem qR {c:Code}{σ':VSt}(hw:Weak P N K σ.toD σ'.toD)(h:At P N K c Q σ'):At P N K c Q σ:=by
 obtain⟨e,σ1,h1,h2⟩:=h
 exact⟨e,σ1,.pre hw h1,h2⟩
theorem qP {c:Code}{t:VT}{n:Nat}(k:Nat)(x:VB)(hx:x.blks=[])(ha:At P N K c Q ⟨t,h++[(k,x)],n⟩):At P N K c Q ⟨t,h,n⟩:=by
 refine qR (σ':=⟨t,h++[(k,x)],n⟩) (fun _ _ _ _ _ _ hs=>hs.congr (fun _=>rfl) (fun b=>?_) rfl) ha
 show look (toH (h++[(k,x)])) b=look (toH h) b
 rw[ak,ak,fb]
 cases hl:look h b.1 with
 |some y=>rfl
 |none=>
  simp only[look]
  split
  ·simp[hx]
  ·rfl
def HH (back:VSt→Prop)(Q:Exit→VSt→Prop):Exit→VSt→Prop
 | .normal,σ=>back σ
 |e,σ=>Q e σ
theorem ab {α:Type}{c:Code}{m:Nat}(hK:KB m K)(fs ts:List Nat)(st:α→VSt)(p:α→Prop)(μ:α→Nat)(x0:α)(h0:p x0)(hg:E3 m fs ts σ fun σ'=>σ'=st x0)
  (round:∀x,p x→At P N K c (HH (fun σ'=>E3 m fs ts σ' fun σ2=>∃y,p y∧μ y<μ x∧σ2=st y) Q) (st x)):At P N K (.loop c) Q σ:=by
 have key:∀n x,μ x=n→p x→∃e σ',LoopB P N K c (st x).toD e σ'.toD∧(eZ P N K σ'.toD→Q e σ'):=by
  intro n
  induction n using Nat.strongRecOn with
  |_ n ih=>
   intro x hn hp
   obtain⟨e,σ1,h1,h2⟩:=round x hp
   cases e with
   |normal=>
    rcases Classical.em (eZ P N K σ1.toD) with hr|hr
    ·obtain⟨σ2,w1,y,q1,q2,rfl⟩:=sN (P:=P) (N:=N) hK (h2 hr)
     obtain⟨e,σ3,h3,h4⟩:=ih (μ y) (by omega) y rfl q1
     exact⟨e,σ3,.round h1 (.pre w1 h3),h4⟩
    ·exact⟨.ret,σ1,.round h1 (.out (by simp) (gx hr _ _)),fun h=>absurd h hr⟩
   |_=>exact⟨_,σ1,.out (by simp) h1,h2⟩
 obtain⟨σ0,w0,rfl⟩:=sN (P:=P) (N:=N) hK hg
 obtain⟨e,σ1,h1,h2⟩:=key _ x0 rfl h0
 exact⟨e,σ1,.pre w0 (.loop h1),h2⟩
def A8:V→Bool
 | .ptr .. | .eptr .. | .iptr .. | .box .. | .aptr .. | .fptr .. | .feptr .. | .faptr ..=>true
 |_=>false
theorem yM {v:V}(h:A8 v=true):dr v.toD=true:=by cases v<;>first|rfl|cases h
def yZ (Θ:TT)(σ:VSt):List ResultVar→(List V→Prop)→Prop
 |[],K=>K []
 | .tmp k::rs,K=>(match aC σ.t k with
  |some v=>yZ Θ σ rs fun vs=>K (v::vs)
  |none=>yZ Θ σ rs fun vs=>K (.undef::vs))
 | .cell k T::rs,K=>aQ σ.t k fun v=>Chk (A8 v) (aQ Θ T fun ti=>uc ti σ.h v fun r=>yZ Θ σ rs fun vs=>K (r::vs))
theorem nX {Θ:TT}(hΘ:Θ.ok P):∀{rs:List ResultVar} {K:List V→Prop},yZ Θ σ rs K→∃vs,rs.mapM (o9 P σ.toD)=some (ah vs)∧K vs
 |[],K,h=>⟨[],rfl,h⟩
 | .tmp k::rs,K,h=>by
  simp only[yZ,aD] at h
  split at h
  ·rename_i v e
   obtain⟨vs,h1,h2⟩:=nX hΘ h
   have hr:o9 P σ.toD (.tmp k)=some v.toD:=by simp only[o9,VSt.toD,bU,e,Option.map_some,Option.getD_some]
   exact⟨v::vs,by simp only[List.mapM_cons,hr,h1,ah];rfl,h2⟩
  ·rename_i e
   obtain⟨vs,h1,h2⟩:=nX hΘ h
   have hr:o9 P σ.toD (.tmp k)=some V.undef.toD:=by simp only[o9,VSt.toD,bU,e,Option.map_none,Option.getD_none];rfl
   exact⟨.undef::vs,by simp only[List.mapM_cons,hr,h1,ah];rfl,h2⟩
 | .cell k T::rs,K,h=>by
  obtain⟨v,l1,h1⟩:=aq h
  obtain⟨c,h2⟩:=h1.ok
  obtain⟨ti,l2,h3⟩:=aq h2
  obtain⟨r,h4,h5⟩:=oS (hΘ _ _ l2) h3
  obtain⟨vs,h6,h7⟩:=nX hΘ h5
  refine⟨r::vs,?_,h7⟩
  have hr:o9 P σ.toD (.cell k T)=some r.toD:=by
   simp only[o9,VSt.toD,bU,l1,Option.map_some,Option.bind_some,yM c,if_true,h4]
  simp only[List.mapM_cons,hr,h6,ah]
  rfl
def GL:List V→V
 |[v]=>v
 |vs=>.tup vs
theorem D2 (vs:List V):one (ah vs)=(GL vs).toD:=by
 match vs with
 |[]=>rfl
 |[v]=>rfl
 |v::v'::vs=>rfl
theorem AA {g g':HL}(he:∀b,look g b=look g' b)(d:D):fwd g d=fwd g' d:=mn fun b _=>he b
theorem Rn.congr {h1 h2 h':HL}{g:Id→Id}(he:∀b,look h1 b=look h2 b){d d':D}(hr:Rn h1 g h' d d'):Rn h2 g h' d d':=by
 have hl:∀b,Live h2 b→Live h1 b:=fun b hb=>by unfold Live at hb⊢;rw[he];exact hb
 induction hr with
 |ref b hb=>exact .ref b fun h=>hb (hl _ h)
 |ptr b o hb=>exact .ptr b o fun h=>hb (hl _ h)
 |eptr b i o hb=>exact .eptr b i o fun h=>hb (hl _ h)
 |vref b o n hb=>exact .vref b o n fun h=>hb (hl _ h)
 |lst b l hb=>exact .lst b l (by rw[←he];exact hb)
 |box b cs hb=>exact .box b cs (by rw[←he];exact hb)
 |fwd d d' hd ih=>exact .fwd d d' (by rw[←AA he];exact ih)
 |pure d hd=>exact .pure d hd
 |nils=>exact .nils
 |iptr e o=>exact .iptr e o
 |gv k=>exact .gv k
 |agg cs cs' hl hc ih=>exact .agg cs cs' hl ih
 |tup cs cs' hl hc ih=>exact .tup cs cs' hl ih
 |clo f cs cs' hl hc ih=>exact .clo f cs cs' hl ih
 |ifc T d d' hd ih=>exact .ifc T d d' ih
 |undef d=>exact .undef d
 |junk=>exact .junk
theorem Ren.congr {h1 h2 h':HL}{g:Id→Id}(he:∀b,look h1 b=look h2 b)(hr:Ren h1 g h'):Ren h2 g h':=by
 refine⟨fun b x' hx=>?_,hr.inj⟩
 obtain⟨x,h3,h4⟩:=hr.blk b x' hx
 refine⟨x,by rw[←he];exact h3,?_⟩
 cases h4 with
 |var T cs cs' hl hc=>exact .var T cs cs' hl fun i hi=>(hc i hi).congr he
 |row E l l' hl hc=>exact .row E l l' hl fun i hi=>⟨(hc i hi).1.congr he,fun s hs=>⟨((hc i hi).2 s hs).1,fun j hj=>(((hc i hi).2 s hs).2 j hj).congr he⟩⟩
 |froz l=>exact .froz l
 |fvar cs=>exact .fvar cs
 |gone x=>exact .gone x
def vt (Θ:TT)(rs:List ResultVar)(m:Nat)(pr:Bool)(σ:VSt)(Q:V→VH→Prop):Prop:=
 match σ with
 |⟨t0,h0,n0⟩=>yZ Θ ⟨t0,h0,n0⟩ rs fun vs=>IR h0 (match pr with|true=>ex (GL vs)|false=>[]) fun h=>cz h (GL vs) fun v=>rG h (e9 (List.range' 4 m) (Bm h (ex v))) fun os=>Bb m os h n0 fun hout=>bh os v fun r=>Q r hout
theorem xm {Θ:TT}(hΘ:Θ.ok P){rs:List ResultVar}{m:Nat}(hK:KB m K){pr:Bool}{Q:V→VH→Prop}(h:vt Θ rs m pr σ Q):∃r hout,mc P rs K σ.toD r.toD (toH hout)∧Q r hout:=by
 obtain⟨t0,h0,n0⟩:=σ
 obtain⟨vs,r1,h1⟩:=nX hΘ h
 obtain⟨hh,⟨bs,he⟩,h2⟩:=AB h1
 obtain⟨v,f1,h3⟩:=j3 h2
 obtain⟨os,h4⟩:=oH h3
 obtain⟨hout,q1,q2,q3,q4,h5⟩:=t5 h4
 obtain⟨r,b1,_,h6⟩:=jh (h:=hh) (n:=n0) h5
 refine⟨r,hout,⟨_,bs,_,r1,?_,q2.congr fun b=>(he b).symm,fun b hb hl=>?_⟩,h6⟩
 ·refine Rn.congr (fun b=>(he b).symm) ?_
  rw[D2]
  refine .fwd _ _ ?_
  rw[f1]
  exact b1 hout q1
 ·refine q3 K hK b hb ?_
  have hl2:=jr (bs:=bs) hl
  unfold Live at hl2⊢
  rw[←he]
  exact hl2
theorem ib {l:List D}{i:Nat}(hi:i<l.length):∀b∈aj (l.getD i .undef),b∈aO l:=by
 refine gd ?_
 rw[List.getD_eq_getElem?_getD,List.getElem?_eq_getElem hi]
 exact List.getElem_mem hi
theorem pW (d:D):∀c∈d.cells,∀b∈aj c,b∈aj d:=by
 intro c hc b hb
 cases d with
 |agg cs=>simp only[aj];exact gd hc b hb
 |_=>simp only[D.cells,List.mem_singleton] at hc;subst hc;exact hb
theorem Rn.sub {h h' h2:HL}{g:Id→Id}{d d':D}(hr:Rn h g h' d d'):(∀b∈aj d',Live h' b→Live h2 b)→Rn h g h2 d d':=by
 induction hr with
 |ref b hb=>intro hs;exact .ref b fun h=>hs b (by simp[aj]) (hb h)
 |ptr b o hb=>intro hs;exact .ptr b o fun h=>hs b (by simp[aj]) (hb h)
 |eptr b i o hb=>intro hs;exact .eptr b i o fun h=>hs b (by simp[aj]) (hb h)
 |vref b o n hb=>intro hs;exact .vref b o n fun h=>hs b (by simp[aj]) (hb h)
 |lst b l hb=>intro _;exact .lst b l hb
 |box b cs hb=>intro _;exact .box b cs hb
 |fwd d d' hd ih=>intro hs;exact .fwd d d' (ih hs)
 |pure d hd=>intro _;exact .pure d hd
 |nils=>intro _;exact .nils
 |iptr e o=>intro _;exact .iptr e o
 |gv k=>intro _;exact .gv k
 |agg cs cs' hl hc ih=>intro hs;exact .agg cs cs' hl fun i hi=>ih i hi fun b hb=>hs b (by simp only[aj];exact ib (by omega) b hb)
 |tup cs cs' hl hc ih=>intro hs;exact .tup cs cs' hl fun i hi=>ih i hi fun b hb=>hs b (by simp only[aj];exact ib (by omega) b hb)
 |clo f cs cs' hl hc ih=>intro hs;exact .clo f cs cs' hl fun i hi=>ih i hi fun b hb=>hs b (by simp only[aj];exact ib (by omega) b hb)
 |ifc T d d' hd ih=>intro hs;exact .ifc T d d' (ih fun b hb=>hs b (by simpa only[aj] using hb))
 |undef d=>intro _;exact .undef d
 |junk=>intro _;exact .junk
def CQ:Blk→List Id
 | .var _ cs=>aO cs
 | .row _ l=>aO l
 |_=>[]
theorem RnB.sub {h h' h2:HL}{g:Id→Id}{x x':Blk}(hr:RnB h g h' x x')(hs:∀b∈CQ x',Live h' b→Live h2 b):RnB h g h2 x x':=by
 cases hr with
 |var T cs cs' hl hc=>exact .var T cs cs' hl fun i hi=>(hc i hi).sub fun b hb=>hs b (ib (by omega) b hb)
 |row E l l' hl hc=>
  refine .row E l l' hl fun i hi=>⟨(hc i hi).1.sub fun b hb=>hs b (ib (by omega) b hb),fun s hw=>⟨((hc i hi).2 s hw).1,fun j hj=>(((hc i hi).2 s hw).2 j hj).sub fun b hb=>hs b (ib (i:=i) (by omega) b ?_)⟩⟩
  have hw2:=((hc i hi).2 s hw).1
  have hj2:j<(l'.getD i .undef).cells.length:=by rw[hw2.1];exact hj
  refine pW _ ((l'.getD i .undef).cells.getD j .undef) ?_ b hb
  rw[List.getD_eq_getElem?_getD (l:=(l'.getD i .undef).cells),List.getElem?_eq_getElem hj2]
  exact List.getElem_mem _
 |froz l=>exact .froz l
 |fvar cs=>exact .fvar cs
 |gone x=>exact .gone x
theorem xf (t:Ty)(x:t.den):∀b∈aj (ag t x),b.1∈t.fams:=by
 have hh:∀(k:Nat) (o:Option Nat),∀b∈aj (l9 k o),b.1=k:=fun k o b hb=>by
  cases o with
  |none=>cases hb
  |some i=>simp only[l9,aj,List.mem_singleton] at hb;rw[hb]
 intro b hb
 cases t
 case hr k=>simp only[ag] at hb;simp[Ty.fams,hh _ _ b hb]
 case hp k=>
  cases x with
  |none=>cases hb
  |some i=>simp only[ag,m6,aj,List.mem_singleton] at hb;rw[hb];simp[Ty.fams]
 case vtxo k=>simp only[ag,aj,aO,List.nil_append,List.append_nil] at hb;simp[Ty.fams,hh _ _ b hb]
 case pplm k=>simp only[ag,ft,ey,List.cons_append,aj,aO,List.nil_append,List.append_nil] at hb;simp[Ty.fams,hh _ _ b hb]
 case pplo k k'=>
  simp only[ag,aj,aO,List.nil_append,List.append_nil,List.mem_append] at hb
  rcases hb with hb|hb<;>simp[Ty.fams,hh _ _ b hb]
 case nod k=>simp only[ag,ft,ey,List.cons_append,aj,aO,List.nil_append,List.append_nil] at hb;simp[Ty.fams,hh _ _ b hb]
 case ob t=>cases x<;>cases hb
 all_goals cases hb
theorem jl (t:Ty)(xs:List t.den):∀b∈aO (xs.map (ag t)),b.1∈t.fams:=by
 intro b hb
 rw[eG,List.mem_flatMap] at hb
 obtain⟨d,hd,hb⟩:=hb
 obtain⟨x,_,rfl⟩:=List.mem_map.1 hd
 exact xf t x b hb
theorem sY {l m:List D}{b:Id}:b∈aO (l++m)↔b∈aO l∨b∈aO m:=by simp[eG]
theorem Ho (y:VB):∀d∈y.blks,∀b∈CQ d,b.1∈tL y++y.fams:=by
 intro d hd b hb
 rw[List.mem_append]
 cases y with
 |var T cs=>simp only[VB.blks,List.mem_singleton] at hd;subst hd;exact .inl (cE cs b hb)
 |vari T pre m t xs post=>
  simp only[VB.blks,List.mem_singleton] at hd
  subst hd
  simp only[CQ,sY] at hb
  rcases hb with(hb|hb)|hb
  ·exact .inl (List.mem_append_left _ (cE _ b hb))
  ·exact .inr (jl t xs b hb)
  ·exact .inl (List.mem_append_right _ (cE _ b hb))
 |row E t xs=>simp only[VB.blks,List.mem_singleton] at hd;subst hd;exact .inr (jl t xs b hb)
 |lit E vs=>simp only[VB.blks,List.mem_singleton] at hd;subst hd;exact .inl (cE vs b hb)
 |fvar T t xs=>
  obtain⟨x,_,rfl⟩:=List.mem_map.1 hd
  simp only[CQ,eG,List.mem_flatMap] at hb
  obtain⟨c,hc,hb⟩:=hb
  exact .inr (xf t x b (pW _ c hc b hb))
 |fvari T m t xss=>obtain⟨xs,_,rfl⟩:=List.mem_map.1 hd;exact .inr (jl t xs b hb)
 |frow E t xss=>obtain⟨xs,_,rfl⟩:=List.mem_map.1 hd;exact .inr (jl t xs b hb)
 |frowx E t xss=>
  obtain⟨xs,_,rfl⟩:=List.mem_map.1 hd
  cases xs with
  |none=>cases hb
  |some xs=>exact .inr (jl t xs b hb)
 |froz t xs=>simp only[VB.blks,List.mem_singleton] at hd;subst hd;cases hb
 |fvb t x=>simp only[VB.blks,List.mem_singleton] at hd;subst hd;cases hb
 |moved k i=>simp only[VB.blks,List.mem_singleton] at hd;subst hd;cases hb
 |gone=>simp only[VB.blks,List.mem_singleton] at hd;subst hd;cases hb
def AN:VH→Bool
 |[]=>false
 |(k,_)::l=>Nat.blt k 4||AN l
def Fj (S:List Nat)(j:Nat):Bool:=Nat.ble 4 j||S.contains j
def DW (S l:List Nat):Bool:=l.all (Fj S)
def xR (h:VH)(S:List Nat):List Nat:=h.flatMap fun p=>match Fj S p.1 with|true=>(tL p.2++p.2.fams).filter fun k=>Nat.blt k 4|false=>[]
def BB (S fs0:List Nat)(r:V)(h:VH):Bool:=DW S fs0 && DW S (ex r) && h.all fun p=>!Fj S p.1||DW S (tL p.2++p.2.fams)
def tD (S:List Nat):VH→(VH→Prop)→Prop
 |[],K=>K []
 |(j,x)::l,K=>match Fj S j with
  |true=>tD S l fun r=>K ((j,x)::r)
  |false=>tD S l K
theorem oD {S:List Nat}:∀{l:VH} {K:VH→Prop},tD S l K→∃l',(∀j,look l' j=if Fj S j=true then look l j else none)∧K l'
 |[],K,h=>⟨[],fun j=>by simp[look],h⟩
 |(k,x)::l,K,h=>by
  simp only[tD] at h
  split at h
  ·rename_i e
   obtain⟨l',h1,h2⟩:=oD (l:=l) h
   refine⟨_,fun j=>?_,h2⟩
   simp only[look,h1]
   by_cases ej:j=k
   ·subst ej;simp[e]
   ·simp[ej]
  ·rename_i e
   obtain⟨l',h1,h2⟩:=oD (l:=l) h
   refine⟨_,fun j=>?_,h2⟩
   simp only[look,h1]
   by_cases ej:j=k
   ·subst ej;simp[e]
   ·simp[ej]
def m3 (fs0:List Nat)(r:V)(h:VH)(K:VH→Prop):Prop:=
 match AN h with
 |false=>K h
 |true=>eA (e9 [] (fs0++(ex r).filter fun k=>Nat.blt k 4)) fun S=>eA (e9 S (xR h S)) fun S=>eA (e9 S (xR h S)) fun S=>eA (e9 S (xR h S)) fun S=>Chk (BB S fs0 r h) (tD S h K)
theorem tr {fs0:List Nat}{r:V}{rs:List ResultVar}{σ:VSt}{K:Id→Prop}(hK:∀b,K b→b.1<4→b.1∈fs0){h:VH}{Q:VH→Prop}(hr:mc P rs K σ.toD r.toD (toH h))(hk:m3 fs0 r h Q):∃h',mc P rs K σ.toD r.toD (toH h')∧Q h':=by
 unfold m3 at hk
 split at hk
 ·exact⟨h,hr,hk⟩
 ·have hk:=bw (bw (bw (bw hk)))
  obtain⟨c,hk⟩:=hk.ok
  generalize e9 _ (xR h _)=S at *
  simp only[BB,DW,Bool.and_eq_true,List.all_eq_true,Bool.or_eq_true,Bool.not_eq_true'] at c
  obtain⟨⟨c1,c2⟩,c3⟩:=c
  obtain⟨h',h1,h2⟩:=oD hk
  refine⟨h',?_,h2⟩
  have hl:∀b:Id,look (toH h') b=if Fj S b.1=true then look (toH h) b else none:=by
   intro b
   rw[ak,ak,h1]
   split<;>rfl
  have hlv:∀b:Id,Fj S b.1=true→Live (toH h) b→Live (toH h') b:=by
   intro b hb hv
   unfold Live at hv⊢
   rw[hl,if_pos hb]
   exact hv
  obtain⟨ds,bs,g,r1,r2,r3,r4⟩:=hr
  refine⟨ds,bs,g,r1,r2.sub fun b hb=>hlv b (c2 _ (ic r b hb)),⟨fun b x' hx=>?_,fun b b2 x y hx hy=>?_⟩,fun b hb hv=>?_⟩
  ·rw[hl] at hx
   split at hx
   ·rename_i e
    obtain⟨x,q1,q2⟩:=r3.blk b x' hx
    refine⟨x,q1,q2.sub fun b2 hb2=>hlv b2 ?_⟩
    rw[ak] at hx
    obtain⟨y,hy1,hy2⟩:=Option.bind_eq_some_iff.1 hx
    rcases c3 _ (bT hy1) with h0|h0
    ·simp only at h0;rw[e] at h0;cases h0
    ·exact h0 _ (Ho y x' (List.mem_of_getElem? hy2) b2 hb2)
   ·cases hx
  ·rw[hl] at hx hy
   split at hx
   ·split at hy
    ·exact r3.inj b b2 x y hx hy
    ·cases hy
   ·cases hx
  ·obtain⟨q1,q2⟩:=r4 b hb hv
   refine⟨q1,hlv b ?_ q2⟩
   rcases Nat.lt_or_ge b.1 4 with hlt|hge
   ·exact c1 _ (hK b hb hlt)
   ·have:Nat.ble 4 b.1=true:=by rw[Nat.ble_eq];exact hge
    simp[Fj,this]
def jm (h:VH):List Nat:=(keysV h).filter fun k=>Nat.blt k 4
def Dh (Q:VSt→Prop):Exit→VSt→Prop
 | .normal,σ=>Q σ
 | .ret,σ=>Q σ
 |_,_=>False
def ae:List V→Nat→VT
 |[],_=>[]
 |v::l,k=>(k,v)::ae l (k+1)
theorem ol:∀(l:List V) (k:Nat),((ah l).zipIdx k).map (fun x=>(x.2,x.1))=eq (ae l k)
 |[],k=>rfl
 |v::l,k=>by simp[ah,List.zipIdx_cons,ae,ol l (k+1),eq]
theorem p7 {hin:VH}{n0:Nat}(hl:vY n0 hin=true):∀b:Id,n0≤b.1→look (toH hin) b=none:=by
 intro b hb
 rw[ak]
 cases hx:look hin b.1 with
 |none=>rfl
 |some x=>
  have:=rU hl b.1 (List.mem_map.2 ⟨_,bT hx,rfl⟩)
  omega
theorem dM {Θ : TT} (hΘ : Θ.ok P) {f : FuncId} {fn : Func} {c : Code} (hf : P.funcs[f]? = some fn) (hb : fn.body = some c) (hname : (fn.name == "runtime.NumGoroutine") = false) (pr : Bool) {vs : List V} {hin : VH} (m n0 : Nat) (hn0 : 4 + m = n0) (hlt : vY n0 hin = true) (hnd : gD (keysV hin) = true) (hl : Nat.ble vs.length fn.ntmps = true)
  {R:V→VH→Prop} {r0:V} {hout0:VH} (h0:R r0 hout0)
  (h:∀K,KB m K→(∀d∈ah vs,bnd 6 d)→(∀x∈hin,∀d∈x.2.blks,bndB 6 d)→At P fn.ntmps K c (Dh fun σ=>vt Θ fn.results.toList m pr σ fun r hout=>m3 (jm hin) r hout (R r)) ⟨ae vs 0,hin,n0⟩):∃r hout,R r hout∧af P f vs hin r hout:=by
 have hlen:(ah vs).length≤fn.ntmps:=by rw[aw];exact Nat.le_of_ble_eq_true hl
 have e1:pU (ah vs)=eq (ae vs 0):=ol vs 0
 have hfr:=p7 hlt
 have hK:KB m (Live (toH hin)):=by
  intro b hb
  rcases Nat.lt_or_ge b.1 (4+m) with hlt|hge
  ·exact hlt
  ·unfold Live at hb
   rw[hfr b (by omega)] at hb
   cases hb
 have hbnd:(∀b x,look (toH hin) b=some x→bndB 6 x)→∀x∈hin,∀d∈x.2.blks,bndB 6 d:=by
  rintro hq ⟨k,x⟩ hx d hd
  obtain⟨i,hi⟩:=List.getElem?_of_mem hd
  exact hq (k,i) d (am (fe (by rw[dz];exact fA hnd) hx) hi)
 rcases Classical.em ((∀d∈ah vs,bnd 6 d)∧∀b x,look (toH hin) b=some x→bndB 6 x) with hbb|hbb
 ·obtain⟨e,σ',h1,h2⟩:=h _ hK hbb.1 (hbnd hbb.2)
  rcases Classical.em (eZ P fn.ntmps (Live (toH hin)) σ'.toD) with hr|hr
  ·have h3:=h2 hr
   have hfin:(e= .normal∨e= .ret)∧vt Θ fn.results.toList m pr σ' fun r hout=>m3 (jm hin) r hout (R r):=by
    cases e with
    |normal=>exact⟨.inl rfl,h3⟩
    |ret=>exact⟨.inr rfl,h3⟩
    |_=>exact h3.elim
   obtain⟨r,hout1,q1,q2⟩:=xm hΘ hK hfin.2
   obtain⟨hout,q1,q2⟩:=tr (fun b hb hlt=>by
    unfold Live at hb
    rw[ak] at hb
    obtain⟨d,hd⟩:=Option.isSome_iff_exists.1 hb
    obtain⟨y,hy,-⟩:=Option.bind_eq_some_iff.1 hd
    simp only[jm,List.mem_filter]
    exact⟨by rw[←dz];exact List.mem_map.2 ⟨_,bT hy,rfl⟩,by simpa[Nat.blt_eq] using hlt⟩) q1 q2
   refine⟨r,hout,q2,vk hf hb hname rfl rfl hlen hfr fun _ _=>⟨e,σ'.toD,?_,fun _=>⟨hfin.1,q1⟩⟩⟩
   rw[e1]
   exact h1
  ·refine⟨r0,hout0,h0,vk hf hb hname rfl rfl hlen hfr fun _ _=>⟨e,σ'.toD,?_,fun h=>absurd h hr⟩⟩
   rw[e1]
   exact h1
 ·exact⟨r0,hout0,h0,vk hf hb hname rfl rfl hlen hfr fun b1 b2=>absurd ⟨b1,b2⟩ hbb⟩
theorem aa {Θ : TT} (hΘ : Θ.ok P) {f : FuncId} {fn : Func} {c : Code} (hf : P.funcs[f]? = some fn) (hb : fn.body = some c) (hname : (fn.name == "runtime.NumGoroutine") = false) (pr : Bool) {vs : List V} {hin : VH} (m n0 : Nat) (hn0 : 4 + m = n0) (hlt : vY n0 hin = true) (hnd : gD (keysV hin) = true) (hl : Nat.ble vs.length fn.ntmps = true) {r : V} {hout : VH}
  (h:∀K,KB m K→(∀d∈ah vs,bnd 6 d)→(∀x∈hin,∀d∈x.2.blks,bndB 6 d)→At P fn.ntmps K c (Dh fun σ=>vt Θ fn.results.toList m pr σ fun r' hout'=>m3 (jm hin) r' hout' fun hout'=>r'=r∧hout'=hout) ⟨ae vs 0,hin,n0⟩):af P f vs hin r hout:=by
 obtain⟨r',hout',⟨rfl,rfl⟩,h2⟩:=dM hΘ hf hb hname pr m n0 hn0 hlt hnd hl (R:=fun r' hout'=>r'=r∧hout'=hout) ⟨rfl,rfl⟩ h
 exact h2
end Go.Proofs.YthmfppknagbkeaaGreatDoor.Am
namespace Go.Proofs.YthmfppknagbkeaaGreatDoor.Am
open Go Go.RowKit Go.ChangeShapes Go.WideShapes Go.ChangeAt
section
variable {H:Type} {enc:TypeId×Value→H} {P:Program}
theorem iO {f:Func}{s:ChangeSpec}{apart fresh handsOn again:Bool}{W W':World}{args:Array Value}{v:Value}{ds gs:List (DataW H)}{before pa pv:List MemPlace}
  (hW:DataW.Whole enc P f.params.toList s.vars apart W args.toList ds gs before)
  (hres:∀(b:Nat) (sp:Nat→Bool) (hd:Bool),DataW.TrodAll enc P W' b sp hd f.resultTypes.toList (v.resultList f.resultTypes.size) (s.fn H (ds++gs)).results [])
  (hargs:∀sp:Nat→Bool,(∀p∈before,sp p.block=true)→DataW.TrodAll enc P W' 0 sp true f.params.toList args.toList (s.fn H (ds++gs)).args pa)
  (hvars:∀sp:Nat→Bool,(∀p∈before,sp p.block=true)→DataW.TrodVars enc P W' sp s.vars (s.fn H (ds++gs)).vars pv)
  (hps:before=pa++pv) (hb:Below W.heap.size W W')
  (hok:∀(j:Nat) (t:TypeId) (r:Value),f.resultTypes[j]?=some t→(v.resultList f.resultTypes.size)[j]?=some r→Value.okWide P W' .any 0 t r):
  s.post enc P f apart fresh handsOn again W args v W':=by
 have hlt:∀p∈before,p.block<W.heap.size:=fun p hp=>hW.lt p hp
 have hold:∀p∈before,(fun b=>decide (b<W.heap.size)) p.block=true:=fun p hp=>by simpa using hlt p hp
 refine⟨ds,gs,before,[],pa,pv,hW,hres _ _ _,hargs _ hold,hvars _ hold,World.keptBut_mono (fun p hp=>⟨hp,?_⟩) (hb.frame (· ∈before)),fun _=>?_⟩
 ·rw[hps,List.mem_append] at hp
  exact Or.inr hp
 ·obtain⟨_,_,_,_,_,hz,hn⟩:=hW
  refine⟨hok,_,_,([]++pa)++pv,⟨[]++pa,pv,trodAll_append (hargs _ (fun _ _=>rfl)) (hres _ _ _),hvars _ (fun _ _=>rfl),rfl,?_,?_⟩,?_⟩
  ·intro b off hp
   have hin:MemPlace.cell b off∈before:=by rw[hps];simpa using hp
   rw[hb.frozen (hlt _ hin)]
   exact hz b off hin
  ·intro ha
   have:=hn ha
   rw[hps] at this
   simpa using this
  ·intro p hp _
   rw[hps]
   simpa using hp
end
theorem j6 {P:Program}{f:FuncId}{vs:List V}(h:af P f vs [] (.bool true) []){w:World}{args:Array Value}(hl:(ah vs).length=args.size)
  (hr:∀i,i<(ah vs).length→Rep (fun k=>k<w.heap.size) w ((ah vs).getD i .undef) (args.getD i undef))
  (hg:∀g x,look Gl g=some x→g<w.heap.size∧∃ad,w.cell? ⟨g,0,none⟩=some (.iface x.1 (.pointer (some ad))):=by intro g x h;cases h):
  Calls P f args w fun e w'=>e= .returned (.bool true)∧Below w.heap.size w w':=by
 have hno:∀k,¬sQ (fun _=>⟨0,0,0,0⟩) (toH []) k:=by
  rintro k ⟨b,x,hb,-⟩
  cases hb
 have hs:Sim P w (sQ (fun _=>⟨0,0,0,0⟩) (toH [])) (fun _=>True) 0 (fun _=>⟨0,0,0,0⟩) [] (toH []) fI w:=by
  refine⟨fun _ _=>trivial,fun _ _=>trivial,Fr.refl _ _,rfl,rfl,?_,?_,?_,?_,?_⟩
  ·intro k d hk;cases hk
  ·intro b x hx;cases hx
  ·intro b x hx;cases hx
  ·intro b b' x x' hx;cases hx
  ·intro g x hx
   exact⟨⟨trivial,hno g,(hg g x hx).1⟩,(hg g x hx).2⟩
 refine(h.2 w (fun _=>True) (fun _=>⟨0,0,0,0⟩) args hs hl fun i hi=>.pure ((hr i hi).mono fun b hb=>⟨⟨⟨hb,trivial⟩,fun b x hx=>by cases hx⟩,rfl⟩)).mono fun e w' he=>?_
 obtain⟨u,ρ',rfl,-,hs',hc⟩:=he
 refine⟨by rw[hc.bool_inv],⟨hs'.fr.os,hs'.fr.tape,hs'.fr.output,hs'.fr.size,fun k hk=>hs'.fr.block k hk (hno k)⟩⟩
theorem cO {w:World}{a:Addr}{v:Value}(h:w.cell? a=some v):a.block<w.heap.size:=by
 rcases Nat.lt_or_ge a.block w.heap.size with hl|hl
 ·exact hl
 ·have:w.heap[a.block]?=none:=by simp[hl]
  simp[World.cell?,this] at h
theorem Ex {w:World}{l:List D}{a:Addr}{n cap:Nat}{g:Nat→Value}(hn:l.length=n)(hcap:n≤cap)(hmax:cap≤maxLen)(hl:∀e∈l,e.cells=[e]∧e.pure0=true)
  (hc:∀i,i<n→w.cell? (a.add i)=some (g i)) (hr:∀i,i<n→Rep (fun k=>k<w.heap.size) w (l.getD i .undef) (g i)):Rep (fun k=>k<w.heap.size) w (.lst l) (.slice (some a) n cap):=by
 cases l with
 |nil=>
  simp only[List.length_nil] at hn
  subst hn
  exact .none _ _ (fun h=>by cases h) hmax
 |cons x l=>
  have hp:0<n:=by rw[←hn];simp
  have hsz:szl (x::l)=1:=by show x.cells.length=1;rw[(hl x (List.mem_cons_self ..)).1];rfl
  obtain⟨b,off,spot⟩:=a
  have hspot:spot=none:=by simpa[Addr.add] using World.cell?_spot (hc 0 hp)
  subst hspot
  have h0:=cO (hc 0 hp)
  refine .lst _ n b off cap (fun i _=>g i) hn hcap hmax h0 ?_ (by rw[hsz];omega) ?_ ?_
  ·intro e he
   rw[hsz]
   exact⟨by rw[(hl e he).1];rfl,by rw[(hl e he).1];simp[(hl e he).2]⟩
  ·intro i j hi hj
   rw[hsz] at hj⊢
   obtain rfl:j=0:=by omega
   have:=hc i hi
   rw[Go.WideShapes.add_plain] at this
   rw[Nat.mul_one,Nat.add_zero]
   exact this
  ·intro i j hi hj
   rw[hsz] at hj
   obtain rfl:j=0:=by omega
   have hi':i<(x::l).length:=by omega
   have e:(x::l).getD i .undef=(x::l)[i]:=by simp[List.getD_eq_getElem?_getD,List.getElem?_eq_getElem hi']
   have h1:=(hl _ (List.getElem_mem hi')).1
   have h2:=hr i hi
   rw[e] at h2⊢
   rw[h1]
   exact h2
theorem jS {H:Type}{enc:TypeId×Value→H}{P:Program}{W:World}{sp:Nat→Bool}{hd:Bool}{t e:TypeId}{v:Value}{d:DataW H}{p:List MemPlace}{base:Nat}(ht:P.underlying t=some (.slice e))(he:P.underlying e=some (.int .u8))(hc:P.cellsOf e=1)
  (hv:Value.okWide P W .any base t v) (h:DataW.Trod enc P W 0 sp hd t v d p):∃c:List Int,(∀x∈c,0≤x∧x≤255)∧Rep (fun k=>k<W.heap.size) W (V.lst (.int .u8) c).toD v:=by
 obtain⟨a0,len0,cap0,rfl⟩:=okWide_slice ht hv
 obtain⟨fuel,h⟩:=h
 rcases open_ints ht he hc h with⟨h1,-⟩|⟨a,len,cap,zs,h1,h2,h3,h4,h5,-,h6,h7⟩
 ·have h1:[Value.slice a0 len0 cap0]=[.slice none 0 0]:=h1
  cases h1
  exact⟨[],by simp,.none _ _ (fun _=>rfl) (Nat.zero_le _)⟩
 ·have h1:[Value.slice a0 len0 cap0]=[.slice (some a) len cap]:=h1
  cases h1
  have hle:len0≤zs.length:=by rw[h5];split<;>omega
  have hlen:(zs.take len0).length=len0:=by rw[List.length_take];omega
  refine⟨zs.take len0,fun x hx=>bounds_u8 (h7 x (List.mem_of_mem_take hx)),?_⟩
  show Rep _ _ (.lst ((zs.take len0).map (ag (.int .u8)))) _
  refine Ex (g:=fun i=>.int .u8 (zs.getD i 0)) (by rw[List.length_map,hlen]) h3 h4 ?_ (fun i hi=>h6 i (by omega)) ?_
  ·intro e he
   obtain⟨z,_,rfl⟩:=List.mem_map.1 he
   exact⟨rfl,rfl⟩
  ·intro i hi
   have e1:((zs.take len0).map (ag (.int .u8))).getD i .undef= .int .u8 (zs.getD i 0):=by
    have hi2:i<zs.length:=by omega
    simp[List.getD_eq_getElem?_getD,List.getElem?_map,List.getElem?_take,hi,List.getElem?_eq_getElem hi2,ag]
   rw[e1]
   exact .int _ _
def E5 (W:World)(T:Ty)(x:T.den)(cs:List Value):Prop:=cs.length=T.sz∧∀j,j<T.sz→Rep (fun k=>k<W.heap.size) W ((ag T x).cells.getD j .undef) (cs.getD j undef)
theorem xG {α:Type}{p:Nat→α→Prop}:∀n,(∀i,i<n→∃d,p i d)→∃l:List α,l.length=n∧∀i (h:i<l.length),p i l[i]
 |0,_=>⟨[],rfl,fun i h=>absurd h (Nat.not_lt_zero i)⟩
 |n+1,h=>by
  obtain⟨l,hl,hp⟩:=xG n fun i hi=>h i (by omega)
  obtain⟨d,hd⟩:=h n (by omega)
  refine⟨l++[d],by simp[hl],fun i hi=>?_⟩
  rcases Nat.lt_or_ge i l.length with hlt|hge
  ·rw[List.getElem_append_left hlt]
   exact hp i hlt
  ·obtain rfl:i=l.length:=by simp at hi;omega
   rw[List.getElem_append_right (Nat.le_refl _)]
   simpa[hl] using hd
theorem row_cells {H:Type}{enc:TypeId×Value→H}{P:Program}{W:World}{sp:Nat→Bool}{hd:Bool}{t e:TypeId}{T:Ty}{cs:List Value}{fuel:Nat}{x:DataW H×List MemPlace}(hp:T.pure=true)(ht:P.underlying t=some (.slice e))(hc:P.cellsOf e=T.sz)
  (hel:∀fuel cs x,DataW.trod enc P W 0 sp hd fuel e cs=some x→∃d,E5 W T d cs) (h:DataW.trod enc P W 0 sp hd fuel t cs=some x):∃(l:List T.den) (v:Value),cs=[v]∧Rep (fun b=>b<W.heap.size) W (V.lst T l).toD v:=by
 rcases DataW.trod_slice ht h with⟨h1,-⟩|⟨a,len,cap,elems,rest,n,-,h1,-,-,hl,hm,hlen,hel2,-,-⟩
 ·exact⟨[],_,h1,.none _ _ (fun _=>rfl) (Nat.zero_le _)⟩
 ·have each:∀i,i<len→∃d:T.den,∃cs',W.cells? 0 (a.add (i*T.sz)) T.sz=some cs'∧E5 W T d cs':=by
   intro i hi
   have h2:=hel2 i hi
   rw[List.getElem?_eq_getElem (by omega),hc,Option.bind_eq_some_iff] at h2
   obtain⟨cs',h3,h4⟩:=h2
   obtain⟨d,hd⟩:=hel _ _ _ h4
   exact⟨d,cs',h3,hd⟩
  obtain⟨l,hll,hlp⟩:=xG len each
  refine⟨l,_,h1,?_⟩
  show Rep _ W (.lst (l.map (ag T))) _
  by_cases hz:l=[]
  ·subst hz
   subst hll
   exact .none _ _ (fun h=>by cases h) hm
  ·have hpos:0<l.length:=List.length_pos_iff.2 hz
   have hsz:szl (l.map (ag T))=T.sz:=by
    cases l with
    |nil=>exact absurd rfl hz
    |cons y l=>exact(d8 T y).1
   have cell:∀i j,i<l.length→j<T.sz→∃v,W.cell? ((a.add (i*T.sz)).add j)=some v∧Rep (fun k=>k<W.heap.size) W ((ag T (l[i]?.getD (l[0]'hpos))).cells.getD j .undef) v:=by
    intro i j hi hj
    obtain⟨cs',h3,h4,h5⟩:=hlp i hi
    have h6:=(World.cells?_some h3).2.2 j hj
    have hj':j<cs'.length:=by omega
    refine⟨cs'[j],by rw[h6,List.getElem?_eq_getElem hj'],?_⟩
    have:=h5 j hj
    rw[List.getElem?_eq_getElem hi]
    simp only[List.getD_eq_getElem?_getD (l:=cs'),List.getElem?_eq_getElem hj',Option.getD_some] at this
    exact this
   obtain⟨b,off,spot⟩:=a
   obtain⟨v0,hv0,-⟩:=cell 0 0 hpos T.sz_pos
   have hspot:spot=none:=by simpa[Addr.add] using World.cell?_spot hv0
   subst hspot
   have hb:=cO hv0
   refine .lst _ len b off cap (fun i j=>(W.cell? ⟨b,off+i*T.sz+j,none⟩).getD undef) (by simpa using hll) hl hm (by simpa[Addr.add] using hb) ?_ (by rw[hsz];exact T.sz_pos) ?_ ?_
   ·intro e he
    obtain⟨y,-,rfl⟩:=List.mem_map.1 he
    rw[hsz]
    exact gU hp y
   ·intro i j hi hj
    rw[hsz] at hj⊢
    obtain⟨v,hv,-⟩:=cell i j (by omega) hj
    rw[Go.WideShapes.add_plain,Go.WideShapes.add_plain] at hv
    rw[hv]
    rfl
   ·intro i j hi hj
    rw[hsz] at hj
    obtain⟨v,hv,hr⟩:=cell i j (by omega) hj
    rw[Go.WideShapes.add_plain,Go.WideShapes.add_plain] at hv
    rw[hv]
    have e:(l.map (ag T)).getD i .undef=ag T (l[i]?.getD (l[0]'hpos)):=by
     have:i<l.length:=by omega
     simp[List.getD_eq_getElem?_getD,List.getElem?_eq_getElem this]
    rw[e]
    exact hr
end Go.Proofs.YthmfppknagbkeaaGreatDoor.Am
namespace Go.Proofs.YthmfppknagbkeaaGreatDoor.Am
open Go Go.RowKit
theorem eK {φ K:Prop}(h:φ)(k:K):bk φ K:=⟨h,k⟩
theorem GH {b:Bool}{K:Prop}(h:b=true)(k:K):Mk b K:=⟨h,k⟩
theorem FC {k:IntKind}{z:Int}{K:Int→Prop}(h:H6 k z)(g:K z):Ari k z K:=.inl ⟨h,g⟩
theorem FB {z:Int}{K:Int→Prop}(h:-9223372036854775808≤z∧z≤9223372036854775807)(g:K z):Ari .i64 z K:=.inl ⟨h,g⟩
theorem Fg {α:Type}{xs:List α}{i:Int}{K:Nat→α→Prop}(h0:0≤i)(hl:i.toNat<xs.length)(h:∀x,xs[i.toNat]?=some x→K i.toNat x):ky xs i K:=
 ⟨h0,xs[i.toNat],List.getElem?_eq_getElem hl,h _ (List.getElem?_eq_getElem hl)⟩
theorem H3 {α:Type}{xs:List α}{i:Int}{K:Nat→α→Prop}{x:α}(h0:0≤i)(hx:xs[i.toNat]?=some x)(h:K i.toNat x):ky xs i K:=⟨h0,x,hx,h⟩
theorem AI {α:Type}{xs:List α}{i:Nat}{K:α→Prop}(hl:i<xs.length)(h:∀x,xs[i]?=some x→K x):eD xs i K:=
 ⟨xs[i],List.getElem?_eq_getElem hl,h _ (List.getElem?_eq_getElem hl)⟩
theorem HV {α:Type}{xs:List α}{i:Nat}{K:α→Prop}{x:α}(hx:xs[i]?=some x)(h:K x):eD xs i K:=⟨x,hx,h⟩
theorem Fh {α:Type}{xs:List α}{i:Nat}{K:Nat→α→Prop}(hl:i<xs.length)(h:∀x,xs[i]?=some x→K i x):ky xs (i:Int) K:=
 ⟨Int.natCast_nonneg i,xs[i],List.getElem?_eq_getElem hl,h _ (List.getElem?_eq_getElem hl)⟩
theorem Gn {α:Type}{xs:List α}{i:Nat}{K:Nat→α→Prop}{x:α}(hx:xs[i]?=some x)(h:K i x):ky xs (i:Int) K:=⟨Int.natCast_nonneg i,x,hx,h⟩
theorem Fd {α:Type}{xs:List α}{i:Nat}{K:α→Prop}(hl:i<xs.length)(h:∀x,xs[i]?=some x→K x):eD xs (i:Int).toNat K:=AI hl h
theorem F6 {α:Type}{xs:List α}{i:Nat}{K:α→Prop}{x:α}(hx:xs[i]?=some x)(h:K x):eD xs (i:Int).toNat K:=⟨x,hx,h⟩
theorem vj {b:Bool}{A B:Prop}(hb:b=true)(h:A):iB b A B:=⟨fun _=>h,fun h=>by rw[hb] at h;cases h⟩
theorem vh {b:Bool}{A B:Prop}(hb:b=false)(h:B):iB b A B:=⟨(fun h=>by rw[hb] at h;cases h),fun _=>h⟩
theorem zL {b:Bool}{A B:Prop}(hb:b=false)(h:A):iB (!b) A B:=vj (by rw[hb];rfl) h
theorem zK {b:Bool}{A B:Prop}(hb:b=true)(h:B):iB (!b) A B:=vh (by rw[hb];rfl) h
theorem FG {p:Prop}[Decidable p]{A B:Prop}(hp:p)(h:A):iB (decide p) A B:=vj (decide_eq_true hp) h
theorem FF {p:Prop}[Decidable p]{A B:Prop}(hp:¬p)(h:B):iB (decide p) A B:=vh (decide_eq_false hp) h
theorem I5 {p:Prop}[Decidable p]{A B:Prop}(h:p→A)(k:¬p→B):iB (decide p) A B:=⟨fun h'=>h (of_decide_eq_true h'),fun h'=>k (of_decide_eq_false h')⟩
theorem HN {A B:Prop}(h:A):iB true A B:=⟨fun _=>h,fun h=>by cases h⟩
theorem HK {A B:Prop}(h:B):iB false A B:=⟨(by intro h;cases h),fun _=>h⟩
theorem HM {b:Bool}{A B:Prop}(h:b=true→A)(k:b=false→B):iB b A B:=⟨h,k⟩
theorem bF {P:Program}{f:FuncId}{vs:List V}{hin:VH}{K:V→VH→Prop}{r:V}{hout:VH}(h:af P f vs hin r hout)(k:K r hout):b8 P f vs hin K:=⟨r,hout,h,k⟩
theorem bP {P:Program}{f:FuncId}{vs:List V}{hin:VH}{K:V→VH→Prop}{α:Type}{R:α→Prop}{r:α→V}{hout:α→VH}(h:∃a,R a∧af P f vs hin (r a) (hout a))(k:∀a,R a→K (r a) (hout a)):b8 P f vs hin K:=by
 obtain⟨a,h1,h2⟩:=h
 exact⟨r a,hout a,h2,k a h1⟩
theorem Hn {x:VB}{A B:Prop}(h:A):er x x A B:=.inl ⟨rfl,h⟩
theorem Hm {y x:VB}{A B:Prop}(h:B):er y x A B:=.inr h
theorem Fk {α:Type}{A:Prop}{B:α→Prop}(h:A):fY none A B:=⟨(fun _=>h),(fun x hx=>nomatch hx)⟩
theorem Fl {α:Type}{x:α}{A:Prop}{B:α→Prop}(h:B x):fY (some x) A B:=⟨(fun hx=>nomatch hx),(fun y hy=>Option.some.inj hy▸h)⟩
theorem GN {α:Type}{o:Option α}{x:α}{A:Prop}{B:α→Prop}(he:o=some x)(h:B x):fY o A B:=by subst he;exact Fl h
theorem GM {α:Type}{o:Option α}{A:Prop}{B:α→Prop}(he:o=none)(h:A):fY o A B:=by subst he;exact Fk h
theorem go {P Q:Prop}(h:Q)(s:Q→P:=by with_reducible first
  |exact GH (by kernel_rfl)|exact HN|exact HK|exact vj (by assumption)|exact vh (by assumption)|exact zL rfl|exact zK rfl|exact zL (by assumption)|exact zK (by assumption)
  |exact FG (by first|assumption|omega|exact trivial|exact rfl)|exact FF (by first|assumption|omega)|exact Ie (by assumption)
  |exact eK (by first|omega|assumption|decide|((try unfold jn);(try simp only[List.length_set,List.length_append,List.length_cons,List.length_nil,List.length_map,List.length_replicate]);omega))
  |exact FB (by omega)|exact Gn (by assumption)|exact H3 (by omega) (by assumption)|exact F6 (by assumption)|exact HV (by assumption)
  |exact Hn|exact Hm|exact Fk|exact Fl|exact GN (by assumption)|exact GM (by assumption)|exact FC (by simp only[H6];omega)):P:=s h
theorem Jg {α:Type}{P:Prop}{C Q:α→Prop}(h:∀x,C x→Q x)(s:(∀x,C x→Q x)→P:=by with_reducible first
  |exact Fh (by omega)|exact Fg (by omega) (by omega)|exact Fd (by omega)|exact AI (by first|omega|(simp only[List.length_cons,List.length_nil,List.length_set,List.length_append];omega))):P:=s h
theorem H0 (n:Int)(h:-9223372036854775808≤n∧n≤9223372036854775807):IntKind.i64.wrap n=n:=by rw[IntKind.wrap_i64];omega
theorem Ht {x y:Int}(hx:0≤x∧x<4611686018427387904)(hy:0≤y∧y<4611686018427387904):0≤IntKind.i64.wrap ((BitVec.ofInt IntKind.i64.bits x^^^BitVec.ofInt IntKind.i64.bits y).toNat:Nat):=by
 have hb:IntKind.i64.bits=64:=rfl
 rw[hb]
 have h1:(BitVec.ofInt 64 x).toNat<2^62:=by rw[BitVec.toNat_ofInt];omega
 have h2:(BitVec.ofInt 64 y).toNat<2^62:=by rw[BitVec.toNat_ofInt];omega
 have h3:(BitVec.ofInt 64 x^^^BitVec.ofInt 64 y).toNat<2^62:=by rw[BitVec.toNat_xor];exact Nat.xor_lt_two_pow h1 h2
 rw[H0 _ (by omega)]
 omega
variable {P:Program} {N:Nat} {K:Id→Prop}
def qL:List V→Nat→Bool
 |[],0=>true
 | .nilp::l,m+1=>qL l m
 |_,_=>false
theorem oc {t:Ty}{d:t.den}(hd:ag t d= .nilp):∀{l:List V} {m:Nat},qL l m=true→ah l=(List.replicate m d).map (ag t)
 |[],0,_=>rfl
 | .nilp::l,m+1,h=>by
  simp only[ah,List.replicate_succ,List.map_cons]
  rw[oc hd (l:=l) (m:=m) h,hd]
  rfl
 |[],m+1,h=>by cases h
 |v::l,0,h=>by cases v<;>cases h
 | .int .. ::_,_+1,h| .bool _::_,_+1,h| .tt::_,_+1,h| .ff::_,_+1,h| .str _::_,_+1,h| .lst .. ::_,_+1,h| .box .. ::_,_+1,h| .agg _::_,_+1,h| .tup _::_,_+1,h
 | .nils::_,_+1,h| .nilf::_,_+1,h| .nili::_,_+1,h| .ifc .. ::_,_+1,h| .clo .. ::_,_+1,h| .ref _::_,_+1,h| .ptr .. ::_,_+1,h| .eptr .. ::_,_+1,h| .iptr .. ::_,_+1,h
 | .vref .. ::_,_+1,h| .aptr .. ::_,_+1,h| .fref .. ::_,_+1,h| .fptr .. ::_,_+1,h| .feptr .. ::_,_+1,h| .faptr .. ::_,_+1,h| .hro .. ::_,_+1,h| .hpo .. ::_,_+1,h| .obo .. ::_,_+1,h
 | .undef::_,_+1,h| .gp _::_,_+1,h| .gv _::_,_+1,h| .junk::_,_+1,h=>by cases h
def Ip:(t:Ty)→Option t.den
 | .hp _=>some none
 | .ob _=>some none
 |_=>none
theorem ER:∀{t:Ty} {d:t.den},Ip t=some d→ag t d= .nilp
 | .hp _,_,h=>by cases h;rfl
 | .ob _,_,h=>by cases h;rfl
def I1 (h:VH)(b p m:Nat)(t:Ty)(K:VH→Prop):Prop:=
 dj h b fun x=>(match x with
  | .var T cs=>px cs p fun pre=>Mk (qL (cs.drop p) m) (match Ip t with
   |some d=>yX b (.vari T pre m t (List.replicate m d) []) h K
   |none=>False)
  |_=>False)
theorem zA {c:Code}{Q:Exit→VSt→Prop}{t:VT}{h:VH}{n:Nat}(b p m:Nat)(ty:Ty)(hk:I1 h b p m ty fun h'=>At P N K c Q ⟨t,h',n⟩):At P N K c Q ⟨t,h,n⟩:=by
 obtain⟨x,h1,hk⟩:=aG hk
 split at hk
 ·rename_i T cs
  obtain⟨hl,c1,hk⟩:=lQ hk
  split at hk
  ·rename_i dn hd
   have hd:=ER hd
   have ha:=nU hk
   refine qR (σ':=⟨t,put b _ h,n⟩) (fun _ _ _ _ _ _ hs=>hs.congr (fun _=>rfl) (fun d=>?_) rfl) ha
   show look (toH (put b _ h)) d=look (toH h) d
   rw[ak,ak,ai]
   split
   ·rename_i e
    rw[e,h1]
    have:VB.blks (.vari T (cs.take p) m ty (List.replicate m dn) [])=VB.blks (.var T cs):=by
     simp only[VB.blks,ah,List.append_nil]
     rw[←oc hd c1]
     congr 2
     rw[bI,bI,bI,←List.map_append,List.take_append_drop]
    simp only[Option.bind_some,this]
   ·rfl
  ·exact hk.elim
 ·exact hk.elim
end Go.Proofs.YthmfppknagbkeaaGreatDoor.Am
namespace Go.Proofs.YthmfppknagbkeaaGreatDoor.Am
open Go
def cX (n:Nat)(p:Nat→Bool):Bool:=(List.range n).all p
theorem aM {n:Nat}{p:Nat→Bool}:cX n p=true↔∀j,j<n→p j=true:=by simp[cX]
theorem bO {n:Nat}{p:Nat→Bool}(h:∀j,j<n→p j=true):cX n p=true:=aM.2 h
theorem cy {n j:Nat}{p:Nat→Bool}(hj:j<n)(h:p j=false):cX n p=false:=by
 rw[Bool.eq_false_iff]
 intro ha
 rw[aM.1 ha j hj] at h
 cases h
theorem bt {i:Nat}{p:Nat→Bool}(h:∀j,j<i→p j=true)(hi:p i=true):∀j,j<i+1→p j=true:=by
 intro j hj
 rcases Nat.lt_or_ge j i with hl|hg
 ·exact h j hl
 ·obtain rfl:j=i:=by omega
  exact hi
theorem aU {α:Type}{l:List α}{i:Nat}{x d:α}(h:l[i]?=some x):l.getD i d=x:=by rw[List.getD_eq_getElem?_getD,h];rfl
theorem du {α:Type}{l:List α}{i:Nat}{d:α}(h:i<l.length):l.getD i d∈l:=by rw[List.getD_eq_getElem?_getD,List.getElem?_eq_getElem h];exact List.getElem_mem h
theorem cC {α:Type}{l:List α}{x d:α}(h:x∈l):∃i,i<l.length∧l.getD i d=x:=by
 obtain⟨i,hi,rfl⟩:=List.getElem_of_mem h
 exact⟨i,hi,by rw[List.getD_eq_getElem?_getD,List.getElem?_eq_getElem hi];rfl⟩
def gM (n lo hi:Int):Bool:=decide (lo≤n) && decide (n≤hi)
theorem ar {n lo hi:Int}:gM n lo hi=true↔lo≤n∧n≤hi:=by simp[gM]
def comV (c:List Int):Bool:=cX c.length (fun i=>gM (c.getD i 0) 1 9) && gM c.length 1 7
theorem ao {c:List Int}:comV c=true↔(∀x∈c,1≤x∧x≤9)∧1≤c.length∧c.length≤7:=by
 simp only[comV,Bool.and_eq_true,aM,ar]
 constructor
 ·rintro⟨h1,h2⟩
  refine⟨fun x hx=>?_,by omega,by omega⟩
  obtain⟨i,hi,rfl⟩:=cC (d:=0) hx
  exact h1 i hi
 ·rintro⟨h1,h2,h3⟩
  exact⟨fun j hj=>h1 _ (du hj),by omega,by omega⟩
def jf (c:List Int):Int:=c.sum
theorem nY {M:Int}(hM:0≤M):∀{l:List Int},(∀x∈l,0≤x∧x≤M)→0≤l.sum∧l.sum≤M*l.length
 |[],_=>by simp
 |x::l,h=>by
  have h1:=h x (List.mem_cons_self ..)
  have h2:=nY hM fun y hy=>h y (List.mem_cons_of_mem _ hy)
  rw[List.sum_cons,List.length_cons]
  have:M*((l.length+1:Nat):Int)=M*l.length+M:=by rw[Int.natCast_add,Int.mul_add];simp
  omega
theorem pq:∀{l:List Int},(∀x∈l,1≤x)→(l.length:Int)≤l.sum
 |[],_=>by simp
 |x::l,h=>by
  have h1:=h x (List.mem_cons_self ..)
  have h2:=pq fun y hy=>h y (List.mem_cons_of_mem _ hy)
  rw[List.sum_cons,List.length_cons]
  omega
theorem en {c:List Int}(h:comV c=true):1≤jf c∧jf c≤63:=by
 obtain⟨h1,h2,h3⟩:=ao.1 h
 have h4:=nY (M:=9) (by omega) fun x hx=>⟨by have:=h1 x hx;omega,(h1 x hx).2⟩
 have h5:=pq fun x hx=>(h1 x hx).1
 unfold jf
 omega
def quo (c:List Int):Int:=(2*jf c).tdiv 3+1
theorem sj {c:List Int}(h:comV c=true):1≤quo c∧quo c≤43:=by
 have h1:=en h
 unfold quo
 rw[Int.tdiv_eq_ediv_of_nonneg (by omega)]
 omega
def bY (c:List Int)(m:Int):Bool:=gM m 0 (c.length-1)
def fR (c ms:List Int)(i:Nat):Bool:=bY c (ms.getD i 0) && (i==0||decide (ms.getD (i-1) 0<ms.getD i 0))
def cd (c ms:List Int):Bool:=cX ms.length (fR c ms)
def cR (c ms:List Int):Int:=(ms.map fun m=>c.getD m.toNat 0).sum
theorem bf {c ms:List Int}(h:cd c ms=true):∀m∈ms,0≤m∧m<c.length:=by
 intro m hm
 obtain⟨i,hi,rfl⟩:=cC (d:=0) hm
 have:=aM.1 h i hi
 simp only[fR,Bool.and_eq_true,bY,ar] at this
 omega
theorem mM {α:Type}{R:α→α→Prop}(ht:∀a b c,R a b→R b c→R a c):∀{l:List α},(∀i x y,l[i]?=some x→l[i+1]?=some y→R x y)→l.Pairwise R
 |[],_=>List.Pairwise.nil
 |[x],_=>by simp
 |x::y::l,h=>by
  have h0:R x y:=h 0 x y rfl rfl
  have ih:(y::l).Pairwise R:=mM ht fun i a b ha hb=>h (i+1) a b (by simpa using ha) (by simpa using hb)
  refine List.Pairwise.cons (fun a ha=>?_) ih
  rcases List.mem_cons.1 ha with rfl|ha
  ·exact h0
  ·exact ht _ _ _ h0 ((List.pairwise_cons.1 ih).1 a ha)
theorem bG {c ms:List Int}(h:cd c ms=true):ms.Pairwise (· < ·):=by
 refine mM (fun _ _ _ h1 h2=>by omega) fun i x y hx hy=>?_
 have hl:=(List.getElem?_eq_some_iff.1 hy).1
 have:=aM.1 h (i+1) hl
 simp only[fR,Bool.and_eq_true,Bool.or_eq_true,Nat.add_sub_cancel,aU hx,aU hy,decide_eq_true_eq] at this
 rcases this.2 with h|h
 ·simp at h
 ·exact h
theorem rV {c ms:List Int}(h1:∀m∈ms,0≤m∧m<c.length)(h2:ms.Pairwise (· < ·)):cd c ms=true:=by
 refine bO fun j hj=>?_
 simp only[fR,bY,Bool.and_eq_true,ar,Bool.or_eq_true,beq_iff_eq,decide_eq_true_eq]
 have:=h1 _ (du (d:=0) hj)
 refine⟨by omega,?_⟩
 cases j with
 |zero=>exact .inl rfl
 |succ j=>
  right
  rw[List.pairwise_iff_getElem] at h2
  have:=h2 j (j+1) (by omega) hj (by omega)
  simpa[List.getD_eq_getElem?_getD,List.getElem?_eq_getElem hj,List.getElem?_eq_getElem (show j<ms.length by omega)] using this
theorem qN:∀{a b:List Int},a.Pairwise (· < ·)→b.Pairwise (· < ·)→(∀x,x∈a↔x∈b)→a=b
 |[],[],_,_,_=>rfl
 |[],y::b,_,_,h=>by have:=(h y).2 (List.mem_cons_self ..);cases this
 |x::a,[],_,_,h=>by have:=(h x).1 (List.mem_cons_self ..);cases this
 |x::a,y::b,ha,hb,h=>by
  rw[List.pairwise_cons] at ha hb
  have hxy:x=y:=by
   have h1:=(h x).1 (List.mem_cons_self ..)
   have h2:=(h y).2 (List.mem_cons_self ..)
   rcases List.mem_cons.1 h1 with h1|h1
   ·exact h1
   ·rcases List.mem_cons.1 h2 with h2|h2
    ·exact h2.symm
    ·have:=ha.1 y h2;have:=hb.1 x h1;omega
  subst hxy
  rw[qN ha.2 hb.2 fun z=>?_]
  have hz:=h z
  constructor
  ·intro hz1
   have hlt:=ha.1 z hz1
   rcases List.mem_cons.1 (hz.1 (List.mem_cons_of_mem _ hz1)) with e|e
   ·omega
   ·exact e
  ·intro hz1
   have hlt:=hb.1 z hz1
   rcases List.mem_cons.1 (hz.2 (List.mem_cons_of_mem _ hz1)) with e|e
   ·omega
   ·exact e
theorem kP:∀{a b c:List Int},(∀x∈c,0≤x)→a.Pairwise (· < ·)→b.Pairwise (· < ·)→(∀x∈a,x∈b)→cR c a≤cR c b
 |a,[],c,hc,ha,hb,h=>by
  cases a with
  |nil=>simp
  |cons x a=>exact absurd (h x (List.mem_cons_self ..)) (by simp)
 |a,y::b,c,hc,ha,hb,h=>by
  rw[List.pairwise_cons] at hb
  have hy:0≤c.getD y.toNat 0:=by
   rcases Nat.lt_or_ge y.toNat c.length with hl|hg
   ·exact hc _ (du hl)
   ·simp[List.getD_eq_getElem?_getD,List.getElem?_eq_none hg]
  have hcons:∀l,cR c (y::l)=c.getD y.toNat 0+cR c l:=fun l=>by simp[cR]
  rw[hcons]
  cases a with
  |nil=>
   have:=kP (a:=[]) hc List.Pairwise.nil hb.2 (by simp)
   have e:cR c []=0:=rfl
   omega
  |cons x a=>
   have ha':=List.pairwise_cons.1 ha
   rcases List.mem_cons.1 (h x (List.mem_cons_self ..)) with rfl|hx
   ·have hcx:cR c (x::a)=c.getD x.toNat 0+cR c a:=hcons a
    have:=kP hc ha'.2 hb.2 fun z hz=>by
     have hlt:=ha'.1 z hz
     rcases List.mem_cons.1 (h z (List.mem_cons_of_mem _ hz)) with e|e
     ·omega
     ·exact e
    omega
   ·have:=kP (a:=x::a) hc ha hb.2 fun z hz=>by
     rcases List.mem_cons.1 (h z hz) with e|e
     ·subst e
      have h1:=hb.1 x hx
      rcases List.mem_cons.1 hz with e|e
      ·omega
      ·have:=ha'.1 _ e;omega
     ·exact e
    omega
theorem wJ {c ms:List Int}(h:comV c=true):0≤cR c ms∧cR c ms≤9*ms.length:=by
 have hc:=(ao.1 h).1
 have:=nY (M:=9) (by omega) (l:=ms.map fun m=>c.getD m.toNat 0) fun x hx=>by
  obtain⟨m,-,rfl⟩:=List.mem_map.1 hx
  rcases Nat.lt_or_ge m.toNat c.length with hl|hg
  ·have:=hc _ (du (d:=0) hl);omega
  ·simp[List.getD_eq_getElem?_getD,List.getElem?_eq_none hg]
 rwa [List.length_map] at this
theorem uS (c ms:List Int)(m:Int):cR c (ms++[m])=cR c ms+c.getD m.toNat 0:=by simp[cR]
instance:Inhabited Vtx:=⟨⟨0,0,[],0⟩⟩
def v0:Vtx:=⟨0,0,[],0⟩
def vtxS (c:List Int)(v:Vtx):Bool:=gM v.round 0 30 && (bY c v.author && (cd c v.parents && (gM v.digest 0 990 && (if v.round=0 then v.parents.length==0 else decide (quo c≤cR c v.parents)))))
def dO (r a:Int)(v:Vtx):Bool:=v.round==r && v.author==a
def cA (g:List Vtx)(r a:Int):Bool:=g.any (dO r a)
def parOK (g:List Vtx)(v:Vtx):Bool:=v.parents.all fun p=>cA g (v.round-1) p
def bef (a b:Vtx):Bool:=decide (a.round<b.round)||decide (a.round=b.round) && decide (a.author<b.author)
theorem mf {a b c:Vtx}(h1:bef a b=true)(h2:bef b c=true):bef a c=true:=by
 simp only[bef,Bool.or_eq_true,Bool.and_eq_true,decide_eq_true_eq] at *
 omega
def gg (c:List Int)(g:List Vtx)(i:Nat):Bool:=vtxS c (g.getD i v0) && ((i==0||bef (g.getD (i-1) v0) (g.getD i v0)) && parOK g (g.getD i v0))
def graS (c:List Int)(g:List Vtx):Bool:=comV c && cX g.length (gg c g)
def eH (c:List Int)(g:List Vtx)(i:Nat):Bool:=vtxS c (g.getD i v0) && ((i==0||bef (g.getD (i-1) v0) (g.getD i v0)) && parOK (g.take i) (g.getD i v0))
theorem ed {r a:Int}{v:Vtx}:dO r a v=true↔v.round=r∧v.author=a:=by simp[dO]
theorem aY {g:List Vtx}{r a:Int}:cA g r a=true↔∃v∈g,v.round=r∧v.author=a:=by simp[cA,ed]
theorem bN {g:List Vtx}{v:Vtx}:parOK g v=true↔∀p∈v.parents,cA g (v.round-1) p=true:=by simp[parOK]
theorem zx {g:List Vtx}(h:∀i,i<g.length→(i==0||bef (g.getD (i-1) v0) (g.getD i v0))=true):g.Pairwise fun a b=>bef a b=true:=by
 refine mM (R:=fun a b=>bef a b=true) (fun _ _ _ h1 h2=>mf h1 h2) fun i x y hx hy=>?_
 have:=h (i+1) (List.getElem?_eq_some_iff.1 hy).1
 rw[Nat.add_sub_cancel,aU hx,aU hy] at this
 simpa using this
theorem fq {α:Type}{R:α→α→Prop}{l:List α}(h:l.Pairwise R){i j:Nat}{x y:α}(hij:i<j)(hx:l[i]?=some x)(hy:l[j]?=some y):R x y:=by
 obtain⟨hi,rfl⟩:=List.getElem?_eq_some_iff.1 hx
 obtain⟨hj,rfl⟩:=List.getElem?_eq_some_iff.1 hy
 exact List.pairwise_iff_getElem.1 h i j hi hj hij
theorem BN {g:List Vtx}(hp:g.Pairwise fun a b=>bef a b=true){i:Nat}{v:Vtx}(hv:g[i]?=some v):parOK (g.take i) v=parOK g v:=by
 rw[Bool.eq_iff_iff,bN,bN]
 constructor
 ·intro h p hp1
  obtain⟨u,hu,h1⟩:=aY.1 (h p hp1)
  exact aY.2 ⟨u,List.mem_of_mem_take hu,h1⟩
 ·intro h p hp1
  obtain⟨u,hu,h1,h2⟩:=aY.1 (h p hp1)
  refine aY.2 ⟨u,?_,h1,h2⟩
  obtain⟨j,hj⟩:=List.getElem?_of_mem hu
  have hji:j<i:=by
   rcases Nat.lt_trichotomy j i with h|rfl|h
   ·exact h
   ·rw[hj] at hv;obtain rfl:=Option.some.inj hv;omega
   ·have:=fq hp h hv hj
    simp only[bef,Bool.or_eq_true,Bool.and_eq_true,decide_eq_true_eq] at this
    omega
  exact List.mem_of_getElem? (i:=j) (by rw[List.getElem?_take,if_pos hji];exact hj)
theorem xr {c:List Int}{g:List Vtx}:cX g.length (eH c g)=cX g.length (gg c g):=by
 have key:(∀i,i<g.length→(i==0||bef (g.getD (i-1) v0) (g.getD i v0))=true)→∀i,i<g.length→parOK (g.take i) (g.getD i v0)=parOK g (g.getD i v0):=fun h i hi=>
  BN (zx h) (by rw[List.getD_eq_getElem?_getD,List.getElem?_eq_getElem hi];rfl)
 rw[Bool.eq_iff_iff,aM,aM]
 constructor
 ·intro h i hi
  have h1:=h i hi
  simp only[eH,Bool.and_eq_true] at h1
  simp only[gg,Bool.and_eq_true]
  refine⟨h1.1,h1.2.1,?_⟩
  rw[←key (fun j hj=>?_) i hi]
  ·exact h1.2.2
  ·have:=h j hj
   simp only[eH,Bool.and_eq_true] at this
   exact this.2.1
 ·intro h i hi
  have h1:=h i hi
  simp only[gg,Bool.and_eq_true] at h1
  simp only[eH,Bool.and_eq_true]
  refine⟨h1.1,h1.2.1,?_⟩
  rw[key (fun j hj=>?_) i hi]
  ·exact h1.2.2
  ·have:=h j hj
   simp only[gg,Bool.and_eq_true] at this
   exact this.2.1
structure GraOK (c:List Int)(g:List Vtx):Prop where
 com:comV c=true
 vtx:∀v∈g,vtxS c v=true
 pw:g.Pairwise fun a b=>bef a b=true
 par:∀v∈g,parOK g v=true
theorem cP {c:List Int}{g:List Vtx}(h:graS c g=true):GraOK c g:=by
 simp only[graS,Bool.and_eq_true,aM] at h
 obtain⟨h1,h2⟩:=h
 have h3:∀i,i<g.length→vtxS c (g.getD i v0)=true∧(i==0||bef (g.getD (i-1) v0) (g.getD i v0))=true∧parOK g (g.getD i v0)=true:=fun i hi=>by
  have:=h2 i hi
  simpa only[gg,Bool.and_eq_true] using this
 refine⟨h1,fun v hv=>?_,zx fun i hi=>(h3 i hi).2.1,fun v hv=>?_⟩<;>(obtain⟨i,hi,rfl⟩:=cC (d:=v0) hv)
 ·exact(h3 i hi).1
 ·exact(h3 i hi).2.2
theorem bc {c:List Int}{v:Vtx}(h:vtxS c v=true):(0≤v.round∧v.round≤30)∧(0≤v.author∧v.author<c.length)∧cd c v.parents=true∧(0≤v.digest∧v.digest≤990)∧(v.round=0→v.parents=[])∧(v.round≠0→quo c≤cR c v.parents):=by
 simp only[vtxS,bY,Bool.and_eq_true,ar] at h
 obtain⟨h1,h2,h3,h4,h5⟩:=h
 refine⟨h1,by omega,h3,h4,fun h0=>?_,fun h0=>?_⟩
 ·rw[if_pos h0] at h5;simpa using h5
 ·rw[if_neg h0] at h5;simpa using h5
def dJ (g:List Vtx)(r:Int):List Int:=(g.filter fun v=>v.round==r).map (·.author)
theorem om {g:List Vtx}{r a:Int}:a∈dJ g r↔cA g r a=true:=by
 rw[aY]
 simp only[dJ,List.mem_map,List.mem_filter,beq_iff_eq]
 constructor
 ·rintro⟨v,⟨h1,h2⟩,h3⟩;exact⟨v,h1,h2,h3⟩
 ·rintro⟨v,h1,h2,h3⟩;exact⟨v,⟨h1,h2⟩,h3⟩
theorem s8 {g:List Vtx}(h:g.Pairwise fun a b=>bef a b=true)(r:Int):(dJ g r).Pairwise (· < ·):=by
 unfold dJ
 rw[List.pairwise_map]
 have h1:(g.filter fun v=>v.round==r).Pairwise fun a b=>bef a b=true:=h.sublist (List.filter_sublist ..)
 refine h1.imp_of_mem fun {a b} ha hb hab=>?_
 have ha:=(List.mem_filter.1 ha).2
 have hb:=(List.mem_filter.1 hb).2
 simp only[bef,Bool.or_eq_true,Bool.and_eq_true,decide_eq_true_eq,beq_iff_eq] at *
 omega
theorem me {c:List Int}{g:List Vtx}(h:GraOK c g)(r:Int):cd c (dJ g r)=true:=by
 refine rV (fun m hm=>?_) (s8 h.pw r)
 obtain⟨v,h1,-,rfl⟩:=aY.1 (om.1 hm)
 exact(bc (h.vtx v h1)).2.1
def s5 (c:List Int)(g:List Vtx)(r:Int):List Int:=((List.range c.length).filter fun a:Nat=>cA g r (a:Int)).map fun a:Nat=>(a:Int)
theorem s6 {c:List Int}{g:List Vtx}(h:GraOK c g)(r:Int):s5 c g r=dJ g r:=by
 refine qN ?_ (s8 h.pw r) fun x=>?_
 ·unfold s5
  rw[List.pairwise_map]
  refine(List.Pairwise.sublist (List.filter_sublist ..) List.pairwise_lt_range).imp fun {a b} hab=>by omega
 ·rw[om]
  simp only[s5,List.mem_map,List.mem_filter,List.mem_range]
  constructor
  ·rintro⟨a,⟨h1,h2⟩,rfl⟩;exact h2
  ·intro hx
   obtain⟨v,h1,-,h3⟩:=aY.1 hx
   have:=(bc (h.vtx v h1)).2.1
   refine⟨x.toNat,⟨by omega,?_⟩,by omega⟩
   rw[show ((x.toNat:Nat):Int)=x by omega]
   exact hx
def ig (c:List Int)(g:List Vtx):Nat→Int
 |0=>-1
 |r+1=>if quo c≤cR c (dJ g r) then r else ig c g r
def fv (c:List Int)(g:List Vtx):Int:=ig c g 31
theorem lm (c:List Int)(g:List Vtx):∀n,-1≤ig c g n∧ig c g n<n
 |0=>by simp[ig]
 |n+1=>by
  have:=lm c g n
  unfold ig
  split<;>omega
structure GS where
 nodes:List Nod
 rows:List (List (Option Nat))
 plc:List (Option Nat)
def GS.at (s:GS)(r a:Int):Option Nat:=s.plc.getD (r*7+a).toNat none
def gz:GS:=⟨[],[],List.replicate 217 none⟩
def bu (s:GS)(v:Vtx):GS:=
 ⟨s.nodes++[⟨v,s.nodes.length,if v.parents=[] then none else some s.rows.length⟩],if v.parents=[] then s.rows else s.rows++[v.parents.map fun p=>s.at (v.round-1) p],s.plc.set (v.round*7+v.author).toNat (some s.nodes.length)⟩
def bM (g:List Vtx):GS:=g.foldl bu gz
theorem jp (g:List Vtx)(v:Vtx):bM (g++[v])=bu (bM g) v:=by simp[bM]
theorem ci {α:Type}{p:List α→Prop}(h0:p [])(h:∀l x,p l→p (l++[x])):∀l,p l:=by
 intro l
 have:∀n (l:List α),l.length=n→p l:=by
  intro n
  induction n with
  |zero=>intro l hl;rw[List.length_eq_zero_iff.1 hl];exact h0
  |succ n ih=>
   intro l hl
   have hne:l≠[]:=by intro h;rw[h] at hl;simp at hl
   rw[←List.dropLast_concat_getLast hne]
   exact h _ _ (ih _ (by simp[hl]))
 exact this _ l rfl
theorem dD (g:List Vtx):(bM g).nodes.length=g.length∧(bM g).plc.length=217:=by
 induction g using ci with
 |h0=>exact⟨rfl,List.length_replicate⟩
 |h l x ih=>rw[jp];simp[bu,ih.1,ih.2]
def fK (v:Vtx):Prop:=(0≤v.round∧v.round≤30)∧0≤v.author∧v.author≤6
theorem bW {c:List Int}{v:Vtx}(hc:comV c=true)(h:vtxS c v=true):fK v:=by
 obtain⟨h1,h2,-⟩:=bc h
 have:=(ao.1 hc).2.2
 exact⟨h1,by omega,by omega⟩
theorem rI {g:List Vtx}(hg:∀v∈g,fK v){r a:Int}(hr:0≤r∧r≤30)(ha:0≤a∧a≤6):((bM g).at r a).isSome=cA g r a∧∀i,(bM g).at r a=some i→∃v,g[i]?=some v∧v.round=r∧v.author=a:=by
 induction g using ci with
 |h0=>
  have:(bM []).at r a=none:=by
   simp only[bM,List.foldl_nil,gz,GS.at,List.getD_eq_getElem?_getD]
   rw[List.getElem?_replicate]
   split<;>rfl
  rw[this]
  exact⟨rfl,fun i hi=>by cases hi⟩
 |h l v ih=>
  have ih:=ih fun u hu=>hg u (List.mem_append_left _ hu)
  have hv:=hg v (by simp)
  have hl:=dD l
  have hk:(v.round*7+v.author).toNat<(bM l).plc.length:=by
   obtain⟨h1,h2⟩:=hv
   rw[hl.2]
   omega
  have hany:cA (l++[v]) r a=(cA l r a||dO r a v):=by simp[cA]
  rw[jp,hany]
  by_cases he:v.round=r∧v.author=a
  ·have h1:(bu (bM l) v).at r a=some l.length:=by
    obtain⟨rfl,rfl⟩:=he
    simp only[bu,GS.at,List.getD_eq_getElem?_getD]
    rw[List.getElem?_set_self hk,hl.1]
    rfl
   rw[h1,ed.2 he,Bool.or_true]
   refine⟨rfl,fun i hi=>?_⟩
   obtain rfl:=Option.some.inj hi
   exact⟨v,by simp,he⟩
  ·have hne:dO r a v=false:=by rw[Bool.eq_false_iff];exact fun h=>he (ed.1 h)
   have h1:(bu (bM l) v).at r a=(bM l).at r a:=by
    simp only[bu,GS.at,List.getD_eq_getElem?_getD]
    rw[List.getElem?_set_ne]
    obtain⟨h1,h2⟩:=hv
    omega
   rw[h1,hne,Bool.or_false]
   refine⟨ih.1,fun i hi=>?_⟩
   obtain⟨u,h2,h3⟩:=ih.2 i hi
   exact⟨u,by rw[List.getElem?_append_left (List.getElem?_eq_some_iff.1 h2).1];exact h2,h3⟩
def mm (g:List Vtx)(r a:Int):Int:=match g.findIdx? (dO r a) with|some i=>i|none=>-1
theorem rz {g:List Vtx}{r a:Int}:(g.findIdx? (dO r a)).isSome=cA g r a:=by simp[cA,List.findIdx?_isSome]
theorem tN {c:List Int}{g:List Vtx}(h:GraOK c g){r a:Int}(hr:0≤r∧r≤30)(ha:0≤a∧a≤6):(bM g).at r a=g.findIdx? (dO r a):=by
 obtain⟨h1,h2⟩:=rI (fun v hv=>bW h.com (h.vtx v hv)) hr ha
 cases e:(bM g).at r a with
 |none=>
  rw[e] at h1
  have h3:=rz (g:=g) (r:=r) (a:=a)
  rw[←h1] at h3
  cases e2:g.findIdx? (dO r a) with
  |none=>rfl
  |some j=>rw[e2] at h3;cases h3
 |some i=>
  rw[e,←rz] at h1
  obtain⟨v,hv1,hv2⟩:=h2 i e
  cases e2:g.findIdx? (dO r a) with
  |none=>rw[e2] at h1;cases h1
  |some j=>
   rw[List.findIdx?_eq_some_iff_getElem] at e2
   obtain⟨hj,e3,-⟩:=e2
   have e3:=ed.1 e3
   congr 1
   rcases Nat.lt_trichotomy i j with hl|rfl|hg
   ·have:=fq h.pw hl hv1 (List.getElem?_eq_getElem hj)
    simp only[bef,Bool.or_eq_true,Bool.and_eq_true,decide_eq_true_eq] at this
    omega
   ·rfl
   ·have:=fq h.pw hg (List.getElem?_eq_getElem hj) hv1
    simp only[bef,Bool.or_eq_true,Bool.and_eq_true,decide_eq_true_eq] at this
    omega
def leaS (c l:List Int):Bool:=cX l.length (fun i=>bY c (l.getD i 0)) && decide ((l.length:Int)≤15)
theorem be {c l:List Int}:leaS c l=true↔(∀x∈l,0≤x∧x<c.length)∧l.length≤15:=by
 simp only[leaS,Bool.and_eq_true,aM,bY,ar,decide_eq_true_eq]
 constructor
 ·rintro⟨h1,h2⟩
  refine⟨fun x hx=>?_,by omega⟩
  obtain⟨i,hi,rfl⟩:=cC (d:=0) hx
  have:=h1 i hi
  omega
 ·rintro⟨h1,h2⟩
  exact⟨fun i hi=>by have:=h1 _ (du (d:=0) hi);omega,by omega⟩
def pD (c:List Int):Int:=(jf c-1).tdiv 3
theorem kF {c:List Int}(h:comV c=true):0≤pD c∧pD c≤20∧3*pD c<jf c:=by
 have h1:=en h
 unfold pD
 rw[Int.tdiv_eq_ediv_of_nonneg (by omega)]
 omega
def badS (c:List Int)(b:Int):Bool:=gM b (-1) (c.length-1) && (decide (b<0)||decide (c.getD b.toNat 0≤pD c))
theorem dy {c:List Int}{b:Int}:badS c b=true↔b= -1∨((0≤b∧b<c.length)∧c.getD b.toNat 0≤pD c):=by
 simp only[badS,Bool.and_eq_true,ar,Bool.or_eq_true,decide_eq_true_eq]
 omega
def fo (c l:List Int)(b:Int):Bool:=comV c && (leaS c l && badS c b)
def w0:Wrl:=⟨[],[],0,[],[]⟩
def rY (c l:List Int)(b:Int):Wrl:=⟨c,l,b,List.replicate c.length [],[]⟩
def gL (a b:Vtx):Bool:=a.round==b.round && (a.author==b.author && (a.digest==b.digest && a.parents==b.parents))
theorem lT {a b:Vtx}:gL a b=true↔a=b:=by
 obtain⟨r,x,ps,d⟩:=a
 obtain⟨r2,x2,ps2,d2⟩:=b
 simp only[gL,Bool.and_eq_true,beq_iff_eq,Vtx.mk.injEq]
 constructor
 ·rintro⟨h1,h2,h3,h4⟩;exact⟨h1,h2,h4,h3⟩
 ·rintro⟨h1,h2,h3,h4⟩;exact⟨h1,h2,h4,h3⟩
theorem Cx (a:Vtx):gL a a=true:=lT.2 rfl
def slt (a b:Vtx):Bool:=a.round==b.round && a.author==b.author
theorem lM {a b:Vtx}:slt a b=true↔a.round=b.round∧a.author=b.author:=by simp[slt]
theorem uD (a b:Vtx):slt a b=slt b a:=by
 rw[Bool.eq_iff_iff,lM,lM]
 constructor<;>rintro⟨h1,h2⟩<;>exact⟨h1.symm,h2.symm⟩
def jb (bad:Int)(a b:List Int):Bool:=a.any fun m=>m !=bad && b.contains m
theorem jj {bad:Int}{a b:List Int}:jb bad a b=true↔∃m,m≠bad∧m∈a∧m∈b:=by
 simp only[jb,List.any_eq_true,Bool.and_eq_true,bne_iff_ne,List.contains_iff_mem]
 constructor
 ·rintro⟨m,h1,h2,h3⟩;exact⟨m,h2,h1,h3⟩
 ·rintro⟨m,h1,h2,h3⟩;exact⟨m,h2,h1,h3⟩
theorem yw (bad:Int)(a b:List Int):jb bad a b=jb bad b a:=by
 rw[Bool.eq_iff_iff,jj,jj]
 constructor<;>rintro⟨m,h1,h2,h3⟩<;>exact⟨m,h1,h3,h2⟩
def fitP (bad:Int)(p q:Ppl):Bool:=!slt p.v q.v||(!gL p.v q.v && (p.v.author==bad && !jb bad p.members q.members))
theorem ml (bad:Int)(p q:Ppl):fitP bad p q=fitP bad q p:=by
 unfold fitP
 rw[uD,yw]
 cases h:slt q.v p.v
 ·rfl
 ·have h1:=lM.1 h
  have h2:gL p.v q.v=gL q.v p.v:=by
   rw[Bool.eq_iff_iff,lT,lT]
   exact⟨Eq.symm,Eq.symm⟩
  rw[h2,h1.2]
def p0:Ppl:=⟨v0,[]⟩
def oneP (c:List Int)(p:Ppl):Bool:=vtxS c p.v && cd c p.members
def eB (c:List Int)(bad:Int)(ps:List Ppl)(i:Nat):Bool:=oneP c (ps.getD i p0) && cX i (fun k=>fitP bad (ps.getD i p0) (ps.getD k p0))
def eO (c:List Int)(bad:Int)(ps:List Ppl):Bool:=cX ps.length (eB c bad ps) && decide ((ps.length:Int)≤220)
def don (c:List Int)(p:Ppl):Bool:=decide (quo c≤cR c p.members)
def knw (c:List Int)(ps:List Ppl)(v:Vtx):Bool:=ps.any fun p=>don c p && gL p.v v
def lV (c:List Int)(ps:List Ppl)(g:List Vtx):Bool:=g.all (knw c ps) && graS c g
def eo (c:List Int)(bad:Int)(ps:List Ppl)(gs:List (List Vtx)):Bool:=cX gs.length fun i=>lV c ps (gs.getD i []) && (!((i:Int)==bad)||(gs.getD i []).isEmpty)
def gB (bad:Int)(gs:List (List Vtx))(p:Ppl)(m:Nat):Bool:=!((m:Int) !=bad && ((m:Int)==p.v.author||p.members.contains (m:Int)))||parOK (gs.getD m []) p.v
def my (bad:Int)(ps:List Ppl)(gs:List (List Vtx)):Bool:=ps.all fun p=>cX gs.length (gB bad gs p)
def dw (w:Wrl):Bool:=fo w.com w.lead w.bad && ((w.views.length==w.com.length) && (eO w.com w.bad w.props && (eo w.com w.bad w.props w.views && my w.bad w.props w.views)))
def Θ:TT:=[
  (3,⟨.int .i64,1,8,some (.int .i64 0),some (.int .i64),false⟩),
  (5,⟨.int .u8,1,1,some (.int .u8 0),some (.int .u8),false⟩),
  (21,⟨.int .i32,1,4,some (.int .i32 0),some (.int .i32),false⟩),
  (105,⟨.int .u32,1,4,some (.int .u32 0),some (.int .u32),false⟩),
  (225,⟨.int .u64,1,8,some (.int .u64 0),some (.int .u64),false⟩),
  (4,⟨.bool,1,1,some (.bool false),some (.bool),false⟩),
  (22,⟨.slice 3,1,24,some (.nils),some (.lst (.int .i64)),false⟩),
  (23,⟨.slice 115,1,24,some (.nils),some (.lst (.lst (.vtx))),false⟩),
  (24,⟨.slice 119,1,24,some (.nils),some (.lst (.ppl)),false⟩),
  (28,⟨.slice 54,1,24,some (.nils),some (.lst (.slt)),false⟩),
  (30,⟨.slice 73,1,24,some (.nils),some (.lst (.lst (.vtx))),false⟩),
  (31,⟨.slice 50,1,24,some (.nils),some (.lst (.ppl)),false⟩),
  (40,⟨.slice 5,1,24,some (.nils),some (.lst (.int .u8)),false⟩),
  (41,⟨.slice 58,1,24,some (.nils),some (.lst (.evt)),false⟩),
  (73,⟨.slice 48,1,24,some (.nils),some (.lst (.vtx)),false⟩),
  (110,⟨.slice 144,1,24,some (.nils),none,false⟩),
  (115,⟨.slice 117,1,24,some (.nils),some (.lst (.vtx)),false⟩),
  (131,⟨.slice 134,1,24,some (.nils),none,false⟩),
  (164,⟨.slice 4,1,24,some (.nils),some (.lst (.bool)),false⟩),
  (165,⟨.slice 166,1,24,some (.nils),none,false⟩),
  (95,⟨.slice 3,1,24,some (.nils),some (.lst (.int .i64)),false⟩),
  (175,⟨.slice 48,1,24,some (.nils),some (.lst (.vtx)),false⟩),
  (26,⟨.struct [(22,0,1),(22,1,1),(3,2,1),(23,3,1),(24,4,1)],5,104,some (.agg [.nils,.nils,.int .i64 0,.nils,.nils]),some (.wrl),false⟩),
  (33,⟨.struct [(22,0,1),(22,1,1),(3,2,1),(30,3,1),(31,4,1)],5,104,some (.agg [.nils,.nils,.int .i64 0,.nils,.nils]),some (.wrl),false⟩),
  (48,⟨.struct [(3,0,1),(3,1,1),(22,2,1),(3,3,1)],4,48,some (.agg [.int .i64 0,.int .i64 0,.nils,.int .i64 0]),some (.vtx),false⟩),
  (50,⟨.struct [(48,0,4),(22,4,1)],5,72,some (.agg [.int .i64 0,.int .i64 0,.nils,.int .i64 0,.nils]),some (.ppl),false⟩),
  (54,⟨.struct [(3,0,1),(3,1,1)],2,16,some (.agg [.int .i64 0,.int .i64 0]),some (.slt),false⟩),
  (58,⟨.struct [(3,0,1),(3,1,1),(3,2,1),(48,3,4)],7,72,some (.agg [.int .i64 0,.int .i64 0,.int .i64 0,.int .i64 0,.int .i64 0,.nils,.int .i64 0]),some (.evt),false⟩),
  (104,⟨.struct [],0,0,some (.agg []),none,false⟩),
  (107,⟨.struct [(21,0,1),(105,1,1)],2,8,some (.agg [.int .i32 0,.int .u32 0]),none,false⟩),
  (109,⟨.struct [(104,0,0),(107,0,2)],2,8,some (.agg [.int .i32 0,.int .u32 0]),none,false⟩),
  (112,⟨.struct [(109,0,2),(95,2,1),(22,3,1),(3,4,1),(110,5,1),(31,6,1)],7,112,some (.agg [.int .i32 0,.int .u32 0,.nils,.nils,.int .i64 0,.nils,.nils]),none,false⟩),
  (117,⟨.struct [(3,0,1),(3,1,1),(22,2,1),(3,3,1)],4,48,some (.agg [.int .i64 0,.int .i64 0,.nils,.int .i64 0]),some (.vtx),false⟩),
  (119,⟨.struct [(117,0,4),(22,4,1)],5,72,some (.agg [.int .i64 0,.int .i64 0,.nils,.int .i64 0,.nils]),some (.ppl),false⟩),
  (126,⟨.struct [(124,0,1),(22,1,1)],2,32,some (.agg [.nilp,.nils]),none,false⟩),
  (134,⟨.struct [(48,0,4),(3,4,1)],5,56,some (.agg [.int .i64 0,.int .i64 0,.nils,.int .i64 0,.int .i64 0]),none,false⟩),
  (139,⟨.struct [(40,0,1),(3,1,1)],2,32,some (.agg [.nils,.int .i64 0]),none,false⟩),
  (170,⟨.struct [(95,0,1),(165,1,1),(168,2,217)],219,1784,some (.agg [.nils,.nils,.nilp,.nilp,.nilp,.nilp,.nilp,.nilp,.nilp,.nilp,.nilp,.nilp,.nilp,.nilp,.nilp,.nilp,.nilp,.nilp,.nilp,.nilp,.nilp,.nilp,.nilp,.nilp,.nilp,.nilp,.nilp,.nilp,.nilp,.nilp,.nilp,.nilp,.nilp,.nilp,.nilp,.nilp,.nilp,.nilp,.nilp,.nilp,.nilp,.nilp,.nilp,.nilp,.nilp,.nilp,.nilp,.nilp,.nilp,.nilp,.nilp,.nilp,.nilp,.nilp,.nilp,.nilp,.nilp,.nilp,.nilp,.nilp,.nilp,.nilp,.nilp,.nilp,.nilp,.nilp,.nilp,.nilp,.nilp,.nilp,.nilp,.nilp,.nilp,.nilp,.nilp,.nilp,.nilp,.nilp,.nilp,.nilp,.nilp,.nilp,.nilp,.nilp,.nilp,.nilp,.nilp,.nilp,.nilp,.nilp,.nilp,.nilp,.nilp,.nilp,.nilp,.nilp,.nilp,.nilp,.nilp,.nilp,.nilp,.nilp,.nilp,.nilp,.nilp,.nilp,.nilp,.nilp,.nilp,.nilp,.nilp,.nilp,.nilp,.nilp,.nilp,.nilp,.nilp,.nilp,.nilp,.nilp,.nilp,.nilp,.nilp,.nilp,.nilp,.nilp,.nilp,.nilp,.nilp,.nilp,.nilp,.nilp,.nilp,.nilp,.nilp,.nilp,.nilp,.nilp,.nilp,.nilp,.nilp,.nilp,.nilp,.nilp,.nilp,.nilp,.nilp,.nilp,.nilp,.nilp,.nilp,.nilp,.nilp,.nilp,.nilp,.nilp,.nilp,.nilp,.nilp,.nilp,.nilp,.nilp,.nilp,.nilp,.nilp,.nilp,.nilp,.nilp,.nilp,.nilp,.nilp,.nilp,.nilp,.nilp,.nilp,.nilp,.nilp,.nilp,.nilp,.nilp,.nilp,.nilp,.nilp,.nilp,.nilp,.nilp,.nilp,.nilp,.nilp,.nilp,.nilp,.nilp,.nilp,.nilp,.nilp,.nilp,.nilp,.nilp,.nilp,.nilp,.nilp,.nilp,.nilp,.nilp,.nilp,.nilp,.nilp,.nilp,.nilp,.nilp,.nilp,.nilp,.nilp,.nilp,.nilp,.nilp,.nilp,.nilp,.nilp]),none,false⟩),
  (178,⟨.struct [(48,0,4),(3,4,1),(165,5,1)],6,80,some (.agg [.int .i64 0,.int .i64 0,.nils,.int .i64 0,.int .i64 0,.nils]),none,false⟩),
  (83,⟨.ptr 139,1,8,some (.nilp),none,false⟩),
  (88,⟨.ptr 112,1,8,some (.nilp),none,false⟩),
  (124,⟨.ptr 170,1,8,some (.nilp),none,false⟩),
  (144,⟨.ptr 190,1,8,some (.nilp),none,false⟩),
  (166,⟨.ptr 178,1,8,some (.nilp),none,false⟩),
  (167,⟨.arr 7 166,7,56,some (.agg [.nilp,.nilp,.nilp,.nilp,.nilp,.nilp,.nilp]),none,false⟩),
  (168,⟨.arr 31 167,217,1736,some (.agg [.nilp,.nilp,.nilp,.nilp,.nilp,.nilp,.nilp,.nilp,.nilp,.nilp,.nilp,.nilp,.nilp,.nilp,.nilp,.nilp,.nilp,.nilp,.nilp,.nilp,.nilp,.nilp,.nilp,.nilp,.nilp,.nilp,.nilp,.nilp,.nilp,.nilp,.nilp,.nilp,.nilp,.nilp,.nilp,.nilp,.nilp,.nilp,.nilp,.nilp,.nilp,.nilp,.nilp,.nilp,.nilp,.nilp,.nilp,.nilp,.nilp,.nilp,.nilp,.nilp,.nilp,.nilp,.nilp,.nilp,.nilp,.nilp,.nilp,.nilp,.nilp,.nilp,.nilp,.nilp,.nilp,.nilp,.nilp,.nilp,.nilp,.nilp,.nilp,.nilp,.nilp,.nilp,.nilp,.nilp,.nilp,.nilp,.nilp,.nilp,.nilp,.nilp,.nilp,.nilp,.nilp,.nilp,.nilp,.nilp,.nilp,.nilp,.nilp,.nilp,.nilp,.nilp,.nilp,.nilp,.nilp,.nilp,.nilp,.nilp,.nilp,.nilp,.nilp,.nilp,.nilp,.nilp,.nilp,.nilp,.nilp,.nilp,.nilp,.nilp,.nilp,.nilp,.nilp,.nilp,.nilp,.nilp,.nilp,.nilp,.nilp,.nilp,.nilp,.nilp,.nilp,.nilp,.nilp,.nilp,.nilp,.nilp,.nilp,.nilp,.nilp,.nilp,.nilp,.nilp,.nilp,.nilp,.nilp,.nilp,.nilp,.nilp,.nilp,.nilp,.nilp,.nilp,.nilp,.nilp,.nilp,.nilp,.nilp,.nilp,.nilp,.nilp,.nilp,.nilp,.nilp,.nilp,.nilp,.nilp,.nilp,.nilp,.nilp,.nilp,.nilp,.nilp,.nilp,.nilp,.nilp,.nilp,.nilp,.nilp,.nilp,.nilp,.nilp,.nilp,.nilp,.nilp,.nilp,.nilp,.nilp,.nilp,.nilp,.nilp,.nilp,.nilp,.nilp,.nilp,.nilp,.nilp,.nilp,.nilp,.nilp,.nilp,.nilp,.nilp,.nilp,.nilp,.nilp,.nilp,.nilp,.nilp,.nilp,.nilp,.nilp,.nilp,.nilp,.nilp,.nilp,.nilp,.nilp,.nilp,.nilp,.nilp,.nilp,.nilp,.nilp]),none,false⟩),
  (174,⟨.ptr 175,1,8,some (.nilp),none,false⟩),
  (187,⟨.ptr 48,1,8,some (.nilp),none,false⟩),
  (188,⟨.arr 7 187,7,56,some (.agg [.nilp,.nilp,.nilp,.nilp,.nilp,.nilp,.nilp]),none,false⟩),
  (194,⟨.ptr 50,1,8,some (.nilp),none,false⟩),
  (190,⟨.arr 31 188,217,1736,some (.agg [.nilp,.nilp,.nilp,.nilp,.nilp,.nilp,.nilp,.nilp,.nilp,.nilp,.nilp,.nilp,.nilp,.nilp,.nilp,.nilp,.nilp,.nilp,.nilp,.nilp,.nilp,.nilp,.nilp,.nilp,.nilp,.nilp,.nilp,.nilp,.nilp,.nilp,.nilp,.nilp,.nilp,.nilp,.nilp,.nilp,.nilp,.nilp,.nilp,.nilp,.nilp,.nilp,.nilp,.nilp,.nilp,.nilp,.nilp,.nilp,.nilp,.nilp,.nilp,.nilp,.nilp,.nilp,.nilp,.nilp,.nilp,.nilp,.nilp,.nilp,.nilp,.nilp,.nilp,.nilp,.nilp,.nilp,.nilp,.nilp,.nilp,.nilp,.nilp,.nilp,.nilp,.nilp,.nilp,.nilp,.nilp,.nilp,.nilp,.nilp,.nilp,.nilp,.nilp,.nilp,.nilp,.nilp,.nilp,.nilp,.nilp,.nilp,.nilp,.nilp,.nilp,.nilp,.nilp,.nilp,.nilp,.nilp,.nilp,.nilp,.nilp,.nilp,.nilp,.nilp,.nilp,.nilp,.nilp,.nilp,.nilp,.nilp,.nilp,.nilp,.nilp,.nilp,.nilp,.nilp,.nilp,.nilp,.nilp,.nilp,.nilp,.nilp,.nilp,.nilp,.nilp,.nilp,.nilp,.nilp,.nilp,.nilp,.nilp,.nilp,.nilp,.nilp,.nilp,.nilp,.nilp,.nilp,.nilp,.nilp,.nilp,.nilp,.nilp,.nilp,.nilp,.nilp,.nilp,.nilp,.nilp,.nilp,.nilp,.nilp,.nilp,.nilp,.nilp,.nilp,.nilp,.nilp,.nilp,.nilp,.nilp,.nilp,.nilp,.nilp,.nilp,.nilp,.nilp,.nilp,.nilp,.nilp,.nilp,.nilp,.nilp,.nilp,.nilp,.nilp,.nilp,.nilp,.nilp,.nilp,.nilp,.nilp,.nilp,.nilp,.nilp,.nilp,.nilp,.nilp,.nilp,.nilp,.nilp,.nilp,.nilp,.nilp,.nilp,.nilp,.nilp,.nilp,.nilp,.nilp,.nilp,.nilp,.nilp,.nilp,.nilp,.nilp,.nilp,.nilp,.nilp,.nilp,.nilp,.nilp,.nilp,.nilp,.nilp,.nilp,.nilp]),none,false⟩)]
theorem al:TT.ok Tryz.prog Θ:=TT.okB_ok (by kernel_rfl)
theorem mixed:Tryz.prog.follows .mixedOrders=true:=by kernel_rfl
structure Hid (Q:Prop):Prop where
 h:Q
theorem Iy:(∀(p:Prop) [Decidable p],(decide p=true)=p)∧(∀(p:Prop) [Decidable p],(decide p=false)=¬p)∧(∀b:Bool,((!b)=true)=(b=false))∧(∀b:Bool,((!b)=false)=(b=true))∧(∀(α:Type) [BEq α] [LawfulBEq α] (a b:α),((a==b)=true)=(a=b))∧(∀(α:Type) [BEq α] [LawfulBEq α] (a b:α),((a !=b)=true)=¬a=b)∧(∀(α:Type) [BEq α] [LawfulBEq α] (a b:α),((a==b)=false)=¬a=b)∧(∀(α:Type) [BEq α] [LawfulBEq α] (a b:α),((a !=b)=false)=(a=b))∧∀(α:Type) (a b:α),(a≠b)=¬a=b:=by
 refine⟨fun p _=>by simp,fun p _=>by simp,fun b=>by simp,fun b=>by simp,fun α _ _ a b=>by simp,fun α _ _ a b=>by simp,fun α _ _ a b=>by simp,fun α _ _ a b=>by simp,fun α a b=>rfl⟩
theorem cr {P:Program}{h:VH}{n:Nat}{f:FuncId}{vs vs':List V}{K:V→VH→List Nat→Prop}{hin hout:VH}{r:V}{Q:Prop}(hc:af P f vs' hin r hout)(k:Q)(s:af P f vs' hin r hout→Hid Q→br P h n f vs K:=by
  intro hc h
  refine bl ?_
  conv=>whnf
  with_reducible refine bF hc ?_
  conv=>whnf
  exact h.h):br P h n f vs K:=s hc ⟨k⟩
theorem co {P:Program}{h:VH}{n:Nat}{f:FuncId}{vs vs':List V}{K:V→VH→List Nat→Prop}{hin hout:VH}{r:V}{Q:Prop}(hc:af P f vs' hin r hout)(k:Q)(s:af P f vs' hin r hout→Hid Q→br P h n f vs K:=by
  intro hc h
  refine FE ?_
  conv=>whnf
  with_reducible refine bF hc ?_
  conv=>whnf
  exact h.h):br P h n f vs K:=s hc ⟨k⟩
theorem sa {α:Type}{P:Prop}{C Q:α→Prop}(h:∀x,C x→Q x)(s:(∀x,C x→Q x)→P:=by
  intro h
  with_reducible first|refine Fh (by omega) fun x hx=>?_|refine Fg (by omega) (by omega) fun x hx=>?_|refine Fd (by omega) fun x hx=>?_|refine AI (by first|omega|(simp only[List.length_cons,List.length_nil,List.length_set,List.length_append];omega)) fun x hx=>?_
  conv=>whnf
  exact h x hx):P:=s h
theorem sb {b:Bool}{A B C D Q R:Prop}(h:C→Q)(k:D→R)(s:(C→Q)→(D→R)→iB b A B:=by
  intro h k
  with_reducible refine HM (fun hq=>?_) (fun hq=>?_)
  ·first|(have _:True→True:=h;((try simp only[Iy] at hq)<;>omega))|((try simp only[Iy] at hq);(conv=>whnf);exact h hq)
  ·first|(have _:True→True:=k;((try simp only[Iy] at hq)<;>omega))|((try simp only[Iy] at hq);(conv=>whnf);exact k hq)):iB b A B:=s h k
theorem st {P Q:Prop}(h:Q)(s:Hid Q→P:=by
  intro h
  (first|(with_reducible first|apply d7|apply dx)|((first|with_reducible apply cM al|refine go ?_|(with_reducible first|apply dB|apply dt|apply cK|apply cN|refine cL al mixed (by kernel_rfl) ?_))<;>conv=>whnf))
  repeat(first|(with_reducible first|apply d7|apply dx)|((first|with_reducible apply cM al|refine go ?_|(with_reducible first|apply dB|apply dt|apply cK|apply cN|refine cL al mixed (by kernel_rfl) ?_))<;>conv=>whnf))
  exact h.h):P:=s ⟨h⟩
theorem Jf {P Q:Prop}(h:Q)(s:Hid Q→P:=by
  intro h
  (first|(with_reducible first|apply d7)|((first|with_reducible apply cM al|refine go ?_|(with_reducible first|apply dB|apply dt|apply cK|apply cN|refine cL al mixed (by kernel_rfl) ?_))<;>conv=>whnf))
  repeat(first|(with_reducible first|apply d7)|((first|with_reducible apply cM al|refine go ?_|(with_reducible first|apply dB|apply dt|apply cK|apply cN|refine cL al mixed (by kernel_rfl) ?_))<;>conv=>whnf))
  exact h.h):P:=s ⟨h⟩
theorem Jc {P Q:Prop}(h:Q)(s:Hid Q→P:=by
  intro h
  (first|(with_reducible first|apply d7)|((first|with_reducible apply cM al|refine go ?_|(with_reducible first|apply dt|apply cK|apply cN|refine cL al mixed (by kernel_rfl) ?_))<;>conv=>whnf))
  repeat(first|(with_reducible first|apply d7)|((first|with_reducible apply cM al|refine go ?_|(with_reducible first|apply dt|apply cK|apply cN|refine cL al mixed (by kernel_rfl) ?_))<;>conv=>whnf))
  exact h.h):P:=s ⟨h⟩
end Go.Proofs.YthmfppknagbkeaaGreatDoor.Am
namespace Go.Proofs.YthmfppknagbkeaaGreatDoor.Am
open Go
attribute [local irreducible] Mk bk Ari eD ky iB br b8 fY er At af
set_option maxRecDepth 10000
theorem kG (n lo hi:Int):af Tryz.prog 39 [.int .i64 n,.int .i64 lo,.int .i64 hi] [] (.bool (gM n lo hi)) []:=by
 refine aa al Tryz.func39 rfl rfl false 0 4 rfl rfl rfl rfl fun K hK hb1 hb2=>?_;simp only[ae,enc,Nat.reduceAdd]
 (repeat' first|refine st ?_|refine sa fun xe hxe=>?_|refine sb (fun hq=>?_) fun hq=>?_|exact True.intro)
 all_goals (refine⟨?_,rfl⟩;simp_all[gM])
 omega
theorem ou (c:List Int):af Tryz.prog 149 [.lst (.int .i64) c] [] (.bool (comV c)) []:=by
 refine aa al Tryz.func149 rfl rfl false 0 4 rfl rfl rfl rfl fun K hK hb1 hb2=>?_;simp only[ae,enc,Nat.reduceAdd]
 simp[ah,V.toD,bnd,ag,D.cells] at hb1
 (repeat' first|refine st ?_|refine sa fun xe hxe=>?_|refine sb (fun hq=>?_) fun hq=>?_|refine cr (kG _ _ _) ?_|exact True.intro)
 refine ab hK [] [0,3] (fun i:Nat=>⟨[(0,.lst (.int .i64) c),(3,.int .i64 i)],[],4⟩) (fun i=>i≤c.length∧∀j,j<i→gM (c.getD j 0) 1 9=true) (fun i=>c.length-i) 0 ⟨by simp,by simp⟩ rfl ?_
 rintro i ⟨hi,hall⟩
 (repeat' first|refine st ?_|refine sa fun xe hxe=>?_|refine sb (fun hq=>?_) fun hq=>?_|refine cr (kG _ _ _) ?_|exact True.intro)
 ·refine⟨?_,rfl⟩
  have:comV c=false:=by
   simp only[comV,Bool.and_eq_false_iff]
   left
   exact cy (j:=i) (by omega) (by rw[aU hxe];exact hq)
  rw[this]
 ·refine⟨i+1,⟨by omega,bt hall (by rw[aU hxe];exact hq)⟩,by omega,rfl⟩
 ·refine⟨?_,rfl⟩
  have:i=c.length:=by omega
  subst this
  simp only[comV,bO hall,Bool.true_and]
theorem uN {c:List Int}{i:Nat}{x:Int}(h:c[i]?=some x):jf (c.take (i+1))=jf (c.take i)+x:=by
 obtain⟨hl,rfl⟩:=List.getElem?_eq_some_iff.1 h
 rw[List.take_succ_eq_append_getElem hl]
 unfold jf
 rw[List.sum_append]
 simp
theorem Ct {c:List Int}(h:comV c=true)(i:Nat):0≤jf (c.take i)∧jf (c.take i)≤63:=by
 obtain⟨h1,h2,h3⟩:=ao.1 h
 have h4:=nY (M:=9) (by omega) (l:=c.take i) fun x hx=>⟨by have:=h1 x (List.mem_of_mem_take hx);omega,(h1 x (List.mem_of_mem_take hx)).2⟩
 rw[List.length_take] at h4
 unfold jf
 omega
theorem Ft (c:List Int)(hc:comV c=true):af Tryz.prog 124 [.lst (.int .i64) c] [] (.int .i64 (jf c)) []:=by
 have hc1:=ao.1 hc
 refine aa al Tryz.func124 rfl rfl false 0 4 rfl rfl rfl rfl fun K hK hb1 hb2=>?_;simp only[ae,enc,Nat.reduceAdd]
 clear hb1 hb2
 (repeat' first|refine st ?_|refine sa fun xe hxe=>?_|refine sb (fun hq=>?_) fun hq=>?_|exact True.intro)
 refine ab hK [] [0,3,4] (fun i:Nat=>⟨[(0,.lst (.int .i64) c),(3,.int .i64 (jf (c.take i))),(4,.int .i64 i)],[],4⟩) (fun i=>i≤c.length) (fun i=>c.length-i) 0 (by simp) rfl ?_
 intro i hi
 have hb:=Ct hc i
 have hbx:∀x,c[i]?=some x→1≤x∧x≤9:=fun x hx=>hc1.1 x (List.mem_of_getElem? hx)
 by_cases hlt:i<c.length
 ·have hxe:c[i]?=some c[i]:=List.getElem?_eq_getElem hlt
  have hb2:=hbx _ hxe
  have hsn:=uN hxe
  generalize c[i]=x at *
  (repeat' first|refine st ?_|refine sa fun xe hxe=>?_|refine sb (fun hq=>?_) fun hq=>?_|exact True.intro)
  exact⟨i+1,by omega,by omega,by rw[hsn];rfl⟩
 (repeat' first|refine st ?_|refine sa fun xe hxe=>?_|refine sb (fun hq=>?_) fun hq=>?_|exact True.intro)
 rw[List.take_of_length_le (by omega)]
 exact⟨rfl,rfl⟩
theorem uv (c:List Int)(hc:comV c=true):af Tryz.prog 175 [.lst (.int .i64) c] [] (.int .i64 (quo c)) []:=by
 have h1:=en hc
 have h2:=sj hc
 have h3:(2*jf c).tdiv 3+1=quo c:=rfl
 refine aa al Tryz.func175 rfl rfl false 0 4 rfl rfl rfl rfl fun K hK hb1 hb2=>?_;simp only[ae,enc,Nat.reduceAdd]
 (repeat' first|refine st ?_|refine sa fun xe hxe=>?_|refine sb (fun hq=>?_) fun hq=>?_|refine cr (Ft _ hc) ?_|exact True.intro)
 exact⟨rfl,rfl⟩
theorem ov (n:Int):af Tryz.prog 133 [.int .i64 n] [] (.bool (gM n 0 990)) []:=by
 refine aa al Tryz.func133 rfl rfl false 0 4 rfl rfl rfl rfl fun K hK hb1 hb2=>?_;simp only[ae,enc,Nat.reduceAdd]
 (repeat' first|refine st ?_|refine sa fun xe hxe=>?_|refine sb (fun hq=>?_) fun hq=>?_|refine cr (kG _ _ _) ?_|exact True.intro)
 exact⟨rfl,rfl⟩
theorem v7 (c ms:List Int):af Tryz.prog 126 [.lst (.int .i64) c,.lst (.int .i64) ms] [] (.bool (cd c ms)) []:=by
 refine aa al Tryz.func126 rfl rfl false 0 4 rfl rfl rfl rfl fun K hK hb1 hb2=>?_;simp only[ae,enc,Nat.reduceAdd]
 simp[ah,V.toD,bnd,ag,D.cells] at hb1
 (repeat' first|refine st ?_|refine sa fun xe hxe=>?_|refine sb (fun hq=>?_) fun hq=>?_|refine cr (kG _ _ _) ?_|exact True.intro)
 refine ab hK [] [0,1,5] (fun i:Nat=>⟨[(0,.lst (.int .i64) c),(1,.lst (.int .i64) ms),(5,.int .i64 i)],[],4⟩) (fun i=>i≤ms.length∧∀j,j<i→fR c ms j=true) (fun i=>ms.length-i) 0 ⟨by simp,by simp⟩ rfl ?_
 rintro i ⟨hi,hall⟩
 (repeat' first|refine st ?_|refine sa fun xe hxe=>?_|refine sb (fun hq=>?_) fun hq=>?_|refine cr (kG _ _ _) ?_|exact True.intro)
 ·refine⟨?_,rfl⟩
  have:cd c ms=false:=cy (j:=i) (by omega) (by simp only[fR,bY,aU hxe,hq,Bool.false_and])
  rw[this]
 ·rename_i x hx hq1 h0
  have hy':ms[i-1]?=some xe:=by rw[←hxe];congr 1;omega
  refine⟨?_,rfl⟩
  have:cd c ms=false:=cy (j:=i) (by omega) (by simp only[fR,aU hx,aU hy',Bool.and_eq_false_iff,Bool.or_eq_false_iff,decide_eq_false_iff_not];right;exact⟨by simp;omega,by omega⟩)
  rw[this]
 ·rename_i x hx hq1 h0
  have hy':ms[i-1]?=some xe:=by rw[←hxe];congr 1;omega
  refine⟨i+1,⟨by omega,bt hall ?_⟩,by omega,rfl⟩
  simp only[fR,bY,aU hx,aU hy',hq1,Bool.true_and,Bool.or_eq_true,decide_eq_true_eq]
  right;omega
 ·have h0:i=0:=by omega
  subst h0
  refine⟨0+1,⟨by omega,bt hall ?_⟩,by omega,rfl⟩
  simp only[fR,bY,aU hxe, *]
  rfl
 ·refine⟨?_,rfl⟩
  have:i=ms.length:=by omega
  subst this
  have:cd c ms=true:=bO hall
  rw[this]
theorem CJ {c ms:List Int}{i:Nat}{m:Int}(h:ms[i]?=some m):cR c (ms.take (i+1))=cR c (ms.take i)+c.getD m.toNat 0:=by
 obtain⟨hl,rfl⟩:=List.getElem?_eq_some_iff.1 h
 rw[List.take_succ_eq_append_getElem hl,uS]
theorem yk (c ms:List Int)(hc:comV c=true)(hm:∀m∈ms,0≤m∧m<c.length)(hl:ms.length≤2000000):af Tryz.prog 174 [.lst (.int .i64) c,.lst (.int .i64) ms] [] (.int .i64 (cR c ms)) []:=by
 refine aa al Tryz.func174 rfl rfl false 0 4 rfl rfl rfl rfl fun K hK hb1 hb2=>?_;simp only[ae,enc,Nat.reduceAdd]
 clear hb1 hb2
 (repeat' first|refine st ?_|refine sa fun xe hxe=>?_|refine sb (fun hq=>?_) fun hq=>?_|exact True.intro)
 refine ab hK [] [0,1,5,6] (fun i:Nat=>⟨[(0,.lst (.int .i64) c),(1,.lst (.int .i64) ms),(5,.int .i64 (cR c (ms.take i))),(6,.int .i64 i)],[],4⟩) (fun i=>i≤ms.length) (fun i=>ms.length-i) 0 (by simp) rfl ?_
 intro i hi
 by_cases hlt:i<ms.length
 ·have hxe:ms[i]?=some ms[i]:=List.getElem?_eq_getElem hlt
  have h1:=hm _ (List.getElem_mem hlt)
  have h2:=wJ (ms:=ms.take i) hc
  have h3:=CJ (c:=c) hxe
  rw[List.length_take] at h2
  generalize ms[i]=m at *
  have hx2:c[m.toNat]?=some (c.getD m.toNat 0):=by rw[List.getD_eq_getElem?_getD,List.getElem?_eq_getElem (show m.toNat<c.length by omega)];rfl
  have h4:=(ao.1 hc).1 _ (List.mem_of_getElem? hx2)
  generalize c.getD m.toNat 0=x at *
  (repeat' first|refine st ?_|refine sa fun xe hxe=>?_|refine sb (fun hq=>?_) fun hq=>?_|exact True.intro)
  exact⟨i+1,by omega,by omega,by rw[h3];rfl⟩
 (repeat' first|refine st ?_|refine sa fun xe hxe=>?_|refine sb (fun hq=>?_) fun hq=>?_|exact True.intro)
 rw[List.take_of_length_le (by omega)]
 exact⟨rfl,rfl⟩
theorem kW (v u:Vtx):af Tryz.prog 176 [.agg [.int .i64 v.round,.int .i64 v.author,.lst (.int .i64) v.parents,.int .i64 v.digest],.agg [.int .i64 u.round,.int .i64 u.author,.lst (.int .i64) u.parents,.int .i64 u.digest]] [] (.bool (bef v u)) []:=by
 refine aa al Tryz.func176 rfl rfl false 0 4 rfl rfl rfl rfl fun K hK hb1 hb2=>?_;simp only[ae,enc,Nat.reduceAdd]
 (repeat' first|refine st ?_|refine sa fun xe hxe=>?_|refine sb (fun hq=>?_) fun hq=>?_|exact True.intro)
 all_goals (refine⟨?_,rfl⟩;simp_all[bef])
abbrev bA (v:Vtx):V:=.agg [.int .i64 v.round,.int .i64 v.author,.lst (.int .i64) v.parents,.int .i64 v.digest]
theorem qn {α:Type}[BEq α][LawfulBEq α]:∀{a b:List α},a.Nodup→a⊆b→a.length≤b.length
 |[],_,_,_=>Nat.zero_le _
 |x::a,b,h,hs=>by
  rw[List.nodup_cons] at h
  have hx:x∈b:=hs (List.mem_cons_self ..)
  have:=qn (b:=b.erase x) h.2 fun y hy=>by
   have hne:y≠x:=fun e=>h.1 (e▸hy)
   exact(List.mem_erase_of_ne hne).2 (hs (List.mem_cons_of_mem _ hy))
  rw[List.length_erase_of_mem hx] at this
  have:=List.length_pos_of_mem hx
  simp only[List.length_cons]
  omega
theorem dA {c ms:List Int}(h:cd c ms=true):ms.length≤c.length:=by
 have h1:=bf h
 have h2:ms⊆(List.range c.length).map fun n:Nat=>(n:Int):=fun m hm=>by
  have:=h1 m hm
  rw[List.mem_map]
  exact⟨m.toNat,by rw[List.mem_range];omega,by omega⟩
 have h3:ms.Nodup:=(bG h).imp fun hab=>by omega
 have:=qn h3 h2
 simpa using this
theorem kv (c:List Int)(v:Vtx)(hc:comV c=true):af Tryz.prog 125 [.lst (.int .i64) c,bA v] [] (.bool (vtxS c v)) []:=by
 refine aa al Tryz.func125 rfl rfl false 0 4 rfl rfl rfl rfl fun K hK hb1 hb2=>?_;simp only[ae,enc,Nat.reduceAdd]
 simp[ah,V.toD,bnd,ag,D.cells] at hb1
 have h7:=(ao.1 hc).2
 have h8:((v.parents.length:Int)==0)=(v.parents.length==0):=by rw[Bool.eq_iff_iff,beq_iff_eq,beq_iff_eq];omega
 cases hm:cd c v.parents
 ·(repeat' first|refine st ?_|refine sa fun xe hxe=>?_|refine sb (fun hq=>?_) fun hq=>?_|refine cr (kG _ _ _) ?_|refine cr (v7 _ _) ?_|refine cr (ov _) ?_|refine cr (uv _ hc) ?_|exact True.intro)
  all_goals (refine⟨?_,rfl⟩;simp_all[vtxS,bY])
 ·have hl:=dA hm
  (repeat' first|refine st ?_|refine sa fun xe hxe=>?_|refine sb (fun hq=>?_) fun hq=>?_|refine cr (kG _ _ _) ?_|refine cr (v7 _ _) ?_|refine cr (ov _) ?_|refine cr (uv _ hc) ?_|((with_reducible refine bl ?_);(conv=>whnf);(first|with_reducible refine bF (yk _ _ hc (bf hm) (by omega)) ?_);conv=>whnf)|exact True.intro)
  all_goals (refine⟨?_,rfl⟩;simp_all[vtxS,bY])
theorem aP {α:Type}{l:List α}{P:α→Prop}{x:α}(h:∀y∈l,P y)(hx:P x):∀y∈l++[x],P y:=by
 intro y hy
 rcases List.mem_append.1 hy with hy|hy
 ·exact h y hy
 ·rw[List.mem_singleton.1 hy];exact hx
theorem ny {α:Type}{l:List α}{p:α→Bool}{i:Nat}{x:α}(h:l[i]?=some x)(hn:∀y∈l.take i,p y=false)(hp:p x=true):l.findIdx? p=some i:=by
 obtain⟨hi,rfl⟩:=List.getElem?_eq_some_iff.1 h
 rw[List.findIdx?_eq_some_iff_getElem]
 refine⟨hi,hp,fun j hj=>?_⟩
 rw[hn _ (List.mem_of_getElem? (i:=j) (by rw[List.getElem?_take,if_pos hj,List.getElem?_eq_getElem]))]
 simp
theorem rv (g:List Vtx)(r a:Int):af Tryz.prog 131 [.lst .vtx g,.int .i64 r,.int .i64 a] [] (.int .i64 (mm g r a)) []:=by
 refine aa al Tryz.func131 rfl rfl false 0 4 rfl rfl rfl rfl fun K hK hb1 hb2=>?_;simp only[ae,enc,Nat.reduceAdd]
 simp[ah,V.toD,bnd,ag,D.cells] at hb1
 (repeat' first|refine st ?_|refine sa fun xe hxe=>?_|refine sb (fun hq=>?_) fun hq=>?_|exact True.intro)
 refine ab hK [] [0,1,2,7] (fun i:Nat=>⟨[(0,.lst .vtx g),(1,.int .i64 r),(2,.int .i64 a),(7,.int .i64 i)],[],4⟩) (fun i=>i≤g.length∧∀v∈g.take i,dO r a v=false) (fun i=>g.length-i) 0 ⟨by simp,by simp⟩ rfl ?_
 rintro i ⟨hi,hall⟩
 by_cases hlt:i<g.length
 ·have hxe:g[i]?=some g[i]:=List.getElem?_eq_getElem hlt
  have h3:g.take (i+1)=g.take i++[g[i]]:=List.take_succ_eq_append_getElem hlt
  have h4:=ny (l:=g) (p:=dO r a) hxe hall
  generalize g[i]=v at *
  have hA:dO r a v=(v.round==r && v.author==a):=rfl
  cases h1:v.round==r
  ·(repeat' first|refine st ?_|refine sa fun xe hxe=>?_|refine sb (fun hq=>?_) fun hq=>?_|exact True.intro)
   exact⟨i+1,⟨by omega,by rw[h3];exact aP hall (by simp[hA,h1])⟩,by omega,rfl⟩
  ·cases h2:v.author==a
   ·(repeat' first|refine st ?_|refine sa fun xe hxe=>?_|refine sb (fun hq=>?_) fun hq=>?_|exact True.intro)
    exact⟨i+1,⟨by omega,by rw[h3];exact aP hall (by simp[hA,h1,h2])⟩,by omega,rfl⟩
   ·(repeat' first|refine st ?_|refine sa fun xe hxe=>?_|refine sb (fun hq=>?_) fun hq=>?_|exact True.intro)
    refine⟨?_,rfl⟩
    rw[mm,h4 (by simp[hA,h1,h2])]
 ·(repeat' first|refine st ?_|refine sa fun xe hxe=>?_|refine sb (fun hq=>?_) fun hq=>?_|exact True.intro)
  refine⟨?_,rfl⟩
  rw[List.take_of_length_le (by omega)] at hall
  rw[mm,List.findIdx?_eq_none_iff.2 hall]
theorem vz (g:List Vtx)(r a:Int):decide (mm g r a<0)= !cA g r a:=by
 rw[←rz]
 unfold mm
 cases g.findIdx? (dO r a) with
 |none=>rfl
 |some i=>simp
theorem dm (g:List Vtx)(v:Vtx)(hr:-1000000<v.round∧v.round<1000000):af Tryz.prog 75 [.lst .vtx g,bA v] [] (.bool (parOK g v)) []:=by
 refine aa al Tryz.func75 rfl rfl false 0 4 rfl rfl rfl rfl fun K hK hb1 hb2=>?_;simp only[ae,enc,Nat.reduceAdd]
 simp[ah,V.toD,bnd,ag,D.cells,ey] at hb1
 (repeat' first|refine st ?_|refine sa fun xe hxe=>?_|refine sb (fun hq=>?_) fun hq=>?_|exact True.intro)
 refine ab hK [] [0,3,5] (fun i:Nat=>⟨[(0,.lst .vtx g),(3,.ptr 4 0),(5,.int .i64 i)],[(4,.var 48 (bA v).cells)],5⟩) (fun i=>i≤v.parents.length∧∀p∈v.parents.take i,cA g (v.round-1) p=true) (fun i=>v.parents.length-i) 0 ⟨by simp,by simp⟩ rfl ?_
 rintro i ⟨hi,hall⟩
 by_cases hlt:i<v.parents.length
 ·have hxe:v.parents[i]?=some v.parents[i]:=List.getElem?_eq_getElem hlt
  have h3:v.parents.take (i+1)=v.parents.take i++[v.parents[i]]:=List.take_succ_eq_append_getElem hlt
  have h4:v.parents[i]∈v.parents:=List.getElem_mem hlt
  generalize v.parents[i]=p at *
  have hlt2:=vz g (v.round-1) p
  cases h5:cA g (v.round-1) p
  ·have hlt2:mm g (v.round-1) p<0:=by simpa[h5] using hlt2
   (repeat' first|refine st ?_|refine sa fun xe hxe=>?_|refine sb (fun hq=>?_) fun hq=>?_|refine cr (rv _ _ _) ?_|exact True.intro)
   refine⟨?_,rfl⟩
   have:parOK g v=false:=by
    rw[Bool.eq_false_iff]
    intro h
    rw[bN.1 h p h4] at h5
    cases h5
   rw[this]
  ·have hlt2:¬mm g (v.round-1) p<0:=by simpa[h5] using hlt2
   (repeat' first|refine st ?_|refine sa fun xe hxe=>?_|refine sb (fun hq=>?_) fun hq=>?_|refine cr (rv _ _ _) ?_|exact True.intro)
   exact⟨i+1,⟨by omega,by rw[h3];exact aP hall h5⟩,by omega,rfl⟩
 ·(repeat' first|refine st ?_|refine sa fun xe hxe=>?_|refine sb (fun hq=>?_) fun hq=>?_|exact True.intro)
  refine⟨?_,rfl⟩
  rw[List.take_of_length_le (by omega)] at hall
  rw[bN.2 hall]
theorem n5 {c:List Int}{v:Vtx}(h:vtxS c v=true):-1000000<v.round∧v.round<1000000:=by
 have:=(bc h).1
 omega
theorem F7 (c:List Int)(g:List Vtx):af Tryz.prog 130 [.lst (.int .i64) c,.lst .vtx g] [] (.bool (graS c g)) []:=by
 refine aa al Tryz.func130 rfl rfl false 0 4 rfl rfl rfl rfl fun K hK hb1 hb2=>?_;simp only[ae,enc,Nat.reduceAdd]
 simp[ah,V.toD,bnd,ag,D.cells] at hb1
 cases hc:comV c
 ·(repeat' first|refine st ?_|refine sa fun xe hxe=>?_|refine sb (fun hq=>?_) fun hq=>?_|refine cr (ou _) ?_|exact True.intro)
  exact⟨by simp[graS,hc],rfl⟩
 (repeat' first|refine st ?_|refine sa fun xe hxe=>?_|refine sb (fun hq=>?_) fun hq=>?_|refine cr (ou _) ?_|exact True.intro)
 refine ab hK [] [0,1,5] (fun i:Nat=>⟨[(0,.lst (.int .i64) c),(1,.lst .vtx g),(5,.int .i64 i)],[],4⟩) (fun i=>i≤g.length∧∀j,j<i→gg c g j=true) (fun i=>g.length-i) 0 ⟨by simp,by simp⟩ rfl ?_
 rintro i ⟨hi,hall⟩
 have hno:gg c g i=false→i<g.length→V.bool false=V.bool (graS c g)∧([]:VH)=[]:=fun h1 h2=>⟨by simp only[graS,hc,Bool.true_and];rw[cy h2 h1],rfl⟩
 by_cases hlt:i<g.length
 ·have hxe:g[i]?=some g[i]:=List.getElem?_eq_getElem hlt
  have hA:gg c g i=(vtxS c g[i] && ((i==0||bef (g.getD (i-1) v0) g[i]) && parOK g g[i])):=by simp only[gg,aU hxe]
  have hyes:gg c g i=true→∃y,(y≤g.length∧∀j,j<y→gg c g j=true)∧g.length-y<g.length-i∧VSt.mk [(0,.lst (.int .i64) c),(1,.lst .vtx g),(5,.int .i64 ((i:Int)+1))] [] 4=⟨[(0,.lst (.int .i64) c),(1,.lst .vtx g),(5,.int .i64 (y:Int))],[],4⟩:=fun h=>⟨i+1,⟨by omega,bt hall h⟩,by omega,rfl⟩
  generalize g[i]=v at *
  cases h1:vtxS c v
  ·(repeat' first|refine st ?_|refine sa fun xe hxe=>?_|refine sb (fun hq=>?_) fun hq=>?_|refine cr (kv _ _ hc) ?_|exact True.intro)
   exact hno (by rw[hA,h1];rfl) hlt
  have h0:-1000000<v.round∧v.round<1000000:=n5 h1
  rw[h1] at hA
  cases h3:parOK g v
  ·rw[h3] at hA
   by_cases hi0:i=0
   ·(repeat' first|refine st ?_|refine sa fun xe hxe=>?_|refine sb (fun hq=>?_) fun hq=>?_|refine cr (kv _ _ hc) ?_|refine cr (dm _ _ h0) ?_|exact True.intro)
    exact hno (by rw[hA];simp) hlt
   ·have hye:g[((i:Int)-1).toNat]?=some (g.getD (i-1) v0):=by rw[show ((i:Int)-1).toNat=i-1 by omega,List.getD_eq_getElem?_getD,List.getElem?_eq_getElem (show i-1<g.length by omega)];rfl
    generalize g.getD (i-1) v0=u at *
    (repeat' first|refine st ?_|refine sa fun xe hxe=>?_|refine sb (fun hq=>?_) fun hq=>?_|refine cr (kv _ _ hc) ?_|refine cr (kW _ _) ?_|refine cr (dm _ _ h0) ?_|exact True.intro)
    all_goals exact hno (by rw[hA];simp) hlt
  ·rw[h3] at hA
   by_cases hi0:i=0
   ·(repeat' first|refine st ?_|refine sa fun xe hxe=>?_|refine sb (fun hq=>?_) fun hq=>?_|refine cr (kv _ _ hc) ?_|refine cr (dm _ _ h0) ?_|exact True.intro)
    exact hyes (by rw[hA];simp[hi0])
   ·have hye:g[((i:Int)-1).toNat]?=some (g.getD (i-1) v0):=by rw[show ((i:Int)-1).toNat=i-1 by omega,List.getD_eq_getElem?_getD,List.getElem?_eq_getElem (show i-1<g.length by omega)];rfl
    generalize g.getD (i-1) v0=u at *
    cases h4:bef u v
    ·(repeat' first|refine st ?_|refine sa fun xe hxe=>?_|refine sb (fun hq=>?_) fun hq=>?_|refine cr (kv _ _ hc) ?_|refine cr (kW _ _) ?_|refine cr (dm _ _ h0) ?_|exact True.intro)
     exact hno (by rw[hA,h4];simp[hi0]) hlt
    ·(repeat' first|refine st ?_|refine sa fun xe hxe=>?_|refine sb (fun hq=>?_) fun hq=>?_|refine cr (kv _ _ hc) ?_|refine cr (kW _ _) ?_|refine cr (dm _ _ h0) ?_|exact True.intro)
     exact hyes (by rw[hA,h4];simp)
 ·(repeat' first|refine st ?_|refine sa fun xe hxe=>?_|refine sb (fun hq=>?_) fun hq=>?_|exact True.intro)
  refine⟨?_,rfl⟩
  have:i=g.length:=by omega
  subst this
  simp only[graS,hc,bO hall,Bool.true_and]
theorem yv {g:List Vtx}{r:Int}{i:Nat}{v:Vtx}(h:g[i]?=some v):dJ (g.take (i+1)) r=if v.round==r then dJ (g.take i) r++[v.author] else dJ (g.take i) r:=by
 obtain⟨hl,rfl⟩:=List.getElem?_eq_some_iff.1 h
 rw[List.take_succ_eq_append_getElem hl]
 simp only[dJ,List.filter_append,List.map_append,List.filter_cons,List.filter_nil]
 split<;>simp
theorem zD (g:List Vtx)(r:Int)(i:Nat):(dJ (g.take i) r).length≤g.length:=by
 unfold dJ
 rw[List.length_map]
 refine Nat.le_trans (List.length_filter_le _ _) ?_
 rw[List.length_take]
 omega
theorem va (g:List Vtx)(r:Int)(hl:g.length≤2000000):af Tryz.prog 135 [.lst .vtx g,.int .i64 r] [] (.ref 4) [(4,.row 3 (.int .i64) (dJ g r))]:=by
 refine aa al Tryz.func135 rfl rfl false 0 4 rfl rfl rfl rfl fun K hK hb1 hb2=>?_;simp only[ae,enc,Nat.reduceAdd]
 clear hb1 hb2
 (repeat' first|refine st ?_|refine sa fun xe hxe=>?_|refine sb (fun hq=>?_) fun hq=>?_|exact True.intro)
 refine ab hK [] [0,1,5,6] (fun i:Nat=>⟨[(0,.lst .vtx g),(1,.int .i64 r),(5,.ref 4),(6,.int .i64 i)],[(4,.row 3 (.int .i64) (dJ (g.take i) r))],5⟩) (fun i=>i≤g.length) (fun i=>g.length-i) 0 (by simp) rfl ?_
 intro i hi
 by_cases hlt:i<g.length
 ·have hxe:g[i]?=some g[i]:=List.getElem?_eq_getElem hlt
  have h3:=yv (r:=r) hxe
  have h4:=zD g r i
  generalize g[i]=v at *
  cases h1:v.round==r
  ·rw[h1,if_neg (by simp)] at h3
   (repeat' first|refine st ?_|refine sa fun xe hxe=>?_|refine sb (fun hq=>?_) fun hq=>?_|exact True.intro)
   exact⟨i+1,by omega,by omega,by rw[h3];rfl⟩
  ·rw[h1,if_pos rfl] at h3
   (repeat' first|refine st ?_|refine sa fun xe hxe=>?_|refine sb (fun hq=>?_) fun hq=>?_|exact True.intro)
   exact⟨i+1,by omega,by omega,by rw[h3];rfl⟩
 ·(repeat' first|refine st ?_|refine sa fun xe hxe=>?_|refine sb (fun hq=>?_) fun hq=>?_|exact True.intro)
  rw[List.take_of_length_le (by omega)]
  exact⟨rfl,rfl⟩
theorem HW (c:List Int)(g:List Vtx)(h:GraOK c g)(hl:g.length≤2000000):af Tryz.prog 134 [.lst (.int .i64) c,.lst .vtx g] [] (.int .i64 (fv c g)) []:=by
 have h7:=(ao.1 h.com).2
 refine aa al Tryz.func134 rfl rfl false 0 4 rfl rfl rfl rfl fun K hK hb1 hb2=>?_;simp only[ae,enc,Nat.reduceAdd]
 clear hb1 hb2
 (repeat' first|refine st ?_|refine sa fun xe hxe=>?_|refine sb (fun hq=>?_) fun hq=>?_|exact True.intro)
 refine ab hK [] [0,1,5] (fun k:Int=>⟨[(0,.lst (.int .i64) c),(1,.lst .vtx g),(5,.int .i64 k)],[],4⟩) (fun k=>(-1≤k∧k≤30)∧fv c g=ig c g (k+1).toNat) (fun k=>(k+1).toNat) 30 ⟨by simp,rfl⟩ rfl ?_
 rintro k ⟨hi,hh⟩
 by_cases hk:k<0
 ·(repeat' first|refine st ?_|refine sa fun xe hxe=>?_|refine sb (fun hq=>?_) fun hq=>?_|exact True.intro)
  rw[show (k+1).toNat=0 by omega] at hh
  exact⟨by rw[hh];rfl,rfl⟩
 ·have h1:=me h k
  have h2:=dA h1
  have h4:ig c g (k.toNat+1)=if quo c≤cR c (dJ g k.toNat) then(k.toNat:Int) else ig c g k.toNat:=rfl
  rw[show ((k.toNat:Nat):Int)=k by omega] at h4
  rw[show (k+1).toNat=k.toNat+1 by omega,h4] at hh
  by_cases h5:quo c≤cR c (dJ g k)
  ·rw[if_pos h5] at hh
   (repeat' first|refine st ?_|refine sa fun xe hxe=>?_|refine sb (fun hq=>?_) fun hq=>?_|refine cr (va _ _ hl) ?_|refine cr (uv _ h.com) ?_|((with_reducible refine bl ?_);(conv=>whnf);(first|with_reducible refine bF (yk _ _ h.com (bf h1) (by omega)) ?_);conv=>whnf)|exact True.intro)
   exact⟨by rw[hh],rfl⟩
  ·rw[if_neg h5] at hh
   (repeat' first|refine st ?_|refine sa fun xe hxe=>?_|refine sb (fun hq=>?_) fun hq=>?_|refine cr (va _ _ hl) ?_|refine cr (uv _ h.com) ?_|((with_reducible refine bl ?_);(conv=>whnf);(first|with_reducible refine bF (yk _ _ h.com (bf h1) (by omega)) ?_);conv=>whnf)|exact True.intro)
   exact⟨k-1,⟨by omega,by rw[hh];congr 1;omega⟩,by omega,rfl⟩
theorem oO (c:List Int):af Tryz.prog 67 [.lst (.int .i64) c] [] (.bool (comV c)) []:=by
 refine aa al Tryz.func67 rfl rfl false 0 4 rfl rfl rfl rfl fun K hK hb1 hb2=>?_;simp only[ae,enc,Nat.reduceAdd]
 simp[ah,V.toD,bnd,ag,D.cells] at hb1
 have hno:¬(1≤c.length∧c.length≤7)→V.bool false=V.bool (comV c)∧([]:VH)=[]:=fun h=>by
  refine⟨?_,rfl⟩
  have:comV c=false:=by rw[Bool.eq_false_iff];intro h2;exact h (ao.1 h2).2
  rw[this]
 (repeat' first|refine st ?_|refine sa fun xe hxe=>?_|refine sb (fun hq=>?_) fun hq=>?_|exact True.intro)
 ·exact hno (by omega)
 ·exact hno (by omega)
 refine ab hK [] [0,13,14,15] (fun i:Nat=>⟨[(0,.lst (.int .i64) c),(13,.lst (.int .i64) c),(14,.int .i64 c.length),(15,.int .i64 i)],[],4⟩) (fun i=>i≤c.length∧∀j,j<i→gM (c.getD j 0) 1 9=true) (fun i=>c.length-i) 0 ⟨by simp,by simp⟩ rfl ?_
 rintro i ⟨hi,hall⟩
 have hno:∀x,c[i]?=some x→¬(1≤x∧x≤9)→V.bool false=V.bool (comV c)∧([]:VH)=[]:=fun x hx h=>by
  refine⟨?_,rfl⟩
  have:comV c=false:=by rw[Bool.eq_false_iff];intro h2;exact h ((ao.1 h2).1 x (List.mem_of_getElem? hx))
  rw[this]
 by_cases hlt:i<c.length
 ·have hxe:c[i]?=some c[i]:=List.getElem?_eq_getElem hlt
  have hn:=hno _ hxe
  have hy:=bt hall (p:=fun j=>gM (c.getD j 0) 1 9) (i:=i)
  simp only[aU hxe] at hy
  generalize c[i]=x at *
  (repeat' first|refine st ?_|refine sa fun xe hxe=>?_|refine sb (fun hq=>?_) fun hq=>?_|exact True.intro)
  ·exact hn (by omega)
  ·exact hn (by omega)
  ·exact⟨i+1,⟨by omega,hy (ar.2 (by omega))⟩,by omega,rfl⟩
 ·(repeat' first|refine st ?_|refine sa fun xe hxe=>?_|refine sb (fun hq=>?_) fun hq=>?_|exact True.intro)
  refine⟨?_,rfl⟩
  have:i=c.length:=by omega
  subst this
  have h1:gM c.length 1 7=true:=ar.2 (by omega)
  simp only[comV,bO hall,Bool.true_and,h1]
theorem lr (c:List Int):af Tryz.prog 152 [.lst (.int .i64) c] [] (.bool (comV c)) []:=by
 refine aa al Tryz.func152 rfl rfl false 0 4 rfl rfl rfl rfl fun K hK hb1 hb2=>?_;simp only[ae,enc,Nat.reduceAdd]
 (repeat' first|refine st ?_|refine sa fun xe hxe=>?_|refine sb (fun hq=>?_) fun hq=>?_|refine cr (oO _) ?_|exact True.intro)
 exact⟨rfl,rfl⟩
theorem vR (c:List Int)(hc:comV c=true):af Tryz.prog 122 [.lst (.int .i64) c] [] (.int .i64 (jf c)) []:=by
 have hc1:=ao.1 hc
 refine aa al Tryz.func122 rfl rfl false 0 4 rfl rfl rfl rfl fun K hK hb1 hb2=>?_;simp only[ae,enc,Nat.reduceAdd]
 clear hb1 hb2
 (repeat' first|refine st ?_|refine sa fun xe hxe=>?_|refine sb (fun hq=>?_) fun hq=>?_|exact True.intro)
 refine ab hK [] [0,3,6,7,8] (fun i:Nat=>⟨[(0,.lst (.int .i64) c),(3,.int .i64 (jf (c.take i))),(6,.lst (.int .i64) c),(7,.int .i64 c.length),(8,.int .i64 i)],[],4⟩) (fun i=>i≤c.length) (fun i=>c.length-i) 0 (by simp) rfl ?_
 intro i hi
 have hb:=Ct hc i
 by_cases hlt:i<c.length
 ·have hxe:c[i]?=some c[i]:=List.getElem?_eq_getElem hlt
  have hb2:=hc1.1 _ (List.mem_of_getElem? hxe)
  have hsn:=uN hxe
  generalize c[i]=x at *
  (repeat' first|refine st ?_|refine sa fun xe hxe=>?_|refine sb (fun hq=>?_) fun hq=>?_|exact True.intro)
  exact⟨i+1,by omega,by omega,by rw[hsn];rfl⟩
 (repeat' first|refine st ?_|refine sa fun xe hxe=>?_|refine sb (fun hq=>?_) fun hq=>?_|exact True.intro)
 rw[List.take_of_length_le (by omega)]
 exact⟨rfl,rfl⟩
theorem vP (c:List Int)(hc:comV c=true):af Tryz.prog 120 [.lst (.int .i64) c] [] (.int .i64 (quo c)) []:=by
 have h1:=en hc
 have h2:=sj hc
 have h3:(2*jf c).tdiv 3+1=quo c:=rfl
 refine aa al Tryz.func120 rfl rfl false 0 4 rfl rfl rfl rfl fun K hK hb1 hb2=>?_;simp only[ae,enc,Nat.reduceAdd]
 (repeat' first|refine st ?_|refine sa fun xe hxe=>?_|refine sb (fun hq=>?_) fun hq=>?_|refine cr (vR _ hc) ?_|exact True.intro)
 exact⟨rfl,rfl⟩
theorem rN (c:List Int):af Tryz.prog 64 [.lst (.int .i64) c] [] (.int .i64 (if comV c then quo c else-1)) []:=by
 refine aa al Tryz.func64 rfl rfl false 0 4 rfl rfl rfl rfl fun K hK hb1 hb2=>?_;simp only[ae,enc,Nat.reduceAdd]
 cases hc:comV c
 ·(repeat' first|refine st ?_|refine sa fun xe hxe=>?_|refine sb (fun hq=>?_) fun hq=>?_|refine cr (oO _) ?_|exact True.intro)
  exact⟨rfl,rfl⟩
 ·(repeat' first|refine st ?_|refine sa fun xe hxe=>?_|refine sb (fun hq=>?_) fun hq=>?_|refine cr (oO _) ?_|refine cr (vP _ hc) ?_|exact True.intro)
  exact⟨rfl,rfl⟩
theorem dN (c:List Int)(m:Int):af Tryz.prog 153 [.lst (.int .i64) c,.int .i64 m] [] (.bool (bY c m)) []:=by
 refine aa al Tryz.func153 rfl rfl false 0 4 rfl rfl rfl rfl fun K hK hb1 hb2=>?_;simp only[ae,enc,Nat.reduceAdd]
 simp[ah,V.toD,bnd,ag,D.cells] at hb1
 (repeat' first|refine st ?_|refine sa fun xe hxe=>?_|refine sb (fun hq=>?_) fun hq=>?_|exact True.intro)
 all_goals (refine⟨congrArg V.bool ?_,rfl⟩;rw[Bool.eq_iff_iff];simp only[bY,ar,decide_eq_true_eq];(try simp);omega)
theorem kH (r:Int):af Tryz.prog 188 [.int .i64 r] [] (.bool (gM r 0 30)) []:=by
 refine aa al Tryz.func188 rfl rfl false 0 4 rfl rfl rfl rfl fun K hK hb1 hb2=>?_;simp only[ae,enc,Nat.reduceAdd]
 (repeat' first|refine st ?_|refine sa fun xe hxe=>?_|refine sb (fun hq=>?_) fun hq=>?_|exact True.intro)
 all_goals (refine⟨congrArg V.bool ?_,rfl⟩;rw[Bool.eq_iff_iff];simp only[ar,decide_eq_true_eq];(try simp);omega)
theorem Gi (r:Int):af Tryz.prog 189 [.int .i64 r] [] (.bool (gM r 0 990)) []:=by
 refine aa al Tryz.func189 rfl rfl false 0 4 rfl rfl rfl rfl fun K hK hb1 hb2=>?_;simp only[ae,enc,Nat.reduceAdd]
 (repeat' first|refine st ?_|refine sa fun xe hxe=>?_|refine sb (fun hq=>?_) fun hq=>?_|exact True.intro)
 all_goals (refine⟨congrArg V.bool ?_,rfl⟩;rw[Bool.eq_iff_iff];simp only[ar,decide_eq_true_eq];(try simp);omega)
theorem DM (c ms:List Int):af Tryz.prog 121 [.lst (.int .i64) c,.lst (.int .i64) ms] [] (.bool (cd c ms)) []:=by
 refine aa al Tryz.func121 rfl rfl false 0 4 rfl rfl rfl rfl fun K hK hb1 hb2=>?_;simp only[ae,enc,Nat.reduceAdd]
 simp[ah,V.toD,bnd,ag,D.cells] at hb1
 (repeat' first|refine st ?_|refine sa fun xe hxe=>?_|refine sb (fun hq=>?_) fun hq=>?_|exact True.intro)
 refine ab hK [] [0,1,7,8,9] (fun i:Nat=>⟨[(0,.lst (.int .i64) c),(1,.lst (.int .i64) ms),(7,.lst (.int .i64) ms),(8,.int .i64 ms.length),(9,.int .i64 i)],[],4⟩) (fun i=>i≤ms.length∧∀j,j<i→fR c ms j=true) (fun i=>ms.length-i) 0 ⟨by simp,by simp⟩ rfl ?_
 rintro i ⟨hi,hall⟩
 have hno:fR c ms i=false→i<ms.length→V.bool false=V.bool (cd c ms)∧([]:VH)=[]:=fun h1 h2=>by
  have:cd c ms=false:=cy h2 h1
  rw[this]
  exact⟨rfl,rfl⟩
 by_cases hlt:i<ms.length
 ·have hxe:ms[i]?=some ms[i]:=List.getElem?_eq_getElem hlt
  have hA:fR c ms i=(bY c ms[i] && (i==0||decide (ms.getD (i-1) 0<ms[i]))):=by simp only[fR,aU hxe]
  have hyes:fR c ms i=true→∃y,(y≤ms.length∧∀j,j<y→fR c ms j=true)∧ms.length-y<ms.length-i∧VSt.mk [(0,.lst (.int .i64) c),(1,.lst (.int .i64) ms),(7,.lst (.int .i64) ms),(8,.int .i64 ms.length),(9,.int .i64 ((i:Int)+1))] [] 4=⟨[(0,.lst (.int .i64) c),(1,.lst (.int .i64) ms),(7,.lst (.int .i64) ms),(8,.int .i64 ms.length),(9,.int .i64 (y:Int))],[],4⟩:=fun h=>⟨i+1,⟨by omega,bt hall h⟩,by omega,rfl⟩
  generalize ms[i]=m at *
  cases h1:bY c m
  ·(repeat' first|refine st ?_|refine sa fun xe hxe=>?_|refine sb (fun hq=>?_) fun hq=>?_|refine cr (dN _ _) ?_|exact True.intro)
   exact hno (by rw[hA,h1];rfl) hlt
  by_cases hi0:i=0
  ·(repeat' first|refine st ?_|refine sa fun xe hxe=>?_|refine sb (fun hq=>?_) fun hq=>?_|refine cr (dN _ _) ?_|exact True.intro)
   exact hyes (by rw[hA,h1];simp[hi0])
  ·have hye:ms[((i:Int)-1).toNat]?=some (ms.getD (i-1) 0):=by rw[show ((i:Int)-1).toNat=i-1 by omega,List.getD_eq_getElem?_getD,List.getElem?_eq_getElem (show i-1<ms.length by omega)];rfl
   generalize ms.getD (i-1) 0=u at *
   (repeat' first|refine st ?_|refine sa fun xe hxe=>?_|refine sb (fun hq=>?_) fun hq=>?_|refine cr (dN _ _) ?_|exact True.intro)
   ·exact hno (by rw[hA,h1];simp;omega) hlt
   ·exact hyes (by rw[hA,h1];simp;omega)
 ·(repeat' first|refine st ?_|refine sa fun xe hxe=>?_|refine sb (fun hq=>?_) fun hq=>?_|exact True.intro)
  refine⟨?_,rfl⟩
  have:i=ms.length:=by omega
  subst this
  have:cd c ms=true:=bO hall
  rw[this]
theorem nH (c ms:List Int):af Tryz.prog 65 [.lst (.int .i64) c,.lst (.int .i64) ms] [] (.bool (comV c && cd c ms)) []:=by
 refine aa al Tryz.func65 rfl rfl false 0 4 rfl rfl rfl rfl fun K hK hb1 hb2=>?_;simp only[ae,enc,Nat.reduceAdd]
 (repeat' first|refine st ?_|refine sa fun xe hxe=>?_|refine sb (fun hq=>?_) fun hq=>?_|refine cr (oO _) ?_|refine cr (DM _ _) ?_|exact True.intro)
 all_goals (refine⟨?_,rfl⟩;simp_all)
theorem vS (c ms:List Int)(hc:comV c=true)(hm:∀m∈ms,0≤m∧m<c.length)(hl:ms.length≤2000000):af Tryz.prog 66 [.lst (.int .i64) c,.lst (.int .i64) ms] [] (.int .i64 (cR c ms)) []:=by
 refine aa al Tryz.func66 rfl rfl false 0 4 rfl rfl rfl rfl fun K hK hb1 hb2=>?_;simp only[ae,enc,Nat.reduceAdd]
 clear hb1 hb2
 (repeat' first|refine st ?_|refine sa fun xe hxe=>?_|refine sb (fun hq=>?_) fun hq=>?_|exact True.intro)
 refine ab hK [] [0,1,5,8,9,10] (fun i:Nat=>⟨[(0,.lst (.int .i64) c),(1,.lst (.int .i64) ms),(5,.int .i64 (cR c (ms.take i))),(8,.lst (.int .i64) ms),(9,.int .i64 ms.length),(10,.int .i64 i)],[],4⟩) (fun i=>i≤ms.length) (fun i=>ms.length-i) 0 (by simp) rfl ?_
 intro i hi
 by_cases hlt:i<ms.length
 ·have hxe:ms[i]?=some ms[i]:=List.getElem?_eq_getElem hlt
  have h1:=hm _ (List.getElem_mem hlt)
  have h2:=wJ (ms:=ms.take i) hc
  have h3:=CJ (c:=c) hxe
  rw[List.length_take] at h2
  generalize ms[i]=m at *
  have hx2:c[m.toNat]?=some (c.getD m.toNat 0):=by rw[List.getD_eq_getElem?_getD,List.getElem?_eq_getElem (show m.toNat<c.length by omega)];rfl
  have h4:=(ao.1 hc).1 _ (List.mem_of_getElem? hx2)
  generalize c.getD m.toNat 0=x at *
  (repeat' first|refine st ?_|refine sa fun xe hxe=>?_|refine sb (fun hq=>?_) fun hq=>?_|exact True.intro)
  exact⟨i+1,by omega,by omega,by rw[h3];rfl⟩
 (repeat' first|refine st ?_|refine sa fun xe hxe=>?_|refine sb (fun hq=>?_) fun hq=>?_|exact True.intro)
 rw[List.take_of_length_le (by omega)]
 exact⟨rfl,rfl⟩
def pR (c ms:List Int):Int:=if comV c && cd c ms then cR c ms else-1
theorem nI (c ms:List Int):af Tryz.prog 24 [.lst (.int .i64) c,.lst (.int .i64) ms] [] (.int .i64 (pR c ms)) []:=by
 refine aa al Tryz.func24 rfl rfl false 0 4 rfl rfl rfl rfl fun K hK hb1 hb2=>?_;simp only[ae,enc,Nat.reduceAdd]
 cases hv:comV c && cd c ms
 ·(repeat' first|refine st ?_|refine sa fun xe hxe=>?_|refine sb (fun hq=>?_) fun hq=>?_|refine cr (nH _ _) ?_|exact True.intro)
  exact⟨by simp[pR,hv],rfl⟩
 ·have hc:comV c=true:=by simp_all
  have hm:cd c ms=true:=by simp_all
  have h7:=(ao.1 hc).2
  have hl:=dA hm
  (repeat' first|refine st ?_|refine sa fun xe hxe=>?_|refine sb (fun hq=>?_) fun hq=>?_|refine cr (nH _ _) ?_|((with_reducible refine bl ?_);(conv=>whnf);(first|with_reducible refine bF (vS _ _ hc (bf hm) (by omega)) ?_);conv=>whnf)|exact True.intro)
  exact⟨by simp[pR,hv],rfl⟩
theorem rL (v u:Vtx):af Tryz.prog 180 [bA v,bA u] [] (.bool (bef v u)) []:=by
 refine aa al Tryz.func180 rfl rfl false 0 4 rfl rfl rfl rfl fun K hK hb1 hb2=>?_;simp only[ae,enc,Nat.reduceAdd]
 (repeat' first|refine st ?_|refine sa fun xe hxe=>?_|refine sb (fun hq=>?_) fun hq=>?_|exact True.intro)
 all_goals (refine⟨?_,rfl⟩;simp_all[bef])
theorem gA (c:List Int)(v:Vtx):af Tryz.prog 155 [.lst (.int .i64) c,bA v] [] (.bool (comV c && vtxS c v)) []:=by
 refine aa al Tryz.func155 rfl rfl false 0 4 rfl rfl rfl rfl fun K hK hb1 hb2=>?_;simp only[ae,enc,Nat.reduceAdd]
 simp[ah,V.toD,bnd,ag,D.cells] at hb1
 have h8:((v.parents.length:Int)==0)=(v.parents.length==0):=by rw[Bool.eq_iff_iff,beq_iff_eq,beq_iff_eq];omega
 (repeat' first|refine st ?_|refine sa fun xe hxe=>?_|refine sb (fun hq=>?_) fun hq=>?_|refine cr (nH _ _) ?_|refine cr (kH _) ?_|refine cr (dN _ _) ?_|refine cr (Gi _) ?_|refine cr (nI _ _) ?_|refine cr (rN _) ?_|exact True.intro)
 all_goals (refine⟨?_,rfl⟩;simp_all[vtxS,bY,pR])

end Go.Proofs.YthmfppknagbkeaaGreatDoor.Am
