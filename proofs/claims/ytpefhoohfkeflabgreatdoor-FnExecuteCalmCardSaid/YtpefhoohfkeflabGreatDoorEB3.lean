/- The plain machine: a region, in whatever order its operations are carried out. The plain machine: what a code does to a state; regions, control. The plain machine: what is no more wanted is forgotten; a function's contract from its code. The plain machine: operands, literals, parts. The plain machine with types: kinds of data, values, blocks. The plain machine with types: what is known of the program's types; the parts of a step. The plain machine with types: what a step does to the blocks; loads. The plain machine with types: what is done ahead of an operation: rows are frozen, blocks are mov -/
import Derived.Test.YtpefhoohfkeflabGreatDoorEB2
set_option linter.unusedSimpArgs false
set_option linter.unusedVariables false
set_option maxHeartbeats 1000000
namespace Go.Proofs.YtpefhoohfkeflabGreatDoor.Am
open Go Go.RowKit
variable {P:Program} {w0:World} {S:SD} {A:Nat→Prop} {N:Nat} {ρ:Id→Pl} {t:List (Nat×D)} {h h':HL} {a:Act} {w:World}
def dt (ops:Array Oper)(t:List (Nat×D))(o:Oper):Option Bool:=
 match o.guard with
 |none=>some true
 |some (g,want)=>(match(ops[g]?).bind (·.dst) with
  |some k=>(match look t k with
   |some (.bool b)=>some (b==want)
   |some (.tup [])=>some false
   |_=>none)
  |none=>none)
theorem Sim.guard (s:Sim P w0 S A N ρ t h a w){ops:Array Oper}{o:Oper}{b:Bool}(hg:dt ops t o=some b):Region.wanted o (yielded ops a.tmps)=b:=by
 unfold dt at hg
 unfold Region.wanted yielded
 split at hg
 ·rename_i e
  simp only[aw] at hg
  rw[e,←hg]
 ·rename_i g want e
  rw[e]
  split at hg
  ·rename_i k hk
   split at hg
   ·rename_i bb hb
    simp only[aw] at hg
    obtain⟨hlt,hc⟩:=s.tmp k _ hb
    have hv:=hc.bool_inv
    have hlt':k<a.tmps.size:=by rw[s.size];exact hlt
    have:a.tmps[k]?=some (.bool bb):=by
     rw[eK hlt']
     simpa[bK,hlt'] using hv
    simp only[hk,bc,this]
    rw[←hg]
    cases bb<;>cases want<;>rfl
   ·rename_i hb
    simp only[aw] at hg
    obtain⟨hlt,hc⟩:=s.tmp k _ hb
    obtain⟨vs,hv,-,-⟩:=hc.tup_inv
    have hlt':k<a.tmps.size:=by rw[s.size];exact hlt
    have:a.tmps[k]?=some (.tuple vs):=by
     rw[eK hlt']
     simpa[bK,hlt'] using hv
    simp only[hk,bc,this]
    rw[←hg]
    cases want<;>rfl
   ·cases hg
  ·cases hg
def TRun (P:Program)(ops:Array Oper)(N:Nat)(t:List (Nat×D))(h:HL)(n:Nat):List (Oper×Rc)→Prop
 |[]=>True
 |(o,r)::l=>(r.n=n∧n≤r.n'∧(∀x∈r.u,x.1.1<r.n')∧(∀d,o.dst=some d→d<N))∧
   ((dt ops t o=some true∧OpS P N o t h r.d r.u r.f)∨(dt ops t o=some false∧r.d= .tup []∧r.u=[]∧r.f=[]))∧
   TRun P ops N (iu o.dst r.d t) (puts r.u h) r.n' l
theorem wl (m:Nat→Bool):∀(l:List (Oper×Rc)) (k:Nat) (t:List (Nat×D)),(∀i,k≤i→m i=false)→kh m k l t=t
 |[],k,t,_=>rfl
 |(o,r)::l,k,t,hm=>by
  show kh m (k+1) l (if m k=true then iu o.dst r.d t else t)=t
  rw[hm k (ax _)]
  exact wl m l (k+1) t fun i hi=>hm i (by omega)
theorem wk (m:Nat→Bool):∀(l:List (Oper×Rc)) (k:Nat) (t:HL),(∀i,k≤i→m i=false)→js m k l t=t
 |[],k,t,_=>rfl
 |(o,r)::l,k,t,hm=>by
  show js m (k+1) l (if m k=true then puts r.u t else t)=t
  rw[hm k (ax _)]
  exact wk m l (k+1) t fun i hi=>hm i (by omega)
theorem TRun.at {ops:Array Oper}:∀{l:List (Oper×Rc)} {k n:Nat} {t:List (Nat×D)} {h:HL},TRun P ops N t h n l→(∀b:Id,n≤b.1→look h b=none)→∀{j:Nat} {o:Oper} {r:Rc},l[j]?=some (o,r)→
  ∃tj hj,tj=kh (fun i=>decide (i<k+j)) k l t∧hj=js (fun i=>decide (i<k+j)) k l h∧(∀b:Id,r.n≤b.1→look hj b=none)∧n≤r.n∧(r.n≤r.n'∧(∀x∈r.u,x.1.1<r.n')∧(∀d,o.dst=some d→d<N))∧
   ((dt ops tj o=some true∧OpS P N o tj hj r.d r.u r.f)∨(dt ops tj o=some false∧r.d= .tup []∧r.u=[]∧r.f=[]))
 |[],_,_,_,_,_,_,j,o,r,hj=>by simp at hj
 |(o0,r0)::l,k,n,t,h,hT,hn,j,o,r,hj=>by
  obtain⟨⟨rfl,h1,h2,h3⟩,h4,h5⟩:=hT
  cases j with
  |zero=>
   simp only[iQ,aw,a7] at hj
   obtain⟨rfl,rfl⟩:=hj
   exact⟨t,h,(wl _ _ _ _ fun i hi=>by simp;omega).symm,(wk _ _ _ _ fun i hi=>by simp;omega).symm,hn,ax _,⟨h1,h2,h3⟩,h4⟩
  |succ j=>
   have hn':∀b:Id,r0.n'≤b.1→look (puts r0.u h) b=none:=by
    intro b hb
    rw[aN _ _ _ fun x hx e=>by have:=h2 x hx;rw[e] at this;omega]
    exact hn b (by omega)
   obtain⟨tj,hj',e1,e2,e3,e4,e5,e6⟩:=TRun.at (k:=k+1) h5 hn' (j:=j) (o:=o) (r:=r) (by simpa using hj)
   refine⟨tj,hj',?_,?_,e3,by omega,e5,e6⟩
   ·rw[e1]
    show _=kh _ (k+1) l (if decide (k<k+(j+1))=true then iu o0.dst r0.d t else t)
    rw[if_pos (by simp)]
    congr 1
    funext i
    congr 1
    simp only[eq_iff_iff]
    omega
   ·rw[e2]
    show _=js _ (k+1) l (if decide (k<k+(j+1))=true then puts r0.u h else h)
    rw[if_pos (by simp)]
    congr 1
    funext i
    congr 1
    simp only[eq_iff_iff]
    omega
theorem nc:∀(u:HL) (h:HL) (b:Id),Live h b→Live (puts u h) b
 |[],h,b,hb=>hb
 |x::u,h,b,hb=>nc u _ b hb.put
theorem kO (m:Nat→Bool):∀(l:List (Oper×Rc)) (k:Nat) (h:HL) (b:Id),Live h b→Live (js m k l h) b
 |[],k,h,b,hb=>hb
 |(o,r)::l,k,h,b,hb=>by
  refine kO m l (k+1) _ b ?_
  split
  ·exact nc _ _ _ hb
  ·exact hb
def M5 (dep:Nat→List Nat)(L:List (Oper×Rc)):Prop:=
 ∀i j oi ri oj rj,i<j→L[i]?=some (oi,ri)→L[j]?=some (oj,rj)→(dep j).contains i=false→
  (∀x∈ri.u,x.1.1∉rj.f∧∀y∈rj.u,x.1.1≠y.1.1)∧(∀x∈rj.u,x.1.1∉ri.f)
def iZ (listed:Array Bool)(i:Nat):Bool:=listed.getD i false
theorem sy {t t':List (Nat×D)}{x:Operand}(h:∀k,x= .tmp k→look t k=look t' k):aY t x=aY t' x:=by
 cases x with
 |tmp k=>exact h k rfl
 |_=>rfl
theorem t8 {ops:Array Oper}{o:Oper}{k:Nat}(hx:Operand.tmp k∈o.op.operands):k∈o.looksAt ops:=
 eq _ (List.mem_filterMap.2 ⟨.tmp k,lD.2 hx,rfl⟩)
theorem ow {ops:Array Oper}{o:Oper}{t t':List (Nat×D)}(h:∀k∈o.looksAt ops,look t k=look t' k):dt ops t o=dt ops t' o:=by
 unfold dt
 split
 ·rfl
 ·rename_i g want e
  split
  ·rename_i k hk
   rw[h k (eL _ (by simp only[e];rw[hk];simp))]
  ·rfl
set_option maxHeartbeats 1000000 in
theorem Ak {ops:Array Oper}{dep:Nat→List Nat}{Q:Exit→Act→World→Prop}{L:List (Oper×Rc)}{t0:List (Nat×D)}{h0:HL}{n0:Nat}(hok:Reg.okB ops dep=true)(hL:L.map (·.1)=ops.toList)
  (hT:TRun P ops N t0 h0 n0 L) (hn:∀b:Id,n0≤b.1→look h0 b=none) (hC:M5 dep L) {ρ0:Id→Pl} {L0:Id→Prop} (hK:∀b,L0 b→Live h0 b)
  (hQ:∀ρ a w,(∀b,L0 b→ρ b=ρ0 b)→Sim P w0 S A N ρ (kh (fun _=>true) 0 L t0) (js (fun _=>true) 0 L h0) a w→Q .normal a w):
  ∀(fuel:Nat) (R:List Nat) (listed:Array Bool) (a:Act) (w:World) (ρ:Id→Pl),R.length≤fuel→listed.size=ops.size→(∀i,i<ops.size→iZ listed i=false→i∈R)→
   (∀k o,ops[k]?=some o→iZ listed k=true→∀e∈o.after,Region.binds .any e=true→iZ listed e.on=true)→
   (∀b,L0 b→ρ b=ρ0 b)→Sim P w0 S A N ρ (kh (iZ listed) 0 L t0) (js (iZ listed) 0 L h0) a w→wpAny P .any ops Q fuel listed a w:=by
 have hLg:∀i:Nat,(L[i]?).map (fun x:Oper×Rc=>x.1)=ops[i]?:=by
  intro i
  have:=congrArg (fun l:List Oper=>l[i]?) hL
  simpa using this
 have hLo:∀i o r,L[i]?=some (o,r)→ops[i]?=some o:=fun i o r h=>by rw[←hLg i,h];rfl
 have hoL:∀i o,ops[i]?=some o→∃r,L[i]?=some (o,r):=fun i o h=>by
  have e:=hLg i
  rw[h] at e
  obtain⟨⟨o',r⟩,h1,h2⟩:=bj.1 e
  simp only at h2
  subst h2
  exact⟨r,h1⟩
 have fin:∀(listed:Array Bool) (a:Act) (w:World) (ρ:Id→Pl),(∀i,i<ops.size→iZ listed i=true)→(∀b,L0 b→ρ b=ρ0 b)→Sim P w0 S A N ρ (kh (iZ listed) 0 L t0) (js (iZ listed) 0 L h0) a w→Q .normal a w:=by
  intro listed a w ρ hall hρ s
  have hi:∀i o r,L[i]?=some (o,r)→iZ listed (0+i)≠(fun _=>true) (0+i)→False:=by
   intro i o r hl hne
   have:=hLo i o r hl
   exact hne (by simpa using hall i (Hl.1 this).1)
  exact hQ ρ a w hρ (s.congr (fun x=>(mn L 0 t0 fun i o r hl hne=>(hi i o r hl hne).elim).symm) fun b=>(kP L 0 h0 fun i o r hl hne=>(hi i o r hl hne).elim).symm)
 have stuck:∀(listed:Array Bool),listed.size=ops.size→Region.ready .any ops listed=[]→∀i,i<ops.size→iZ listed i=true:=by
  intro listed hsz hr i
  induction i using Nat.strongRecOn with
  |_ i ih=>
   intro hi
   cases hm:iZ listed i with
   |true=>rfl
   |false=>
    exfalso
    have ho:ops[i]?=some ops[i]:=eK hi
    have:i∈Region.ready .any ops listed:=by
     refine eM.2 ⟨eN.2 hi,?_⟩
     have e1:listed.getD i true=false:=by
      have hi':i<listed.size:=by omega
      unfold iZ at hm
      simp only[bK,eK hi',d7] at hm⊢
      exact hm
     rw[e1,ho]
     simp only[aI,d7,Bool.not_false,d9,Array.all_eq_true']
     intro e he
     cases hb:Region.binds .any e with
     |false=>rfl
     |true=>
      have hlt:=Reg.okB_back hok ho e he hb
      have:=ih e.on hlt (by omega)
      simpa[iZ] using this
    rw[hr] at this
    cases this
 have anc:∀(listed:Array Bool),(∀k o,ops[k]?=some o→iZ listed k=true→∀e∈o.after,Region.binds .any e=true→iZ listed e.on=true)→
   ∀k o,ops[k]?=some o→(∀e∈o.after,Region.binds .any e=true→iZ listed e.on=true)→∀j,(dep k).contains j=true→iZ listed j=true:=by
  intro listed hdc k
  induction k using Nat.strongRecOn with
  |_ k ih=>
   intro o ho hr j hj
   obtain⟨e,he,hb,hc⟩:=Reg.okB_dep hok ho hj
   have h1:=hr e he hb
   rcases hc with rfl|hc
   ·exact h1
   ·have hlt:=Reg.okB_back hok ho e he hb
    have hk:=(Hl.1 ho).1
    have ho':ops[e.on]?=some ops[e.on]:=eK (by omega)
    exact ih e.on hlt _ ho' (hdc _ _ ho' h1) j (by simpa using hc)
 intro fuel
 induction fuel with
 |zero=>
  intro R listed a w ρ hR hsz hin hdc hρ s
  have hnil:R=[]:=tK (by omega)
  have hall:∀i,i<ops.size→iZ listed i=true:=fun i hi=>by
   cases hm:iZ listed i with
   |true=>rfl
   |false=>have:=hin i hi hm;rw[hnil] at this;cases this
  refine⟨?_,fin listed a w ρ hall hρ s⟩
  unfold Region.ready
  rw[List.filter_eq_nil_iff]
  intro i hi
  have hi':i<listed.size:=by have:=eN.1 hi;omega
  have:=hall i (eN.1 hi)
  unfold iZ at this
  simp only[bK,eK hi',d7] at this⊢
  simp[this]
 |succ fuel ih=>
  intro R listed a w ρ hR hsz hin hdc hρ s
  refine⟨fun hr=>fin listed a w ρ (stuck listed hsz hr) hρ s,fun j hj=>?_⟩
  obtain⟨hjr,hjc⟩:=eM.1 hj
  have hjlt:=eN.1 hjr
  have ho:ops[j]?=some ops[j]:=eK hjlt
  generalize ops[j]=o at ho
  rw[ho] at hjc
  simp only[aI,d7,az,Array.all_eq_true'] at hjc
  obtain⟨hjn,hja⟩:=hjc
  have hmj:iZ listed j=false:=by
   have hi':j<listed.size:=by omega
   unfold iZ
   simp only[bK,eK hi',d7] at hjn⊢
   simpa using hjn
  have hwait:∀e∈o.after,Region.binds .any e=true→iZ listed e.on=true:=by
   intro e he hb
   have:=hja e he
   rw[hb] at this
   simpa[iZ] using this
  obtain⟨r,hl⟩:=hoL j o ho
  obtain⟨tj,hj',e1,e2,e3,_,⟨e4,e5,e6⟩,e7⟩:=hT.at (k:=0) hn hl
  simp only[e8] at e1 e2
  have diff:∀i oi ri,L[i]?=some (oi,ri)→iZ listed (0+i)≠decide (0+i<j)→i≠j∧
    ((∀d,oi.dst=some d→d∉o.looksAt ops∧o.dst≠some d)∧(∀y∈ri.u,y.1.1∉r.f∧∀x∈r.u,y.1.1≠x.1.1)):=by
   intro i oi ri hi hne
   simp only[e8] at hne
   have hoi:=hLo i oi ri hi
   by_cases hij:i<j
   ·have hmi:iZ listed i=false:=by
     cases hm:iZ listed i with
     |false=>rfl
     |true=>exact absurd (by simp[hm,hij]) hne
    refine⟨by omega,?_,?_⟩
    ·rcases Reg.okB_apart hok ho hoi hij with⟨e,he,hb,hon⟩|hap
     ·have:=hwait e he hb
      rw[hon,hmi] at this;cases this
     ·have hsp:=Oper.apart_spec hap
      exact fun d hd=>⟨hsp.1 d hd,hsp.2.1 d hd⟩
    ·cases hdp:(dep j).contains i with
     |true=>have:=anc listed hdc j o ho hwait i hdp;rw[hmi] at this;cases this
     |false=>exact fun y hy=>(hC i j oi ri o r hij hi hl hdp).1 y hy
   ·have hmi:iZ listed i=true:=by
     cases hm:iZ listed i with
     |true=>rfl
     |false=>exact absurd (by simp[hm,hij]) hne
    have hne':i≠j:=by rintro rfl;rw[hmj] at hmi;cases hmi
    have hji:j<i:=by omega
    refine⟨hne',?_,?_⟩
    ·rcases Reg.okB_apart hok hoi ho hji with⟨e,he,hb,hon⟩|hap
     ·have:=hdc i oi hoi hmi e he hb
      rw[hon,hmj] at this;cases this
     ·have hsp:=Oper.apart_spec hap
      exact fun d hd=>⟨hsp.2.2 d hd,fun he=>hsp.2.1 d he hd⟩
    ·cases hdp:(dep i).contains j with
     |true=>have:=anc listed hdc i oi hoi (hdc i oi hoi hmi) j hdp;rw[hmj] at this;cases this
     |false=>
      have hc:=hC j i o r oi ri hji hl hi hdp
      exact fun y hy=>⟨hc.2 y hy,fun x hx he=>(hc.1 x hx).2 y hy he.symm⟩
  have hTl:∀k∈o.looksAt ops,look (kh (iZ listed) 0 L t0) k=look tj k:=by
   intro k hk
   rw[e1]
   exact mn L 0 t0 fun i oi ri hi hne hd=>(((diff i oi ri hi hne).2.1 k hd).1) hk
  have hHf:∀b:Id,b.1∈r.f→look (js (iZ listed) 0 L h0) b=look hj' b:=by
   intro b hb
   rw[e2]
   refine kP L 0 h0 fun i oi ri hi hne y hy he=>?_
   have:=(diff i oi ri hi hne).2.2 y hy
   exact this.1 (he▸hb)
  have hgd:dt ops (kh (iZ listed) 0 L t0) o=dt ops tj o:=ow hTl
  have hmask:∀i,iZ (listed.setIfInBounds j true) i=dJ (iZ listed) j i:=by
   intro i
   have hj2:j<listed.size:=by omega
   unfold dJ iZ
   by_cases e:j=i
   ·subst e;simp[bK,hj2]
   ·have:(i==j)=false:=by simp[cm e]
    rw[this,kf]
    simp[bK,wG e]
  have hKl:∀b,L0 b→Live (js (iZ listed) 0 L h0) b:=fun b hb=>kO _ L 0 h0 b (hK b hb)
  have next:∀(ρ':Id→Pl) (v:Value) (w':World),Ext (js (iZ listed) 0 L h0) ρ ρ'→Sim P w0 S A N ρ' (iu o.dst r.d (kh (iZ listed) 0 L t0)) (puts r.u (js (iZ listed) 0 L h0)) (a.put o.dst v) w'→wpAny P .any ops Q fuel (listed.setIfInBounds j true) (a.put o.dst v) w':=by
   intro ρ' v w' hex s'
   refine ih (R.erase j) _ _ _ ρ' ?_ (by simpa using hsz) ?_ ?_ (fun b hb=>(hex b (hKl b hb)).trans (hρ b hb)) ?_
   ·rw[List.length_erase_of_mem (hin j hjlt hmj)];omega
   ·intro i hi hm
    rw[hmask] at hm
    simp only[dJ,Bool.or_eq_false_iff,beq_eq_false_iff_ne] at hm
    exact(List.mem_erase_of_ne hm.2).2 (hin i hi hm.1)
   ·intro k o' ho' hm e he hb
    rw[hmask] at hm⊢
    simp only[dJ,cN,beq_iff_eq] at hm⊢
    rcases hm with hm|rfl
    ·exact .inl (hdc k o' ho' hm e he hb)
    ·rw[ho] at ho'
     obtain rfl:=aq ho'
     exact .inl (hwait e he hb)
   ·have hfun:iZ (listed.setIfInBounds j true)=dJ (iZ listed) j:=funext hmask
    rw[hfun]
    refine s'.congr (fun x=>Cm hmj L 0 t0 (aX _) (by simpa using hl) (fun i oi ri hi hlt hm x hx hd=>?_) x) (fun b=>Cl hmj L 0 h0 (aX _) (by simpa using hl) (fun i oi ri hi hlt hm x hx y hy he=>?_) b)
    ·have hd':=diff i oi ri hi (by rw[hm];simp;omega)
     exact(hd'.2.1 x hd).2 hx
    ·have hd':=diff i oi ri hi (by rw[hm];simp;omega)
     exact(hd'.2.2 y hy).2 x hx (congrArg Prod.fst he.symm)
  unfold wpOp
  rw[ho]
  simp only
  rcases e7 with⟨g1,g2⟩|⟨g1,g2,g3,g4⟩
  ·rw[s.guard (hgd.trans g1)]
   simp only[if_true]
   left
   have hw:=g2 (kh (iZ listed) 0 L t0) (js (iZ listed) 0 L h0) (fun x hx=>(sy fun k hk=>hTl k (t8 (by rw[←hk];exact hx))).symm) (fun b hb=>(hHf b hb).symm) w0 S A ρ a w s
   refine Reg.wp_exit_mono (K:=tN P w0 S A N ρ (kh (iZ listed) 0 L t0) (js (iZ listed) 0 L h0) (puts r.u (js (iZ listed) 0 L h0)) a o.dst r.d) ?_ hw
   rintro a' w' ⟨v,ρ',rfl,hex,h1,h2⟩
   exact next ρ' v w' hex (h1.putO e6 h2)
  ·rw[s.guard (hgd.trans g1)]
   simp only[eY,if_false]
   refine next ρ undef w (Ext.refl _ _) ?_
   rw[g2,g3]
   exact s.putO e6 (.tup [] #[] rfl fun i hi=>absurd hi (Nat.not_lt_zero i))
end Go.Proofs.YtpefhoohfkeflabGreatDoor.Am
namespace Go.Proofs.YtpefhoohfkeflabGreatDoor.Am
open Go Go.RowKit
variable {P:Program} {N:Nat}
structure St where
 t:List (Nat×D)
 h:HL
 n:Nat
def SimS (P:Program)(w0:World)(S:SD)(A:Nat→Prop)(N:Nat)(ρ0:Id→Pl)(K:Id→Prop)(σ:St)(a:Act)(w:World):Prop:=
 (∀b:Id,σ.n≤b.1→look σ.h b=none)∧(∀b,K b→Live σ.h b)∧∃ρ,(∀b,K b→ρ b=ρ0 b)∧Sim P w0 S A N ρ σ.t σ.h a w
def ij (P:Program)(N:Nat)(K:Id→Prop)(σ:St):Prop:=∃w0 S A ρ0 a w,SimS P w0 S A N ρ0 K σ a w
def Brings (P:Program)(N:Nat)(K:Id→Prop)(c:Code)(σ:St)(e:Exit)(σ':St):Prop:=
 ∀w0 S A ρ0 a w,SimS P w0 S A N ρ0 K σ a w→c.wp P (fun e' a' w'=>e'=e∧SimS P w0 S A N ρ0 K σ' a' w') a w
variable {K:Id→Prop} {σ σ1 σ2:St} {e:Exit}
def Weak (P:Program)(N:Nat)(K:Id→Prop)(σ σ':St):Prop:=∀w0 S A ρ0 a w,SimS P w0 S A N ρ0 K σ a w→SimS P w0 S A N ρ0 K σ' a w
theorem Weak.refl:Weak P N K σ σ:=fun _ _ _ _ _ _ h=>h
theorem Weak.trans (h:Weak P N K σ σ1)(k:Weak P N K σ1 σ2):Weak P N K σ σ2:=fun w0 S A ρ0 a w hs=>k w0 S A ρ0 a w (h w0 S A ρ0 a w hs)
theorem Brings.pre {c:Code}(hw:Weak P N K σ σ1)(h:Brings P N K c σ1 e σ2):Brings P N K c σ e σ2:=fun w0 S A ρ0 a w hs=>h w0 S A ρ0 a w (hw w0 S A ρ0 a w hs)
theorem Brings.post {c:Code}(h:Brings P N K c σ e σ1)(hw:Weak P N K σ1 σ2):Brings P N K c σ e σ2:=
 fun w0 S A ρ0 a w hs=>wp_mono (h w0 S A ρ0 a w hs) fun _ a' w' ⟨h1,h2⟩=>⟨h1,hw w0 S A ρ0 a' w' h2⟩
theorem Brings.skip:Brings P N K .skip σ .normal σ:=fun _ _ _ _ _ _ hs=>wp_skip ⟨rfl,hs⟩
theorem Brings.ret:Brings P N K .ret σ .ret σ:=fun _ _ _ _ _ _ hs=>wp_ret ⟨rfl,hs⟩
theorem Brings.exit {id:Nat}:Brings P N K (.exit id) σ (.exit id) σ:=fun _ _ _ _ _ _ hs=>wp_exit ⟨rfl,hs⟩
theorem Brings.seqN {x y:Code}(h1:Brings P N K x σ .normal σ1)(h2:Brings P N K y σ1 e σ2):Brings P N K (.seq x y) σ e σ2:=by
 intro w0 S A ρ0 a w hs
 refine wp_seq (wp_mono (h1 w0 S A ρ0 a w hs) ?_)
 rintro e' a' w' ⟨rfl,h⟩
 exact h2 w0 S A ρ0 a' w' h
theorem Brings.seqX {x y:Code}(hne:e≠ .normal)(h1:Brings P N K x σ e σ1):Brings P N K (.seq x y) σ e σ1:=by
 intro w0 S A ρ0 a w hs
 refine wp_seq (wp_mono (h1 w0 S A ρ0 a w hs) ?_)
 rintro e' a' w' ⟨rfl,h⟩
 cases e'<;>first|exact absurd rfl hne|exact⟨rfl,h⟩
theorem Brings.blockE {id:Nat}{c:Code}(h:Brings P N K c σ (.exit id) σ1):Brings P N K (.block id c) σ .normal σ1:=by
 intro w0 S A ρ0 a w hs
 refine wp_block (wp_mono (h w0 S A ρ0 a w hs) ?_)
 rintro e' a' w' ⟨rfl,h⟩
 simp only[Exit.inBlock,if_true]
 exact⟨trivial,h⟩
theorem Brings.blockX {id:Nat}{c:Code}(hne:e≠ .exit id)(h:Brings P N K c σ e σ1):Brings P N K (.block id c) σ e σ1:=by
 intro w0 S A ρ0 a w hs
 refine wp_block (wp_mono (h w0 S A ρ0 a w hs) ?_)
 rintro e' a' w' ⟨rfl,hk⟩
 cases e' with
 |exit id'=>
  have:id'≠id:=fun h=>hne (by rw[h])
  simp only[Exit.inBlock,if_neg this]
  exact⟨trivial,hk⟩
 |_=>exact⟨rfl,hk⟩
theorem Brings.condT {c:Operand}{x y:Code}(hc:aY σ.t c=some (.bool true))(h:Brings P N K x σ e σ1):Brings P N K (.cond c x y) σ e σ1:=by
 intro w0 S A ρ0 a w hs
 obtain⟨_,_,ρ,_,s⟩:=id hs
 exact wp_cond_split (s.eval hc).bool_inv (fun _=>h w0 S A ρ0 a w hs) (fun hb=>by cases hb)
theorem Brings.condF {c:Operand}{x y:Code}(hc:aY σ.t c=some (.bool false))(h:Brings P N K y σ e σ1):Brings P N K (.cond c x y) σ e σ1:=by
 intro w0 S A ρ0 a w hs
 obtain⟨_,_,ρ,_,s⟩:=id hs
 exact wp_cond_split (s.eval hc).bool_inv (fun hb=>by cases hb) (fun _=>h w0 S A ρ0 a w hs)
inductive LoopB (P:Program) (N:Nat) (K:Id→Prop) (c:Code):St→Exit→St→Prop where
 |out {σ:St} {e:Exit} {σ1:St} (hne:e≠ .normal) (h:Brings P N K c σ e σ1):LoopB P N K c σ e σ1
 |round {σ σ1 σ2:St} {e:Exit} (h:Brings P N K c σ .normal σ1) (k:LoopB P N K c σ1 e σ2):LoopB P N K c σ e σ2
 |pre {σ σ1 σ2:St} {e:Exit} (h:Weak P N K σ σ1) (k:LoopB P N K c σ1 e σ2):LoopB P N K c σ e σ2
theorem LoopB.go {c:Code}(h:LoopB P N K c σ e σ1):∀w0 S A ρ0 a w,SimS P w0 S A N ρ0 K σ a w→∀(b:Frame) (k:List Item) (cs:List Frame),
  ∃e' a' w',(e'=e∧SimS P w0 S A N ρ0 K σ1 a' w')∧Arrives P (lone (b.at a (.code c:: .inLoop c::k)) cs w) b k cs e' a' w':=by
 induction h with
 |out hne h=>
  intro w0 S A ρ0 a w hs b k cs
  obtain⟨e',a',w',⟨rfl,h1⟩,h2⟩:=h w0 S A ρ0 a w hs b (.inLoop c::k) cs
  exact⟨e',a',w',⟨rfl,h1⟩,.pass (x:=.inLoop c) rfl (fun _ _=>.inl hne) h2⟩
 |round h _ ih=>
  intro w0 S A ρ0 a w hs b k cs
  obtain⟨e',a',w',⟨rfl,h1⟩,h2⟩:=h w0 S A ρ0 a w hs b (.inLoop c::k) cs
  obtain⟨e2,a2,w2,h3,h4⟩:=ih w0 S A ρ0 a' w' h1 b k cs
  exact⟨e2,a2,w2,h3,.of_steps (Steps.trans h2 (.one step_inLoop)) h4⟩
 |pre h _ ih=>
  intro w0 S A ρ0 a w hs b k cs
  exact ih w0 S A ρ0 a w (h w0 S A ρ0 a w hs) b k cs
theorem Brings.loop {c:Code}(h:LoopB P N K c σ e σ1):Brings P N K (.loop c) σ e σ1:=by
 intro w0 S A ρ0 a w hs b k cs
 obtain⟨e',a',w',h1,h2⟩:=h.go w0 S A ρ0 a w hs b k cs
 exact⟨e',a',w',h1,.of_steps (.one step_loop) h2⟩
theorem Brings.regionD {id:Nat}{ops:Array Oper}{L:List (Oper×Rc)}(dep:Nat→List Nat)(hm:P.follows .mixedOrders=true)(hok:Reg.okB ops dep=true)(h1:L.map (·.1)=ops.toList)(h2:TRun P ops N σ.t σ.h σ.n L)(hC:M5 dep L)
  (h3:∀x,look σ1.t x=look (kh (fun _=>true) 0 L σ.t) x) (h4:∀x,look σ1.h x=look (js (fun _=>true) 0 L σ.h) x) (h5:(∀b:Id,σ.n≤b.1→look σ.h b=none)→∀b:Id,σ1.n≤b.1→look σ1.h b=none):Brings P N K (.region id ops true) σ .normal σ1:=by
 rintro w0 S A ρ0 a w ⟨hn,hK,ρ,hρ,s⟩
 refine wp_region_any hm ?_
 have hm0:∀i,iZ (Array.replicate ops.size false) i=false:=by
  intro i
  unfold iZ
  rw[bK,Array.getElem?_replicate]
  split<;>rfl
 have hQ:∀ρ' a' w',(∀b,K b→ρ' b=ρ0 b)→Sim P w0 S A N ρ' (kh (fun _=>true) 0 L σ.t) (js (fun _=>true) 0 L σ.h) a' w'→Exit.normal=Exit.normal∧SimS P w0 S A N ρ0 K σ1 a' w':=
  fun ρ' a' w' hρ' s'=>⟨rfl,h5 hn,fun b hb=>by
   have:=kO (fun _=>true) L 0 σ.h b (hK b hb)
   unfold Live at this⊢
   rw[h4]
   exact this,ρ',hρ',s'.congr h3 h4⟩
 exact Ak (w0:=w0) (S:=S) (A:=A) (Q:=fun e a' w'=>e= .normal∧SimS P w0 S A N ρ0 K σ1 a' w') hok h1 h2 hn hC (ρ0:=ρ0) (L0:=K) hK hQ ops.size (List.range ops.size) _ a _ ρ (by simp) (by simp) (fun i hi _=>eN.2 hi)
  (fun k o ho hmk=>absurd hmk (by rw[hm0];simp)) hρ (by
   rw[wl _ _ _ _ fun i _=>hm0 i,wk _ _ _ _ fun i _=>hm0 i]
   exact s.drew _)
theorem BZ {ops:Array Oper}{w0:World}{S:SD}{A:Nat→Prop}{ρ0:Id→Pl}{Q:Exit→Act→World→Prop}:∀(L:List (Oper×Rc)) (k:Nat) (t:List (Nat×D)) (h:HL) (n:Nat) (a:Act) (w:World) (ρ:Id→Pl),TRun P ops N t h n L→(∀b:Id,n≤b.1→look h b=none)→
  (∀b,K b→Live h b)→(∀b,K b→ρ b=ρ0 b)→(∀i,ops[k+i]?=(L[i]?).map (·.1))→Sim P w0 S A N ρ t h a w→
  (∀ρ a w,(∀b,K b→ρ b=ρ0 b)→Sim P w0 S A N ρ (kh (fun _=>true) k L t) (js (fun _=>true) k L h) a w→Q .normal a w)→wpOps P ops Q (List.range' k L.length) a w
 |[],k,t,h,n,a,w,ρ,_,_,_,hρ,_,s,hq=>hq ρ a w hρ s
 |(o,r)::L,k,t,h,n,a,w,ρ,hT,hn,hK,hρ,hops,s,hq=>by
  obtain⟨⟨rfl,h1,h2,h3⟩,h4,h5⟩:=hT
  simp only[bF,List.range'_succ]
  rw[wpOps_cons]
  unfold wpOp
  have ho:ops[k]?=some o:=by simpa using hops 0
  rw[ho]
  simp only
  have hn':∀b:Id,r.n'≤b.1→look (puts r.u h) b=none:=by
   intro b hb
   rw[aN _ _ _ fun x hx e=>by have:=h2 x hx;rw[e] at this;omega]
   exact hn b (by omega)
  have lJ:∀(ρ':Id→Pl) (v:Value) (w':World),Ext h ρ ρ'→Sim P w0 S A N ρ' (iu o.dst r.d t) (puts r.u h) (a.put o.dst v) w'→wpOps P ops Q (List.range' (k+1) L.length) (a.put o.dst v) w':=by
   intro ρ' v w' hex s'
   exact BZ L (k+1) _ _ r.n' _ w' ρ' h5 hn' (fun b hb=>nc _ _ _ (hK b hb)) (fun b hb=>(hex b (hK b hb)).trans (hρ b hb)) (fun i=>by rw[show k+1+i=k+(i+1) by omega];exact hops (i+1)) s' hq
  rcases h4 with⟨g1,g2⟩|⟨g1,g2,g3,g4⟩
  ·rw[s.guard g1]
   simp only[if_true]
   left
   have hw:=g2 t h (fun x hx=>rfl) (fun b hb=>rfl) _ _ _ ρ a w s
   refine Reg.wp_exit_mono (K:=tN P w0 S A N ρ t h (puts r.u h) a o.dst r.d) ?_ hw
   rintro a' w' ⟨v,ρ',rfl,hex,q1,q2⟩
   exact lJ ρ' v w' hex (q1.putO h3 q2)
  ·rw[s.guard g1]
   simp only[eY,if_false]
   refine lJ ρ undef w (Ext.refl _ _) ?_
   rw[g2,g3]
   exact s.putO h3 (.tup [] #[] rfl fun i hi=>absurd hi (Nat.not_lt_zero i))
theorem Brings.regionS {id:Nat}{ops:Array Oper}{L:List (Oper×Rc)}(h1:L.map (·.1)=ops.toList)(h2:TRun P ops N σ.t σ.h σ.n L)
  (h3:∀x,look σ1.t x=look (kh (fun _=>true) 0 L σ.t) x) (h4:∀x,look σ1.h x=look (js (fun _=>true) 0 L σ.h) x) (h5:(∀b:Id,σ.n≤b.1→look σ.h b=none)→∀b:Id,σ1.n≤b.1→look σ1.h b=none):Brings P N K (.region id ops false) σ .normal σ1:=by
 rintro w0 S A ρ0 a w ⟨hn,hK,ρ,hρ,s⟩
 refine wp_region ?_
 have hlen:ops.size=L.length:=by have:=congrArg List.length h1;simpa using this.symm
 have hops:∀i:Nat,ops[0+i]?=(L[i]?).map (fun x:Oper×Rc=>x.1):=by
  intro i
  have:=congrArg (fun l:List Oper=>l[i]?) h1
  simpa using this.symm
 rw[hlen,List.range_eq_range']
 exact BZ (Q:=fun e a' w'=>e= .normal∧SimS P w0 S A N ρ0 K σ1 a' w') L 0 _ _ _ a w ρ h2 hn hK hρ hops s fun ρ' a' w' hρ' s'=>⟨rfl,h5 hn,fun b hb=>by
   have:=kO (fun _=>true) L 0 σ.h b (hK b hb)
   unfold Live at this⊢
   rw[h4]
   exact this,ρ',hρ',s'.congr h3 h4⟩
end Go.Proofs.YtpefhoohfkeflabGreatDoor.Am
namespace Go.Proofs.YtpefhoohfkeflabGreatDoor.Am
open Go Go.RowKit
variable {P:Program} {w0:World} {S:SD} {A:Nat→Prop} {N:Nat} {K:Id→Prop} {ρ:Id→Pl} {t:List (Nat×D)} {h h':HL} {a:Act} {w:World}
inductive Rn (h:HL) (g:Id→Id) (h':HL):D→D→Prop where
 |ref (b:Id) (hb:Live h (g b)→Live h' b):Rn h g h' (.ref (g b)) (.ref b)
 |ptr (b:Id) (o:Nat) (hb:Live h (g b)→Live h' b):Rn h g h' (.ptr (g b) o) (.ptr b o)
 |eptr (b:Id) (i o:Nat) (hb:Live h (g b)→Live h' b):Rn h g h' (.eptr (g b) i o) (.eptr b i o)
 |vref (b:Id) (o n:Nat) (hb:Live h (g b)→Live h' b):Rn h g h' (.vref (g b) o n) (.vref b o n)
 |lst (b:Id) (l:List D) (hb:look h b=some (.froz l)):Rn h g h' (.ref b) (.lst l)
 |box (b:Id) (cs:List D) (hb:look h b=some (.fvar cs)):Rn h g h' (.ptr b 0) (.box cs)
 |fwd (d d':D) (hd:Rn h g h' (fwd h d) d'):Rn h g h' d d'
 |pure (d:D) (hd:d.pure0=true):Rn h g h' d d
 |nils:Rn h g h' .nils (.lst [])
 |iptr (e:D) (o:Nat):Rn h g h' (.iptr e o) (.iptr e o)
 |gv (k:Nat):Rn h g h' (.gv k) (.gv k)
 |agg (cs cs':List D) (hl:cs.length=cs'.length) (hc:∀i,i<cs.length→Rn h g h' (cs.getD i .undef) (cs'.getD i .undef)):Rn h g h' (.agg cs) (.agg cs')
 |tup (cs cs':List D) (hl:cs.length=cs'.length) (hc:∀i,i<cs.length→Rn h g h' (cs.getD i .undef) (cs'.getD i .undef)):Rn h g h' (.tup cs) (.tup cs')
 |clo (f:FuncId) (cs cs':List D) (hl:cs.length=cs'.length) (hc:∀i,i<cs.length→Rn h g h' (cs.getD i .undef) (cs'.getD i .undef)):Rn h g h' (.clo f cs) (.clo f cs')
 |ifc (T:TypeId) (d d':D) (hd:Rn h g h' d d'):Rn h g h' (.ifc T d) (.ifc T d')
 |undef (d:D):Rn h g h' d .undef
 |junk:Rn h g h' .junk .junk
inductive RnB (h:HL) (g:Id→Id) (h':HL):Blk→Blk→Prop where
 |var (T:TypeId) (cs cs':List D) (hl:cs.length=cs'.length) (hc:∀i,i<cs.length→Rn h g h' (cs.getD i .undef) (cs'.getD i .undef)):RnB h g h' (.var T cs) (.var T cs')
 |row (E:TypeId) (l l':List D) (hl:l.length=l'.length) (hc:∀i,i<l.length→Rn h g h' (l.getD i .undef) (l'.getD i .undef)∧∀s,wfC s (l.getD i .undef)→wfC s (l'.getD i .undef)∧∀j,j<s→Rn h g h' ((l.getD i .undef).cells.getD j .undef) ((l'.getD i .undef).cells.getD j .undef)):RnB h g h' (.row E l) (.row E l')
 |froz (l:List D):RnB h g h' (.froz l) (.froz l)
 |fvar (cs:List D):RnB h g h' (.fvar cs) (.fvar cs)
 |gone (x:Blk):RnB h g h' x .gone
structure Ren (h:HL)(g:Id→Id)(h':HL):Prop where
 blk:∀b x',look h' b=some x'→∃x,look h (g b)=some x∧RnB h g h' x x'
 inj:∀b c x y,look h' b=some x→look h' c=some y→x.live=true→y.live=true→g b=g c→b=c
theorem RnB.live {g:Id→Id}{x x':Blk}(hr:RnB h g h' x x'):(x'.live=true→x.live=true)∧(x'.mutable=true→x.mutable=true):=by
 cases hr with
 |var T cs cs' hl hc=>exact⟨fun _=>rfl,fun _=>rfl⟩
 |row E l l' hl hc=>exact⟨fun _=>rfl,fun _=>rfl⟩
 |froz l=>exact⟨fun _=>rfl,fun h=>h⟩
 |fvar cs=>exact⟨fun _=>rfl,fun h=>h⟩
 |gone=>exact⟨fun h=>absurd h (by decide),fun h=>absurd h (by decide)⟩
theorem Sim.rn (s:Sim P w0 S A N ρ t h a w){g:Id→Id}{ok':Nat→Prop}(hok:∀k,okOf A ρ h w k→ok' k){d d':D}{v:Value}(hr:Rn h g h' d d'):C ρ (Live h) (okOf A ρ h w) w d v→C (fun b=>ρ (g b)) (Live h') ok' w d' v:=by
 induction hr generalizing v with
 |ref b hb=>intro hc;obtain⟨hl,rfl⟩:=hc.ref_inv;exact .ref (ρ:=fun b=>ρ (g b)) b (hb hl)
 |ptr b o hb=>intro hc;obtain⟨hl,rfl⟩:=hc.ptr_inv;exact .ptr (ρ:=fun b=>ρ (g b)) b o (hb hl)
 |eptr b i o hb=>intro hc;obtain⟨hl,rfl⟩:=hc.eptr_inv;exact .eptr (ρ:=fun b=>ρ (g b)) b i o (hb hl)
 |vref b o n hb=>intro hc;obtain⟨hl,hn,rfl⟩:=hc.vref_inv;exact .vref (ρ:=fun b=>ρ (g b)) b o n (hb hl) hn
 |lst b l hb=>intro hc;obtain⟨_,rfl⟩:=hc.ref_inv;exact .pure (Rep.mono (s.blk b _ hb) fun k hk=>⟨hok k hk,rfl⟩)
 |box b cs hb=>intro hc;obtain⟨_,rfl⟩:=hc.ptr_inv;exact .pure (Rep.mono (s.blk b _ hb) fun k hk=>⟨hok k hk,rfl⟩)
 |fwd d d' hd ih=>intro hc;exact ih (s.fwd hc)
 |pure d hd=>intro hc;exact .pure ((hc.rep0 hd).mono fun k hk=>⟨hok k hk,rfl⟩)
 |nils=>intro hc;obtain rfl:=hc.nils_inv;exact .pure (.none _ _ (fun _=>rfl) (by unfold maxLen;omega))
 |iptr e o=>
  intro hc
  obtain⟨b,off,f,rfl,h1,h2,h3⟩:=hc.iptr_inv
  exact .iptr e o b off f (hok b h1) h2 fun j hj=>(h3 j hj).mono fun k hk=>⟨hok k hk,rfl⟩
 |agg cs cs' hl hcs ih=>
  intro hc
  obtain⟨vs,rfl,h1,h2⟩:=hc.agg_inv
  exact .agg _ _ (by omega) fun i hi=>ih i (by omega) (h2 i (by omega))
 |tup cs cs' hl hcs ih=>
  intro hc
  obtain⟨vs,rfl,h1,h2⟩:=hc.tup_inv
  exact .tup _ _ (by omega) fun i hi=>ih i (by omega) (h2 i (by omega))
 |clo f cs cs' hl hcs ih=>
  intro hc
  obtain⟨vs,rfl,h1,h2⟩:=hc.clo_inv
  exact .clo _ _ _ (by omega) fun i hi=>ih i (by omega) (h2 i (by omega))
 |ifc T d d' hd ih=>
  intro hc
  obtain⟨v',rfl,h1⟩:=hc.ifc_inv
  exact .ifc _ _ _ (ih h1)
 |undef d=>intro hc;exact .any _
 |gv k=>intro hc;obtain⟨x,ad,rfl,h1,h2,h3⟩:=hc.gv_inv;exact .gv k x ad h1 (hok k h2) h3
 |junk=>intro hc;exact .junk _ hc.junk_inv
theorem Sim.ren (s:Sim P w0 S A N ρ t h a w){g:Id→Id}(hr:Ren h g h'){N':Nat}{a':Act}{t':List (Nat×D)}(hd:a'.defers=S.dfs)(hs:a'.tmps.size=N')
  (ht:∀k d',look t' k=some d'→k<N'∧∃d,C ρ (Live h) (okOf A ρ h w) w d (a'.tmps.getD k undef)∧Rn h g h' d d'):Sim P w0 S A N' (fun b=>ρ (g b)) t' h' a' w∧∀k,okOf A ρ h w k→okOf A (fun b=>ρ (g b)) h' w k:=by
 have hok:∀k,okOf A ρ h w k→okOf A (fun b=>ρ (g b)) h' w k:=by
  rintro k ⟨hk,hm⟩
  refine⟨hk,fun b x' hx hmu=>?_⟩
  obtain⟨x,h1,h2⟩:=hr.blk b x' hx
  exact hm _ x h1 (h2.live.2 hmu)
 refine⟨⟨s.base,s.inS,s.fr,hd,hs,fun k d' hk=>?_,fun b x' hx=>?_,fun b x' hx hl=>?_,fun b c x' y' hx hy hlx hly he=>?_,s.gl⟩,hok⟩
 ·obtain⟨h1,d,h2,h3⟩:=ht k d' hk
  exact⟨h1,s.rn hok h3 h2⟩
 ·obtain⟨x,h1,h2⟩:=hr.blk b x' hx
  have hb:=s.blk _ x h1
  cases h2 with
  |var T cs cs' hl hc=>
   obtain⟨c,c1,c2,c3⟩:=hb
   exact⟨c,c1,by omega,fun j hj=>s.rn hok (hc j (by omega)) (c3 j (by omega))⟩
  |row E l l' hl hc=>
   obtain⟨c,c1,c2,c3,c4,c5,c6,c7,c8,c9⟩:=hb
   refine⟨c,c1,c2,by rw[←hl];exact c3,c4,c5,c6,c7,fun e he=>?_,fun i j hi hj=>?_⟩
   ·obtain⟨i,hi,rfl⟩:=bY he
    exact((hc i (by omega)).2 _ (c8 _ (bl (by omega)))).1
   ·exact s.rn hok (((hc i (by omega)).2 _ (c8 _ (bl (by omega)))).2 j hj) (c9 i j (by omega) hj)
  |froz l=>exact Rep.mono hb fun k hk=>⟨hok k hk,rfl⟩
  |fvar cs=>exact Rep.mono hb fun k hk=>⟨hok k hk,rfl⟩
  |gone x=>trivial
 ·obtain⟨x,h1,h2⟩:=hr.blk b x' hx
  exact s.own _ x h1 (h2.live.1 hl)
 ·obtain⟨x,h1,h2⟩:=hr.blk b x' hx
  obtain⟨y,h3,h4⟩:=hr.blk c y' hy
  exact hr.inj b c x' y' hx hy hlx hly (s.inj _ _ x y h1 h3 (h2.live.1 hlx) (h4.live.1 hly) he)
theorem Hf {σ σ':St}{g:Id→Id}(hr:Ren σ.h g σ'.h)(ht:∀k d',look σ'.t k=some d'→∃d,look σ.t k=some d∧Rn σ.h g σ'.h d d')(hK:∀b,K b→Live σ.h b→g b=b∧Live σ'.h b)(hn:∀b:Id,σ'.n≤b.1→look σ'.h b=none):Weak P N K σ σ':=by
 rintro w0 S A ρ0 a w ⟨_,hK0,ρ,hρ,s⟩
 refine⟨hn,fun b hb=>(hK b hb (hK0 b hb)).2,fun b=>ρ (g b),fun b hb=>by show ρ (g b)=_;rw[(hK b hb (hK0 b hb)).1];exact hρ b hb,(s.ren hr s.defers s.size fun k d' hk=>?_).1⟩
 obtain⟨d,h1,h2⟩:=ht k d' hk
 exact⟨(s.tmp k d h1).1,d,(s.tmp k d h1).2,h2⟩
theorem He {σ:St}(bs:List Id):Weak P N K σ ⟨σ.t,puts (frz σ.h bs) σ.h,σ.n⟩:=by
 rintro w0 S A ρ0 a w ⟨h1,hK0,ρ,hρ,s⟩
 refine⟨fun b hb=>t7 (h1 b hb),fun b hb=>mb (hK0 b hb),ρ,hρ,(s.frz_ok bs).1⟩
def tf (P:Program)(σ:St):ResultVar→Option D
 | .tmp k=>some ((look σ.t k).getD .undef)
 | .cell k T=>(look σ.t k).bind fun d=>if eU d then dz P σ.h T d else none
def one (ds:List D):D:=match ds with|[d]=>d|ds=>.tup ds
def po (P:Program)(rs:List ResultVar)(K:Id→Prop)(σ:St)(r:D)(hout:HL):Prop:=
 ∃ds bs g,rs.mapM (tf P σ)=some ds∧Rn (puts (frz σ.h bs) σ.h) g hout (one ds) r∧Ren (puts (frz σ.h bs) σ.h) g hout∧∀b,K b→Live σ.h b→g b=b∧Live hout b
theorem Sim.results (s:Sim P w0 S A N ρ t h a w){n:Nat}{f:ResultVar→Sem Value}(hf:∀r,f r=(match r with| .tmp t=>pure (a.tmps.getD t undef)| .cell x T=>do loadVar T (←asAddr (a.tmps.getD x undef)))):∀{rs:List ResultVar} {ds:List D},rs.mapM (tf P ⟨t,h,n⟩)=some ds→
  ∃vs:List Value,(rs.mapM f).run P w= .ok vs w∧ds.length=vs.length∧∀i,i<ds.length→C ρ (Live h) (okOf A ρ h w) w (ds.getD i .undef) (vs.getD i undef)
 |[],ds,hd=>by
  simp at hd
  subst hd
  exact⟨[],by simp,rfl,by simp⟩
 |r::rs,ds,hd=>by
  simp only[iC,qm,bw,Option.pure_def,aw] at hd
  obtain⟨d,h1,ds',h2,rfl⟩:=hd
  obtain⟨vs,r1,r2,r3⟩:=s.results hf h2
  have hv:∃v,(f r).run P w= .ok v w∧C ρ (Live h) (okOf A ρ h w) w d v:=by
   rw[hf]
   cases r with
   |tmp k=>
    simp only[tf,aw] at h1
    subst h1
    refine⟨a.tmps.getD k undef,rfl,?_⟩
    cases hk:look t k with
    |none=>exact .any _
    |some d=>exact(s.tmp k d hk).2
   |cell k T=>
    simp only[tf] at h1
    obtain⟨d0,q1,q2⟩:=bw.1 h1
    split at q2
    ·rename_i hp
     have hc:=(s.tmp k d0 q1).2
     obtain⟨ad,e⟩:=hc.isPtr_inv hp
     obtain⟨v,l1,l2⟩:=s.load q2 hc
     refine⟨v,?_,l2⟩
     show ((do loadVar T (←asAddr (a.tmps.getD k undef))):Sem Value).run P w= .ok v w
     rw[e] at l1⊢
     simpa[Instr.loadAt,Instr.sureAddr,asAddr] using l1
    ·cases q2
  obtain⟨v,v1,v2⟩:=hv
  refine⟨v::vs,by simp[v1,r1],by simp[r2],fun i hi=>?_⟩
  cases i with
  |zero=>simpa using v2
  |succ i=>simpa using r3 i (by simpa using hi)
def Mh (tmps:Array Value):ResultVar→Sem Value
 | .tmp t=>pure (tmps.getD t undef)
 | .cell x T=>do loadVar T (←asAddr (tmps.getD x undef))
theorem th (fn:Func)(tmps:Array Value):results fn tmps=(fn.results.mapM (Mh tmps)>>=fun vs=>pure (if h:vs.size=1 then vs[0] else .tuple vs)):=rfl
theorem FT {L:Id→Prop}{ok:Nat→Prop}{ds:List D}{vs:List Value}(hl:ds.length=vs.length)(hc:∀i,i<ds.length→C ρ L ok w (ds.getD i .undef) (vs.getD i undef)):C ρ L ok w (one ds) (if h:vs.toArray.size=1 then vs.toArray[0] else .tuple vs.toArray):=by
 match ds,vs,hl with
 |[],[],_=>exact .tup [] #[] rfl fun i hi=>by simp at hi
 |[d],[v],_=>simpa[one] using hc 0 (by simp)
 |d::d'::ds,v::v'::vs,hl=>
  simp only[one]
  rw[dif_neg (by simp)]
  refine .tup _ _ (by simpa using hl) fun i hi=>?_
  have:=hc i hi
  rw[ki]
  exact this
def uh (ds:List D):List (Nat×D):=(ds.zipIdx 0).map fun x=>(x.2,x.1)
theorem pP:∀(ds:List D) (k b:Nat),look ((ds.zipIdx k).map fun x=>(x.2,x.1)) b=if k≤b then ds[b-k]? else none
 |[],k,b=>by simp[look]
 |x::bs,k,b=>by
  simp only[mz,bI,look,pP bs (k+1) b]
  by_cases h1:b=k
  ·subst h1;simp
  ·by_cases h2:k≤b
   ·rw[if_neg h1,if_pos (by omega),if_pos h2,show b-k=(b-(k+1))+1 by omega]
    rfl
   ·rw[if_neg h1,if_neg (by omega),if_neg h2]
def bnd:Nat→D→Prop
 |0,_=>True
 |k+1,.lst l=>l.length≤9223372036854775807∧∀e∈l,∀c∈e.cells,bnd k c
 |k+1,.agg cs=>∀c∈cs,bnd k c
 |k+1,.tup cs=>∀c∈cs,bnd k c
 |k+1,.box cs=>∀c∈cs,bnd k c
 |_+1,_=>True
theorem Rep.bnd {ok:Nat→Prop}{w:World}:∀(k:Nat) {d:D} {v:Value},Rep ok w d v→Am.bnd k d
 |0,_,_,_=>trivial
 |k+1,d,v,h=>by
  cases h with
  |none a cap ha hcap=>exact⟨by simp,fun e he=>by cases he⟩
  |lst l n b off cap f hn hcap hmax hok hsz hpos hc hr=>
   have hm:maxLen=9223372036854775807:=rfl
   refine⟨by omega,fun e he c hc'=>?_⟩
   obtain⟨i,hi,rfl⟩:=bY he
   obtain⟨j,hj,rfl⟩:=bY hc'
   have hs:=(hsz _ he).1
   exact(hr i j (by omega) (by omega)).bnd k
  |agg cs vs hl h=>intro c hc;obtain⟨i,hi,rfl⟩:=bY hc;exact(h i hi).bnd k
  |tup cs vs hl h=>intro c hc;obtain⟨i,hi,rfl⟩:=bY hc;exact(h i hi).bnd k
  |box cs b off f hok hpos hc hr=>intro c hc';obtain⟨i,hi,rfl⟩:=bY hc';exact(hr i hi).bnd k
  |_=>trivial
theorem C.bnd {ρ:Id→Pl}{L:Id→Prop}{ok:Nat→Prop}{w:World}:∀(k:Nat) {d:D} {v:Value},C ρ L ok w d v→Am.bnd k d
 |0,_,_,_=>trivial
 |k+1,d,v,h=>by
  cases h with
  |pure h=>exact h.bnd (k+1)
  |agg cs vs hl h=>intro c hc;obtain⟨i,hi,rfl⟩:=bY hc;exact(h i hi).bnd k
  |tup cs vs hl h=>intro c hc;obtain⟨i,hi,rfl⟩:=bY hc;exact(h i hi).bnd k
  |_=>trivial
def bndB (k:Nat):Blk→Prop
 | .var _ cs=>∀c∈cs,bnd k c
 | .row _ l=>l.length≤9223372036854775807∧∀e∈l,∀c∈e.cells,bnd k c
 |_=>True
theorem Sim.bndB (s:Sim P w0 S A N ρ t h a w)(k:Nat){b:Id}{x:Blk}(hb:look h b=some x):Am.bndB k x:=by
 have hx:=s.blk b x hb
 cases x with
 |var T cs=>
  obtain⟨c,h1,h2,h3⟩:=hx
  intro e he
  obtain⟨i,hi,rfl⟩:=bY he
  exact(h3 i hi).bnd k
 |row E l=>
  obtain⟨c,h1,h2,h3,h4,h5,h6,h7,h8,h9⟩:=hx
  have hm:maxLen=9223372036854775807:=rfl
  refine⟨by omega,fun e he d hd=>?_⟩
  obtain⟨i,hi,rfl⟩:=bY he
  obtain⟨j,hj,rfl⟩:=bY hd
  have hs:=(h8 _ he).1
  exact(h9 i j hi (by omega)).bnd k
 |_=>trivial
theorem zq {f : FuncId} {fn : Func} {c : Code} (hf : P.funcs[f]? = some fn) (hb : fn.body = some c) (hname : (fn.name == "runtime.NumGoroutine") = false) {N : Nat} {rs : List ResultVar} (hN : fn.ntmps = N) (hrs : fn.results.toList = rs) {ds : List D} {hin : HL} {n0 : Nat} {r : D} {hout : HL}
  (hl:ds.length≤N) (hn0:∀b:Id,n0≤b.1→look hin b=none)
  (hF:(∀d∈ds,bnd 6 d)→(∀b x,look hin b=some x→bndB 6 x)→∃e σ,Brings P N (Live hin) c ⟨uh ds,hin,n0⟩ e σ∧(ij P N (Live hin) σ→(e= .normal∨e= .ret)∧po P rs (Live hin) σ r hout)):Con P f ds hin r hout:=by
 subst hN hrs
 refine⟨⟨fn,hf,by rw[hb];rfl,hname⟩,fun w A ρ vs s hlen hv=>?_⟩
 obtain⟨e,σ,hA,hfin⟩:=hF (fun d hd=>by
  obtain⟨i,hi,rfl⟩:=bY hd
  exact(hv i hi).bnd 6) (fun b x hx=>s.bndB 6 hx)
 refine calls_of_wp hf hb ?_
 have hs0:SimS P w (qD ρ hin) A fn.ntmps ρ (Live hin) ⟨uh ds,hin,n0⟩ {tmps:=vs++Array.replicate (fn.ntmps-vs.size) undef,defers:=[]} w:=by
  refine⟨hn0,fun b hb=>hb,ρ,fun b hb=>rfl,s.base,s.inS,s.fr,rfl,by simp;omega,fun k d hk=>?_,s.blk,s.own,s.inj,s.gl⟩
  have hk2:look ((ds.zipIdx 0).map fun x=>(x.2,x.1)) k=some d:=hk
  rw[pP] at hk2
  simp only[aX,if_true,Nat.sub_zero] at hk2
  have hk':k<ds.length:=(aR.1 hk2).1
  refine⟨by omega,?_⟩
  have:=hv k hk'
  rw[ar,hk2] at this
  have hkv:k<vs.size:=by omega
  simpa[bK,Array.getElem?_append,hkv] using this
 refine wp_mono (hA _ _ _ ρ _ w hs0) ?_
 clear hA
 rintro e' a' w' ⟨rfl,hs1⟩
 obtain⟨he,ds',bs,g,hrds,hrn,hren,hkeep⟩:=hfin ⟨_,_,_,_,_,_,hs1⟩
 clear hfin
 obtain⟨hn,hK,ρ1,hρ1,s1⟩:=hs1
 obtain⟨vs',r1,r2,r3⟩:=s1.results (f:=Mh a'.tmps) (fun r=>by cases r<;>rfl) hrds
 have hone:=FT r2 r3
 have hrun:(results fn a'.tmps).run P w'= .ok (if h:vs'.toArray.size=1 then vs'.toArray[0] else .tuple vs'.toArray) w':=by
  rw[th,Array.mapM_eq_mapM_toList,Sem.run_bind,map_eq_pure_bind,Sem.run_bind,r1]
  rfl
 generalize (if h:vs'.toArray.size=1 then vs'.toArray[0] else Value.tuple vs'.toArray)=u at *
 obtain⟨q1,q2,q3⟩:=s1.frz_ok bs
 have hcu:C ρ1 (Live (puts (frz σ.h bs) σ.h)) (okOf A ρ1 (puts (frz σ.h bs) σ.h) w') w' (one ds') u:=hone.mono (fun b hb=>⟨mb hb,rfl⟩) (fun k hk=>⟨⟨hk.1,fun b y hy hmu=>by
  rcases q2 b with q|⟨y',z1,z2⟩
  ·rw[q] at hy;exact hk.2 b y hy hmu
  ·rw[z2] at hy
   obtain rfl:=aq hy
   rw[(kq z1).2.1] at hmu;cases hmu⟩,rfl⟩)
 obtain⟨s3,hok3⟩:=q1.ren (N':=0) (a':=ef) (t':=[]) hren rfl rfl (fun k d' hk=>by cases hk)
 have fin:∃v ρ'',Ending.returned u= .returned v∧(∀b,Live hin b→ρ'' b=ρ b∧Live hout b)∧Sim P w (qD ρ hin) A 0 ρ'' [] hout ef w'∧C ρ'' (Live hout) (okOf A ρ'' hout w') w' r v:=
  ⟨u,fun b=>ρ1 (g b),rfl,fun b hb=>⟨by show ρ1 (g b)=_;rw[(hkeep b hb (hK b hb)).1];exact hρ1 b hb,(hkeep b hb (hK b hb)).2⟩,s3,q1.rn hok3 hrn hcu⟩
 rcases he with rfl|rfl
 ·exact⟨s1.defers,u,hrun,fin⟩
 ·exact⟨s1.defers,u,hrun,fin⟩
end Go.Proofs.YtpefhoohfkeflabGreatDoor.Am
namespace Go.Proofs.YtpefhoohfkeflabGreatDoor.Am
open Go Go.RowKit
variable {P:Program} {t:List (Nat×D)} {h:HL} {n:Nat}
theorem xt {k:Nat}{x:Operand}{l:List (Nat×Operand)}{d:D}{ds:List (Nat×D)}(hx:aY t x=some d)(hl:evalPs t l=some ds):evalPs t ((k,x)::l)=some ((k,d)::ds):=by
 simp only[evalPs] at hl⊢
 simp[hx,hl]
theorem xr {x:Operand}{l:List Operand}{d:D}{ds:List D}(hx:aY t x=some d)(hl:evalDs t l=some ds):evalDs t (x::l)=some (d::ds):=by
 simp only[evalDs] at hl⊢
 simp[hx,hl]
theorem zt {place:Nat→Option (Nat×Nat)}{cs cs' r:List D}{i off size:Nat}{d:D}{l:List (Nat×D)}(hp:place i=some (off,size))(hw:d.whole=true)(hs:d.cells.length=size)(hl:off+size≤cs.length)(hc:ba cs off d.cells=cs')(hr:jg place cs' l=some r):jg place cs ((i,d)::l)=some r:=by
 subst hs hc
 simp only[jg,hp]
 rw[if_pos ⟨hw,by simp,hl⟩]
 exact hr
theorem GW {T:TypeId}{cs:List D}{o:Nat}{d:D}(ha:isAggT P T=some false)(hd:cs[o]?=some d):b8 P T cs o=some d:=by simp[b8,ha,hd]
theorem Kj {T:TypeId}{cs cs':List D}{o s:Nat}(ha:isAggT P T=some true)(hs:sizeT P T=some s)(hl:o+s≤cs.length)(hd:(cs.drop o).take s=cs'):b8 P T cs o=some (.agg cs'):=by simp[b8,ha,hs,hl,hd]
theorem rk (h:HL)(d:D):(fwd h d).one=d.one:=by
 cases d
 case ref b=>simp only[fwd];split<;>rfl
 case ptr b o=>
  simp only[fwd]
  split
  ·rfl
  ·split<;>rfl
  ·rfl
 case eptr b i o=>simp only[fwd];split<;>rfl
 case vref b o n=>simp only[fwd];split<;>rfl
 all_goals simp[fwd,D.one]
theorem CT (h:HL)(d:D):(fwd h d).cells=d.cells.map (fwd h):=by
 by_cases hd:d.one=true
 ·rw[cQ hd,cQ (by rw[rk];exact hd)];rfl
 ·cases d with
  |agg cs=>simp only[fwd,D.cells,fm]
  |tup cs=>simp[fwd,D.cells]
  |undef=>simp[fwd,D.cells]
  |_=>exact absurd rfl hd
theorem BV (d:D):(nz0 d).one=d.one:=by cases d<;>rfl
def oE (h:HL)(d:D):D:=nzE (fwd h d)
theorem l9 (h:HL)(d:D):(oE h d).cells=d.cells.map fun c=>nz0 (fwd h c):=by
 unfold oE
 rw[gL,CT,eu]
 rfl
theorem Fx {h:HL}{s:Nat}{d:D}(hw:wfC s d):wfC s (oE h d):=by
 refine⟨by rw[l9,aA];exact hw.1,?_⟩
 have:=hw.2
 rw[aM] at this⊢
 rw[l9]
 intro x hx
 obtain⟨y,hy,rfl⟩:=aB.1 hx
 rw[BV,rk]
 exact this y hy
def dG (h:HL):Blk→Blk
 | .var T cs=>.var T (cs.map fun c=>nz0 (fwd h c))
 | .row E l=>.row E (l.map (oE h))
 |x=>x
theorem tZ (h:HL)(x:Blk):(dG h x).mutable=x.mutable:=by cases x<;>rfl
theorem sR (h:HL)(x:Blk):(dG h x).live=x.live:=by cases x<;>rfl
section
variable {w0:World} {S:SD} {A:Nat→Prop} {N:Nat} {ρ:Id→Pl} {a:Act} {w:World} {h':HL}
theorem Sim.last (s:Sim P w0 S A N ρ t h a w){b:Id}{x:Blk}(hb:look h b=some x):Sim P w0 S A N ρ t (put b (dG h x) h) a w:=by
 have hlv:∀b',Live h b'→Live (put b (dG h x) h) b'∧ρ b'=ρ b':=fun b' hb'=>⟨hb'.put,rfl⟩
 have key:∀b' y,look (put b (dG h x) h) b'=some y→(b'=b∧y=dG h x)∨(b'≠b∧look h b'=some y):=by
  intro b' y hy
  rw[af] at hy
  by_cases e:b'=b
  ·rw[if_pos e] at hy;exact .inl ⟨e,(aq hy).symm⟩
  ·rw[if_neg e] at hy;exact .inr ⟨e,hy⟩
 have hok:∀k,okOf A ρ h w k→okOf A ρ (put b (dG h x) h) w k∧w.heap[k]?=w.heap[k]?:=by
  rintro k ⟨hk,hm⟩
  refine⟨⟨hk,fun b' y hy hmu=>?_⟩,rfl⟩
  rcases key b' y hy with⟨rfl,rfl⟩|⟨_,hy⟩
  ·rw[tZ] at hmu;exact hm b' x hb hmu
  ·exact hm b' y hy hmu
 have old:∀b' y,look (put b (dG h x) h) b'=some y→y.live=true→∃z,look h b'=some z∧z.live=true:=by
  intro b' y hy hl
  rcases key b' y hy with⟨rfl,rfl⟩|⟨_,hy⟩
  ·rw[sR] at hl;exact⟨x,hb,hl⟩
  ·exact⟨y,hy,hl⟩
 refine s.step s.fr hlv hok (fun b' y hy=>?_) (ax _) (fun b1 b2 y1 y2 hy1 hy2 hl1 hl2 he=>?_)
 ·rcases key b' y hy with⟨rfl,rfl⟩|⟨e,hy⟩
  ·refine .inr ⟨?_,fun hl=>s.own b' x hb (by rw[sR] at hl;exact hl)⟩
   have hbk:=s.blk b' x hb
   cases x with
   |var T cs=>
    obtain⟨c,h1,h2,h3⟩:=hbk
    refine⟨c,h1,by simpa using h2,fun j hj=>?_⟩
    have hj':j<cs.length:=by simpa using hj
    have:=(s.fwd (h3 j hj')).nz0.mono hlv hok
    simpa[ar,hj'] using this
   |row E l=>
    obtain⟨c,h1,h2,h3,h4,h5,h6,h7,h8,h9⟩:=hbk
    refine⟨c,h1,h2,by simpa using h3,h4,h5,h6,h7,fun e he=>?_,fun i j hi hj=>?_⟩
    ·obtain⟨e0,he0,rfl⟩:=aB.1 he
     exact Fx (h8 e0 he0)
    ·have hi':i<l.length:=by simpa using hi
     have hj':j<(l.getD i .undef).cells.length:=by rw[(h8 _ (bl hi')).1];exact hj
     have:=(s.fwd (h9 i j hi' hj)).nz0.mono hlv hok
     have e1:(l.map (oE h)).getD i .undef=oE h (l.getD i .undef):=by simp[ar,hi']
     have e2:((l.getD i .undef).cells.map fun c=>nz0 (Am.fwd h c)).getD j .undef=nz0 (Am.fwd h ((l.getD i .undef).cells.getD j .undef)):=by
      rw[ar,bf,am hj',ar (i:=j),am hj'];rfl
     rw[e1,l9,e2]
     exact this
   |_=>exact BlkOK.mono hbk (Live.of_look hb) hlv hok (fun _=>rfl)
  ·exact .inl ⟨hy,fun _=>rfl⟩
 ·obtain⟨z1,a1,a2⟩:=old b1 y1 hy1 hl1
  obtain⟨z2,c1,c2⟩:=old b2 y2 hy2 hl2
  exact s.inj b1 b2 z1 z2 a1 c1 a2 c2 he
def zf:Blk→List Id
 | .var _ cs=>cs.flatMap al
 | .row _ l=>l.flatMap fun e=>al e
 |_=>[]
theorem me {α β:Type}{f g:α→β}:∀{l:List α},(∀x∈l,f x=g x)→l.map f=l.map g
 |[],_=>rfl
 |x::l,hx=>by simp only[bI,hx x (bm ..),me fun y hy=>hx y (bB _ hy)]
theorem xY {x:Blk}(hb:∀b∈zf x,look h b=look h' b):dG h x=dG h' x:=by
 cases x with
 |var T cs=>simp only[dG];rw[me fun c hc=>by rw[pF (h:=h) (h':=h') fun b h1=>hb b (d8.2 ⟨c,hc,h1⟩)]]
 |row E l=>simp only[dG];rw[me (f:=oE h) (g:=oE h') fun c hc=>by unfold oE;rw[pF (h:=h) (h':=h') fun b h1=>hb b (d8.2 ⟨c,hc,h1⟩)]]
 |_=>rfl
theorem FX {o:Oper}{b:Id}{x:Blk}{d:D}{u1:HL}{f:List Nat}(hb:look h b=some x)(hf:b.1∈f∧∀c∈zf x,c.1∈f)(hd:OpS P N o t (puts [(b,dG h x)] h) d u1 f):OpS P N o t h d ([(b,dG h x)]++u1) f:=by
 intro t' h' ht ha w0 S A ρ a w s
 have hb':look h' b=some x:=by rw[←ha b hf.1];exact hb
 have e:dG h x=dG h' x:=xY fun c hc=>ha c (hf.2 c hc)
 rw[bE]
 have s1:Sim P w0 S A N ρ t' (puts [(b,dG h x)] h') a w:=by rw[e];exact s.last hb'
 refine Reg.wp_exit_mono (K:=tN P w0 S A N ρ t' (puts [(b,dG h x)] h') (puts u1 (puts [(b,dG h x)] h')) a o.dst d) ?_ (hd t' _ ht (ha.puts _) w0 S A ρ a w s1)
 rintro a' w' ⟨v,ρ2,rfl,g1,g2,g3⟩
 exact⟨v,ρ2,rfl,fun c hc=>g1 c (Live.put hc),g2,g3⟩
theorem pW {o:Oper}{d:D}{u:HL}{f:List Nat}(he:∀b,look h b=look h' b)(hd:OpS P N o t h d u f):OpS P N o t h' d u f:=
 fun t' h2 ht ha=>hd t' h2 ht fun b hb=>(he b).trans (ha b hb)
end
end Go.Proofs.YtpefhoohfkeflabGreatDoor.Am
namespace Go.Proofs.YtpefhoohfkeflabGreatDoor.Am
open Go Go.RowKit
structure Txn where
 a:Int
 b:Int
 s:Int
 e:Int
structure Led where
 b:List Int
 f:Int
structure Vtx where
 round:Int
 author:Int
 parents:List Int
 digest:Int
structure Ppl where
 v:Vtx
 members:List Int
structure Wrl where
 com:List Int
 lead:List Int
 bad:Int
 views:List (List Vtx)
 props:List Ppl
structure Evt where
 kind:Int
 a:Int
 b:Int
 v:Vtx
structure Slt where
 round:Int
 author:Int
deriving DecidableEq
structure VtxO where
 round:Int
 author:Int
 parents:Option Nat
 digest:Int
structure PplM where
 v:Vtx
 members:Option Nat
structure PplO where
 v:VtxO
 members:Option Nat
structure EvtO where
 kind:Int
 a:Int
 b:Int
 v:VtxO
structure Nod where
 v:Vtx
 index:Int
 parents:Option Nat
structure Odd where
 v:Vtx
 wave:Int
inductive Ty where
 |int (k:IntKind)|bool|str|lst (t:Ty)|txn|led|vtx|ppl|wrl|evt|slt|odd|ob (t:Ty)
 |hr (k:Nat)|hp (k:Nat)|vtxo (k:Nat)|pplm (k:Nat)|pplo (k k':Nat)|nod (k:Nat)|evto (k:Nat)
 deriving DecidableEq
abbrev Ty.den:Ty→Type
 | .int _=>Int
 | .bool=>Bool
 | .str=>ByteArray
 | .lst t=>List t.den
 | .txn=>Txn
 | .led=>Led
 | .vtx=>Vtx
 | .ppl=>Ppl
 | .wrl=>Wrl
 | .evt=>Evt
 | .slt=>Slt
 | .odd=>Odd
 | .ob t=>Option t.den
 | .hr _=>Option Nat
 | .hp _=>Option Nat
 | .vtxo _=>VtxO
 | .pplm _=>PplM
 | .pplo ..=>PplO
 | .evto _=>EvtO
 | .nod _=>Nod
def ga (l:List Int):D:=.lst (l.map (.int .i64))
def iO (v:Vtx):List D:=[.int .i64 v.round,.int .i64 v.author,ga v.parents,.int .i64 v.digest]
def Km (l:List Vtx):D:=.lst (l.map fun v=>.agg (iO v))
def Dh (p:Ppl):List D:=iO p.v++[ga p.members]
def mZ (k:Nat):Option Nat→D
 |some i=>.ref (k,i)
 |none=>.lst []
def qC (k:Nat):Option Nat→D
 |some i=>.ptr (k,i) 0
 |none=>.nilp
def ai:(t:Ty)→t.den→D
 | .int k,n=>.int k n
 | .bool,b=>.bool b
 | .str,s=>.str s
 | .lst t,xs=>.lst (xs.map (ai t))
 | .txn,x=>.agg [.int .i64 x.a,.int .i64 x.b,.int .i64 x.s,.int .i64 x.e]
 | .led,x=>.agg [ga x.b,.int .i64 x.f]
 | .vtx,x=>.agg (iO x)
 | .ppl,x=>.agg (Dh x)
 | .wrl,x=>.agg [ga x.com,ga x.lead,.int .i64 x.bad,.lst (x.views.map Km),.lst (x.props.map fun p=>.agg (Dh p))]
 | .evt,x=>.agg ([.int .i64 x.kind,.int .i64 x.a,.int .i64 x.b]++iO x.v)
 | .slt,x=>.agg [.int .i64 x.round,.int .i64 x.author]
 | .odd,x=>.agg (iO x.v++[.int .i64 x.wave])
 | .ob t,some x=>.box (ai t x).cells
 | .ob _,none=>.nilp
 | .hr k,o=>mZ k o
 | .hp k,o=>qC k o
 | .vtxo k,x=>.agg [.int .i64 x.round,.int .i64 x.author,mZ k x.parents,.int .i64 x.digest]
 | .pplm k,x=>.agg (iO x.v++[mZ k x.members])
 | .pplo k k',x=>.agg [.int .i64 x.v.round,.int .i64 x.v.author,mZ k x.v.parents,.int .i64 x.v.digest,mZ k' x.members]
 | .evto k,x=>.agg [.int .i64 x.kind,.int .i64 x.a,.int .i64 x.b,.int .i64 x.v.round,.int .i64 x.v.author,mZ k x.v.parents,.int .i64 x.v.digest]
 | .nod k,x=>.agg (iO x.v++[.int .i64 x.index,mZ k x.parents])
inductive V where
 |int (k:IntKind) (n:Int)
 |bool (b:Bool)
 |tt
 |ff
 |str (s:ByteArray)
 |lst (t:Ty) (xs:List t.den)
 |box (t:Ty) (x:t.den)
 |agg (cs:List V)
 |tup (cs:List V)
 |nilp
 |nils
 |nilf
 |nili
 |ifc (T:TypeId) (v:V)
 |clo (f:FuncId) (cs:List V)
 |ref (b:Nat)
 |ptr (b o:Nat)
 |eptr (b i o:Nat)
 |iptr (t:Ty) (x:t.den) (o:Nat)
 |vref (b o n:Nat)
 |aptr (b p i:Nat)
 |fref (k i:Nat)
 |fptr (k i o:Nat)
 |feptr (k i j o:Nat)
 |faptr (k i p j:Nat)
 |hro (k:Nat) (o:Option Nat)
 |hpo (k:Nat) (o:Option Nat)
 |obo (t:Ty) (o:Option t.den)
 |gp (g:Nat)
 |gv (g:Nat)
 |undef
 |junk
mutual
def V.toD:V→D
 | .int k n=>.int k n
 | .bool b=>.bool b
 | .tt=>.bool true
 | .ff=>.bool false
 | .str s=>.str s
 | .lst t xs=>.lst (xs.map (ai t))
 | .box t x=>.box (ai t x).cells
 | .agg cs=>.agg (ak cs)
 | .tup cs=>.tup (ak cs)
 | .nilp=>.nilp
 | .nils=>.nils
 | .nilf=>.nilf
 | .nili=>.nili
 | .ifc T v=>.ifc T v.toD
 | .clo f cs=>.clo f (ak cs)
 | .ref b=>.ref (b,0)
 | .ptr b o=>.ptr (b,0) o
 | .eptr b i o=>.eptr (b,0) i o
 | .iptr t x o=>.iptr (ai t x) o
 | .vref b o n=>.vref (b,0) o n
 | .aptr b p i=>.ptr (b,0) (p+i)
 | .fref k i=>.ref (k,i)
 | .fptr k i o=>.ptr (k,i) o
 | .feptr k i j o=>.eptr (k,i) j o
 | .faptr k i p j=>.ptr (k,i) (p+j)
 | .hro k o=>mZ k o
 | .hpo k o=>qC k o
 | .obo t o=>ai (.ob t) o
 | .gp g=>.gp g
 | .gv g=>.gv g
 | .undef=>.undef
 | .junk=>.junk
def ak:List V→List D
 |[]=>[]
 |v::l=>v.toD::ak l
end
theorem cY:∀l:List V,ak l=l.map V.toD
 |[]=>rfl
 |v::l=>by simp[ak,cY l]
def enc:(t:Ty)→t.den→V
 | .int k,n=>.int k n
 | .bool,b=>.bool b
 | .str,s=>.str s
 | .lst t,xs=>.lst t xs
 | .txn,x=>.agg [.int .i64 x.a,.int .i64 x.b,.int .i64 x.s,.int .i64 x.e]
 | .led,x=>.agg [.lst (.int .i64) x.b,.int .i64 x.f]
 | .vtx,x=>.agg [.int .i64 x.round,.int .i64 x.author,.lst (.int .i64) x.parents,.int .i64 x.digest]
 | .ppl,x=>.agg [.int .i64 x.v.round,.int .i64 x.v.author,.lst (.int .i64) x.v.parents,.int .i64 x.v.digest,.lst (.int .i64) x.members]
 | .wrl,x=>.agg [.lst (.int .i64) x.com,.lst (.int .i64) x.lead,.int .i64 x.bad,.lst (.lst .vtx) x.views,.lst .ppl x.props]
 | .evt,x=>.agg [.int .i64 x.kind,.int .i64 x.a,.int .i64 x.b,.int .i64 x.v.round,.int .i64 x.v.author,.lst (.int .i64) x.v.parents,.int .i64 x.v.digest]
 | .slt,x=>.agg [.int .i64 x.round,.int .i64 x.author]
 | .odd,x=>.agg [.int .i64 x.v.round,.int .i64 x.v.author,.lst (.int .i64) x.v.parents,.int .i64 x.v.digest,.int .i64 x.wave]
 | .ob t,o=>.obo t o
 | .hr k,o=>.hro k o
 | .hp k,o=>.hpo k o
 | .vtxo k,x=>.agg [.int .i64 x.round,.int .i64 x.author,.hro k x.parents,.int .i64 x.digest]
 | .pplm k,x=>.agg [.int .i64 x.v.round,.int .i64 x.v.author,.lst (.int .i64) x.v.parents,.int .i64 x.v.digest,.hro k x.members]
 | .pplo k k',x=>.agg [.int .i64 x.v.round,.int .i64 x.v.author,.hro k x.v.parents,.int .i64 x.v.digest,.hro k' x.members]
 | .evto k,x=>.agg [.int .i64 x.kind,.int .i64 x.a,.int .i64 x.b,.int .i64 x.v.round,.int .i64 x.v.author,.hro k x.v.parents,.int .i64 x.v.digest]
 | .nod k,x=>.agg [.int .i64 x.v.round,.int .i64 x.v.author,.lst (.int .i64) x.v.parents,.int .i64 x.v.digest,.int .i64 x.index,.hro k x.parents]
theorem l7 (l:List Int):l.map (ai (.int .i64))=l.map (D.int .i64):=rfl
theorem lb:∀(t:Ty) (x:t.den),(enc t x).toD=ai t x
 | .int _,_| .bool,_| .str,_| .lst _,_| .txn,_| .ob _,_| .hr _,_| .hp _,_=>by simp[enc,ai,V.toD,ak]
 | .led,x=>by simp[enc,ai,V.toD,ak,ga,l7]
 | .vtx,x| .vtxo _,x=>by simp[enc,ai,V.toD,ak,ga,l7,iO]
 | .ppl,x| .pplm _,x| .pplo ..,x| .nod _,x| .odd,x=>by simp[enc,ai,V.toD,ak,ga,l7,iO,Dh]
 | .wrl,x=>by
  have:(fun g=>D.lst (List.map (ai .vtx) g))=Km:=funext fun g=>rfl
  have h2:(ai (.lst .vtx))=fun g=>D.lst (List.map (ai .vtx) g):=funext fun g=>rfl
  have h3:(ai .ppl)=fun p=>D.agg (Dh p):=funext fun g=>rfl
  simp only[enc,ai,V.toD,ak,ga,h2,h3,this]
  rfl
 | .evt,x| .evto _,x=>by simp[enc,ai,V.toD,ak,ga,l7,iO]
 | .slt,x=>by simp[enc,ai,V.toD,ak]
def Ty.sz:Ty→Nat
 | .txn=>4
 | .led=>2
 | .vtx=>4
 | .ppl=>5
 | .wrl=>5
 | .evt=>7
 | .evto _=>7
 | .slt=>2
 | .odd=>5
 | .vtxo _=>4
 | .pplm _=>5
 | .pplo ..=>5
 | .nod _=>6
 |_=>1
def Ty.pure:Ty→Bool
 | .hr _| .hp _| .vtxo _| .pplm _| .pplo .. | .nod _| .evto _=>false
 |_=>true
theorem oB (k:Nat)(o:Option Nat):(mZ k o).one=true∧(mZ k o).cells=[mZ k o]:=by cases o<;>exact⟨rfl,rfl⟩
theorem oA (k:Nat)(o:Option Nat):(qC k o).one=true∧(qC k o).cells=[qC k o]:=by cases o<;>exact⟨rfl,rfl⟩
theorem fV:∀(t:Ty) (x:t.den),wfC t.sz (ai t x)
 | .int _,_| .bool,_| .str,_| .lst _,_| .txn,_| .led,_| .vtx,_| .ppl,_| .wrl,_| .evt,_| .slt,_| .odd,_=>⟨rfl,rfl⟩
 | .ob _,some _| .ob _,none=>⟨rfl,rfl⟩
 | .hr k,o=>⟨by simp only[ai,(oB k o).2];rfl,by simp only[ai,(oB k o).2];simp[(oB k o).1]⟩
 | .hp k,o=>⟨by simp only[ai,(oA k o).2];rfl,by simp only[ai,(oA k o).2];simp[(oA k o).1]⟩
 | .vtxo _,⟨_,_,none,_⟩| .vtxo _,⟨_,_,some _,_⟩=>⟨rfl,rfl⟩
 | .pplm _,⟨_,none⟩| .pplm _,⟨_,some _⟩=>⟨rfl,rfl⟩
 | .pplo ..,⟨⟨_,_,none,_⟩,none⟩| .pplo ..,⟨⟨_,_,some _,_⟩,none⟩| .pplo ..,⟨⟨_,_,none,_⟩,some _⟩| .pplo ..,⟨⟨_,_,some _,_⟩,some _⟩=>⟨rfl,rfl⟩
 | .nod _,⟨_,_,none⟩| .nod _,⟨_,_,some _⟩=>⟨rfl,rfl⟩
 | .evto _,⟨_,_,_,⟨_,_,none,_⟩⟩| .evto _,⟨_,_,_,⟨_,_,some _,_⟩⟩=>⟨rfl,rfl⟩
theorem kl {t:Ty}(h:t.pure=true)(x:t.den):wfE t.sz (ai t x):=by
 cases t
 case ob t=>cases x<;>exact⟨rfl,rfl⟩
 all_goals first|exact⟨rfl,rfl⟩|cases h
theorem Ty.sz_pos:∀t:Ty,0<t.sz:=by intro t;cases t<;>simp[Ty.sz]
def ny (t t':Ty)(xs:List t'.den):Option (List t.den):=
 match decEq t' t with
 |isTrue h=>some (h▸xs)
 |isFalse _=>match xs with
  |[]=>some []
  |_=>none
theorem im {t t':Ty}{xs:List t'.den}{ys:List t.den}(h:ny t t' xs=some ys):xs.map (ai t')=ys.map (ai t):=by
 unfold ny at h
 split at h
 ·rename_i e _
  subst e
  simp only[aw] at h
  subst h
  rfl
 ·split at h
  ·simp only[aw] at h
   subst h
   rfl
  ·cases h
def w8 (t t':Ty)(x:t'.den):Option t.den:=
 match decEq t' t with
 |isTrue h=>some (h▸x)
 |isFalse _=>none
theorem sg {t t':Ty}{x:t'.den}{y:t.den}(h:w8 t t' x=some y):ai t' x=ai t y:=by
 unfold w8 at h
 split at h
 ·rename_i e _
  subst e
  simp only[aw] at h
  subst h
  rfl
 ·cases h
def qQ:V→Option (List Int)
 | .lst t ps=>ny (.int .i64) t ps
 | .nils=>none
 |_=>none
theorem gV {v:V}{l:List Int}(h:qQ v=some l):v.toD=ga l:=by
 unfold qQ at h
 split at h
 ·simp only[V.toD];rw[im h];rfl
 ·cases h
 ·cases h
def vh (k:Nat):V→Option (Option Nat)
 | .hro k' o=>bif Nat.beq k' k then some o else none
 | .fref k' i=>bif Nat.beq k' k then some (some i) else none
 | .lst _ []=>some none
 |_=>none
theorem kZ {k:Nat}{v:V}{o:Option Nat}(h:vh k v=some o):v.toD=mZ k o:=by
 unfold vh at h
 split at h
 ·rename_i k' _
  cases hb:Nat.beq k' k with
  |true=>rw[hb] at h;cases cq hb;cases h;rfl
  |false=>rw[hb] at h;cases h
 ·rename_i k' _
  cases hb:Nat.beq k' k with
  |true=>rw[hb] at h;cases cq hb;cases h;rfl
  |false=>rw[hb] at h;cases h
 ·simp only[aw] at h;subst h;rfl
 ·cases h
def KD (k:Nat):V→Option (Option Nat)
 | .hpo k' o=>bif Nat.beq k' k then some o else none
 | .fptr k' i 0=>bif Nat.beq k' k then some (some i) else none
 | .nilp=>some none
 |_=>none
theorem HK {k:Nat}{v:V}{o:Option Nat}(h:KD k v=some o):v.toD=qC k o:=by
 unfold KD at h
 split at h
 ·rename_i k' _
  cases hb:Nat.beq k' k with
  |true=>rw[hb] at h;cases cq hb;cases h;rfl
  |false=>rw[hb] at h;cases h
 ·rename_i k' _
  cases hb:Nat.beq k' k with
  |true=>rw[hb] at h;cases cq hb;cases h;rfl
  |false=>rw[hb] at h;cases h
 ·simp only[aw] at h;subst h;rfl
 ·cases h
def KC (t:Ty):V→Option (Option t.den)
 | .obo t' o=>(match o with|none=>some none|some x=>(w8 t t' x).map some)
 | .box t' x=>(w8 t t' x).map some
 | .nilp=>some none
 |_=>none
theorem HJ {t:Ty}{v:V}{o:Option t.den}(h:KC t v=some o):v.toD=ai (.ob t) o:=by
 unfold KC at h
 split at h
 ·split at h
  ·simp only[aw] at h;subst h;rfl
  ·obtain⟨y,h1,rfl⟩:=bj.1 h
   simp only[V.toD,ai,sg h1]
 ·obtain⟨y,h1,rfl⟩:=bj.1 h
  simp only[V.toD,ai,sg h1]
 ·simp only[aw] at h;subst h;rfl
 ·cases h
def MZ:(t:Ty)→V→Option t.den
 | .int k,.int k' n=>match decEq k' k with
  |isTrue _=>some n
  |isFalse _=>none
 | .bool,.bool b=>some b
 | .bool,.tt=>some true
 | .bool,.ff=>some false
 | .str,.str s=>some s
 | .lst t,.lst t' xs=>ny t t' xs
 | .txn,.agg [.int .i64 a,.int .i64 b,.int .i64 s,.int .i64 e]=>some ⟨a,b,s,e⟩
 | .led,.agg [b,.int .i64 f]=>(qQ b).map fun b=>⟨b,f⟩
 | .vtx,.agg [.int .i64 r,.int .i64 a,ps,.int .i64 d]=>(qQ ps).map fun ps=>⟨r,a,ps,d⟩
 | .ppl,.agg [.int .i64 r,.int .i64 a,ps,.int .i64 d,ms]=>(qQ ps).bind fun ps=>(qQ ms).map fun ms=>⟨⟨r,a,ps,d⟩,ms⟩
 | .wrl,.agg [c,l,.int .i64 b,.lst t3 vs,.lst t4 ps]=>(qQ c).bind fun c=>(qQ l).bind fun l=>(ny (.lst .vtx) t3 vs).bind fun vs=>(ny .ppl t4 ps).map fun ps=>⟨c,l,b,vs,ps⟩
 | .evt,.agg [.int .i64 k,.int .i64 x,.int .i64 y,.int .i64 r,.int .i64 a,ps,.int .i64 d]=>(qQ ps).map fun ps=>⟨k,x,y,⟨r,a,ps,d⟩⟩
 | .slt,.agg [.int .i64 r,.int .i64 a]=>some ⟨r,a⟩
 | .odd,.agg [.int .i64 r,.int .i64 a,ps,.int .i64 d,.int .i64 w]=>(qQ ps).map fun ps=>⟨⟨r,a,ps,d⟩,w⟩
 | .ob t,v=>KC t v
 | .hr k,v=>vh k v
 | .hp k,v=>KD k v
 | .vtxo k,.agg [.int .i64 r,.int .i64 a,ps,.int .i64 d]=>(vh k ps).map fun ps=>⟨r,a,ps,d⟩
 | .pplm k,.agg [.int .i64 r,.int .i64 a,ps,.int .i64 d,ms]=>(qQ ps).bind fun ps=>(vh k ms).map fun ms=>⟨⟨r,a,ps,d⟩,ms⟩
 | .pplo k k',.agg [.int .i64 r,.int .i64 a,ps,.int .i64 d,ms]=>(vh k ps).bind fun ps=>(vh k' ms).map fun ms=>⟨⟨r,a,ps,d⟩,ms⟩
 | .nod k,.agg [.int .i64 r,.int .i64 a,ps,.int .i64 d,.int .i64 i,ns]=>(qQ ps).bind fun ps=>(vh k ns).map fun ns=>⟨⟨r,a,ps,d⟩,i,ns⟩
 | .evto k,.agg [.int .i64 q,.int .i64 x,.int .i64 y,.int .i64 r,.int .i64 a,ps,.int .i64 d]=>(vh k ps).map fun ps=>⟨q,x,y,⟨r,a,ps,d⟩⟩
 |_,_=>none
theorem vj {t:Ty}{v:V}{x:t.den}(h:MZ t v=some x):v.toD=ai t x:=by
 unfold MZ at h
 split at h
 ·split at h
  ·rename_i e _
   subst e
   simp only[aw] at h
   subst h
   rfl
  ·cases h
 ·simp only[aw] at h;subst h;rfl
 ·simp only[aw] at h;subst h;rfl
 ·simp only[aw] at h;subst h;rfl
 ·simp only[aw] at h;subst h;rfl
 ·simp only[V.toD,ai,im h]
 ·simp only[aw] at h;subst h;rfl
 ·obtain⟨b',h1,rfl⟩:=bj.1 h
  simp only[V.toD,ak,ai,gV h1]
 ·obtain⟨b',h1,rfl⟩:=bj.1 h
  simp only[V.toD,ak,ai,iO,gV h1]
 ·obtain⟨b',h1,h⟩:=bw.1 h
  obtain⟨c',h2,rfl⟩:=bj.1 h
  simp[V.toD,ak,ai,iO,Dh,gV h1,gV h2]
 ·obtain⟨b',h1,h⟩:=bw.1 h
  obtain⟨c',h2,h⟩:=bw.1 h
  obtain⟨d',h3,h⟩:=bw.1 h
  obtain⟨e',h4,rfl⟩:=bj.1 h
  simp only[V.toD,ak,ai,gV h1,gV h2,im h3,im h4]
  rfl
 ·obtain⟨b',h1,rfl⟩:=bj.1 h
  simp[V.toD,ak,ai,iO,gV h1]
 ·simp only[aw] at h;subst h;rfl
 ·obtain⟨b',h1,rfl⟩:=bj.1 h
  simp[V.toD,ak,ai,iO,gV h1]
 ·exact HJ h
 ·exact kZ h
 ·exact HK h
 ·obtain⟨b',h1,rfl⟩:=bj.1 h
  simp only[V.toD,ak,ai,kZ h1]
 ·obtain⟨b',h1,h⟩:=bw.1 h
  obtain⟨c',h2,rfl⟩:=bj.1 h
  simp[V.toD,ak,ai,iO,gV h1,kZ h2]
 ·obtain⟨b',h1,h⟩:=bw.1 h
  obtain⟨c',h2,rfl⟩:=bj.1 h
  simp[V.toD,ak,ai,kZ h1,kZ h2]
 ·obtain⟨b',h1,h⟩:=bw.1 h
  obtain⟨c',h2,rfl⟩:=bj.1 h
  simp[V.toD,ak,ai,iO,gV h1,kZ h2]
 ·obtain⟨b',h1,rfl⟩:=bj.1 h
  simp only[V.toD,ak,ai,kZ h1]
 ·cases h
inductive VB where
 |var (T:TypeId) (cs:List V)
 |vari (T:TypeId) (pre:List V) (m:Nat) (t:Ty) (xs:List t.den) (post:List V)
 |row (E:TypeId) (t:Ty) (xs:List t.den)
 |lit (E:TypeId) (vs:List V)
 |froz (t:Ty) (xs:List t.den)
 |fvb (t:Ty) (x:t.den)
 |fvar (T:TypeId) (t:Ty) (xs:List t.den)
 |fvari (T:TypeId) (m:Nat) (t:Ty) (xss:List (List t.den))
 |frow (E:TypeId) (t:Ty) (xss:List (List t.den))
 |frowx (E:TypeId) (t:Ty) (xss:List (Option (List t.den)))
 |moved (k i:Nat)
 |gone
def rowX (E:TypeId)(t:Ty):Option (List t.den)→Blk
 |some xs=>.row E (xs.map (ai t))
 |none=>.gone
def VB.blks:VB→List Blk
 | .var T cs=>[.var T (ak cs)]
 | .vari T pre _ t xs post=>[.var T (ak pre++xs.map (ai t)++ak post)]
 | .row E t xs=>[.row E (xs.map (ai t))]
 | .lit E vs=>[.row E (ak vs)]
 | .froz t xs=>[.froz (xs.map (ai t))]
 | .fvb t x=>[.fvar (ai t x).cells]
 | .fvar T t xs=>xs.map fun x=>.var T (ai t x).cells
 | .fvari T _ t xss=>xss.map fun xs=>.var T (xs.map (ai t))
 | .frow E t xss=>xss.map fun xs=>.row E (xs.map (ai t))
 | .frowx E t xss=>xss.map (rowX E t)
 | .moved k i=>[.moved (k,i)]
 | .gone=>[.gone]
def VB.sgl:VB→Bool
 | .fvar .. | .fvari .. | .frow .. | .frowx ..=>false
 |_=>true
theorem VB.sgl_ok {x:VB}(h:x.sgl=true):∃d,x.blks=[d]:=by cases x<;>first|exact⟨_,rfl⟩|cases h
abbrev VT:=List (Nat×V)
abbrev VH:=List (Nat×VB)
def fP:VT→List (Nat×D):=List.map fun p=>(p.1,p.2.toD)
def fam (k:Nat)(l:List Blk):HL:=l.zipIdx.map fun p=>((k,p.2),p.1)
def ue:List Nat→VH→HL
 |_,[]=>[]
 |s,(k,x)::l=>(bif s.contains k then[] else fam k x.blks)++ue (k::s) l
def toH (h:VH):HL:=ue [] h
structure VSt where
 t:VT
 h:VH
 n:Nat
def VSt.toD (σ:VSt):St:=⟨fP σ.t,toH σ.h,σ.n⟩
theorem yd {κ α β:Type}[DecidableEq κ](f:α→β):∀(l:List (κ×α)) (k:κ),look (l.map fun p=>(p.1,f p.2)) k=(look l k).map f
 |[],k=>rfl
 |(x,d)::l,k=>by
  simp only[bI,look,yd f l k]
  split<;>rfl
theorem dj (t:VT)(k:Nat):look (fP t) k=(look t k).map V.toD:=yd _ _ _
theorem ip {κ α:Type}[DecidableEq κ]:∀(l m:List (κ×α)) (k:κ),look (l++m) k=match look l k with|some x=>some x|none=>look m k
 |[],m,k=>rfl
 |(x,a)::l,m,k=>by
  simp only[gz,look]
  split
  ·rfl
  ·exact ip l m k
theorem sZ (k:Nat)(l:List Blk)(b:Id):look (fam k l) b=if b.1=k then l[b.2]? else none:=by
 have key:∀(l:List Blk) (s:Nat),look ((l.zipIdx s).map fun p=>((k,p.2),p.1)) b=if b.1=k∧s≤b.2 then l[b.2-s]? else none:=by
  intro l
  induction l with
  |nil=>intro s;simp[look]
  |cons x l ih=>
   intro s
   simp only[mz,bI,look,ih]
   obtain⟨b1,b2⟩:=b
   simp only[a7]
   by_cases h1:b1=k
   ·by_cases h2:b2=s
    ·subst h2;simp[h1]
    ·by_cases h3:s≤b2
     ·rw[if_neg (by simp[h2]),if_pos ⟨h1,by omega⟩,if_pos ⟨h1,h3⟩,show b2-s=(b2-(s+1))+1 by omega]
      rfl
     ·rw[if_neg (by simp[h2]),if_neg (by omega),if_neg (by omega)]
   ·simp[h1]
 unfold fam
 rw[key l 0]
 simp
theorem uy:∀(h:VH) (s:List Nat) (b:Id),look (ue s h) b=if b.1∈s then none else(look h b.1).bind fun x=>x.blks[b.2]?
 |[],s,b=>by simp[ue,look]
 |(k,x)::l,s,b=>by
  simp only[ue,ip,uy l,look]
  by_cases hs:b.1∈s
  ·rw[if_pos (bB _ hs),if_pos hs]
   by_cases hk:k∈s
   ·simp[hk,look]
   ·have hc:s.contains k=false:=by simpa using hk
    have hne:b.1≠k:=fun e=>hk (e▸hs)
    rw[hc,cond_false,sZ,if_neg hne]
  ·rw[if_neg hs]
   by_cases hb:b.1=k
   ·have hc:s.contains k=false:=by rw[←hb];simpa using hs
    rw[hc,cond_false,sZ,if_pos hb,if_pos hb,if_pos (by rw[hb];exact bm ..)]
    simp only[bc]
    cases x.blks[b.2]?<;>rfl
   ·rw[if_neg hb,if_neg (by simp only[aK,not_or];exact⟨hb,hs⟩)]
    have:look (bif s.contains k then[] else fam k x.blks) b=none:=by
     cases s.contains k with
     |true=>rfl
     |false=>rw[cond_false,sZ,if_neg hb]
    rw[this]
theorem ap (h:VH)(b:Id):look (toH h) b=(look h b.1).bind fun x=>x.blks[b.2]?:=by
 unfold toH
 rw[uy]
 simp
inductive TK where
 |int (k:IntKind)|bool|str|slice (E:TypeId)|ptr (E:TypeId)|ifc|func
 |struct (fs:List (Nat×Nat×Nat))
 |arr (n:Nat) (E:TypeId)
structure TI where
 k:TK
 sz:Nat
 nb:Nat
 z:Option V
 ty:Option Ty
 own:Bool:=false
def TI.agg (ti:TI):Bool:=match ti.k with| .struct _=>true| .arr ..=>true|_=>false
def TK.ok (P:Program)(T:TypeId):TK→Prop
 | .int k=>P.underlying T=some (.int k)
 | .bool=>P.underlying T=some .bool
 | .str=>P.underlying T=some .string
 | .slice E=>P.underlying T=some (.slice E)
 | .ptr E=>P.underlying T=some (.pointer E)
 | .ifc=>xM P T=true
 | .func=>True
 | .struct fs=>(∀i ty off s,fs[i]?=some (ty,off,s)→vz P T i=some (ty,off)∧(0<s→j2 P T i=some off))∧lp P T=some (fs.map fun f=>(f.2.1,f.2.2))
 | .arr n E=>P.underlying T=some (.array n E)
structure TI.ok (P:Program)(T:TypeId)(ti:TI):Prop where
 und:ti.k.ok P T
 size:sizeT P T=some ti.sz
 agg:isAggT P T=some ti.agg
 zero:∀z,ti.z=some z→ofZero P T=some z.toD
 elem:ti.z.isSome=true→0<ti.sz→elemT P T=some (ti.sz,ti.nb)
def vB:Value→V→Bool
 | .int k n,.int k' n'=>decide (k=k') && n==n'
 | .bool b,.bool b'=>b==b'
 | .string s,.str s'=>decide (s=s')
 | .pointer none,.nilp=>true
 | .slice none 0 0,.nils=>true
 | .nilFunc,.nilf=>true
 | .nilIface,.nili=>true
 |_,_=>false
theorem Kk {v:Value}{x:V}(h:vB v x=true):jO v=some x.toD:=by
 unfold vB at h
 split at h
 ·simp only[az,decide_eq_true_eq,beq_iff_eq] at h
  obtain⟨rfl,rfl⟩:=h
  rfl
 ·simp only[beq_iff_eq] at h
  subst h
  rfl
 ·simp only[decide_eq_true_eq] at h
  subst h
  rfl
 ·rfl
 ·rfl
 ·rfl
 ·rfl
 ·cases h
def Oe:List Value→List V→Bool
 |[],[]=>true
 |v::vs,x::xs=>vB v x && Oe vs xs
 |_,_=>false
theorem G6:∀{vs:List Value} {xs:List V},Oe vs xs=true→vs.mapM jO=some (ak xs)
 |[],[],_=>rfl
 |[],_::_,h=>by cases h
 |_::_,[],h=>by cases h
 |v::vs,x::xs,h=>by
  simp only[Oe,az] at h
  simp[iC,Kk h.1,G6 h.2,ak]
def zB:Option Value→Option V→Bool
 |_,none=>true
 |some (.agg vs),some (.agg xs)=>Oe vs.toList xs
 |some (.agg _),some _=>false
 |some v,some x=>vB v x
 |none,some _=>false
def kB (P:Program)(T:TypeId)(k:TK):Bool:=
 match k,P.underlying T with
 | .int k,some (.int k')=>decide (k=k')
 | .bool,some .bool=>true
 | .str,some .string=>true
 | .slice E,some (.slice E')=>E==E'
 | .ptr E,some (.pointer E')=>E==E'
 | .ifc,some (.interface _)=>true
 | .func,some (.func ..)=>true
 | .struct fs,some (.struct a)=>decide (fs.map (fun f=>(f.1,f.2.1))=a.toList.map fun f=>(f.type,f.offset)) && fs.all fun f=>match P.info? f.1 with|some i=>i.size==f.2.2|none=>false
 | .arr n E,some (.array n' E')=>n==n' && E==E'
 |_,_=>false
def OY (P:Program)(T:TypeId)(ti:TI):Bool:=
 kB P T ti.k && (match P.info? T with
  |some i=>i.size==ti.sz && i.bytes==ti.nb && zB i.zero ti.z && (match i.zero with|some z=>z.cells.size==i.size|none=>true)
  |none=>false)
theorem uz {α β:Type}{f:α→Option β}{g:α→β}:∀{l:List α},(∀x∈l,f x=some (g x))→l.mapM f=some (l.map g)
 |[],_=>rfl
 |a::l,h=>by simp[iC,h a (bm ..),uz fun x hx=>h x (bB _ hx)]
theorem N8 {P:Program}{T:TypeId}{i:TypeInfo}(hi:P.info? T=some i){z:V}(h:zB i.zero (some z)=true):ofZero P T=some z.toD:=by
 unfold ofZero
 rw[hi]
 simp only[bc]
 unfold zB at h
 split at h
 ·rename_i e;cases e
 ·rename_i vs xs e1 e2
  simp only[aw] at e2
  subst e2
  rw[e1]
  simp only[G6 h,aI,V.toD]
 ·cases h
 ·rename_i v x hne e1 e2
  simp only[aw] at e2
  subst e2
  rw[e1]
  split
  ·rename_i vs e
   simp only[aw] at e
   subst e
   exact absurd rfl (hne vs)
  ·rename_i e
   simp only[aw] at e
   subst e
   exact Kk h
  ·rename_i e;cases e
 ·cases h
theorem NB {P:Program}{T:TypeId}{k:TK}(h:kB P T k=true):k.ok P T:=by
 unfold kB at h
 split at h
 ·rename_i e;simp only[decide_eq_true_eq] at h;subst h;exact e
 ·rename_i e;exact e
 ·rename_i e;exact e
 ·rename_i e;simp only[beq_iff_eq] at h;subst h;exact e
 ·rename_i e;simp only[beq_iff_eq] at h;subst h;exact e
 ·rename_i e;show xM P T=true;unfold xM;rw[e]
 ·trivial
 ·rename_i fs a e
  simp only[az,decide_eq_true_eq,aM] at h
  obtain⟨h1,h2⟩:=h
  have hsz:∀f∈fs,∃i,P.info? f.1=some i∧i.size=f.2.2:=by
   intro f hf
   have:=h2 f hf
   split at this
   ·rename_i i hi;exact⟨i,hi,by simpa using this⟩
   ·cases this
  refine⟨fun i ty off s hi=>?_,?_⟩
  ·have hm:(fs.map fun f=>(f.1,f.2.1))[i]?=some (ty,off):=by rw[bf,hi];rfl
   rw[h1,bf] at hm
   obtain⟨fd,hfd,he⟩:=bj.1 hm
   simp only[a7] at he
   obtain⟨rfl,rfl⟩:=he
   have hfd':a[i]?=some fd:=by simpa using hfd
   obtain⟨ii,hi1,hi2⟩:=hsz _ (br hi)
   simp only at hi1 hi2
   refine⟨by unfold vz;simp[e,hfd'],fun hs=>?_⟩
   unfold j2
   have:sizeT P fd.type=some s:=by unfold sizeT;rw[hi1];simp[hi2]
   simp only[e,hfd',this]
   cases s with
   |zero=>omega
   |succ s=>rfl
  ·unfold lp
   simp only[e]
   have hl:a.toList.length=fs.length:=by have:=congrArg List.length h1;simpa using this.symm
   have key:∀(l:List Field) (gs:List (Nat×Nat×Nat)),gs.map (fun f=>(f.1,f.2.1))=l.map (fun f=>(f.type,f.offset))→(∀f∈gs,∃i,P.info? f.1=some i∧i.size=f.2.2)→
     (l.mapM fun f=>(P.info? f.type).map fun i=>(f.offset,i.size))=some (gs.map fun f=>(f.2.1,f.2.2)):=by
    intro l
    induction l with
    |nil=>
     intro gs hg _
     cases gs with
     |nil=>rfl
     |cons g gs=>simp at hg
    |cons x l ih=>
     intro gs hg hs
     cases gs with
     |nil=>simp at hg
     |cons g gs=>
      simp only[bI,List.cons.injEq,a7] at hg
      obtain⟨⟨g1,g2⟩,g3⟩:=hg
      obtain⟨i,hi1,hi2⟩:=hs g (bm ..)
      rw[g1] at hi1
      simp[iC,hi1,ih gs g3 fun f hf=>hs f (bB _ hf),hi2,g2]
   exact key _ _ h1 hsz
 ·rename_i e;simp only[az,beq_iff_eq] at h;obtain⟨rfl,rfl⟩:=h;exact e
 ·cases h
theorem ML {P:Program}{T:TypeId}{ti:TI}(h:OY P T ti=true):ti.ok P T:=by
 unfold OY at h
 simp only[az] at h
 obtain⟨hk,h⟩:=h
 split at h
 ·rename_i i hi
  simp only[az,beq_iff_eq] at h
  obtain⟨⟨⟨h1,h2⟩,h3⟩,h4⟩:=h
  refine⟨NB hk,by unfold sizeT;rw[hi];simp[h1],?_,fun z hz=>N8 hi (by rw[←hz];exact h3),fun hz hp=>?_⟩
  ·unfold isAggT TI.agg
   unfold kB at hk
   split at hk<;>simp_all
  ·unfold elemT
   rw[hi]
   simp only
   cases hzz:i.zero with
   |none=>
    rw[hzz] at h3
    cases hz':ti.z with
    |none=>rw[hz'] at hz;cases hz
    |some z=>rw[hz'] at h3;simp[zB] at h3
   |some z=>
    rw[hzz] at h4
    simp only[beq_iff_eq] at h4
    show (if z.cells.size=i.size∧0<i.size then some (i.size,i.bytes) else none)=_
    rw[if_pos ⟨h4,by omega⟩,h1,h2]
 ·cases h
abbrev TT:=List (Nat×TI)
def TT.ok (P:Program)(Θ:TT):Prop:=∀T ti,look Θ T=some ti→ti.ok P T
def TT.okB (P:Program)(Θ:TT):Bool:=Θ.all fun p=>OY P p.1 p.2
theorem TT.okB_ok {P:Program}{Θ:TT}(h:Θ.okB P=true):Θ.ok P:=fun T ti hl=>ML (by
 unfold TT.okB at h
 rw[aM] at h
 exact h _ (di hl))
def ci (φ K:Prop):Prop:=φ∧K
def Nw:IntKind→Int→Prop
 | .i8,n=>-128≤n∧n≤127
 | .i16,n=>-32768≤n∧n≤32767
 | .i32,n=>-2147483648≤n∧n≤2147483647
 | .i64,n=>-9223372036854775808≤n∧n≤9223372036854775807
 | .u8,n=>0≤n∧n≤255
 | .u16,n=>0≤n∧n≤65535
 | .u32,n=>0≤n∧n≤4294967295
 | .u64,n=>0≤n∧n≤18446744073709551615
theorem Fi {k:IntKind}{n:Int}(h:Nw k n):k.wrap n=n:=by
 unfold Nw at h
 cases k<;>simp only at h<;>(unfold IntKind.wrap;simp[IntKind.bits,IntKind.signed];omega)
def Ari (k:IntKind)(z:Int)(K:Int→Prop):Prop:=(Nw k z∧K z)∨K (k.wrap z)
theorem Ari.ok {k:IntKind}{z:Int}{K:Int→Prop}(h:Ari k z K):K (k.wrap z):=by
 rcases h with⟨h1,h2⟩|h
 ·rw[Fi h1];exact h2
 ·exact h
def fF {α:Type}(xs:List α)(i:Nat)(K:α→Prop):Prop:=∃x,xs[i]?=some x∧K x
def mI {α:Type}(xs:List α)(i:Int)(K:Nat→α→Prop):Prop:=0≤i∧∃x,xs[i.toNat]?=some x∧K i.toNat x
def jx (b:Bool)(A B:Prop):Prop:=(b=true→A)∧(b=false→B)
def bJ {α:Type}:List (Nat×α)→Nat→(α→Prop)→Prop
 |[],_,_=>False
 |(k,a)::l,x,K=>bif Nat.beq x k then K a else bJ l x K
theorem aG {α:Type}:∀{l:List (Nat×α)} {x:Nat} {K:α→Prop},bJ l x K→∃a,look l x=some a∧K a
 |[],_,_,h=>h.elim
 |(k,a)::l,x,K,h=>by
  simp only[bJ] at h
  simp only[look]
  by_cases e:x=k
  ·subst e
   simp only[Nat.beq_refl,cond_true] at h
   exact⟨a,by simp,h⟩
  ·have:Nat.beq x k=false:=by
    cases hb:Nat.beq x k with
    |false=>rfl
    |true=>exact absurd (cq hb) e
   rw[this] at h
   simp only[cond_false] at h
   rw[if_neg e]
   exact aG h
def eP (h:VH)(b:Nat)(K:VB→Prop):Prop:=bJ h b K
theorem bi {h:VH}{b:Nat}{K:VB→Prop}(hk:eP h b K):∃x,look h b=some x∧K x:=aG hk
theorem av {h:VH}{k i:Nat}{x:VB}{d:Blk}(h1:look h k=some x)(h2:x.blks[i]?=some d):look (toH h) (k,i)=some d:=by rw[ap,h1];exact h2
def Ac:Value→Option V
 | .int k n=>some (.int k n)
 | .bool true=>some .tt
 | .bool false=>some .ff
 | .string s=>some (.str s)
 | .pointer none=>some .nilp
 | .slice none 0 0=>some .nils
 | .nilFunc=>some .nilf
 | .nilIface=>some .nili
 |_=>none
theorem Db {v:Value}{x:V}(h:Ac v=some x):jO v=some x.toD:=by
 unfold Ac at h
 split at h<;>first|(simp only[aw] at h;subst h;rfl)|cases h
def qy (t:VT)(x:Operand)(K:V→Prop):Prop:=
 match x with
 | .tmp k=>bJ t k K
 | .const v=>(match Ac v with|some d=>K d|none=>False)
 | .global g=>(match look Gl g with|some _=>K (.gp g)|none=>False)
 |_=>False
theorem cL {t:VT}{x:Operand}{K:V→Prop}(h:qy t x K):∃v,aY (fP t) x=some v.toD∧K v:=by
 unfold qy at h
 split at h
 ·obtain⟨v,h1,h2⟩:=aG h
  exact⟨v,by simp only[aY,dj,h1,aI],h2⟩
 ·split at h
  ·rename_i d hd
   exact⟨d,Db hd,h⟩
  ·exact h.elim
 ·rename_i g
  split at h
  ·rename_i y hy
   exact⟨.gp g,by simp[aY,hy,V.toD],h⟩
  ·exact h.elim
 ·exact h.elim
def KK (t:VT):List Operand→(List V→Prop)→Prop
 |[],K=>K []
 |x::l,K=>qy t x fun v=>KK t l fun vs=>K (v::vs)
theorem Bi {t:VT}:∀{l:List Operand} {K:List V→Prop},KK t l K→∃vs,evalDs (fP t) l=some (ak vs)∧K vs
 |[],K,h=>⟨[],rfl,h⟩
 |x::l,K,h=>by
  obtain⟨v,h1,h2⟩:=cL h
  obtain⟨vs,h3,h4⟩:=Bi h2
  exact⟨v::vs,xr h1 h3,h4⟩
def y5 (l:List (Nat×V)):List (Nat×D):=l.map fun p=>(p.1,p.2.toD)
def KL (t:VT):List (Nat×Operand)→(List (Nat×V)→Prop)→Prop
 |[],K=>K []
 |(k,x)::l,K=>qy t x fun v=>KL t l fun vs=>K ((k,v)::vs)
theorem Bj {t:VT}:∀{l:List (Nat×Operand)} {K:List (Nat×V)→Prop},KL t l K→∃vs,evalPs (fP t) l=some (y5 vs)∧K vs
 |[],K,h=>⟨[],rfl,h⟩
 |(k,x)::l,K,h=>by
  obtain⟨v,h1,h2⟩:=cL h
  obtain⟨vs,h3,h4⟩:=Bj h2
  exact⟨(k,v)::vs,xt h1 h3,h4⟩
def yg {α:Type}:List α→Nat→(α→Prop)→Prop
 |[],_,_=>False
 |c::_,0,K=>K c
 |_::cs,n+1,K=>yg cs n K
theorem lk {α:Type}:∀{l:List α} {n:Nat} {K:α→Prop},yg l n K→∃x,l[n]?=some x∧K x
 |[],_,_,h=>h.elim
 |c::_,0,K,h=>⟨c,rfl,h⟩
 |_::cs,n+1,K,h=>by
  obtain⟨x,h1,h2⟩:=lk (l:=cs) (n:=n) h
  exact⟨x,by simpa using h1,h2⟩
def tD:List V→Nat→(List V→Prop)→Prop
 |_,0,K=>K []
 |[],_+1,_=>False
 |c::cs,n+1,K=>tD cs n fun r=>K (c::r)
theorem o8:∀{l:List V} {n:Nat} {K:List V→Prop},tD l n K→n≤l.length∧K (l.take n)
 |l,0,K,h=>⟨aX _,by cases l<;>simpa[tD] using h⟩
 |[],_+1,_,h=>h.elim
 |c::cs,n+1,K,h=>by
  obtain⟨h1,h2⟩:=o8 (l:=cs) (n:=n) h
  exact⟨by simpa using h1,by simpa using h2⟩
def GQ:List V→Nat→Nat→(List V→Prop)→Prop
 |l,0,s,K=>tD l s K
 |[],_+1,_,_=>False
 |_::cs,o+1,s,K=>GQ cs o s K
theorem wn:∀{l:List V} {o s:Nat} {K:List V→Prop},GQ l o s K→o+s≤l.length∧K ((l.drop o).take s)
 |l,0,s,K,h=>by
  have h':tD l s K:=by cases l<;>simpa[GQ] using h
  obtain⟨h1,h2⟩:=o8 h'
  exact⟨by omega,by simpa using h2⟩
 |[],_+1,_,_,h=>h.elim
 |_::cs,o+1,s,K,h=>by
  obtain⟨h1,h2⟩:=wn (l:=cs) (o:=o) h
  exact⟨by simp only[bF];omega,by simpa using h2⟩
def yk:List V→List V→(List V→Prop)→Prop
 |l,[],K=>K l
 |[],_::_,_=>False
 |_::l,x::m,K=>yk l m fun r=>K (x::r)
def uc:List V→Nat→List V→(List V→Prop)→Prop
 |l,0,m,K=>yk l m K
 |[],_+1,_,_=>False
 |c::l,o+1,m,K=>uc l o m fun r=>K (c::r)
theorem yl:∀{l m:List V} {K:List V→Prop},yk l m K→m.length≤l.length∧K (m++l.drop m.length)
 |l,[],K,h=>⟨aX _,by cases l<;>simpa[yk] using h⟩
 |[],_::_,_,h=>h.elim
 |_::l,x::m,K,h=>by
  obtain⟨h1,h2⟩:=yl (l:=l) (m:=m) h
  exact⟨by simpa using h1,by simpa using h2⟩
theorem jT:∀{l:List V} {o:Nat} {m:List V} {K:List V→Prop},uc l o m K→o+m.length≤l.length∧K (l.take o++m++l.drop (o+m.length))
 |l,0,m,K,h=>by
  have h':yk l m K:=by cases l<;>simpa[uc] using h
  obtain⟨h1,h2⟩:=yl h'
  exact⟨by omega,by simpa using h2⟩
 |[],_+1,_,_,h=>h.elim
 |c::l,o+1,m,K,h=>by
  obtain⟨h1,h2⟩:=jT (l:=l) (o:=o) (m:=m) h
  refine⟨by simp only[bF];omega,?_⟩
  have:o+1+m.length=(o+m.length)+1:=by omega
  rw[this]
  simpa using h2
theorem aL (l:List V):(ak l).length=l.length:=by rw[cY,aA]
theorem mo (l m:List V)(o:Nat):ba (ak l) o (ak m)=ak (l.take o++m++l.drop (o+m.length)):=by
 simp only[ba,cY,cf,List.map_take,List.map_drop,aA]
def V.cells:V→List V
 | .agg cs=>cs
 |v=>[v]
theorem bu (v:V):v.toD.cells=ak v.cells:=by
 cases v
 case hro k o=>cases o<;>rfl
 case hpo k o=>cases o<;>rfl
 case obo t o=>cases o<;>rfl
 all_goals rfl
def iy (ti:TI)(cs:List V)(o:Nat)(K:V→Prop):Prop:=bif ti.agg then GQ cs o ti.sz fun r=>K (.agg r) else yg cs o K
theorem cW {P:Program}{T:TypeId}{ti:TI}(ht:ti.ok P T){cs:List V}{o:Nat}{K:V→Prop}(h:iy ti cs o K):∃v,b8 P T (ak cs) o=some v.toD∧K v:=by
 unfold iy at h
 have ha:=ht.agg
 cases hb:ti.agg with
 |true=>
  rw[hb] at h ha
  obtain⟨h1,h2⟩:=wn h
  refine⟨_,Kj ha ht.size (by rw[aL];exact h1) ?_,h2⟩
  simp only[cY,←List.map_take,←List.map_drop]
 |false=>
  rw[hb] at h ha
  obtain⟨v,h1,h2⟩:=lk h
  exact⟨v,GW ha (by rw[cY,bf,h1];rfl),h2⟩
theorem wv {P:Program}{T:TypeId}{A B:List D}{o:Nat}{d:D}(h:b8 P T A o=some d):b8 P T (A++B) o=some d:=by
 unfold b8 at h⊢
 cases h1:isAggT P T with
 |none=>rw[h1] at h;simp at h
 |some b=>
  cases b with
  |true=>
   cases h2:sizeT P T with
   |none=>rw[h1,h2] at h;simp at h
   |some s=>
    rw[h1,h2] at h
    simp only at h⊢
    split at h
    ·rename_i hle
     rw[if_pos (by rw[aP];omega),←h]
     congr 2
     rw[List.drop_append_of_le_length (by omega),List.take_append_of_le_length (by rw[lB];omega)]
    ·cases h
  |false=>
   rw[h1] at h
   simp only at h⊢
   have hlt:=(aR.1 h).1
   rw[cX hlt]
   exact h
theorem ud {P:Program}{T:TypeId}{A B:List D}{o:Nat}{d:D}(h:b8 P T B o=some d):b8 P T (A++B) (A.length+o)=some d:=by
 unfold b8 at h⊢
 cases h1:isAggT P T with
 |none=>rw[h1] at h;simp at h
 |some b=>
  cases b with
  |true=>
   cases h2:sizeT P T with
   |none=>rw[h1,h2] at h;simp at h
   |some s=>
    rw[h1,h2] at h
    simp only at h⊢
    split at h
    ·rename_i hle
     rw[if_pos (by rw[aP];omega),←h]
     congr 2
     rw[List.drop_append,List.drop_of_length_le (by omega),dS,Nat.add_sub_cancel_left]
    ·cases h
  |false=>
   rw[h1] at h
   simp only at h⊢
   rw[eW (by omega)]
   simpa using h
def Chk (b:Bool)(K:Prop):Prop:=match b with|true=>K|false=>False
def Mk (b:Bool)(K:Prop):Prop:=b=true∧K
theorem Chk.ok {b:Bool}{K:Prop}(h:Chk b K):b=true∧K:=by cases b<;>first|exact h.elim|exact⟨rfl,h⟩
def gJ (n:Nat)(K:Nat→Prop):Prop:=
 match n with
 |0=>K 0|1=>K 1|2=>K 2|3=>K 3|4=>K 4|5=>K 5|6=>K 6|7=>K 7|8=>K 8|9=>K 9|10=>K 10|11=>K 11|12=>K 12|13=>K 13|14=>K 14|15=>K 15
 |16=>K 16|17=>K 17|18=>K 18|19=>K 19|20=>K 20|21=>K 21|22=>K 22|23=>K 23
 |n=>K n
theorem bU {n:Nat}{K:Nat→Prop}(h:gJ n K):K n:=by
 unfold gJ at h
 split at h<;>exact h
def gc:List Nat→(List Nat→Prop)→Prop
 |[],K=>K []
 |b::l,K=>gJ b fun b=>gc l fun l=>K (b::l)
theorem ct:∀{l:List Nat} {K:List Nat→Prop},gc l K→K l
 |[],K,h=>h
 |b::l,K,h=>ct (l:=l) (K:=fun l=>K (b::l)) (bU (K:=fun b=>gc l fun l=>K (b::l)) h)
def Hq {α:Type}:List α→List α→(List α→Prop)→Prop
 |[],m,K=>K m
 |a::l,m,K=>Hq l m fun r=>K (a::r)
theorem u3 {α:Type}:∀{l m:List α} {K:List α→Prop},Hq l m K→K (l++m)
 |[],m,K,h=>h
 |a::l,m,K,h=>u3 (l:=l) (K:=fun r=>K (a::r)) h
def j8:List Nat→Bool
 |[]=>true
 |a::l=>!(l.contains a) && j8 l
theorem i6:∀{l:List Nat},j8 l=true→l.Nodup
 |[],_=>List.nodup_nil
 |a::l,hl=>by
  simp only[j8,az,fO] at hl
  exact List.nodup_cons.2 ⟨by simpa using hl.1,i6 hl.2⟩
def aV {α:Type}:List (Nat×α)→Nat→Option α
 |[],_=>none
 |(k,a)::l,x=>bif Nat.beq x k then some a else aV l x
theorem aS {α:Type}:∀(l:List (Nat×α)) (x:Nat),aV l x=look l x
 |[],_=>rfl
 |(k,a)::l,x=>by
  simp only[aV,look,aS l x]
  by_cases e:x=k
  ·subst e;simp
  ·have:Nat.beq x k=false:=by
    cases hb:Nat.beq x k with
    |false=>rfl
    |true=>exact absurd (cq hb) e
   rw[this,if_neg e];rfl
def cS (h:VH)(u:HL)(vu:VH):Prop:=(∀b,look (puts u (toH h)) b=look (toH (puts vu h)) b)∧∀x∈u,x.1.1∈vu.map (·.1)
theorem a8 {h:VH}:cS h [] []:=⟨fun _=>rfl,fun x hx=>by cases hx⟩
theorem rS {h:VH}{u1 u2:HL}{v1 v2:VH}(h1:cS h u1 v1)(h2:cS (puts v1 h) u2 v2):cS h (u1++u2) (v1++v2):=by
 refine⟨fun b=>?_,fun x hx=>?_⟩
 ·rw[bE,bE,←h2.1 b]
  exact bT (h1.1 b)
 ·rw[cf]
  rcases bh.1 hx with hx|hx
  ·exact eq _ (h1.2 x hx)
  ·exact eL _ (h2.2 x hx)
theorem wz {h:VH}{k:Nat}{y:VB}{u:HL}(hk:∀x∈u,x.1.1=k)(hu:∀i,look (puts u (toH h)) (k,i)=y.blks[i]?):cS h u [(k,y)]:=by
 refine⟨fun b=>?_,fun x hx=>by rw[hk x hx];exact aZ.2 rfl⟩
 obtain⟨b1,b2⟩:=b
 rw[ap]
 show _=(look (put k y h) b1).bind _
 rw[af]
 by_cases e:b1=k
 ·subst e;rw[if_pos rfl];exact hu b2
 ·rw[if_neg e,aN _ _ _ fun x hx he=>e (by rw[←hk x hx,he]),ap]
theorem pd {h:VH}{k:Nat}{y:VB}{d:Blk}(ho:∀i,i≠0→look (toH h) (k,i)=none)(hy:y.blks=[d]):cS h [((k,0),d)] [(k,y)]:=by
 refine wz (fun x hx=>by obtain rfl:=aZ.1 hx;rfl) fun i=>?_
 show look (put (k,0) d (toH h)) (k,i)=_
 rw[af,hy]
 cases i with
 |zero=>rw[if_pos rfl];rfl
 |succ i=>rw[if_neg (by simp),ho _ (by simp)];rfl
theorem FU {h:VH}{k:Nat}{x:VB}(h1:look h k=some x)(hs:x.sgl=true):∀i,i≠0→look (toH h) (k,i)=none:=by
 intro i hi
 obtain⟨d,hd⟩:=VB.sgl_ok hs
 rw[ap,h1]
 simp only[bc,hd]
 cases i with
 |zero=>exact absurd rfl hi
 |succ i=>rfl
theorem ic {h:VH}{k:Nat}{x y:VB}{d:Blk}(h1:look h k=some x)(hs:x.sgl=true)(hy:y.blks=[d]):cS h [((k,0),d)] [(k,y)]:=pd (FU h1 hs) hy
theorem lz {h:VH}{n:Nat}{y:VB}{d:Blk}(hn:∀b:Id,n≤b.1→look (toH h) b=none)(hy:y.blks=[d]):cS h [((n,0),d)] [(n,y)]:=pd (fun i _=>hn (n,i) (ax _)) hy
theorem wy {h:VH}{k i:Nat}{x y:VB}{d:Blk}(h1:look h k=some x)(hy:y.blks=x.blks.set i d)(hi:i<x.blks.length):cS h [((k,i),d)] [(k,y)]:=by
 refine wz (fun x hx=>by obtain rfl:=aZ.1 hx;rfl) fun j=>?_
 show look (put (k,i) d (toH h)) (k,j)=_
 rw[af,ap,h1,hy]
 by_cases e:j=i
 ·subst e;rw[if_pos rfl,List.getElem?_set_self hi]
 ·rw[if_neg (by simp[e]),nT (cm e)];rfl
theorem G0 {h:VH}{k:Nat}{x y:VB}{d:Blk}(h1:look h k=some x)(hy:y.blks=x.blks++[d]):cS h [((k,x.blks.length),d)] [(k,y)]:=by
 refine wz (fun x hx=>by obtain rfl:=aZ.1 hx;rfl) fun j=>?_
 show look (put (k,x.blks.length) d (toH h)) (k,j)=_
 rw[af,ap,h1,hy]
 by_cases e:j=x.blks.length
 ·subst e;rw[if_pos rfl];simp
 ·rw[if_neg (by simp[e])]
  simp only[bc]
  by_cases hl:j<x.blks.length
  ·rw[cX hl]
  ·rw[ep (by omega),ep (by rw[aP,mF];omega)]
def sA (h:VH)(k:Nat):Bool:=match aV h k with|some x=>!x.sgl|none=>true
theorem sC {h:VH}{k i:Nat}(hf:sA h k=true){d:Blk}(hd:look (toH h) (k,i)=some d):(∃T cs,d= .var T cs)∨(∃E l,d= .row E l)∨d= .gone:=by
 rw[ap,←aS] at hd
 unfold sA at hf
 cases hl:aV h k with
 |none=>rw[hl] at hd;cases hd
 |some x=>
  rw[hl] at hf hd
  simp only[bc] at hd
  cases x<;>simp[VB.sgl] at hf
  all_goals (simp only[VB.blks,bf] at hd;obtain⟨y,_,rfl⟩:=bj.1 hd)
  ·exact .inl ⟨_,_,rfl⟩
  ·exact .inl ⟨_,_,rfl⟩
  ·exact .inr (.inl ⟨_,_,rfl⟩)
  ·cases y with
   |none=>exact .inr (.inr rfl)
   |some y=>exact .inr (.inl ⟨_,_,rfl⟩)
theorem Bn {h:VH}{k:Nat}(hf:sA h k=true)(i:Nat):fwd (toH h) (.ref (k,i))= .ref (k,i):=by
 simp only[fwd]
 split
 ·rename_i c hc;rcases sC hf hc with⟨_,_,e⟩|⟨_,_,e⟩|e<;>cases e
 ·rename_i c hc;rcases sC hf hc with⟨_,_,e⟩|⟨_,_,e⟩|e<;>cases e
 ·rfl
theorem vw {h:VH}{k:Nat}(hf:sA h k=true)(i o:Nat):fwd (toH h) (.ptr (k,i) o)= .ptr (k,i) o:=by
 simp only[fwd]
 split
 ·rename_i c hc;rcases sC hf hc with⟨_,_,e⟩|⟨_,_,e⟩|e<;>cases e
 ·rename_i c hc;rcases sC hf hc with⟨_,_,e⟩|⟨_,_,e⟩|e<;>cases e
 ·rfl
theorem Ex {h:VH}{k:Nat}(hf:sA h k=true)(i j o:Nat):fwd (toH h) (.eptr (k,i) j o)= .eptr (k,i) j o:=by
 simp only[fwd]
 split
 ·rename_i c hc;rcases sC hf hc with⟨_,_,e⟩|⟨_,_,e⟩|e<;>cases e
 ·rfl
theorem v7 (h:VH)(b:Nat):look (toH h) (b,0)=match aV h b with|some x=>x.blks[0]? |none=>none:=by
 rw[ap,←aS]
 cases aV h b<;>rfl
def H1 (h:VH)(b:Nat):V:=match aV h b with
 |some (.moved k i)=>.fref k i
 |some (.froz t xs)=>.lst t xs
 |_=>.ref b
theorem H2 (h:VH)(b:Nat):fwd (toH h) (.ref (b,0))=(H1 h b).toD:=by
 simp only[fwd,v7,H1]
 cases hl:aV h b with
 |none=>rfl
 |some x=>
  cases x with
  |fvar T t xs=>cases xs<;>rfl
  |fvari T m t xs=>cases xs<;>rfl
  |frow E t xs=>cases xs<;>rfl
  |frowx E t xs=>cases xs with|nil=>rfl|cons y _=>cases y<;>rfl
  |_=>rfl
def vG (h:VH)(b o:Nat):V:=match aV h b with
 |some (.moved k i)=>.fptr k i o
 |some (.fvb t x)=>(match o with|0=>.box t x|o+1=>(match enc t x with| .agg _=>.iptr t x (o+1)|_=>.undef))
 |_=>.ptr b o
theorem Bs (h:VH)(b o:Nat)(hne:vG h b o≠ .undef):fwd (toH h) (.ptr (b,0) o)=(vG h b o).toD:=by
 unfold vG at hne⊢
 simp only[fwd,v7]
 cases hl:aV h b with
 |none=>rfl
 |some x=>
  cases x with
  |fvar T t xs=>cases xs<;>rfl
  |fvari T m t xs=>cases xs<;>rfl
  |frow E t xs=>cases xs<;>rfl
  |frowx E t xs=>cases xs with|nil=>rfl|cons y _=>cases y<;>rfl
  |fvb t x=>
   rw[hl] at hne
   cases o with
   |zero=>rfl
   |succ o=>
    simp only at hne⊢
    have e1:=lb t x
    cases he:enc t x with
    |agg cs=>
     rw[he] at e1
     simp only[VB.blks,iQ,V.toD] at e1⊢
     rw[←e1]
     rfl
    |_=>rw[he] at hne;exact absurd rfl hne
  |_=>rfl
def CS (h:VH)(b:Nat):Option (Nat×Nat):=match aV h b with|some (.moved k i)=>some (k,i)|_=>none
theorem KS (h:VH)(b i o:Nat):fwd (toH h) (.eptr (b,0) i o)=match CS h b with|some p=>.eptr p i o|none=>.eptr (b,0) i o:=by
 simp only[fwd,v7,CS]
 cases hl:aV h b with
 |none=>rfl
 |some x=>
  cases x with
  |fvar T t xs=>cases xs<;>rfl
  |fvari T m t xs=>cases xs<;>rfl
  |frow E t xs=>cases xs<;>rfl
  |frowx E t xs=>cases xs with|nil=>rfl|cons y _=>cases y<;>rfl
  |_=>rfl
theorem KT (h:VH)(b o n:Nat):fwd (toH h) (.vref (b,0) o n)=match CS h b with|some p=>.vref p o n|none=>.vref (b,0) o n:=by
 simp only[fwd,v7,CS]
 cases hl:aV h b with
 |none=>rfl
 |some x=>
  cases x with
  |fvar T t xs=>cases xs<;>rfl
  |fvari T m t xs=>cases xs<;>rfl
  |frow E t xs=>cases xs<;>rfl
  |frowx E t xs=>cases xs with|nil=>rfl|cons y _=>cases y<;>rfl
  |_=>rfl
mutual
def dW (h:VH)(v:V)(K:V→Prop):Prop:=
 match v with
 | .ref b=>(match aV h b with
  |some (.moved k i)=>K (.fref k i)
  |some (.froz t xs)=>K (.lst t xs)
  |_=>K (.ref b))
 | .ptr b o=>(match aV h b with
  |some (.moved k i)=>K (.fptr k i o)
  |some (.fvb t x)=>(match o with|0=>K (.box t x)|o+1=>(match enc t x with| .agg _=>K (.iptr t x (o+1))|_=>False))
  |_=>K (.ptr b o))
 | .eptr b j o=>(match CS h b with|some (k,i)=>K (.feptr k i j o)|none=>K (.eptr b j o))
 | .vref b o n=>(match CS h b with|some _=>False|none=>K (.vref b o n))
 | .aptr b p j=>(match aV h b with
  |some (.moved k i)=>K (.faptr k i p j)
  |some (.fvb _ _)=>False
  |_=>K (.aptr b p j))
 | .fref k i=>Chk (sA h k) (K (.fref k i))
 | .fptr k i o=>Chk (sA h k) (K (.fptr k i o))
 | .feptr k i j o=>Chk (sA h k) (K (.feptr k i j o))
 | .faptr k i p j=>Chk (sA h k) (K (.faptr k i p j))
 | .hro k o=>Chk (sA h k) (K (.hro k o))
 | .hpo k o=>Chk (sA h k) (K (.hpo k o))
 | .agg cs=>nz h cs fun cs=>K (.agg cs)
 | .tup cs=>nz h cs fun cs=>K (.tup cs)
 | .clo f cs=>nz h cs fun cs=>K (.clo f cs)
 | .ifc T v=>dW h v fun v=>K (.ifc T v)
 | .int k n=>K (.int k n)
 | .bool b=>K (.bool b)
 | .tt=>K .tt
 | .ff=>K .ff
 | .str s=>K (.str s)
 | .lst t xs=>K (.lst t xs)
 | .box t x=>K (.box t x)
 | .nilp=>K .nilp
 | .nils=>K .nils
 | .nilf=>K .nilf
 | .nili=>K .nili
 | .gp g=>K (.gp g)
 | .gv g=>K (.gv g)
 | .iptr t x o=>K (.iptr t x o)
 | .obo t o=>K (.obo t o)
 | .undef=>K .undef
 | .junk=>K .junk
def nz (h:VH)(l:List V)(K:List V→Prop):Prop:=
 match l with
 |[]=>K []
 |v::l=>dW h v fun v=>nz h l fun l=>K (v::l)
end
mutual
theorem mX {h:VH}:∀{v:V} {K:V→Prop},dW h v K→∃r,fwd (toH h) v.toD=r.toD∧K r
 | .ref b,K,hk=>by
  simp only[dW] at hk
  refine⟨H1 h b,H2 h b,?_⟩
  unfold H1
  cases hl:aV h b with
  |none=>rw[hl] at hk;exact hk
  |some x=>rw[hl] at hk;cases x<;>exact hk
 | .ptr b o,K,hk=>by
  simp only[dW] at hk
  have key:vG h b o≠ .undef∧K (vG h b o):=by
   unfold vG
   cases hl:aV h b with
   |none=>rw[hl] at hk;exact⟨by simp,hk⟩
   |some x=>
    rw[hl] at hk
    cases x with
    |fvb t x=>
     cases o with
     |zero=>exact⟨by simp,hk⟩
     |succ o=>
      simp only at hk⊢
      cases he:enc t x with
      |agg cs=>rw[he] at hk;exact⟨by simp,hk⟩
      |_=>rw[he] at hk;exact hk.elim
    |_=>exact⟨by simp,hk⟩
  exact⟨_,Bs h b o key.1,key.2⟩
 | .eptr b j o,K,hk=>by
  simp only[dW] at hk
  have:=KS h b j o
  split at hk<;>rename_i e<;>rw[e] at this
  ·exact⟨.feptr _ _ j o,this,hk⟩
  ·exact⟨.eptr b j o,this,hk⟩
 | .vref b o n,K,hk=>by
  simp only[dW] at hk
  have:=KT h b o n
  split at hk<;>rename_i e<;>rw[e] at this
  ·exact hk.elim
  ·exact⟨.vref b o n,this,hk⟩
 | .aptr b p j,K,hk=>by
  simp only[dW] at hk
  have key:vG h b (p+j)≠ .undef∧∃r:V,(vG h b (p+j)).toD=r.toD∧K r:=by
   unfold vG
   cases hl:aV h b with
   |none=>rw[hl] at hk;exact⟨by simp,.aptr b p j,rfl,hk⟩
   |some x=>
    rw[hl] at hk
    cases x with
    |fvb t x=>exact hk.elim
    |moved k i=>exact⟨by simp,.faptr k i p j,rfl,hk⟩
    |_=>exact⟨by simp,.aptr b p j,rfl,hk⟩
  obtain⟨k1,r,k2,k3⟩:=key
  exact⟨r,(Bs h b (p+j) k1).trans k2,k3⟩
 | .fref k i,K,hk=>by simp only[dW] at hk;obtain⟨c,hk⟩:=hk.ok;exact⟨_,by simp only[V.toD];exact Bn c i,hk⟩
 | .fptr k i o,K,hk=>by simp only[dW] at hk;obtain⟨c,hk⟩:=hk.ok;exact⟨_,by simp only[V.toD];exact vw c i o,hk⟩
 | .feptr k i j o,K,hk=>by simp only[dW] at hk;obtain⟨c,hk⟩:=hk.ok;exact⟨_,by simp only[V.toD];exact Ex c i j o,hk⟩
 | .faptr k i p j,K,hk=>by simp only[dW] at hk;obtain⟨c,hk⟩:=hk.ok;exact⟨_,by simp only[V.toD];exact vw c i (p+j),hk⟩
 | .hro k o,K,hk=>by simp only[dW] at hk;obtain⟨c,hk⟩:=hk.ok;exact⟨.hro k o,by cases o with|none=>rfl|some i=>exact Bn c i,hk⟩
 | .hpo k o,K,hk=>by simp only[dW] at hk;obtain⟨c,hk⟩:=hk.ok;exact⟨.hpo k o,by cases o with|none=>rfl|some i=>exact vw c i 0,hk⟩
 | .agg cs,K,hk=>by
  simp only[dW] at hk
  obtain⟨r,h1,h2⟩:=jh hk
  exact⟨_,by simp only[fwd,V.toD,h1],h2⟩
 | .tup cs,K,hk=>by
  simp only[dW] at hk
  obtain⟨r,h1,h2⟩:=jh hk
  exact⟨_,by simp only[fwd,V.toD,h1],h2⟩
 | .clo f cs,K,hk=>by
  simp only[dW] at hk
  obtain⟨r,h1,h2⟩:=jh hk
  exact⟨_,by simp only[fwd,V.toD,h1],h2⟩
 | .ifc T v,K,hk=>by
  simp only[dW] at hk
  obtain⟨r,h1,h2⟩:=mX hk
  exact⟨_,by simp only[fwd,V.toD,h1],h2⟩
 | .int k n,K,hk=>⟨.int k n,by simp only[V.toD,fwd],by simpa only[dW] using hk⟩
 | .bool b,K,hk=>⟨.bool b,by simp only[V.toD,fwd],by simpa only[dW] using hk⟩
 | .tt,K,hk=>⟨.tt,by simp only[V.toD,fwd],by simpa only[dW] using hk⟩
 | .ff,K,hk=>⟨.ff,by simp only[V.toD,fwd],by simpa only[dW] using hk⟩
 | .str s,K,hk=>⟨.str s,by simp only[V.toD,fwd],by simpa only[dW] using hk⟩
 | .lst t xs,K,hk=>⟨.lst t xs,by simp only[V.toD,fwd],by simpa only[dW] using hk⟩
 | .box t x,K,hk=>⟨.box t x,by simp only[V.toD,fwd],by simpa only[dW] using hk⟩
 | .nilp,K,hk=>⟨.nilp,by simp only[V.toD,fwd],by simpa only[dW] using hk⟩
 | .nils,K,hk=>⟨.nils,by simp only[V.toD,fwd],by simpa only[dW] using hk⟩
 | .nilf,K,hk=>⟨.nilf,by simp only[V.toD,fwd],by simpa only[dW] using hk⟩
 | .nili,K,hk=>⟨.nili,by simp only[V.toD,fwd],by simpa only[dW] using hk⟩
 | .gp g,K,hk=>⟨.gp g,by simp only[V.toD,fwd],by simpa only[dW] using hk⟩
 | .gv g,K,hk=>⟨.gv g,by simp only[V.toD,fwd],by simpa only[dW] using hk⟩
 | .iptr t x o,K,hk=>⟨.iptr t x o,by simp only[V.toD,fwd],by simpa only[dW] using hk⟩
 | .obo t o,K,hk=>⟨.obo t o,by cases o<;>simp only[V.toD,ai,fwd],by simpa only[dW] using hk⟩
 | .undef,K,hk=>⟨.undef,by simp only[V.toD,fwd],by simpa only[dW] using hk⟩
 | .junk,K,hk=>⟨.junk,by simp only[V.toD,fwd],by simpa only[dW] using hk⟩
theorem jh {h:VH}:∀{l:List V} {K:List V→Prop},nz h l K→∃r,lh (toH h) (ak l)=ak r∧K r
 |[],K,hk=>⟨[],by simp only[ak,lh],by simpa only[nz] using hk⟩
 |v::l,K,hk=>by
  simp only[nz] at hk
  obtain⟨v',h1,h2⟩:=mX hk
  obtain⟨l',h3,h4⟩:=jh h2
  exact⟨v'::l',by simp only[ak,lh,h1,h3],h4⟩
end
def zy (t:VT)(h:VH)(x:Operand)(K:V→Prop):Prop:=qy t x fun v=>dW h v K
theorem fW {t:VT}{h:VH}{x:Operand}{K:V→Prop}(hk:zy t h x K):∃v,evalF (fP t) (toH h) x=some v.toD∧K v:=by
 obtain⟨v,h1,h2⟩:=cL hk
 obtain⟨r,h3,h4⟩:=mX h2
 exact⟨r,by unfold evalF;rw[h1,aI,h3],h4⟩
def xp (t:VT)(h:VH):List Operand→(List V→Prop)→Prop
 |[],K=>K []
 |x::l,K=>zy t h x fun v=>xp t h l fun vs=>K (v::vs)
theorem lc {t:VT}{h:VH}:∀{l:List Operand} {K:List V→Prop},xp t h l K→∃vs,evalFs (fP t) (toH h) l=some (ak vs)∧K vs
 |[],K,hk=>⟨[],rfl,hk⟩
 |x::l,K,hk=>by
  obtain⟨v,h1,h2⟩:=fW hk
  obtain⟨vs,h3,h4⟩:=lc h2
  refine⟨v::vs,?_,h4⟩
  simp only[evalFs] at h3⊢
  simp[iC,h1,h3,ak]
def Ew (t:VT)(h:VH):List (Nat×Operand)→(List (Nat×V)→Prop)→Prop
 |[],K=>K []
 |(k,x)::l,K=>zy t h x fun v=>Ew t h l fun vs=>K ((k,v)::vs)
theorem xo {t:VT}{h:VH}:∀{l:List (Nat×Operand)} {K:List (Nat×V)→Prop},Ew t h l K→∃vs,evalFPs (fP t) (toH h) l=some (y5 vs)∧K vs
 |[],K,hk=>⟨[],rfl,hk⟩
 |(k,x)::l,K,hk=>by
  obtain⟨v,h1,h2⟩:=fW hk
  obtain⟨vs,h3,h4⟩:=xo h2
  refine⟨(k,v)::vs,?_,h4⟩
  simp only[evalFPs] at h3⊢
  simp[iC,h1,h3,y5]
def iW {α:Type}(o:Option α)(A:Prop)(B:α→Prop):Prop:=(o=none→A)∧∀x,o=some x→B x
def V.whole:V→Bool
 | .tup _| .undef=>false
 |_=>true
def V.one:V→Bool
 | .agg _| .tup _| .undef=>false
 |_=>true
theorem gU (v:V):v.toD.whole=v.whole:=by
 cases v
 case hro k o=>cases o<;>rfl
 case hpo k o=>cases o<;>rfl
 case obo t o=>cases o<;>rfl
 all_goals rfl
theorem oN (v:V):v.toD.one=v.one:=by
 cases v
 case hro k o=>cases o<;>rfl
 case hpo k o=>cases o<;>rfl
 case obo t o=>cases o<;>rfl
 all_goals rfl
theorem nZ (l:List V)(h:l.all V.one=true):(ak l).all D.one=true:=by
 rw[cY,List.all_map]
 rw[aM] at h⊢
 intro x hx
 simp only[Function.comp,oN]
 exact h x hx
theorem cP (t:Ty)(x:t.den):(ai t x).cells=ak (enc t x).cells:=by rw[←lb,bu]
def ES (t:Ty)(xs:List t.den)(j:Nat):Nat→(List V→Prop)→Prop
 |0,K=>ci (j≤xs.length) (K [])
 |n+1,K=>fF xs j fun e=>ES t xs (j+1) n fun l=>K (enc t e::l)
theorem xF {t:Ty}{xs:List t.den}:∀{n j:Nat} {K:List V→Prop},ES t xs j n K→∃l,j+n≤xs.length∧((xs.map (ai t)).drop j).take n=ak l∧K l
 |0,j,K,hk=>⟨[],hk.1,by simp[ak],hk.2⟩
 |n+1,j,K,hk=>by
  obtain⟨e,he,hk⟩:=hk
  obtain⟨l,h1,h2,h3⟩:=xF hk
  refine⟨enc t e::l,by omega,?_,h3⟩
  obtain⟨hj,rfl⟩:=aR.1 he
  rw[nF (by rw[aA];exact hj),List.take_succ_cons,h2,List.getElem_map,ak,lb]
def rb (ti:TI)(x:VB)(i o:Nat)(K:V→Prop):Prop:=
 match x with
 | .fvar _ t xs=>fF xs i fun e=>iy ti (enc t e).cells o K
 |_=>False
def ya (ti:TI)(h:VH)(v:V)(K:V→Prop):Prop:=
 match v with
 | .ptr b o=>eP h b fun x=>(match x with
  | .var _ cs=>iy ti cs o K
  | .vari _ pre m _ xs post=>(match Nat.blt o pre.length with
   |true=>iy ti pre o K
   |false=>ci (xs.length=m∧pre.length+m≤o) (iy ti post (o-(pre.length+m)) K))
  | .fvb t e=>iy ti (enc t e).cells o K
  |_=>False)
 | .aptr b p i=>eP h b fun x=>(match x with
  | .vari _ pre _ t xs _=>Chk (Nat.beq p pre.length && !ti.agg && t.sz==1) (fF xs i fun e=>K (enc t e))
  |_=>False)
 | .eptr b i o=>eP h b fun x=>(match x with
  | .row _ t xs=>fF xs i fun e=>iy ti (enc t e).cells o K
  | .lit _ vs=>yg vs i fun e=>iy ti e.cells o K
  |_=>False)
 | .fptr k i o=>eP h k fun x=>rb ti x i o K
 | .hpo k p=>iW p False fun i=>eP h k fun x=>rb ti x i 0 K
 | .faptr k i p j=>eP h k fun x=>(match x with
  | .fvari _ _ t xss=>Chk (Nat.beq p 0 && t.sz==1) (fF xss i fun xs=>(match ti.agg with
   |false=>fF xs j fun e=>K (enc t e)
   |true=>ES t xs j ti.sz fun l=>K (.agg l)))
  |_=>False)
 | .feptr k i j o=>eP h k fun x=>(match x with
  | .frow _ t xss=>fF xss i fun xs=>fF xs j fun e=>iy ti (enc t e).cells o K
  | .frowx _ t xss=>fF xss i fun ox=>iW ox False fun xs=>fF xs j fun e=>iy ti (enc t e).cells o K
  |_=>False)
 | .iptr t e o=>iy ti (enc t e).cells o K
 | .box t e=>iy ti (enc t e).cells 0 K
 | .obo t p=>iW p False fun e=>iy ti (enc t e).cells 0 K
 | .gp g=>iy ti [.gv g] 0 K
 |_=>False
theorem sB {P:Program}{T:TypeId}{ti:TI}(ht:ti.ok P T){h:VH}{k i o:Nat}{x:VB}(hx:look h k=some x){K:V→Prop}(hk:rb ti x i o K):∃r,dz P (toH h) T (.ptr (k,i) o)=some r.toD∧K r:=by
 unfold rb at hk
 split at hk
 ·rename_i T' t xs
  obtain⟨e,h4,h5⟩:=hk
  obtain⟨r,h6,h7⟩:=cW ht h5
  have hl:=av (i:=i) hx (d:=.var T' (ai t e).cells) (by simp only[VB.blks,bf,h4,aI])
  exact⟨r,by simp only[dz,hl,cP,h6],h7⟩
 ·exact hk.elim
theorem sY {P:Program}{T:TypeId}{ti:TI}(ht:ti.ok P T){h:VH}{v:V}{K:V→Prop}(hk:ya ti h v K):∃r,dz P (toH h) T v.toD=some r.toD∧K r:=by
 unfold ya at hk
 split at hk
 ·rename_i b o
  obtain⟨x,h1,h3⟩:=bi hk
  split at h3
  ·rename_i T' cs
   have hl:=av (i:=0) h1 (d:=.var T' (ak cs)) rfl
   obtain⟨r,h4,h5⟩:=cW ht h3
   exact⟨r,by simp only[V.toD,dz,hl,h4],h5⟩
  ·rename_i T' pre m t xs post
   have hl:=av (i:=0) h1 (d:=.var T' (ak pre++xs.map (ai t)++ak post)) rfl
   split at h3
   ·obtain⟨r,h4,h5⟩:=cW ht h3
    exact⟨r,by simp only[V.toD,dz,hl,bH];exact wv h4,h5⟩
   ·obtain⟨⟨c1,c2⟩,h3⟩:=h3
    obtain⟨r,h4,h5⟩:=cW ht h3
    refine⟨r,?_,h5⟩
    simp only[V.toD,dz,hl]
    have h6:=ud (A:=ak pre++xs.map (ai t)) h4
    rw[aP,aA,aL,c1] at h6
    rw[show pre.length+m+(o-(pre.length+m))=o by omega] at h6
    exact h6
  ·rename_i t e
   have hl:=av (i:=0) h1 (d:=.fvar (ai t e).cells) rfl
   obtain⟨r,h4,h5⟩:=cW ht h3
   exact⟨r,by simp only[V.toD,dz,hl,cP,h4],h5⟩
  ·exact h3.elim
 ·rename_i b p i
  obtain⟨x,h1,h3⟩:=bi hk
  split at h3
  ·rename_i T' pre m t xs post
   have hl:=av (i:=0) h1 (d:=.var T' (ak pre++xs.map (ai t)++ak post)) rfl
   obtain⟨c,h3⟩:=h3.ok
   simp only[az,fO,beq_iff_eq] at c
   obtain⟨⟨c1,c2⟩,c3⟩:=c
   obtain⟨e,h4,h5⟩:=h3
   have hp:p=pre.length:=cq c1
   refine⟨enc t e,?_,h5⟩
   simp only[V.toD,dz,hl,lb]
   have hlt:=(aR.1 h4).1
   have ha:=ht.agg
   rw[c2] at ha
   refine GW ha ?_
   rw[bH,eW (by rw[aL];omega),aL,hp,Nat.add_sub_cancel_left,cX (by simpa using hlt),bf,h4]
   rfl
  ·exact h3.elim
 ·rename_i b i o
  obtain⟨x,h1,h3⟩:=bi hk
  split at h3
  ·rename_i E t xs
   have hl:=av (i:=0) h1 (d:=.row E (xs.map (ai t))) rfl
   obtain⟨e,h4,h5⟩:=h3
   obtain⟨r,h6,h7⟩:=cW ht h5
   exact⟨r,by simp only[V.toD,dz,hl,bf,h4,aI,cP,h6],h7⟩
  ·rename_i E vs
   have hl:=av (i:=0) h1 (d:=.row E (ak vs)) rfl
   obtain⟨e,h4,h5⟩:=lk h3
   obtain⟨r,h6,h7⟩:=cW ht h5
   refine⟨r,?_,h7⟩
   simp only[V.toD,dz,hl,cY,bf,h4,aI,bu]
   rw[←cY];exact h6
  ·exact h3.elim
 ·obtain⟨x,h1,h3⟩:=bi hk
  obtain⟨r,h4,h5⟩:=sB ht h1 h3
  exact⟨r,h4,h5⟩
 ·rename_i k p
  cases p with
  |none=>exact(hk.1 rfl).elim
  |some i=>
   obtain⟨x,h1,h3⟩:=bi (hk.2 i rfl)
   obtain⟨r,h4,h5⟩:=sB ht h1 h3
   exact⟨r,h4,h5⟩
 ·rename_i k i p j
  obtain⟨x,h1,h3⟩:=bi hk
  split at h3
  ·rename_i T' m t xss
   obtain⟨c,xs,h4,h8⟩:=h3.ok
   clear h3
   simp only[az,beq_iff_eq] at c
   obtain⟨c1,c3⟩:=c
   have hl:=av (i:=i) h1 (d:=.var T' (xs.map (ai t))) (by simp only[VB.blks,bf,h4,aI])
   have hp:p=0:=cq c1
   subst hp
   have ha:=ht.agg
   split at h8
   ·rename_i c2
    rw[c2] at ha
    obtain⟨e,h5,h6⟩:=h8
    refine⟨enc t e,?_,h6⟩
    simp only[V.toD,dz,hl,lb]
    exact GW ha (by rw[e8,bf,h5];rfl)
   ·rename_i c2
    rw[c2] at ha
    obtain⟨l,h5,h6,h7⟩:=xF h8
    refine⟨.agg l,?_,h7⟩
    simp only[V.toD,dz,hl]
    exact Kj ha ht.size (by rw[e8,aA];exact h5) (by rw[e8];exact h6)
  ·exact h3.elim
 ·rename_i k i j o
  obtain⟨x,h1,h3⟩:=bi hk
  split at h3
  ·rename_i E t xss
   obtain⟨xs,h4,e,h5,h6⟩:=h3
   have hl:=av (i:=i) h1 (d:=.row E (xs.map (ai t))) (by simp only[VB.blks,bf,h4,aI])
   obtain⟨r,h7,h8⟩:=cW ht h6
   exact⟨r,by simp only[V.toD,dz,hl,bf,h5,aI,cP,h7],h8⟩
  ·rename_i E t xss
   obtain⟨ox,h4,h5⟩:=h3
   cases ox with
   |none=>exact(h5.1 rfl).elim
   |some xs=>
    obtain⟨e,h5,h6⟩:=h5.2 xs rfl
    have hl:=av (i:=i) h1 (d:=.row E (xs.map (ai t))) (by simp only[VB.blks,bf,h4,aI,rowX])
    obtain⟨r,h7,h8⟩:=cW ht h6
    exact⟨r,by simp only[V.toD,dz,hl,bf,h5,aI,cP,h7],h8⟩
  ·exact h3.elim
 ·obtain⟨r,h4,h5⟩:=cW ht hk
  exact⟨r,by simp only[V.toD,dz,cP,h4],h5⟩
 ·obtain⟨r,h4,h5⟩:=cW ht hk
  exact⟨r,by simp only[V.toD,dz,cP,h4],h5⟩
 ·rename_i t p
  cases p with
  |none=>exact(hk.1 rfl).elim
  |some e=>
   obtain⟨r,h4,h5⟩:=cW ht (hk.2 e rfl)
   exact⟨r,by simp only[V.toD,ai,dz,cP,h4],h5⟩
 ·obtain⟨r,h4,h5⟩:=cW ht hk
  exact⟨r,by simp only[V.toD,dz];exact h4,h5⟩
 ·exact hk.elim
variable {P:Program} {N:Nat}
def fG (P:Program)(N:Nat)(h:VH)(u:HL)(vu:VH)(f:List Nat):Prop:=
 cS h u vu∧∀o t d u1,OpS P N o t (puts u (toH h)) d u1 f→OpS P N o t (toH h) d (u++u1) f
theorem gh {h:VH}{f:List Nat}:fG P N h [] [] f:=⟨a8,fun o t d u1 hd=>hd⟩
theorem lq {h:VH}{u1 u2:HL}{v1 v2:VH}{f:List Nat}(h1:fG P N h u1 v1 f)(h2:fG P N (puts v1 h) u2 v2 f):fG P N h (u1++u2) (v1++v2) f:=by
 refine⟨rS h1.1 h2.1,fun o t d u hd=>?_⟩
 rw[bH]
 refine h1.2 o t d _ (pW (fun b=>(h1.1.1 b).symm) (h2.2 o t d u (pW (fun b=>?_) hd)))
 rw[bE]
 exact bT (h1.1.1 b)
theorem kH {t:Ty}(ht:t.pure=true)(x:t.den):∀c∈(ai t x).cells,leaf c=some c:=by
 intro c hc
 have hp:=(kl ht x).2
 rw[aM] at hp
 have hne:c≠ .nils:=by
  rintro rfl
  cases t<;>simp[Ty.pure] at ht
  case ob t=>cases x<;>simp[ai,D.cells] at hc
  all_goals simp[ai,D.cells,iO,Dh,ga] at hc
 unfold leaf
 rw[if_pos (hp c hc)]
 congr 1
 cases c<;>first|rfl|exact absurd rfl hne
theorem m5 {f:D→Option D}:∀{l:List D},(∀c∈l,f c=some c)→l.mapM f=some l
 |[],_=>rfl
 |c::l,hl=>by simp[iC,hl c (bm ..),m5 fun d hd=>hl d (bB _ hd)]
theorem uJ {t:Ty}(ht:t.pure=true)(x:t.den):purE leaf (ai t x)=some (ai t x):=by
 by_cases hag:∃cs,ai t x= .agg cs
 ·obtain⟨cs,he⟩:=hag
  have:=kH ht x
  rw[he] at this⊢
  simp only[purE,D.cells] at this⊢
  rw[m5 this]
  rfl
 ·have hc:(ai t x).cells=[ai t x]:=dh fun cs hcs=>hag ⟨cs,hcs⟩
  have h1:=kH ht x (ai t x) (by rw[hc];exact aZ.2 rfl)
  have h2:purE leaf (ai t x)=leaf (ai t x):=by
   generalize ai t x=d at *
   cases d<;>first|rfl|exact absurd ⟨_,rfl⟩ hag
  rw[h2,h1]
theorem row_pure {t:Ty}(ht:t.pure=true)(xs:List t.den):(xs.map (ai t)).mapM (purE leaf)=some (xs.map (ai t)):=
 m5 fun c hc=>by obtain⟨x,_,rfl⟩:=aB.1 hc;exact uJ ht x
theorem EH {h:VH}{b:Nat}{E:TypeId}{t:Ty}{xs:List t.den}(hb:look h b=some (.row E t xs))(ht:t.pure=true):frz (toH h) [(b,0)]=[((b,0),.froz (xs.map (ai t)))]:=by
 have hl:=av (i:=0) hb (d:=.row E (xs.map (ai t))) rfl
 simp[frz,frzB,hl,row_pure ht]
theorem I0 {h:VH}{b:Nat}{E:TypeId}{t:Ty}{xs:List t.den}{f:List Nat}(hb:look h b=some (.row E t xs))(ht:t.pure=true)(hf:b∈f):fG P N h (frz (toH h) [(b,0)]) [(b,.froz t xs)] f:=by
 refine⟨by rw[EH hb ht];exact ic hb rfl rfl,fun o t d u1 hd=>BY (fun k hk=>?_) hd⟩
 simp only[mY,bI,ec,aZ] at hk
 rw[hk];exact hf
theorem yo {h:VH}{b:Nat}{x y:VB}{d:Blk}{f:List Nat}(hb:look h b=some x)(hx:x.blks=[d])(hy:y.blks=[dG (toH h) d])(hf:b∈f∧∀c∈zf d,c.1∈f):fG P N h [((b,0),dG (toH h) d)] [(b,y)] f:=by
 have hl:=av (i:=0) hb (d:=d) (by rw[hx];rfl)
 refine⟨pd (fun i hi=>?_) hy,fun o t d' u1 hd=>FX hl hf hd⟩
 rw[ap,hb]
 simp only[bc,hx]
 cases i with
 |zero=>exact absurd rfl hi
 |succ i=>rfl
theorem IZ {h:VH}{b:Nat}{T:TypeId}{t:Ty}{x:t.den}{cs:List V}{f:List Nat}(hb:look h b=some (.var T cs))(hc:ak cs=(ai t x).cells)(ht:t.pure=true)(hf:b∈f):fG P N h (frz (toH h) [(b,0)]) [(b,.fvb t x)] f:=by
 have hl:=av (i:=0) hb (d:=.var T (ak cs)) rfl
 have hne:¬(ai t x).cells=[]:=by
  intro e
  have h1:=(fV t x).1
  have h2:=t.sz_pos
  rw[e] at h1
  simp at h1
  omega
 have e:frz (toH h) [(b,0)]=[((b,0),.fvar (ai t x).cells)]:=by simp[frz,frzB,hl,hc,m5 (kH ht x),hne]
 refine⟨by rw[e];exact ic hb rfl rfl,fun o t d u1 hd=>BY (fun k hk=>?_) hd⟩
 simp only[mY,bI,ec,aZ] at hk
 rw[hk];exact hf
theorem oR {h:VH}{b k:Nat}{x y z:VB}{d:Blk}{f:List Nat}(hb:look h b=some x)(hx:x.blks=[d])(hl:d.live=true)(hk:look h k=some y)(hz:z.blks=y.blks++[d])(hbk:b≠k)(hf:b∈f∧k∈f):
  fG P N h [((b,0),.moved (k,y.blks.length)),((k,y.blks.length),d)] [(b,.moved k y.blks.length),(k,z)] f:=by
 have hlb:=av (i:=0) hb (d:=d) (by rw[hx];rfl)
 have hln:look (toH h) (k,y.blks.length)=none:=by rw[ap,hk];simp
 have hm:jp (toH h) [((b,0),(k,y.blks.length))]=some [((b,0),.moved (k,y.blks.length)),((k,y.blks.length),d)]:=by
  simp only[jp,hlb]
  rw[if_pos ⟨hl,hln⟩]
  rfl
 refine⟨?_,fun o t d' u1 hd=>Dc hm (fun g hg=>?_) hd⟩
 ·have h1:cS h [((b,0),.moved (k,y.blks.length))] [(b,.moved k y.blks.length)]:=pd (fun i hi=>by
   rw[ap,hb]
   simp only[bc,hx]
   cases i with
   |zero=>exact absurd rfl hi
   |succ i=>rfl) rfl
  have hk':look (puts [(b,VB.moved k y.blks.length)] h) k=some y:=by
   show look (put b _ h) k=_
   rw[af,if_neg (cm hbk)];exact hk
  have h2:=G0 (y:=z) hk' hz
  exact rS h1 h2
 ·simp only[gw,List.flatMap_nil,gy,mY,bI,ec,aK,gx,or_false] at hg
  rcases hg with rfl|rfl
  ·exact hf.1
  ·exact hf.2
inductive Sh where
 |any|frz|mr (k:Nat)|mp (k:Nat)|bx (t:Ty)
def Ty.shs:Ty→List Sh
 | .lst _=>[.frz]
 | .led=>[.frz,.any]
 | .vtx=>[.any,.any,.frz,.any]
 | .ppl=>[.any,.any,.frz,.any,.frz]
 | .wrl=>[.frz,.frz,.any,.frz,.frz]
 | .evt=>[.any,.any,.any,.any,.any,.frz,.any]
 | .odd=>[.any,.any,.frz,.any,.any]
 | .ob t=>[.bx t]
 | .hr k=>[.mr k]
 | .hp k=>[.mp k]
 | .vtxo k=>[.any,.any,.mr k,.any]
 | .pplm k=>[.any,.any,.frz,.any,.mr k]
 | .pplo k k'=>[.any,.any,.mr k,.any,.mr k']
 | .evto k=>[.any,.any,.any,.any,.any,.mr k,.any]
 | .nod k=>[.any,.any,.frz,.any,.any,.mr k]
 |_=>[]
def Dj {α:Type}(x:Nat)(a:α):List (Nat×α)→(List (Nat×α)→Prop)→Prop
 |[],K=>K [(x,a)]
 |(k,b)::l,K=>bif Nat.beq x k then K ((k,a)::l) else Dj x a l fun l'=>K ((k,b)::l')
theorem rH {α:Type}{x:Nat}{a:α}:∀{l:List (Nat×α)} {K:List (Nat×α)→Prop},Dj x a l K→K (put x a l)
 |[],K,h=>h
 |(k,b)::l,K,h=>by
  simp only[Dj] at h
  simp only[put]
  by_cases e:x=k
  ·subst e
   simp only[Nat.beq_refl,cond_true] at h
   simpa using h
  ·have:Nat.beq x k=false:=by
    cases hb:Nat.beq x k with
    |false=>rfl
    |true=>exact absurd (cq hb) e
   rw[this] at h
   rw[if_neg e]
   exact rH h
def oU {α:Type}:List (Nat×α)→List (Nat×α)→(List (Nat×α)→Prop)→Prop
 |[],l,K=>K l
 |(x,a)::u,l,K=>Dj x a l fun l'=>oU u l' K
theorem jq {α:Type}:∀{u l:List (Nat×α)} {K:List (Nat×α)→Prop},oU u l K→K (puts u l)
 |[],l,K,h=>h
 |(x,a)::u,l,K,h=>jq (u:=u) (rH (K:=fun l'=>oU u l' K) h)
def EX:V→List Nat
 | .ref b| .ptr b _| .eptr b _ _| .vref b _ _| .aptr b _ _=>[b]
 | .fref k _| .fptr k _ _| .feptr k _ _ _| .faptr k _ _ _| .hro k _| .hpo k _=>[k]
 |_=>[]
mutual
def gt:V→List Nat
 | .agg cs=>fY cs
 | .tup cs=>fY cs
 | .clo _ cs=>fY cs
 | .ifc _ v=>gt v
 |v=>EX v
def fY:List V→List Nat
 |[]=>[]
 |v::l=>gt v++fY l
end
mutual
theorem kv:∀(v:V),∀b∈al v.toD,b.1∈gt v
 | .agg cs,b,hb=>by simp only[gt];exact ed cs b (by simpa only[V.toD,al] using hb)
 | .tup cs,b,hb=>by simp only[gt];exact ed cs b (by simpa only[V.toD,al] using hb)
 | .clo f cs,b,hb=>by simp only[gt];exact ed cs b (by simpa only[V.toD,al] using hb)
 | .ifc T v,b,hb=>by simp only[gt];exact kv v b (by simpa only[V.toD,al] using hb)
 | .ref c,b,hb| .ptr c _,b,hb| .eptr c _ _,b,hb| .vref c _ _,b,hb| .aptr c _ _,b,hb| .fref c _,b,hb| .fptr c _ _,b,hb| .feptr c _ _ _,b,hb| .faptr c _ _ _,b,hb=>by
  simp only[V.toD,al,aZ] at hb;subst hb;simp[gt,EX]
 | .hro k o,b,hb=>by
  cases o with
  |none=>cases hb
  |some i=>simp only[V.toD,mZ,al,aZ] at hb;subst hb;simp[gt,EX]
 | .hpo k o,b,hb=>by
  cases o with
  |none=>cases hb
  |some i=>simp only[V.toD,qC,al,aZ] at hb;subst hb;simp[gt,EX]
 | .obo t o,b,hb=>by cases o<;>cases hb
 | .int ..,b,hb| .bool _,b,hb| .tt,b,hb| .ff,b,hb| .str _,b,hb| .lst ..,b,hb| .box ..,b,hb| .nilp,b,hb| .nils,b,hb| .nilf,b,hb| .nili,b,hb| .gp _,b,hb| .gv _,b,hb| .iptr ..,b,hb| .undef,b,hb| .junk,b,hb=>by cases hb
theorem ed:∀(l:List V),∀b∈bC (ak l),b.1∈fY l
 |[],b,hb=>by cases hb
 |v::l,b,hb=>by
  simp only[ak,bC,bh] at hb
  simp only[fY,bh]
  rcases hb with hb|hb
  ·exact .inl (kv v b hb)
  ·exact .inr (ed l b hb)
end
def M3:V→V
 | .nils=>.lst (.int .i64) []
 |v=>v
theorem FP (v:V):(M3 v).toD=nz0 v.toD:=by
 cases v
 case hro k o=>cases o<;>rfl
 case hpo k o=>cases o<;>rfl
 case obo t o=>cases o<;>rfl
 all_goals rfl
def j9:List V→List V
 |[]=>[]
 |v::l=>M3 v::j9 l
theorem oM:∀l:List V,ak (j9 l)=(ak l).map nz0
 |[]=>rfl
 |v::l=>by simp only[j9,ak,bI,FP,oM l]
def OR (t:Ty)(cs:List V):V:=bif t.sz==1 then cs.headD .undef else .agg cs
def HY (h:VH)(sh:Sh)(v:V)(K:VH→List Nat→Prop):Prop:=
 match sh,v with
 | .frz,.ref b=>(match aV h b with
  |some (.row _ t xs)=>Chk t.pure (K [(b,.froz t xs)] [b])
  |_=>K [] [])
 | .mr k,.ref b=>(match aV h b,aV h k with
  |some (.row E t xs),some (.frow E' t' xss)=>Chk (Nat.beq E E' && !Nat.beq b k) (match ny t' t xs with
   |some xs'=>K [(b,.moved k xss.length),(k,.frow E' t' (xss++[xs']))] [b,k]
   |none=>False)
  |some (.row E t xs),some (.frowx E' t' xss)=>Chk (Nat.beq E E' && !Nat.beq b k) (match ny t' t xs with
   |some xs'=>K [(b,.moved k xss.length),(k,.frowx E' t' (xss++[some xs']))] [b,k]
   |none=>False)
  |_,_=>K [] [])
 |_,_=>K [] []
theorem Br {h:VH}{sh:Sh}{v:V}{K:VH→List Nat→Prop}(hk:HY h sh v K):∃u vu g,(∀f:List Nat,(∀k∈g,k∈f)→fG P N h u vu f)∧K vu g:=by
 unfold HY at hk
 split at hk
 ·rename_i b
  split at hk
  ·rename_i E t xs hb
   obtain⟨c,hk⟩:=hk.ok
   rw[aS] at hb
   exact⟨_,_,_,fun f hf=>I0 hb c (hf b (by simp)),hk⟩
  ·exact⟨[],[],[],fun f _=>gh,hk⟩
 ·rename_i k b
  split at hk
  ·rename_i E t xs E' t' xss hb hk'
   obtain⟨c,hk⟩:=hk.ok
   simp only[az,fO] at c
   obtain⟨c1,c2⟩:=c
   obtain rfl:=cq c1
   have hbk:b≠k:=by rintro rfl;simp at c2
   rw[aS] at hb hk'
   split at hk
   ·rename_i xs' hx
    have hce:=im hx
    have hpre:∀f:List Nat,(∀g∈[b,k],g∈f)→fG P N h [((b,0),.moved (k,(VB.frow E t' xss).blks.length)),((k,(VB.frow E t' xss).blks.length),.row E (xs.map (ai t)))] [(b,.moved k (VB.frow E t' xss).blks.length),(k,.frow E t' (xss++[xs']))] f:=fun f hf=>
     oR hb rfl rfl hk' (by simp only[VB.blks,cf,bI,ec,hce]) hbk ⟨hf b (by simp),hf k (by simp)⟩
    have e:(VB.frow E t' xss).blks.length=xss.length:=by simp[VB.blks]
    rw[e] at hpre
    exact⟨_,_,_,hpre,hk⟩
   ·exact hk.elim
  ·rename_i E t xs E' t' xss hb hk'
   obtain⟨c,hk⟩:=hk.ok
   simp only[az,fO] at c
   obtain⟨c1,c2⟩:=c
   obtain rfl:=cq c1
   have hbk:b≠k:=by rintro rfl;simp at c2
   rw[aS] at hb hk'
   split at hk
   ·rename_i xs' hx
    have hce:=im hx
    have hpre:∀f:List Nat,(∀g∈[b,k],g∈f)→fG P N h [((b,0),.moved (k,(VB.frowx E t' xss).blks.length)),((k,(VB.frowx E t' xss).blks.length),.row E (xs.map (ai t)))] [(b,.moved k (VB.frowx E t' xss).blks.length),(k,.frowx E t' (xss++[some xs']))] f:=fun f hf=>
     oR hb rfl rfl hk' (by simp only[VB.blks,cf,bI,ec,rowX,hce]) hbk ⟨hf b (by simp),hf k (by simp)⟩
    have e:(VB.frowx E t' xss).blks.length=xss.length:=by simp[VB.blks]
    rw[e] at hpre
    exact⟨_,_,_,hpre,hk⟩
   ·exact hk.elim
  ·exact⟨[],[],[],fun f _=>gh,hk⟩
 ·exact⟨[],[],[],fun f _=>gh,hk⟩
def EC (h:VH):List Sh→List V→(VH→VH→List Nat→Prop)→Prop
 |sh::shs,v::vs,K=>HY h sh v fun vu g=>oU vu h fun h1=>EC h1 shs vs fun h2 vu2 g2=>K h2 (vu++vu2) (g++g2)
 |_,_,K=>K h [] []
theorem xB:∀{shs:List Sh} {vs:List V} {h:VH} {K:VH→VH→List Nat→Prop},EC h shs vs K→∃u vu g,(∀f:List Nat,(∀k∈g,k∈f)→fG P N h u vu f)∧K (puts vu h) vu g
 |[],vs,h,K,hk=>⟨[],[],[],fun f _=>gh,by cases vs<;>exact hk⟩
 |sh::shs,[],h,K,hk=>⟨[],[],[],fun f _=>gh,hk⟩
 |sh::shs,v::vs,h,K,hk=>by
  obtain⟨u1,v1,g1,p1,hk⟩:=Br (P:=P) (N:=N) hk
  have hk:=jq hk
  obtain⟨u2,v2,g2,p2,hk⟩:=xB hk
  refine⟨u1++u2,v1++v2,g1++g2,fun f hf=>lq (p1 f fun k hk=>hf k (eq _ hk)) (p2 f fun k hk=>hf k (eL _ hk)),?_⟩
  rw[bE]
  exact hk
def yM (h:VH)(b:Nat)(T:TypeId)(cs:List V)(t:Ty)(K:VH→VH→List Nat→t.den→List V→Prop):Prop:=
 EC h t.shs cs fun h1 vu1 g1=>(match aV h1 b with
  |some (.var T' cs')=>Chk (Nat.beq T T') (nz h1 cs' fun cs2=>(match MZ t (OR t (j9 cs2)) with
   |some x=>Chk (lenB (j9 cs2) t.sz) (oU [(b,.var T (j9 cs2))] h1 fun h2=>K h2 (vu1++[(b,.var T (j9 cs2))]) (g1++b::fY cs') x (j9 cs2))
   |none=>False))
  |_=>False)
where
 lenB:List V→Nat→Bool
 |[],0=>true
 |_::l,n+1=>lenB l n
 |_,_=>false
theorem BL:∀{l:List V} {n:Nat},yM.lenB l n=true→l.length=n
 |[],0,_=>rfl
 |_::l,n+1,h=>by simp[BL (l:=l) (n:=n) h]
 |[],_+1,h=>by cases h
 |_::_,0,h=>by cases h
theorem C9 {t:Ty}{cs:List V}{x:t.den}(hl:cs.length=t.sz)(hd:(OR t cs).toD=ai t x):ak cs=(ai t x).cells:=by
 unfold OR at hd
 by_cases hs:t.sz=1
 ·have e:(t.sz==1)=true:=by simp[hs]
  rw[e,cond_true] at hd
  rw[hs] at hl
  match cs,hl with
  |[c],_=>
   simp only[List.headD_cons] at hd
   have h1:=(fV t x).2
   have hone:(ai t x).one=true:=by
    cases hq:ai t x with
    |agg ds=>
     have hlen:=(fV t x).1
     rw[hq,hs] at hlen
     cases t<;>simp[Ty.sz] at hs<;>first|(cases hq;done)|(simp[ai] at hq;done)|(cases x<;>simp[ai,mZ,qC] at hq;done)
    |tup ds=>cases t<;>first|(simp[ai] at hq;done)|(cases x<;>simp[ai,mZ,qC] at hq;done)
    |undef=>cases t<;>first|(simp[ai] at hq;done)|(cases x<;>simp[ai,mZ,qC] at hq;done)
    |_=>rfl
   rw[cQ hone,←hd]
   rfl
 ·have e:(t.sz==1)=false:=by simp[hs]
  rw[e,cond_false] at hd
  rw[←hd]
  rfl
theorem zH {h:VH}{T:TypeId}{cs cs2:List V}(hf:lh (toH h) (ak cs)=ak cs2):dG (toH h) (.var T (ak cs))= .var T (ak (j9 cs2)):=by
 simp only[dG]
 rw[oM,←hf,fm,eu]
 rfl
theorem yN {h:VH}{b:Nat}{T:TypeId}{cs:List V}{t:Ty}{K:VH→VH→List Nat→t.den→List V→Prop}(hk:yM h b T cs t K):∃u vu g x cs2,(∀f:List Nat,(∀k∈g,k∈f)→fG P N h u vu f)∧look (puts vu h) b=some (.var T cs2)∧ak cs2=(ai t x).cells∧b∈g∧K (puts vu h) vu g x cs2:=by
 unfold yM at hk
 obtain⟨u1,v1,g1,p1,hk⟩:=xB (P:=P) (N:=N) hk
 split at hk
 ·rename_i T' cs' hb
  obtain⟨c,hk1⟩:=hk.ok
  obtain rfl:=cq c
  rw[aS] at hb
  obtain⟨cs2,f1,hk⟩:=jh hk1
  split at hk
  ·rename_i x hx
   obtain⟨c2,hk⟩:=hk.ok
   have hk:=jq hk
   have hlast:=zH (T:=T) f1
   refine⟨u1++[((b,0),dG (toH (puts v1 h)) (.var T (ak cs')))],v1++[(b,.var T (j9 cs2))],g1++b::fY cs',x,j9 cs2,fun f hf=>lq (p1 f fun k hk=>hf k (eq _ hk)) (yo (y:=.var T (j9 cs2)) hb rfl (by rw[hlast];rfl) ⟨hf b (by simp),fun c hc=>hf c.1 ?_⟩),?_,C9 (BL c2) (vj hx),by simp,?_⟩
   ·refine eL _ (bB _ (ed cs' c ?_))
    rw[gD]
    exact hc
   ·rw[bE]
    show look (put b _ _) b=_
    rw[af];simp
   ·rw[bE];exact hk
  ·exact hk.elim
 ·exact hk.elim
def KP (h:VH)(sh:Sh)(v:V)(K:VH→List Nat→Prop):Prop:=
 match sh,v with
 | .bx t,.ptr b 0=>(match aV h b with
  |some (.var T cs)=>Chk t.pure (yM h b T cs t fun _ vu g x _=>K (vu++[(b,.fvb t x)]) g)
  |_=>K [] [])
 | .mp k,.ptr b 0=>(match aV h b,aV h k with
  |some (.var T cs),some (.fvar _ t _)=>Chk (!Nat.beq b k) (yM h b T cs t fun h2 vu g x _=>(match aV h2 k with
   |some (.fvar T' t' xs)=>Chk (Nat.beq T T') (match w8 t' t x with
    |some x'=>K (vu++[(b,.moved k xs.length),(k,.fvar T' t' (xs++[x']))]) (k::g)
    |none=>False)
   |_=>False))
  |some (.vari T [] _ t xs []),some (.fvari T' m t' xss)=>Chk (!Nat.beq b k && Nat.beq T T') (match ny t' t xs with
   |some xs'=>K [(b,.moved k xss.length),(k,.fvari T' m t' (xss++[xs']))] [b,k]
   |none=>False)
  |_,_=>K [] [])
 |sh,v=>HY h sh v K
theorem HX {h:VH}{sh:Sh}{v:V}{K:VH→List Nat→Prop}(hk:KP h sh v K):∃u vu g,(∀f:List Nat,(∀k∈g,k∈f)→fG P N h u vu f)∧K vu g:=by
 unfold KP at hk
 split at hk
 ·rename_i t b
  split at hk
  ·rename_i T cs hb
   obtain⟨c,hk⟩:=hk.ok
   obtain⟨u,vu,g,x,cs2,p1,p2,p3,p4,hk⟩:=yN (P:=P) (N:=N) hk
   exact⟨_,_,_,fun f hf=>lq (p1 f hf) (IZ p2 p3 c (hf b p4)),hk⟩
  ·exact⟨[],[],[],fun f _=>gh,hk⟩
 ·rename_i k b
  split at hk
  ·rename_i T cs T0 t xs0 hb hk0
   obtain⟨c,hk⟩:=hk.ok
   have hbk:b≠k:=by rintro rfl;simp at c
   obtain⟨u,vu,g,x,cs2,p1,p2,p3,p4,hk⟩:=yN (P:=P) (N:=N) hk
   split at hk
   ·rename_i T' t' xs hk'
    obtain⟨c1,hk⟩:=hk.ok
    obtain rfl:=cq c1
    rw[aS] at hk'
    split at hk
    ·rename_i x' hx
     have hpre:∀f:List Nat,(∀g'∈k::g,g'∈f)→fG P N (puts vu h) [((b,0),.moved (k,(VB.fvar T t' xs).blks.length)),((k,(VB.fvar T t' xs).blks.length),.var T (ak cs2))] [(b,.moved k (VB.fvar T t' xs).blks.length),(k,.fvar T t' (xs++[x']))] f:=fun f hf=>
      oR p2 rfl rfl hk' (by simp only[VB.blks,cf,bI,ec,p3,sg hx]) hbk ⟨hf b (bB _ p4),hf k (by simp)⟩
     have e:(VB.fvar T t' xs).blks.length=xs.length:=by simp[VB.blks]
     rw[e] at hpre
     exact⟨_,_,_,fun f hf=>lq (p1 f fun k hk=>hf k (bB _ hk)) (hpre f hf),hk⟩
    ·exact hk.elim
   ·exact hk.elim
  ·rename_i T m0 t xs T' m t' xss hb hk0
   obtain⟨c,hk⟩:=hk.ok
   simp only[az] at c
   have hbk:b≠k:=by rintro rfl;simp at c
   obtain rfl:=cq c.2
   rw[aS] at hb hk0
   split at hk
   ·rename_i xs' hx
    have e:(VB.fvari T m t' xss).blks.length=xss.length:=by simp[VB.blks]
    have hpre:∀f:List Nat,(∀g'∈[b,k],g'∈f)→fG P N h [((b,0),.moved (k,(VB.fvari T m t' xss).blks.length)),((k,(VB.fvari T m t' xss).blks.length),.var T (xs'.map (ai t')))] [(b,.moved k (VB.fvari T m t' xss).blks.length),(k,.fvari T m t' (xss++[xs']))] f:=fun f hf=>
     oR hb (by simp only[VB.blks,ak,dS,gy,im hx]) rfl hk0 (by simp only[VB.blks,cf,bI,ec]) hbk ⟨hf b (by simp),hf k (by simp)⟩
    rw[e] at hpre
    exact⟨_,_,_,hpre,hk⟩
   ·exact hk.elim
  ·exact⟨[],[],[],fun f _=>gh,hk⟩
 ·exact Br hk
def Bq (h:VH):List Sh→List V→(VH→VH→List Nat→Prop)→Prop
 |sh::shs,v::vs,K=>KP h sh v fun vu g=>oU vu h fun h1=>Bq h1 shs vs fun h2 vu2 g2=>K h2 (vu++vu2) (g++g2)
 |_,_,K=>K h [] []
theorem sE:∀{shs:List Sh} {vs:List V} {h:VH} {K:VH→VH→List Nat→Prop},Bq h shs vs K→∃u vu g,(∀f:List Nat,(∀k∈g,k∈f)→fG P N h u vu f)∧K (puts vu h) vu g
 |[],vs,h,K,hk=>⟨[],[],[],fun f _=>gh,by cases vs<;>exact hk⟩
 |sh::shs,[],h,K,hk=>⟨[],[],[],fun f _=>gh,hk⟩
 |sh::shs,v::vs,h,K,hk=>by
  obtain⟨u1,v1,g1,p1,hk⟩:=HX (P:=P) (N:=N) hk
  have hk:=jq hk
  obtain⟨u2,v2,g2,p2,hk⟩:=sE hk
  refine⟨u1++u2,v1++v2,g1++g2,fun f hf=>lq (p1 f fun k hk=>hf k (eq _ hk)) (p2 f fun k hk=>hf k (eL _ hk)),?_⟩
  rw[bE]
  exact hk
end Go.Proofs.YtpefhoohfkeflabGreatDoor.Am
namespace Go.Proofs.YtpefhoohfkeflabGreatDoor.Am
open Go Go.RowKit
def px (op:BinOp)(tk:TK)(d e:V)(K:V→Prop):Prop:=
 match d,e with
 | .int k x,.int k' y=>(match decEq k k' with
  |isTrue _=>(match op with
   | .add=>Ari k (x+y) fun z=>K (.int k z)
   | .sub=>Ari k (x-y) fun z=>K (.int k z)
   | .mul=>Ari k (x*y) fun z=>K (.int k z)
   | .quo=>ci (y≠0) (Ari k (x.tdiv y) fun z=>K (.int k z))
   | .rem=>ci (y≠0) (K (.int k (x.tmod y)))
   | .and=>K (.int k (k.wrap (BitVec.ofInt k.bits x &&& BitVec.ofInt k.bits y).toNat))
   | .or=>K (.int k (k.wrap (BitVec.ofInt k.bits x|||BitVec.ofInt k.bits y).toNat))
   | .xor=>K (.int k (k.wrap (BitVec.ofInt k.bits x^^^BitVec.ofInt k.bits y).toNat))
   | .eql=>K (.bool (x==y))
   | .neq=>K (.bool (x !=y))
   | .lss=>K (.bool (decide (x<y)))
   | .leq=>K (.bool (decide (x≤y)))
   | .gtr=>K (.bool (decide (y<x)))
   | .geq=>K (.bool (decide (y≤x)))
   |_=>False)
  |isFalse _=>False)
 | .str x,.str y=>(match op with
  | .add=>ci (x.size+y.size≤9223372036854775807) (K (.str (x++y)))
  | .eql=>K (.bool (x.toList==y.toList))
  | .neq=>K (.bool !(x.toList==y.toList))
  |_=>False)
 | .bool x,.bool y=>(match tk,op with
  | .bool,.eql=>K (.bool (x==y))
  | .bool,.neq=>K (.bool !(x==y))
  |_,_=>False)
 | .bool x,.tt=>(match tk,op with
  | .bool,.eql=>K (.bool x)
  | .bool,.neq=>K (.bool !x)
  |_,_=>False)
 | .bool x,.ff=>(match tk,op with
  | .bool,.eql=>K (.bool !x)
  | .bool,.neq=>K (.bool x)
  |_,_=>False)
 |d,.nils=>slN d fun r=>(match tk,op with
  | .slice _,.eql=>K (.bool r)
  | .slice _,.neq=>K (.bool !r)
  |_,_=>False)
 |d,e=>nilK d e fun r=>(match tk,op with
  | .ptr _,.eql=>K (.bool r)
  | .ptr _,.neq=>K (.bool !r)
  |_,_=>False)
where
 slN (v:V) (K:Bool→Prop):Prop:=match v with
  | .nils=>K true
  | .lst _ (_::_)=>K false
  | .ref _| .vref .. | .fref ..=>K false
  | .hro _ (some _)=>K false
  |_=>False
 isN (v:V) (K:Bool→Prop):Prop:=match v with
  | .nilp=>K true
  | .ptr .. | .eptr .. | .aptr .. | .iptr .. | .box .. | .fptr .. | .feptr .. | .faptr ..=>K false
  | .hpo _ o=>K o.isNone
  | .obo _ o=>K o.isNone
  |_=>False
 nilK (d e:V) (K:Bool→Prop):Prop:=match d,e with
  | .nilp,e=>isN e K
  |d,.nilp=>isN d K
  |_,_=>False
def dy (P:Program)(op:BinOp)(T:TypeId)(d e:D):Option D:=
 match fw op d e with
 |some r=>some r
 |none=>(match da P op T d e with
  |some r=>some r
  |none=>cw op T P d e)
theorem vR {v:V}{K:Bool→Prop}(hk:px.isN v K):∃r,((r=true∧v.toD= .nilp)∨(r=false∧eU v.toD=true∧v.toD≠ .nilp))∧K r:=by
 unfold px.isN at hk
 split at hk
 ·exact⟨true,.inl ⟨rfl,rfl⟩,hk⟩
 all_goals first|exact hk.elim|exact⟨false,.inr ⟨rfl,rfl,by simp[V.toD]⟩,hk⟩|skip
 ·rename_i k o
  cases o with
  |none=>exact⟨true,.inl ⟨rfl,rfl⟩,hk⟩
  |some i=>exact⟨false,.inr ⟨rfl,rfl,by simp[V.toD,qC]⟩,hk⟩
 ·rename_i t o
  cases o with
  |none=>exact⟨true,.inl ⟨rfl,rfl⟩,hk⟩
  |some i=>exact⟨false,.inr ⟨rfl,rfl,by simp[V.toD,ai]⟩,hk⟩
theorem My {v:V}{K:Bool→Prop}(hk:px.slN v K):∃r,xN v.toD=some r∧(∀op,fw op v.toD .nils=none)∧K r:=by
 unfold px.slN at hk
 split at hk
 ·exact⟨true,rfl,fun _=>rfl,hk⟩
 ·exact⟨false,rfl,fun _=>rfl,hk⟩
 ·exact⟨false,rfl,fun _=>rfl,hk⟩
 ·exact⟨false,rfl,fun _=>rfl,hk⟩
 ·exact⟨false,rfl,fun _=>rfl,hk⟩
 ·exact⟨false,rfl,fun _=>rfl,hk⟩
 ·exact hk.elim
theorem FJ {d e:V}{K:Bool→Prop}(hk:px.nilK d e K):∃r,K r:=by
 unfold px.nilK at hk
 split at hk
 ·obtain⟨r,_,h2⟩:=vR hk;exact⟨r,h2⟩
 ·obtain⟨r,_,h2⟩:=vR hk;exact⟨r,h2⟩
 ·exact hk.elim
theorem BS {P:Program}{op:BinOp}{T E:TypeId}(hu:P.underlying T=some (.pointer E)){d e:V}{K:Bool→Prop}(hk:px.nilK d e K):
  ∃r,dy P .eql T d.toD e.toD=some (.bool r)∧dy P .neq T d.toD e.toD=some (.bool !r)∧K r:=by
 unfold px.nilK at hk
 have key:∀x:D,eU x=true→x≠ .nilp→(∀op,fw op .nilp x=none∧fw op x .nilp=none):=by
  intro x hx hn op
  cases x<;>simp[eU] at hx<;>exact⟨rfl,rfl⟩
 split at hk
 ·obtain⟨r,h1,h2⟩:=vR hk
  refine⟨r,?_,?_,h2⟩<;>rcases h1 with⟨rfl,h1⟩|⟨rfl,h1,h3⟩
  ·simp[dy,V.toD,h1,fw,da,hu]
  ·simp only[dy,V.toD,(key _ h1 h3 _).1,da,hu]
   generalize e.toD=x at *
   cases x<;>simp[eU] at h1<;>simp[eU]
  ·simp[dy,V.toD,h1,fw,da,hu]
  ·simp only[dy,V.toD,(key _ h1 h3 _).1,da,hu]
   generalize e.toD=x at *
   cases x<;>simp[eU] at h1<;>simp[eU]
 ·obtain⟨r,h1,h2⟩:=vR hk
  refine⟨r,?_,?_,h2⟩<;>rcases h1 with⟨rfl,h1⟩|⟨rfl,h1,h3⟩
  ·simp[dy,V.toD,h1,fw,da,hu]
  ·simp only[dy,V.toD,(key _ h1 h3 _).2,da,hu]
   generalize d.toD=x at *
   cases x<;>simp[eU] at h1<;>simp[eU]
  ·simp[dy,V.toD,h1,fw,da,hu]
  ·simp only[dy,V.toD,(key _ h1 h3 _).2,da,hu]
   generalize d.toD=x at *
   cases x<;>simp[eU] at h1<;>simp[eU]
 ·exact hk.elim
theorem Hu {P:Program}{op:BinOp}{T:TypeId}{tk:TK}(ht:tk.ok P T){d e:V}{K:V→Prop}(hk:px op tk d e K):∃r,dy P op T d.toD e.toD=some r.toD∧K r:=by
 unfold px at hk
 split at hk
 ·rename_i k x k' y
  split at hk
  ·rename_i e' _
   subst e'
   split at hk
   ·exact⟨_,by simp only[dy,V.toD,fw,if_true],hk.ok⟩
   ·exact⟨_,by simp only[dy,V.toD,fw,if_true],hk.ok⟩
   ·exact⟨_,by simp only[dy,V.toD,fw,if_true],hk.ok⟩
   ·exact⟨_,by simp only[dy,V.toD,fw,if_true,if_neg hk.1],hk.2.ok⟩
   ·exact⟨_,by simp only[dy,V.toD,fw,if_true,if_neg hk.1],hk.2⟩
   all_goals first|exact hk.elim|exact⟨_,by simp only[dy,V.toD,fw,if_true],hk⟩
  ·exact hk.elim
 ·split at hk
  ·exact⟨_,by simp only[dy,V.toD,fw,if_pos hk.1],hk.2⟩
  all_goals first|exact hk.elim|exact⟨_,by simp only[dy,V.toD,fw],hk⟩
 ·split at hk
  ·have hu:P.underlying T=some .bool:=ht
   exact⟨_,by simp[dy,V.toD,fw,da,cw,hu],hk⟩
  ·have hu:P.underlying T=some .bool:=ht
   exact⟨_,by simp[dy,V.toD,fw,da,cw,hu],hk⟩
  ·exact hk.elim
 ·rename_i x
  split at hk
  ·have hu:P.underlying T=some .bool:=ht
   exact⟨.bool x,by cases x<;>simp[dy,V.toD,fw,da,cw,hu],hk⟩
  ·have hu:P.underlying T=some .bool:=ht
   exact⟨.bool !x,by cases x<;>simp[dy,V.toD,fw,da,cw,hu],hk⟩
  ·exact hk.elim
 ·rename_i x
  split at hk
  ·have hu:P.underlying T=some .bool:=ht
   exact⟨.bool !x,by cases x<;>simp[dy,V.toD,fw,da,cw,hu],hk⟩
  ·have hu:P.underlying T=some .bool:=ht
   exact⟨.bool x,by cases x<;>simp[dy,V.toD,fw,da,cw,hu],hk⟩
  ·exact hk.elim
 ·obtain⟨r,h1,h2,h3⟩:=My hk
  clear hk
  split at h3
  ·rename_i E
   have hu:P.underlying T=some (.slice E):=ht
   exact⟨.bool r,by simp only[dy,show V.nils.toD=D.nils from rfl,h2,da,hu,h1,aI,V.toD],h3⟩
  ·rename_i E
   have hu:P.underlying T=some (.slice E):=ht
   exact⟨.bool !r,by simp only[dy,show V.nils.toD=D.nils from rfl,h2,da,hu,h1,aI,V.toD],h3⟩
  ·exact h3.elim
 ·split at hk
  ·rename_i E
   obtain⟨r,h1,h2,h3⟩:=BS (op:=.eql) (show P.underlying T=some (.pointer E) from ht) hk
   exact⟨.bool r,h1,h3⟩
  ·rename_i E
   obtain⟨r,h1,h2,h3⟩:=BS (op:=.eql) (show P.underlying T=some (.pointer E) from ht) hk
   exact⟨.bool !r,h2,h3⟩
  ·exact(FJ hk).elim fun _ h=>h.elim
def Fe (op:BinOp)(cn:Bool)(d e:V)(K:V→Prop):Prop:=
 match d,e with
 | .nili,.nili=>(match cn with|true=>eqn true|false=>False)
 | .nili,.gv _=>eqn false
 | .nili,.ifc ..=>eqn false
 | .gv _,.nili=>eqn false
 | .ifc ..,.nili=>eqn false
 |_,_=>False
where
 eqn (b:Bool):Prop:=match op with
  | .eql=>K (.bool b)
  | .neq=>K (.bool !b)
  |_=>False
theorem Im {P:Program}{op:BinOp}{T:TypeId}{cn:Bool}(ht:xM P T=true){d e:V}{K:V→Prop}(hk:Fe op cn d e K):
  ∃r,fw op d.toD e.toD=none∧da P op T d.toD e.toD=none∧cw op T P d.toD e.toD=none∧gA P op T cn d.toD e.toD=some r.toD∧K r:=by
 obtain⟨ms,hu⟩:∃ms,P.underlying T=some (.interface ms):=by
  unfold xM at ht
  split at ht
  ·exact⟨_,by assumption⟩
  ·cases ht
 have key:∀(x y:D) (b:Bool),fw op x y=none→(lH x=some true∧lH y=some true∧b=true∧cn=true∨lH x=some true∧lH y=some false∧b=false∨lH x=some false∧lH y=some true∧b=false)→Fe.eqn op K b→
   ∃r:V,fw op x y=none∧da P op T x y=none∧cw op T P x y=none∧gA P op T cn x y=some r.toD∧K r:=by
  intro x y b h0 h hq
  have h1:da P op T x y=none:=by simp[da,hu]
  have h2:cw op T P x y=none:=by simp[cw,hu]
  unfold Fe.eqn at hq
  split at hq
  ·refine⟨.bool b,h0,h1,h2,?_,hq⟩
   rcases h with⟨a1,a2,rfl,a4⟩|⟨a1,a2,rfl⟩|⟨a1,a2,rfl⟩<;>cases x<;>simp only[lH,aw,reduceCtorEq] at a1<;>cases y<;>simp only[lH,aw,reduceCtorEq] at a2<;>first|(simp[gA,hu,lH,V.toD, *];done)|(cases a1;done)|(cases a2;done)
  ·refine⟨.bool !b,h0,h1,h2,?_,hq⟩
   rcases h with⟨a1,a2,rfl,a4⟩|⟨a1,a2,rfl⟩|⟨a1,a2,rfl⟩<;>cases x<;>simp only[lH,aw,reduceCtorEq] at a1<;>cases y<;>simp only[lH,aw,reduceCtorEq] at a2<;>first|(simp[gA,hu,lH,V.toD, *];done)|(cases a1;done)|(cases a2;done)
  ·exact hq.elim
 unfold Fe at hk
 split at hk
 ·split at hk
  ·exact key _ _ true rfl (.inl ⟨rfl,rfl,rfl,rfl⟩) hk
  ·exact hk.elim
 ·exact key _ _ false rfl (.inr (.inl ⟨rfl,rfl,rfl⟩)) hk
 ·exact key _ _ false rfl (.inr (.inl ⟨rfl,rfl,rfl⟩)) hk
 ·exact key _ _ false rfl (.inr (.inr ⟨rfl,rfl,rfl⟩)) hk
 ·exact key _ _ false rfl (.inr (.inr ⟨rfl,rfl,rfl⟩)) hk
 ·exact hk.elim
def MH (op:BinOp)(d e:V)(K:V→Prop):Prop:=
 match d,e with
 | .agg [.int k x,.int k2 x2],.agg [.int k' y,.int k2' y2]=>ci (k=k'∧k2=k2') (match op with
  | .eql=>K (.bool (x==y && x2==y2))
  | .neq=>K (.bool !(x==y && x2==y2))
  |_=>False)
 |_,_=>False
theorem Jt {P:Program}{op:BinOp}{T:TypeId}(ht:GZ P T=true){d e:V}{K:V→Prop}(hk:MH op d e K):
  ∃r:V,fw op d.toD e.toD=none∧da P op T d.toD e.toD=none∧cw op T P d.toD e.toD=none∧(∀cn,gA P op T cn d.toD e.toD=none)∧nH P op T d.toD e.toD=some r.toD∧K r:=by
 obtain⟨fs,hu⟩:∃fs,P.underlying T=some (.struct fs):=by
  unfold GZ at ht
  split at ht
  ·exact⟨_,by assumption⟩
  ·cases ht
 unfold MH at hk
 split at hk
 ·rename_i k x k2 x2 k' y k2' y2
  obtain⟨⟨rfl,rfl⟩,hk⟩:=hk
  have h0:∀(p q:List D),fw op (.agg p) (.agg q)=none:=fun p q=>by cases op<;>rfl
  have h1:∀(p q:D),da P op T p q=none:=fun p q=>by simp[da,hu]
  have h2:∀(p q:D),cw op T P p q=none:=fun p q=>by simp[cw,hu]
  have h3:∀cn (p q:D),gA P op T cn p q=none:=fun cn p q=>by simp[gA,hu]
  split at hk
  ·exact⟨_,h0 _ _,h1 _ _,h2 _ _,fun cn=>h3 cn _ _,by simp only[V.toD,ak,nH,ht,and_self,if_true],hk⟩
  ·exact⟨_,h0 _ _,h1 _ _,h2 _ _,fun cn=>h3 cn _ _,by simp only[V.toD,ak,nH,ht,and_self,if_true],hk⟩
  ·exact hk.elim
 ·exact hk.elim
def Ke (P:Program)(T:TypeId):Bool:=match P.underlying T with|some (.pointer E)=>(match sizeT P E with|some n=>n !=0|none=>false)|_=>false
def L4 (P:Program)(T:TypeId)(op:BinOp)(h:VH)(k k':Nat)(o o':Option Nat)(K:V→Prop):Prop:=
 iW o False fun i=>iW o' False fun j=>Chk (Nat.beq k k') (eP h k fun x=>(match x with
  | .fvar _ _ xs=>fF xs i fun _=>fF xs j fun _=>Mk (Ke P T) (match op with
   | .eql=>K (.bool (decide (i=j)))
   | .neq=>K (.bool !(decide (i=j)))
   |_=>False)
  |_=>False))
theorem IU {P:Program}{T:TypeId}{op:BinOp}{h:VH}{k k':Nat}{o o':Option Nat}{K:V→Prop}(hk:L4 P T op h k k' o o' K):
  ∃r:V,fw op (V.hpo k o).toD (V.hpo k' o').toD=none∧da P op T (V.hpo k o).toD (V.hpo k' o').toD=none∧cw op T P (V.hpo k o).toD (V.hpo k' o').toD=none∧(∀cn,gA P op T cn (V.hpo k o).toD (V.hpo k' o').toD=none)∧nH P op T (V.hpo k o).toD (V.hpo k' o').toD=none∧kW P op T (toH h) (V.hpo k o).toD (V.hpo k' o').toD=some r.toD∧K r:=by
 unfold L4 at hk
 cases o with
 |none=>exact(hk.1 rfl).elim
 |some i=>
  have hk:=hk.2 i rfl
  cases o' with
  |none=>exact(hk.1 rfl).elim
  |some j=>
   have hk:=hk.2 j rfl
   obtain⟨c,hq⟩:=hk.ok
   obtain rfl:=cq c
   obtain⟨x,x1,hk⟩:=bi hq
   split at hk
   ·rename_i T' t' xs
    obtain⟨x,g1,y,g2,hm,hk⟩:=hk
    have l1:look (toH h) (k,i)=some (.var T' (ai t' x).cells):=av x1 (by simp[VB.blks,g1])
    have l2:look (toH h) (k,j)=some (.var T' (ai t' y).cells):=av x1 (by simp[VB.blks,g2])
    unfold Ke at hm
    split at hm
    ·rename_i E hu
     split at hm
     ·rename_i n hn
      have hn0:n≠0:=by simpa using hm
      have e:decide ((k,i)=(k,j)∧True)=decide (i=j):=by simp
      split at hk
      ·exact⟨.bool (decide (i=j)),rfl,by simp[da,hu,V.toD,qC],by simp[cw,hu],fun cn=>by simp[gA,hu],rfl,by simp only[V.toD,qC,kW,hu,hn,l1,l2];rw[if_pos hn0,e],hk⟩
      ·exact⟨.bool !(decide (i=j)),rfl,by simp[da,hu,V.toD,qC],by simp[cw,hu],fun cn=>by simp[gA,hu],rfl,by simp only[V.toD,qC,kW,hu,hn,l1,l2];rw[if_pos hn0,e],hk⟩
      ·exact hk.elim
     ·cases hm
    ·cases hm
   ·exact hk.elim
def OZ (op:UnOp)(d:V)(K:V→Prop):Prop:=
 match d,op with
 | .int k n,.neg=>Ari k (0-n) fun z=>K (.int k z)
 | .bool b,.not=>K (.bool !b)
 | .tt,.not=>K .ff
 | .ff,.not=>K .tt
 |_,_=>False
theorem MM {op:UnOp}{d:V}{K:V→Prop}(hk:OZ op d K):∃r,MX op d.toD=some r.toD∧K r:=by
 unfold OZ at hk
 split at hk
 ·exact⟨_,by simp only[V.toD,MX],hk.ok⟩
 ·exact⟨_,by simp only[V.toD,MX],hk⟩
 ·exact⟨.ff,rfl,hk⟩
 ·exact⟨.tt,rfl,hk⟩
 ·exact hk.elim
def uS (v:V)(cs:List V):V:=match v with| .agg _=>.agg cs|_=>cs.headD .undef
theorem DB {v:V}{cs:List V}:(uS v cs).toD=cC v.toD (ak cs):=by
 unfold uS cC
 cases v
 case hro k o=>cases o<;>cases cs<;>rfl
 case hpo k o=>cases o<;>cases cs<;>rfl
 case obo t o=>cases o<;>cases cs<;>rfl
 all_goals first|rfl|(cases cs<;>rfl)
def xh (t:Ty)(v:V)(K:t.den→Prop):Prop:=match MZ t v with|some x=>K x|none=>False
theorem mS {t:Ty}{v:V}{K:t.den→Prop}(h:xh t v K):∃x,v.toD=ai t x∧K x:=by
 unfold xh at h
 split at h
 ·rename_i x hx
  exact⟨x,vj hx,h⟩
 ·exact h.elim
def sT:List V→Nat→Bool
 |[],0=>true
 |_::l,n+1=>sT l n
 |_,_=>false
theorem jj:∀{l:List V} {n:Nat},sT l n=true→l.length=n
 |[],0,_=>rfl
 |_::l,n+1,h=>by simp[jj (l:=l) (n:=n) h]
 |[],_+1,h=>by cases h
 |_::_,0,h=>by cases h
theorem qK {A B m:List D}{o:Nat}(h:o+m.length≤A.length):ba (A++B) o m=ba A o m++B:=by
 unfold ba
 rw[List.take_append_of_le_length (by omega),List.drop_append_of_le_length (by omega)]
 simp[bH]
theorem o5 {A B m:List D}{o:Nat}:ba (A++B) (A.length+o) m=A++ba B o m:=by
 unfold ba
 rw[List.take_append,List.drop_append]
 have e1:A.length+o-A.length=o:=by omega
 have e2:A.length+o+m.length-A.length=o+m.length:=by omega
 rw[e1,e2,bp (by omega),List.drop_of_length_le (by omega)]
 simp[bH]
theorem tA {l:List D}{i:Nat}{d:D}(h:i<l.length):ba l i [d]=l.set i d:=by
 unfold ba
 rw[List.set_eq_take_append_cons_drop,if_pos h]
 simp
def wm (ti:TI)(h:VH)(d v:V)(K:V→VH→Prop):Prop:=
 match d with
 | .ptr b o=>eP h b fun x=>(match x with
  | .var T' cs=>Chk (v.whole && sT v.cells ti.sz && v.cells.all V.one) (uc cs o v.cells fun cs'=>K .undef [(b,.var T' cs')])
  | .vari T' pre m t xs post=>Chk (v.whole && sT v.cells ti.sz && v.cells.all V.one) (match Nat.blt o pre.length with
   |true=>uc pre o v.cells fun pre'=>K .undef [(b,.vari T' pre' m t xs post)]
   |false=>ci (xs.length=m∧pre.length+m≤o) (uc post (o-(pre.length+m)) v.cells fun post'=>K .undef [(b,.vari T' pre m t xs post')]))
  |_=>False)
 |_=>False
theorem mK {P:Program}{h:HL}{T T':TypeId}{b:Id}{o:Nat}{cs:List D}{e:D}(hb:look h b=some (.var T' cs))(hw:e.whole=true)(hs:sizeT P T=some e.cells.length)(hl:o+e.cells.length≤cs.length)(h1:e.cells.all D.one=true):
  gB P h T (.ptr b o) e=some [(b,.var T' (ba cs o e.cells))]:=by
 simp only[gB,hb]
 rw[if_pos ⟨hw,hs,hl,h1⟩]
theorem AR {P:Program}{h:HL}{T E:TypeId}{b:Id}{i o:Nat}{l:List D}{x e:D}(hb:look h b=some (.row E l))(hx:l[i]?=some x)(hw:e.whole=true)(hs:sizeT P T=some e.cells.length)(hl:o+e.cells.length≤x.cells.length)(h1:e.cells.all D.one=true):
  gB P h T (.eptr b i o) e=some [(b,.row E (l.set i (cC x (ba x.cells o e.cells))))]:=by
 simp only[gB,hb,hx]
 rw[if_pos ⟨hw,hs,hl,h1⟩]
theorem AB {P:Program}{T:TypeId}{ti:TI}(ht:ti.ok P T){h:VH}{d v:V}{K:V→VH→Prop}(hk:wm ti h d v K):∃u vu,gB P (toH h) T d.toD v.toD=some u∧cS h u vu∧K .undef vu:=by
 unfold wm at hk
 split at hk
 ·rename_i b o
  obtain⟨z,h1,h3⟩:=bi hk
  split at h3
  ·rename_i T' cs
   obtain⟨hc,h4⟩:=h3.ok
   simp only[az] at hc
   obtain⟨⟨c1,c2⟩,c3⟩:=hc
   obtain⟨h5,h6⟩:=jT h4
   have hl:=av (i:=0) h1 (d:=.var T' (ak cs)) rfl
   refine⟨_,_,mK (o:=o) (e:=v.toD) hl (by rw[gU];exact c1) (by rw[ht.size,bu,aL,jj c2]) (by rw[bu,aL,aL];exact h5) (by rw[bu];exact nZ _ c3),?_,h6⟩
   exact ic h1 rfl (by simp only[VB.blks,bu,mo])
  ·rename_i T' pre m t xs post
   obtain⟨hc,h4⟩:=h3.ok
   simp only[az] at hc
   obtain⟨⟨c1,c2⟩,c3⟩:=hc
   have hl:=av (i:=0) h1 (d:=.var T' (ak pre++xs.map (ai t)++ak post)) rfl
   split at h4
   ·obtain⟨h5,h6⟩:=jT h4
    refine⟨_,_,mK (o:=o) (e:=v.toD) hl (by rw[gU];exact c1) (by rw[ht.size,bu,aL,jj c2]) (by rw[bu,aL,aP,aP,aL];omega) (by rw[bu];exact nZ _ c3),?_,h6⟩
    refine ic h1 rfl ?_
    simp only[VB.blks]
    have es:ba (ak pre++xs.map (ai t)++ak post) o v.toD.cells=ak (pre.take o++v.cells++pre.drop (o+v.cells.length))++xs.map (ai t)++ak post:=by
     rw[bu,bH (ak pre),qK (by rw[aL,aL];exact h5),mo];simp only[bH]
    rw[es]
   ·obtain⟨⟨n1,n2⟩,h4⟩:=h4
    obtain⟨h5,h6⟩:=jT h4
    refine⟨_,_,mK (o:=o) (e:=v.toD) hl (by rw[gU];exact c1) (by rw[ht.size,bu,aL,jj c2]) (by rw[bu,aL,aP,aP,aL,aL,aA];omega) (by rw[bu];exact nZ _ c3),?_,h6⟩
    refine ic h1 rfl ?_
    simp only[VB.blks]
    have e:o=(ak pre++xs.map (ai t)).length+(o-(pre.length+m)):=by rw[aP,aL,aA];omega
    rw[e,bu,o5,mo]
    have e2:(ak pre++xs.map (ai t)).length+(o-(pre.length+m))-(pre.length+m)=o-(pre.length+m):=by omega
    rw[e2]
  ·exact h3.elim
 ·exact hk.elim
def MK (h:VH)(d:V)(K:Option (Ty×Nat)→Prop):Prop:=
 match d with
 | .aptr b _ _=>(match aV h b with|some (.vari _ _ _ t _ _)=>K (some (t,0))|_=>K none)
 | .eptr b _ o=>(match aV h b with|some (.row _ t _)=>K (some (t,o))|_=>K none)
 | .fptr k _ o=>(match aV h k with|some (.fvar _ t _)=>K (some (t,o))|_=>K none)
 | .faptr k _ _ _=>(match aV h k with|some (.fvari _ _ t _)=>K (some (t,0))|_=>K none)
 | .feptr k _ _ o=>(match aV h k with|some (.frow _ t _)=>K (some (t,o))|_=>K none)
 |_=>K none
theorem Jz {h:VH}{d:V}{K:Option (Ty×Nat)→Prop}(hk:MK h d K):∃r,K r:=by
 unfold MK at hk
 split at hk<;>first|exact⟨_,hk⟩|(split at hk<;>exact⟨_,hk⟩)
def Cn (ti:TI)(h:VH)(d v:V)(K:V→VH→Prop):Prop:=
 Chk (v.whole && sT v.cells ti.sz && v.cells.all V.one) (match d with
 | .aptr b p i=>eP h b fun x=>(match x with
  | .vari T' pre m t xs post=>Chk (Nat.beq p pre.length && ti.sz==1 && t.sz==1 && v.one) (xh t (M3 v) fun e=>ci (i<xs.length) (K .undef [(b,.vari T' pre m t (xs.set i e) post)]))
  |_=>False)
 | .eptr b i o=>eP h b fun x=>(match x with
  | .row E t xs=>fF xs i fun e=>uc (enc t e).cells o (j9 v.cells) fun cs'=>xh t (uS (enc t e) cs') fun e'=>K .undef [(b,.row E t (xs.set i e'))]
  |_=>False)
 | .fptr k i o=>eP h k fun x=>(match x with
  | .fvar T' t xs=>fF xs i fun e=>uc (enc t e).cells o (j9 v.cells) fun cs'=>xh t (uS (enc t e) cs') fun e'=>K .undef [(k,.fvar T' t (xs.set i e'))]
  |_=>False)
 | .faptr k i p j=>eP h k fun x=>(match x with
  | .fvari T' m t xss=>Chk (Nat.beq p 0 && ti.sz==1 && t.sz==1 && v.one) (xh t (M3 v) fun e=>fF xss i fun xs=>ci (j<xs.length) (K .undef [(k,.fvari T' m t (xss.set i (xs.set j e)))]))
  |_=>False)
 | .feptr k i j o=>eP h k fun x=>(match x with
  | .frow E t xss=>fF xss i fun xs=>fF xs j fun e=>uc (enc t e).cells o (j9 v.cells) fun cs'=>xh t (uS (enc t e) cs') fun e'=>K .undef [(k,.frow E t (xss.set i (xs.set j e')))]
  |_=>False)
 |_=>False)
theorem qH (v:V):(nzE v.toD).cells=ak (j9 v.cells):=by rw[gL,bu,oM]
theorem uD (d:D):(nzE d).whole=d.whole:=by cases d<;>rfl
theorem yi (l:List V):(j9 l).length=l.length:=by
 have:=congrArg List.length (oM l)
 rwa [aL,aA,aL] at this
theorem FQ {v:V}(h:v.cells.all V.one=true):(nzE v.toD).cells.all D.one=true:=by
 rw[gL,bu]
 have:=nZ _ h
 rw[aM] at this⊢
 intro x hx
 obtain⟨y,hy,rfl⟩:=aB.1 hx
 rw[BV]
 exact this y hy
theorem jm {α β:Type}(f:α→β)(l:List α)(i:Nat)(x:α):(l.set i x).map f=(l.map f).set i (f x):=by simp[List.map_set]
theorem vo {t:Ty}{e e':t.den}{o:Nat}{v:V}(h1:o+(j9 v.cells).length≤(enc t e).cells.length)(h2:(uS (enc t e) ((enc t e).cells.take o++j9 v.cells++(enc t e).cells.drop (o+(j9 v.cells).length))).toD=ai t e'):
  cC (ai t e) (ba (ai t e).cells o (nzE v.toD).cells)=ai t e':=by
 rw[←h2,DB,lb,cP,qH,mo]
theorem AC {P:Program}{T:TypeId}{ti:TI}(ht:ti.ok P T){h:VH}{d v:V}{K:V→VH→Prop}(hk:Cn ti h d v K):∃u vu,gB P (toH h) T d.toD (nzE v.toD)=some u∧cS h u vu∧K .undef vu:=by
 obtain⟨c0,hk⟩:=Chk.ok hk
 simp only[az] at c0
 obtain⟨⟨c1,c2⟩,c3⟩:=c0
 have hw:(nzE v.toD).whole=true:=by rw[uD,gU];exact c1
 have hlen:(nzE v.toD).cells.length=ti.sz:=by rw[qH,aL,yi,jj c2]
 have hs:sizeT P T=some (nzE v.toD).cells.length:=by rw[ht.size,hlen]
 have h1:=FQ c3
 have one:v.one=true→(nzE v.toD).cells=[(M3 v).toD]:=by
  intro ho
  have:v.cells=[v]:=by cases v<;>first|rfl|cases ho
  rw[qH,this]
  rfl
 split at hk
 ·rename_i b p i _
  obtain⟨x,hb,hk⟩:=bi hk
  split at hk
  ·rename_i T' pre m t xs post
   obtain⟨c,hk⟩:=hk.ok
   simp only[az,beq_iff_eq] at c
   obtain⟨⟨⟨d1,d2⟩,d3⟩,d4⟩:=c
   have hp:p=pre.length:=cq d1
   obtain⟨e,he,hi,hk⟩:=mS hk
   have hl:=av (i:=0) hb (d:=.var T' (ak pre++xs.map (ai t)++ak post)) rfl
   refine⟨_,_,mK (o:=p+i) (e:=nzE v.toD) hl hw hs (by rw[hlen,d2,aP,aP,aL,aA];omega) h1,?_,hk⟩
   refine ic hb rfl ?_
   simp only[VB.blks]
   have es:ba (ak pre++xs.map (ai t)++ak post) (p+i) (nzE v.toD).cells=ak pre++(xs.set i e).map (ai t)++ak post:=by
    rw[one d4,he,hp,bH (ak pre),show pre.length+i=(ak pre).length+i by rw[aL],o5,qK (by simp;omega),tA (by simpa using hi),jm]
    simp only[bH]
   rw[es]
  ·exact hk.elim
 ·rename_i b i o _
  obtain⟨x,hb,hk⟩:=bi hk
  split at hk
  ·rename_i E t xs
   obtain⟨e,he,hk⟩:=hk
   obtain⟨h5,hk⟩:=jT hk
   obtain⟨e',he',hk⟩:=mS hk
   have hl:=av (i:=0) hb (d:=.row E (xs.map (ai t))) rfl
   refine⟨_,_,AR (x:=ai t e) (e:=nzE v.toD) hl (by rw[bf,he];rfl) hw hs (by rw[qH,aL,cP,aL];exact h5) h1,?_,hk⟩
   refine ic hb rfl ?_
   simp only[VB.blks]
   rw[vo h5 he',jm]
  ·exact hk.elim
 ·rename_i k i o _
  obtain⟨x,hb,hk⟩:=bi hk
  split at hk
  ·rename_i T' t xs
   obtain⟨e,he,hk⟩:=hk
   obtain⟨h5,hk⟩:=jT hk
   obtain⟨e',he',hk⟩:=mS hk
   have hl:=av (i:=i) hb (d:=.var T' (ai t e).cells) (by simp only[VB.blks,bf,he,aI])
   refine⟨_,_,mK (e:=nzE v.toD) hl hw hs (by rw[qH,aL,cP,aL];exact h5) h1,?_,hk⟩
   have hi:=(aR.1 he).1
   refine wy hb ?_ (by simpa[VB.blks] using hi)
   simp only[VB.blks]
   rw[jm]
   have hc:=lx (e:=ai t e) (m:=(nzE v.toD).cells) (o:=o) (by rw[qH,aL,cP,aL];exact h5) (fun y hy=>cQ (by rw[aM] at h1;exact h1 y hy))
   rw[vo h5 he'] at hc
   rw[hc]
  ·exact hk.elim
 ·rename_i k i p j _
  obtain⟨x,hb,hk⟩:=bi hk
  split at hk
  ·rename_i T' m t xss
   obtain⟨c,hk1⟩:=hk.ok
   simp only[az,beq_iff_eq] at c
   obtain⟨⟨⟨d1,d2⟩,d3⟩,d4⟩:=c
   have hp:p=0:=cq d1
   subst hp
   obtain⟨e,he,xs,hx,hj,hk⟩:=mS hk1
   have hl:=av (i:=i) hb (d:=.var T' (xs.map (ai t))) (by simp only[VB.blks,bf,hx,aI])
   refine⟨_,_,mK (o:=0+j) (e:=nzE v.toD) hl hw hs (by rw[hlen,d2,aA];omega) h1,?_,hk⟩
   have hi:=(aR.1 hx).1
   refine wy hb ?_ (by simpa[VB.blks] using hi)
   simp only[VB.blks]
   rw[jm,one d4,he,e8,tA (by simpa using hj),jm]
  ·exact hk.elim
 ·rename_i k i j o _
  obtain⟨x,hb,hk⟩:=bi hk
  split at hk
  ·rename_i E t xss
   obtain⟨xs,hx,e,he,hk⟩:=hk
   obtain⟨h5,hk⟩:=jT hk
   obtain⟨e',he',hk⟩:=mS hk
   have hl:=av (i:=i) hb (d:=.row E (xs.map (ai t))) (by simp only[VB.blks,bf,hx,aI])
   refine⟨_,_,AR (x:=ai t e) (e:=nzE v.toD) hl (by rw[bf,he];rfl) hw hs (by rw[qH,aL,cP,aL];exact h5) h1,?_,hk⟩
   have hi:=(aR.1 hx).1
   refine wy hb ?_ (by simpa[VB.blks] using hi)
   simp only[VB.blks]
   rw[jm,vo h5 he',jm]
  ·exact hk.elim
 ·exact hk.elim

end Go.Proofs.YtpefhoohfkeflabGreatDoor.Am
