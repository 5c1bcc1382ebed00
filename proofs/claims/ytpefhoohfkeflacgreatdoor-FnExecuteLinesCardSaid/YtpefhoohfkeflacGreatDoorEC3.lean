/- The plain machine: a region, in whatever order its operations are carried out. The plain machine: what a code does to a state; regions, control. The plain machine: what is no more wanted is forgotten; a function's contract from its code. The plain machine: operands, literals, parts. The plain machine with types: kinds of data, values, blocks. The plain machine with types: what is known of the program's types; the parts of a step. The plain machine with types: what a step does to the blocks; loads. The plain machine with types: what is done ahead of an operation: rows are frozen, blocks are mov -/
import Derived.Test.YtpefhoohfkeflacGreatDoorEC2
set_option linter.unusedSimpArgs false
set_option linter.unusedVariables false
set_option maxHeartbeats 1000000
namespace Go.Proofs.YtpefhoohfkeflacGreatDoor.Am
open Go Go.RowKit
variable {P:Program} {w0:World} {S:SD} {A:Nat→Prop} {N:Nat} {ρ:Id→Pl} {t:List (Nat×D)} {h h':HL} {a:Act} {w:World}
def dr (ops:Array Oper)(t:List (Nat×D))(o:Oper):Option Bool:=
 match o.guard with
 |none=>some true
 |some (g,want)=>(match(ops[g]?).bind (·.dst) with
  |some k=>(match look t k with
   |some (.bool b)=>some (b==want)
   |some (.tup [])=>some false
   |_=>none)
  |none=>none)
theorem Sim.guard (s:Sim P w0 S A N ρ t h a w){ops:Array Oper}{o:Oper}{b:Bool}(hg:dr ops t o=some b):Region.wanted o (yielded ops a.tmps)=b:=by
 unfold dr at hg
 unfold Region.wanted yielded
 split at hg
 ·rename_i e
  simp only[aw] at hg
  rw[e,←hg]
 ·rename_i g want e
  rw[e]
  split at hg
  ·rename_i k hk
   split at hg
   ·rename_i bb hb
    simp only[aw] at hg
    obtain⟨hlt,hc⟩:=s.tmp k _ hb
    have hv:=hc.bool_inv
    have hlt':k<a.tmps.size:=by rw[s.size];exact hlt
    have:a.tmps[k]?=some (.bool bb):=by
     rw[eI hlt']
     simpa[bJ,hlt'] using hv
    simp only[hk,ba,this]
    rw[←hg]
    cases bb<;>cases want<;>rfl
   ·rename_i hb
    simp only[aw] at hg
    obtain⟨hlt,hc⟩:=s.tmp k _ hb
    obtain⟨vs,hv,-,-⟩:=hc.tup_inv
    have hlt':k<a.tmps.size:=by rw[s.size];exact hlt
    have:a.tmps[k]?=some (.tuple vs):=by
     rw[eI hlt']
     simpa[bJ,hlt'] using hv
    simp only[hk,ba,this]
    rw[←hg]
    cases want<;>rfl
   ·cases hg
  ·cases hg
def TRun (P:Program)(ops:Array Oper)(N:Nat)(t:List (Nat×D))(h:HL)(n:Nat):List (Oper×Rc)→Prop
 |[]=>True
 |(o,r)::l=>(r.n=n∧n≤r.n'∧(∀x∈r.u,x.1.1<r.n')∧(∀d,o.dst=some d→d<N))∧
   ((dr ops t o=some true∧OpS P N o t h r.d r.u r.f)∨(dr ops t o=some false∧r.d= .tup []∧r.u=[]∧r.f=[]))∧
   TRun P ops N (im o.dst r.d t) (puts r.u h) r.n' l
theorem wc (m:Nat→Bool):∀(l:List (Oper×Rc)) (k:Nat) (t:List (Nat×D)),(∀i,k≤i→m i=false)→kb m k l t=t
 |[],k,t,_=>rfl
 |(o,r)::l,k,t,hm=>by
  show kb m (k+1) l (if m k=true then im o.dst r.d t else t)=t
  rw[hm k (ax _)]
  exact wc m l (k+1) t fun i hi=>hm i (by omega)
theorem wb (m:Nat→Bool):∀(l:List (Oper×Rc)) (k:Nat) (t:HL),(∀i,k≤i→m i=false)→jp m k l t=t
 |[],k,t,_=>rfl
 |(o,r)::l,k,t,hm=>by
  show jp m (k+1) l (if m k=true then puts r.u t else t)=t
  rw[hm k (ax _)]
  exact wb m l (k+1) t fun i hi=>hm i (by omega)
theorem TRun.at {ops:Array Oper}:∀{l:List (Oper×Rc)} {k n:Nat} {t:List (Nat×D)} {h:HL},TRun P ops N t h n l→(∀b:Id,n≤b.1→look h b=none)→∀{j:Nat} {o:Oper} {r:Rc},l[j]?=some (o,r)→
  ∃tj hj,tj=kb (fun i=>decide (i<k+j)) k l t∧hj=jp (fun i=>decide (i<k+j)) k l h∧(∀b:Id,r.n≤b.1→look hj b=none)∧n≤r.n∧(r.n≤r.n'∧(∀x∈r.u,x.1.1<r.n')∧(∀d,o.dst=some d→d<N))∧
   ((dr ops tj o=some true∧OpS P N o tj hj r.d r.u r.f)∨(dr ops tj o=some false∧r.d= .tup []∧r.u=[]∧r.f=[]))
 |[],_,_,_,_,_,_,j,o,r,hj=>by simp at hj
 |(o0,r0)::l,k,n,t,h,hT,hn,j,o,r,hj=>by
  obtain⟨⟨rfl,h1,h2,h3⟩,h4,h5⟩:=hT
  cases j with
  |zero=>
   simp only[iL,aw,aZ] at hj
   obtain⟨rfl,rfl⟩:=hj
   exact⟨t,h,(wc _ _ _ _ fun i hi=>by simp;omega).symm,(wb _ _ _ _ fun i hi=>by simp;omega).symm,hn,ax _,⟨h1,h2,h3⟩,h4⟩
  |succ j=>
   have hn':∀b:Id,r0.n'≤b.1→look (puts r0.u h) b=none:=by
    intro b hb
    rw[aN _ _ _ fun x hx e=>by have:=h2 x hx;rw[e] at this;omega]
    exact hn b (by omega)
   obtain⟨tj,hj',e1,e2,e3,e4,e5,e6⟩:=TRun.at (k:=k+1) h5 hn' (j:=j) (o:=o) (r:=r) (by simpa using hj)
   refine⟨tj,hj',?_,?_,e3,by omega,e5,e6⟩
   ·rw[e1]
    show _=kb _ (k+1) l (if decide (k<k+(j+1))=true then im o0.dst r0.d t else t)
    rw[if_pos (by simp)]
    congr 1
    funext i
    congr 1
    simp only[eq_iff_iff]
    omega
   ·rw[e2]
    show _=jp _ (k+1) l (if decide (k<k+(j+1))=true then puts r0.u h else h)
    rw[if_pos (by simp)]
    congr 1
    funext i
    congr 1
    simp only[eq_iff_iff]
    omega
theorem m4:∀(u:HL) (h:HL) (b:Id),Live h b→Live (puts u h) b
 |[],h,b,hb=>hb
 |x::u,h,b,hb=>m4 u _ b hb.put
theorem kK (m:Nat→Bool):∀(l:List (Oper×Rc)) (k:Nat) (h:HL) (b:Id),Live h b→Live (jp m k l h) b
 |[],k,h,b,hb=>hb
 |(o,r)::l,k,h,b,hb=>by
  refine kK m l (k+1) _ b ?_
  split
  ·exact m4 _ _ _ hb
  ·exact hb
def MQ (dep:Nat→List Nat)(L:List (Oper×Rc)):Prop:=
 ∀i j oi ri oj rj,i<j→L[i]?=some (oi,ri)→L[j]?=some (oj,rj)→(dep j).contains i=false→
  (∀x∈ri.u,x.1.1∉rj.f∧∀y∈rj.u,x.1.1≠y.1.1)∧(∀x∈rj.u,x.1.1∉ri.f)
def iV (listed:Array Bool)(i:Nat):Bool:=listed.getD i false
theorem sm {t t':List (Nat×D)}{x:Operand}(h:∀k,x= .tmp k→look t k=look t' k):aX t x=aX t' x:=by
 cases x with
 |tmp k=>exact h k rfl
 |_=>rfl
theorem tR {ops:Array Oper}{o:Oper}{k:Nat}(hx:Operand.tmp k∈o.op.operands):k∈o.looksAt ops:=
 eh _ (List.mem_filterMap.2 ⟨.tmp k,ly.2 hx,rfl⟩)
theorem ol {ops:Array Oper}{o:Oper}{t t':List (Nat×D)}(h:∀k∈o.looksAt ops,look t k=look t' k):dr ops t o=dr ops t' o:=by
 unfold dr
 split
 ·rfl
 ·rename_i g want e
  split
  ·rename_i k hk
   rw[h k (eK _ (by simp only[e];rw[hk];simp))]
  ·rfl
set_option maxHeartbeats 1000000 in
theorem z6 {ops:Array Oper}{dep:Nat→List Nat}{Q:Exit→Act→World→Prop}{L:List (Oper×Rc)}{t0:List (Nat×D)}{h0:HL}{n0:Nat}(hok:Reg.okB ops dep=true)(hL:L.map (·.1)=ops.toList)
  (hT:TRun P ops N t0 h0 n0 L) (hn:∀b:Id,n0≤b.1→look h0 b=none) (hC:MQ dep L) {ρ0:Id→Pl} {L0:Id→Prop} (hK:∀b,L0 b→Live h0 b)
  (hQ:∀ρ a w,(∀b,L0 b→ρ b=ρ0 b)→Sim P w0 S A N ρ (kb (fun _=>true) 0 L t0) (jp (fun _=>true) 0 L h0) a w→Q .normal a w):
  ∀(fuel:Nat) (R:List Nat) (listed:Array Bool) (a:Act) (w:World) (ρ:Id→Pl),R.length≤fuel→listed.size=ops.size→(∀i,i<ops.size→iV listed i=false→i∈R)→
   (∀k o,ops[k]?=some o→iV listed k=true→∀e∈o.after,Region.binds .any e=true→iV listed e.on=true)→
   (∀b,L0 b→ρ b=ρ0 b)→Sim P w0 S A N ρ (kb (iV listed) 0 L t0) (jp (iV listed) 0 L h0) a w→wpAny P .any ops Q fuel listed a w:=by
 have hLg:∀i:Nat,(L[i]?).map (fun x:Oper×Rc=>x.1)=ops[i]?:=by
  intro i
  have:=congrArg (fun l:List Oper=>l[i]?) hL
  simpa using this
 have hLo:∀i o r,L[i]?=some (o,r)→ops[i]?=some o:=fun i o r h=>by rw[←hLg i,h];rfl
 have hoL:∀i o,ops[i]?=some o→∃r,L[i]?=some (o,r):=fun i o h=>by
  have e:=hLg i
  rw[h] at e
  obtain⟨⟨o',r⟩,h1,h2⟩:=bm.1 e
  simp only at h2
  subst h2
  exact⟨r,h1⟩
 have fin:∀(listed:Array Bool) (a:Act) (w:World) (ρ:Id→Pl),(∀i,i<ops.size→iV listed i=true)→(∀b,L0 b→ρ b=ρ0 b)→Sim P w0 S A N ρ (kb (iV listed) 0 L t0) (jp (iV listed) 0 L h0) a w→Q .normal a w:=by
  intro listed a w ρ hall hρ s
  have hi:∀i o r,L[i]?=some (o,r)→iV listed (0+i)≠(fun _=>true) (0+i)→False:=by
   intro i o r hl hne
   have:=hLo i o r hl
   exact hne (by simpa using hall i (G7.1 this).1)
  exact hQ ρ a w hρ (s.congr (fun x=>(mf L 0 t0 fun i o r hl hne=>(hi i o r hl hne).elim).symm) fun b=>(kL L 0 h0 fun i o r hl hne=>(hi i o r hl hne).elim).symm)
 have stuck:∀(listed:Array Bool),listed.size=ops.size→Region.ready .any ops listed=[]→∀i,i<ops.size→iV listed i=true:=by
  intro listed hsz hr i
  induction i using Nat.strongRecOn with
  |_ i ih=>
   intro hi
   cases hm:iV listed i with
   |true=>rfl
   |false=>
    exfalso
    have ho:ops[i]?=some ops[i]:=eI hi
    have:i∈Region.ready .any ops listed:=by
     refine eL.2 ⟨eM.2 hi,?_⟩
     have e1:listed.getD i true=false:=by
      have hi':i<listed.size:=by omega
      unfold iV at hm
      simp only[bJ,eI hi',dY] at hm⊢
      exact hm
     rw[e1,ho]
     simp only[aI,dY,Bool.not_false,d7,Array.all_eq_true']
     intro e he
     cases hb:Region.binds .any e with
     |false=>rfl
     |true=>
      have hlt:=Reg.okB_back hok ho e he hb
      have:=ih e.on hlt (by omega)
      simpa[iV] using this
    rw[hr] at this
    cases this
 have anc:∀(listed:Array Bool),(∀k o,ops[k]?=some o→iV listed k=true→∀e∈o.after,Region.binds .any e=true→iV listed e.on=true)→
   ∀k o,ops[k]?=some o→(∀e∈o.after,Region.binds .any e=true→iV listed e.on=true)→∀j,(dep k).contains j=true→iV listed j=true:=by
  intro listed hdc k
  induction k using Nat.strongRecOn with
  |_ k ih=>
   intro o ho hr j hj
   obtain⟨e,he,hb,hc⟩:=Reg.okB_dep hok ho hj
   have h1:=hr e he hb
   rcases hc with rfl|hc
   ·exact h1
   ·have hlt:=Reg.okB_back hok ho e he hb
    have hk:=(G7.1 ho).1
    have ho':ops[e.on]?=some ops[e.on]:=eI (by omega)
    exact ih e.on hlt _ ho' (hdc _ _ ho' h1) j (by simpa using hc)
 intro fuel
 induction fuel with
 |zero=>
  intro R listed a w ρ hR hsz hin hdc hρ s
  have hnil:R=[]:=tB (by omega)
  have hall:∀i,i<ops.size→iV listed i=true:=fun i hi=>by
   cases hm:iV listed i with
   |true=>rfl
   |false=>have:=hin i hi hm;rw[hnil] at this;cases this
  refine⟨?_,fin listed a w ρ hall hρ s⟩
  unfold Region.ready
  rw[List.filter_eq_nil_iff]
  intro i hi
  have hi':i<listed.size:=by have:=eM.1 hi;omega
  have:=hall i (eM.1 hi)
  unfold iV at this
  simp only[bJ,eI hi',dY] at this⊢
  simp[this]
 |succ fuel ih=>
  intro R listed a w ρ hR hsz hin hdc hρ s
  refine⟨fun hr=>fin listed a w ρ (stuck listed hsz hr) hρ s,fun j hj=>?_⟩
  obtain⟨hjr,hjc⟩:=eL.1 hj
  have hjlt:=eM.1 hjr
  have ho:ops[j]?=some ops[j]:=eI hjlt
  generalize ops[j]=o at ho
  rw[ho] at hjc
  simp only[aI,dY,aA,Array.all_eq_true'] at hjc
  obtain⟨hjn,hja⟩:=hjc
  have hmj:iV listed j=false:=by
   have hi':j<listed.size:=by omega
   unfold iV
   simp only[bJ,eI hi',dY] at hjn⊢
   simpa using hjn
  have hwait:∀e∈o.after,Region.binds .any e=true→iV listed e.on=true:=by
   intro e he hb
   have:=hja e he
   rw[hb] at this
   simpa[iV] using this
  obtain⟨r,hl⟩:=hoL j o ho
  obtain⟨tj,hj',e1,e2,e3,_,⟨e4,e5,e6⟩,e7⟩:=hT.at (k:=0) hn hl
  simp only[eX] at e1 e2
  have diff:∀i oi ri,L[i]?=some (oi,ri)→iV listed (0+i)≠decide (0+i<j)→i≠j∧
    ((∀d,oi.dst=some d→d∉o.looksAt ops∧o.dst≠some d)∧(∀y∈ri.u,y.1.1∉r.f∧∀x∈r.u,y.1.1≠x.1.1)):=by
   intro i oi ri hi hne
   simp only[eX] at hne
   have hoi:=hLo i oi ri hi
   by_cases hij:i<j
   ·have hmi:iV listed i=false:=by
     cases hm:iV listed i with
     |false=>rfl
     |true=>exact absurd (by simp[hm,hij]) hne
    refine⟨by omega,?_,?_⟩
    ·rcases Reg.okB_apart hok ho hoi hij with⟨e,he,hb,hon⟩|hap
     ·have:=hwait e he hb
      rw[hon,hmi] at this;cases this
     ·have hsp:=Oper.apart_spec hap
      exact fun d hd=>⟨hsp.1 d hd,hsp.2.1 d hd⟩
    ·cases hdp:(dep j).contains i with
     |true=>have:=anc listed hdc j o ho hwait i hdp;rw[hmi] at this;cases this
     |false=>exact fun y hy=>(hC i j oi ri o r hij hi hl hdp).1 y hy
   ·have hmi:iV listed i=true:=by
     cases hm:iV listed i with
     |true=>rfl
     |false=>exact absurd (by simp[hm,hij]) hne
    have hne':i≠j:=by rintro rfl;rw[hmj] at hmi;cases hmi
    have hji:j<i:=by omega
    refine⟨hne',?_,?_⟩
    ·rcases Reg.okB_apart hok hoi ho hji with⟨e,he,hb,hon⟩|hap
     ·have:=hdc i oi hoi hmi e he hb
      rw[hon,hmj] at this;cases this
     ·have hsp:=Oper.apart_spec hap
      exact fun d hd=>⟨hsp.2.2 d hd,fun he=>hsp.2.1 d he hd⟩
    ·cases hdp:(dep i).contains j with
     |true=>have:=anc listed hdc i oi hoi (hdc i oi hoi hmi) j hdp;rw[hmj] at this;cases this
     |false=>
      have hc:=hC j i o r oi ri hji hl hi hdp
      exact fun y hy=>⟨hc.2 y hy,fun x hx he=>(hc.1 x hx).2 y hy he.symm⟩
  have hTl:∀k∈o.looksAt ops,look (kb (iV listed) 0 L t0) k=look tj k:=by
   intro k hk
   rw[e1]
   exact mf L 0 t0 fun i oi ri hi hne hd=>(((diff i oi ri hi hne).2.1 k hd).1) hk
  have hHf:∀b:Id,b.1∈r.f→look (jp (iV listed) 0 L h0) b=look hj' b:=by
   intro b hb
   rw[e2]
   refine kL L 0 h0 fun i oi ri hi hne y hy he=>?_
   have:=(diff i oi ri hi hne).2.2 y hy
   exact this.1 (he▸hb)
  have hgd:dr ops (kb (iV listed) 0 L t0) o=dr ops tj o:=ol hTl
  have hmask:∀i,iV (listed.setIfInBounds j true) i=dI (iV listed) j i:=by
   intro i
   have hj2:j<listed.size:=by omega
   unfold dI iV
   by_cases e:j=i
   ·subst e;simp[bJ,hj2]
   ·have:(i==j)=false:=by simp[cm e]
    rw[this,j9]
    simp[bJ,wy e]
  have hKl:∀b,L0 b→Live (jp (iV listed) 0 L h0) b:=fun b hb=>kK _ L 0 h0 b (hK b hb)
  have next:∀(ρ':Id→Pl) (v:Value) (w':World),Ext (jp (iV listed) 0 L h0) ρ ρ'→Sim P w0 S A N ρ' (im o.dst r.d (kb (iV listed) 0 L t0)) (puts r.u (jp (iV listed) 0 L h0)) (a.put o.dst v) w'→wpAny P .any ops Q fuel (listed.setIfInBounds j true) (a.put o.dst v) w':=by
   intro ρ' v w' hex s'
   refine ih (R.erase j) _ _ _ ρ' ?_ (by simpa using hsz) ?_ ?_ (fun b hb=>(hex b (hKl b hb)).trans (hρ b hb)) ?_
   ·rw[List.length_erase_of_mem (hin j hjlt hmj)];omega
   ·intro i hi hm
    rw[hmask] at hm
    simp only[dI,Bool.or_eq_false_iff,beq_eq_false_iff_ne] at hm
    exact(List.mem_erase_of_ne hm.2).2 (hin i hi hm.1)
   ·intro k o' ho' hm e he hb
    rw[hmask] at hm⊢
    simp only[dI,cN,beq_iff_eq] at hm⊢
    rcases hm with hm|rfl
    ·exact .inl (hdc k o' ho' hm e he hb)
    ·rw[ho] at ho'
     obtain rfl:=ar ho'
     exact .inl (hwait e he hb)
   ·have hfun:iV (listed.setIfInBounds j true)=dI (iV listed) j:=funext hmask
    rw[hfun]
    refine s'.congr (fun x=>Ca hmj L 0 t0 (aW _) (by simpa using hl) (fun i oi ri hi hlt hm x hx hd=>?_) x) (fun b=>B9 hmj L 0 h0 (aW _) (by simpa using hl) (fun i oi ri hi hlt hm x hx y hy he=>?_) b)
    ·have hd':=diff i oi ri hi (by rw[hm];simp;omega)
     exact(hd'.2.1 x hd).2 hx
    ·have hd':=diff i oi ri hi (by rw[hm];simp;omega)
     exact(hd'.2.2 y hy).2 x hx (congrArg Prod.fst he.symm)
  unfold wpOp
  rw[ho]
  simp only
  rcases e7 with⟨g1,g2⟩|⟨g1,g2,g3,g4⟩
  ·rw[s.guard (hgd.trans g1)]
   simp only[if_true]
   left
   have hw:=g2 (kb (iV listed) 0 L t0) (jp (iV listed) 0 L h0) (fun x hx=>(sm fun k hk=>hTl k (tR (by rw[←hk];exact hx))).symm) (fun b hb=>(hHf b hb).symm) w0 S A ρ a w s
   refine Reg.wp_exit_mono (K:=tE P w0 S A N ρ (kb (iV listed) 0 L t0) (jp (iV listed) 0 L h0) (puts r.u (jp (iV listed) 0 L h0)) a o.dst r.d) ?_ hw
   rintro a' w' ⟨v,ρ',rfl,hex,h1,h2⟩
   exact next ρ' v w' hex (h1.putO e6 h2)
  ·rw[s.guard (hgd.trans g1)]
   simp only[eW,if_false]
   refine next ρ undef w (Ext.refl _ _) ?_
   rw[g2,g3]
   exact s.putO e6 (.tup [] #[] rfl fun i hi=>absurd hi (Nat.not_lt_zero i))
end Go.Proofs.YtpefhoohfkeflacGreatDoor.Am
namespace Go.Proofs.YtpefhoohfkeflacGreatDoor.Am
open Go Go.RowKit
variable {P:Program} {N:Nat}
structure St where
 t:List (Nat×D)
 h:HL
 n:Nat
def SimS (P:Program)(w0:World)(S:SD)(A:Nat→Prop)(N:Nat)(ρ0:Id→Pl)(K:Id→Prop)(σ:St)(a:Act)(w:World):Prop:=
 (∀b:Id,σ.n≤b.1→look σ.h b=none)∧(∀b,K b→Live σ.h b)∧∃ρ,(∀b,K b→ρ b=ρ0 b)∧Sim P w0 S A N ρ σ.t σ.h a w
def gY (P:Program)(N:Nat)(K:Id→Prop)(σ:St):Prop:=∃w0 S A ρ0 a w,SimS P w0 S A N ρ0 K σ a w
def Brings (P:Program)(N:Nat)(K:Id→Prop)(c:Code)(σ:St)(e:Exit)(σ':St):Prop:=
 ∀w0 S A ρ0 a w,SimS P w0 S A N ρ0 K σ a w→c.wp P (fun e' a' w'=>e'=e∧SimS P w0 S A N ρ0 K σ' a' w') a w
variable {K:Id→Prop} {σ σ1 σ2:St} {e:Exit}
def Weak (P:Program)(N:Nat)(K:Id→Prop)(σ σ':St):Prop:=∀w0 S A ρ0 a w,SimS P w0 S A N ρ0 K σ a w→SimS P w0 S A N ρ0 K σ' a w
theorem Weak.refl:Weak P N K σ σ:=fun _ _ _ _ _ _ h=>h
theorem Weak.trans (h:Weak P N K σ σ1)(k:Weak P N K σ1 σ2):Weak P N K σ σ2:=fun w0 S A ρ0 a w hs=>k w0 S A ρ0 a w (h w0 S A ρ0 a w hs)
theorem Brings.pre {c:Code}(hw:Weak P N K σ σ1)(h:Brings P N K c σ1 e σ2):Brings P N K c σ e σ2:=fun w0 S A ρ0 a w hs=>h w0 S A ρ0 a w (hw w0 S A ρ0 a w hs)
theorem Brings.post {c:Code}(h:Brings P N K c σ e σ1)(hw:Weak P N K σ1 σ2):Brings P N K c σ e σ2:=
 fun w0 S A ρ0 a w hs=>wp_mono (h w0 S A ρ0 a w hs) fun _ a' w' ⟨h1,h2⟩=>⟨h1,hw w0 S A ρ0 a' w' h2⟩
theorem Brings.skip:Brings P N K .skip σ .normal σ:=fun _ _ _ _ _ _ hs=>wp_skip ⟨rfl,hs⟩
theorem Brings.ret:Brings P N K .ret σ .ret σ:=fun _ _ _ _ _ _ hs=>wp_ret ⟨rfl,hs⟩
theorem Brings.exit {id:Nat}:Brings P N K (.exit id) σ (.exit id) σ:=fun _ _ _ _ _ _ hs=>wp_exit ⟨rfl,hs⟩
theorem Brings.seqN {x y:Code}(h1:Brings P N K x σ .normal σ1)(h2:Brings P N K y σ1 e σ2):Brings P N K (.seq x y) σ e σ2:=by
 intro w0 S A ρ0 a w hs
 refine wp_seq (wp_mono (h1 w0 S A ρ0 a w hs) ?_)
 rintro e' a' w' ⟨rfl,h⟩
 exact h2 w0 S A ρ0 a' w' h
theorem Brings.seqX {x y:Code}(hne:e≠ .normal)(h1:Brings P N K x σ e σ1):Brings P N K (.seq x y) σ e σ1:=by
 intro w0 S A ρ0 a w hs
 refine wp_seq (wp_mono (h1 w0 S A ρ0 a w hs) ?_)
 rintro e' a' w' ⟨rfl,h⟩
 cases e'<;>first|exact absurd rfl hne|exact⟨rfl,h⟩
theorem Brings.blockE {id:Nat}{c:Code}(h:Brings P N K c σ (.exit id) σ1):Brings P N K (.block id c) σ .normal σ1:=by
 intro w0 S A ρ0 a w hs
 refine wp_block (wp_mono (h w0 S A ρ0 a w hs) ?_)
 rintro e' a' w' ⟨rfl,h⟩
 simp only[Exit.inBlock,if_true]
 exact⟨trivial,h⟩
theorem Brings.blockX {id:Nat}{c:Code}(hne:e≠ .exit id)(h:Brings P N K c σ e σ1):Brings P N K (.block id c) σ e σ1:=by
 intro w0 S A ρ0 a w hs
 refine wp_block (wp_mono (h w0 S A ρ0 a w hs) ?_)
 rintro e' a' w' ⟨rfl,hk⟩
 cases e' with
 |exit id'=>
  have:id'≠id:=fun h=>hne (by rw[h])
  simp only[Exit.inBlock,if_neg this]
  exact⟨trivial,hk⟩
 |_=>exact⟨rfl,hk⟩
theorem Brings.condT {c:Operand}{x y:Code}(hc:aX σ.t c=some (.bool true))(h:Brings P N K x σ e σ1):Brings P N K (.cond c x y) σ e σ1:=by
 intro w0 S A ρ0 a w hs
 obtain⟨_,_,ρ,_,s⟩:=id hs
 exact wp_cond_split (s.eval hc).bool_inv (fun _=>h w0 S A ρ0 a w hs) (fun hb=>by cases hb)
theorem Brings.condF {c:Operand}{x y:Code}(hc:aX σ.t c=some (.bool false))(h:Brings P N K y σ e σ1):Brings P N K (.cond c x y) σ e σ1:=by
 intro w0 S A ρ0 a w hs
 obtain⟨_,_,ρ,_,s⟩:=id hs
 exact wp_cond_split (s.eval hc).bool_inv (fun hb=>by cases hb) (fun _=>h w0 S A ρ0 a w hs)
inductive LoopB (P:Program) (N:Nat) (K:Id→Prop) (c:Code):St→Exit→St→Prop where
 |out {σ:St} {e:Exit} {σ1:St} (hne:e≠ .normal) (h:Brings P N K c σ e σ1):LoopB P N K c σ e σ1
 |round {σ σ1 σ2:St} {e:Exit} (h:Brings P N K c σ .normal σ1) (k:LoopB P N K c σ1 e σ2):LoopB P N K c σ e σ2
 |pre {σ σ1 σ2:St} {e:Exit} (h:Weak P N K σ σ1) (k:LoopB P N K c σ1 e σ2):LoopB P N K c σ e σ2
theorem LoopB.go {c:Code}(h:LoopB P N K c σ e σ1):∀w0 S A ρ0 a w,SimS P w0 S A N ρ0 K σ a w→∀(b:Frame) (k:List Item) (cs:List Frame),
  ∃e' a' w',(e'=e∧SimS P w0 S A N ρ0 K σ1 a' w')∧Arrives P (lone (b.at a (.code c:: .inLoop c::k)) cs w) b k cs e' a' w':=by
 induction h with
 |out hne h=>
  intro w0 S A ρ0 a w hs b k cs
  obtain⟨e',a',w',⟨rfl,h1⟩,h2⟩:=h w0 S A ρ0 a w hs b (.inLoop c::k) cs
  exact⟨e',a',w',⟨rfl,h1⟩,.pass (x:=.inLoop c) rfl (fun _ _=>.inl hne) h2⟩
 |round h _ ih=>
  intro w0 S A ρ0 a w hs b k cs
  obtain⟨e',a',w',⟨rfl,h1⟩,h2⟩:=h w0 S A ρ0 a w hs b (.inLoop c::k) cs
  obtain⟨e2,a2,w2,h3,h4⟩:=ih w0 S A ρ0 a' w' h1 b k cs
  exact⟨e2,a2,w2,h3,.of_steps (Steps.trans h2 (.one step_inLoop)) h4⟩
 |pre h _ ih=>
  intro w0 S A ρ0 a w hs b k cs
  exact ih w0 S A ρ0 a w (h w0 S A ρ0 a w hs) b k cs
theorem Brings.loop {c:Code}(h:LoopB P N K c σ e σ1):Brings P N K (.loop c) σ e σ1:=by
 intro w0 S A ρ0 a w hs b k cs
 obtain⟨e',a',w',h1,h2⟩:=h.go w0 S A ρ0 a w hs b k cs
 exact⟨e',a',w',h1,.of_steps (.one step_loop) h2⟩
theorem Brings.regionD {id:Nat}{ops:Array Oper}{L:List (Oper×Rc)}(dep:Nat→List Nat)(hm:P.follows .mixedOrders=true)(hok:Reg.okB ops dep=true)(h1:L.map (·.1)=ops.toList)(h2:TRun P ops N σ.t σ.h σ.n L)(hC:MQ dep L)
  (h3:∀x,look σ1.t x=look (kb (fun _=>true) 0 L σ.t) x) (h4:∀x,look σ1.h x=look (jp (fun _=>true) 0 L σ.h) x) (h5:(∀b:Id,σ.n≤b.1→look σ.h b=none)→∀b:Id,σ1.n≤b.1→look σ1.h b=none):Brings P N K (.region id ops true) σ .normal σ1:=by
 rintro w0 S A ρ0 a w ⟨hn,hK,ρ,hρ,s⟩
 refine wp_region_any hm ?_
 have hm0:∀i,iV (Array.replicate ops.size false) i=false:=by
  intro i
  unfold iV
  rw[bJ,Array.getElem?_replicate]
  split<;>rfl
 have hQ:∀ρ' a' w',(∀b,K b→ρ' b=ρ0 b)→Sim P w0 S A N ρ' (kb (fun _=>true) 0 L σ.t) (jp (fun _=>true) 0 L σ.h) a' w'→Exit.normal=Exit.normal∧SimS P w0 S A N ρ0 K σ1 a' w':=
  fun ρ' a' w' hρ' s'=>⟨rfl,h5 hn,fun b hb=>by
   have:=kK (fun _=>true) L 0 σ.h b (hK b hb)
   unfold Live at this⊢
   rw[h4]
   exact this,ρ',hρ',s'.congr h3 h4⟩
 exact z6 (w0:=w0) (S:=S) (A:=A) (Q:=fun e a' w'=>e= .normal∧SimS P w0 S A N ρ0 K σ1 a' w') hok h1 h2 hn hC (ρ0:=ρ0) (L0:=K) hK hQ ops.size (List.range ops.size) _ a _ ρ (by simp) (by simp) (fun i hi _=>eM.2 hi)
  (fun k o ho hmk=>absurd hmk (by rw[hm0];simp)) hρ (by
   rw[wc _ _ _ _ fun i _=>hm0 i,wb _ _ _ _ fun i _=>hm0 i]
   exact s.drew _)
theorem BO {ops:Array Oper}{w0:World}{S:SD}{A:Nat→Prop}{ρ0:Id→Pl}{Q:Exit→Act→World→Prop}:∀(L:List (Oper×Rc)) (k:Nat) (t:List (Nat×D)) (h:HL) (n:Nat) (a:Act) (w:World) (ρ:Id→Pl),TRun P ops N t h n L→(∀b:Id,n≤b.1→look h b=none)→
  (∀b,K b→Live h b)→(∀b,K b→ρ b=ρ0 b)→(∀i,ops[k+i]?=(L[i]?).map (·.1))→Sim P w0 S A N ρ t h a w→
  (∀ρ a w,(∀b,K b→ρ b=ρ0 b)→Sim P w0 S A N ρ (kb (fun _=>true) k L t) (jp (fun _=>true) k L h) a w→Q .normal a w)→wpOps P ops Q (List.range' k L.length) a w
 |[],k,t,h,n,a,w,ρ,_,_,_,hρ,_,s,hq=>hq ρ a w hρ s
 |(o,r)::L,k,t,h,n,a,w,ρ,hT,hn,hK,hρ,hops,s,hq=>by
  obtain⟨⟨rfl,h1,h2,h3⟩,h4,h5⟩:=hT
  simp only[bF,List.range'_succ]
  rw[wpOps_cons]
  unfold wpOp
  have ho:ops[k]?=some o:=by simpa using hops 0
  rw[ho]
  simp only
  have hn':∀b:Id,r.n'≤b.1→look (puts r.u h) b=none:=by
   intro b hb
   rw[aN _ _ _ fun x hx e=>by have:=h2 x hx;rw[e] at this;omega]
   exact hn b (by omega)
  have lD:∀(ρ':Id→Pl) (v:Value) (w':World),Ext h ρ ρ'→Sim P w0 S A N ρ' (im o.dst r.d t) (puts r.u h) (a.put o.dst v) w'→wpOps P ops Q (List.range' (k+1) L.length) (a.put o.dst v) w':=by
   intro ρ' v w' hex s'
   exact BO L (k+1) _ _ r.n' _ w' ρ' h5 hn' (fun b hb=>m4 _ _ _ (hK b hb)) (fun b hb=>(hex b (hK b hb)).trans (hρ b hb)) (fun i=>by rw[show k+1+i=k+(i+1) by omega];exact hops (i+1)) s' hq
  rcases h4 with⟨g1,g2⟩|⟨g1,g2,g3,g4⟩
  ·rw[s.guard g1]
   simp only[if_true]
   left
   have hw:=g2 t h (fun x hx=>rfl) (fun b hb=>rfl) _ _ _ ρ a w s
   refine Reg.wp_exit_mono (K:=tE P w0 S A N ρ t h (puts r.u h) a o.dst r.d) ?_ hw
   rintro a' w' ⟨v,ρ',rfl,hex,q1,q2⟩
   exact lD ρ' v w' hex (q1.putO h3 q2)
  ·rw[s.guard g1]
   simp only[eW,if_false]
   refine lD ρ undef w (Ext.refl _ _) ?_
   rw[g2,g3]
   exact s.putO h3 (.tup [] #[] rfl fun i hi=>absurd hi (Nat.not_lt_zero i))
theorem Brings.regionS {id:Nat}{ops:Array Oper}{L:List (Oper×Rc)}(h1:L.map (·.1)=ops.toList)(h2:TRun P ops N σ.t σ.h σ.n L)
  (h3:∀x,look σ1.t x=look (kb (fun _=>true) 0 L σ.t) x) (h4:∀x,look σ1.h x=look (jp (fun _=>true) 0 L σ.h) x) (h5:(∀b:Id,σ.n≤b.1→look σ.h b=none)→∀b:Id,σ1.n≤b.1→look σ1.h b=none):Brings P N K (.region id ops false) σ .normal σ1:=by
 rintro w0 S A ρ0 a w ⟨hn,hK,ρ,hρ,s⟩
 refine wp_region ?_
 have hlen:ops.size=L.length:=by have:=congrArg List.length h1;simpa using this.symm
 have hops:∀i:Nat,ops[0+i]?=(L[i]?).map (fun x:Oper×Rc=>x.1):=by
  intro i
  have:=congrArg (fun l:List Oper=>l[i]?) h1
  simpa using this.symm
 rw[hlen,List.range_eq_range']
 exact BO (Q:=fun e a' w'=>e= .normal∧SimS P w0 S A N ρ0 K σ1 a' w') L 0 _ _ _ a w ρ h2 hn hK hρ hops s fun ρ' a' w' hρ' s'=>⟨rfl,h5 hn,fun b hb=>by
   have:=kK (fun _=>true) L 0 σ.h b (hK b hb)
   unfold Live at this⊢
   rw[h4]
   exact this,ρ',hρ',s'.congr h3 h4⟩
end Go.Proofs.YtpefhoohfkeflacGreatDoor.Am
namespace Go.Proofs.YtpefhoohfkeflacGreatDoor.Am
open Go Go.RowKit
variable {P:Program} {w0:World} {S:SD} {A:Nat→Prop} {N:Nat} {K:Id→Prop} {ρ:Id→Pl} {t:List (Nat×D)} {h h':HL} {a:Act} {w:World}
inductive Rn (h:HL) (g:Id→Id) (h':HL):D→D→Prop where
 |ref (b:Id) (hb:Live h (g b)→Live h' b):Rn h g h' (.ref (g b)) (.ref b)
 |ptr (b:Id) (o:Nat) (hb:Live h (g b)→Live h' b):Rn h g h' (.ptr (g b) o) (.ptr b o)
 |eptr (b:Id) (i o:Nat) (hb:Live h (g b)→Live h' b):Rn h g h' (.eptr (g b) i o) (.eptr b i o)
 |vref (b:Id) (o n:Nat) (hb:Live h (g b)→Live h' b):Rn h g h' (.vref (g b) o n) (.vref b o n)
 |lst (b:Id) (l:List D) (hb:look h b=some (.froz l)):Rn h g h' (.ref b) (.lst l)
 |box (b:Id) (cs:List D) (hb:look h b=some (.fvar cs)):Rn h g h' (.ptr b 0) (.box cs)
 |fwd (d d':D) (hd:Rn h g h' (fwd h d) d'):Rn h g h' d d'
 |pure (d:D) (hd:d.pure0=true):Rn h g h' d d
 |nils:Rn h g h' .nils (.lst [])
 |iptr (e:D) (o:Nat):Rn h g h' (.iptr e o) (.iptr e o)
 |gv (k:Nat):Rn h g h' (.gv k) (.gv k)
 |agg (cs cs':List D) (hl:cs.length=cs'.length) (hc:∀i,i<cs.length→Rn h g h' (cs.getD i .undef) (cs'.getD i .undef)):Rn h g h' (.agg cs) (.agg cs')
 |tup (cs cs':List D) (hl:cs.length=cs'.length) (hc:∀i,i<cs.length→Rn h g h' (cs.getD i .undef) (cs'.getD i .undef)):Rn h g h' (.tup cs) (.tup cs')
 |clo (f:FuncId) (cs cs':List D) (hl:cs.length=cs'.length) (hc:∀i,i<cs.length→Rn h g h' (cs.getD i .undef) (cs'.getD i .undef)):Rn h g h' (.clo f cs) (.clo f cs')
 |ifc (T:TypeId) (d d':D) (hd:Rn h g h' d d'):Rn h g h' (.ifc T d) (.ifc T d')
 |undef (d:D):Rn h g h' d .undef
 |junk:Rn h g h' .junk .junk
inductive RnB (h:HL) (g:Id→Id) (h':HL):Blk→Blk→Prop where
 |var (T:TypeId) (cs cs':List D) (hl:cs.length=cs'.length) (hc:∀i,i<cs.length→Rn h g h' (cs.getD i .undef) (cs'.getD i .undef)):RnB h g h' (.var T cs) (.var T cs')
 |row (E:TypeId) (l l':List D) (hl:l.length=l'.length) (hc:∀i,i<l.length→Rn h g h' (l.getD i .undef) (l'.getD i .undef)∧∀s,wfC s (l.getD i .undef)→wfC s (l'.getD i .undef)∧∀j,j<s→Rn h g h' ((l.getD i .undef).cells.getD j .undef) ((l'.getD i .undef).cells.getD j .undef)):RnB h g h' (.row E l) (.row E l')
 |froz (l:List D):RnB h g h' (.froz l) (.froz l)
 |fvar (cs:List D):RnB h g h' (.fvar cs) (.fvar cs)
 |gone (x:Blk):RnB h g h' x .gone
structure Ren (h:HL)(g:Id→Id)(h':HL):Prop where
 blk:∀b x',look h' b=some x'→∃x,look h (g b)=some x∧RnB h g h' x x'
 inj:∀b c x y,look h' b=some x→look h' c=some y→x.live=true→y.live=true→g b=g c→b=c
theorem RnB.live {g:Id→Id}{x x':Blk}(hr:RnB h g h' x x'):(x'.live=true→x.live=true)∧(x'.mutable=true→x.mutable=true):=by
 cases hr with
 |var T cs cs' hl hc=>exact⟨fun _=>rfl,fun _=>rfl⟩
 |row E l l' hl hc=>exact⟨fun _=>rfl,fun _=>rfl⟩
 |froz l=>exact⟨fun _=>rfl,fun h=>h⟩
 |fvar cs=>exact⟨fun _=>rfl,fun h=>h⟩
 |gone=>exact⟨fun h=>absurd h (by decide),fun h=>absurd h (by decide)⟩
theorem Sim.rn (s:Sim P w0 S A N ρ t h a w){g:Id→Id}{ok':Nat→Prop}(hok:∀k,okOf A ρ h w k→ok' k){d d':D}{v:Value}(hr:Rn h g h' d d'):C ρ (Live h) (okOf A ρ h w) w d v→C (fun b=>ρ (g b)) (Live h') ok' w d' v:=by
 induction hr generalizing v with
 |ref b hb=>intro hc;obtain⟨hl,rfl⟩:=hc.ref_inv;exact .ref (ρ:=fun b=>ρ (g b)) b (hb hl)
 |ptr b o hb=>intro hc;obtain⟨hl,rfl⟩:=hc.ptr_inv;exact .ptr (ρ:=fun b=>ρ (g b)) b o (hb hl)
 |eptr b i o hb=>intro hc;obtain⟨hl,rfl⟩:=hc.eptr_inv;exact .eptr (ρ:=fun b=>ρ (g b)) b i o (hb hl)
 |vref b o n hb=>intro hc;obtain⟨hl,hn,rfl⟩:=hc.vref_inv;exact .vref (ρ:=fun b=>ρ (g b)) b o n (hb hl) hn
 |lst b l hb=>intro hc;obtain⟨_,rfl⟩:=hc.ref_inv;exact .pure (Rep.mono (s.blk b _ hb) fun k hk=>⟨hok k hk,rfl⟩)
 |box b cs hb=>intro hc;obtain⟨_,rfl⟩:=hc.ptr_inv;exact .pure (Rep.mono (s.blk b _ hb) fun k hk=>⟨hok k hk,rfl⟩)
 |fwd d d' hd ih=>intro hc;exact ih (s.fwd hc)
 |pure d hd=>intro hc;exact .pure ((hc.rep0 hd).mono fun k hk=>⟨hok k hk,rfl⟩)
 |nils=>intro hc;obtain rfl:=hc.nils_inv;exact .pure (.none _ _ (fun _=>rfl) (by unfold maxLen;omega))
 |iptr e o=>
  intro hc
  obtain⟨b,off,f,rfl,h1,h2,h3⟩:=hc.iptr_inv
  exact .iptr e o b off f (hok b h1) h2 fun j hj=>(h3 j hj).mono fun k hk=>⟨hok k hk,rfl⟩
 |agg cs cs' hl hcs ih=>
  intro hc
  obtain⟨vs,rfl,h1,h2⟩:=hc.agg_inv
  exact .agg _ _ (by omega) fun i hi=>ih i (by omega) (h2 i (by omega))
 |tup cs cs' hl hcs ih=>
  intro hc
  obtain⟨vs,rfl,h1,h2⟩:=hc.tup_inv
  exact .tup _ _ (by omega) fun i hi=>ih i (by omega) (h2 i (by omega))
 |clo f cs cs' hl hcs ih=>
  intro hc
  obtain⟨vs,rfl,h1,h2⟩:=hc.clo_inv
  exact .clo _ _ _ (by omega) fun i hi=>ih i (by omega) (h2 i (by omega))
 |ifc T d d' hd ih=>
  intro hc
  obtain⟨v',rfl,h1⟩:=hc.ifc_inv
  exact .ifc _ _ _ (ih h1)
 |undef d=>intro hc;exact .any _
 |gv k=>intro hc;obtain⟨x,ad,rfl,h1,h2,h3⟩:=hc.gv_inv;exact .gv k x ad h1 (hok k h2) h3
 |junk=>intro hc;exact .junk _ hc.junk_inv
theorem Sim.ren (s:Sim P w0 S A N ρ t h a w){g:Id→Id}(hr:Ren h g h'){N':Nat}{a':Act}{t':List (Nat×D)}(hd:a'.defers=S.dfs)(hs:a'.tmps.size=N')
  (ht:∀k d',look t' k=some d'→k<N'∧∃d,C ρ (Live h) (okOf A ρ h w) w d (a'.tmps.getD k undef)∧Rn h g h' d d'):Sim P w0 S A N' (fun b=>ρ (g b)) t' h' a' w∧∀k,okOf A ρ h w k→okOf A (fun b=>ρ (g b)) h' w k:=by
 have hok:∀k,okOf A ρ h w k→okOf A (fun b=>ρ (g b)) h' w k:=by
  rintro k ⟨hk,hm⟩
  refine⟨hk,fun b x' hx hmu=>?_⟩
  obtain⟨x,h1,h2⟩:=hr.blk b x' hx
  exact hm _ x h1 (h2.live.2 hmu)
 refine⟨⟨s.base,s.inS,s.fr,hd,hs,fun k d' hk=>?_,fun b x' hx=>?_,fun b x' hx hl=>?_,fun b c x' y' hx hy hlx hly he=>?_,s.gl⟩,hok⟩
 ·obtain⟨h1,d,h2,h3⟩:=ht k d' hk
  exact⟨h1,s.rn hok h3 h2⟩
 ·obtain⟨x,h1,h2⟩:=hr.blk b x' hx
  have hb:=s.blk _ x h1
  cases h2 with
  |var T cs cs' hl hc=>
   obtain⟨c,c1,c2,c3⟩:=hb
   exact⟨c,c1,by omega,fun j hj=>s.rn hok (hc j (by omega)) (c3 j (by omega))⟩
  |row E l l' hl hc=>
   obtain⟨c,c1,c2,c3,c4,c5,c6,c7,c8,c9⟩:=hb
   refine⟨c,c1,c2,by rw[←hl];exact c3,c4,c5,c6,c7,fun e he=>?_,fun i j hi hj=>?_⟩
   ·obtain⟨i,hi,rfl⟩:=bW he
    exact((hc i (by omega)).2 _ (c8 _ (bj (by omega)))).1
   ·exact s.rn hok (((hc i (by omega)).2 _ (c8 _ (bj (by omega)))).2 j hj) (c9 i j (by omega) hj)
  |froz l=>exact Rep.mono hb fun k hk=>⟨hok k hk,rfl⟩
  |fvar cs=>exact Rep.mono hb fun k hk=>⟨hok k hk,rfl⟩
  |gone x=>trivial
 ·obtain⟨x,h1,h2⟩:=hr.blk b x' hx
  exact s.own _ x h1 (h2.live.1 hl)
 ·obtain⟨x,h1,h2⟩:=hr.blk b x' hx
  obtain⟨y,h3,h4⟩:=hr.blk c y' hy
  exact hr.inj b c x' y' hx hy hlx hly (s.inj _ _ x y h1 h3 (h2.live.1 hlx) (h4.live.1 hly) he)
theorem G2 {σ σ':St}{g:Id→Id}(hr:Ren σ.h g σ'.h)(ht:∀k d',look σ'.t k=some d'→∃d,look σ.t k=some d∧Rn σ.h g σ'.h d d')(hK:∀b,K b→Live σ.h b→g b=b∧Live σ'.h b)(hn:∀b:Id,σ'.n≤b.1→look σ'.h b=none):Weak P N K σ σ':=by
 rintro w0 S A ρ0 a w ⟨_,hK0,ρ,hρ,s⟩
 refine⟨hn,fun b hb=>(hK b hb (hK0 b hb)).2,fun b=>ρ (g b),fun b hb=>by show ρ (g b)=_;rw[(hK b hb (hK0 b hb)).1];exact hρ b hb,(s.ren hr s.defers s.size fun k d' hk=>?_).1⟩
 obtain⟨d,h1,h2⟩:=ht k d' hk
 exact⟨(s.tmp k d h1).1,d,(s.tmp k d h1).2,h2⟩
theorem G1 {σ:St}(bs:List Id):Weak P N K σ ⟨σ.t,puts (frz σ.h bs) σ.h,σ.n⟩:=by
 rintro w0 S A ρ0 a w ⟨h1,hK0,ρ,hρ,s⟩
 refine⟨fun b hb=>tQ (h1 b hb),fun b hb=>lX (hK0 b hb),ρ,hρ,(s.frz_ok bs).1⟩
def s6 (P:Program)(σ:St):ResultVar→Option D
 | .tmp k=>some ((look σ.t k).getD .undef)
 | .cell k T=>(look σ.t k).bind fun d=>if eS d then dy P σ.h T d else none
def one (ds:List D):D:=match ds with|[d]=>d|ds=>.tup ds
def ph (P:Program)(rs:List ResultVar)(K:Id→Prop)(σ:St)(r:D)(hout:HL):Prop:=
 ∃ds bs g,rs.mapM (s6 P σ)=some ds∧Rn (puts (frz σ.h bs) σ.h) g hout (one ds) r∧Ren (puts (frz σ.h bs) σ.h) g hout∧∀b,K b→Live σ.h b→g b=b∧Live hout b
theorem Sim.results (s:Sim P w0 S A N ρ t h a w){n:Nat}{f:ResultVar→Sem Value}(hf:∀r,f r=(match r with| .tmp t=>pure (a.tmps.getD t undef)| .cell x T=>do loadVar T (←asAddr (a.tmps.getD x undef)))):∀{rs:List ResultVar} {ds:List D},rs.mapM (s6 P ⟨t,h,n⟩)=some ds→
  ∃vs:List Value,(rs.mapM f).run P w= .ok vs w∧ds.length=vs.length∧∀i,i<ds.length→C ρ (Live h) (okOf A ρ h w) w (ds.getD i .undef) (vs.getD i undef)
 |[],ds,hd=>by
  simp at hd
  subst hd
  exact⟨[],by simp,rfl,by simp⟩
 |r::rs,ds,hd=>by
  simp only[iw,qf,bE,Option.pure_def,aw] at hd
  obtain⟨d,h1,ds',h2,rfl⟩:=hd
  obtain⟨vs,r1,r2,r3⟩:=s.results hf h2
  have hv:∃v,(f r).run P w= .ok v w∧C ρ (Live h) (okOf A ρ h w) w d v:=by
   rw[hf]
   cases r with
   |tmp k=>
    simp only[s6,aw] at h1
    subst h1
    refine⟨a.tmps.getD k undef,rfl,?_⟩
    cases hk:look t k with
    |none=>exact .any _
    |some d=>exact(s.tmp k d hk).2
   |cell k T=>
    simp only[s6] at h1
    obtain⟨d0,q1,q2⟩:=bE.1 h1
    split at q2
    ·rename_i hp
     have hc:=(s.tmp k d0 q1).2
     obtain⟨ad,e⟩:=hc.isPtr_inv hp
     obtain⟨v,l1,l2⟩:=s.load q2 hc
     refine⟨v,?_,l2⟩
     show ((do loadVar T (←asAddr (a.tmps.getD k undef))):Sem Value).run P w= .ok v w
     rw[e] at l1⊢
     simpa[Instr.loadAt,Instr.sureAddr,asAddr] using l1
    ·cases q2
  obtain⟨v,v1,v2⟩:=hv
  refine⟨v::vs,by simp[v1,r1],by simp[r2],fun i hi=>?_⟩
  cases i with
  |zero=>simpa using v2
  |succ i=>simpa using r3 i (by simpa using hi)
def L1 (tmps:Array Value):ResultVar→Sem Value
 | .tmp t=>pure (tmps.getD t undef)
 | .cell x T=>do loadVar T (←asAddr (tmps.getD x undef))
theorem s7 (fn:Func)(tmps:Array Value):results fn tmps=(fn.results.mapM (L1 tmps)>>=fun vs=>pure (if h:vs.size=1 then vs[0] else .tuple vs)):=rfl
theorem FJ {L:Id→Prop}{ok:Nat→Prop}{ds:List D}{vs:List Value}(hl:ds.length=vs.length)(hc:∀i,i<ds.length→C ρ L ok w (ds.getD i .undef) (vs.getD i undef)):C ρ L ok w (one ds) (if h:vs.toArray.size=1 then vs.toArray[0] else .tuple vs.toArray):=by
 match ds,vs,hl with
 |[],[],_=>exact .tup [] #[] rfl fun i hi=>by simp at hi
 |[d],[v],_=>simpa[one] using hc 0 (by simp)
 |d::d'::ds,v::v'::vs,hl=>
  simp only[one]
  rw[dif_neg (by simp)]
  refine .tup _ _ (by simpa using hl) fun i hi=>?_
  have:=hc i hi
  rw[ke]
  exact this
def t8 (ds:List D):List (Nat×D):=(ds.zipIdx 0).map fun x=>(x.2,x.1)
theorem pJ:∀(ds:List D) (k b:Nat),look ((ds.zipIdx k).map fun x=>(x.2,x.1)) b=if k≤b then ds[b-k]? else none
 |[],k,b=>by simp[look]
 |x::bs,k,b=>by
  simp only[mm,bK,look,pJ bs (k+1) b]
  by_cases h1:b=k
  ·subst h1;simp
  ·by_cases h2:k≤b
   ·rw[if_neg h1,if_pos (by omega),if_pos h2,show b-k=(b-(k+1))+1 by omega]
    rfl
   ·rw[if_neg h1,if_neg (by omega),if_neg h2]
def bnd:Nat→D→Prop
 |0,_=>True
 |k+1,.lst l=>l.length≤9223372036854775807∧∀e∈l,∀c∈e.cells,bnd k c
 |k+1,.agg cs=>∀c∈cs,bnd k c
 |k+1,.tup cs=>∀c∈cs,bnd k c
 |k+1,.box cs=>∀c∈cs,bnd k c
 |_+1,_=>True
theorem Rep.bnd {ok:Nat→Prop}{w:World}:∀(k:Nat) {d:D} {v:Value},Rep ok w d v→Am.bnd k d
 |0,_,_,_=>trivial
 |k+1,d,v,h=>by
  cases h with
  |none a cap ha hcap=>exact⟨by simp,fun e he=>by cases he⟩
  |lst l n b off cap f hn hcap hmax hok hsz hpos hc hr=>
   have hm:maxLen=9223372036854775807:=rfl
   refine⟨by omega,fun e he c hc'=>?_⟩
   obtain⟨i,hi,rfl⟩:=bW he
   obtain⟨j,hj,rfl⟩:=bW hc'
   have hs:=(hsz _ he).1
   exact(hr i j (by omega) (by omega)).bnd k
  |agg cs vs hl h=>intro c hc;obtain⟨i,hi,rfl⟩:=bW hc;exact(h i hi).bnd k
  |tup cs vs hl h=>intro c hc;obtain⟨i,hi,rfl⟩:=bW hc;exact(h i hi).bnd k
  |box cs b off f hok hpos hc hr=>intro c hc';obtain⟨i,hi,rfl⟩:=bW hc';exact(hr i hi).bnd k
  |_=>trivial
theorem C.bnd {ρ:Id→Pl}{L:Id→Prop}{ok:Nat→Prop}{w:World}:∀(k:Nat) {d:D} {v:Value},C ρ L ok w d v→Am.bnd k d
 |0,_,_,_=>trivial
 |k+1,d,v,h=>by
  cases h with
  |pure h=>exact h.bnd (k+1)
  |agg cs vs hl h=>intro c hc;obtain⟨i,hi,rfl⟩:=bW hc;exact(h i hi).bnd k
  |tup cs vs hl h=>intro c hc;obtain⟨i,hi,rfl⟩:=bW hc;exact(h i hi).bnd k
  |_=>trivial
def bndB (k:Nat):Blk→Prop
 | .var _ cs=>∀c∈cs,bnd k c
 | .row _ l=>l.length≤9223372036854775807∧∀e∈l,∀c∈e.cells,bnd k c
 |_=>True
theorem Sim.bndB (s:Sim P w0 S A N ρ t h a w)(k:Nat){b:Id}{x:Blk}(hb:look h b=some x):Am.bndB k x:=by
 have hx:=s.blk b x hb
 cases x with
 |var T cs=>
  obtain⟨c,h1,h2,h3⟩:=hx
  intro e he
  obtain⟨i,hi,rfl⟩:=bW he
  exact(h3 i hi).bnd k
 |row E l=>
  obtain⟨c,h1,h2,h3,h4,h5,h6,h7,h8,h9⟩:=hx
  have hm:maxLen=9223372036854775807:=rfl
  refine⟨by omega,fun e he d hd=>?_⟩
  obtain⟨i,hi,rfl⟩:=bW he
  obtain⟨j,hj,rfl⟩:=bW hd
  have hs:=(h8 _ he).1
  exact(h9 i j hi (by omega)).bnd k
 |_=>trivial
theorem zb {f : FuncId} {fn : Func} {c : Code} (hf : P.funcs[f]? = some fn) (hb : fn.body = some c) (hname : (fn.name == "runtime.NumGoroutine") = false) {N : Nat} {rs : List ResultVar} (hN : fn.ntmps = N) (hrs : fn.results.toList = rs) {ds : List D} {hin : HL} {n0 : Nat} {r : D} {hout : HL}
  (hl:ds.length≤N) (hn0:∀b:Id,n0≤b.1→look hin b=none)
  (hF:(∀d∈ds,bnd 6 d)→(∀b x,look hin b=some x→bndB 6 x)→∃e σ,Brings P N (Live hin) c ⟨t8 ds,hin,n0⟩ e σ∧(gY P N (Live hin) σ→(e= .normal∨e= .ret)∧ph P rs (Live hin) σ r hout)):Con P f ds hin r hout:=by
 subst hN hrs
 refine⟨⟨fn,hf,by rw[hb];rfl,hname⟩,fun w A ρ vs s hlen hv=>?_⟩
 obtain⟨e,σ,hA,hfin⟩:=hF (fun d hd=>by
  obtain⟨i,hi,rfl⟩:=bW hd
  exact(hv i hi).bnd 6) (fun b x hx=>s.bndB 6 hx)
 refine calls_of_wp hf hb ?_
 have hs0:SimS P w (qv ρ hin) A fn.ntmps ρ (Live hin) ⟨t8 ds,hin,n0⟩ {tmps:=vs++Array.replicate (fn.ntmps-vs.size) undef,defers:=[]} w:=by
  refine⟨hn0,fun b hb=>hb,ρ,fun b hb=>rfl,s.base,s.inS,s.fr,rfl,by simp;omega,fun k d hk=>?_,s.blk,s.own,s.inj,s.gl⟩
  have hk2:look ((ds.zipIdx 0).map fun x=>(x.2,x.1)) k=some d:=hk
  rw[pJ] at hk2
  simp only[aW,if_true,Nat.sub_zero] at hk2
  have hk':k<ds.length:=(aR.1 hk2).1
  refine⟨by omega,?_⟩
  have:=hv k hk'
  rw[aq,hk2] at this
  have hkv:k<vs.size:=by omega
  simpa[bJ,Array.getElem?_append,hkv] using this
 refine wp_mono (hA _ _ _ ρ _ w hs0) ?_
 clear hA
 rintro e' a' w' ⟨rfl,hs1⟩
 obtain⟨he,ds',bs,g,hrds,hrn,hren,hkeep⟩:=hfin ⟨_,_,_,_,_,_,hs1⟩
 clear hfin
 obtain⟨hn,hK,ρ1,hρ1,s1⟩:=hs1
 obtain⟨vs',r1,r2,r3⟩:=s1.results (f:=L1 a'.tmps) (fun r=>by cases r<;>rfl) hrds
 have hone:=FJ r2 r3
 have hrun:(results fn a'.tmps).run P w'= .ok (if h:vs'.toArray.size=1 then vs'.toArray[0] else .tuple vs'.toArray) w':=by
  rw[s7,Array.mapM_eq_mapM_toList,Sem.run_bind,map_eq_pure_bind,Sem.run_bind,r1]
  rfl
 generalize (if h:vs'.toArray.size=1 then vs'.toArray[0] else Value.tuple vs'.toArray)=u at *
 obtain⟨q1,q2,q3⟩:=s1.frz_ok bs
 have hcu:C ρ1 (Live (puts (frz σ.h bs) σ.h)) (okOf A ρ1 (puts (frz σ.h bs) σ.h) w') w' (one ds') u:=hone.mono (fun b hb=>⟨lX hb,rfl⟩) (fun k hk=>⟨⟨hk.1,fun b y hy hmu=>by
  rcases q2 b with q|⟨y',z1,z2⟩
  ·rw[q] at hy;exact hk.2 b y hy hmu
  ·rw[z2] at hy
   obtain rfl:=ar hy
   rw[(kl z1).2.1] at hmu;cases hmu⟩,rfl⟩)
 obtain⟨s3,hok3⟩:=q1.ren (N':=0) (a':=ec) (t':=[]) hren rfl rfl (fun k d' hk=>by cases hk)
 have fin:∃v ρ'',Ending.returned u= .returned v∧(∀b,Live hin b→ρ'' b=ρ b∧Live hout b)∧Sim P w (qv ρ hin) A 0 ρ'' [] hout ec w'∧C ρ'' (Live hout) (okOf A ρ'' hout w') w' r v:=
  ⟨u,fun b=>ρ1 (g b),rfl,fun b hb=>⟨by show ρ1 (g b)=_;rw[(hkeep b hb (hK b hb)).1];exact hρ1 b hb,(hkeep b hb (hK b hb)).2⟩,s3,q1.rn hok3 hrn hcu⟩
 rcases he with rfl|rfl
 ·exact⟨s1.defers,u,hrun,fin⟩
 ·exact⟨s1.defers,u,hrun,fin⟩
end Go.Proofs.YtpefhoohfkeflacGreatDoor.Am
namespace Go.Proofs.YtpefhoohfkeflacGreatDoor.Am
open Go Go.RowKit
variable {P:Program} {t:List (Nat×D)} {h:HL} {n:Nat}
theorem xi {k:Nat}{x:Operand}{l:List (Nat×Operand)}{d:D}{ds:List (Nat×D)}(hx:aX t x=some d)(hl:evalPs t l=some ds):evalPs t ((k,x)::l)=some ((k,d)::ds):=by
 simp only[evalPs] at hl⊢
 simp[hx,hl]
theorem xh {x:Operand}{l:List Operand}{d:D}{ds:List D}(hx:aX t x=some d)(hl:evalDs t l=some ds):evalDs t (x::l)=some (d::ds):=by
 simp only[evalDs] at hl⊢
 simp[hx,hl]
theorem zd {place:Nat→Option (Nat×Nat)}{cs cs' r:List D}{i off size:Nat}{d:D}{l:List (Nat×D)}(hp:place i=some (off,size))(hw:d.whole=true)(hs:d.cells.length=size)(hl:off+size≤cs.length)(hc:a8 cs off d.cells=cs')(hr:jd place cs' l=some r):jd place cs ((i,d)::l)=some r:=by
 subst hs hc
 simp only[jd,hp]
 rw[if_pos ⟨hw,by simp,hl⟩]
 exact hr
theorem GJ {T:TypeId}{cs:List D}{o:Nat}{d:D}(ha:isAggT P T=some false)(hd:cs[o]?=some d):b7 P T cs o=some d:=by simp[b7,ha,hd]
theorem J5 {T:TypeId}{cs cs':List D}{o s:Nat}(ha:isAggT P T=some true)(hs:sizeT P T=some s)(hl:o+s≤cs.length)(hd:(cs.drop o).take s=cs'):b7 P T cs o=some (.agg cs'):=by simp[b7,ha,hs,hl,hd]
theorem q8 (h:HL)(d:D):(fwd h d).one=d.one:=by
 cases d
 case ref b=>simp only[fwd];split<;>rfl
 case ptr b o=>
  simp only[fwd]
  split
  ·rfl
  ·split<;>rfl
  ·rfl
 case eptr b i o=>simp only[fwd];split<;>rfl
 case vref b o n=>simp only[fwd];split<;>rfl
 all_goals simp[fwd,D.one]
theorem CH (h:HL)(d:D):(fwd h d).cells=d.cells.map (fwd h):=by
 by_cases hd:d.one=true
 ·rw[cQ hd,cQ (by rw[q8];exact hd)];rfl
 ·cases d with
  |agg cs=>simp only[fwd,D.cells,fh]
  |tup cs=>simp[fwd,D.cells]
  |undef=>simp[fwd,D.cells]
  |_=>exact absurd rfl hd
theorem BK (d:D):(nz0 d).one=d.one:=by cases d<;>rfl
def oy (h:HL)(d:D):D:=nzE (fwd h d)
theorem lV (h:HL)(d:D):(oy h d).cells=d.cells.map fun c=>nz0 (fwd h c):=by
 unfold oy
 rw[gH,CH,ep]
 rfl
theorem Fl {h:HL}{s:Nat}{d:D}(hw:wfC s d):wfC s (oy h d):=by
 refine⟨by rw[lV,az];exact hw.1,?_⟩
 have:=hw.2
 rw[aM] at this⊢
 rw[lV]
 intro x hx
 obtain⟨y,hy,rfl⟩:=aB.1 hx
 rw[BK,q8]
 exact this y hy
def dE (h:HL):Blk→Blk
 | .var T cs=>.var T (cs.map fun c=>nz0 (fwd h c))
 | .row E l=>.row E (l.map (oy h))
 |x=>x
theorem tN (h:HL)(x:Blk):(dE h x).mutable=x.mutable:=by cases x<;>rfl
theorem sJ (h:HL)(x:Blk):(dE h x).live=x.live:=by cases x<;>rfl
section
variable {w0:World} {S:SD} {A:Nat→Prop} {N:Nat} {ρ:Id→Pl} {a:Act} {w:World} {h':HL}
theorem Sim.last (s:Sim P w0 S A N ρ t h a w){b:Id}{x:Blk}(hb:look h b=some x):Sim P w0 S A N ρ t (put b (dE h x) h) a w:=by
 have hlv:∀b',Live h b'→Live (put b (dE h x) h) b'∧ρ b'=ρ b':=fun b' hb'=>⟨hb'.put,rfl⟩
 have key:∀b' y,look (put b (dE h x) h) b'=some y→(b'=b∧y=dE h x)∨(b'≠b∧look h b'=some y):=by
  intro b' y hy
  rw[af] at hy
  by_cases e:b'=b
  ·rw[if_pos e] at hy;exact .inl ⟨e,(ar hy).symm⟩
  ·rw[if_neg e] at hy;exact .inr ⟨e,hy⟩
 have hok:∀k,okOf A ρ h w k→okOf A ρ (put b (dE h x) h) w k∧w.heap[k]?=w.heap[k]?:=by
  rintro k ⟨hk,hm⟩
  refine⟨⟨hk,fun b' y hy hmu=>?_⟩,rfl⟩
  rcases key b' y hy with⟨rfl,rfl⟩|⟨_,hy⟩
  ·rw[tN] at hmu;exact hm b' x hb hmu
  ·exact hm b' y hy hmu
 have old:∀b' y,look (put b (dE h x) h) b'=some y→y.live=true→∃z,look h b'=some z∧z.live=true:=by
  intro b' y hy hl
  rcases key b' y hy with⟨rfl,rfl⟩|⟨_,hy⟩
  ·rw[sJ] at hl;exact⟨x,hb,hl⟩
  ·exact⟨y,hy,hl⟩
 refine s.step s.fr hlv hok (fun b' y hy=>?_) (ax _) (fun b1 b2 y1 y2 hy1 hy2 hl1 hl2 he=>?_)
 ·rcases key b' y hy with⟨rfl,rfl⟩|⟨e,hy⟩
  ·refine .inr ⟨?_,fun hl=>s.own b' x hb (by rw[sJ] at hl;exact hl)⟩
   have hbk:=s.blk b' x hb
   cases x with
   |var T cs=>
    obtain⟨c,h1,h2,h3⟩:=hbk
    refine⟨c,h1,by simpa using h2,fun j hj=>?_⟩
    have hj':j<cs.length:=by simpa using hj
    have:=(s.fwd (h3 j hj')).nz0.mono hlv hok
    simpa[aq,hj'] using this
   |row E l=>
    obtain⟨c,h1,h2,h3,h4,h5,h6,h7,h8,h9⟩:=hbk
    refine⟨c,h1,h2,by simpa using h3,h4,h5,h6,h7,fun e he=>?_,fun i j hi hj=>?_⟩
    ·obtain⟨e0,he0,rfl⟩:=aB.1 he
     exact Fl (h8 e0 he0)
    ·have hi':i<l.length:=by simpa using hi
     have hj':j<(l.getD i .undef).cells.length:=by rw[(h8 _ (bj hi')).1];exact hj
     have:=(s.fwd (h9 i j hi' hj)).nz0.mono hlv hok
     have e1:(l.map (oy h)).getD i .undef=oy h (l.getD i .undef):=by simp[aq,hi']
     have e2:((l.getD i .undef).cells.map fun c=>nz0 (Am.fwd h c)).getD j .undef=nz0 (Am.fwd h ((l.getD i .undef).cells.getD j .undef)):=by
      rw[aq,be,am hj',aq (i:=j),am hj'];rfl
     rw[e1,lV,e2]
     exact this
   |_=>exact BlkOK.mono hbk (Live.of_look hb) hlv hok (fun _=>rfl)
  ·exact .inl ⟨hy,fun _=>rfl⟩
 ·obtain⟨z1,a1,a2⟩:=old b1 y1 hy1 hl1
  obtain⟨z2,c1,c2⟩:=old b2 y2 hy2 hl2
  exact s.inj b1 b2 z1 z2 a1 c1 a2 c2 he
def yX:Blk→List Id
 | .var _ cs=>cs.flatMap al
 | .row _ l=>l.flatMap fun e=>al e
 |_=>[]
theorem l7 {α β:Type}{f g:α→β}:∀{l:List α},(∀x∈l,f x=g x)→l.map f=l.map g
 |[],_=>rfl
 |x::l,hx=>by simp only[bK,hx x (bk ..),l7 fun y hy=>hx y (bA _ hy)]
theorem xO {x:Blk}(hb:∀b∈yX x,look h b=look h' b):dE h x=dE h' x:=by
 cases x with
 |var T cs=>simp only[dE];rw[l7 fun c hc=>by rw[pA (h:=h) (h':=h') fun b h1=>hb b (dZ.2 ⟨c,hc,h1⟩)]]
 |row E l=>simp only[dE];rw[l7 (f:=oy h) (g:=oy h') fun c hc=>by unfold oy;rw[pA (h:=h) (h':=h') fun b h1=>hb b (dZ.2 ⟨c,hc,h1⟩)]]
 |_=>rfl
theorem FN {o:Oper}{b:Id}{x:Blk}{d:D}{u1:HL}{f:List Nat}(hb:look h b=some x)(hf:b.1∈f∧∀c∈yX x,c.1∈f)(hd:OpS P N o t (puts [(b,dE h x)] h) d u1 f):OpS P N o t h d ([(b,dE h x)]++u1) f:=by
 intro t' h' ht ha w0 S A ρ a w s
 have hb':look h' b=some x:=by rw[←ha b hf.1];exact hb
 have e:dE h x=dE h' x:=xO fun c hc=>ha c (hf.2 c hc)
 rw[bD]
 have s1:Sim P w0 S A N ρ t' (puts [(b,dE h x)] h') a w:=by rw[e];exact s.last hb'
 refine Reg.wp_exit_mono (K:=tE P w0 S A N ρ t' (puts [(b,dE h x)] h') (puts u1 (puts [(b,dE h x)] h')) a o.dst d) ?_ (hd t' _ ht (ha.puts _) w0 S A ρ a w s1)
 rintro a' w' ⟨v,ρ2,rfl,g1,g2,g3⟩
 exact⟨v,ρ2,rfl,fun c hc=>g1 c (Live.put hc),g2,g3⟩
theorem pQ {o:Oper}{d:D}{u:HL}{f:List Nat}(he:∀b,look h b=look h' b)(hd:OpS P N o t h d u f):OpS P N o t h' d u f:=
 fun t' h2 ht ha=>hd t' h2 ht fun b hb=>(he b).trans (ha b hb)
end
end Go.Proofs.YtpefhoohfkeflacGreatDoor.Am
namespace Go.Proofs.YtpefhoohfkeflacGreatDoor.Am
open Go Go.RowKit
structure Txn where
 a:Int
 b:Int
 s:Int
 e:Int
structure Led where
 b:List Int
 f:Int
structure Vtx where
 round:Int
 author:Int
 parents:List Int
 digest:Int
structure Ppl where
 v:Vtx
 members:List Int
structure Wrl where
 com:List Int
 lead:List Int
 bad:Int
 views:List (List Vtx)
 props:List Ppl
structure Evt where
 kind:Int
 a:Int
 b:Int
 v:Vtx
structure Slt where
 round:Int
 author:Int
deriving DecidableEq
structure VtxO where
 round:Int
 author:Int
 parents:Option Nat
 digest:Int
structure PplM where
 v:Vtx
 members:Option Nat
structure PplO where
 v:VtxO
 members:Option Nat
structure EvtO where
 kind:Int
 a:Int
 b:Int
 v:VtxO
structure Nod where
 v:Vtx
 index:Int
 parents:Option Nat
structure Odd where
 v:Vtx
 wave:Int
inductive Ty where
 |int (k:IntKind)|bool|str|lst (t:Ty)|txn|led|vtx|ppl|wrl|evt|slt|odd|ob (t:Ty)
 |hr (k:Nat)|hp (k:Nat)|vtxo (k:Nat)|pplm (k:Nat)|pplo (k k':Nat)|nod (k:Nat)|evto (k:Nat)
 deriving DecidableEq
abbrev Ty.den:Ty→Type
 | .int _=>Int
 | .bool=>Bool
 | .str=>ByteArray
 | .lst t=>List t.den
 | .txn=>Txn
 | .led=>Led
 | .vtx=>Vtx
 | .ppl=>Ppl
 | .wrl=>Wrl
 | .evt=>Evt
 | .slt=>Slt
 | .odd=>Odd
 | .ob t=>Option t.den
 | .hr _=>Option Nat
 | .hp _=>Option Nat
 | .vtxo _=>VtxO
 | .pplm _=>PplM
 | .pplo ..=>PplO
 | .evto _=>EvtO
 | .nod _=>Nod
def fW (l:List Int):D:=.lst (l.map (.int .i64))
def iJ (v:Vtx):List D:=[.int .i64 v.round,.int .i64 v.author,fW v.parents,.int .i64 v.digest]
def J8 (l:List Vtx):D:=.lst (l.map fun v=>.agg (iJ v))
def C5 (p:Ppl):List D:=iJ p.v++[fW p.members]
def mS (k:Nat):Option Nat→D
 |some i=>.ref (k,i)
 |none=>.lst []
def qu (k:Nat):Option Nat→D
 |some i=>.ptr (k,i) 0
 |none=>.nilp
def ai:(t:Ty)→t.den→D
 | .int k,n=>.int k n
 | .bool,b=>.bool b
 | .str,s=>.str s
 | .lst t,xs=>.lst (xs.map (ai t))
 | .txn,x=>.agg [.int .i64 x.a,.int .i64 x.b,.int .i64 x.s,.int .i64 x.e]
 | .led,x=>.agg [fW x.b,.int .i64 x.f]
 | .vtx,x=>.agg (iJ x)
 | .ppl,x=>.agg (C5 x)
 | .wrl,x=>.agg [fW x.com,fW x.lead,.int .i64 x.bad,.lst (x.views.map J8),.lst (x.props.map fun p=>.agg (C5 p))]
 | .evt,x=>.agg ([.int .i64 x.kind,.int .i64 x.a,.int .i64 x.b]++iJ x.v)
 | .slt,x=>.agg [.int .i64 x.round,.int .i64 x.author]
 | .odd,x=>.agg (iJ x.v++[.int .i64 x.wave])
 | .ob t,some x=>.box (ai t x).cells
 | .ob _,none=>.nilp
 | .hr k,o=>mS k o
 | .hp k,o=>qu k o
 | .vtxo k,x=>.agg [.int .i64 x.round,.int .i64 x.author,mS k x.parents,.int .i64 x.digest]
 | .pplm k,x=>.agg (iJ x.v++[mS k x.members])
 | .pplo k k',x=>.agg [.int .i64 x.v.round,.int .i64 x.v.author,mS k x.v.parents,.int .i64 x.v.digest,mS k' x.members]
 | .evto k,x=>.agg [.int .i64 x.kind,.int .i64 x.a,.int .i64 x.b,.int .i64 x.v.round,.int .i64 x.v.author,mS k x.v.parents,.int .i64 x.v.digest]
 | .nod k,x=>.agg (iJ x.v++[.int .i64 x.index,mS k x.parents])
inductive V where
 |int (k:IntKind) (n:Int)
 |bool (b:Bool)
 |tt
 |ff
 |str (s:ByteArray)
 |lst (t:Ty) (xs:List t.den)
 |box (t:Ty) (x:t.den)
 |agg (cs:List V)
 |tup (cs:List V)
 |nilp
 |nils
 |nilf
 |nili
 |ifc (T:TypeId) (v:V)
 |clo (f:FuncId) (cs:List V)
 |ref (b:Nat)
 |ptr (b o:Nat)
 |eptr (b i o:Nat)
 |iptr (t:Ty) (x:t.den) (o:Nat)
 |vref (b o n:Nat)
 |aptr (b p i:Nat)
 |fref (k i:Nat)
 |fptr (k i o:Nat)
 |feptr (k i j o:Nat)
 |faptr (k i p j:Nat)
 |hro (k:Nat) (o:Option Nat)
 |hpo (k:Nat) (o:Option Nat)
 |obo (t:Ty) (o:Option t.den)
 |gp (g:Nat)
 |gv (g:Nat)
 |undef
 |junk
mutual
def V.toD:V→D
 | .int k n=>.int k n
 | .bool b=>.bool b
 | .tt=>.bool true
 | .ff=>.bool false
 | .str s=>.str s
 | .lst t xs=>.lst (xs.map (ai t))
 | .box t x=>.box (ai t x).cells
 | .agg cs=>.agg (ak cs)
 | .tup cs=>.tup (ak cs)
 | .nilp=>.nilp
 | .nils=>.nils
 | .nilf=>.nilf
 | .nili=>.nili
 | .ifc T v=>.ifc T v.toD
 | .clo f cs=>.clo f (ak cs)
 | .ref b=>.ref (b,0)
 | .ptr b o=>.ptr (b,0) o
 | .eptr b i o=>.eptr (b,0) i o
 | .iptr t x o=>.iptr (ai t x) o
 | .vref b o n=>.vref (b,0) o n
 | .aptr b p i=>.ptr (b,0) (p+i)
 | .fref k i=>.ref (k,i)
 | .fptr k i o=>.ptr (k,i) o
 | .feptr k i j o=>.eptr (k,i) j o
 | .faptr k i p j=>.ptr (k,i) (p+j)
 | .hro k o=>mS k o
 | .hpo k o=>qu k o
 | .obo t o=>ai (.ob t) o
 | .gp g=>.gp g
 | .gv g=>.gv g
 | .undef=>.undef
 | .junk=>.junk
def ak:List V→List D
 |[]=>[]
 |v::l=>v.toD::ak l
end
theorem cX:∀l:List V,ak l=l.map V.toD
 |[]=>rfl
 |v::l=>by simp[ak,cX l]
def enc:(t:Ty)→t.den→V
 | .int k,n=>.int k n
 | .bool,b=>.bool b
 | .str,s=>.str s
 | .lst t,xs=>.lst t xs
 | .txn,x=>.agg [.int .i64 x.a,.int .i64 x.b,.int .i64 x.s,.int .i64 x.e]
 | .led,x=>.agg [.lst (.int .i64) x.b,.int .i64 x.f]
 | .vtx,x=>.agg [.int .i64 x.round,.int .i64 x.author,.lst (.int .i64) x.parents,.int .i64 x.digest]
 | .ppl,x=>.agg [.int .i64 x.v.round,.int .i64 x.v.author,.lst (.int .i64) x.v.parents,.int .i64 x.v.digest,.lst (.int .i64) x.members]
 | .wrl,x=>.agg [.lst (.int .i64) x.com,.lst (.int .i64) x.lead,.int .i64 x.bad,.lst (.lst .vtx) x.views,.lst .ppl x.props]
 | .evt,x=>.agg [.int .i64 x.kind,.int .i64 x.a,.int .i64 x.b,.int .i64 x.v.round,.int .i64 x.v.author,.lst (.int .i64) x.v.parents,.int .i64 x.v.digest]
 | .slt,x=>.agg [.int .i64 x.round,.int .i64 x.author]
 | .odd,x=>.agg [.int .i64 x.v.round,.int .i64 x.v.author,.lst (.int .i64) x.v.parents,.int .i64 x.v.digest,.int .i64 x.wave]
 | .ob t,o=>.obo t o
 | .hr k,o=>.hro k o
 | .hp k,o=>.hpo k o
 | .vtxo k,x=>.agg [.int .i64 x.round,.int .i64 x.author,.hro k x.parents,.int .i64 x.digest]
 | .pplm k,x=>.agg [.int .i64 x.v.round,.int .i64 x.v.author,.lst (.int .i64) x.v.parents,.int .i64 x.v.digest,.hro k x.members]
 | .pplo k k',x=>.agg [.int .i64 x.v.round,.int .i64 x.v.author,.hro k x.v.parents,.int .i64 x.v.digest,.hro k' x.members]
 | .evto k,x=>.agg [.int .i64 x.kind,.int .i64 x.a,.int .i64 x.b,.int .i64 x.v.round,.int .i64 x.v.author,.hro k x.v.parents,.int .i64 x.v.digest]
 | .nod k,x=>.agg [.int .i64 x.v.round,.int .i64 x.v.author,.lst (.int .i64) x.v.parents,.int .i64 x.v.digest,.int .i64 x.index,.hro k x.parents]
theorem lT (l:List Int):l.map (ai (.int .i64))=l.map (D.int .i64):=rfl
theorem kW:∀(t:Ty) (x:t.den),(enc t x).toD=ai t x
 | .int _,_| .bool,_| .str,_| .lst _,_| .txn,_| .ob _,_| .hr _,_| .hp _,_=>by simp[enc,ai,V.toD,ak]
 | .led,x=>by simp[enc,ai,V.toD,ak,fW,lT]
 | .vtx,x| .vtxo _,x=>by simp[enc,ai,V.toD,ak,fW,lT,iJ]
 | .ppl,x| .pplm _,x| .pplo ..,x| .nod _,x| .odd,x=>by simp[enc,ai,V.toD,ak,fW,lT,iJ,C5]
 | .wrl,x=>by
  have:(fun g=>D.lst (List.map (ai .vtx) g))=J8:=funext fun g=>rfl
  have h2:(ai (.lst .vtx))=fun g=>D.lst (List.map (ai .vtx) g):=funext fun g=>rfl
  have h3:(ai .ppl)=fun p=>D.agg (C5 p):=funext fun g=>rfl
  simp only[enc,ai,V.toD,ak,fW,h2,h3,this]
  rfl
 | .evt,x| .evto _,x=>by simp[enc,ai,V.toD,ak,fW,lT,iJ]
 | .slt,x=>by simp[enc,ai,V.toD,ak]
def Ty.sz:Ty→Nat
 | .txn=>4
 | .led=>2
 | .vtx=>4
 | .ppl=>5
 | .wrl=>5
 | .evt=>7
 | .evto _=>7
 | .slt=>2
 | .odd=>5
 | .vtxo _=>4
 | .pplm _=>5
 | .pplo ..=>5
 | .nod _=>6
 |_=>1
def Ty.pure:Ty→Bool
 | .hr _| .hp _| .vtxo _| .pplm _| .pplo .. | .nod _| .evto _=>false
 |_=>true
theorem ou (k:Nat)(o:Option Nat):(mS k o).one=true∧(mS k o).cells=[mS k o]:=by cases o<;>exact⟨rfl,rfl⟩
theorem ot (k:Nat)(o:Option Nat):(qu k o).one=true∧(qu k o).cells=[qu k o]:=by cases o<;>exact⟨rfl,rfl⟩
theorem fR:∀(t:Ty) (x:t.den),wfC t.sz (ai t x)
 | .int _,_| .bool,_| .str,_| .lst _,_| .txn,_| .led,_| .vtx,_| .ppl,_| .wrl,_| .evt,_| .slt,_| .odd,_=>⟨rfl,rfl⟩
 | .ob _,some _| .ob _,none=>⟨rfl,rfl⟩
 | .hr k,o=>⟨by simp only[ai,(ou k o).2];rfl,by simp only[ai,(ou k o).2];simp[(ou k o).1]⟩
 | .hp k,o=>⟨by simp only[ai,(ot k o).2];rfl,by simp only[ai,(ot k o).2];simp[(ot k o).1]⟩
 | .vtxo _,⟨_,_,none,_⟩| .vtxo _,⟨_,_,some _,_⟩=>⟨rfl,rfl⟩
 | .pplm _,⟨_,none⟩| .pplm _,⟨_,some _⟩=>⟨rfl,rfl⟩
 | .pplo ..,⟨⟨_,_,none,_⟩,none⟩| .pplo ..,⟨⟨_,_,some _,_⟩,none⟩| .pplo ..,⟨⟨_,_,none,_⟩,some _⟩| .pplo ..,⟨⟨_,_,some _,_⟩,some _⟩=>⟨rfl,rfl⟩
 | .nod _,⟨_,_,none⟩| .nod _,⟨_,_,some _⟩=>⟨rfl,rfl⟩
 | .evto _,⟨_,_,_,⟨_,_,none,_⟩⟩| .evto _,⟨_,_,_,⟨_,_,some _,_⟩⟩=>⟨rfl,rfl⟩
theorem ki {t:Ty}(h:t.pure=true)(x:t.den):wfE t.sz (ai t x):=by
 cases t
 case ob t=>cases x<;>exact⟨rfl,rfl⟩
 all_goals first|exact⟨rfl,rfl⟩|cases h
theorem Ty.sz_pos:∀t:Ty,0<t.sz:=by intro t;cases t<;>simp[Ty.sz]
def nl (t t':Ty)(xs:List t'.den):Option (List t.den):=
 match decEq t' t with
 |isTrue h=>some (h▸xs)
 |isFalse _=>match xs with
  |[]=>some []
  |_=>none
theorem ib {t t':Ty}{xs:List t'.den}{ys:List t.den}(h:nl t t' xs=some ys):xs.map (ai t')=ys.map (ai t):=by
 unfold nl at h
 split at h
 ·rename_i e _
  subst e
  simp only[aw] at h
  subst h
  rfl
 ·split at h
  ·simp only[aw] at h
   subst h
   rfl
  ·cases h
def wU (t t':Ty)(x:t'.den):Option t.den:=
 match decEq t' t with
 |isTrue h=>some (h▸x)
 |isFalse _=>none
theorem r6 {t t':Ty}{x:t'.den}{y:t.den}(h:wU t t' x=some y):ai t' x=ai t y:=by
 unfold wU at h
 split at h
 ·rename_i e _
  subst e
  simp only[aw] at h
  subst h
  rfl
 ·cases h
def qK:V→Option (List Int)
 | .lst t ps=>nl (.int .i64) t ps
 | .nils=>none
 |_=>none
theorem gQ {v:V}{l:List Int}(h:qK v=some l):v.toD=fW l:=by
 unfold qK at h
 split at h
 ·simp only[V.toD];rw[ib h];rfl
 ·cases h
 ·cases h
def u6 (k:Nat):V→Option (Option Nat)
 | .hro k' o=>bif Nat.beq k' k then some o else none
 | .fref k' i=>bif Nat.beq k' k then some (some i) else none
 | .lst _ []=>some none
 |_=>none
theorem kV {k:Nat}{v:V}{o:Option Nat}(h:u6 k v=some o):v.toD=mS k o:=by
 unfold u6 at h
 split at h
 ·rename_i k' _
  cases hb:Nat.beq k' k with
  |true=>rw[hb] at h;cases cq hb;cases h;rfl
  |false=>rw[hb] at h;cases h
 ·rename_i k' _
  cases hb:Nat.beq k' k with
  |true=>rw[hb] at h;cases cq hb;cases h;rfl
  |false=>rw[hb] at h;cases h
 ·simp only[aw] at h;subst h;rfl
 ·cases h
def Ko (k:Nat):V→Option (Option Nat)
 | .hpo k' o=>bif Nat.beq k' k then some o else none
 | .fptr k' i 0=>bif Nat.beq k' k then some (some i) else none
 | .nilp=>some none
 |_=>none
theorem Hv {k:Nat}{v:V}{o:Option Nat}(h:Ko k v=some o):v.toD=qu k o:=by
 unfold Ko at h
 split at h
 ·rename_i k' _
  cases hb:Nat.beq k' k with
  |true=>rw[hb] at h;cases cq hb;cases h;rfl
  |false=>rw[hb] at h;cases h
 ·rename_i k' _
  cases hb:Nat.beq k' k with
  |true=>rw[hb] at h;cases cq hb;cases h;rfl
  |false=>rw[hb] at h;cases h
 ·simp only[aw] at h;subst h;rfl
 ·cases h
def Kn (t:Ty):V→Option (Option t.den)
 | .obo t' o=>(match o with|none=>some none|some x=>(wU t t' x).map some)
 | .box t' x=>(wU t t' x).map some
 | .nilp=>some none
 |_=>none
theorem Hu {t:Ty}{v:V}{o:Option t.den}(h:Kn t v=some o):v.toD=ai (.ob t) o:=by
 unfold Kn at h
 split at h
 ·split at h
  ·simp only[aw] at h;subst h;rfl
  ·obtain⟨y,h1,rfl⟩:=bm.1 h
   simp only[V.toD,ai,r6 h1]
 ·obtain⟨y,h1,rfl⟩:=bm.1 h
  simp only[V.toD,ai,r6 h1]
 ·simp only[aw] at h;subst h;rfl
 ·cases h
def MK:(t:Ty)→V→Option t.den
 | .int k,.int k' n=>match decEq k' k with
  |isTrue _=>some n
  |isFalse _=>none
 | .bool,.bool b=>some b
 | .bool,.tt=>some true
 | .bool,.ff=>some false
 | .str,.str s=>some s
 | .lst t,.lst t' xs=>nl t t' xs
 | .txn,.agg [.int .i64 a,.int .i64 b,.int .i64 s,.int .i64 e]=>some ⟨a,b,s,e⟩
 | .led,.agg [b,.int .i64 f]=>(qK b).map fun b=>⟨b,f⟩
 | .vtx,.agg [.int .i64 r,.int .i64 a,ps,.int .i64 d]=>(qK ps).map fun ps=>⟨r,a,ps,d⟩
 | .ppl,.agg [.int .i64 r,.int .i64 a,ps,.int .i64 d,ms]=>(qK ps).bind fun ps=>(qK ms).map fun ms=>⟨⟨r,a,ps,d⟩,ms⟩
 | .wrl,.agg [c,l,.int .i64 b,.lst t3 vs,.lst t4 ps]=>(qK c).bind fun c=>(qK l).bind fun l=>(nl (.lst .vtx) t3 vs).bind fun vs=>(nl .ppl t4 ps).map fun ps=>⟨c,l,b,vs,ps⟩
 | .evt,.agg [.int .i64 k,.int .i64 x,.int .i64 y,.int .i64 r,.int .i64 a,ps,.int .i64 d]=>(qK ps).map fun ps=>⟨k,x,y,⟨r,a,ps,d⟩⟩
 | .slt,.agg [.int .i64 r,.int .i64 a]=>some ⟨r,a⟩
 | .odd,.agg [.int .i64 r,.int .i64 a,ps,.int .i64 d,.int .i64 w]=>(qK ps).map fun ps=>⟨⟨r,a,ps,d⟩,w⟩
 | .ob t,v=>Kn t v
 | .hr k,v=>u6 k v
 | .hp k,v=>Ko k v
 | .vtxo k,.agg [.int .i64 r,.int .i64 a,ps,.int .i64 d]=>(u6 k ps).map fun ps=>⟨r,a,ps,d⟩
 | .pplm k,.agg [.int .i64 r,.int .i64 a,ps,.int .i64 d,ms]=>(qK ps).bind fun ps=>(u6 k ms).map fun ms=>⟨⟨r,a,ps,d⟩,ms⟩
 | .pplo k k',.agg [.int .i64 r,.int .i64 a,ps,.int .i64 d,ms]=>(u6 k ps).bind fun ps=>(u6 k' ms).map fun ms=>⟨⟨r,a,ps,d⟩,ms⟩
 | .nod k,.agg [.int .i64 r,.int .i64 a,ps,.int .i64 d,.int .i64 i,ns]=>(qK ps).bind fun ps=>(u6 k ns).map fun ns=>⟨⟨r,a,ps,d⟩,i,ns⟩
 | .evto k,.agg [.int .i64 q,.int .i64 x,.int .i64 y,.int .i64 r,.int .i64 a,ps,.int .i64 d]=>(u6 k ps).map fun ps=>⟨q,x,y,⟨r,a,ps,d⟩⟩
 |_,_=>none
theorem u7 {t:Ty}{v:V}{x:t.den}(h:MK t v=some x):v.toD=ai t x:=by
 unfold MK at h
 split at h
 ·split at h
  ·rename_i e _
   subst e
   simp only[aw] at h
   subst h
   rfl
  ·cases h
 ·simp only[aw] at h;subst h;rfl
 ·simp only[aw] at h;subst h;rfl
 ·simp only[aw] at h;subst h;rfl
 ·simp only[aw] at h;subst h;rfl
 ·simp only[V.toD,ai,ib h]
 ·simp only[aw] at h;subst h;rfl
 ·obtain⟨b',h1,rfl⟩:=bm.1 h
  simp only[V.toD,ak,ai,gQ h1]
 ·obtain⟨b',h1,rfl⟩:=bm.1 h
  simp only[V.toD,ak,ai,iJ,gQ h1]
 ·obtain⟨b',h1,h⟩:=bE.1 h
  obtain⟨c',h2,rfl⟩:=bm.1 h
  simp[V.toD,ak,ai,iJ,C5,gQ h1,gQ h2]
 ·obtain⟨b',h1,h⟩:=bE.1 h
  obtain⟨c',h2,h⟩:=bE.1 h
  obtain⟨d',h3,h⟩:=bE.1 h
  obtain⟨e',h4,rfl⟩:=bm.1 h
  simp only[V.toD,ak,ai,gQ h1,gQ h2,ib h3,ib h4]
  rfl
 ·obtain⟨b',h1,rfl⟩:=bm.1 h
  simp[V.toD,ak,ai,iJ,gQ h1]
 ·simp only[aw] at h;subst h;rfl
 ·obtain⟨b',h1,rfl⟩:=bm.1 h
  simp[V.toD,ak,ai,iJ,gQ h1]
 ·exact Hu h
 ·exact kV h
 ·exact Hv h
 ·obtain⟨b',h1,rfl⟩:=bm.1 h
  simp only[V.toD,ak,ai,kV h1]
 ·obtain⟨b',h1,h⟩:=bE.1 h
  obtain⟨c',h2,rfl⟩:=bm.1 h
  simp[V.toD,ak,ai,iJ,gQ h1,kV h2]
 ·obtain⟨b',h1,h⟩:=bE.1 h
  obtain⟨c',h2,rfl⟩:=bm.1 h
  simp[V.toD,ak,ai,kV h1,kV h2]
 ·obtain⟨b',h1,h⟩:=bE.1 h
  obtain⟨c',h2,rfl⟩:=bm.1 h
  simp[V.toD,ak,ai,iJ,gQ h1,kV h2]
 ·obtain⟨b',h1,rfl⟩:=bm.1 h
  simp only[V.toD,ak,ai,kV h1]
 ·cases h
inductive VB where
 |var (T:TypeId) (cs:List V)
 |vari (T:TypeId) (pre:List V) (m:Nat) (t:Ty) (xs:List t.den) (post:List V)
 |row (E:TypeId) (t:Ty) (xs:List t.den)
 |lit (E:TypeId) (vs:List V)
 |froz (t:Ty) (xs:List t.den)
 |fvb (t:Ty) (x:t.den)
 |fvar (T:TypeId) (t:Ty) (xs:List t.den)
 |fvari (T:TypeId) (m:Nat) (t:Ty) (xss:List (List t.den))
 |frow (E:TypeId) (t:Ty) (xss:List (List t.den))
 |frowx (E:TypeId) (t:Ty) (xss:List (Option (List t.den)))
 |moved (k i:Nat)
 |gone
def rowX (E:TypeId)(t:Ty):Option (List t.den)→Blk
 |some xs=>.row E (xs.map (ai t))
 |none=>.gone
def VB.blks:VB→List Blk
 | .var T cs=>[.var T (ak cs)]
 | .vari T pre _ t xs post=>[.var T (ak pre++xs.map (ai t)++ak post)]
 | .row E t xs=>[.row E (xs.map (ai t))]
 | .lit E vs=>[.row E (ak vs)]
 | .froz t xs=>[.froz (xs.map (ai t))]
 | .fvb t x=>[.fvar (ai t x).cells]
 | .fvar T t xs=>xs.map fun x=>.var T (ai t x).cells
 | .fvari T _ t xss=>xss.map fun xs=>.var T (xs.map (ai t))
 | .frow E t xss=>xss.map fun xs=>.row E (xs.map (ai t))
 | .frowx E t xss=>xss.map (rowX E t)
 | .moved k i=>[.moved (k,i)]
 | .gone=>[.gone]
def VB.sgl:VB→Bool
 | .fvar .. | .fvari .. | .frow .. | .frowx ..=>false
 |_=>true
theorem VB.sgl_ok {x:VB}(h:x.sgl=true):∃d,x.blks=[d]:=by cases x<;>first|exact⟨_,rfl⟩|cases h
abbrev VT:=List (Nat×V)
abbrev VH:=List (Nat×VB)
def fL:VT→List (Nat×D):=List.map fun p=>(p.1,p.2.toD)
def fam (k:Nat)(l:List Blk):HL:=l.zipIdx.map fun p=>((k,p.2),p.1)
def tZ:List Nat→VH→HL
 |_,[]=>[]
 |s,(k,x)::l=>(bif s.contains k then[] else fam k x.blks)++tZ (k::s) l
def toH (h:VH):HL:=tZ [] h
structure VSt where
 t:VT
 h:VH
 n:Nat
def VSt.toD (σ:VSt):St:=⟨fL σ.t,toH σ.h,σ.n⟩
theorem xY {κ α β:Type}[DecidableEq κ](f:α→β):∀(l:List (κ×α)) (k:κ),look (l.map fun p=>(p.1,f p.2)) k=(look l k).map f
 |[],k=>rfl
 |(x,d)::l,k=>by
  simp only[bK,look,xY f l k]
  split<;>rfl
theorem dj (t:VT)(k:Nat):look (fL t) k=(look t k).map V.toD:=xY _ _ _
theorem ig {κ α:Type}[DecidableEq κ]:∀(l m:List (κ×α)) (k:κ),look (l++m) k=match look l k with|some x=>some x|none=>look m k
 |[],m,k=>rfl
 |(x,a)::l,m,k=>by
  simp only[gx,look]
  split
  ·rfl
  ·exact ig l m k
theorem sP (k:Nat)(l:List Blk)(b:Id):look (fam k l) b=if b.1=k then l[b.2]? else none:=by
 have key:∀(l:List Blk) (s:Nat),look ((l.zipIdx s).map fun p=>((k,p.2),p.1)) b=if b.1=k∧s≤b.2 then l[b.2-s]? else none:=by
  intro l
  induction l with
  |nil=>intro s;simp[look]
  |cons x l ih=>
   intro s
   simp only[mm,bK,look,ih]
   obtain⟨b1,b2⟩:=b
   simp only[aZ]
   by_cases h1:b1=k
   ·by_cases h2:b2=s
    ·subst h2;simp[h1]
    ·by_cases h3:s≤b2
     ·rw[if_neg (by simp[h2]),if_pos ⟨h1,by omega⟩,if_pos ⟨h1,h3⟩,show b2-s=(b2-(s+1))+1 by omega]
      rfl
     ·rw[if_neg (by simp[h2]),if_neg (by omega),if_neg (by omega)]
   ·simp[h1]
 unfold fam
 rw[key l 0]
 simp
theorem uo:∀(h:VH) (s:List Nat) (b:Id),look (tZ s h) b=if b.1∈s then none else(look h b.1).bind fun x=>x.blks[b.2]?
 |[],s,b=>by simp[tZ,look]
 |(k,x)::l,s,b=>by
  simp only[tZ,ig,uo l,look]
  by_cases hs:b.1∈s
  ·rw[if_pos (bA _ hs),if_pos hs]
   by_cases hk:k∈s
   ·simp[hk,look]
   ·have hc:s.contains k=false:=by simpa using hk
    have hne:b.1≠k:=fun e=>hk (e▸hs)
    rw[hc,cond_false,sP,if_neg hne]
  ·rw[if_neg hs]
   by_cases hb:b.1=k
   ·have hc:s.contains k=false:=by rw[←hb];simpa using hs
    rw[hc,cond_false,sP,if_pos hb,if_pos hb,if_pos (by rw[hb];exact bk ..)]
    simp only[ba]
    cases x.blks[b.2]?<;>rfl
   ·rw[if_neg hb,if_neg (by simp only[aJ,not_or];exact⟨hb,hs⟩)]
    have:look (bif s.contains k then[] else fam k x.blks) b=none:=by
     cases s.contains k with
     |true=>rfl
     |false=>rw[cond_false,sP,if_neg hb]
    rw[this]
theorem ap (h:VH)(b:Id):look (toH h) b=(look h b.1).bind fun x=>x.blks[b.2]?:=by
 unfold toH
 rw[uo]
 simp
inductive TK where
 |int (k:IntKind)|bool|str|slice (E:TypeId)|ptr (E:TypeId)|ifc|func
 |struct (fs:List (Nat×Nat×Nat))
 |arr (n:Nat) (E:TypeId)
structure TI where
 k:TK
 sz:Nat
 nb:Nat
 z:Option V
 ty:Option Ty
 own:Bool:=false
def TI.agg (ti:TI):Bool:=match ti.k with| .struct _=>true| .arr ..=>true|_=>false
def TK.ok (P:Program)(T:TypeId):TK→Prop
 | .int k=>P.underlying T=some (.int k)
 | .bool=>P.underlying T=some .bool
 | .str=>P.underlying T=some .string
 | .slice E=>P.underlying T=some (.slice E)
 | .ptr E=>P.underlying T=some (.pointer E)
 | .ifc=>xC P T=true
 | .func=>True
 | .struct fs=>(∀i ty off s,fs[i]?=some (ty,off,s)→vm P T i=some (ty,off)∧(0<s→jW P T i=some off))∧lg P T=some (fs.map fun f=>(f.2.1,f.2.2))
 | .arr n E=>P.underlying T=some (.array n E)
structure TI.ok (P:Program)(T:TypeId)(ti:TI):Prop where
 und:ti.k.ok P T
 size:sizeT P T=some ti.sz
 agg:isAggT P T=some ti.agg
 zero:∀z,ti.z=some z→ofZero P T=some z.toD
 elem:ti.z.isSome=true→0<ti.sz→elemT P T=some (ti.sz,ti.nb)
def vB:Value→V→Bool
 | .int k n,.int k' n'=>decide (k=k') && n==n'
 | .bool b,.bool b'=>b==b'
 | .string s,.str s'=>decide (s=s')
 | .pointer none,.nilp=>true
 | .slice none 0 0,.nils=>true
 | .nilFunc,.nilf=>true
 | .nilIface,.nili=>true
 |_,_=>false
theorem J6 {v:Value}{x:V}(h:vB v x=true):jL v=some x.toD:=by
 unfold vB at h
 split at h
 ·simp only[aA,decide_eq_true_eq,beq_iff_eq] at h
  obtain⟨rfl,rfl⟩:=h
  rfl
 ·simp only[beq_iff_eq] at h
  subst h
  rfl
 ·simp only[decide_eq_true_eq] at h
  subst h
  rfl
 ·rfl
 ·rfl
 ·rfl
 ·rfl
 ·cases h
def NY:List Value→List V→Bool
 |[],[]=>true
 |v::vs,x::xs=>vB v x && NY vs xs
 |_,_=>false
theorem GU:∀{vs:List Value} {xs:List V},NY vs xs=true→vs.mapM jL=some (ak xs)
 |[],[],_=>rfl
 |[],_::_,h=>by cases h
 |_::_,[],h=>by cases h
 |v::vs,x::xs,h=>by
  simp only[NY,aA] at h
  simp[iw,J6 h.1,GU h.2,ak]
def zB:Option Value→Option V→Bool
 |_,none=>true
 |some (.agg vs),some (.agg xs)=>NY vs.toList xs
 |some (.agg _),some _=>false
 |some v,some x=>vB v x
 |none,some _=>false
def kB (P:Program)(T:TypeId)(k:TK):Bool:=
 match k,P.underlying T with
 | .int k,some (.int k')=>decide (k=k')
 | .bool,some .bool=>true
 | .str,some .string=>true
 | .slice E,some (.slice E')=>E==E'
 | .ptr E,some (.pointer E')=>E==E'
 | .ifc,some (.interface _)=>true
 | .func,some (.func ..)=>true
 | .struct fs,some (.struct a)=>decide (fs.map (fun f=>(f.1,f.2.1))=a.toList.map fun f=>(f.type,f.offset)) && fs.all fun f=>match P.info? f.1 with|some i=>i.size==f.2.2|none=>false
 | .arr n E,some (.array n' E')=>n==n' && E==E'
 |_,_=>false
def OG (P:Program)(T:TypeId)(ti:TI):Bool:=
 kB P T ti.k && (match P.info? T with
  |some i=>i.size==ti.sz && i.bytes==ti.nb && zB i.zero ti.z && (match i.zero with|some z=>z.cells.size==i.size|none=>true)
  |none=>false)
theorem up {α β:Type}{f:α→Option β}{g:α→β}:∀{l:List α},(∀x∈l,f x=some (g x))→l.mapM f=some (l.map g)
 |[],_=>rfl
 |a::l,h=>by simp[iw,h a (bk ..),up fun x hx=>h x (bA _ hx)]
theorem NS {P:Program}{T:TypeId}{i:TypeInfo}(hi:P.info? T=some i){z:V}(h:zB i.zero (some z)=true):ofZero P T=some z.toD:=by
 unfold ofZero
 rw[hi]
 simp only[ba]
 unfold zB at h
 split at h
 ·rename_i e;cases e
 ·rename_i vs xs e1 e2
  simp only[aw] at e2
  subst e2
  rw[e1]
  simp only[GU h,aI,V.toD]
 ·cases h
 ·rename_i v x hne e1 e2
  simp only[aw] at e2
  subst e2
  rw[e1]
  split
  ·rename_i vs e
   simp only[aw] at e
   subst e
   exact absurd rfl (hne vs)
  ·rename_i e
   simp only[aw] at e
   subst e
   exact J6 h
  ·rename_i e;cases e
 ·cases h
theorem Nm {P:Program}{T:TypeId}{k:TK}(h:kB P T k=true):k.ok P T:=by
 unfold kB at h
 split at h
 ·rename_i e;simp only[decide_eq_true_eq] at h;subst h;exact e
 ·rename_i e;exact e
 ·rename_i e;exact e
 ·rename_i e;simp only[beq_iff_eq] at h;subst h;exact e
 ·rename_i e;simp only[beq_iff_eq] at h;subst h;exact e
 ·rename_i e;show xC P T=true;unfold xC;rw[e]
 ·trivial
 ·rename_i fs a e
  simp only[aA,decide_eq_true_eq,aM] at h
  obtain⟨h1,h2⟩:=h
  have hsz:∀f∈fs,∃i,P.info? f.1=some i∧i.size=f.2.2:=by
   intro f hf
   have:=h2 f hf
   split at this
   ·rename_i i hi;exact⟨i,hi,by simpa using this⟩
   ·cases this
  refine⟨fun i ty off s hi=>?_,?_⟩
  ·have hm:(fs.map fun f=>(f.1,f.2.1))[i]?=some (ty,off):=by rw[be,hi];rfl
   rw[h1,be] at hm
   obtain⟨fd,hfd,he⟩:=bm.1 hm
   simp only[aZ] at he
   obtain⟨rfl,rfl⟩:=he
   have hfd':a[i]?=some fd:=by simpa using hfd
   obtain⟨ii,hi1,hi2⟩:=hsz _ (br hi)
   simp only at hi1 hi2
   refine⟨by unfold vm;simp[e,hfd'],fun hs=>?_⟩
   unfold jW
   have:sizeT P fd.type=some s:=by unfold sizeT;rw[hi1];simp[hi2]
   simp only[e,hfd',this]
   cases s with
   |zero=>omega
   |succ s=>rfl
  ·unfold lg
   simp only[e]
   have hl:a.toList.length=fs.length:=by have:=congrArg List.length h1;simpa using this.symm
   have key:∀(l:List Field) (gs:List (Nat×Nat×Nat)),gs.map (fun f=>(f.1,f.2.1))=l.map (fun f=>(f.type,f.offset))→(∀f∈gs,∃i,P.info? f.1=some i∧i.size=f.2.2)→
     (l.mapM fun f=>(P.info? f.type).map fun i=>(f.offset,i.size))=some (gs.map fun f=>(f.2.1,f.2.2)):=by
    intro l
    induction l with
    |nil=>
     intro gs hg _
     cases gs with
     |nil=>rfl
     |cons g gs=>simp at hg
    |cons x l ih=>
     intro gs hg hs
     cases gs with
     |nil=>simp at hg
     |cons g gs=>
      simp only[bK,List.cons.injEq,aZ] at hg
      obtain⟨⟨g1,g2⟩,g3⟩:=hg
      obtain⟨i,hi1,hi2⟩:=hs g (bk ..)
      rw[g1] at hi1
      simp[iw,hi1,ih gs g3 fun f hf=>hs f (bA _ hf),hi2,g2]
   exact key _ _ h1 hsz
 ·rename_i e;simp only[aA,beq_iff_eq] at h;obtain⟨rfl,rfl⟩:=h;exact e
 ·cases h
theorem Mu {P:Program}{T:TypeId}{ti:TI}(h:OG P T ti=true):ti.ok P T:=by
 unfold OG at h
 simp only[aA] at h
 obtain⟨hk,h⟩:=h
 split at h
 ·rename_i i hi
  simp only[aA,beq_iff_eq] at h
  obtain⟨⟨⟨h1,h2⟩,h3⟩,h4⟩:=h
  refine⟨Nm hk,by unfold sizeT;rw[hi];simp[h1],?_,fun z hz=>NS hi (by rw[←hz];exact h3),fun hz hp=>?_⟩
  ·unfold isAggT TI.agg
   unfold kB at hk
   split at hk<;>simp_all
  ·unfold elemT
   rw[hi]
   simp only
   cases hzz:i.zero with
   |none=>
    rw[hzz] at h3
    cases hz':ti.z with
    |none=>rw[hz'] at hz;cases hz
    |some z=>rw[hz'] at h3;simp[zB] at h3
   |some z=>
    rw[hzz] at h4
    simp only[beq_iff_eq] at h4
    show (if z.cells.size=i.size∧0<i.size then some (i.size,i.bytes) else none)=_
    rw[if_pos ⟨h4,by omega⟩,h1,h2]
 ·cases h
abbrev TT:=List (Nat×TI)
def TT.ok (P:Program)(Θ:TT):Prop:=∀T ti,look Θ T=some ti→ti.ok P T
def TT.okB (P:Program)(Θ:TT):Bool:=Θ.all fun p=>OG P p.1 p.2
theorem TT.okB_ok {P:Program}{Θ:TT}(h:Θ.okB P=true):Θ.ok P:=fun T ti hl=>Mu (by
 unfold TT.okB at h
 rw[aM] at h
 exact h _ (di hl))
def ci (φ K:Prop):Prop:=φ∧K
def Nh:IntKind→Int→Prop
 | .i8,n=>-128≤n∧n≤127
 | .i16,n=>-32768≤n∧n≤32767
 | .i32,n=>-2147483648≤n∧n≤2147483647
 | .i64,n=>-9223372036854775808≤n∧n≤9223372036854775807
 | .u8,n=>0≤n∧n≤255
 | .u16,n=>0≤n∧n≤65535
 | .u32,n=>0≤n∧n≤4294967295
 | .u64,n=>0≤n∧n≤18446744073709551615
theorem E7 {k:IntKind}{n:Int}(h:Nh k n):k.wrap n=n:=by
 unfold Nh at h
 cases k<;>simp only at h<;>(unfold IntKind.wrap;simp[IntKind.bits,IntKind.signed];omega)
def Ari (k:IntKind)(z:Int)(K:Int→Prop):Prop:=(Nh k z∧K z)∨K (k.wrap z)
theorem Ari.ok {k:IntKind}{z:Int}{K:Int→Prop}(h:Ari k z K):K (k.wrap z):=by
 rcases h with⟨h1,h2⟩|h
 ·rw[E7 h1];exact h2
 ·exact h
def fB {α:Type}(xs:List α)(i:Nat)(K:α→Prop):Prop:=∃x,xs[i]?=some x∧K x
def mA {α:Type}(xs:List α)(i:Int)(K:Nat→α→Prop):Prop:=0≤i∧∃x,xs[i.toNat]?=some x∧K i.toNat x
def ju (b:Bool)(A B:Prop):Prop:=(b=true→A)∧(b=false→B)
def bI {α:Type}:List (Nat×α)→Nat→(α→Prop)→Prop
 |[],_,_=>False
 |(k,a)::l,x,K=>bif Nat.beq x k then K a else bI l x K
theorem aD {α:Type}:∀{l:List (Nat×α)} {x:Nat} {K:α→Prop},bI l x K→∃a,look l x=some a∧K a
 |[],_,_,h=>h.elim
 |(k,a)::l,x,K,h=>by
  simp only[bI] at h
  simp only[look]
  by_cases e:x=k
  ·subst e
   simp only[Nat.beq_refl,cond_true] at h
   exact⟨a,by simp,h⟩
  ·have:Nat.beq x k=false:=by
    cases hb:Nat.beq x k with
    |false=>rfl
    |true=>exact absurd (cq hb) e
   rw[this] at h
   simp only[cond_false] at h
   rw[if_neg e]
   exact aD h
def eO (h:VH)(b:Nat)(K:VB→Prop):Prop:=bI h b K
theorem bh {h:VH}{b:Nat}{K:VB→Prop}(hk:eO h b K):∃x,look h b=some x∧K x:=aD hk
theorem av {h:VH}{k i:Nat}{x:VB}{d:Blk}(h1:look h k=some x)(h2:x.blks[i]?=some d):look (toH h) (k,i)=some d:=by rw[ap,h1];exact h2
def zS:Value→Option V
 | .int k n=>some (.int k n)
 | .bool true=>some .tt
 | .bool false=>some .ff
 | .string s=>some (.str s)
 | .pointer none=>some .nilp
 | .slice none 0 0=>some .nils
 | .nilFunc=>some .nilf
 | .nilIface=>some .nili
 |_=>none
theorem CZ {v:Value}{x:V}(h:zS v=some x):jL v=some x.toD:=by
 unfold zS at h
 split at h<;>first|(simp only[aw] at h;subst h;rfl)|cases h
def qq (t:VT)(x:Operand)(K:V→Prop):Prop:=
 match x with
 | .tmp k=>bI t k K
 | .const v=>(match zS v with|some d=>K d|none=>False)
 | .global g=>(match look Gl g with|some _=>K (.gp g)|none=>False)
 |_=>False
theorem cL {t:VT}{x:Operand}{K:V→Prop}(h:qq t x K):∃v,aX (fL t) x=some v.toD∧K v:=by
 unfold qq at h
 split at h
 ·obtain⟨v,h1,h2⟩:=aD h
  exact⟨v,by simp only[aX,dj,h1,aI],h2⟩
 ·split at h
  ·rename_i d hd
   exact⟨d,CZ hd,h⟩
  ·exact h.elim
 ·rename_i g
  split at h
  ·rename_i y hy
   exact⟨.gp g,by simp[aX,hy,V.toD],h⟩
  ·exact h.elim
 ·exact h.elim
def Kv (t:VT):List Operand→(List V→Prop)→Prop
 |[],K=>K []
 |x::l,K=>qq t x fun v=>Kv t l fun vs=>K (v::vs)
theorem A6 {t:VT}:∀{l:List Operand} {K:List V→Prop},Kv t l K→∃vs,evalDs (fL t) l=some (ak vs)∧K vs
 |[],K,h=>⟨[],rfl,h⟩
 |x::l,K,h=>by
  obtain⟨v,h1,h2⟩:=cL h
  obtain⟨vs,h3,h4⟩:=A6 h2
  exact⟨v::vs,xh h1 h3,h4⟩
def yM (l:List (Nat×V)):List (Nat×D):=l.map fun p=>(p.1,p.2.toD)
def Kw (t:VT):List (Nat×Operand)→(List (Nat×V)→Prop)→Prop
 |[],K=>K []
 |(k,x)::l,K=>qq t x fun v=>Kw t l fun vs=>K ((k,v)::vs)
theorem A7 {t:VT}:∀{l:List (Nat×Operand)} {K:List (Nat×V)→Prop},Kw t l K→∃vs,evalPs (fL t) l=some (yM vs)∧K vs
 |[],K,h=>⟨[],rfl,h⟩
 |(k,x)::l,K,h=>by
  obtain⟨v,h1,h2⟩:=cL h
  obtain⟨vs,h3,h4⟩:=A7 h2
  exact⟨(k,v)::vs,xi h1 h3,h4⟩
def x7 {α:Type}:List α→Nat→(α→Prop)→Prop
 |[],_,_=>False
 |c::_,0,K=>K c
 |_::cs,n+1,K=>x7 cs n K
theorem le {α:Type}:∀{l:List α} {n:Nat} {K:α→Prop},x7 l n K→∃x,l[n]?=some x∧K x
 |[],_,_,h=>h.elim
 |c::_,0,K,h=>⟨c,rfl,h⟩
 |_::cs,n+1,K,h=>by
  obtain⟨x,h1,h2⟩:=le (l:=cs) (n:=n) h
  exact⟨x,by simpa using h1,h2⟩
def tu:List V→Nat→(List V→Prop)→Prop
 |_,0,K=>K []
 |[],_+1,_=>False
 |c::cs,n+1,K=>tu cs n fun r=>K (c::r)
theorem oY:∀{l:List V} {n:Nat} {K:List V→Prop},tu l n K→n≤l.length∧K (l.take n)
 |l,0,K,h=>⟨aW _,by cases l<;>simpa[tu] using h⟩
 |[],_+1,_,h=>h.elim
 |c::cs,n+1,K,h=>by
  obtain⟨h1,h2⟩:=oY (l:=cs) (n:=n) h
  exact⟨by simpa using h1,by simpa using h2⟩
def GE:List V→Nat→Nat→(List V→Prop)→Prop
 |l,0,s,K=>tu l s K
 |[],_+1,_,_=>False
 |_::cs,o+1,s,K=>GE cs o s K
theorem we:∀{l:List V} {o s:Nat} {K:List V→Prop},GE l o s K→o+s≤l.length∧K ((l.drop o).take s)
 |l,0,s,K,h=>by
  have h':tu l s K:=by cases l<;>simpa[GE] using h
  obtain⟨h1,h2⟩:=oY h'
  exact⟨by omega,by simpa using h2⟩
 |[],_+1,_,_,h=>h.elim
 |_::cs,o+1,s,K,h=>by
  obtain⟨h1,h2⟩:=we (l:=cs) (o:=o) h
  exact⟨by simp only[bF];omega,by simpa using h2⟩
def yb:List V→List V→(List V→Prop)→Prop
 |l,[],K=>K l
 |[],_::_,_=>False
 |_::l,x::m,K=>yb l m fun r=>K (x::r)
def tV:List V→Nat→List V→(List V→Prop)→Prop
 |l,0,m,K=>yb l m K
 |[],_+1,_,_=>False
 |c::l,o+1,m,K=>tV l o m fun r=>K (c::r)
theorem yc:∀{l m:List V} {K:List V→Prop},yb l m K→m.length≤l.length∧K (m++l.drop m.length)
 |l,[],K,h=>⟨aW _,by cases l<;>simpa[yb] using h⟩
 |[],_::_,_,h=>h.elim
 |_::l,x::m,K,h=>by
  obtain⟨h1,h2⟩:=yc (l:=l) (m:=m) h
  exact⟨by simpa using h1,by simpa using h2⟩
theorem jQ:∀{l:List V} {o:Nat} {m:List V} {K:List V→Prop},tV l o m K→o+m.length≤l.length∧K (l.take o++m++l.drop (o+m.length))
 |l,0,m,K,h=>by
  have h':yb l m K:=by cases l<;>simpa[tV] using h
  obtain⟨h1,h2⟩:=yc h'
  exact⟨by omega,by simpa using h2⟩
 |[],_+1,_,_,h=>h.elim
 |c::l,o+1,m,K,h=>by
  obtain⟨h1,h2⟩:=jQ (l:=l) (o:=o) (m:=m) h
  refine⟨by simp only[bF];omega,?_⟩
  have:o+1+m.length=(o+m.length)+1:=by omega
  rw[this]
  simpa using h2
theorem aL (l:List V):(ak l).length=l.length:=by rw[cX,az]
theorem mg (l m:List V)(o:Nat):a8 (ak l) o (ak m)=ak (l.take o++m++l.drop (o+m.length)):=by
 simp only[a8,cX,ce,List.map_take,List.map_drop,az]
def V.cells:V→List V
 | .agg cs=>cs
 |v=>[v]
theorem bu (v:V):v.toD.cells=ak v.cells:=by
 cases v
 case hro k o=>cases o<;>rfl
 case hpo k o=>cases o<;>rfl
 case obo t o=>cases o<;>rfl
 all_goals rfl
def iq (ti:TI)(cs:List V)(o:Nat)(K:V→Prop):Prop:=bif ti.agg then GE cs o ti.sz fun r=>K (.agg r) else x7 cs o K
theorem cV {P:Program}{T:TypeId}{ti:TI}(ht:ti.ok P T){cs:List V}{o:Nat}{K:V→Prop}(h:iq ti cs o K):∃v,b7 P T (ak cs) o=some v.toD∧K v:=by
 unfold iq at h
 have ha:=ht.agg
 cases hb:ti.agg with
 |true=>
  rw[hb] at h ha
  obtain⟨h1,h2⟩:=we h
  refine⟨_,J5 ha ht.size (by rw[aL];exact h1) ?_,h2⟩
  simp only[cX,←List.map_take,←List.map_drop]
 |false=>
  rw[hb] at h ha
  obtain⟨v,h1,h2⟩:=le h
  exact⟨v,GJ ha (by rw[cX,be,h1];rfl),h2⟩
theorem wj {P:Program}{T:TypeId}{A B:List D}{o:Nat}{d:D}(h:b7 P T A o=some d):b7 P T (A++B) o=some d:=by
 unfold b7 at h⊢
 cases h1:isAggT P T with
 |none=>rw[h1] at h;simp at h
 |some b=>
  cases b with
  |true=>
   cases h2:sizeT P T with
   |none=>rw[h1,h2] at h;simp at h
   |some s=>
    rw[h1,h2] at h
    simp only at h⊢
    split at h
    ·rename_i hle
     rw[if_pos (by rw[aP];omega),←h]
     congr 2
     rw[List.drop_append_of_le_length (by omega),List.take_append_of_le_length (by rw[lw];omega)]
    ·cases h
  |false=>
   rw[h1] at h
   simp only at h⊢
   have hlt:=(aR.1 h).1
   rw[cW hlt]
   exact h
theorem tY {P:Program}{T:TypeId}{A B:List D}{o:Nat}{d:D}(h:b7 P T B o=some d):b7 P T (A++B) (A.length+o)=some d:=by
 unfold b7 at h⊢
 cases h1:isAggT P T with
 |none=>rw[h1] at h;simp at h
 |some b=>
  cases b with
  |true=>
   cases h2:sizeT P T with
   |none=>rw[h1,h2] at h;simp at h
   |some s=>
    rw[h1,h2] at h
    simp only at h⊢
    split at h
    ·rename_i hle
     rw[if_pos (by rw[aP];omega),←h]
     congr 2
     rw[List.drop_append,List.drop_of_length_le (by omega),eo,Nat.add_sub_cancel_left]
    ·cases h
  |false=>
   rw[h1] at h
   simp only at h⊢
   rw[eJ (by omega)]
   simpa using h
def Chk (b:Bool)(K:Prop):Prop:=match b with|true=>K|false=>False
def Mk (b:Bool)(K:Prop):Prop:=b=true∧K
theorem Chk.ok {b:Bool}{K:Prop}(h:Chk b K):b=true∧K:=by cases b<;>first|exact h.elim|exact⟨rfl,h⟩
def gE (n:Nat)(K:Nat→Prop):Prop:=
 match n with
 |0=>K 0|1=>K 1|2=>K 2|3=>K 3|4=>K 4|5=>K 5|6=>K 6|7=>K 7|8=>K 8|9=>K 9|10=>K 10|11=>K 11|12=>K 12|13=>K 13|14=>K 14|15=>K 15
 |16=>K 16|17=>K 17|18=>K 18|19=>K 19|20=>K 20|21=>K 21|22=>K 22|23=>K 23
 |n=>K n
theorem bU {n:Nat}{K:Nat→Prop}(h:gE n K):K n:=by
 unfold gE at h
 split at h<;>exact h
def fY:List Nat→(List Nat→Prop)→Prop
 |[],K=>K []
 |b::l,K=>gE b fun b=>fY l fun l=>K (b::l)
theorem ct:∀{l:List Nat} {K:List Nat→Prop},fY l K→K l
 |[],K,h=>h
 |b::l,K,h=>ct (l:=l) (K:=fun l=>K (b::l)) (bU (K:=fun b=>fY l fun l=>K (b::l)) h)
def Hc {α:Type}:List α→List α→(List α→Prop)→Prop
 |[],m,K=>K m
 |a::l,m,K=>Hc l m fun r=>K (a::r)
theorem uT {α:Type}:∀{l m:List α} {K:List α→Prop},Hc l m K→K (l++m)
 |[],m,K,h=>h
 |a::l,m,K,h=>uT (l:=l) (K:=fun r=>K (a::r)) h
def j4:List Nat→Bool
 |[]=>true
 |a::l=>!(l.contains a) && j4 l
theorem iW:∀{l:List Nat},j4 l=true→l.Nodup
 |[],_=>List.nodup_nil
 |a::l,hl=>by
  simp only[j4,aA,fK] at hl
  exact List.nodup_cons.2 ⟨by simpa using hl.1,iW hl.2⟩
def aU {α:Type}:List (Nat×α)→Nat→Option α
 |[],_=>none
 |(k,a)::l,x=>bif Nat.beq x k then some a else aU l x
theorem aS {α:Type}:∀(l:List (Nat×α)) (x:Nat),aU l x=look l x
 |[],_=>rfl
 |(k,a)::l,x=>by
  simp only[aU,look,aS l x]
  by_cases e:x=k
  ·subst e;simp
  ·have:Nat.beq x k=false:=by
    cases hb:Nat.beq x k with
    |false=>rfl
    |true=>exact absurd (cq hb) e
   rw[this,if_neg e];rfl
def cS (h:VH)(u:HL)(vu:VH):Prop:=(∀b,look (puts u (toH h)) b=look (toH (puts vu h)) b)∧∀x∈u,x.1.1∈vu.map (·.1)
theorem a7 {h:VH}:cS h [] []:=⟨fun _=>rfl,fun x hx=>by cases hx⟩
theorem rK {h:VH}{u1 u2:HL}{v1 v2:VH}(h1:cS h u1 v1)(h2:cS (puts v1 h) u2 v2):cS h (u1++u2) (v1++v2):=by
 refine⟨fun b=>?_,fun x hx=>?_⟩
 ·rw[bD,bD,←h2.1 b]
  exact bT (h1.1 b)
 ·rw[ce]
  rcases bl.1 hx with hx|hx
  ·exact eh _ (h1.2 x hx)
  ·exact eK _ (h2.2 x hx)
theorem wm {h:VH}{k:Nat}{y:VB}{u:HL}(hk:∀x∈u,x.1.1=k)(hu:∀i,look (puts u (toH h)) (k,i)=y.blks[i]?):cS h u [(k,y)]:=by
 refine⟨fun b=>?_,fun x hx=>by rw[hk x hx];exact aY.2 rfl⟩
 obtain⟨b1,b2⟩:=b
 rw[ap]
 show _=(look (put k y h) b1).bind _
 rw[af]
 by_cases e:b1=k
 ·subst e;rw[if_pos rfl];exact hu b2
 ·rw[if_neg e,aN _ _ _ fun x hx he=>e (by rw[←hk x hx,he]),ap]
theorem o5 {h:VH}{k:Nat}{y:VB}{d:Blk}(ho:∀i,i≠0→look (toH h) (k,i)=none)(hy:y.blks=[d]):cS h [((k,0),d)] [(k,y)]:=by
 refine wm (fun x hx=>by obtain rfl:=aY.1 hx;rfl) fun i=>?_
 show look (put (k,0) d (toH h)) (k,i)=_
 rw[af,hy]
 cases i with
 |zero=>rw[if_pos rfl];rfl
 |succ i=>rw[if_neg (by simp),ho _ (by simp)];rfl
theorem FK {h:VH}{k:Nat}{x:VB}(h1:look h k=some x)(hs:x.sgl=true):∀i,i≠0→look (toH h) (k,i)=none:=by
 intro i hi
 obtain⟨d,hd⟩:=VB.sgl_ok hs
 rw[ap,h1]
 simp only[ba,hd]
 cases i with
 |zero=>exact absurd rfl hi
 |succ i=>rfl
theorem gV {h:VH}{k:Nat}{x y:VB}{d:Blk}(h1:look h k=some x)(hs:x.sgl=true)(hy:y.blks=[d]):cS h [((k,0),d)] [(k,y)]:=o5 (FK h1 hs) hy
theorem lu {h:VH}{n:Nat}{y:VB}{d:Blk}(hn:∀b:Id,n≤b.1→look (toH h) b=none)(hy:y.blks=[d]):cS h [((n,0),d)] [(n,y)]:=o5 (fun i _=>hn (n,i) (ax _)) hy
theorem wl {h:VH}{k i:Nat}{x y:VB}{d:Blk}(h1:look h k=some x)(hy:y.blks=x.blks.set i d)(hi:i<x.blks.length):cS h [((k,i),d)] [(k,y)]:=by
 refine wm (fun x hx=>by obtain rfl:=aY.1 hx;rfl) fun j=>?_
 show look (put (k,i) d (toH h)) (k,j)=_
 rw[af,ap,h1,hy]
 by_cases e:j=i
 ·subst e;rw[if_pos rfl,List.getElem?_set_self hi]
 ·rw[if_neg (by simp[e]),nO (cm e)];rfl
theorem GN {h:VH}{k:Nat}{x y:VB}{d:Blk}(h1:look h k=some x)(hy:y.blks=x.blks++[d]):cS h [((k,x.blks.length),d)] [(k,y)]:=by
 refine wm (fun x hx=>by obtain rfl:=aY.1 hx;rfl) fun j=>?_
 show look (put (k,x.blks.length) d (toH h)) (k,j)=_
 rw[af,ap,h1,hy]
 by_cases e:j=x.blks.length
 ·subst e;rw[if_pos rfl];simp
 ·rw[if_neg (by simp[e])]
  simp only[ba]
  by_cases hl:j<x.blks.length
  ·rw[cW hl]
  ·rw[eg (by omega),eg (by rw[aP,mw];omega)]
def sq (h:VH)(k:Nat):Bool:=match aU h k with|some x=>!x.sgl|none=>true
theorem ss {h:VH}{k i:Nat}(hf:sq h k=true){d:Blk}(hd:look (toH h) (k,i)=some d):(∃T cs,d= .var T cs)∨(∃E l,d= .row E l)∨d= .gone:=by
 rw[ap,←aS] at hd
 unfold sq at hf
 cases hl:aU h k with
 |none=>rw[hl] at hd;cases hd
 |some x=>
  rw[hl] at hf hd
  simp only[ba] at hd
  cases x<;>simp[VB.sgl] at hf
  all_goals (simp only[VB.blks,be] at hd;obtain⟨y,_,rfl⟩:=bm.1 hd)
  ·exact .inl ⟨_,_,rfl⟩
  ·exact .inl ⟨_,_,rfl⟩
  ·exact .inr (.inl ⟨_,_,rfl⟩)
  ·cases y with
   |none=>exact .inr (.inr rfl)
   |some y=>exact .inr (.inl ⟨_,_,rfl⟩)
theorem Bb {h:VH}{k:Nat}(hf:sq h k=true)(i:Nat):fwd (toH h) (.ref (k,i))= .ref (k,i):=by
 simp only[fwd]
 split
 ·rename_i c hc;rcases ss hf hc with⟨_,_,e⟩|⟨_,_,e⟩|e<;>cases e
 ·rename_i c hc;rcases ss hf hc with⟨_,_,e⟩|⟨_,_,e⟩|e<;>cases e
 ·rfl
theorem vk {h:VH}{k:Nat}(hf:sq h k=true)(i o:Nat):fwd (toH h) (.ptr (k,i) o)= .ptr (k,i) o:=by
 simp only[fwd]
 split
 ·rename_i c hc;rcases ss hf hc with⟨_,_,e⟩|⟨_,_,e⟩|e<;>cases e
 ·rename_i c hc;rcases ss hf hc with⟨_,_,e⟩|⟨_,_,e⟩|e<;>cases e
 ·rfl
theorem Ek {h:VH}{k:Nat}(hf:sq h k=true)(i j o:Nat):fwd (toH h) (.eptr (k,i) j o)= .eptr (k,i) j o:=by
 simp only[fwd]
 split
 ·rename_i c hc;rcases ss hf hc with⟨_,_,e⟩|⟨_,_,e⟩|e<;>cases e
 ·rfl
theorem vS (h:VH)(b:Nat):look (toH h) (b,0)=match aU h b with|some x=>x.blks[0]? |none=>none:=by
 rw[ap,←aS]
 cases aU h b<;>rfl
def HM (h:VH)(b:Nat):V:=match aU h b with
 |some (.moved k i)=>.fref k i
 |some (.froz t xs)=>.lst t xs
 |_=>.ref b
theorem HN (h:VH)(b:Nat):fwd (toH h) (.ref (b,0))=(HM h b).toD:=by
 simp only[fwd,vS,HM]
 cases hl:aU h b with
 |none=>rfl
 |some x=>
  cases x with
  |fvar T t xs=>cases xs<;>rfl
  |fvari T m t xs=>cases xs<;>rfl
  |frow E t xs=>cases xs<;>rfl
  |frowx E t xs=>cases xs with|nil=>rfl|cons y _=>cases y<;>rfl
  |_=>rfl
def vw (h:VH)(b o:Nat):V:=match aU h b with
 |some (.moved k i)=>.fptr k i o
 |some (.fvb t x)=>(match o with|0=>.box t x|o+1=>(match enc t x with| .agg _=>.iptr t x (o+1)|_=>.undef))
 |_=>.ptr b o
theorem Bg (h:VH)(b o:Nat)(hne:vw h b o≠ .undef):fwd (toH h) (.ptr (b,0) o)=(vw h b o).toD:=by
 unfold vw at hne⊢
 simp only[fwd,vS]
 cases hl:aU h b with
 |none=>rfl
 |some x=>
  cases x with
  |fvar T t xs=>cases xs<;>rfl
  |fvari T m t xs=>cases xs<;>rfl
  |frow E t xs=>cases xs<;>rfl
  |frowx E t xs=>cases xs with|nil=>rfl|cons y _=>cases y<;>rfl
  |fvb t x=>
   rw[hl] at hne
   cases o with
   |zero=>rfl
   |succ o=>
    simp only at hne⊢
    have e1:=kW t x
    cases he:enc t x with
    |agg cs=>
     rw[he] at e1
     simp only[VB.blks,iL,V.toD] at e1⊢
     rw[←e1]
     rfl
    |_=>rw[he] at hne;exact absurd rfl hne
  |_=>rfl
def CG (h:VH)(b:Nat):Option (Nat×Nat):=match aU h b with|some (.moved k i)=>some (k,i)|_=>none
theorem KD (h:VH)(b i o:Nat):fwd (toH h) (.eptr (b,0) i o)=match CG h b with|some p=>.eptr p i o|none=>.eptr (b,0) i o:=by
 simp only[fwd,vS,CG]
 cases hl:aU h b with
 |none=>rfl
 |some x=>
  cases x with
  |fvar T t xs=>cases xs<;>rfl
  |fvari T m t xs=>cases xs<;>rfl
  |frow E t xs=>cases xs<;>rfl
  |frowx E t xs=>cases xs with|nil=>rfl|cons y _=>cases y<;>rfl
  |_=>rfl
theorem KE (h:VH)(b o n:Nat):fwd (toH h) (.vref (b,0) o n)=match CG h b with|some p=>.vref p o n|none=>.vref (b,0) o n:=by
 simp only[fwd,vS,CG]
 cases hl:aU h b with
 |none=>rfl
 |some x=>
  cases x with
  |fvar T t xs=>cases xs<;>rfl
  |fvari T m t xs=>cases xs<;>rfl
  |frow E t xs=>cases xs<;>rfl
  |frowx E t xs=>cases xs with|nil=>rfl|cons y _=>cases y<;>rfl
  |_=>rfl
mutual
def dR (h:VH)(v:V)(K:V→Prop):Prop:=
 match v with
 | .ref b=>(match aU h b with
  |some (.moved k i)=>K (.fref k i)
  |some (.froz t xs)=>K (.lst t xs)
  |_=>K (.ref b))
 | .ptr b o=>(match aU h b with
  |some (.moved k i)=>K (.fptr k i o)
  |some (.fvb t x)=>(match o with|0=>K (.box t x)|o+1=>(match enc t x with| .agg _=>K (.iptr t x (o+1))|_=>False))
  |_=>K (.ptr b o))
 | .eptr b j o=>(match CG h b with|some (k,i)=>K (.feptr k i j o)|none=>K (.eptr b j o))
 | .vref b o n=>(match CG h b with|some _=>False|none=>K (.vref b o n))
 | .aptr b p j=>(match aU h b with
  |some (.moved k i)=>K (.faptr k i p j)
  |some (.fvb _ _)=>False
  |_=>K (.aptr b p j))
 | .fref k i=>Chk (sq h k) (K (.fref k i))
 | .fptr k i o=>Chk (sq h k) (K (.fptr k i o))
 | .feptr k i j o=>Chk (sq h k) (K (.feptr k i j o))
 | .faptr k i p j=>Chk (sq h k) (K (.faptr k i p j))
 | .hro k o=>Chk (sq h k) (K (.hro k o))
 | .hpo k o=>Chk (sq h k) (K (.hpo k o))
 | .agg cs=>np h cs fun cs=>K (.agg cs)
 | .tup cs=>np h cs fun cs=>K (.tup cs)
 | .clo f cs=>np h cs fun cs=>K (.clo f cs)
 | .ifc T v=>dR h v fun v=>K (.ifc T v)
 | .int k n=>K (.int k n)
 | .bool b=>K (.bool b)
 | .tt=>K .tt
 | .ff=>K .ff
 | .str s=>K (.str s)
 | .lst t xs=>K (.lst t xs)
 | .box t x=>K (.box t x)
 | .nilp=>K .nilp
 | .nils=>K .nils
 | .nilf=>K .nilf
 | .nili=>K .nili
 | .gp g=>K (.gp g)
 | .gv g=>K (.gv g)
 | .iptr t x o=>K (.iptr t x o)
 | .obo t o=>K (.obo t o)
 | .undef=>K .undef
 | .junk=>K .junk
def np (h:VH)(l:List V)(K:List V→Prop):Prop:=
 match l with
 |[]=>K []
 |v::l=>dR h v fun v=>np h l fun l=>K (v::l)
end
mutual
theorem mO {h:VH}:∀{v:V} {K:V→Prop},dR h v K→∃r,fwd (toH h) v.toD=r.toD∧K r
 | .ref b,K,hk=>by
  simp only[dR] at hk
  refine⟨HM h b,HN h b,?_⟩
  unfold HM
  cases hl:aU h b with
  |none=>rw[hl] at hk;exact hk
  |some x=>rw[hl] at hk;cases x<;>exact hk
 | .ptr b o,K,hk=>by
  simp only[dR] at hk
  have key:vw h b o≠ .undef∧K (vw h b o):=by
   unfold vw
   cases hl:aU h b with
   |none=>rw[hl] at hk;exact⟨by simp,hk⟩
   |some x=>
    rw[hl] at hk
    cases x with
    |fvb t x=>
     cases o with
     |zero=>exact⟨by simp,hk⟩
     |succ o=>
      simp only at hk⊢
      cases he:enc t x with
      |agg cs=>rw[he] at hk;exact⟨by simp,hk⟩
      |_=>rw[he] at hk;exact hk.elim
    |_=>exact⟨by simp,hk⟩
  exact⟨_,Bg h b o key.1,key.2⟩
 | .eptr b j o,K,hk=>by
  simp only[dR] at hk
  have:=KD h b j o
  split at hk<;>rename_i e<;>rw[e] at this
  ·exact⟨.feptr _ _ j o,this,hk⟩
  ·exact⟨.eptr b j o,this,hk⟩
 | .vref b o n,K,hk=>by
  simp only[dR] at hk
  have:=KE h b o n
  split at hk<;>rename_i e<;>rw[e] at this
  ·exact hk.elim
  ·exact⟨.vref b o n,this,hk⟩
 | .aptr b p j,K,hk=>by
  simp only[dR] at hk
  have key:vw h b (p+j)≠ .undef∧∃r:V,(vw h b (p+j)).toD=r.toD∧K r:=by
   unfold vw
   cases hl:aU h b with
   |none=>rw[hl] at hk;exact⟨by simp,.aptr b p j,rfl,hk⟩
   |some x=>
    rw[hl] at hk
    cases x with
    |fvb t x=>exact hk.elim
    |moved k i=>exact⟨by simp,.faptr k i p j,rfl,hk⟩
    |_=>exact⟨by simp,.aptr b p j,rfl,hk⟩
  obtain⟨k1,r,k2,k3⟩:=key
  exact⟨r,(Bg h b (p+j) k1).trans k2,k3⟩
 | .fref k i,K,hk=>by simp only[dR] at hk;obtain⟨c,hk⟩:=hk.ok;exact⟨_,by simp only[V.toD];exact Bb c i,hk⟩
 | .fptr k i o,K,hk=>by simp only[dR] at hk;obtain⟨c,hk⟩:=hk.ok;exact⟨_,by simp only[V.toD];exact vk c i o,hk⟩
 | .feptr k i j o,K,hk=>by simp only[dR] at hk;obtain⟨c,hk⟩:=hk.ok;exact⟨_,by simp only[V.toD];exact Ek c i j o,hk⟩
 | .faptr k i p j,K,hk=>by simp only[dR] at hk;obtain⟨c,hk⟩:=hk.ok;exact⟨_,by simp only[V.toD];exact vk c i (p+j),hk⟩
 | .hro k o,K,hk=>by simp only[dR] at hk;obtain⟨c,hk⟩:=hk.ok;exact⟨.hro k o,by cases o with|none=>rfl|some i=>exact Bb c i,hk⟩
 | .hpo k o,K,hk=>by simp only[dR] at hk;obtain⟨c,hk⟩:=hk.ok;exact⟨.hpo k o,by cases o with|none=>rfl|some i=>exact vk c i 0,hk⟩
 | .agg cs,K,hk=>by
  simp only[dR] at hk
  obtain⟨r,h1,h2⟩:=je hk
  exact⟨_,by simp only[fwd,V.toD,h1],h2⟩
 | .tup cs,K,hk=>by
  simp only[dR] at hk
  obtain⟨r,h1,h2⟩:=je hk
  exact⟨_,by simp only[fwd,V.toD,h1],h2⟩
 | .clo f cs,K,hk=>by
  simp only[dR] at hk
  obtain⟨r,h1,h2⟩:=je hk
  exact⟨_,by simp only[fwd,V.toD,h1],h2⟩
 | .ifc T v,K,hk=>by
  simp only[dR] at hk
  obtain⟨r,h1,h2⟩:=mO hk
  exact⟨_,by simp only[fwd,V.toD,h1],h2⟩
 | .int k n,K,hk=>⟨.int k n,by simp only[V.toD,fwd],by simpa only[dR] using hk⟩
 | .bool b,K,hk=>⟨.bool b,by simp only[V.toD,fwd],by simpa only[dR] using hk⟩
 | .tt,K,hk=>⟨.tt,by simp only[V.toD,fwd],by simpa only[dR] using hk⟩
 | .ff,K,hk=>⟨.ff,by simp only[V.toD,fwd],by simpa only[dR] using hk⟩
 | .str s,K,hk=>⟨.str s,by simp only[V.toD,fwd],by simpa only[dR] using hk⟩
 | .lst t xs,K,hk=>⟨.lst t xs,by simp only[V.toD,fwd],by simpa only[dR] using hk⟩
 | .box t x,K,hk=>⟨.box t x,by simp only[V.toD,fwd],by simpa only[dR] using hk⟩
 | .nilp,K,hk=>⟨.nilp,by simp only[V.toD,fwd],by simpa only[dR] using hk⟩
 | .nils,K,hk=>⟨.nils,by simp only[V.toD,fwd],by simpa only[dR] using hk⟩
 | .nilf,K,hk=>⟨.nilf,by simp only[V.toD,fwd],by simpa only[dR] using hk⟩
 | .nili,K,hk=>⟨.nili,by simp only[V.toD,fwd],by simpa only[dR] using hk⟩
 | .gp g,K,hk=>⟨.gp g,by simp only[V.toD,fwd],by simpa only[dR] using hk⟩
 | .gv g,K,hk=>⟨.gv g,by simp only[V.toD,fwd],by simpa only[dR] using hk⟩
 | .iptr t x o,K,hk=>⟨.iptr t x o,by simp only[V.toD,fwd],by simpa only[dR] using hk⟩
 | .obo t o,K,hk=>⟨.obo t o,by cases o<;>simp only[V.toD,ai,fwd],by simpa only[dR] using hk⟩
 | .undef,K,hk=>⟨.undef,by simp only[V.toD,fwd],by simpa only[dR] using hk⟩
 | .junk,K,hk=>⟨.junk,by simp only[V.toD,fwd],by simpa only[dR] using hk⟩
theorem je {h:VH}:∀{l:List V} {K:List V→Prop},np h l K→∃r,lc (toH h) (ak l)=ak r∧K r
 |[],K,hk=>⟨[],by simp only[ak,lc],by simpa only[np] using hk⟩
 |v::l,K,hk=>by
  simp only[np] at hk
  obtain⟨v',h1,h2⟩:=mO hk
  obtain⟨l',h3,h4⟩:=je h2
  exact⟨v'::l',by simp only[ak,lc,h1,h3],h4⟩
end
def zj (t:VT)(h:VH)(x:Operand)(K:V→Prop):Prop:=qq t x fun v=>dR h v K
theorem fS {t:VT}{h:VH}{x:Operand}{K:V→Prop}(hk:zj t h x K):∃v,evalF (fL t) (toH h) x=some v.toD∧K v:=by
 obtain⟨v,h1,h2⟩:=cL hk
 obtain⟨r,h3,h4⟩:=mO h2
 exact⟨r,by unfold evalF;rw[h1,aI,h3],h4⟩
def xf (t:VT)(h:VH):List Operand→(List V→Prop)→Prop
 |[],K=>K []
 |x::l,K=>zj t h x fun v=>xf t h l fun vs=>K (v::vs)
theorem kX {t:VT}{h:VH}:∀{l:List Operand} {K:List V→Prop},xf t h l K→∃vs,evalFs (fL t) (toH h) l=some (ak vs)∧K vs
 |[],K,hk=>⟨[],rfl,hk⟩
 |x::l,K,hk=>by
  obtain⟨v,h1,h2⟩:=fS hk
  obtain⟨vs,h3,h4⟩:=kX h2
  refine⟨v::vs,?_,h4⟩
  simp only[evalFs] at h3⊢
  simp[iw,h1,h3,ak]
def Ei (t:VT)(h:VH):List (Nat×Operand)→(List (Nat×V)→Prop)→Prop
 |[],K=>K []
 |(k,x)::l,K=>zj t h x fun v=>Ei t h l fun vs=>K ((k,v)::vs)
theorem xd {t:VT}{h:VH}:∀{l:List (Nat×Operand)} {K:List (Nat×V)→Prop},Ei t h l K→∃vs,evalFPs (fL t) (toH h) l=some (yM vs)∧K vs
 |[],K,hk=>⟨[],rfl,hk⟩
 |(k,x)::l,K,hk=>by
  obtain⟨v,h1,h2⟩:=fS hk
  obtain⟨vs,h3,h4⟩:=xd h2
  refine⟨(k,v)::vs,?_,h4⟩
  simp only[evalFPs] at h3⊢
  simp[iw,h1,h3,yM]
def iT {α:Type}(o:Option α)(A:Prop)(B:α→Prop):Prop:=(o=none→A)∧∀x,o=some x→B x
def V.whole:V→Bool
 | .tup _| .undef=>false
 |_=>true
def V.one:V→Bool
 | .agg _| .tup _| .undef=>false
 |_=>true
theorem gM (v:V):v.toD.whole=v.whole:=by
 cases v
 case hro k o=>cases o<;>rfl
 case hpo k o=>cases o<;>rfl
 case obo t o=>cases o<;>rfl
 all_goals rfl
theorem oH (v:V):v.toD.one=v.one:=by
 cases v
 case hro k o=>cases o<;>rfl
 case hpo k o=>cases o<;>rfl
 case obo t o=>cases o<;>rfl
 all_goals rfl
theorem nV (l:List V)(h:l.all V.one=true):(ak l).all D.one=true:=by
 rw[cX,List.all_map]
 rw[aM] at h⊢
 intro x hx
 simp only[Function.comp,oH]
 exact h x hx
theorem cP (t:Ty)(x:t.den):(ai t x).cells=ak (enc t x).cells:=by rw[←kW,bu]
def EH (t:Ty)(xs:List t.den)(j:Nat):Nat→(List V→Prop)→Prop
 |0,K=>ci (j≤xs.length) (K [])
 |n+1,K=>fB xs j fun e=>EH t xs (j+1) n fun l=>K (enc t e::l)
theorem xt {t:Ty}{xs:List t.den}:∀{n j:Nat} {K:List V→Prop},EH t xs j n K→∃l,j+n≤xs.length∧((xs.map (ai t)).drop j).take n=ak l∧K l
 |0,j,K,hk=>⟨[],hk.1,by simp[ak],hk.2⟩
 |n+1,j,K,hk=>by
  obtain⟨e,he,hk⟩:=hk
  obtain⟨l,h1,h2,h3⟩:=xt hk
  refine⟨enc t e::l,by omega,?_,h3⟩
  obtain⟨hj,rfl⟩:=aR.1 he
  rw[ny (by rw[az];exact hj),List.take_succ_cons,h2,List.getElem_map,ak,kW]
def qX (ti:TI)(x:VB)(i o:Nat)(K:V→Prop):Prop:=
 match x with
 | .fvar _ t xs=>fB xs i fun e=>iq ti (enc t e).cells o K
 |_=>False
def xV (ti:TI)(h:VH)(v:V)(K:V→Prop):Prop:=
 match v with
 | .ptr b o=>eO h b fun x=>(match x with
  | .var _ cs=>iq ti cs o K
  | .vari _ pre m _ xs post=>(match Nat.blt o pre.length with
   |true=>iq ti pre o K
   |false=>ci (xs.length=m∧pre.length+m≤o) (iq ti post (o-(pre.length+m)) K))
  | .fvb t e=>iq ti (enc t e).cells o K
  |_=>False)
 | .aptr b p i=>eO h b fun x=>(match x with
  | .vari _ pre _ t xs _=>Chk (Nat.beq p pre.length && !ti.agg && t.sz==1) (fB xs i fun e=>K (enc t e))
  |_=>False)
 | .eptr b i o=>eO h b fun x=>(match x with
  | .row _ t xs=>fB xs i fun e=>iq ti (enc t e).cells o K
  | .lit _ vs=>x7 vs i fun e=>iq ti e.cells o K
  |_=>False)
 | .fptr k i o=>eO h k fun x=>qX ti x i o K
 | .hpo k p=>iT p False fun i=>eO h k fun x=>qX ti x i 0 K
 | .faptr k i p j=>eO h k fun x=>(match x with
  | .fvari _ _ t xss=>Chk (Nat.beq p 0 && t.sz==1) (fB xss i fun xs=>(match ti.agg with
   |false=>fB xs j fun e=>K (enc t e)
   |true=>EH t xs j ti.sz fun l=>K (.agg l)))
  |_=>False)
 | .feptr k i j o=>eO h k fun x=>(match x with
  | .frow _ t xss=>fB xss i fun xs=>fB xs j fun e=>iq ti (enc t e).cells o K
  | .frowx _ t xss=>fB xss i fun ox=>iT ox False fun xs=>fB xs j fun e=>iq ti (enc t e).cells o K
  |_=>False)
 | .iptr t e o=>iq ti (enc t e).cells o K
 | .box t e=>iq ti (enc t e).cells 0 K
 | .obo t p=>iT p False fun e=>iq ti (enc t e).cells 0 K
 | .gp g=>iq ti [.gv g] 0 K
 |_=>False
theorem sr {P:Program}{T:TypeId}{ti:TI}(ht:ti.ok P T){h:VH}{k i o:Nat}{x:VB}(hx:look h k=some x){K:V→Prop}(hk:qX ti x i o K):∃r,dy P (toH h) T (.ptr (k,i) o)=some r.toD∧K r:=by
 unfold qX at hk
 split at hk
 ·rename_i T' t xs
  obtain⟨e,h4,h5⟩:=hk
  obtain⟨r,h6,h7⟩:=cV ht h5
  have hl:=av (i:=i) hx (d:=.var T' (ai t e).cells) (by simp only[VB.blks,be,h4,aI])
  exact⟨r,by simp only[dy,hl,cP,h6],h7⟩
 ·exact hk.elim
theorem sO {P:Program}{T:TypeId}{ti:TI}(ht:ti.ok P T){h:VH}{v:V}{K:V→Prop}(hk:xV ti h v K):∃r,dy P (toH h) T v.toD=some r.toD∧K r:=by
 unfold xV at hk
 split at hk
 ·rename_i b o
  obtain⟨x,h1,h3⟩:=bh hk
  split at h3
  ·rename_i T' cs
   have hl:=av (i:=0) h1 (d:=.var T' (ak cs)) rfl
   obtain⟨r,h4,h5⟩:=cV ht h3
   exact⟨r,by simp only[V.toD,dy,hl,h4],h5⟩
  ·rename_i T' pre m t xs post
   have hl:=av (i:=0) h1 (d:=.var T' (ak pre++xs.map (ai t)++ak post)) rfl
   split at h3
   ·obtain⟨r,h4,h5⟩:=cV ht h3
    exact⟨r,by simp only[V.toD,dy,hl,bH];exact wj h4,h5⟩
   ·obtain⟨⟨c1,c2⟩,h3⟩:=h3
    obtain⟨r,h4,h5⟩:=cV ht h3
    refine⟨r,?_,h5⟩
    simp only[V.toD,dy,hl]
    have h6:=tY (A:=ak pre++xs.map (ai t)) h4
    rw[aP,az,aL,c1] at h6
    rw[show pre.length+m+(o-(pre.length+m))=o by omega] at h6
    exact h6
  ·rename_i t e
   have hl:=av (i:=0) h1 (d:=.fvar (ai t e).cells) rfl
   obtain⟨r,h4,h5⟩:=cV ht h3
   exact⟨r,by simp only[V.toD,dy,hl,cP,h4],h5⟩
  ·exact h3.elim
 ·rename_i b p i
  obtain⟨x,h1,h3⟩:=bh hk
  split at h3
  ·rename_i T' pre m t xs post
   have hl:=av (i:=0) h1 (d:=.var T' (ak pre++xs.map (ai t)++ak post)) rfl
   obtain⟨c,h3⟩:=h3.ok
   simp only[aA,fK,beq_iff_eq] at c
   obtain⟨⟨c1,c2⟩,c3⟩:=c
   obtain⟨e,h4,h5⟩:=h3
   have hp:p=pre.length:=cq c1
   refine⟨enc t e,?_,h5⟩
   simp only[V.toD,dy,hl,kW]
   have hlt:=(aR.1 h4).1
   have ha:=ht.agg
   rw[c2] at ha
   refine GJ ha ?_
   rw[bH,eJ (by rw[aL];omega),aL,hp,Nat.add_sub_cancel_left,cW (by simpa using hlt),be,h4]
   rfl
  ·exact h3.elim
 ·rename_i b i o
  obtain⟨x,h1,h3⟩:=bh hk
  split at h3
  ·rename_i E t xs
   have hl:=av (i:=0) h1 (d:=.row E (xs.map (ai t))) rfl
   obtain⟨e,h4,h5⟩:=h3
   obtain⟨r,h6,h7⟩:=cV ht h5
   exact⟨r,by simp only[V.toD,dy,hl,be,h4,aI,cP,h6],h7⟩
  ·rename_i E vs
   have hl:=av (i:=0) h1 (d:=.row E (ak vs)) rfl
   obtain⟨e,h4,h5⟩:=le h3
   obtain⟨r,h6,h7⟩:=cV ht h5
   refine⟨r,?_,h7⟩
   simp only[V.toD,dy,hl,cX,be,h4,aI,bu]
   rw[←cX];exact h6
  ·exact h3.elim
 ·obtain⟨x,h1,h3⟩:=bh hk
  obtain⟨r,h4,h5⟩:=sr ht h1 h3
  exact⟨r,h4,h5⟩
 ·rename_i k p
  cases p with
  |none=>exact(hk.1 rfl).elim
  |some i=>
   obtain⟨x,h1,h3⟩:=bh (hk.2 i rfl)
   obtain⟨r,h4,h5⟩:=sr ht h1 h3
   exact⟨r,h4,h5⟩
 ·rename_i k i p j
  obtain⟨x,h1,h3⟩:=bh hk
  split at h3
  ·rename_i T' m t xss
   obtain⟨c,xs,h4,h8⟩:=h3.ok
   clear h3
   simp only[aA,beq_iff_eq] at c
   obtain⟨c1,c3⟩:=c
   have hl:=av (i:=i) h1 (d:=.var T' (xs.map (ai t))) (by simp only[VB.blks,be,h4,aI])
   have hp:p=0:=cq c1
   subst hp
   have ha:=ht.agg
   split at h8
   ·rename_i c2
    rw[c2] at ha
    obtain⟨e,h5,h6⟩:=h8
    refine⟨enc t e,?_,h6⟩
    simp only[V.toD,dy,hl,kW]
    exact GJ ha (by rw[eX,be,h5];rfl)
   ·rename_i c2
    rw[c2] at ha
    obtain⟨l,h5,h6,h7⟩:=xt h8
    refine⟨.agg l,?_,h7⟩
    simp only[V.toD,dy,hl]
    exact J5 ha ht.size (by rw[eX,az];exact h5) (by rw[eX];exact h6)
  ·exact h3.elim
 ·rename_i k i j o
  obtain⟨x,h1,h3⟩:=bh hk
  split at h3
  ·rename_i E t xss
   obtain⟨xs,h4,e,h5,h6⟩:=h3
   have hl:=av (i:=i) h1 (d:=.row E (xs.map (ai t))) (by simp only[VB.blks,be,h4,aI])
   obtain⟨r,h7,h8⟩:=cV ht h6
   exact⟨r,by simp only[V.toD,dy,hl,be,h5,aI,cP,h7],h8⟩
  ·rename_i E t xss
   obtain⟨ox,h4,h5⟩:=h3
   cases ox with
   |none=>exact(h5.1 rfl).elim
   |some xs=>
    obtain⟨e,h5,h6⟩:=h5.2 xs rfl
    have hl:=av (i:=i) h1 (d:=.row E (xs.map (ai t))) (by simp only[VB.blks,be,h4,aI,rowX])
    obtain⟨r,h7,h8⟩:=cV ht h6
    exact⟨r,by simp only[V.toD,dy,hl,be,h5,aI,cP,h7],h8⟩
  ·exact h3.elim
 ·obtain⟨r,h4,h5⟩:=cV ht hk
  exact⟨r,by simp only[V.toD,dy,cP,h4],h5⟩
 ·obtain⟨r,h4,h5⟩:=cV ht hk
  exact⟨r,by simp only[V.toD,dy,cP,h4],h5⟩
 ·rename_i t p
  cases p with
  |none=>exact(hk.1 rfl).elim
  |some e=>
   obtain⟨r,h4,h5⟩:=cV ht (hk.2 e rfl)
   exact⟨r,by simp only[V.toD,ai,dy,cP,h4],h5⟩
 ·obtain⟨r,h4,h5⟩:=cV ht hk
  exact⟨r,by simp only[V.toD,dy];exact h4,h5⟩
 ·exact hk.elim
variable {P:Program} {N:Nat}
def fC (P:Program)(N:Nat)(h:VH)(u:HL)(vu:VH)(f:List Nat):Prop:=
 cS h u vu∧∀o t d u1,OpS P N o t (puts u (toH h)) d u1 f→OpS P N o t (toH h) d (u++u1) f
theorem gd {h:VH}{f:List Nat}:fC P N h [] [] f:=⟨a7,fun o t d u1 hd=>hd⟩
theorem lh {h:VH}{u1 u2:HL}{v1 v2:VH}{f:List Nat}(h1:fC P N h u1 v1 f)(h2:fC P N (puts v1 h) u2 v2 f):fC P N h (u1++u2) (v1++v2) f:=by
 refine⟨rK h1.1 h2.1,fun o t d u hd=>?_⟩
 rw[bH]
 refine h1.2 o t d _ (pQ (fun b=>(h1.1.1 b).symm) (h2.2 o t d u (pQ (fun b=>?_) hd)))
 rw[bD]
 exact bT (h1.1.1 b)
theorem kD {t:Ty}(ht:t.pure=true)(x:t.den):∀c∈(ai t x).cells,leaf c=some c:=by
 intro c hc
 have hp:=(ki ht x).2
 rw[aM] at hp
 have hne:c≠ .nils:=by
  rintro rfl
  cases t<;>simp[Ty.pure] at ht
  case ob t=>cases x<;>simp[ai,D.cells] at hc
  all_goals simp[ai,D.cells,iJ,C5,fW] at hc
 unfold leaf
 rw[if_pos (hp c hc)]
 congr 1
 cases c<;>first|rfl|exact absurd rfl hne
theorem mV {f:D→Option D}:∀{l:List D},(∀c∈l,f c=some c)→l.mapM f=some l
 |[],_=>rfl
 |c::l,hl=>by simp[iw,hl c (bk ..),mV fun d hd=>hl d (bA _ hd)]
theorem uC {t:Ty}(ht:t.pure=true)(x:t.den):purE leaf (ai t x)=some (ai t x):=by
 by_cases hag:∃cs,ai t x= .agg cs
 ·obtain⟨cs,he⟩:=hag
  have:=kD ht x
  rw[he] at this⊢
  simp only[purE,D.cells] at this⊢
  rw[mV this]
  rfl
 ·have hc:(ai t x).cells=[ai t x]:=dh fun cs hcs=>hag ⟨cs,hcs⟩
  have h1:=kD ht x (ai t x) (by rw[hc];exact aY.2 rfl)
  have h2:purE leaf (ai t x)=leaf (ai t x):=by
   generalize ai t x=d at *
   cases d<;>first|rfl|exact absurd ⟨_,rfl⟩ hag
  rw[h2,h1]
theorem row_pure {t:Ty}(ht:t.pure=true)(xs:List t.den):(xs.map (ai t)).mapM (purE leaf)=some (xs.map (ai t)):=
 mV fun c hc=>by obtain⟨x,_,rfl⟩:=aB.1 hc;exact uC ht x
theorem Ew {h:VH}{b:Nat}{E:TypeId}{t:Ty}{xs:List t.den}(hb:look h b=some (.row E t xs))(ht:t.pure=true):frz (toH h) [(b,0)]=[((b,0),.froz (xs.map (ai t)))]:=by
 have hl:=av (i:=0) hb (d:=.row E (xs.map (ai t))) rfl
 simp[frz,frzB,hl,row_pure ht]
theorem IM {h:VH}{b:Nat}{E:TypeId}{t:Ty}{xs:List t.den}{f:List Nat}(hb:look h b=some (.row E t xs))(ht:t.pure=true)(hf:b∈f):fC P N h (frz (toH h) [(b,0)]) [(b,.froz t xs)] f:=by
 refine⟨by rw[Ew hb ht];exact gV hb rfl rfl,fun o t d u1 hd=>BN (fun k hk=>?_) hd⟩
 simp only[mQ,bK,eq,aY] at hk
 rw[hk];exact hf
theorem yf {h:VH}{b:Nat}{x y:VB}{d:Blk}{f:List Nat}(hb:look h b=some x)(hx:x.blks=[d])(hy:y.blks=[dE (toH h) d])(hf:b∈f∧∀c∈yX d,c.1∈f):fC P N h [((b,0),dE (toH h) d)] [(b,y)] f:=by
 have hl:=av (i:=0) hb (d:=d) (by rw[hx];rfl)
 refine⟨o5 (fun i hi=>?_) hy,fun o t d' u1 hd=>FN hl hf hd⟩
 rw[ap,hb]
 simp only[ba,hx]
 cases i with
 |zero=>exact absurd rfl hi
 |succ i=>rfl
theorem IL {h:VH}{b:Nat}{T:TypeId}{t:Ty}{x:t.den}{cs:List V}{f:List Nat}(hb:look h b=some (.var T cs))(hc:ak cs=(ai t x).cells)(ht:t.pure=true)(hf:b∈f):fC P N h (frz (toH h) [(b,0)]) [(b,.fvb t x)] f:=by
 have hl:=av (i:=0) hb (d:=.var T (ak cs)) rfl
 have hne:¬(ai t x).cells=[]:=by
  intro e
  have h1:=(fR t x).1
  have h2:=t.sz_pos
  rw[e] at h1
  simp at h1
  omega
 have e:frz (toH h) [(b,0)]=[((b,0),.fvar (ai t x).cells)]:=by simp[frz,frzB,hl,hc,mV (kD ht x),hne]
 refine⟨by rw[e];exact gV hb rfl rfl,fun o t d u1 hd=>BN (fun k hk=>?_) hd⟩
 simp only[mQ,bK,eq,aY] at hk
 rw[hk];exact hf
theorem oL {h:VH}{b k:Nat}{x y z:VB}{d:Blk}{f:List Nat}(hb:look h b=some x)(hx:x.blks=[d])(hl:d.live=true)(hk:look h k=some y)(hz:z.blks=y.blks++[d])(hbk:b≠k)(hf:b∈f∧k∈f):
  fC P N h [((b,0),.moved (k,y.blks.length)),((k,y.blks.length),d)] [(b,.moved k y.blks.length),(k,z)] f:=by
 have hlb:=av (i:=0) hb (d:=d) (by rw[hx];rfl)
 have hln:look (toH h) (k,y.blks.length)=none:=by rw[ap,hk];simp
 have hm:jm (toH h) [((b,0),(k,y.blks.length))]=some [((b,0),.moved (k,y.blks.length)),((k,y.blks.length),d)]:=by
  simp only[jm,hlb]
  rw[if_pos ⟨hl,hln⟩]
  rfl
 refine⟨?_,fun o t d' u1 hd=>C0 hm (fun g hg=>?_) hd⟩
 ·have h1:cS h [((b,0),.moved (k,y.blks.length))] [(b,.moved k y.blks.length)]:=o5 (fun i hi=>by
   rw[ap,hb]
   simp only[ba,hx]
   cases i with
   |zero=>exact absurd rfl hi
   |succ i=>rfl) rfl
  have hk':look (puts [(b,VB.moved k y.blks.length)] h) k=some y:=by
   show look (put b _ h) k=_
   rw[af,if_neg (cm hbk)];exact hk
  have h2:=GN (y:=z) hk' hz
  exact rK h1 h2
 ·simp only[gt,List.flatMap_nil,gw,mQ,bK,eq,aJ,gu,or_false] at hg
  rcases hg with rfl|rfl
  ·exact hf.1
  ·exact hf.2
inductive Sh where
 |any|frz|mr (k:Nat)|mp (k:Nat)|bx (t:Ty)
def Ty.shs:Ty→List Sh
 | .lst _=>[.frz]
 | .led=>[.frz,.any]
 | .vtx=>[.any,.any,.frz,.any]
 | .ppl=>[.any,.any,.frz,.any,.frz]
 | .wrl=>[.frz,.frz,.any,.frz,.frz]
 | .evt=>[.any,.any,.any,.any,.any,.frz,.any]
 | .odd=>[.any,.any,.frz,.any,.any]
 | .ob t=>[.bx t]
 | .hr k=>[.mr k]
 | .hp k=>[.mp k]
 | .vtxo k=>[.any,.any,.mr k,.any]
 | .pplm k=>[.any,.any,.frz,.any,.mr k]
 | .pplo k k'=>[.any,.any,.mr k,.any,.mr k']
 | .evto k=>[.any,.any,.any,.any,.any,.mr k,.any]
 | .nod k=>[.any,.any,.frz,.any,.any,.mr k]
 |_=>[]
def C7 {α:Type}(x:Nat)(a:α):List (Nat×α)→(List (Nat×α)→Prop)→Prop
 |[],K=>K [(x,a)]
 |(k,b)::l,K=>bif Nat.beq x k then K ((k,a)::l) else C7 x a l fun l'=>K ((k,b)::l')
theorem rz {α:Type}{x:Nat}{a:α}:∀{l:List (Nat×α)} {K:List (Nat×α)→Prop},C7 x a l K→K (put x a l)
 |[],K,h=>h
 |(k,b)::l,K,h=>by
  simp only[C7] at h
  simp only[put]
  by_cases e:x=k
  ·subst e
   simp only[Nat.beq_refl,cond_true] at h
   simpa using h
  ·have:Nat.beq x k=false:=by
    cases hb:Nat.beq x k with
    |false=>rfl
    |true=>exact absurd (cq hb) e
   rw[this] at h
   rw[if_neg e]
   exact rz h
def oO {α:Type}:List (Nat×α)→List (Nat×α)→(List (Nat×α)→Prop)→Prop
 |[],l,K=>K l
 |(x,a)::u,l,K=>C7 x a l fun l'=>oO u l' K
theorem jn {α:Type}:∀{u l:List (Nat×α)} {K:List (Nat×α)→Prop},oO u l K→K (puts u l)
 |[],l,K,h=>h
 |(x,a)::u,l,K,h=>jn (u:=u) (rz (K:=fun l'=>oO u l' K) h)
def EM:V→List Nat
 | .ref b| .ptr b _| .eptr b _ _| .vref b _ _| .aptr b _ _=>[b]
 | .fref k _| .fptr k _ _| .feptr k _ _ _| .faptr k _ _ _| .hro k _| .hpo k _=>[k]
 |_=>[]
mutual
def gq:V→List Nat
 | .agg cs=>fU cs
 | .tup cs=>fU cs
 | .clo _ cs=>fU cs
 | .ifc _ v=>gq v
 |v=>EM v
def fU:List V→List Nat
 |[]=>[]
 |v::l=>gq v++fU l
end
mutual
theorem kq:∀(v:V),∀b∈al v.toD,b.1∈gq v
 | .agg cs,b,hb=>by simp only[gq];exact d8 cs b (by simpa only[V.toD,al] using hb)
 | .tup cs,b,hb=>by simp only[gq];exact d8 cs b (by simpa only[V.toD,al] using hb)
 | .clo f cs,b,hb=>by simp only[gq];exact d8 cs b (by simpa only[V.toD,al] using hb)
 | .ifc T v,b,hb=>by simp only[gq];exact kq v b (by simpa only[V.toD,al] using hb)
 | .ref c,b,hb| .ptr c _,b,hb| .eptr c _ _,b,hb| .vref c _ _,b,hb| .aptr c _ _,b,hb| .fref c _,b,hb| .fptr c _ _,b,hb| .feptr c _ _ _,b,hb| .faptr c _ _ _,b,hb=>by
  simp only[V.toD,al,aY] at hb;subst hb;simp[gq,EM]
 | .hro k o,b,hb=>by
  cases o with
  |none=>cases hb
  |some i=>simp only[V.toD,mS,al,aY] at hb;subst hb;simp[gq,EM]
 | .hpo k o,b,hb=>by
  cases o with
  |none=>cases hb
  |some i=>simp only[V.toD,qu,al,aY] at hb;subst hb;simp[gq,EM]
 | .obo t o,b,hb=>by cases o<;>cases hb
 | .int ..,b,hb| .bool _,b,hb| .tt,b,hb| .ff,b,hb| .str _,b,hb| .lst ..,b,hb| .box ..,b,hb| .nilp,b,hb| .nils,b,hb| .nilf,b,hb| .nili,b,hb| .gp _,b,hb| .gv _,b,hb| .iptr ..,b,hb| .undef,b,hb| .junk,b,hb=>by cases hb
theorem d8:∀(l:List V),∀b∈bB (ak l),b.1∈fU l
 |[],b,hb=>by cases hb
 |v::l,b,hb=>by
  simp only[ak,bB,bl] at hb
  simp only[fU,bl]
  rcases hb with hb|hb
  ·exact .inl (kq v b hb)
  ·exact .inr (d8 l b hb)
end
def MO:V→V
 | .nils=>.lst (.int .i64) []
 |v=>v
theorem FF (v:V):(MO v).toD=nz0 v.toD:=by
 cases v
 case hro k o=>cases o<;>rfl
 case hpo k o=>cases o<;>rfl
 case obo t o=>cases o<;>rfl
 all_goals rfl
def j5:List V→List V
 |[]=>[]
 |v::l=>MO v::j5 l
theorem oG:∀l:List V,ak (j5 l)=(ak l).map nz0
 |[]=>rfl
 |v::l=>by simp only[j5,ak,bK,FF,oG l]
def OA (t:Ty)(cs:List V):V:=bif t.sz==1 then cs.headD .undef else .agg cs
def HI (h:VH)(sh:Sh)(v:V)(K:VH→List Nat→Prop):Prop:=
 match sh,v with
 | .frz,.ref b=>(match aU h b with
  |some (.row _ t xs)=>Chk t.pure (K [(b,.froz t xs)] [b])
  |_=>K [] [])
 | .mr k,.ref b=>(match aU h b,aU h k with
  |some (.row E t xs),some (.frow E' t' xss)=>Chk (Nat.beq E E' && !Nat.beq b k) (match nl t' t xs with
   |some xs'=>K [(b,.moved k xss.length),(k,.frow E' t' (xss++[xs']))] [b,k]
   |none=>False)
  |some (.row E t xs),some (.frowx E' t' xss)=>Chk (Nat.beq E E' && !Nat.beq b k) (match nl t' t xs with
   |some xs'=>K [(b,.moved k xss.length),(k,.frowx E' t' (xss++[some xs']))] [b,k]
   |none=>False)
  |_,_=>K [] [])
 |_,_=>K [] []
theorem Bf {h:VH}{sh:Sh}{v:V}{K:VH→List Nat→Prop}(hk:HI h sh v K):∃u vu g,(∀f:List Nat,(∀k∈g,k∈f)→fC P N h u vu f)∧K vu g:=by
 unfold HI at hk
 split at hk
 ·rename_i b
  split at hk
  ·rename_i E t xs hb
   obtain⟨c,hk⟩:=hk.ok
   rw[aS] at hb
   exact⟨_,_,_,fun f hf=>IM hb c (hf b (by simp)),hk⟩
  ·exact⟨[],[],[],fun f _=>gd,hk⟩
 ·rename_i k b
  split at hk
  ·rename_i E t xs E' t' xss hb hk'
   obtain⟨c,hk⟩:=hk.ok
   simp only[aA,fK] at c
   obtain⟨c1,c2⟩:=c
   obtain rfl:=cq c1
   have hbk:b≠k:=by rintro rfl;simp at c2
   rw[aS] at hb hk'
   split at hk
   ·rename_i xs' hx
    have hce:=ib hx
    have hpre:∀f:List Nat,(∀g∈[b,k],g∈f)→fC P N h [((b,0),.moved (k,(VB.frow E t' xss).blks.length)),((k,(VB.frow E t' xss).blks.length),.row E (xs.map (ai t)))] [(b,.moved k (VB.frow E t' xss).blks.length),(k,.frow E t' (xss++[xs']))] f:=fun f hf=>
     oL hb rfl rfl hk' (by simp only[VB.blks,ce,bK,eq,hce]) hbk ⟨hf b (by simp),hf k (by simp)⟩
    have e:(VB.frow E t' xss).blks.length=xss.length:=by simp[VB.blks]
    rw[e] at hpre
    exact⟨_,_,_,hpre,hk⟩
   ·exact hk.elim
  ·rename_i E t xs E' t' xss hb hk'
   obtain⟨c,hk⟩:=hk.ok
   simp only[aA,fK] at c
   obtain⟨c1,c2⟩:=c
   obtain rfl:=cq c1
   have hbk:b≠k:=by rintro rfl;simp at c2
   rw[aS] at hb hk'
   split at hk
   ·rename_i xs' hx
    have hce:=ib hx
    have hpre:∀f:List Nat,(∀g∈[b,k],g∈f)→fC P N h [((b,0),.moved (k,(VB.frowx E t' xss).blks.length)),((k,(VB.frowx E t' xss).blks.length),.row E (xs.map (ai t)))] [(b,.moved k (VB.frowx E t' xss).blks.length),(k,.frowx E t' (xss++[some xs']))] f:=fun f hf=>
     oL hb rfl rfl hk' (by simp only[VB.blks,ce,bK,eq,rowX,hce]) hbk ⟨hf b (by simp),hf k (by simp)⟩
    have e:(VB.frowx E t' xss).blks.length=xss.length:=by simp[VB.blks]
    rw[e] at hpre
    exact⟨_,_,_,hpre,hk⟩
   ·exact hk.elim
  ·exact⟨[],[],[],fun f _=>gd,hk⟩
 ·exact⟨[],[],[],fun f _=>gd,hk⟩
def Ep (h:VH):List Sh→List V→(VH→VH→List Nat→Prop)→Prop
 |sh::shs,v::vs,K=>HI h sh v fun vu g=>oO vu h fun h1=>Ep h1 shs vs fun h2 vu2 g2=>K h2 (vu++vu2) (g++g2)
 |_,_,K=>K h [] []
theorem xo:∀{shs:List Sh} {vs:List V} {h:VH} {K:VH→VH→List Nat→Prop},Ep h shs vs K→∃u vu g,(∀f:List Nat,(∀k∈g,k∈f)→fC P N h u vu f)∧K (puts vu h) vu g
 |[],vs,h,K,hk=>⟨[],[],[],fun f _=>gd,by cases vs<;>exact hk⟩
 |sh::shs,[],h,K,hk=>⟨[],[],[],fun f _=>gd,hk⟩
 |sh::shs,v::vs,h,K,hk=>by
  obtain⟨u1,v1,g1,p1,hk⟩:=Bf (P:=P) (N:=N) hk
  have hk:=jn hk
  obtain⟨u2,v2,g2,p2,hk⟩:=xo hk
  refine⟨u1++u2,v1++v2,g1++g2,fun f hf=>lh (p1 f fun k hk=>hf k (eh _ hk)) (p2 f fun k hk=>hf k (eK _ hk)),?_⟩
  rw[bD]
  exact hk
def yB (h:VH)(b:Nat)(T:TypeId)(cs:List V)(t:Ty)(K:VH→VH→List Nat→t.den→List V→Prop):Prop:=
 Ep h t.shs cs fun h1 vu1 g1=>(match aU h1 b with
  |some (.var T' cs')=>Chk (Nat.beq T T') (np h1 cs' fun cs2=>(match MK t (OA t (j5 cs2)) with
   |some x=>Chk (lenB (j5 cs2) t.sz) (oO [(b,.var T (j5 cs2))] h1 fun h2=>K h2 (vu1++[(b,.var T (j5 cs2))]) (g1++b::fU cs') x (j5 cs2))
   |none=>False))
  |_=>False)
where
 lenB:List V→Nat→Bool
 |[],0=>true
 |_::l,n+1=>lenB l n
 |_,_=>false
theorem BA:∀{l:List V} {n:Nat},yB.lenB l n=true→l.length=n
 |[],0,_=>rfl
 |_::l,n+1,h=>by simp[BA (l:=l) (n:=n) h]
 |[],_+1,h=>by cases h
 |_::_,0,h=>by cases h
theorem CX {t:Ty}{cs:List V}{x:t.den}(hl:cs.length=t.sz)(hd:(OA t cs).toD=ai t x):ak cs=(ai t x).cells:=by
 unfold OA at hd
 by_cases hs:t.sz=1
 ·have e:(t.sz==1)=true:=by simp[hs]
  rw[e,cond_true] at hd
  rw[hs] at hl
  match cs,hl with
  |[c],_=>
   simp only[List.headD_cons] at hd
   have h1:=(fR t x).2
   have hone:(ai t x).one=true:=by
    cases hq:ai t x with
    |agg ds=>
     have hlen:=(fR t x).1
     rw[hq,hs] at hlen
     cases t<;>simp[Ty.sz] at hs<;>first|(cases hq;done)|(simp[ai] at hq;done)|(cases x<;>simp[ai,mS,qu] at hq;done)
    |tup ds=>cases t<;>first|(simp[ai] at hq;done)|(cases x<;>simp[ai,mS,qu] at hq;done)
    |undef=>cases t<;>first|(simp[ai] at hq;done)|(cases x<;>simp[ai,mS,qu] at hq;done)
    |_=>rfl
   rw[cQ hone,←hd]
   rfl
 ·have e:(t.sz==1)=false:=by simp[hs]
  rw[e,cond_false] at hd
  rw[←hd]
  rfl
theorem zr {h:VH}{T:TypeId}{cs cs2:List V}(hf:lc (toH h) (ak cs)=ak cs2):dE (toH h) (.var T (ak cs))= .var T (ak (j5 cs2)):=by
 simp only[dE]
 rw[oG,←hf,fh,ep]
 rfl
theorem yC {h:VH}{b:Nat}{T:TypeId}{cs:List V}{t:Ty}{K:VH→VH→List Nat→t.den→List V→Prop}(hk:yB h b T cs t K):∃u vu g x cs2,(∀f:List Nat,(∀k∈g,k∈f)→fC P N h u vu f)∧look (puts vu h) b=some (.var T cs2)∧ak cs2=(ai t x).cells∧b∈g∧K (puts vu h) vu g x cs2:=by
 unfold yB at hk
 obtain⟨u1,v1,g1,p1,hk⟩:=xo (P:=P) (N:=N) hk
 split at hk
 ·rename_i T' cs' hb
  obtain⟨c,hk1⟩:=hk.ok
  obtain rfl:=cq c
  rw[aS] at hb
  obtain⟨cs2,f1,hk⟩:=je hk1
  split at hk
  ·rename_i x hx
   obtain⟨c2,hk⟩:=hk.ok
   have hk:=jn hk
   have hlast:=zr (T:=T) f1
   refine⟨u1++[((b,0),dE (toH (puts v1 h)) (.var T (ak cs')))],v1++[(b,.var T (j5 cs2))],g1++b::fU cs',x,j5 cs2,fun f hf=>lh (p1 f fun k hk=>hf k (eh _ hk)) (yf (y:=.var T (j5 cs2)) hb rfl (by rw[hlast];rfl) ⟨hf b (by simp),fun c hc=>hf c.1 ?_⟩),?_,CX (BA c2) (u7 hx),by simp,?_⟩
   ·refine eK _ (bA _ (d8 cs' c ?_))
    rw[gA]
    exact hc
   ·rw[bD]
    show look (put b _ _) b=_
    rw[af];simp
   ·rw[bD];exact hk
  ·exact hk.elim
 ·exact hk.elim
def Kz (h:VH)(sh:Sh)(v:V)(K:VH→List Nat→Prop):Prop:=
 match sh,v with
 | .bx t,.ptr b 0=>(match aU h b with
  |some (.var T cs)=>Chk t.pure (yB h b T cs t fun _ vu g x _=>K (vu++[(b,.fvb t x)]) g)
  |_=>K [] [])
 | .mp k,.ptr b 0=>(match aU h b,aU h k with
  |some (.var T cs),some (.fvar _ t _)=>Chk (!Nat.beq b k) (yB h b T cs t fun h2 vu g x _=>(match aU h2 k with
   |some (.fvar T' t' xs)=>Chk (Nat.beq T T') (match wU t' t x with
    |some x'=>K (vu++[(b,.moved k xs.length),(k,.fvar T' t' (xs++[x']))]) (k::g)
    |none=>False)
   |_=>False))
  |some (.vari T [] _ t xs []),some (.fvari T' m t' xss)=>Chk (!Nat.beq b k && Nat.beq T T') (match nl t' t xs with
   |some xs'=>K [(b,.moved k xss.length),(k,.fvari T' m t' (xss++[xs']))] [b,k]
   |none=>False)
  |_,_=>K [] [])
 |sh,v=>HI h sh v K
theorem HH {h:VH}{sh:Sh}{v:V}{K:VH→List Nat→Prop}(hk:Kz h sh v K):∃u vu g,(∀f:List Nat,(∀k∈g,k∈f)→fC P N h u vu f)∧K vu g:=by
 unfold Kz at hk
 split at hk
 ·rename_i t b
  split at hk
  ·rename_i T cs hb
   obtain⟨c,hk⟩:=hk.ok
   obtain⟨u,vu,g,x,cs2,p1,p2,p3,p4,hk⟩:=yC (P:=P) (N:=N) hk
   exact⟨_,_,_,fun f hf=>lh (p1 f hf) (IL p2 p3 c (hf b p4)),hk⟩
  ·exact⟨[],[],[],fun f _=>gd,hk⟩
 ·rename_i k b
  split at hk
  ·rename_i T cs T0 t xs0 hb hk0
   obtain⟨c,hk⟩:=hk.ok
   have hbk:b≠k:=by rintro rfl;simp at c
   obtain⟨u,vu,g,x,cs2,p1,p2,p3,p4,hk⟩:=yC (P:=P) (N:=N) hk
   split at hk
   ·rename_i T' t' xs hk'
    obtain⟨c1,hk⟩:=hk.ok
    obtain rfl:=cq c1
    rw[aS] at hk'
    split at hk
    ·rename_i x' hx
     have hpre:∀f:List Nat,(∀g'∈k::g,g'∈f)→fC P N (puts vu h) [((b,0),.moved (k,(VB.fvar T t' xs).blks.length)),((k,(VB.fvar T t' xs).blks.length),.var T (ak cs2))] [(b,.moved k (VB.fvar T t' xs).blks.length),(k,.fvar T t' (xs++[x']))] f:=fun f hf=>
      oL p2 rfl rfl hk' (by simp only[VB.blks,ce,bK,eq,p3,r6 hx]) hbk ⟨hf b (bA _ p4),hf k (by simp)⟩
     have e:(VB.fvar T t' xs).blks.length=xs.length:=by simp[VB.blks]
     rw[e] at hpre
     exact⟨_,_,_,fun f hf=>lh (p1 f fun k hk=>hf k (bA _ hk)) (hpre f hf),hk⟩
    ·exact hk.elim
   ·exact hk.elim
  ·rename_i T m0 t xs T' m t' xss hb hk0
   obtain⟨c,hk⟩:=hk.ok
   simp only[aA] at c
   have hbk:b≠k:=by rintro rfl;simp at c
   obtain rfl:=cq c.2
   rw[aS] at hb hk0
   split at hk
   ·rename_i xs' hx
    have e:(VB.fvari T m t' xss).blks.length=xss.length:=by simp[VB.blks]
    have hpre:∀f:List Nat,(∀g'∈[b,k],g'∈f)→fC P N h [((b,0),.moved (k,(VB.fvari T m t' xss).blks.length)),((k,(VB.fvari T m t' xss).blks.length),.var T (xs'.map (ai t')))] [(b,.moved k (VB.fvari T m t' xss).blks.length),(k,.fvari T m t' (xss++[xs']))] f:=fun f hf=>
     oL hb (by simp only[VB.blks,ak,eo,gw,ib hx]) rfl hk0 (by simp only[VB.blks,ce,bK,eq]) hbk ⟨hf b (by simp),hf k (by simp)⟩
    rw[e] at hpre
    exact⟨_,_,_,hpre,hk⟩
   ·exact hk.elim
  ·exact⟨[],[],[],fun f _=>gd,hk⟩
 ·exact Bf hk
def Be (h:VH):List Sh→List V→(VH→VH→List Nat→Prop)→Prop
 |sh::shs,v::vs,K=>Kz h sh v fun vu g=>oO vu h fun h1=>Be h1 shs vs fun h2 vu2 g2=>K h2 (vu++vu2) (g++g2)
 |_,_,K=>K h [] []
theorem sv:∀{shs:List Sh} {vs:List V} {h:VH} {K:VH→VH→List Nat→Prop},Be h shs vs K→∃u vu g,(∀f:List Nat,(∀k∈g,k∈f)→fC P N h u vu f)∧K (puts vu h) vu g
 |[],vs,h,K,hk=>⟨[],[],[],fun f _=>gd,by cases vs<;>exact hk⟩
 |sh::shs,[],h,K,hk=>⟨[],[],[],fun f _=>gd,hk⟩
 |sh::shs,v::vs,h,K,hk=>by
  obtain⟨u1,v1,g1,p1,hk⟩:=HH (P:=P) (N:=N) hk
  have hk:=jn hk
  obtain⟨u2,v2,g2,p2,hk⟩:=sv hk
  refine⟨u1++u2,v1++v2,g1++g2,fun f hf=>lh (p1 f fun k hk=>hf k (eh _ hk)) (p2 f fun k hk=>hf k (eK _ hk)),?_⟩
  rw[bD]
  exact hk
end Go.Proofs.YtpefhoohfkeflacGreatDoor.Am
namespace Go.Proofs.YtpefhoohfkeflacGreatDoor.Am
open Go Go.RowKit
def pm (op:BinOp)(tk:TK)(d e:V)(K:V→Prop):Prop:=
 match d,e with
 | .int k x,.int k' y=>(match decEq k k' with
  |isTrue _=>(match op with
   | .add=>Ari k (x+y) fun z=>K (.int k z)
   | .sub=>Ari k (x-y) fun z=>K (.int k z)
   | .mul=>Ari k (x*y) fun z=>K (.int k z)
   | .quo=>ci (y≠0) (Ari k (x.tdiv y) fun z=>K (.int k z))
   | .rem=>ci (y≠0) (K (.int k (x.tmod y)))
   | .and=>K (.int k (k.wrap (BitVec.ofInt k.bits x &&& BitVec.ofInt k.bits y).toNat))
   | .or=>K (.int k (k.wrap (BitVec.ofInt k.bits x|||BitVec.ofInt k.bits y).toNat))
   | .xor=>K (.int k (k.wrap (BitVec.ofInt k.bits x^^^BitVec.ofInt k.bits y).toNat))
   | .eql=>K (.bool (x==y))
   | .neq=>K (.bool (x !=y))
   | .lss=>K (.bool (decide (x<y)))
   | .leq=>K (.bool (decide (x≤y)))
   | .gtr=>K (.bool (decide (y<x)))
   | .geq=>K (.bool (decide (y≤x)))
   |_=>False)
  |isFalse _=>False)
 | .str x,.str y=>(match op with
  | .add=>ci (x.size+y.size≤9223372036854775807) (K (.str (x++y)))
  | .eql=>K (.bool (x.toList==y.toList))
  | .neq=>K (.bool !(x.toList==y.toList))
  |_=>False)
 | .bool x,.bool y=>(match tk,op with
  | .bool,.eql=>K (.bool (x==y))
  | .bool,.neq=>K (.bool !(x==y))
  |_,_=>False)
 | .bool x,.tt=>(match tk,op with
  | .bool,.eql=>K (.bool x)
  | .bool,.neq=>K (.bool !x)
  |_,_=>False)
 | .bool x,.ff=>(match tk,op with
  | .bool,.eql=>K (.bool !x)
  | .bool,.neq=>K (.bool x)
  |_,_=>False)
 |d,.nils=>slN d fun r=>(match tk,op with
  | .slice _,.eql=>K (.bool r)
  | .slice _,.neq=>K (.bool !r)
  |_,_=>False)
 |d,e=>nilK d e fun r=>(match tk,op with
  | .ptr _,.eql=>K (.bool r)
  | .ptr _,.neq=>K (.bool !r)
  |_,_=>False)
where
 slN (v:V) (K:Bool→Prop):Prop:=match v with
  | .nils=>K true
  | .lst _ (_::_)=>K false
  | .ref _| .vref .. | .fref ..=>K false
  | .hro _ (some _)=>K false
  |_=>False
 isN (v:V) (K:Bool→Prop):Prop:=match v with
  | .nilp=>K true
  | .ptr .. | .eptr .. | .aptr .. | .iptr .. | .box .. | .fptr .. | .feptr .. | .faptr ..=>K false
  | .hpo _ o=>K o.isNone
  | .obo _ o=>K o.isNone
  |_=>False
 nilK (d e:V) (K:Bool→Prop):Prop:=match d,e with
  | .nilp,e=>isN e K
  |d,.nilp=>isN d K
  |_,_=>False
def dx (P:Program)(op:BinOp)(T:TypeId)(d e:D):Option D:=
 match fp op d e with
 |some r=>some r
 |none=>(match cZ P op T d e with
  |some r=>some r
  |none=>cw op T P d e)
theorem vK {v:V}{K:Bool→Prop}(hk:pm.isN v K):∃r,((r=true∧v.toD= .nilp)∨(r=false∧eS v.toD=true∧v.toD≠ .nilp))∧K r:=by
 unfold pm.isN at hk
 split at hk
 ·exact⟨true,.inl ⟨rfl,rfl⟩,hk⟩
 all_goals first|exact hk.elim|exact⟨false,.inr ⟨rfl,rfl,by simp[V.toD]⟩,hk⟩|skip
 ·rename_i k o
  cases o with
  |none=>exact⟨true,.inl ⟨rfl,rfl⟩,hk⟩
  |some i=>exact⟨false,.inr ⟨rfl,rfl,by simp[V.toD,qu]⟩,hk⟩
 ·rename_i t o
  cases o with
  |none=>exact⟨true,.inl ⟨rfl,rfl⟩,hk⟩
  |some i=>exact⟨false,.inr ⟨rfl,rfl,by simp[V.toD,ai]⟩,hk⟩
theorem Mg {v:V}{K:Bool→Prop}(hk:pm.slN v K):∃r,xD v.toD=some r∧(∀op,fp op v.toD .nils=none)∧K r:=by
 unfold pm.slN at hk
 split at hk
 ·exact⟨true,rfl,fun _=>rfl,hk⟩
 ·exact⟨false,rfl,fun _=>rfl,hk⟩
 ·exact⟨false,rfl,fun _=>rfl,hk⟩
 ·exact⟨false,rfl,fun _=>rfl,hk⟩
 ·exact⟨false,rfl,fun _=>rfl,hk⟩
 ·exact⟨false,rfl,fun _=>rfl,hk⟩
 ·exact hk.elim
theorem Fz {d e:V}{K:Bool→Prop}(hk:pm.nilK d e K):∃r,K r:=by
 unfold pm.nilK at hk
 split at hk
 ·obtain⟨r,_,h2⟩:=vK hk;exact⟨r,h2⟩
 ·obtain⟨r,_,h2⟩:=vK hk;exact⟨r,h2⟩
 ·exact hk.elim
theorem BH {P:Program}{op:BinOp}{T E:TypeId}(hu:P.underlying T=some (.pointer E)){d e:V}{K:Bool→Prop}(hk:pm.nilK d e K):
  ∃r,dx P .eql T d.toD e.toD=some (.bool r)∧dx P .neq T d.toD e.toD=some (.bool !r)∧K r:=by
 unfold pm.nilK at hk
 have key:∀x:D,eS x=true→x≠ .nilp→(∀op,fp op .nilp x=none∧fp op x .nilp=none):=by
  intro x hx hn op
  cases x<;>simp[eS] at hx<;>exact⟨rfl,rfl⟩
 split at hk
 ·obtain⟨r,h1,h2⟩:=vK hk
  refine⟨r,?_,?_,h2⟩<;>rcases h1 with⟨rfl,h1⟩|⟨rfl,h1,h3⟩
  ·simp[dx,V.toD,h1,fp,cZ,hu]
  ·simp only[dx,V.toD,(key _ h1 h3 _).1,cZ,hu]
   generalize e.toD=x at *
   cases x<;>simp[eS] at h1<;>simp[eS]
  ·simp[dx,V.toD,h1,fp,cZ,hu]
  ·simp only[dx,V.toD,(key _ h1 h3 _).1,cZ,hu]
   generalize e.toD=x at *
   cases x<;>simp[eS] at h1<;>simp[eS]
 ·obtain⟨r,h1,h2⟩:=vK hk
  refine⟨r,?_,?_,h2⟩<;>rcases h1 with⟨rfl,h1⟩|⟨rfl,h1,h3⟩
  ·simp[dx,V.toD,h1,fp,cZ,hu]
  ·simp only[dx,V.toD,(key _ h1 h3 _).2,cZ,hu]
   generalize d.toD=x at *
   cases x<;>simp[eS] at h1<;>simp[eS]
  ·simp[dx,V.toD,h1,fp,cZ,hu]
  ·simp only[dx,V.toD,(key _ h1 h3 _).2,cZ,hu]
   generalize d.toD=x at *
   cases x<;>simp[eS] at h1<;>simp[eS]
 ·exact hk.elim
theorem Hg {P:Program}{op:BinOp}{T:TypeId}{tk:TK}(ht:tk.ok P T){d e:V}{K:V→Prop}(hk:pm op tk d e K):∃r,dx P op T d.toD e.toD=some r.toD∧K r:=by
 unfold pm at hk
 split at hk
 ·rename_i k x k' y
  split at hk
  ·rename_i e' _
   subst e'
   split at hk
   ·exact⟨_,by simp only[dx,V.toD,fp,if_true],hk.ok⟩
   ·exact⟨_,by simp only[dx,V.toD,fp,if_true],hk.ok⟩
   ·exact⟨_,by simp only[dx,V.toD,fp,if_true],hk.ok⟩
   ·exact⟨_,by simp only[dx,V.toD,fp,if_true,if_neg hk.1],hk.2.ok⟩
   ·exact⟨_,by simp only[dx,V.toD,fp,if_true,if_neg hk.1],hk.2⟩
   all_goals first|exact hk.elim|exact⟨_,by simp only[dx,V.toD,fp,if_true],hk⟩
  ·exact hk.elim
 ·split at hk
  ·exact⟨_,by simp only[dx,V.toD,fp,if_pos hk.1],hk.2⟩
  all_goals first|exact hk.elim|exact⟨_,by simp only[dx,V.toD,fp],hk⟩
 ·split at hk
  ·have hu:P.underlying T=some .bool:=ht
   exact⟨_,by simp[dx,V.toD,fp,cZ,cw,hu],hk⟩
  ·have hu:P.underlying T=some .bool:=ht
   exact⟨_,by simp[dx,V.toD,fp,cZ,cw,hu],hk⟩
  ·exact hk.elim
 ·rename_i x
  split at hk
  ·have hu:P.underlying T=some .bool:=ht
   exact⟨.bool x,by cases x<;>simp[dx,V.toD,fp,cZ,cw,hu],hk⟩
  ·have hu:P.underlying T=some .bool:=ht
   exact⟨.bool !x,by cases x<;>simp[dx,V.toD,fp,cZ,cw,hu],hk⟩
  ·exact hk.elim
 ·rename_i x
  split at hk
  ·have hu:P.underlying T=some .bool:=ht
   exact⟨.bool !x,by cases x<;>simp[dx,V.toD,fp,cZ,cw,hu],hk⟩
  ·have hu:P.underlying T=some .bool:=ht
   exact⟨.bool x,by cases x<;>simp[dx,V.toD,fp,cZ,cw,hu],hk⟩
  ·exact hk.elim
 ·obtain⟨r,h1,h2,h3⟩:=Mg hk
  clear hk
  split at h3
  ·rename_i E
   have hu:P.underlying T=some (.slice E):=ht
   exact⟨.bool r,by simp only[dx,show V.nils.toD=D.nils from rfl,h2,cZ,hu,h1,aI,V.toD],h3⟩
  ·rename_i E
   have hu:P.underlying T=some (.slice E):=ht
   exact⟨.bool !r,by simp only[dx,show V.nils.toD=D.nils from rfl,h2,cZ,hu,h1,aI,V.toD],h3⟩
  ·exact h3.elim
 ·split at hk
  ·rename_i E
   obtain⟨r,h1,h2,h3⟩:=BH (op:=.eql) (show P.underlying T=some (.pointer E) from ht) hk
   exact⟨.bool r,h1,h3⟩
  ·rename_i E
   obtain⟨r,h1,h2,h3⟩:=BH (op:=.eql) (show P.underlying T=some (.pointer E) from ht) hk
   exact⟨.bool !r,h2,h3⟩
  ·exact(Fz hk).elim fun _ h=>h.elim
def E3 (op:BinOp)(cn:Bool)(d e:V)(K:V→Prop):Prop:=
 match d,e with
 | .nili,.nili=>(match cn with|true=>eqn true|false=>False)
 | .nili,.gv _=>eqn false
 | .nili,.ifc ..=>eqn false
 | .gv _,.nili=>eqn false
 | .ifc ..,.nili=>eqn false
 |_,_=>False
where
 eqn (b:Bool):Prop:=match op with
  | .eql=>K (.bool b)
  | .neq=>K (.bool !b)
  |_=>False
theorem H6 {P:Program}{op:BinOp}{T:TypeId}{cn:Bool}(ht:xC P T=true){d e:V}{K:V→Prop}(hk:E3 op cn d e K):
  ∃r,fp op d.toD e.toD=none∧cZ P op T d.toD e.toD=none∧cw op T P d.toD e.toD=none∧gy P op T cn d.toD e.toD=some r.toD∧K r:=by
 obtain⟨ms,hu⟩:∃ms,P.underlying T=some (.interface ms):=by
  unfold xC at ht
  split at ht
  ·exact⟨_,by assumption⟩
  ·cases ht
 have key:∀(x y:D) (b:Bool),fp op x y=none→(lC x=some true∧lC y=some true∧b=true∧cn=true∨lC x=some true∧lC y=some false∧b=false∨lC x=some false∧lC y=some true∧b=false)→E3.eqn op K b→
   ∃r:V,fp op x y=none∧cZ P op T x y=none∧cw op T P x y=none∧gy P op T cn x y=some r.toD∧K r:=by
  intro x y b h0 h hq
  have h1:cZ P op T x y=none:=by simp[cZ,hu]
  have h2:cw op T P x y=none:=by simp[cw,hu]
  unfold E3.eqn at hq
  split at hq
  ·refine⟨.bool b,h0,h1,h2,?_,hq⟩
   rcases h with⟨a1,a2,rfl,a4⟩|⟨a1,a2,rfl⟩|⟨a1,a2,rfl⟩<;>cases x<;>simp only[lC,aw,reduceCtorEq] at a1<;>cases y<;>simp only[lC,aw,reduceCtorEq] at a2<;>first|(simp[gy,hu,lC,V.toD, *];done)|(cases a1;done)|(cases a2;done)
  ·refine⟨.bool !b,h0,h1,h2,?_,hq⟩
   rcases h with⟨a1,a2,rfl,a4⟩|⟨a1,a2,rfl⟩|⟨a1,a2,rfl⟩<;>cases x<;>simp only[lC,aw,reduceCtorEq] at a1<;>cases y<;>simp only[lC,aw,reduceCtorEq] at a2<;>first|(simp[gy,hu,lC,V.toD, *];done)|(cases a1;done)|(cases a2;done)
  ·exact hq.elim
 unfold E3 at hk
 split at hk
 ·split at hk
  ·exact key _ _ true rfl (.inl ⟨rfl,rfl,rfl,rfl⟩) hk
  ·exact hk.elim
 ·exact key _ _ false rfl (.inr (.inl ⟨rfl,rfl,rfl⟩)) hk
 ·exact key _ _ false rfl (.inr (.inl ⟨rfl,rfl,rfl⟩)) hk
 ·exact key _ _ false rfl (.inr (.inr ⟨rfl,rfl,rfl⟩)) hk
 ·exact key _ _ false rfl (.inr (.inr ⟨rfl,rfl,rfl⟩)) hk
 ·exact hk.elim
def Mq (op:BinOp)(d e:V)(K:V→Prop):Prop:=
 match d,e with
 | .agg [.int k x,.int k2 x2],.agg [.int k' y,.int k2' y2]=>ci (k=k'∧k2=k2') (match op with
  | .eql=>K (.bool (x==y && x2==y2))
  | .neq=>K (.bool !(x==y && x2==y2))
  |_=>False)
 |_,_=>False
theorem Jf {P:Program}{op:BinOp}{T:TypeId}(ht:GM P T=true){d e:V}{K:V→Prop}(hk:Mq op d e K):
  ∃r:V,fp op d.toD e.toD=none∧cZ P op T d.toD e.toD=none∧cw op T P d.toD e.toD=none∧(∀cn,gy P op T cn d.toD e.toD=none)∧nA P op T d.toD e.toD=some r.toD∧K r:=by
 obtain⟨fs,hu⟩:∃fs,P.underlying T=some (.struct fs):=by
  unfold GM at ht
  split at ht
  ·exact⟨_,by assumption⟩
  ·cases ht
 unfold Mq at hk
 split at hk
 ·rename_i k x k2 x2 k' y k2' y2
  obtain⟨⟨rfl,rfl⟩,hk⟩:=hk
  have h0:∀(p q:List D),fp op (.agg p) (.agg q)=none:=fun p q=>by cases op<;>rfl
  have h1:∀(p q:D),cZ P op T p q=none:=fun p q=>by simp[cZ,hu]
  have h2:∀(p q:D),cw op T P p q=none:=fun p q=>by simp[cw,hu]
  have h3:∀cn (p q:D),gy P op T cn p q=none:=fun cn p q=>by simp[gy,hu]
  split at hk
  ·exact⟨_,h0 _ _,h1 _ _,h2 _ _,fun cn=>h3 cn _ _,by simp only[V.toD,ak,nA,ht,and_self,if_true],hk⟩
  ·exact⟨_,h0 _ _,h1 _ _,h2 _ _,fun cn=>h3 cn _ _,by simp only[V.toD,ak,nA,ht,and_self,if_true],hk⟩
  ·exact hk.elim
 ·exact hk.elim
def J1 (P:Program)(T:TypeId):Bool:=match P.underlying T with|some (.pointer E)=>(match sizeT P E with|some n=>n !=0|none=>false)|_=>false
def LN (P:Program)(T:TypeId)(op:BinOp)(h:VH)(k k':Nat)(o o':Option Nat)(K:V→Prop):Prop:=
 iT o False fun i=>iT o' False fun j=>Chk (Nat.beq k k') (eO h k fun x=>(match x with
  | .fvar _ _ xs=>fB xs i fun _=>fB xs j fun _=>Mk (J1 P T) (match op with
   | .eql=>K (.bool (decide (i=j)))
   | .neq=>K (.bool !(decide (i=j)))
   |_=>False)
  |_=>False))
theorem IG {P:Program}{T:TypeId}{op:BinOp}{h:VH}{k k':Nat}{o o':Option Nat}{K:V→Prop}(hk:LN P T op h k k' o o' K):
  ∃r:V,fp op (V.hpo k o).toD (V.hpo k' o').toD=none∧cZ P op T (V.hpo k o).toD (V.hpo k' o').toD=none∧cw op T P (V.hpo k o).toD (V.hpo k' o').toD=none∧(∀cn,gy P op T cn (V.hpo k o).toD (V.hpo k' o').toD=none)∧nA P op T (V.hpo k o).toD (V.hpo k' o').toD=none∧kS P op T (toH h) (V.hpo k o).toD (V.hpo k' o').toD=some r.toD∧K r:=by
 unfold LN at hk
 cases o with
 |none=>exact(hk.1 rfl).elim
 |some i=>
  have hk:=hk.2 i rfl
  cases o' with
  |none=>exact(hk.1 rfl).elim
  |some j=>
   have hk:=hk.2 j rfl
   obtain⟨c,hq⟩:=hk.ok
   obtain rfl:=cq c
   obtain⟨x,x1,hk⟩:=bh hq
   split at hk
   ·rename_i T' t' xs
    obtain⟨x,g1,y,g2,hm,hk⟩:=hk
    have l1:look (toH h) (k,i)=some (.var T' (ai t' x).cells):=av x1 (by simp[VB.blks,g1])
    have l2:look (toH h) (k,j)=some (.var T' (ai t' y).cells):=av x1 (by simp[VB.blks,g2])
    unfold J1 at hm
    split at hm
    ·rename_i E hu
     split at hm
     ·rename_i n hn
      have hn0:n≠0:=by simpa using hm
      have e:decide ((k,i)=(k,j)∧True)=decide (i=j):=by simp
      split at hk
      ·exact⟨.bool (decide (i=j)),rfl,by simp[cZ,hu,V.toD,qu],by simp[cw,hu],fun cn=>by simp[gy,hu],rfl,by simp only[V.toD,qu,kS,hu,hn,l1,l2];rw[if_pos hn0,e],hk⟩
      ·exact⟨.bool !(decide (i=j)),rfl,by simp[cZ,hu,V.toD,qu],by simp[cw,hu],fun cn=>by simp[gy,hu],rfl,by simp only[V.toD,qu,kS,hu,hn,l1,l2];rw[if_pos hn0,e],hk⟩
      ·exact hk.elim
     ·cases hm
    ·cases hm
   ·exact hk.elim
def OH (op:UnOp)(d:V)(K:V→Prop):Prop:=
 match d,op with
 | .int k n,.neg=>Ari k (0-n) fun z=>K (.int k z)
 | .bool b,.not=>K (.bool !b)
 | .tt,.not=>K .ff
 | .ff,.not=>K .tt
 |_,_=>False
theorem Mv {op:UnOp}{d:V}{K:V→Prop}(hk:OH op d K):∃r,MI op d.toD=some r.toD∧K r:=by
 unfold OH at hk
 split at hk
 ·exact⟨_,by simp only[V.toD,MI],hk.ok⟩
 ·exact⟨_,by simp only[V.toD,MI],hk⟩
 ·exact⟨.ff,rfl,hk⟩
 ·exact⟨.tt,rfl,hk⟩
 ·exact hk.elim
def uL (v:V)(cs:List V):V:=match v with| .agg _=>.agg cs|_=>cs.headD .undef
theorem Dp {v:V}{cs:List V}:(uL v cs).toD=cC v.toD (ak cs):=by
 unfold uL cC
 cases v
 case hro k o=>cases o<;>cases cs<;>rfl
 case hpo k o=>cases o<;>cases cs<;>rfl
 case obo t o=>cases o<;>cases cs<;>rfl
 all_goals first|rfl|(cases cs<;>rfl)
def w6 (t:Ty)(v:V)(K:t.den→Prop):Prop:=match MK t v with|some x=>K x|none=>False
theorem mJ {t:Ty}{v:V}{K:t.den→Prop}(h:w6 t v K):∃x,v.toD=ai t x∧K x:=by
 unfold w6 at h
 split at h
 ·rename_i x hx
  exact⟨x,u7 hx,h⟩
 ·exact h.elim
def sL:List V→Nat→Bool
 |[],0=>true
 |_::l,n+1=>sL l n
 |_,_=>false
theorem jg:∀{l:List V} {n:Nat},sL l n=true→l.length=n
 |[],0,_=>rfl
 |_::l,n+1,h=>by simp[jg (l:=l) (n:=n) h]
 |[],_+1,h=>by cases h
 |_::_,0,h=>by cases h
theorem qC {A B m:List D}{o:Nat}(h:o+m.length≤A.length):a8 (A++B) o m=a8 A o m++B:=by
 unfold a8
 rw[List.take_append_of_le_length (by omega),List.drop_append_of_le_length (by omega)]
 simp[bH]
theorem oV {A B m:List D}{o:Nat}:a8 (A++B) (A.length+o) m=A++a8 B o m:=by
 unfold a8
 rw[List.take_append,List.drop_append]
 have e1:A.length+o-A.length=o:=by omega
 have e2:A.length+o+m.length-A.length=o+m.length:=by omega
 rw[e1,e2,bp (by omega),List.drop_of_length_le (by omega)]
 simp[bH]
theorem tp {l:List D}{i:Nat}{d:D}(h:i<l.length):a8 l i [d]=l.set i d:=by
 unfold a8
 rw[List.set_eq_take_append_cons_drop,if_pos h]
 simp
def wd (ti:TI)(h:VH)(d v:V)(K:V→VH→Prop):Prop:=
 match d with
 | .ptr b o=>eO h b fun x=>(match x with
  | .var T' cs=>Chk (v.whole && sL v.cells ti.sz && v.cells.all V.one) (tV cs o v.cells fun cs'=>K .undef [(b,.var T' cs')])
  | .vari T' pre m t xs post=>Chk (v.whole && sL v.cells ti.sz && v.cells.all V.one) (match Nat.blt o pre.length with
   |true=>tV pre o v.cells fun pre'=>K .undef [(b,.vari T' pre' m t xs post)]
   |false=>ci (xs.length=m∧pre.length+m≤o) (tV post (o-(pre.length+m)) v.cells fun post'=>K .undef [(b,.vari T' pre m t xs post')]))
  |_=>False)
 |_=>False
theorem mC {P:Program}{h:HL}{T T':TypeId}{b:Id}{o:Nat}{cs:List D}{e:D}(hb:look h b=some (.var T' cs))(hw:e.whole=true)(hs:sizeT P T=some e.cells.length)(hl:o+e.cells.length≤cs.length)(h1:e.cells.all D.one=true):
  gz P h T (.ptr b o) e=some [(b,.var T' (a8 cs o e.cells))]:=by
 simp only[gz,hb]
 rw[if_pos ⟨hw,hs,hl,h1⟩]
theorem AE {P:Program}{h:HL}{T E:TypeId}{b:Id}{i o:Nat}{l:List D}{x e:D}(hb:look h b=some (.row E l))(hx:l[i]?=some x)(hw:e.whole=true)(hs:sizeT P T=some e.cells.length)(hl:o+e.cells.length≤x.cells.length)(h1:e.cells.all D.one=true):
  gz P h T (.eptr b i o) e=some [(b,.row E (l.set i (cC x (a8 x.cells o e.cells))))]:=by
 simp only[gz,hb,hx]
 rw[if_pos ⟨hw,hs,hl,h1⟩]
theorem Al {P:Program}{T:TypeId}{ti:TI}(ht:ti.ok P T){h:VH}{d v:V}{K:V→VH→Prop}(hk:wd ti h d v K):∃u vu,gz P (toH h) T d.toD v.toD=some u∧cS h u vu∧K .undef vu:=by
 unfold wd at hk
 split at hk
 ·rename_i b o
  obtain⟨z,h1,h3⟩:=bh hk
  split at h3
  ·rename_i T' cs
   obtain⟨hc,h4⟩:=h3.ok
   simp only[aA] at hc
   obtain⟨⟨c1,c2⟩,c3⟩:=hc
   obtain⟨h5,h6⟩:=jQ h4
   have hl:=av (i:=0) h1 (d:=.var T' (ak cs)) rfl
   refine⟨_,_,mC (o:=o) (e:=v.toD) hl (by rw[gM];exact c1) (by rw[ht.size,bu,aL,jg c2]) (by rw[bu,aL,aL];exact h5) (by rw[bu];exact nV _ c3),?_,h6⟩
   exact gV h1 rfl (by simp only[VB.blks,bu,mg])
  ·rename_i T' pre m t xs post
   obtain⟨hc,h4⟩:=h3.ok
   simp only[aA] at hc
   obtain⟨⟨c1,c2⟩,c3⟩:=hc
   have hl:=av (i:=0) h1 (d:=.var T' (ak pre++xs.map (ai t)++ak post)) rfl
   split at h4
   ·obtain⟨h5,h6⟩:=jQ h4
    refine⟨_,_,mC (o:=o) (e:=v.toD) hl (by rw[gM];exact c1) (by rw[ht.size,bu,aL,jg c2]) (by rw[bu,aL,aP,aP,aL];omega) (by rw[bu];exact nV _ c3),?_,h6⟩
    refine gV h1 rfl ?_
    simp only[VB.blks]
    have es:a8 (ak pre++xs.map (ai t)++ak post) o v.toD.cells=ak (pre.take o++v.cells++pre.drop (o+v.cells.length))++xs.map (ai t)++ak post:=by
     rw[bu,bH (ak pre),qC (by rw[aL,aL];exact h5),mg];simp only[bH]
    rw[es]
   ·obtain⟨⟨n1,n2⟩,h4⟩:=h4
    obtain⟨h5,h6⟩:=jQ h4
    refine⟨_,_,mC (o:=o) (e:=v.toD) hl (by rw[gM];exact c1) (by rw[ht.size,bu,aL,jg c2]) (by rw[bu,aL,aP,aP,aL,aL,az];omega) (by rw[bu];exact nV _ c3),?_,h6⟩
    refine gV h1 rfl ?_
    simp only[VB.blks]
    have e:o=(ak pre++xs.map (ai t)).length+(o-(pre.length+m)):=by rw[aP,aL,az];omega
    rw[e,bu,oV,mg]
    have e2:(ak pre++xs.map (ai t)).length+(o-(pre.length+m))-(pre.length+m)=o-(pre.length+m):=by omega
    rw[e2]
  ·exact h3.elim
 ·exact hk.elim
def Mt (h:VH)(d:V)(K:Option (Ty×Nat)→Prop):Prop:=
 match d with
 | .aptr b _ _=>(match aU h b with|some (.vari _ _ _ t _ _)=>K (some (t,0))|_=>K none)
 | .eptr b _ o=>(match aU h b with|some (.row _ t _)=>K (some (t,o))|_=>K none)
 | .fptr k _ o=>(match aU h k with|some (.fvar _ t _)=>K (some (t,o))|_=>K none)
 | .faptr k _ _ _=>(match aU h k with|some (.fvari _ _ t _)=>K (some (t,0))|_=>K none)
 | .feptr k _ _ o=>(match aU h k with|some (.frow _ t _)=>K (some (t,o))|_=>K none)
 |_=>K none
theorem Jl {h:VH}{d:V}{K:Option (Ty×Nat)→Prop}(hk:Mt h d K):∃r,K r:=by
 unfold Mt at hk
 split at hk<;>first|exact⟨_,hk⟩|(split at hk<;>exact⟨_,hk⟩)
def Cb (ti:TI)(h:VH)(d v:V)(K:V→VH→Prop):Prop:=
 Chk (v.whole && sL v.cells ti.sz && v.cells.all V.one) (match d with
 | .aptr b p i=>eO h b fun x=>(match x with
  | .vari T' pre m t xs post=>Chk (Nat.beq p pre.length && ti.sz==1 && t.sz==1 && v.one) (w6 t (MO v) fun e=>ci (i<xs.length) (K .undef [(b,.vari T' pre m t (xs.set i e) post)]))
  |_=>False)
 | .eptr b i o=>eO h b fun x=>(match x with
  | .row E t xs=>fB xs i fun e=>tV (enc t e).cells o (j5 v.cells) fun cs'=>w6 t (uL (enc t e) cs') fun e'=>K .undef [(b,.row E t (xs.set i e'))]
  |_=>False)
 | .fptr k i o=>eO h k fun x=>(match x with
  | .fvar T' t xs=>fB xs i fun e=>tV (enc t e).cells o (j5 v.cells) fun cs'=>w6 t (uL (enc t e) cs') fun e'=>K .undef [(k,.fvar T' t (xs.set i e'))]
  |_=>False)
 | .faptr k i p j=>eO h k fun x=>(match x with
  | .fvari T' m t xss=>Chk (Nat.beq p 0 && ti.sz==1 && t.sz==1 && v.one) (w6 t (MO v) fun e=>fB xss i fun xs=>ci (j<xs.length) (K .undef [(k,.fvari T' m t (xss.set i (xs.set j e)))]))
  |_=>False)
 | .feptr k i j o=>eO h k fun x=>(match x with
  | .frow E t xss=>fB xss i fun xs=>fB xs j fun e=>tV (enc t e).cells o (j5 v.cells) fun cs'=>w6 t (uL (enc t e) cs') fun e'=>K .undef [(k,.frow E t (xss.set i (xs.set j e')))]
  |_=>False)
 |_=>False)
theorem qy (v:V):(nzE v.toD).cells=ak (j5 v.cells):=by rw[gH,bu,oG]
theorem uv (d:D):(nzE d).whole=d.whole:=by cases d<;>rfl
theorem x9 (l:List V):(j5 l).length=l.length:=by
 have:=congrArg List.length (oG l)
 rwa [aL,az,aL] at this
theorem FG {v:V}(h:v.cells.all V.one=true):(nzE v.toD).cells.all D.one=true:=by
 rw[gH,bu]
 have:=nV _ h
 rw[aM] at this⊢
 intro x hx
 obtain⟨y,hy,rfl⟩:=aB.1 hx
 rw[BK]
 exact this y hy
theorem ji {α β:Type}(f:α→β)(l:List α)(i:Nat)(x:α):(l.set i x).map f=(l.map f).set i (f x):=by simp[List.map_set]
theorem vd {t:Ty}{e e':t.den}{o:Nat}{v:V}(h1:o+(j5 v.cells).length≤(enc t e).cells.length)(h2:(uL (enc t e) ((enc t e).cells.take o++j5 v.cells++(enc t e).cells.drop (o+(j5 v.cells).length))).toD=ai t e'):
  cC (ai t e) (a8 (ai t e).cells o (nzE v.toD).cells)=ai t e':=by
 rw[←h2,Dp,kW,cP,qy,mg]
theorem Ao {P:Program}{T:TypeId}{ti:TI}(ht:ti.ok P T){h:VH}{d v:V}{K:V→VH→Prop}(hk:Cb ti h d v K):∃u vu,gz P (toH h) T d.toD (nzE v.toD)=some u∧cS h u vu∧K .undef vu:=by
 obtain⟨c0,hk⟩:=Chk.ok hk
 simp only[aA] at c0
 obtain⟨⟨c1,c2⟩,c3⟩:=c0
 have hw:(nzE v.toD).whole=true:=by rw[uv,gM];exact c1
 have hlen:(nzE v.toD).cells.length=ti.sz:=by rw[qy,aL,x9,jg c2]
 have hs:sizeT P T=some (nzE v.toD).cells.length:=by rw[ht.size,hlen]
 have h1:=FG c3
 have one:v.one=true→(nzE v.toD).cells=[(MO v).toD]:=by
  intro ho
  have:v.cells=[v]:=by cases v<;>first|rfl|cases ho
  rw[qy,this]
  rfl
 split at hk
 ·rename_i b p i _
  obtain⟨x,hb,hk⟩:=bh hk
  split at hk
  ·rename_i T' pre m t xs post
   obtain⟨c,hk⟩:=hk.ok
   simp only[aA,beq_iff_eq] at c
   obtain⟨⟨⟨d1,d2⟩,d3⟩,d4⟩:=c
   have hp:p=pre.length:=cq d1
   obtain⟨e,he,hi,hk⟩:=mJ hk
   have hl:=av (i:=0) hb (d:=.var T' (ak pre++xs.map (ai t)++ak post)) rfl
   refine⟨_,_,mC (o:=p+i) (e:=nzE v.toD) hl hw hs (by rw[hlen,d2,aP,aP,aL,az];omega) h1,?_,hk⟩
   refine gV hb rfl ?_
   simp only[VB.blks]
   have es:a8 (ak pre++xs.map (ai t)++ak post) (p+i) (nzE v.toD).cells=ak pre++(xs.set i e).map (ai t)++ak post:=by
    rw[one d4,he,hp,bH (ak pre),show pre.length+i=(ak pre).length+i by rw[aL],oV,qC (by simp;omega),tp (by simpa using hi),ji]
    simp only[bH]
   rw[es]
  ·exact hk.elim
 ·rename_i b i o _
  obtain⟨x,hb,hk⟩:=bh hk
  split at hk
  ·rename_i E t xs
   obtain⟨e,he,hk⟩:=hk
   obtain⟨h5,hk⟩:=jQ hk
   obtain⟨e',he',hk⟩:=mJ hk
   have hl:=av (i:=0) hb (d:=.row E (xs.map (ai t))) rfl
   refine⟨_,_,AE (x:=ai t e) (e:=nzE v.toD) hl (by rw[be,he];rfl) hw hs (by rw[qy,aL,cP,aL];exact h5) h1,?_,hk⟩
   refine gV hb rfl ?_
   simp only[VB.blks]
   rw[vd h5 he',ji]
  ·exact hk.elim
 ·rename_i k i o _
  obtain⟨x,hb,hk⟩:=bh hk
  split at hk
  ·rename_i T' t xs
   obtain⟨e,he,hk⟩:=hk
   obtain⟨h5,hk⟩:=jQ hk
   obtain⟨e',he',hk⟩:=mJ hk
   have hl:=av (i:=i) hb (d:=.var T' (ai t e).cells) (by simp only[VB.blks,be,he,aI])
   refine⟨_,_,mC (e:=nzE v.toD) hl hw hs (by rw[qy,aL,cP,aL];exact h5) h1,?_,hk⟩
   have hi:=(aR.1 he).1
   refine wl hb ?_ (by simpa[VB.blks] using hi)
   simp only[VB.blks]
   rw[ji]
   have hc:=lq (e:=ai t e) (m:=(nzE v.toD).cells) (o:=o) (by rw[qy,aL,cP,aL];exact h5) (fun y hy=>cQ (by rw[aM] at h1;exact h1 y hy))
   rw[vd h5 he'] at hc
   rw[hc]
  ·exact hk.elim
 ·rename_i k i p j _
  obtain⟨x,hb,hk⟩:=bh hk
  split at hk
  ·rename_i T' m t xss
   obtain⟨c,hk1⟩:=hk.ok
   simp only[aA,beq_iff_eq] at c
   obtain⟨⟨⟨d1,d2⟩,d3⟩,d4⟩:=c
   have hp:p=0:=cq d1
   subst hp
   obtain⟨e,he,xs,hx,hj,hk⟩:=mJ hk1
   have hl:=av (i:=i) hb (d:=.var T' (xs.map (ai t))) (by simp only[VB.blks,be,hx,aI])
   refine⟨_,_,mC (o:=0+j) (e:=nzE v.toD) hl hw hs (by rw[hlen,d2,az];omega) h1,?_,hk⟩
   have hi:=(aR.1 hx).1
   refine wl hb ?_ (by simpa[VB.blks] using hi)
   simp only[VB.blks]
   rw[ji,one d4,he,eX,tp (by simpa using hj),ji]
  ·exact hk.elim
 ·rename_i k i j o _
  obtain⟨x,hb,hk⟩:=bh hk
  split at hk
  ·rename_i E t xss
   obtain⟨xs,hx,e,he,hk⟩:=hk
   obtain⟨h5,hk⟩:=jQ hk
   obtain⟨e',he',hk⟩:=mJ hk
   have hl:=av (i:=i) hb (d:=.row E (xs.map (ai t))) (by simp only[VB.blks,be,hx,aI])
   refine⟨_,_,AE (x:=ai t e) (e:=nzE v.toD) hl (by rw[be,he];rfl) hw hs (by rw[qy,aL,cP,aL];exact h5) h1,?_,hk⟩
   have hi:=(aR.1 hx).1
   refine wl hb ?_ (by simpa[VB.blks] using hi)
   simp only[VB.blks]
   rw[ji,vd h5 he',ji]
  ·exact hk.elim
 ·exact hk.elim

end Go.Proofs.YtpefhoohfkeflacGreatDoor.Am
