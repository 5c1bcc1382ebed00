/- The plain machine: a region, in whatever order its operations are carried out. The plain machine: what a code does to a state; regions, control. The plain machine: what is no more wanted is forgotten; a function's contract from its code. The plain machine: operands, literals, parts. The plain machine with types: kinds of data, values, blocks. The plain machine with types: what is known of the program's types; the parts of a step. The plain machine with types: what a step does to the blocks; loads. The plain machine with types: what is done ahead of an operation: rows are frozen, blocks are mov -/
import Derived.Test.YtbmnihglaokhmaaLN3
set_option linter.unusedSimpArgs false
set_option linter.unusedVariables false
set_option maxHeartbeats 1000000
namespace Go.Proofs.Ytbmnihglaokhmaa.Am
open Go Go.RowKit Go.Conc
variable {P:Program} {w0:World} {S:SD} {A:Nat→Prop} {N:Nat} {ρ:Id→Pl} {t:List (Nat×D)} {h h':HL} {a:Act} {w:World}
def cJ (ops:Array Oper)(t:List (Nat×D))(o:Oper):Option Bool:=
 match o.guard with
 |none=>some true
 |some (g,want)=>(match(ops[g]?).bind (·.dst) with
  |some k=>(match look t k with
   |some (.bool b)=>some (b==want)
   |some (.tup [])=>some false
   |_=>none)
  |none=>none)
theorem Sim.guard (s:Sim P w0 S A N ρ t h a w){ops:Array Oper}{o:Oper}{b:Bool}(hg:cJ ops t o=some b):Region.wanted o (yielded ops a.tmps)=b:=by
 unfold cJ at hg
 unfold Region.wanted yielded
 split at hg
 ·rename_i e
  simp only[aK] at hg
  rw[e,←hg]
 ·rename_i g want e
  rw[e]
  split at hg
  ·rename_i k hk
   split at hg
   ·rename_i bb hb
    simp only[aK] at hg
    obtain⟨hlt,hc⟩:=s.tmp k _ hb
    have hv:=hc.bool_inv
    have hlt':k<a.tmps.size:=by rw[s.size];exact hlt
    have:a.tmps[k]?=some (.bool bb):=by
     rw[eH hlt']
     simpa[bV,hlt'] using hv
    simp only[hk,bp,this]
    rw[←hg]
    cases bb<;>cases want<;>rfl
   ·rename_i hb
    simp only[aK] at hg
    obtain⟨hlt,hc⟩:=s.tmp k _ hb
    obtain⟨vs,hv,-,-⟩:=hc.tup_inv
    have hlt':k<a.tmps.size:=by rw[s.size];exact hlt
    have:a.tmps[k]?=some (.tuple vs):=by
     rw[eH hlt']
     simpa[bV,hlt'] using hv
    simp only[hk,bp,this]
    rw[←hg]
    cases want<;>rfl
   ·cases hg
  ·cases hg
def TRun (P:Program)[PhC P](ops:Array Oper)(N:Nat)(t:List (Nat×D))(h:HL)(n:Nat):List (Oper×Rc)→Prop
 |[]=>True
 |(o,r)::l=>(r.n=n∧n≤r.n'∧(∀x∈r.u,x.1.1<r.n')∧(∀d,o.dst=some d→d<N))∧
   ((cJ ops t o=some true∧OpS P N o t h r.d r.u r.f)∨(cJ ops t o=some false∧r.d= .tup []∧r.u=[]∧r.f=[]))∧
   TRun P ops N (eA o.dst r.d t) (puts r.u h) r.n' l
def TRunN (P:Program)[PhC P](ops:Array Oper)(N nn:Nat)(t:List (Nat×D))(h:HL)(n:Nat):List (Oper×Rc)→Prop
 |[]=>True
 |(o,r)::l=>(r.n=n∧n≤r.n'∧(∀x∈r.u,x.1.1<r.n')∧(∀d,o.dst=some d→d<N))∧
   ((cJ ops t o=some true∧OpSN P N o t h r.d r.u r.f nn)∨(cJ ops t o=some false∧r.d= .tup []∧r.u=[]∧r.f=[]))∧
   TRunN P ops N nn (eA o.dst r.d t) (puts r.u h) r.n' l
theorem OpSN.mono [PhC P]{o:Oper}{d:D}{u:HL}{f:List Nat}{n n':Nat}(hs:OpSN P N o t h d u f n)(hn:n≤n'):OpSN P N o t h d u f n':=
 fun t' h' ht ha main dfs γ ρ a w s=>(hs t' h' ht ha main dfs γ ρ a w s).mono hn fun _ _ _ q=>q
theorem TRunN.mono [PhC P]{ops:Array Oper}{nn nn':Nat}(hn:nn≤nn'):∀{l:List (Oper×Rc)} {n:Nat} {t:List (Nat×D)} {h:HL},TRunN P ops N nn t h n l→TRunN P ops N nn' t h n l
 |[],_,_,_,_=>trivial
 |(_,_)::_,_,_,_,⟨h1,h2,h3⟩=>⟨h1,h2.imp (fun h=>⟨h.1,h.2.mono hn⟩) id,TRunN.mono hn h3⟩
theorem TRun.bound [PhC P]{ops:Array Oper}:∀{l:List (Oper×Rc)} {n:Nat} {t:List (Nat×D)} {h:HL},TRun P ops N t h n l→∃nn,TRunN P ops N nn t h n l
 |[],_,_,_,_=>⟨0,trivial⟩
 |(o,r)::l,n,t,h,⟨h1,h2,h3⟩=>by
  obtain⟨m,hm⟩:=TRun.bound h3
  rcases h2 with⟨g1,k,g2⟩|h2
  ·exact⟨max m k,h1,.inl ⟨g1,g2.mono (Nat.le_max_right _ _)⟩,hm.mono (Nat.le_max_left _ _)⟩
  ·exact⟨m,h1,.inr h2,hm⟩
theorem oc (m:Nat→Bool):∀(l:List (Oper×Rc)) (k:Nat) (t:List (Nat×D)),(∀i,k≤i→m i=false)→ib m k l t=t
 |[],k,t,_=>rfl
 |(o,r)::l,k,t,hm=>by
  show ib m (k+1) l (if m k=true then eA o.dst r.d t else t)=t
  rw[hm k (aN _)]
  exact oc m l (k+1) t fun i hi=>hm i (by omega)
theorem oa (m:Nat→Bool):∀(l:List (Oper×Rc)) (k:Nat) (t:HL),(∀i,k≤i→m i=false)→gt m k l t=t
 |[],k,t,_=>rfl
 |(o,r)::l,k,t,hm=>by
  show gt m (k+1) l (if m k=true then puts r.u t else t)=t
  rw[hm k (aN _)]
  exact oa m l (k+1) t fun i hi=>hm i (by omega)
theorem TRunN.at [PhC P]{ops:Array Oper}{nn:Nat}:∀{l:List (Oper×Rc)} {k n:Nat} {t:List (Nat×D)} {h:HL},TRunN P ops N nn t h n l→(∀b:Id,n≤b.1→look h b=none)→∀{j:Nat} {o:Oper} {r:Rc},l[j]?=some (o,r)→
  ∃tj hj,tj=ib (fun i=>decide (i<k+j)) k l t∧hj=gt (fun i=>decide (i<k+j)) k l h∧(∀b:Id,r.n≤b.1→look hj b=none)∧n≤r.n∧(r.n≤r.n'∧(∀x∈r.u,x.1.1<r.n')∧(∀d,o.dst=some d→d<N))∧
   ((cJ ops tj o=some true∧OpSN P N o tj hj r.d r.u r.f nn)∨(cJ ops tj o=some false∧r.d= .tup []∧r.u=[]∧r.f=[]))
 |[],_,_,_,_,_,_,j,o,r,hj=>by simp at hj
 |(o0,r0)::l,k,n,t,h,hT,hn,j,o,r,hj=>by
  obtain⟨⟨rfl,h1,h2,h3⟩,h4,h5⟩:=hT
  cases j with
  |zero=>
   simp only[fi,aK,bi] at hj
   obtain⟨rfl,rfl⟩:=hj
   exact⟨t,h,(oc _ _ _ _ fun i hi=>by simp;omega).symm,(oa _ _ _ _ fun i hi=>by simp;omega).symm,hn,aN _,⟨h1,h2,h3⟩,h4⟩
  |succ j=>
   have hn':∀b:Id,r0.n'≤b.1→look (puts r0.u h) b=none:=by
    intro b hb
    rw[aS _ _ _ fun x hx e=>by have:=h2 x hx;rw[e] at this;omega]
    exact hn b (by omega)
   obtain⟨tj,hj',e1,e2,e3,e4,e5,e6⟩:=TRunN.at (k:=k+1) h5 hn' (j:=j) (o:=o) (r:=r) (by simpa using hj)
   refine⟨tj,hj',?_,?_,e3,by omega,e5,e6⟩
   ·rw[e1]
    show _=ib _ (k+1) l (if decide (k<k+(j+1))=true then eA o0.dst r0.d t else t)
    rw[if_pos (by simp)]
    congr 1
    funext i
    congr 1
    simp only[eq_iff_iff]
    omega
   ·rw[e2]
    show _=gt _ (k+1) l (if decide (k<k+(j+1))=true then puts r0.u h else h)
    rw[if_pos (by simp)]
    congr 1
    funext i
    congr 1
    simp only[eq_iff_iff]
    omega
theorem gr:∀(u:HL) (h:HL) (b:Id),Live h b→Live (puts u h) b
 |[],h,b,hb=>hb
 |x::u,h,b,hb=>gr u _ b hb.put
theorem iU (m:Nat→Bool):∀(l:List (Oper×Rc)) (k:Nat) (h:HL) (b:Id),Live h b→Live (gt m k l h) b
 |[],k,h,b,hb=>hb
 |(o,r)::l,k,h,b,hb=>by
  refine iU m l (k+1) _ b ?_
  split
  ·exact gr _ _ _ hb
  ·exact hb
def DU (dep:Nat→List Nat)(L:List (Oper×Rc)):Prop:=
 ∀i j oi ri oj rj,i<j→L[i]?=some (oi,ri)→L[j]?=some (oj,rj)→(dep j).contains i=false→
  (∀x∈ri.u,x.1.1∉rj.f∧∀y∈rj.u,x.1.1≠y.1.1)∧(∀x∈rj.u,x.1.1∉ri.f)
def gE (listed:Array Bool)(i:Nat):Bool:=listed.getD i false
theorem oI {t t':List (Nat×D)}{x:Operand}(h:∀k,x= .tmp k→look t k=look t' k):aW t x=aW t' x:=by
 cases x with
 |tmp k=>exact h k rfl
 |_=>rfl
theorem ql {ops:Array Oper}{o:Oper}{k:Nat}(hx:Operand.tmp k∈o.op.operands):k∈o.looksAt ops:=
 dK _ (List.mem_filterMap.2 ⟨.tmp k,j6.2 hx,rfl⟩)
theorem lr {ops:Array Oper}{o:Oper}{t t':List (Nat×D)}(h:∀k∈o.looksAt ops,look t k=look t' k):cJ ops t o=cJ ops t' o:=by
 unfold cJ
 split
 ·rfl
 ·rename_i g want e
  split
  ·rename_i k hk
   rw[h k (dA _ (by simp only[e];rw[hk];simp))]
  ·rfl
set_option maxHeartbeats 1000000 in
theorem px [PhC P]{main:Bool}{dfs:List Deferred}{ops:Array Oper}{dep:Nat→List Nat}{nn:Nat}{Q:Gh→Exit→Act→World→Prop}{L:List (Oper×Rc)}{t0:List (Nat×D)}{h0:HL}{n0:Nat}(hok:Reg.okB ops dep=true)(hL:L.map (·.1)=ops.toList)
  (hT:TRunN P ops N nn t0 h0 n0 L) (hn:∀b:Id,n0≤b.1→look h0 b=none) (hC:DU dep L) {ρ0:Id→Pl} {L0:Id→Prop} (hK:∀b,L0 b→Live h0 b)
  (hQ:∀γ ρ a w,(∀b,L0 b→ρ b=ρ0 b)→SimN P dfs γ N ρ (ib (fun _=>true) 0 L t0) (gt (fun _=>true) 0 L h0) a w→Q γ .normal a w):
  ∀(fuel:Nat) (R:List Nat) (listed:Array Bool) (γ:Gh) (a:Act) (w:World) (ρ:Id→Pl),R.length≤fuel→listed.size=ops.size→(∀i,i<ops.size→gE listed i=false→i∈R)→
   (∀k o,ops[k]?=some o→gE listed k=true→∀e∈o.after,Region.binds .any e=true→gE listed e.on=true)→
   (∀b,L0 b→ρ b=ρ0 b)→SimN P dfs γ N ρ (ib (gE listed) 0 L t0) (gt (gE listed) 0 L h0) a w→ju P main .any ops nn Q fuel listed γ a w:=by
 have hLg:∀i:Nat,(L[i]?).map (fun x:Oper×Rc=>x.1)=ops[i]?:=by
  intro i
  have:=congrArg (fun l:List Oper=>l[i]?) hL
  simpa using this
 have hLo:∀i o r,L[i]?=some (o,r)→ops[i]?=some o:=fun i o r h=>by rw[←hLg i,h];rfl
 have hoL:∀i o,ops[i]?=some o→∃r,L[i]?=some (o,r):=fun i o h=>by
  have e:=hLg i
  rw[h] at e
  obtain⟨⟨o',r⟩,h1,h2⟩:=bj.1 e
  simp only at h2
  subst h2
  exact⟨r,h1⟩
 have fin:∀(listed:Array Bool) (γ:Gh) (a:Act) (w:World) (ρ:Id→Pl),(∀i,i<ops.size→gE listed i=true)→(∀b,L0 b→ρ b=ρ0 b)→SimN P dfs γ N ρ (ib (gE listed) 0 L t0) (gt (gE listed) 0 L h0) a w→Q γ .normal a w:=by
  intro listed γ a w ρ hall hρ s
  have hi:∀i o r,L[i]?=some (o,r)→gE listed (0+i)≠(fun _=>true) (0+i)→False:=by
   intro i o r hl hne
   have:=hLo i o r hl
   exact hne (by simpa using hall i (dN.1 this).1)
  exact hQ γ ρ a w hρ (Sim.congr s (fun x=>(j0 L 0 t0 fun i o r hl hne=>(hi i o r hl hne).elim).symm) fun b=>(iV L 0 h0 fun i o r hl hne=>(hi i o r hl hne).elim).symm)
 have stuck:∀(listed:Array Bool),listed.size=ops.size→Region.ready .any ops listed=[]→∀i,i<ops.size→gE listed i=true:=by
  intro listed hsz hr i
  induction i using Nat.strongRecOn with
  |_ i ih=>
   intro hi
   cases hm:gE listed i with
   |true=>rfl
   |false=>
    exfalso
    have ho:ops[i]?=some ops[i]:=eH hi
    have:i∈Region.ready .any ops listed:=by
     refine kP.2 ⟨gL.2 hi,?_⟩
     have e1:listed.getD i true=false:=by
      have hi':i<listed.size:=by omega
      unfold gE at hm
      simp only[bV,eH hi',e9] at hm⊢
      exact hm
     rw[e1,ho]
     simp only[aM,e9,Bool.not_false,Bool.true_and,Array.all_eq_true']
     intro e he
     cases hb:Region.binds .any e with
     |false=>rfl
     |true=>
      have hlt:=Reg.okB_back hok ho e he hb
      have:=ih e.on hlt (by omega)
      simpa[gE] using this
    rw[hr] at this
    cases this
 have anc:∀(listed:Array Bool),(∀k o,ops[k]?=some o→gE listed k=true→∀e∈o.after,Region.binds .any e=true→gE listed e.on=true)→
   ∀k o,ops[k]?=some o→(∀e∈o.after,Region.binds .any e=true→gE listed e.on=true)→∀j,(dep k).contains j=true→gE listed j=true:=by
  intro listed hdc k
  induction k using Nat.strongRecOn with
  |_ k ih=>
   intro o ho hr j hj
   obtain⟨e,he,hb,hc⟩:=Reg.okB_dep hok ho hj
   have h1:=hr e he hb
   rcases hc with rfl|hc
   ·exact h1
   ·have hlt:=Reg.okB_back hok ho e he hb
    have hk:=(dN.1 ho).1
    have ho':ops[e.on]?=some ops[e.on]:=eH (by omega)
    exact ih e.on hlt _ ho' (hdc _ _ ho' h1) j (by simpa using hc)
 intro fuel
 induction fuel with
 |zero=>
  intro R listed γ a w ρ hR hsz hin hdc hρ s
  have hnil:R=[]:=vw (by omega)
  have hall:∀i,i<ops.size→gE listed i=true:=fun i hi=>by
   cases hm:gE listed i with
   |true=>rfl
   |false=>have:=hin i hi hm;rw[hnil] at this;cases this
  refine⟨?_,fin listed γ a w ρ hall hρ s⟩
  unfold Region.ready
  rw[List.filter_eq_nil_iff]
  intro i hi
  have hi':i<listed.size:=by have:=gL.1 hi;omega
  have:=hall i (gL.1 hi)
  unfold gE at this
  simp only[bV,eH hi',e9] at this⊢
  simp[this]
 |succ fuel ih=>
  intro R listed γ a w ρ hR hsz hin hdc hρ s
  refine⟨fun hr=>fin listed γ a w ρ (stuck listed hsz hr) hρ s,fun j hj=>?_⟩
  obtain⟨hjr,hjc⟩:=kP.1 hj
  have hjlt:=gL.1 hjr
  have ho:ops[j]?=some ops[j]:=eH hjlt
  generalize ops[j]=o at ho
  rw[ho] at hjc
  simp only[aM,e9,b6,Array.all_eq_true'] at hjc
  obtain⟨hjn,hja⟩:=hjc
  have hmj:gE listed j=false:=by
   have hi':j<listed.size:=by omega
   unfold gE
   simp only[bV,eH hi',e9] at hjn⊢
   simpa using hjn
  have hwait:∀e∈o.after,Region.binds .any e=true→gE listed e.on=true:=by
   intro e he hb
   have:=hja e he
   rw[hb] at this
   simpa[gE] using this
  obtain⟨r,hl⟩:=hoL j o ho
  obtain⟨tj,hj',e1,e2,e3,_,⟨e4,e5,e6⟩,e7⟩:=TRunN.at (k:=0) hT hn hl
  simp only[gM] at e1 e2
  have diff:∀i oi ri,L[i]?=some (oi,ri)→gE listed (0+i)≠decide (0+i<j)→i≠j∧
    ((∀d,oi.dst=some d→d∉o.looksAt ops∧o.dst≠some d)∧(∀y∈ri.u,y.1.1∉r.f∧∀x∈r.u,y.1.1≠x.1.1)):=by
   intro i oi ri hi hne
   simp only[gM] at hne
   have hoi:=hLo i oi ri hi
   by_cases hij:i<j
   ·have hmi:gE listed i=false:=by
     cases hm:gE listed i with
     |false=>rfl
     |true=>exact absurd (by simp[hm,hij]) hne
    refine⟨by omega,?_,?_⟩
    ·rcases Reg.okB_apart hok ho hoi hij with⟨e,he,hb,hon⟩|hap
     ·have:=hwait e he hb
      rw[hon,hmi] at this;cases this
     ·have hsp:=Oper.apart_spec hap
      exact fun d hd=>⟨hsp.1 d hd,hsp.2.1 d hd⟩
    ·cases hdp:(dep j).contains i with
     |true=>have:=anc listed hdc j o ho hwait i hdp;rw[hmi] at this;cases this
     |false=>exact fun y hy=>(hC i j oi ri o r hij hi hl hdp).1 y hy
   ·have hmi:gE listed i=true:=by
     cases hm:gE listed i with
     |true=>rfl
     |false=>exact absurd (by simp[hm,hij]) hne
    have hne':i≠j:=by rintro rfl;rw[hmj] at hmi;cases hmi
    have hji:j<i:=by omega
    refine⟨hne',?_,?_⟩
    ·rcases Reg.okB_apart hok hoi ho hji with⟨e,he,hb,hon⟩|hap
     ·have:=hdc i oi hoi hmi e he hb
      rw[hon,hmj] at this;cases this
     ·have hsp:=Oper.apart_spec hap
      exact fun d hd=>⟨hsp.2.2 d hd,fun he=>hsp.2.1 d he hd⟩
    ·cases hdp:(dep i).contains j with
     |true=>have:=anc listed hdc i oi hoi (hdc i oi hoi hmi) j hdp;rw[hmj] at this;cases this
     |false=>
      have hc:=hC j i o r oi ri hji hl hi hdp
      exact fun y hy=>⟨hc.2 y hy,fun x hx he=>(hc.1 x hx).2 y hy he.symm⟩
  have hTl:∀k∈o.looksAt ops,look (ib (gE listed) 0 L t0) k=look tj k:=by
   intro k hk
   rw[e1]
   exact j0 L 0 t0 fun i oi ri hi hne hd=>(((diff i oi ri hi hne).2.1 k hd).1) hk
  have hHf:∀b:Id,b.1∈r.f→look (gt (gE listed) 0 L h0) b=look hj' b:=by
   intro b hb
   rw[e2]
   refine iV L 0 h0 fun i oi ri hi hne y hy he=>?_
   have:=(diff i oi ri hi hne).2.2 y hy
   exact this.1 (he▸hb)
  have hgd:cJ ops (ib (gE listed) 0 L t0) o=cJ ops tj o:=lr hTl
  have hmask:∀i,gE (listed.setIfInBounds j true) i=dh (gE listed) j i:=by
   intro i
   have hj2:j<listed.size:=by omega
   unfold dh gE
   by_cases e:j=i
   ·subst e;simp[bV,hj2]
   ·have:(i==j)=false:=by simp[cq e]
    rw[this,Bool.or_false]
    simp[bV,kQ e]
  have hKl:∀b,L0 b→Live (gt (gE listed) 0 L h0) b:=fun b hb=>iU _ L 0 h0 b (hK b hb)
  have next:∀(γ':Gh) (ρ':Id→Pl) (v:Value) (w':World),Ext (gt (gE listed) 0 L h0) ρ ρ'→SimN P dfs γ' N ρ' (eA o.dst r.d (ib (gE listed) 0 L t0)) (puts r.u (gt (gE listed) 0 L h0)) (a.put o.dst v) w'→ju P main .any ops nn Q fuel (listed.setIfInBounds j true) γ' (a.put o.dst v) w':=by
   intro γ' ρ' v w' hex s'
   refine ih (R.erase j) _ _ _ _ ρ' ?_ (by simpa using hsz) ?_ ?_ (fun b hb=>(hex b (hKl b hb)).trans (hρ b hb)) ?_
   ·rw[List.length_erase_of_mem (hin j hjlt hmj)];omega
   ·intro i hi hm
    rw[hmask] at hm
    simp only[dh,Bool.or_eq_false_iff,beq_eq_false_iff_ne] at hm
    exact(List.mem_erase_of_ne hm.2).2 (hin i hi hm.1)
   ·intro k o' ho' hm e he hb
    rw[hmask] at hm⊢
    simp only[dh,Bool.or_eq_true,beq_iff_eq] at hm⊢
    rcases hm with hm|rfl
    ·exact .inl (hdc k o' ho' hm e he hb)
    ·rw[ho] at ho'
     obtain rfl:=bm ho'
     exact .inl (hwait e he hb)
   ·have hfun:gE (listed.setIfInBounds j true)=dh (gE listed) j:=funext hmask
    rw[hfun]
    refine Sim.congr s' (fun x=>yq hmj L 0 t0 (gJ _) (by simpa using hl) (fun i oi ri hi hlt hm x hx hd=>?_) x) (fun b=>yo hmj L 0 h0 (gJ _) (by simpa using hl) (fun i oi ri hi hlt hm x hx y hy he=>?_) b)
    ·have hd':=diff i oi ri hi (by rw[hm];simp;omega)
     exact(hd'.2.1 x hd).2 hx
    ·have hd':=diff i oi ri hi (by rw[hm];simp;omega)
     exact(hd'.2.2 y hy).2 x hx (congrArg Prod.fst he.symm)
  refine⟨o,ho,?_⟩
  rcases e7 with⟨g1,g2⟩|⟨g1,g2,g3,g4⟩
  ·refine .inl ⟨Sim.guard s (hgd.trans g1),?_⟩
   have hw:=g2 (ib (gE listed) 0 L t0) (gt (gE listed) 0 L h0) (fun x hx=>(oI fun k hk=>hTl k (ql (by rw[←hk];exact hx))).symm) (fun b hb=>(hHf b hb).symm) main dfs γ ρ a w s
   refine hw.mono (aN _) ?_
   rintro γ' a' w' ⟨v,ρ',rfl,hex,h1,h2⟩
   exact next γ' ρ' v w' hex (Sim.putO h1 e6 h2)
  ·refine .inr ⟨Sim.guard s (hgd.trans g1),?_⟩
   refine next γ ρ undef w (Ext.refl _ _) ?_
   rw[g2,g3]
   exact Sim.putO s e6 (.tup [] #[] rfl fun i hi=>absurd hi (Nat.not_lt_zero i))
end Go.Proofs.Ytbmnihglaokhmaa.Am
namespace Go.Proofs.Ytbmnihglaokhmaa.Am
open Go Go.RowKit Go.Conc
variable {P:Program} {N:Nat}
structure St where
 t:List (Nat×D)
 h:HL
 n:Nat
def SimS (P:Program)(dfs:List Deferred)(γ:Gh)(N:Nat)(ρ0:Id→Pl)(K:Id→Prop)(σ:St)(a:Act)(w:World):Prop:=
 (∀b:Id,σ.n≤b.1→look σ.h b=none)∧(∀b,K b→Live σ.h b)∧∃ρ,(∀b,K b→ρ b=ρ0 b)∧SimN P dfs γ N ρ σ.t σ.h a w
def jk (P:Program)(N:Nat)(K:Id→Prop)(σ:St):Prop:=∃dfs γ ρ0 a w,SimS P dfs γ N ρ0 K σ a w
def Ck (P:Program)[PhC P](N:Nat)(K:Id→Prop)(c:Code)(n:Nat)(σ:St)(e:Exit)(σ':St):Prop:=
 ∀main dfs γ ρ0 a w,SimS P dfs γ N ρ0 K σ a w→wpG P main c n (fun γ' e' a' w'=>e'=e∧SimS P dfs γ' N ρ0 K σ' a' w') γ a w
def Brings (P:Program)[PhC P](N:Nat)(K:Id→Prop)(c:Code)(σ:St)(e:Exit)(σ':St):Prop:=∃n,Ck P N K c n σ e σ'
variable {K:Id→Prop} {σ σ1 σ2:St} {e:Exit}
def Weak (P:Program)(N:Nat)(K:Id→Prop)(σ σ':St):Prop:=∀dfs γ ρ0 a w,SimS P dfs γ N ρ0 K σ a w→SimS P dfs γ N ρ0 K σ' a w
theorem Weak.refl:Weak P N K σ σ:=fun _ _ _ _ _ h=>h
theorem Weak.trans (h:Weak P N K σ σ1)(k:Weak P N K σ1 σ2):Weak P N K σ σ2:=fun dfs γ ρ0 a w hs=>k dfs γ ρ0 a w (h dfs γ ρ0 a w hs)
theorem Brings.pre [PhC P]{c:Code}(hw:Weak P N K σ σ1)(h:Brings P N K c σ1 e σ2):Brings P N K c σ e σ2:=by
 obtain⟨n,h⟩:=h
 exact⟨n,fun main dfs γ ρ0 a w hs=>h main dfs γ ρ0 a w (hw dfs γ ρ0 a w hs)⟩
theorem Brings.post [PhC P]{c:Code}(h:Brings P N K c σ e σ1)(hw:Weak P N K σ1 σ2):Brings P N K c σ e σ2:=by
 obtain⟨n,h⟩:=h
 exact⟨n,fun main dfs γ ρ0 a w hs=>(h main dfs γ ρ0 a w hs).mono (aN _) fun γ' _ a' w' ⟨h1,h2⟩=>⟨h1,hw dfs γ' ρ0 a' w' h2⟩⟩
theorem Brings.skip [PhC P]:Brings P N K .skip σ .normal σ:=⟨1,fun _ _ _ _ _ _ hs=>vt ⟨rfl,hs⟩⟩
theorem Brings.ret [PhC P]:Brings P N K .ret σ .ret σ:=⟨1,fun _ _ _ _ _ _ hs=>Du ⟨rfl,hs⟩⟩
theorem Brings.exit [PhC P]{id:Nat}:Brings P N K (.exit id) σ (.exit id) σ:=⟨1,fun _ _ _ _ _ _ hs=>Ch ⟨rfl,hs⟩⟩
theorem Brings.seqN [PhC P]{x y:Code}(h1:Brings P N K x σ .normal σ1)(h2:Brings P N K y σ1 e σ2):Brings P N K (.seq x y) σ e σ2:=by
 obtain⟨n1,h1⟩:=h1
 obtain⟨n2,h2⟩:=h2
 refine⟨n1+n2+1,fun main dfs γ ρ0 a w hs=>sX ((h1 main dfs γ ρ0 a w hs).mono (aN _) ?_)⟩
 rintro γ' e' a' w' ⟨rfl,h⟩
 exact h2 main dfs γ' ρ0 a' w' h
theorem Brings.seqX [PhC P]{x y:Code}(hne:e≠ .normal)(h1:Brings P N K x σ e σ1):Brings P N K (.seq x y) σ e σ1:=by
 obtain⟨n1,h1⟩:=h1
 refine⟨n1+0+1,fun main dfs γ ρ0 a w hs=>sX ((h1 main dfs γ ρ0 a w hs).mono (aN _) ?_)⟩
 rintro γ' e' a' w' ⟨rfl,h⟩
 cases e'<;>first|exact absurd rfl hne|exact⟨rfl,h⟩
theorem Brings.blockE [PhC P]{id:Nat}{c:Code}(h:Brings P N K c σ (.exit id) σ1):Brings P N K (.block id c) σ .normal σ1:=by
 obtain⟨n,h⟩:=h
 refine⟨n+2,fun main dfs γ ρ0 a w hs=>rA ((h main dfs γ ρ0 a w hs).mono (aN _) ?_)⟩
 rintro γ' e' a' w' ⟨rfl,h⟩
 simp only[if_true]
 exact⟨trivial,h⟩
theorem Brings.blockX [PhC P]{id:Nat}{c:Code}(hne:e≠ .exit id)(h:Brings P N K c σ e σ1):Brings P N K (.block id c) σ e σ1:=by
 obtain⟨n,h⟩:=h
 refine⟨n+2,fun main dfs γ ρ0 a w hs=>rA ((h main dfs γ ρ0 a w hs).mono (aN _) ?_)⟩
 rintro γ' e' a' w' ⟨rfl,hk⟩
 cases e' with
 |exit id'=>
  have:id'≠id:=fun h=>hne (by rw[h])
  simp only[if_neg this]
  exact⟨trivial,hk⟩
 |_=>exact⟨rfl,hk⟩
theorem Brings.condT [PhC P]{c:Operand}{x y:Code}(hc:aW σ.t c=some (.bool true))(h:Brings P N K x σ e σ1):Brings P N K (.cond c x y) σ e σ1:=by
 obtain⟨n,h⟩:=h
 refine⟨n+1,fun main dfs γ ρ0 a w hs=>?_⟩
 obtain⟨_,_,ρ,_,s⟩:=id hs
 exact vq (t:=true) (Sim.eval s hc).bool_inv (h main dfs γ ρ0 a w hs)
theorem Brings.condF [PhC P]{c:Operand}{x y:Code}(hc:aW σ.t c=some (.bool false))(h:Brings P N K y σ e σ1):Brings P N K (.cond c x y) σ e σ1:=by
 obtain⟨n,h⟩:=h
 refine⟨n+1,fun main dfs γ ρ0 a w hs=>?_⟩
 obtain⟨_,_,ρ,_,s⟩:=id hs
 exact vq (t:=false) (Sim.eval s hc).bool_inv (h main dfs γ ρ0 a w hs)
inductive LoopB (P:Program) [PhC P] (N:Nat) (K:Id→Prop) (c:Code):St→Exit→St→Prop where
 |out {σ:St} {e:Exit} {σ1:St} (hne:e≠ .normal) (h:Brings P N K c σ e σ1):LoopB P N K c σ e σ1
 |round {σ σ1 σ2:St} {e:Exit} (h:Brings P N K c σ .normal σ1) (k:LoopB P N K c σ1 e σ2):LoopB P N K c σ e σ2
 |pre {σ σ1 σ2:St} {e:Exit} (h:Weak P N K σ σ1) (k:LoopB P N K c σ1 e σ2):LoopB P N K c σ e σ2
theorem LoopB.go [PhC P]{c:Code}(h:LoopB P N K c σ e σ1):∃n,∀main dfs γ ρ0 a w,SimS P dfs γ N ρ0 K σ a w→LoopG P main c n (fun γ' e' a' w'=>e'=e∧SimS P dfs γ' N ρ0 K σ1 a' w') γ a w:=by
 induction h with
 |out hne h=>
  obtain⟨n,h⟩:=h
  refine⟨n+0+1,fun main dfs γ ρ0 a w hs=>LoopG.round ((h main dfs γ ρ0 a w hs).mono (aN _) ?_)⟩
  rintro γ' e' a' w' ⟨rfl,hh⟩
  cases e'<;>first|exact absurd rfl hne|exact⟨rfl,hh⟩
 |round h _ ih=>
  obtain⟨n,h⟩:=h
  obtain⟨n2,ih⟩:=ih
  refine⟨n+n2+1,fun main dfs γ ρ0 a w hs=>LoopG.round ((h main dfs γ ρ0 a w hs).mono (aN _) ?_)⟩
  rintro γ' e' a' w' ⟨rfl,h⟩
  exact ih main dfs γ' ρ0 a' w' h
 |pre h _ ih=>
  obtain⟨n,ih⟩:=ih
  exact⟨n,fun main dfs γ ρ0 a w hs=>ih main dfs γ ρ0 a w (h dfs γ ρ0 a w hs)⟩
theorem Brings.loop [PhC P]{c:Code}(h:LoopB P N K c σ e σ1):Brings P N K (.loop c) σ e σ1:=by
 obtain⟨n,h⟩:=h.go
 exact⟨n+1,fun main dfs γ ρ0 a w hs=>vr (h main dfs γ ρ0 a w hs)⟩
theorem Brings.regionD [PhC P]{id:Nat}{ops:Array Oper}{L:List (Oper×Rc)}(dep:Nat→List Nat)(hm:P.follows .mixedOrders=true)(hok:Reg.okB ops dep=true)(h1:L.map (·.1)=ops.toList)(h2:TRun P ops N σ.t σ.h σ.n L)(hC:DU dep L)
  (h3:∀x,look σ1.t x=look (ib (fun _=>true) 0 L σ.t) x) (h4:∀x,look σ1.h x=look (gt (fun _=>true) 0 L σ.h) x) (h5:(∀b:Id,σ.n≤b.1→look σ.h b=none)→∀b:Id,σ1.n≤b.1→look σ1.h b=none):Brings P N K (.region id ops true) σ .normal σ1:=by
 obtain⟨nn,h2⟩:=h2.bound
 refine⟨ops.size*(nn+1)+2,?_⟩
 rintro main dfs γ ρ0 a w ⟨hn,hK,ρ,hρ,s⟩
 refine j5 hm fun w1 h1'=>?_
 have hm0:∀i,gE (Array.replicate ops.size false) i=false:=by
  intro i
  unfold gE
  rw[bV,Array.getElem?_replicate]
  split<;>rfl
 have hQ:∀γ' ρ' a' w',(∀b,K b→ρ' b=ρ0 b)→SimN P dfs γ' N ρ' (ib (fun _=>true) 0 L σ.t) (gt (fun _=>true) 0 L σ.h) a' w'→Exit.normal=Exit.normal∧SimS P dfs γ' N ρ0 K σ1 a' w':=
  fun γ' ρ' a' w' hρ' s'=>⟨rfl,h5 hn,fun b hb=>by
   have:=iU (fun _=>true) L 0 σ.h b (hK b hb)
   unfold Live at this⊢
   rw[h4]
   exact this,ρ',hρ',Sim.congr s' h3 h4⟩
 exact px (Q:=fun γ' e a' w'=>e= .normal∧SimS P dfs γ' N ρ0 K σ1 a' w') hok h1 h2 hn hC (ρ0:=ρ0) (L0:=K) hK hQ ops.size (List.range ops.size) _ γ a _ ρ (by simp) (by simp) (fun i hi _=>gL.2 hi)
  (fun k o ho hmk=>absurd hmk (by rw[hm0];simp)) hρ (by
   rw[oc _ _ _ _ fun i _=>hm0 i,oa _ _ _ _ fun i _=>hm0 i]
   exact SimN.next (SimN.rely s h1') (fun _ h=>h) (fun _ h=>h) (fun _ h=>.inl h) (fun _ _ _=>rfl) (aN _))
theorem yf [PhC P]{main:Bool}{dfs:List Deferred}{nn:Nat}{ops:Array Oper}{ρ0:Id→Pl}{Q:Gh→Exit→Act→World→Prop}:∀(L:List (Oper×Rc)) (k:Nat) (t:List (Nat×D)) (h:HL) (n:Nat) (γ:Gh) (a:Act) (w:World) (ρ:Id→Pl),TRunN P ops N nn t h n L→(∀b:Id,n≤b.1→look h b=none)→
  (∀b,K b→Live h b)→(∀b,K b→ρ b=ρ0 b)→(∀i,ops[k+i]?=(L[i]?).map (·.1))→SimN P dfs γ N ρ t h a w→
  (∀γ ρ a w,(∀b,K b→ρ b=ρ0 b)→SimN P dfs γ N ρ (ib (fun _=>true) k L t) (gt (fun _=>true) k L h) a w→Q γ .normal a w)→OpsG P main ops (List.range' k L.length) (L.length*(nn+1)+1) Q γ a w
 |[],k,t,h,n,γ,a,w,ρ,_,_,_,hρ,_,s,hq=>by simpa using jU (hq γ ρ a w hρ s)
 |(o,r)::L,k,t,h,n,γ,a,w,ρ,hT,hn,hK,hρ,hops,s,hq=>by
  obtain⟨⟨rfl,h1,h2,h3⟩,h4,h5⟩:=hT
  simp only[dZ,List.range'_succ]
  have ho:ops[k]?=some o:=by simpa using hops 0
  have hn':∀b:Id,r.n'≤b.1→look (puts r.u h) b=none:=by
   intro b hb
   rw[aS _ _ _ fun x hx e=>by have:=h2 x hx;rw[e] at this;omega]
   exact hn b (by omega)
  have nxt:∀(γ':Gh) (ρ':Id→Pl) (v:Value) (w':World),Ext h ρ ρ'→SimN P dfs γ' N ρ' (eA o.dst r.d t) (puts r.u h) (a.put o.dst v) w'→OpsG P main ops (List.range' (k+1) L.length) (L.length*(nn+1)+1) Q γ' (a.put o.dst v) w':=by
   intro γ' ρ' v w' hex s'
   exact yf L (k+1) _ _ r.n' _ _ w' ρ' h5 hn' (fun b hb=>gr _ _ _ (hK b hb)) (fun b hb=>(hex b (hK b hb)).trans (hρ b hb)) (fun i=>by rw[show k+1+i=k+(i+1) by omega];exact hops (i+1)) s' hq
  have en:(L.length+1)*(nn+1)+1=(nn+1)+(L.length*(nn+1)+1):=by rw[Nat.succ_mul];omega
  rw[en]
  rcases h4 with⟨g1,g2⟩|⟨g1,g2,g3,g4⟩
  ·have hw:=g2 t h (fun x hx=>rfl) (fun b hb=>rfl) main dfs γ ρ a w s
   refine(iP (n1:=nn) (n2:=L.length*(nn+1)+1) ho (Sim.guard s g1) (hw.mono (aN _) ?_)).mono (by omega)
   rintro γ' a' w' ⟨v,ρ',rfl,hex,q1,q2⟩
   exact nxt γ' ρ' v w' hex (Sim.putO q1 h3 q2)
  ·refine OpsG.mono (n:=L.length*(nn+1)+1+1) (iu ho (Sim.guard s g1) (nxt γ ρ undef w (Ext.refl _ _) ?_)) (by omega)
   rw[g2,g3]
   exact Sim.putO s h3 (.tup [] #[] rfl fun i hi=>absurd hi (Nat.not_lt_zero i))
theorem Brings.regionS [PhC P]{id:Nat}{ops:Array Oper}{L:List (Oper×Rc)}(h1:L.map (·.1)=ops.toList)(h2:TRun P ops N σ.t σ.h σ.n L)
  (h3:∀x,look σ1.t x=look (ib (fun _=>true) 0 L σ.t) x) (h4:∀x,look σ1.h x=look (gt (fun _=>true) 0 L σ.h) x) (h5:(∀b:Id,σ.n≤b.1→look σ.h b=none)→∀b:Id,σ1.n≤b.1→look σ1.h b=none):Brings P N K (.region id ops false) σ .normal σ1:=by
 obtain⟨nn,h2⟩:=h2.bound
 refine⟨L.length*(nn+1)+1+1,?_⟩
 rintro main dfs γ ρ0 a w ⟨hn,hK,ρ,hρ,s⟩
 refine lb ?_
 have hlen:ops.size=L.length:=by have:=congrArg List.length h1;simpa using this.symm
 have hops:∀i:Nat,ops[0+i]?=(L[i]?).map (fun x:Oper×Rc=>x.1):=by
  intro i
  have:=congrArg (fun l:List Oper=>l[i]?) h1
  simpa using this.symm
 rw[hlen,List.range_eq_range']
 exact yf (Q:=fun γ' e a' w'=>e= .normal∧SimS P dfs γ' N ρ0 K σ1 a' w') L 0 _ _ _ γ a w ρ h2 hn hK hρ hops s fun γ' ρ' a' w' hρ' s'=>⟨rfl,h5 hn,fun b hb=>by
   have:=iU (fun _=>true) L 0 σ.h b (hK b hb)
   unfold Live at this⊢
   rw[h4]
   exact this,ρ',hρ',Sim.congr s' h3 h4⟩
end Go.Proofs.Ytbmnihglaokhmaa.Am
namespace Go.Proofs.Ytbmnihglaokhmaa.Am
open Go Go.RowKit Go.Conc
variable {P:Program} {w0:World} {S:SD} {A:Nat→Prop} {N:Nat} {K:Id→Prop} {ρ:Id→Pl} {t:List (Nat×D)} {h h':HL} {a:Act} {w:World}
inductive Rn (h:HL) (g:Id→Id) (h':HL):D→D→Prop where
 |ref (b:Id) (hb:Live h (g b)→Live h' b):Rn h g h' (.ref (g b)) (.ref b)
 |ptr (b:Id) (o:Nat) (hb:Live h (g b)→Live h' b):Rn h g h' (.ptr (g b) o) (.ptr b o)
 |eptr (b:Id) (i o:Nat) (hb:Live h (g b)→Live h' b):Rn h g h' (.eptr (g b) i o) (.eptr b i o)
 |vref (b:Id) (o n:Nat) (hb:Live h (g b)→Live h' b):Rn h g h' (.vref (g b) o n) (.vref b o n)
 |mp (b:Id) (hb:Live h (g b)→Live h' b):Rn h g h' (.mp (g b)) (.mp b)
 |lst (b:Id) (l:List D) (hb:look h b=some (.froz l)):Rn h g h' (.ref b) (.lst l)
 |box (b:Id) (cs:List D) (hb:look h b=some (.fvar cs)):Rn h g h' (.ptr b 0) (.box cs)
 |fwd (d d':D) (hd:Rn h g h' (fwd h d) d'):Rn h g h' d d'
 |pure (d:D) (hd:d.pure0=true):Rn h g h' d d
 |nils:Rn h g h' .nils (.lst [])
 |iptr (e:D) (o:Nat):Rn h g h' (.iptr e o) (.iptr e o)
 |gv (k:Nat):Rn h g h' (.gv k) (.gv k)
 |agg (cs cs':List D) (hl:cs.length=cs'.length) (hc:∀i,i<cs.length→Rn h g h' (cs.getD i .undef) (cs'.getD i .undef)):Rn h g h' (.agg cs) (.agg cs')
 |tup (cs cs':List D) (hl:cs.length=cs'.length) (hc:∀i,i<cs.length→Rn h g h' (cs.getD i .undef) (cs'.getD i .undef)):Rn h g h' (.tup cs) (.tup cs')
 |clo (f:FuncId) (cs cs':List D) (hl:cs.length=cs'.length) (hc:∀i,i<cs.length→Rn h g h' (cs.getD i .undef) (cs'.getD i .undef)):Rn h g h' (.clo f cs) (.clo f cs')
 |ifc (T:TypeId) (d d':D) (hd:Rn h g h' d d'):Rn h g h' (.ifc T d) (.ifc T d')
 |undef (d:D):Rn h g h' d .undef
 |junk:Rn h g h' .junk .junk
inductive RnB (h:HL) (g:Id→Id) (h':HL):Blk→Blk→Prop where
 |var (T:TypeId) (cs cs':List D) (hl:cs.length=cs'.length) (hc:∀i,i<cs.length→Rn h g h' (cs.getD i .undef) (cs'.getD i .undef)):RnB h g h' (.var T cs) (.var T cs')
 |row (E:TypeId) (l l':List D) (hl:l.length=l'.length) (hc:∀i,i<l.length→Rn h g h' (l.getD i .undef) (l'.getD i .undef)∧∀s,wfC s (l.getD i .undef)→wfC s (l'.getD i .undef)∧∀j,j<s→Rn h g h' ((l.getD i .undef).cells.getD j .undef) ((l'.getD i .undef).cells.getD j .undef)):RnB h g h' (.row E l) (.row E l')
 |froz (l:List D):RnB h g h' (.froz l) (.froz l)
 |fvar (cs:List D):RnB h g h' (.fvar cs) (.fvar cs)
 |obj (b:Option Id) (p:Nat→Obj→Prop) (hb:∀c,b=some c→Live h (g c)→Live h' c):RnB h g h' (.obj (b.map g) p) (.obj b p)
 |gone (x:Blk):RnB h g h' x .gone
structure Ren (h:HL)(g:Id→Id)(h':HL):Prop where
 blk:∀b x',look h' b=some x'→∃x,look h (g b)=some x∧RnB h g h' x x'
 inj:∀b c x y,look h' b=some x→look h' c=some y→x.live=true→y.live=true→g b=g c→b=c
theorem RnB.live {g:Id→Id}{x x':Blk}(hr:RnB h g h' x x'):(x'.live=true→x.live=true)∧(x'.mutable=true→x.mutable=true):=by
 cases hr with
 |var T cs cs' hl hc=>exact⟨fun _=>rfl,fun _=>rfl⟩
 |row E l l' hl hc=>exact⟨fun _=>rfl,fun _=>rfl⟩
 |froz l=>exact⟨fun _=>rfl,fun h=>h⟩
 |fvar cs=>exact⟨fun _=>rfl,fun h=>h⟩
 |obj b p hb=>exact⟨fun _=>rfl,fun _=>rfl⟩
 |gone=>exact⟨fun h=>absurd h (by decide),fun h=>absurd h (by decide)⟩
theorem Sim.rn (s:Sim P w0 S A N ρ t h a w){g:Id→Id}{ok':Nat→Prop}(hok:∀k,okOf A ρ h w k→ok' k){d d':D}{v:Value}(hr:Rn h g h' d d'):C ρ (Live h) (okOf A ρ h w) w d v→C (fun b=>ρ (g b)) (Live h') ok' w d' v:=by
 induction hr generalizing v with
 |ref b hb=>intro hc;obtain⟨hl,rfl⟩:=hc.ref_inv;exact .ref (ρ:=fun b=>ρ (g b)) b (hb hl)
 |ptr b o hb=>intro hc;obtain⟨hl,rfl⟩:=hc.ptr_inv;exact .ptr (ρ:=fun b=>ρ (g b)) b o (hb hl)
 |eptr b i o hb=>intro hc;obtain⟨hl,rfl⟩:=hc.eptr_inv;exact .eptr (ρ:=fun b=>ρ (g b)) b i o (hb hl)
 |vref b o n hb=>intro hc;obtain⟨hl,hn,rfl⟩:=hc.vref_inv;exact .vref (ρ:=fun b=>ρ (g b)) b o n (hb hl) hn
 |mp b hb=>intro hc;obtain⟨hl,rfl⟩:=hc.mp_inv;exact .mp (ρ:=fun b=>ρ (g b)) b (hb hl)
 |lst b l hb=>intro hc;obtain⟨_,rfl⟩:=hc.ref_inv;exact .pure (Rep.mono (s.blk b _ hb) fun k hk=>⟨hok k hk,rfl⟩)
 |box b cs hb=>intro hc;obtain⟨_,rfl⟩:=hc.ptr_inv;exact .pure (Rep.mono (s.blk b _ hb) fun k hk=>⟨hok k hk,rfl⟩)
 |fwd d d' hd ih=>intro hc;exact ih (s.fwd hc)
 |pure d hd=>intro hc;exact .pure ((hc.rep0 hd).mono fun k hk=>⟨hok k hk,rfl⟩)
 |nils=>intro hc;obtain rfl:=hc.nils_inv;exact .pure (.none _ _ (fun _=>rfl) (by unfold maxLen;omega))
 |iptr e o=>
  intro hc
  obtain⟨b,off,f,rfl,h1,h2,h3⟩:=hc.iptr_inv
  exact .iptr e o b off f (hok b h1) h2 fun j hj=>(h3 j hj).mono fun k hk=>⟨hok k hk,rfl⟩
 |agg cs cs' hl hcs ih=>
  intro hc
  obtain⟨vs,rfl,h1,h2⟩:=hc.agg_inv
  exact .agg _ _ (by omega) fun i hi=>ih i (by omega) (h2 i (by omega))
 |tup cs cs' hl hcs ih=>
  intro hc
  obtain⟨vs,rfl,h1,h2⟩:=hc.tup_inv
  exact .tup _ _ (by omega) fun i hi=>ih i (by omega) (h2 i (by omega))
 |clo f cs cs' hl hcs ih=>
  intro hc
  obtain⟨vs,rfl,h1,h2⟩:=hc.clo_inv
  exact .clo _ _ _ (by omega) fun i hi=>ih i (by omega) (h2 i (by omega))
 |ifc T d d' hd ih=>
  intro hc
  obtain⟨v',rfl,h1⟩:=hc.ifc_inv
  exact .ifc _ _ _ (ih h1)
 |undef d=>intro hc;exact .any _
 |gv k=>intro hc;obtain⟨x,ad,rfl,h1,h2,h3⟩:=hc.gv_inv;exact .gv k x ad h1 (hok k h2) h3
 |junk=>intro hc;exact .junk _ hc.junk_inv
theorem Sim.ren (s:Sim P w0 S A N ρ t h a w){g:Id→Id}(hr:Ren h g h'){N':Nat}{a':Act}{t':List (Nat×D)}(hd:a'.defers=S.dfs)(hs:a'.tmps.size=N')
  (ht:∀k d',look t' k=some d'→k<N'∧∃d,C ρ (Live h) (okOf A ρ h w) w d (a'.tmps.getD k undef)∧Rn h g h' d d'):Sim P w0 S A N' (fun b=>ρ (g b)) t' h' a' w∧∀k,okOf A ρ h w k→okOf A (fun b=>ρ (g b)) h' w k:=by
 have hok:∀k,okOf A ρ h w k→okOf A (fun b=>ρ (g b)) h' w k:=by
  rintro k ⟨hk,hm⟩
  refine⟨hk,fun b x' hx hmu=>?_⟩
  obtain⟨x,h1,h2⟩:=hr.blk b x' hx
  exact hm _ x h1 (h2.live.2 hmu)
 refine⟨⟨s.base,s.inS,s.fr,hd,hs,fun k d' hk=>?_,fun b x' hx=>?_,fun b x' hx hl=>?_,fun b c x' y' hx hy hlx hly he=>?_,s.gl⟩,hok⟩
 ·obtain⟨h1,d,h2,h3⟩:=ht k d' hk
  exact⟨h1,s.rn hok h3 h2⟩
 ·obtain⟨x,h1,h2⟩:=hr.blk b x' hx
  have hb:=s.blk _ x h1
  cases h2 with
  |var T cs cs' hl hc=>
   obtain⟨c,c1,c2,c3⟩:=hb
   exact⟨c,c1,by omega,fun j hj=>s.rn hok (hc j (by omega)) (c3 j (by omega))⟩
  |row E l l' hl hc=>
   obtain⟨c,c1,c2,c3,c4,c5,c6,c7,c8,c9⟩:=hb
   refine⟨c,c1,c2,by rw[←hl];exact c3,c4,c5,c6,c7,fun e he=>?_,fun i j hi hj=>?_⟩
   ·obtain⟨i,hi,rfl⟩:=bW he
    exact((hc i (by omega)).2 _ (c8 _ (br (by omega)))).1
   ·exact s.rn hok (((hc i (by omega)).2 _ (c8 _ (br (by omega)))).2 j hj) (c9 i j (by omega) hj)
  |froz l=>exact Rep.mono hb fun k hk=>⟨hok k hk,rfl⟩
  |fvar cs=>exact Rep.mono hb fun k hk=>⟨hok k hk,rfl⟩
  |obj b2 p hl=>
   obtain⟨h1,o,h2,h3,h4⟩:=hb
   cases b2 with
   |none=>exact⟨trivial,o,h2,h3,h4⟩
   |some c=>exact⟨hl c rfl h1,o,h2,h3,h4⟩
  |gone x=>trivial
 ·obtain⟨x,h1,h2⟩:=hr.blk b x' hx
  exact s.own _ x h1 (h2.live.1 hl)
 ·obtain⟨x,h1,h2⟩:=hr.blk b x' hx
  obtain⟨y,h3,h4⟩:=hr.blk c y' hy
  exact hr.inj b c x' y' hx hy hlx hly (s.inj _ _ x y h1 h3 (h2.live.1 hlx) (h4.live.1 hly) he)
theorem pV {σ σ':St}{g:Id→Id}(hr:Ren σ.h g σ'.h)(ht:∀k d',look σ'.t k=some d'→∃d,look σ.t k=some d∧Rn σ.h g σ'.h d d')(hK:∀b,K b→Live σ.h b→g b=b∧Live σ'.h b)(hn:∀b:Id,σ'.n≤b.1→look σ'.h b=none):Weak P N K σ σ':=by
 rintro dfs γ ρ0 a w ⟨_,hK0,ρ,hρ,s⟩
 refine⟨hn,fun b hb=>(hK b hb (hK0 b hb)).2,fun b=>ρ (g b),fun b hb=>by show ρ (g b)=_;rw[(hK b hb (hK0 b hb)).1];exact hρ b hb,(Sim.ren s hr s.defers s.size fun k d' hk=>?_).1⟩
 obtain⟨d,h1,h2⟩:=ht k d' hk
 exact⟨(s.tmp k d h1).1,d,(s.tmp k d h1).2,h2⟩
theorem pU {σ:St}(bs:List Id):Weak P N K σ ⟨σ.t,puts (frz σ.h bs) σ.h,σ.n⟩:=by
 rintro dfs γ ρ0 a w ⟨h1,hK0,ρ,hρ,s⟩
 refine⟨fun b hb=>qj (h1 b hb),fun b hb=>lD (hK0 b hb),ρ,hρ,(Sim.frz_ok s bs).1⟩
def nI (P:Program)(σ:St):ResultVar→Option D
 | .tmp k=>some ((look σ.t k).getD .undef)
 | .cell k T=>(look σ.t k).bind fun d=>if dU d then cP P σ.h T d else none
def one (ds:List D):D:=match ds with|[d]=>d|ds=>.tup ds
def rE (P:Program)(rs:List ResultVar)(K:Id→Prop)(σ:St)(r:D)(hout:HL):Prop:=
 ∃ds bs g,rs.mapM (nI P σ)=some ds∧Rn (puts (frz σ.h bs) σ.h) g hout (one ds) r∧Ren (puts (frz σ.h bs) σ.h) g hout∧∀b,K b→Live σ.h b→g b=b∧Live hout b
theorem Sim.results (s:Sim P w0 S A N ρ t h a w){n:Nat}{f:ResultVar→Sem Value}(hf:∀r,f r=(match r with| .tmp t=>pure (a.tmps.getD t undef)| .cell x T=>do loadVar T (←asAddr (a.tmps.getD x undef)))):∀{rs:List ResultVar} {ds:List D},rs.mapM (nI P ⟨t,h,n⟩)=some ds→
  ∃vs:List Value,(rs.mapM f).run P w= .ok vs w∧ds.length=vs.length∧∀i,i<ds.length→C ρ (Live h) (okOf A ρ h w) w (ds.getD i .undef) (vs.getD i undef)
 |[],ds,hd=>by
  simp at hd
  subst hd
  exact⟨[],by simp,rfl,by simp⟩
 |r::rs,ds,hd=>by
  simp only[gh,rC,bu,Option.pure_def,aK] at hd
  obtain⟨d,h1,ds',h2,rfl⟩:=hd
  obtain⟨vs,r1,r2,r3⟩:=s.results hf h2
  have hv:∃v,(f r).run P w= .ok v w∧C ρ (Live h) (okOf A ρ h w) w d v:=by
   rw[hf]
   cases r with
   |tmp k=>
    simp only[nI,aK] at h1
    subst h1
    refine⟨a.tmps.getD k undef,rfl,?_⟩
    cases hk:look t k with
    |none=>exact .any _
    |some d=>exact(s.tmp k d hk).2
   |cell k T=>
    simp only[nI] at h1
    obtain⟨d0,q1,q2⟩:=bu.1 h1
    split at q2
    ·rename_i hp
     have hc:=(s.tmp k d0 q1).2
     obtain⟨ad,e⟩:=hc.isPtr_inv hp
     obtain⟨v,l1,l2⟩:=s.load q2 hc
     refine⟨v,?_,l2⟩
     show ((do loadVar T (←asAddr (a.tmps.getD k undef))):Sem Value).run P w= .ok v w
     rw[e] at l1⊢
     simpa[Instr.loadAt,Instr.sureAddr,asAddr] using l1
    ·cases q2
  obtain⟨v,v1,v2⟩:=hv
  refine⟨v::vs,by simp[v1,r1],by simp[r2],fun i hi=>?_⟩
  cases i with
  |zero=>simpa using v2
  |succ i=>simpa using r3 i (by simpa using hi)
def EM (tmps:Array Value):ResultVar→Sem Value
 | .tmp t=>pure (tmps.getD t undef)
 | .cell x T=>do loadVar T (←asAddr (tmps.getD x undef))
theorem k8 (fn:Func)(tmps:Array Value):results fn tmps=(fn.results.mapM (EM tmps)>>=fun vs=>pure (if h:vs.size=1 then vs[0] else .tuple vs)):=rfl
theorem EH {L:Id→Prop}{ok:Nat→Prop}{ds:List D}{vs:List Value}(hl:ds.length=vs.length)(hc:∀i,i<ds.length→C ρ L ok w (ds.getD i .undef) (vs.getD i undef)):C ρ L ok w (one ds) (if h:vs.toArray.size=1 then vs.toArray[0] else .tuple vs.toArray):=by
 match ds,vs,hl with
 |[],[],_=>exact .tup [] #[] rfl fun i hi=>by simp at hi
 |[d],[v],_=>simpa[one] using hc 0 (by simp)
 |d::d'::ds,v::v'::vs,hl=>
  simp only[one]
  rw[dif_neg (by simp)]
  refine .tup _ _ (by simpa using hl) fun i hi=>?_
  have:=hc i hi
  rw[iD]
  exact this
def z0 (ds:List D):List (Nat×D):=(ds.zipIdx 0).map fun x=>(x.2,x.1)
theorem qY:∀(ds:List D) (k b:Nat),look ((ds.zipIdx k).map fun x=>(x.2,x.1)) b=if k≤b then ds[b-k]? else none
 |[],k,b=>by simp[look]
 |x::bs,k,b=>by
  simp only[pY,bI,look,qY bs (k+1) b]
  by_cases h1:b=k
  ·subst h1;simp
  ·by_cases h2:k≤b
   ·rw[if_neg h1,if_pos (by omega),if_pos h2,show b-k=(b-(k+1))+1 by omega]
    rfl
   ·rw[if_neg h1,if_neg (by omega),if_neg h2]
def bnd:Nat→D→Prop
 |0,_=>True
 |k+1,.lst l=>l.length≤9223372036854775807∧∀e∈l,∀c∈e.cells,bnd k c
 |k+1,.agg cs=>∀c∈cs,bnd k c
 |k+1,.tup cs=>∀c∈cs,bnd k c
 |k+1,.box cs=>∀c∈cs,bnd k c
 |_+1,_=>True
theorem Rep.bnd {ok:Nat→Prop}{w:World}:∀(k:Nat) {d:D} {v:Value},Rep ok w d v→Am.bnd k d
 |0,_,_,_=>trivial
 |k+1,d,v,h=>by
  cases h with
  |none a cap ha hcap=>exact⟨by simp,fun e he=>by cases he⟩
  |lst l n b off cap f hn hcap hmax hok hsz hpos hc hr=>
   have hm:maxLen=9223372036854775807:=rfl
   refine⟨by omega,fun e he c hc'=>?_⟩
   obtain⟨i,hi,rfl⟩:=bW he
   obtain⟨j,hj,rfl⟩:=bW hc'
   have hs:=(hsz _ he).1
   exact(hr i j (by omega) (by omega)).bnd k
  |agg cs vs hl h=>intro c hc;obtain⟨i,hi,rfl⟩:=bW hc;exact(h i hi).bnd k
  |tup cs vs hl h=>intro c hc;obtain⟨i,hi,rfl⟩:=bW hc;exact(h i hi).bnd k
  |box cs b off f hok hpos hc hr=>intro c hc';obtain⟨i,hi,rfl⟩:=bW hc';exact(hr i hi).bnd k
  |_=>trivial
theorem C.bnd {ρ:Id→Pl}{L:Id→Prop}{ok:Nat→Prop}{w:World}:∀(k:Nat) {d:D} {v:Value},C ρ L ok w d v→Am.bnd k d
 |0,_,_,_=>trivial
 |k+1,d,v,h=>by
  cases h with
  |pure h=>exact h.bnd (k+1)
  |agg cs vs hl h=>intro c hc;obtain⟨i,hi,rfl⟩:=bW hc;exact(h i hi).bnd k
  |tup cs vs hl h=>intro c hc;obtain⟨i,hi,rfl⟩:=bW hc;exact(h i hi).bnd k
  |_=>trivial
def bndB (k:Nat):Blk→Prop
 | .var _ cs=>∀c∈cs,bnd k c
 | .row _ l=>l.length≤9223372036854775807∧∀e∈l,∀c∈e.cells,bnd k c
 |_=>True
theorem Sim.bndB (s:Sim P w0 S A N ρ t h a w)(k:Nat){b:Id}{x:Blk}(hb:look h b=some x):Am.bndB k x:=by
 have hx:=s.blk b x hb
 cases x with
 |var T cs=>
  obtain⟨c,h1,h2,h3⟩:=hx
  intro e he
  obtain⟨i,hi,rfl⟩:=bW he
  exact(h3 i hi).bnd k
 |row E l=>
  obtain⟨c,h1,h2,h3,h4,h5,h6,h7,h8,h9⟩:=hx
  have hm:maxLen=9223372036854775807:=rfl
  refine⟨by omega,fun e he d hd=>?_⟩
  obtain⟨i,hi,rfl⟩:=bW he
  obtain⟨j,hj,rfl⟩:=bW hd
  have hs:=(h8 _ he).1
  exact(h9 i j hi (by omega)).bnd k
 |_=>trivial
theorem wV {dfs:List Deferred}{γ:Gh}{fn:Func}{n:Nat}(s:SimN P dfs γ N ρ t h a w){ds:List D}(hd:fn.results.toList.mapM (nI P ⟨t,h,n⟩)=some ds):∀e∈(results fn a.tmps).events P w #[],EvOK γ w.heap.size e:=by
 have hpl:Plain P aZ (results fn a.tmps):=by
  rw[k8]
  refine(kY (L:=aZ) (fun r=>?_) _).bindM fun _ _=>ae
  cases r with
  |tmp k=>exact ae
  |cell x T=>exact am.bindM fun _ _=>ai
 have hr:∀{w0:World} {S:SD} {A:Nat→Prop} {ρ:Id→Pl} {w:World},Sim P w0 S A N ρ t h a w→∃v,(results fn a.tmps).run P w= .ok v w:=by
  intro w0 S A ρ w s
  obtain⟨vs',r1,r2,r3⟩:=Sim.results s (f:=EM a.tmps) (fun r=>by cases r<;>rfl) hd
  refine⟨(if h:vs'.toArray.size=1 then vs'.toArray[0] else .tuple vs'.toArray),?_⟩
  rw[k8,Array.mapM_eq_mapM_toList,Sem.run_bind,map_eq_pure_bind,Sem.run_bind,r1]
  rfl
 obtain⟨v,r1⟩:=hr s
 have sp:Spoilt (γ.At w) γ.S w (spoilW (γ.At w) γ.S w):=u9 _ _ _
 have sp':Spoilt (γ.At w) (fun k=>γ.S k∨w.heap.size≤k) w (spoilW (γ.At w) γ.S w):=sp.wide
 obtain⟨v2,r2⟩:=hr (Sim.spoil s sp rfl rfl)
 obtain⟨w',es',q1,q2,q3,q4⟩:=pM (n0:=w.heap.size) (fun k hk=>.inr hk) hpl (es:=#[]) (aN _) sp' r2
 have e1:(results fn a.tmps).run P w= .ok v2 w':=by rw[←Sem.runT_fst P _ w #[],q1]
 rw[r1] at e1
 simp only[Result.ok.injEq] at e1
 obtain⟨rfl,rfl⟩:=e1
 intro e he
 have hev:(results fn a.tmps).events P w #[]=es':=by unfold Sem.events;rw[q1]
 rw[hev] at he
 rcases q4 e he with h|h
 ·simp at h
 ·exact .inl (h.mono (fun k hlt hk=>hk.elim .inl fun h=>by omega) (fun k hlt hk=>hk.elim id fun h=>by omega) (aN _))
theorem vY [PhC P] {f : FuncId} {fn : Func} {c : Code} (hf : P.funcs[f]? = some fn) (hb : fn.body = some c) (hname : (fn.name == "runtime.NumGoroutine") = false) {N : Nat} {rs : List ResultVar} (hN : fn.ntmps = N) (hrs : fn.results.toList = rs) {ds : List D} {hin : HL} {n0 : Nat} {r : D} {hout : HL}
  (hl:ds.length≤N) (hn0:∀b:Id,n0≤b.1→look hin b=none)
  (hF:(∀d∈ds,bnd 6 d)→(∀b x,look hin b=some x→bndB 6 x)→∃e σ,Brings P N (Live hin) c ⟨z0 ds,hin,n0⟩ e σ∧(jk P N (Live hin) σ→(e= .normal∨e= .ret)∧rE P rs (Live hin) σ r hout)):Con P f ds hin r hout:=by
 subst hN hrs
 refine⟨⟨fn,hf,by rw[hb];rfl,hname⟩,?_⟩
 by_cases hB:(∀d∈ds,bnd 6 d)∧(∀b x,look hin b=some x→bndB 6 x)
 case neg=>
  refine⟨0,fun main γ w ρ vs hγ s hlen hv=>absurd ⟨fun d hd=>?_,fun b x hx=>Sim.bndB s 6 hx⟩ hB⟩
  obtain⟨i,hi,rfl⟩:=bW hd
  exact(hv i hi).bnd 6
 obtain⟨e,σ,⟨n,hA⟩,hfin⟩:=hF hB.1 hB.2
 refine⟨n+1,fun main γ w ρ vs hγ s hlen hv=>?_⟩
 refine rN hf hb ?_
 have hs0:SimS P [] γ fn.ntmps ρ (Live hin) ⟨z0 ds,hin,n0⟩ {tmps:=vs++Array.replicate (fn.ntmps-vs.size) undef,defers:=[]} w:=by
  refine⟨hn0,fun b hb=>hb,ρ,fun b hb=>rfl,s.base,s.inS,s.fr,rfl,by simp;omega,fun k d hk=>?_,s.blk,Sim.own s,s.inj,s.gl⟩
  have hk2:look ((ds.zipIdx 0).map fun x=>(x.2,x.1)) k=some d:=hk
  rw[qY] at hk2
  simp only[gJ,if_true,Nat.sub_zero] at hk2
  have hk':k<ds.length:=(cz.1 hk2).1
  refine⟨by omega,?_⟩
  have:=hv k hk'
  rw[aX,hk2] at this
  have hkv:k<vs.size:=by omega
  simpa[bV,Array.getElem?_append,hkv] using this
 refine(hA main [] γ ρ _ w hs0).mono (aN _) ?_
 clear hA
 rintro γ' e' a' w' ⟨rfl,hs1⟩
 obtain⟨he,ds',bs,g,hrds,hrn,hren,hkeep⟩:=hfin ⟨_,_,_,_,_,hs1⟩
 clear hfin
 obtain⟨hn,hK,ρ1,hρ1,s1⟩:=hs1
 have fin:a'.defers=[]∧∀w1,Rel γ' w' w1→∃u,(results fn a'.tmps).run P w1= .ok u w1∧(∀e∈(results fn a'.tmps).events P w1 #[],EvOK γ' w1.heap.size e)∧∃ρ'',(∀b,Live hin b→ρ'' b=ρ b∧Live hout b)∧SimN P [] γ' 0 ρ'' [] hout jD w1∧C ρ'' (Live hout) (okOf (γ'.At w1) ρ'' hout w1) w1 r u:=by
  refine⟨s1.defers,fun w1 hw1=>?_⟩
  have s1:=SimN.rely s1 hw1
  obtain⟨vs',r1,r2,r3⟩:=Sim.results s1 (f:=EM a'.tmps) (fun r=>by cases r<;>rfl) hrds
  have hone:=EH r2 r3
  have hrun:(results fn a'.tmps).run P w1= .ok (if h:vs'.toArray.size=1 then vs'.toArray[0] else .tuple vs'.toArray) w1:=by
   rw[k8,Array.mapM_eq_mapM_toList,Sem.run_bind,map_eq_pure_bind,Sem.run_bind,r1]
   rfl
  generalize (if h:vs'.toArray.size=1 then vs'.toArray[0] else Value.tuple vs'.toArray)=u at *
  obtain⟨q1,q2,q3⟩:=Sim.frz_ok s1 bs
  have hcu:C ρ1 (Live (puts (frz σ.h bs) σ.h)) (okOf (γ'.At w1) ρ1 (puts (frz σ.h bs) σ.h) w1) w1 (one ds') u:=hone.mono (fun b hb=>⟨lD hb,rfl⟩) (fun k hk=>⟨⟨hk.1,fun b y hy hmu=>by
   rcases q2 b with q|⟨y',z1,z2⟩
   ·rw[q] at hy;exact hk.2 b y hy hmu
   ·rw[z2] at hy
    obtain rfl:=bm hy
    rw[(jH z1).2.1] at hmu;cases hmu⟩,rfl⟩)
  obtain⟨s3,hok3⟩:=q1.ren (N':=0) (a':=jD) (t':=[]) hren rfl rfl (fun k d' hk=>by cases hk)
  refine⟨u,hrun,wV s1 hrds,fun b=>ρ1 (g b),fun b hb=>⟨by show ρ1 (g b)=_;rw[(hkeep b hb (hK b hb)).1];exact hρ1 b hb,(hkeep b hb (hK b hb)).2⟩,s3,q1.rn hok3 hrn hcu⟩
 rcases he with rfl|rfl
 ·exact fin
 ·exact fin
end Go.Proofs.Ytbmnihglaokhmaa.Am
namespace Go.Proofs.Ytbmnihglaokhmaa.Am
open Go Go.RowKit Go.Conc
variable {P:Program} {t:List (Nat×D)} {h:HL} {n:Nat}
theorem tM {k:Nat}{x:Operand}{l:List (Nat×Operand)}{d:D}{ds:List (Nat×D)}(hx:aW t x=some d)(hl:evalPs t l=some ds):evalPs t ((k,x)::l)=some ((k,d)::ds):=by
 simp only[evalPs] at hl⊢
 simp[hx,hl]
theorem tL {x:Operand}{l:List Operand}{d:D}{ds:List D}(hx:aW t x=some d)(hl:evalDs t l=some ds):evalDs t (x::l)=some (d::ds):=by
 simp only[evalDs] at hl⊢
 simp[hx,hl]
theorem wj {place:Nat→Option (Nat×Nat)}{cs cs' r:List D}{i off size:Nat}{d:D}{l:List (Nat×D)}(hp:place i=some (off,size))(hw:d.whole=true)(hs:d.cells.length=size)(hl:off+size≤cs.length)(hc:bk cs off d.cells=cs')(hr:gw place cs' l=some r):gw place cs ((i,d)::l)=some r:=by
 subst hs hc
 simp only[gw,hp]
 rw[if_pos ⟨hw,by simp,hl⟩]
 exact hr
theorem B6 {T:TypeId}{cs:List D}{o:Nat}{d:D}(ha:isAggT P T=some false)(hd:cs[o]?=some d):bT P T cs o=some d:=by simp[bT,ha,hd]
theorem DQ {T:TypeId}{cs cs':List D}{o s:Nat}(ha:isAggT P T=some true)(hs:sizeT P T=some s)(hl:o+s≤cs.length)(hd:(cs.drop o).take s=cs'):bT P T cs o=some (.agg cs'):=by simp[bT,ha,hs,hl,hd]
theorem nR (h:HL)(d:D):(fwd h d).one=d.one:=by
 cases d
 case ref b=>simp only[fwd];split<;>rfl
 case ptr b o=>
  simp only[fwd]
  split
  ·rfl
  ·split<;>rfl
  ·rfl
 case eptr b i o=>simp only[fwd];split<;>rfl
 case vref b o n=>simp only[fwd];split<;>rfl
 case mp b=>simp only[fwd];split<;>rfl
 all_goals simp[fwd,D.one]
theorem yW (h:HL)(d:D):(fwd h d).cells=d.cells.map (fwd h):=by
 by_cases hd:d.one=true
 ·rw[cF hd,cF (by rw[nR];exact hd)];rfl
 ·cases d with
  |agg cs=>simp only[fwd,D.cells,d9]
  |tup cs=>simp[fwd,D.cells]
  |undef=>simp[fwd,D.cells]
  |_=>exact absurd rfl hd
theorem yd (d:D):(nz0 d).one=d.one:=by cases d<;>rfl
def lC (h:HL)(d:D):D:=nzE (fwd h d)
theorem jO (h:HL)(d:D):(lC h d).cells=d.cells.map fun c=>nz0 (fwd h c):=by
 unfold lC
 rw[fv,yW,eI]
 rfl
theorem A8 {h:HL}{s:Nat}{d:D}(hw:wfC s d):wfC s (lC h d):=by
 refine⟨by rw[jO,bH];exact hw.1,?_⟩
 have:=hw.2
 rw[bc] at this⊢
 rw[jO]
 intro x hx
 obtain⟨y,hy,rfl⟩:=aP.1 hx
 rw[yd,nR]
 exact this y hy
def dq (h:HL):Blk→Blk
 | .var T cs=>.var T (cs.map fun c=>nz0 (fwd h c))
 | .row E l=>.row E (l.map (lC h))
 |x=>x
theorem qh (h:HL)(x:Blk):(dq h x).mutable=x.mutable:=by cases x<;>rfl
theorem pf (h:HL)(x:Blk):(dq h x).live=x.live:=by cases x<;>rfl
section
variable {w0:World} {S:SD} {A:Nat→Prop} {N:Nat} {ρ:Id→Pl} {a:Act} {w:World} {h':HL}
theorem Sim.last (s:Sim P w0 S A N ρ t h a w){b:Id}{x:Blk}(hb:look h b=some x):Sim P w0 S A N ρ t (put b (dq h x) h) a w:=by
 have hlv:∀b',Live h b'→Live (put b (dq h x) h) b'∧ρ b'=ρ b':=fun b' hb'=>⟨hb'.put,rfl⟩
 have key:∀b' y,look (put b (dq h x) h) b'=some y→(b'=b∧y=dq h x)∨(b'≠b∧look h b'=some y):=by
  intro b' y hy
  rw[aD] at hy
  by_cases e:b'=b
  ·rw[if_pos e] at hy;exact .inl ⟨e,(bm hy).symm⟩
  ·rw[if_neg e] at hy;exact .inr ⟨e,hy⟩
 have hok:∀k,okOf A ρ h w k→okOf A ρ (put b (dq h x) h) w k∧w.heap[k]?=w.heap[k]?:=by
  rintro k ⟨hk,hm⟩
  refine⟨⟨hk,fun b' y hy hmu=>?_⟩,rfl⟩
  rcases key b' y hy with⟨rfl,rfl⟩|⟨_,hy⟩
  ·rw[qh] at hmu;exact hm b' x hb hmu
  ·exact hm b' y hy hmu
 have old:∀b' y,look (put b (dq h x) h) b'=some y→y.live=true→∃z,look h b'=some z∧z.live=true:=by
  intro b' y hy hl
  rcases key b' y hy with⟨rfl,rfl⟩|⟨_,hy⟩
  ·rw[pf] at hl;exact⟨x,hb,hl⟩
  ·exact⟨y,hy,hl⟩
 refine s.step s.fr hlv hok (fun b' y hy=>?_) (aN _) (fun b1 b2 y1 y2 hy1 hy2 hl1 hl2 he=>?_)
 ·rcases key b' y hy with⟨rfl,rfl⟩|⟨e,hy⟩
  ·refine .inr ⟨?_,fun hl=>s.own b' x hb (by rw[pf] at hl;exact hl)⟩
   have hbk:=s.blk b' x hb
   cases x with
   |var T cs=>
    obtain⟨c,h1,h2,h3⟩:=hbk
    refine⟨c,h1,by simpa using h2,fun j hj=>?_⟩
    have hj':j<cs.length:=by simpa using hj
    have:=(s.fwd (h3 j hj')).nz0.mono hlv hok
    simpa[aX,hj'] using this
   |row E l=>
    obtain⟨c,h1,h2,h3,h4,h5,h6,h7,h8,h9⟩:=hbk
    refine⟨c,h1,h2,by simpa using h3,h4,h5,h6,h7,fun e he=>?_,fun i j hi hj=>?_⟩
    ·obtain⟨e0,he0,rfl⟩:=aP.1 he
     exact A8 (h8 e0 he0)
    ·have hi':i<l.length:=by simpa using hi
     have hj':j<(l.getD i .undef).cells.length:=by rw[(h8 _ (br hi')).1];exact hj
     have:=(s.fwd (h9 i j hi' hj)).nz0.mono hlv hok
     have e1:(l.map (lC h)).getD i .undef=lC h (l.getD i .undef):=by simp[aX,hi']
     have e2:((l.getD i .undef).cells.map fun c=>nz0 (Am.fwd h c)).getD j .undef=nz0 (Am.fwd h ((l.getD i .undef).cells.getD j .undef)):=by
      rw[aX,cd,a6 hj',aX (i:=j),a6 hj'];rfl
     rw[e1,jO,e2]
     exact this
   |_=>exact BlkOK.mono hbk (Live.of_look hb) hlv hok (fun _=>rfl)
  ·exact .inl ⟨hy,fun _=>rfl⟩
 ·obtain⟨z1,a1,a2⟩:=old b1 y1 hy1 hl1
  obtain⟨z2,c1,c2⟩:=old b2 y2 hy2 hl2
  exact s.inj b1 b2 z1 z2 a1 c1 a2 c2 he
def vM:Blk→List Id
 | .var _ cs=>cs.flatMap aA
 | .row _ l=>l.flatMap fun e=>aA e
 |_=>[]
theorem jQ {α β:Type}{f g:α→β}:∀{l:List α},(∀x∈l,f x=g x)→l.map f=l.map g
 |[],_=>rfl
 |x::l,hx=>by simp only[bI,hx x (bh ..),jQ fun y hy=>hx y (bl _ hy)]
theorem ue {x:Blk}(hb:∀b∈vM x,look h b=look h' b):dq h x=dq h' x:=by
 cases x with
 |var T cs=>simp only[dq];rw[jQ fun c hc=>by rw[mL (h:=h) (h':=h') fun b h1=>hb b (dM.2 ⟨c,hc,h1⟩)]]
 |row E l=>simp only[dq];rw[jQ (f:=lC h) (g:=lC h') fun c hc=>by unfold lC;rw[mL (h:=h) (h':=h') fun b h1=>hb b (dM.2 ⟨c,hc,h1⟩)]]
 |_=>rfl
theorem By [PhC P]{o:Oper}{b:Id}{x:Blk}{d:D}{u1:HL}{f:List Nat}(hb:look h b=some x)(hf:b.1∈f∧∀c∈vM x,c.1∈f)(hd:OpS P N o t (puts [(b,dq h x)] h) d u1 f):OpS P N o t h d ([(b,dq h x)]++u1) f:=by
 obtain⟨nn,hd⟩:=hd
 refine⟨nn,fun t' h' ht ha main dfs γ ρ a w s=>?_⟩
 have hb':look h' b=some x:=by rw[←ha b hf.1];exact hb
 have e:dq h x=dq h' x:=ue fun c hc=>ha c (hf.2 c hc)
 rw[bG]
 have s1:SimN P dfs γ N ρ t' (puts [(b,dq h x)] h') a w:=by rw[e];exact Sim.last s hb'
 refine(hd t' _ ht (ha.puts _) main dfs γ ρ a w s1).mono (aN _) ?_
 rintro γ' a' w' ⟨v,ρ2,rfl,g1,g2,g3⟩
 exact⟨v,ρ2,rfl,fun c hc=>g1 c (Live.put hc),g2,g3⟩
theorem mW [PhC P]{o:Oper}{d:D}{u:HL}{f:List Nat}(he:∀b,look h b=look h' b)(hd:OpS P N o t h d u f):OpS P N o t h' d u f:=
 let ⟨n,hd⟩:=hd
 ⟨n,fun t' h2 ht ha=>hd t' h2 ht fun b hb=>(he b).trans (ha b hb)⟩
end
end Go.Proofs.Ytbmnihglaokhmaa.Am
namespace Go.Proofs.Ytbmnihglaokhmaa.Am
open Go Go.RowKit
structure Txn where
 a:Int
 b:Int
 s:Int
 e:Int
structure Led where
 b:List Int
 f:Int
structure Vtx where
 round:Int
 author:Int
 parents:List Int
 digest:Int
structure Ppl where
 v:Vtx
 members:List Int
structure Wrl where
 com:List Int
 lead:List Int
 bad:Int
 views:List (List Vtx)
 props:List Ppl
structure Evt where
 kind:Int
 a:Int
 b:Int
 v:Vtx
structure Slt where
 round:Int
 author:Int
deriving DecidableEq
structure VtxO where
 round:Int
 author:Int
 parents:Option Nat
 digest:Int
structure PplM where
 v:Vtx
 members:Option Nat
structure PplO where
 v:VtxO
 members:Option Nat
structure EvtO where
 kind:Int
 a:Int
 b:Int
 v:VtxO
structure Nod where
 v:Vtx
 index:Int
 parents:Option Nat
structure Odd where
 v:Vtx
 wave:Int
structure LRes where
 m:Nat
 fees:Int
 d:Option Nat
inductive Ty where
 |int (k:IntKind)|bool|str|lst (t:Ty)|txn|led|vtx|ppl|wrl|evt|slt|odd|ob (t:Ty)
 |hr (k:Nat)|hp (k:Nat)|vtxo (k:Nat)|pplm (k:Nat)|pplo (k k':Nat)|nod (k:Nat)|evto (k:Nat)|lres (k k':Nat)
 deriving DecidableEq
abbrev Ty.den:Ty→Type
 | .int _=>Int
 | .bool=>Bool
 | .str=>ByteArray
 | .lst t=>List t.den
 | .txn=>Txn
 | .led=>Led
 | .vtx=>Vtx
 | .ppl=>Ppl
 | .wrl=>Wrl
 | .evt=>Evt
 | .slt=>Slt
 | .odd=>Odd
 | .ob t=>Option t.den
 | .hr _=>Option Nat
 | .hp _=>Option Nat
 | .vtxo _=>VtxO
 | .pplm _=>PplM
 | .pplo ..=>PplO
 | .evto _=>EvtO
 | .nod _=>Nod
 | .lres ..=>LRes
def fI (l:List Int):D:=.lst (l.map (.int .i64))
def fX (v:Vtx):List D:=[.int .i64 v.round,.int .i64 v.author,fI v.parents,.int .i64 v.digest]
def DR (l:List Vtx):D:=.lst (l.map fun v=>.agg (fX v))
def zw (p:Ppl):List D:=fX p.v++[fI p.members]
def jJ (k:Nat):Option Nat→D
 |some i=>.ref (k,i)
 |none=>.lst []
def p8 (k:Nat):Option Nat→D
 |some i=>.ptr (k,i) 0
 |none=>.nilp
def aj:(t:Ty)→t.den→D
 | .int k,n=>.int k n
 | .bool,b=>.bool b
 | .str,s=>.str s
 | .lst t,xs=>.lst (xs.map (aj t))
 | .txn,x=>.agg [.int .i64 x.a,.int .i64 x.b,.int .i64 x.s,.int .i64 x.e]
 | .led,x=>.agg [fI x.b,.int .i64 x.f]
 | .vtx,x=>.agg (fX x)
 | .ppl,x=>.agg (zw x)
 | .wrl,x=>.agg [fI x.com,fI x.lead,.int .i64 x.bad,.lst (x.views.map DR),.lst (x.props.map fun p=>.agg (zw p))]
 | .evt,x=>.agg ([.int .i64 x.kind,.int .i64 x.a,.int .i64 x.b]++fX x.v)
 | .slt,x=>.agg [.int .i64 x.round,.int .i64 x.author]
 | .odd,x=>.agg (fX x.v++[.int .i64 x.wave])
 | .ob t,some x=>.box (aj t x).cells
 | .ob _,none=>.nilp
 | .hr k,o=>jJ k o
 | .hp k,o=>p8 k o
 | .vtxo k,x=>.agg [.int .i64 x.round,.int .i64 x.author,jJ k x.parents,.int .i64 x.digest]
 | .pplm k,x=>.agg (fX x.v++[jJ k x.members])
 | .pplo k k',x=>.agg [.int .i64 x.v.round,.int .i64 x.v.author,jJ k x.v.parents,.int .i64 x.v.digest,jJ k' x.members]
 | .evto k,x=>.agg [.int .i64 x.kind,.int .i64 x.a,.int .i64 x.b,.int .i64 x.v.round,.int .i64 x.v.author,jJ k x.v.parents,.int .i64 x.v.digest]
 | .nod k,x=>.agg (fX x.v++[.int .i64 x.index,jJ k x.parents])
 | .lres k k',x=>.agg [.mp (k,x.m),.int .i64 x.fees,jJ k' x.d]
inductive V where
 |int (k:IntKind) (n:Int)
 |bool (b:Bool)
 |tt
 |ff
 |str (s:ByteArray)
 |lst (t:Ty) (xs:List t.den)
 |box (t:Ty) (x:t.den)
 |agg (cs:List V)
 |tup (cs:List V)
 |nilp
 |nils
 |nilf
 |nilm
 |val (v:Value)
 |dbox (cs:List V)
 |nili
 |ifc (T:TypeId) (v:V)
 |clo (f:FuncId) (cs:List V)
 |ref (b:Nat)
 |ptr (b o:Nat)
 |eptr (b i o:Nat)
 |iptr (t:Ty) (x:t.den) (o:Nat)
 |vref (b o n:Nat)
 |aptr (b p i:Nat)
 |fref (k i:Nat)
 |fptr (k i o:Nat)
 |feptr (k i j o:Nat)
 |faptr (k i p j:Nat)
 |hro (k:Nat) (o:Option Nat)
 |hpo (k:Nat) (o:Option Nat)
 |obo (t:Ty) (o:Option t.den)
 |gp (g:Nat)
 |gv (g:Nat)
 |mp (b:Nat)
 |fmp (k i:Nat)
 |undef
 |junk
mutual
def V.toD:V→D
 | .int k n=>.int k n
 | .bool b=>.bool b
 | .tt=>.bool true
 | .ff=>.bool false
 | .str s=>.str s
 | .lst t xs=>.lst (xs.map (aj t))
 | .box t x=>.box (aj t x).cells
 | .agg cs=>.agg (aB cs)
 | .tup cs=>.tup (aB cs)
 | .nilp=>.nilp
 | .nils=>.nils
 | .nilf=>.nilf
 | .nilm=>.nilm
 | .val v=>.val v
 | .dbox cs=>.box (aB cs)
 | .nili=>.nili
 | .ifc T v=>.ifc T v.toD
 | .clo f cs=>.clo f (aB cs)
 | .ref b=>.ref (b,0)
 | .ptr b o=>.ptr (b,0) o
 | .eptr b i o=>.eptr (b,0) i o
 | .iptr t x o=>.iptr (aj t x) o
 | .vref b o n=>.vref (b,0) o n
 | .aptr b p i=>.ptr (b,0) (p+i)
 | .fref k i=>.ref (k,i)
 | .fptr k i o=>.ptr (k,i) o
 | .feptr k i j o=>.eptr (k,i) j o
 | .faptr k i p j=>.ptr (k,i) (p+j)
 | .hro k o=>jJ k o
 | .hpo k o=>p8 k o
 | .obo t o=>aj (.ob t) o
 | .gp g=>.gp g
 | .gv g=>.gv g
 | .mp b=>.mp (b,0)
 | .fmp k i=>.mp (k,i)
 | .undef=>.undef
 | .junk=>.junk
def aB:List V→List D
 |[]=>[]
 |v::l=>v.toD::aB l
end
theorem ci:∀l:List V,aB l=l.map V.toD
 |[]=>rfl
 |v::l=>by simp[aB,ci l]
def enc:(t:Ty)→t.den→V
 | .int k,n=>.int k n
 | .bool,b=>.bool b
 | .str,s=>.str s
 | .lst t,xs=>.lst t xs
 | .txn,x=>.agg [.int .i64 x.a,.int .i64 x.b,.int .i64 x.s,.int .i64 x.e]
 | .led,x=>.agg [.lst (.int .i64) x.b,.int .i64 x.f]
 | .vtx,x=>.agg [.int .i64 x.round,.int .i64 x.author,.lst (.int .i64) x.parents,.int .i64 x.digest]
 | .ppl,x=>.agg [.int .i64 x.v.round,.int .i64 x.v.author,.lst (.int .i64) x.v.parents,.int .i64 x.v.digest,.lst (.int .i64) x.members]
 | .wrl,x=>.agg [.lst (.int .i64) x.com,.lst (.int .i64) x.lead,.int .i64 x.bad,.lst (.lst .vtx) x.views,.lst .ppl x.props]
 | .evt,x=>.agg [.int .i64 x.kind,.int .i64 x.a,.int .i64 x.b,.int .i64 x.v.round,.int .i64 x.v.author,.lst (.int .i64) x.v.parents,.int .i64 x.v.digest]
 | .slt,x=>.agg [.int .i64 x.round,.int .i64 x.author]
 | .odd,x=>.agg [.int .i64 x.v.round,.int .i64 x.v.author,.lst (.int .i64) x.v.parents,.int .i64 x.v.digest,.int .i64 x.wave]
 | .ob t,o=>.obo t o
 | .hr k,o=>.hro k o
 | .hp k,o=>.hpo k o
 | .vtxo k,x=>.agg [.int .i64 x.round,.int .i64 x.author,.hro k x.parents,.int .i64 x.digest]
 | .pplm k,x=>.agg [.int .i64 x.v.round,.int .i64 x.v.author,.lst (.int .i64) x.v.parents,.int .i64 x.v.digest,.hro k x.members]
 | .pplo k k',x=>.agg [.int .i64 x.v.round,.int .i64 x.v.author,.hro k x.v.parents,.int .i64 x.v.digest,.hro k' x.members]
 | .evto k,x=>.agg [.int .i64 x.kind,.int .i64 x.a,.int .i64 x.b,.int .i64 x.v.round,.int .i64 x.v.author,.hro k x.v.parents,.int .i64 x.v.digest]
 | .nod k,x=>.agg [.int .i64 x.v.round,.int .i64 x.v.author,.lst (.int .i64) x.v.parents,.int .i64 x.v.digest,.int .i64 x.index,.hro k x.parents]
 | .lres k k',x=>.agg [.fmp k x.m,.int .i64 x.fees,.hro k' x.d]
theorem jL (l:List Int):l.map (aj (.int .i64))=l.map (D.int .i64):=rfl
theorem i4:∀(t:Ty) (x:t.den),(enc t x).toD=aj t x
 | .int _,_| .bool,_| .str,_| .lst _,_| .txn,_| .ob _,_| .hr _,_| .hp _,_=>by simp[enc,aj,V.toD,aB]
 | .led,x=>by simp[enc,aj,V.toD,aB,fI,jL]
 | .vtx,x| .vtxo _,x=>by simp[enc,aj,V.toD,aB,fI,jL,fX]
 | .ppl,x| .pplm _,x| .pplo ..,x| .nod _,x| .odd,x=>by simp[enc,aj,V.toD,aB,fI,jL,fX,zw]
 | .wrl,x=>by
  have:(fun g=>D.lst (List.map (aj .vtx) g))=DR:=funext fun g=>rfl
  have h2:(aj (.lst .vtx))=fun g=>D.lst (List.map (aj .vtx) g):=funext fun g=>rfl
  have h3:(aj .ppl)=fun p=>D.agg (zw p):=funext fun g=>rfl
  simp only[enc,aj,V.toD,aB,fI,h2,h3,this]
  rfl
 | .evt,x| .evto _,x=>by simp[enc,aj,V.toD,aB,fI,jL,fX]
 | .slt,x| .lres ..,x=>by simp[enc,aj,V.toD,aB]
def Ty.sz:Ty→Nat
 | .txn=>4
 | .led=>2
 | .vtx=>4
 | .ppl=>5
 | .wrl=>5
 | .evt=>7
 | .evto _=>7
 | .slt=>2
 | .odd=>5
 | .vtxo _=>4
 | .pplm _=>5
 | .pplo ..=>5
 | .nod _=>6
 | .lres ..=>3
 |_=>1
def Ty.pure:Ty→Bool
 | .hr _| .hp _| .vtxo _| .pplm _| .pplo .. | .nod _| .evto _| .lres ..=>false
 |_=>true
theorem ly (k:Nat)(o:Option Nat):(jJ k o).one=true∧(jJ k o).cells=[jJ k o]:=by cases o<;>exact⟨rfl,rfl⟩
theorem lx (k:Nat)(o:Option Nat):(p8 k o).one=true∧(p8 k o).cells=[p8 k o]:=by cases o<;>exact⟨rfl,rfl⟩
theorem d8:∀(t:Ty) (x:t.den),wfC t.sz (aj t x)
 | .int _,_| .bool,_| .str,_| .lst _,_| .txn,_| .led,_| .vtx,_| .ppl,_| .wrl,_| .evt,_| .slt,_| .odd,_=>⟨rfl,rfl⟩
 | .ob _,some _| .ob _,none=>⟨rfl,rfl⟩
 | .hr k,o=>⟨by simp only[aj,(ly k o).2];rfl,by simp only[aj,(ly k o).2];simp[(ly k o).1]⟩
 | .hp k,o=>⟨by simp only[aj,(lx k o).2];rfl,by simp only[aj,(lx k o).2];simp[(lx k o).1]⟩
 | .vtxo _,⟨_,_,none,_⟩| .vtxo _,⟨_,_,some _,_⟩=>⟨rfl,rfl⟩
 | .pplm _,⟨_,none⟩| .pplm _,⟨_,some _⟩=>⟨rfl,rfl⟩
 | .pplo ..,⟨⟨_,_,none,_⟩,none⟩| .pplo ..,⟨⟨_,_,some _,_⟩,none⟩| .pplo ..,⟨⟨_,_,none,_⟩,some _⟩| .pplo ..,⟨⟨_,_,some _,_⟩,some _⟩=>⟨rfl,rfl⟩
 | .nod _,⟨_,_,none⟩| .nod _,⟨_,_,some _⟩=>⟨rfl,rfl⟩
 | .lres ..,⟨_,_,none⟩| .lres ..,⟨_,_,some _⟩=>⟨rfl,rfl⟩
 | .evto _,⟨_,_,_,⟨_,_,none,_⟩⟩| .evto _,⟨_,_,_,⟨_,_,some _,_⟩⟩=>⟨rfl,rfl⟩
theorem iG {t:Ty}(h:t.pure=true)(x:t.den):wfE t.sz (aj t x):=by
 cases t
 case ob t=>cases x<;>exact⟨rfl,rfl⟩
 all_goals first|exact⟨rfl,rfl⟩|cases h
theorem Ty.sz_pos:∀t:Ty,0<t.sz:=by intro t;cases t<;>simp[Ty.sz]
def kK (t t':Ty)(xs:List t'.den):Option (List t.den):=
 match decEq t' t with
 |isTrue h=>some (h▸xs)
 |isFalse _=>match xs with
  |[]=>some []
  |_=>none
theorem fH {t t':Ty}{xs:List t'.den}{ys:List t.den}(h:kK t t' xs=some ys):xs.map (aj t')=ys.map (aj t):=by
 unfold kK at h
 split at h
 ·rename_i e _
  subst e
  simp only[aK] at h
  subst h
  rfl
 ·split at h
  ·simp only[aK] at h
   subst h
   rfl
  ·cases h
def tw (t t':Ty)(x:t'.den):Option t.den:=
 match decEq t' t with
 |isTrue h=>some (h▸x)
 |isFalse _=>none
theorem oA {t t':Ty}{x:t'.den}{y:t.den}(h:tw t t' x=some y):aj t' x=aj t y:=by
 unfold tw at h
 split at h
 ·rename_i e _
  subst e
  simp only[aK] at h
  subst h
  rfl
 ·cases h
def nF:V→Option (List Int)
 | .lst t ps=>kK (.int .i64) t ps
 | .nils=>none
 |_=>none
theorem fB {v:V}{l:List Int}(h:nF v=some l):v.toD=fI l:=by
 unfold nF at h
 split at h
 ·simp only[V.toD];rw[fH h];rfl
 ·cases h
 ·cases h
def qd (k:Nat):V→Option (Option Nat)
 | .hro k' o=>bif Nat.beq k' k then some o else none
 | .fref k' i=>bif Nat.beq k' k then some (some i) else none
 | .lst _ []=>some none
 |_=>none
theorem z6 {α:Type}{a b:Nat}{x:Option α}{z:α}(h:(bif Nat.beq a b then x else none)=some z):a=b∧x=some z:=by
 cases hb:Nat.beq a b with
 |true=>rw[hb] at h;exact⟨bY hb,h⟩
 |false=>rw[hb] at h;cases h
theorem gT {k:Nat}{v:V}{o:Option Nat}(h:qd k v=some o):v.toD=jJ k o:=by
 unfold qd at h
 split at h
 ·rename_i k' _
  cases hb:Nat.beq k' k with
  |true=>rw[hb] at h;cases bY hb;cases h;rfl
  |false=>rw[hb] at h;cases h
 ·rename_i k' _
  cases hb:Nat.beq k' k with
  |true=>rw[hb] at h;cases bY hb;cases h;rfl
  |false=>rw[hb] at h;cases h
 ·simp only[aK] at h;subst h;rfl
 ·cases h
def Ec (k:Nat):V→Option (Option Nat)
 | .hpo k' o=>bif Nat.beq k' k then some o else none
 | .fptr k' i 0=>bif Nat.beq k' k then some (some i) else none
 | .nilp=>some none
 |_=>none
theorem Cx {k:Nat}{v:V}{o:Option Nat}(h:Ec k v=some o):v.toD=p8 k o:=by
 unfold Ec at h
 split at h
 ·rename_i k' _
  cases hb:Nat.beq k' k with
  |true=>rw[hb] at h;cases bY hb;cases h;rfl
  |false=>rw[hb] at h;cases h
 ·rename_i k' _
  cases hb:Nat.beq k' k with
  |true=>rw[hb] at h;cases bY hb;cases h;rfl
  |false=>rw[hb] at h;cases h
 ·simp only[aK] at h;subst h;rfl
 ·cases h
def Eb (t:Ty):V→Option (Option t.den)
 | .obo t' o=>(match o with|none=>some none|some x=>(tw t t' x).map some)
 | .box t' x=>(tw t t' x).map some
 | .nilp=>some none
 |_=>none
theorem Cw {t:Ty}{v:V}{o:Option t.den}(h:Eb t v=some o):v.toD=aj (.ob t) o:=by
 unfold Eb at h
 split at h
 ·split at h
  ·simp only[aK] at h;subst h;rfl
  ·obtain⟨y,h1,rfl⟩:=bj.1 h
   simp only[V.toD,aj,oA h1]
 ·obtain⟨y,h1,rfl⟩:=bj.1 h
  simp only[V.toD,aj,oA h1]
 ·simp only[aK] at h;subst h;rfl
 ·cases h
def E1:(t:Ty)→V→Option t.den
 | .int k,.int k' n=>match decEq k' k with
  |isTrue _=>some n
  |isFalse _=>none
 | .bool,.bool b=>some b
 | .bool,.tt=>some true
 | .bool,.ff=>some false
 | .str,.str s=>some s
 | .lst t,.lst t' xs=>kK t t' xs
 | .txn,.agg [.int .i64 a,.int .i64 b,.int .i64 s,.int .i64 e]=>some ⟨a,b,s,e⟩
 | .led,.agg [b,.int .i64 f]=>(nF b).map fun b=>⟨b,f⟩
 | .vtx,.agg [.int .i64 r,.int .i64 a,ps,.int .i64 d]=>(nF ps).map fun ps=>⟨r,a,ps,d⟩
 | .ppl,.agg [.int .i64 r,.int .i64 a,ps,.int .i64 d,ms]=>(nF ps).bind fun ps=>(nF ms).map fun ms=>⟨⟨r,a,ps,d⟩,ms⟩
 | .wrl,.agg [c,l,.int .i64 b,.lst t3 vs,.lst t4 ps]=>(nF c).bind fun c=>(nF l).bind fun l=>(kK (.lst .vtx) t3 vs).bind fun vs=>(kK .ppl t4 ps).map fun ps=>⟨c,l,b,vs,ps⟩
 | .evt,.agg [.int .i64 k,.int .i64 x,.int .i64 y,.int .i64 r,.int .i64 a,ps,.int .i64 d]=>(nF ps).map fun ps=>⟨k,x,y,⟨r,a,ps,d⟩⟩
 | .slt,.agg [.int .i64 r,.int .i64 a]=>some ⟨r,a⟩
 | .odd,.agg [.int .i64 r,.int .i64 a,ps,.int .i64 d,.int .i64 w]=>(nF ps).map fun ps=>⟨⟨r,a,ps,d⟩,w⟩
 | .ob t,v=>Eb t v
 | .hr k,v=>qd k v
 | .hp k,v=>Ec k v
 | .vtxo k,.agg [.int .i64 r,.int .i64 a,ps,.int .i64 d]=>(qd k ps).map fun ps=>⟨r,a,ps,d⟩
 | .pplm k,.agg [.int .i64 r,.int .i64 a,ps,.int .i64 d,ms]=>(nF ps).bind fun ps=>(qd k ms).map fun ms=>⟨⟨r,a,ps,d⟩,ms⟩
 | .pplo k k',.agg [.int .i64 r,.int .i64 a,ps,.int .i64 d,ms]=>(qd k ps).bind fun ps=>(qd k' ms).map fun ms=>⟨⟨r,a,ps,d⟩,ms⟩
 | .nod k,.agg [.int .i64 r,.int .i64 a,ps,.int .i64 d,.int .i64 i,ns]=>(nF ps).bind fun ps=>(qd k ns).map fun ns=>⟨⟨r,a,ps,d⟩,i,ns⟩
 | .evto k,.agg [.int .i64 q,.int .i64 x,.int .i64 y,.int .i64 r,.int .i64 a,ps,.int .i64 d]=>(qd k ps).map fun ps=>⟨q,x,y,⟨r,a,ps,d⟩⟩
 | .lres k k',.agg [.fmp q i,.int .i64 f,d]=>(qd k' d).bind fun d=>bif Nat.beq q k then some ⟨i,f,d⟩ else none
 |_,_=>none
theorem rQ {t:Ty}{v:V}{x:t.den}(h:E1 t v=some x):v.toD=aj t x:=by
 unfold E1 at h
 split at h
 ·split at h
  ·rename_i e _
   subst e
   simp only[aK] at h
   subst h
   rfl
  ·cases h
 ·simp only[aK] at h;subst h;rfl
 ·simp only[aK] at h;subst h;rfl
 ·simp only[aK] at h;subst h;rfl
 ·simp only[aK] at h;subst h;rfl
 ·simp only[V.toD,aj,fH h]
 ·simp only[aK] at h;subst h;rfl
 ·obtain⟨b',h1,rfl⟩:=bj.1 h
  simp only[V.toD,aB,aj,fB h1]
 ·obtain⟨b',h1,rfl⟩:=bj.1 h
  simp only[V.toD,aB,aj,fX,fB h1]
 ·obtain⟨b',h1,h⟩:=bu.1 h
  obtain⟨c',h2,rfl⟩:=bj.1 h
  simp[V.toD,aB,aj,fX,zw,fB h1,fB h2]
 ·obtain⟨b',h1,h⟩:=bu.1 h
  obtain⟨c',h2,h⟩:=bu.1 h
  obtain⟨d',h3,h⟩:=bu.1 h
  obtain⟨e',h4,rfl⟩:=bj.1 h
  simp only[V.toD,aB,aj,fB h1,fB h2,fH h3,fH h4]
  rfl
 ·obtain⟨b',h1,rfl⟩:=bj.1 h
  simp[V.toD,aB,aj,fX,fB h1]
 ·simp only[aK] at h;subst h;rfl
 ·obtain⟨b',h1,rfl⟩:=bj.1 h
  simp[V.toD,aB,aj,fX,fB h1]
 ·exact Cw h
 ·exact gT h
 ·exact Cx h
 ·obtain⟨b',h1,rfl⟩:=bj.1 h
  simp only[V.toD,aB,aj,gT h1]
 ·obtain⟨b',h1,h⟩:=bu.1 h
  obtain⟨c',h2,rfl⟩:=bj.1 h
  simp[V.toD,aB,aj,fX,fB h1,gT h2]
 ·obtain⟨b',h1,h⟩:=bu.1 h
  obtain⟨c',h2,rfl⟩:=bj.1 h
  simp[V.toD,aB,aj,gT h1,gT h2]
 ·obtain⟨b',h1,h⟩:=bu.1 h
  obtain⟨c',h2,rfl⟩:=bj.1 h
  simp[V.toD,aB,aj,fX,fB h1,gT h2]
 ·obtain⟨b',h1,rfl⟩:=bj.1 h
  simp only[V.toD,aB,aj,gT h1]
 ·obtain⟨d',h1,h2⟩:=bu.1 h
  obtain⟨rfl,h2⟩:=z6 h2
  cases h2
  simp only[V.toD,aB,aj,gT h1]
 ·cases h
inductive VB where
 |var (T:TypeId) (cs:List V)
 |vari (T:TypeId) (pre:List V) (m:Nat) (t:Ty) (xs:List t.den) (post:List V)
 |row (E:TypeId) (t:Ty) (xs:List t.den)
 |lit (E:TypeId) (vs:List V)
 |froz (t:Ty) (xs:List t.den)
 |fvb (t:Ty) (x:t.den)
 |fvar (T:TypeId) (t:Ty) (xs:List t.den)
 |fvari (T:TypeId) (m:Nat) (t:Ty) (xss:List (List t.den))
 |frow (E:TypeId) (t:Ty) (xss:List (List t.den))
 |frowx (E:TypeId) (t:Ty) (xss:List (Option (List t.den)))
 |map (l:List (Int×Int))
 |maps (ls:List (List (Int×Int)))
 |it (k i n:Nat) (left:List Nat) (cur:Option Nat)
 |moved (k i:Nat)
 |gone
def rowX (E:TypeId)(t:Ty):Option (List t.den)→Blk
 |some xs=>.row E (xs.map (aj t))
 |none=>.gone
def VB.blks:VB→List Blk
 | .var T cs=>[.var T (aB cs)]
 | .vari T pre _ t xs post=>[.var T (aB pre++xs.map (aj t)++aB post)]
 | .row E t xs=>[.row E (xs.map (aj t))]
 | .lit E vs=>[.row E (aB vs)]
 | .froz t xs=>[.froz (xs.map (aj t))]
 | .fvb t x=>[.fvar (aj t x).cells]
 | .fvar T t xs=>xs.map fun x=>.var T (aj t x).cells
 | .fvari T _ t xss=>xss.map fun xs=>.var T (xs.map (aj t))
 | .frow E t xss=>xss.map fun xs=>.row E (xs.map (aj t))
 | .frowx E t xss=>xss.map (rowX E t)
 | .map l=>[fK l]
 | .maps ls=>ls.map fK
 | .it k i n left cur=>[wD (k,i) n left cur]
 | .moved k i=>[.moved (k,i)]
 | .gone=>[.gone]
def VB.sgl:VB→Bool
 | .fvar .. | .fvari .. | .frow .. | .frowx .. | .maps ..=>false
 |_=>true
theorem VB.sgl_ok {x:VB}(h:x.sgl=true):∃d,x.blks=[d]:=by cases x<;>first|exact⟨_,rfl⟩|cases h
abbrev VT:=List (Nat×V)
abbrev VH:=List (Nat×VB)
def toT:VT→List (Nat×D):=List.map fun p=>(p.1,p.2.toD)
def fam (k:Nat)(l:List Blk):HL:=l.zipIdx.map fun p=>((k,p.2),p.1)
def qz:List Nat→VH→HL
 |_,[]=>[]
 |s,(k,x)::l=>(bif s.contains k then[] else fam k x.blks)++qz (k::s) l
def toH (h:VH):HL:=qz [] h
structure VSt where
 t:VT
 h:VH
 n:Nat
def VSt.toD (σ:VSt):St:=⟨toT σ.t,toH σ.h,σ.n⟩
theorem uj {κ α β:Type}[DecidableEq κ](f:α→β):∀(l:List (κ×α)) (k:κ),look (l.map fun p=>(p.1,f p.2)) k=(look l k).map f
 |[],k=>rfl
 |(x,d)::l,k=>by
  simp only[bI,look,uj f l k]
  split<;>rfl
theorem cx (t:VT)(k:Nat):look (toT t) k=(look t k).map V.toD:=uj _ _ _
theorem gz {κ α:Type}[DecidableEq κ]:∀(l m:List (κ×α)) (k:κ),look (l++m) k=match look l k with|some x=>some x|none=>look m k
 |[],m,k=>rfl
 |(x,a)::l,m,k=>by
  simp only[fR,look]
  split
  ·rfl
  ·exact gz l m k
theorem pj (k:Nat)(l:List Blk)(b:Id):look (fam k l) b=if b.1=k then l[b.2]? else none:=by
 have key:∀(l:List Blk) (s:Nat),look ((l.zipIdx s).map fun p=>((k,p.2),p.1)) b=if b.1=k∧s≤b.2 then l[b.2-s]? else none:=by
  intro l
  induction l with
  |nil=>intro s;simp[look]
  |cons x l ih=>
   intro s
   simp only[pY,bI,look,ih]
   obtain⟨b1,b2⟩:=b
   simp only[bi]
   by_cases h1:b1=k
   ·by_cases h2:b2=s
    ·subst h2;simp[h1]
    ·by_cases h3:s≤b2
     ·rw[if_neg (by simp[h2]),if_pos ⟨h1,by omega⟩,if_pos ⟨h1,h3⟩,show b2-s=(b2-(s+1))+1 by omega]
      rfl
     ·rw[if_neg (by simp[h2]),if_neg (by omega),if_neg (by omega)]
   ·simp[h1]
 unfold fam
 rw[key l 0]
 simp
theorem q7:∀(h:VH) (s:List Nat) (b:Id),look (qz s h) b=if b.1∈s then none else(look h b.1).bind fun x=>x.blks[b.2]?
 |[],s,b=>by simp[qz,look]
 |(k,x)::l,s,b=>by
  simp only[qz,gz,q7 l,look]
  by_cases hs:b.1∈s
  ·rw[if_pos (bl _ hs),if_pos hs]
   by_cases hk:k∈s
   ·simp[hk,look]
   ·have hc:s.contains k=false:=by simpa using hk
    have hne:b.1≠k:=fun e=>hk (e▸hs)
    rw[hc,cond_false,pj,if_neg hne]
  ·rw[if_neg hs]
   by_cases hb:b.1=k
   ·have hc:s.contains k=false:=by rw[←hb];simpa using hs
    rw[hc,cond_false,pj,if_pos hb,if_pos hb,if_pos (by rw[hb];exact bh ..)]
    simp only[bp]
    cases x.blks[b.2]?<;>rfl
   ·rw[if_neg hb,if_neg (by simp only[a9,not_or];exact⟨hb,hs⟩)]
    have:look (bif s.contains k then[] else fam k x.blks) b=none:=by
     cases s.contains k with
     |true=>rfl
     |false=>rw[cond_false,pj,if_neg hb]
    rw[this]
theorem az (h:VH)(b:Id):look (toH h) b=(look h b.1).bind fun x=>x.blks[b.2]?:=by
 unfold toH
 rw[q7]
 simp
inductive TK where
 |int (k:IntKind)|bool|str|slice (E:TypeId)|ptr (E:TypeId)|ifc|func
 |struct (fs:List (Nat×Nat×Nat))
 |arr (n:Nat) (E:TypeId)
 |map (K E:TypeId)
structure TI where
 k:TK
 sz:Nat
 nb:Nat
 z:Option V
 ty:Option Ty
 own:Bool:=false
def TI.agg (ti:TI):Bool:=match ti.k with| .struct _=>true| .arr ..=>true|_=>false
def TK.ok (P:Program)(T:TypeId):TK→Prop
 | .int k=>P.underlying T=some (.int k)
 | .bool=>P.underlying T=some .bool
 | .str=>P.underlying T=some .string
 | .slice E=>P.underlying T=some (.slice E)
 | .ptr E=>P.underlying T=some (.pointer E)
 | .ifc=>DG P T=true
 | .func=>True
 | .struct fs=>(∀i ty off s,fs[i]?=some (ty,off,s)→wo P T i=some (ty,off)∧(0<s→fU P T i=some off))∧kv P T=some (fs.map fun f=>(f.2.1,f.2.2))
 | .arr n E=>P.underlying T=some (.array n E)
 | .map K E=>P.underlying T=some (.map K E)
structure TI.ok (P:Program)(T:TypeId)(ti:TI):Prop where
 und:ti.k.ok P T
 size:sizeT P T=some ti.sz
 agg:isAggT P T=some ti.agg
 zero:∀z,ti.z=some z→ofZero P T=some z.toD
 elem:ti.z.isSome=true→0<ti.sz→elemT P T=some (ti.sz,ti.nb)
def vB:Value→V→Bool
 | .int k n,.int k' n'=>decide (k=k') && n==n'
 | .bool b,.bool b'=>b==b'
 | .string s,.str s'=>decide (s=s')
 | .pointer none,.nilp=>true
 | .slice none 0 0,.nils=>true
 | .nilFunc,.nilf=>true
 | .map none,.nilm=>true
 | .nilIface,.nili=>true
 |_,_=>false
theorem Hw {v:Value}{x:V}(h:vB v x=true):jn v=some x.toD:=by
 unfold vB at h
 split at h
 ·simp only[b6,decide_eq_true_eq,beq_iff_eq] at h
  obtain⟨rfl,rfl⟩:=h
  rfl
 ·simp only[beq_iff_eq] at h
  subst h
  rfl
 ·simp only[decide_eq_true_eq] at h
  subst h
  rfl
 ·rfl
 ·rfl
 ·rfl
 ·rfl
 ·rfl
 ·cases h
def GI:List Value→List V→Bool
 |[],[]=>true
 |v::vs,x::xs=>vB v x && GI vs xs
 |_,_=>false
theorem Hv:∀{vs:List Value} {xs:List V},GI vs xs=true→vs.mapM jn=some (aB xs)
 |[],[],_=>rfl
 |[],_::_,h=>by cases h
 |_::_,[],h=>by cases h
 |v::vs,x::xs,h=>by
  simp only[GI,b6] at h
  simp[gh,Hw h.1,Hv h.2,aB]
def zB:Option Value→Option V→Bool
 |_,none=>true
 |some (.agg vs),some (.agg xs)=>GI vs.toList xs
 |some (.agg _),some _=>false
 |some v,some x=>vB v x
 |none,some _=>false
def kB (P:Program)(T:TypeId)(k:TK):Bool:=
 match k,P.underlying T with
 | .int k,some (.int k')=>decide (k=k')
 | .bool,some .bool=>true
 | .str,some .string=>true
 | .slice E,some (.slice E')=>E==E'
 | .ptr E,some (.pointer E')=>E==E'
 | .ifc,some (.interface _)=>true
 | .func,some (.func ..)=>true
 | .struct fs,some (.struct a)=>decide (fs.map (fun f=>(f.1,f.2.1))=a.toList.map fun f=>(f.type,f.offset)) && fs.all fun f=>match P.info? f.1 with|some i=>i.size==f.2.2|none=>false
 | .arr n E,some (.array n' E')=>n==n' && E==E'
 | .map K E,some (.map K' E')=>K==K' && E==E'
 |_,_=>false
def G0 (P:Program)(T:TypeId)(ti:TI):Bool:=
 kB P T ti.k && (match P.info? T with
  |some i=>i.size==ti.sz && i.bytes==ti.nb && zB i.zero ti.z && (match i.zero with|some z=>z.cells.size==i.size|none=>true)
  |none=>false)
theorem q9 {α β:Type}{f:α→Option β}{g:α→β}:∀{l:List α},(∀x∈l,f x=some (g x))→l.mapM f=some (l.map g)
 |[],_=>rfl
 |a::l,h=>by simp[gh,h a (bh ..),q9 fun x hx=>h x (bl _ hx)]
theorem Hz {P:Program}{T:TypeId}{i:TypeInfo}(hi:P.info? T=some i){z:V}(h:zB i.zero (some z)=true):ofZero P T=some z.toD:=by
 unfold ofZero
 rw[hi]
 simp only[bp]
 unfold zB at h
 split at h
 ·rename_i e;cases e
 ·rename_i vs xs e1 e2
  simp only[aK] at e2
  subst e2
  rw[e1]
  simp only[Hv h,aM,V.toD]
 ·cases h
 ·rename_i v x hne e1 e2
  simp only[aK] at e2
  subst e2
  rw[e1]
  split
  ·rename_i vs e
   simp only[aK] at e
   subst e
   exact absurd rfl (hne vs)
  ·rename_i e
   simp only[aK] at e
   subst e
   exact Hw h
  ·rename_i e;cases e
 ·cases h
theorem Hy {P:Program}{T:TypeId}{k:TK}(h:kB P T k=true):k.ok P T:=by
 unfold kB at h
 split at h
 ·rename_i e;simp only[decide_eq_true_eq] at h;subst h;exact e
 ·rename_i e;exact e
 ·rename_i e;exact e
 ·rename_i e;simp only[beq_iff_eq] at h;subst h;exact e
 ·rename_i e;simp only[beq_iff_eq] at h;subst h;exact e
 ·rename_i e;show DG P T=true;unfold DG;rw[e]
 ·trivial
 ·rename_i fs a e
  simp only[b6,decide_eq_true_eq,bc] at h
  obtain⟨h1,h2⟩:=h
  have hsz:∀f∈fs,∃i,P.info? f.1=some i∧i.size=f.2.2:=by
   intro f hf
   have:=h2 f hf
   split at this
   ·rename_i i hi;exact⟨i,hi,by simpa using this⟩
   ·cases this
  refine⟨fun i ty off s hi=>?_,?_⟩
  ·have hm:(fs.map fun f=>(f.1,f.2.1))[i]?=some (ty,off):=by rw[cd,hi];rfl
   rw[h1,cd] at hm
   obtain⟨fd,hfd,he⟩:=bj.1 hm
   simp only[bi] at he
   obtain⟨rfl,rfl⟩:=he
   have hfd':a[i]?=some fd:=by simpa using hfd
   obtain⟨ii,hi1,hi2⟩:=hsz _ (dm hi)
   simp only at hi1 hi2
   refine⟨by unfold wo;simp[e,hfd'],fun hs=>?_⟩
   unfold fU
   have:sizeT P fd.type=some s:=by unfold sizeT;rw[hi1];simp[hi2]
   simp only[e,hfd',this]
   cases s with
   |zero=>omega
   |succ s=>rfl
  ·unfold kv
   simp only[e]
   have hl:a.toList.length=fs.length:=by have:=congrArg List.length h1;simpa using this.symm
   have key:∀(l:List Field) (gs:List (Nat×Nat×Nat)),gs.map (fun f=>(f.1,f.2.1))=l.map (fun f=>(f.type,f.offset))→(∀f∈gs,∃i,P.info? f.1=some i∧i.size=f.2.2)→
     (l.mapM fun f=>(P.info? f.type).map fun i=>(f.offset,i.size))=some (gs.map fun f=>(f.2.1,f.2.2)):=by
    intro l
    induction l with
    |nil=>
     intro gs hg _
     cases gs with
     |nil=>rfl
     |cons g gs=>simp at hg
    |cons x l ih=>
     intro gs hg hs
     cases gs with
     |nil=>simp at hg
     |cons g gs=>
      simp only[bI,List.cons.injEq,bi] at hg
      obtain⟨⟨g1,g2⟩,g3⟩:=hg
      obtain⟨i,hi1,hi2⟩:=hs g (bh ..)
      rw[g1] at hi1
      simp[gh,hi1,ih gs g3 fun f hf=>hs f (bl _ hf),hi2,g2]
   exact key _ _ h1 hsz
 ·rename_i e;simp only[b6,beq_iff_eq] at h;obtain⟨rfl,rfl⟩:=h;exact e
 ·rename_i e;simp only[b6,beq_iff_eq] at h;obtain⟨rfl,rfl⟩:=h;exact e
 ·cases h
theorem Hx {P:Program}{T:TypeId}{ti:TI}(h:G0 P T ti=true):ti.ok P T:=by
 unfold G0 at h
 simp only[b6] at h
 obtain⟨hk,h⟩:=h
 split at h
 ·rename_i i hi
  simp only[b6,beq_iff_eq] at h
  obtain⟨⟨⟨h1,h2⟩,h3⟩,h4⟩:=h
  refine⟨Hy hk,by unfold sizeT;rw[hi];simp[h1],?_,fun z hz=>Hz hi (by rw[←hz];exact h3),fun hz hp=>?_⟩
  ·unfold isAggT TI.agg
   unfold kB at hk
   split at hk<;>simp_all
  ·unfold elemT
   rw[hi]
   simp only
   cases hzz:i.zero with
   |none=>
    rw[hzz] at h3
    cases hz':ti.z with
    |none=>rw[hz'] at hz;cases hz
    |some z=>rw[hz'] at h3;simp[zB] at h3
   |some z=>
    rw[hzz] at h4
    simp only[beq_iff_eq] at h4
    show (if z.cells.size=i.size∧0<i.size then some (i.size,i.bytes) else none)=_
    rw[if_pos ⟨h4,by omega⟩,h1,h2]
 ·cases h
abbrev TT:=List (Nat×TI)
def TT.ok (P:Program)(Θ:TT):Prop:=∀T ti,look Θ T=some ti→ti.ok P T
def TT.okB (P:Program)(Θ:TT):Bool:=Θ.all fun p=>G0 P p.1 p.2
theorem TT.okB_ok {P:Program}{Θ:TT}(h:Θ.okB P=true):Θ.ok P:=fun T ti hl=>Hx (by
 unfold TT.okB at h
 rw[bc] at h
 exact h _ (dr hl))
def ct (φ K:Prop):Prop:=φ∧K
def Fm:IntKind→Int→Prop
 | .i8,n=>-128≤n∧n≤127
 | .i16,n=>-32768≤n∧n≤32767
 | .i32,n=>-2147483648≤n∧n≤2147483647
 | .i64,n=>-9223372036854775808≤n∧n≤9223372036854775807
 | .u8,n=>0≤n∧n≤255
 | .u16,n=>0≤n∧n≤65535
 | .u32,n=>0≤n∧n≤4294967295
 | .u64,n=>0≤n∧n≤18446744073709551615
theorem AY {k:IntKind}{n:Int}(h:Fm k n):k.wrap n=n:=by
 unfold Fm at h
 cases k<;>simp only at h<;>(unfold IntKind.wrap;simp[IntKind.bits,IntKind.signed];omega)
def Ari (k:IntKind)(z:Int)(K:Int→Prop):Prop:=(Fm k z∧K z)∨K (k.wrap z)
theorem Ari.ok {k:IntKind}{z:Int}{K:Int→Prop}(h:Ari k z K):K (k.wrap z):=by
 rcases h with⟨h1,h2⟩|h
 ·rw[AY h1];exact h2
 ·exact h
def fF {α:Type}(xs:List α)(i:Nat)(K:α→Prop):Prop:=∃x,xs[i]?=some x∧K x
def nD {α:Type}(xs:List α)(i:Int)(K:Nat→α→Prop):Prop:=0≤i∧∃x,xs[i.toNat]?=some x∧K i.toNat x
def j7 (b:Bool)(A B:Prop):Prop:=(b=true→A)∧(b=false→B)
def bK {α:Type}:List (Nat×α)→Nat→(α→Prop)→Prop
 |[],_,_=>False
 |(k,a)::l,x,K=>bif Nat.beq x k then K a else bK l x K
theorem aQ {α:Type}:∀{l:List (Nat×α)} {x:Nat} {K:α→Prop},bK l x K→∃a,look l x=some a∧K a
 |[],_,_,h=>h.elim
 |(k,a)::l,x,K,h=>by
  simp only[bK] at h
  simp only[look]
  by_cases e:x=k
  ·subst e
   simp only[Nat.beq_refl,cond_true] at h
   exact⟨a,by simp,h⟩
  ·have:Nat.beq x k=false:=by
    cases hb:Nat.beq x k with
    |false=>rfl
    |true=>exact absurd (bY hb) e
   rw[this] at h
   simp only[cond_false] at h
   rw[if_neg e]
   exact aQ h
def dB (h:VH)(b:Nat)(K:VB→Prop):Prop:=bK h b K
theorem bn {h:VH}{b:Nat}{K:VB→Prop}(hk:dB h b K):∃x,look h b=some x∧K x:=aQ hk
theorem aI {h:VH}{k i:Nat}{x:VB}{d:Blk}(h1:look h k=some x)(h2:x.blks[i]?=some d):look (toH h) (k,i)=some d:=by rw[az,h1];exact h2
def wM:Value→Option V
 | .int k n=>some (.int k n)
 | .bool true=>some .tt
 | .bool false=>some .ff
 | .string s=>some (.str s)
 | .pointer none=>some .nilp
 | .slice none 0 0=>some .nils
 | .nilFunc=>some .nilf
 | .map none=>some .nilm
 | .nilIface=>some .nili
 |_=>none
theorem zj {v:Value}{x:V}(h:wM v=some x):jn v=some x.toD:=by
 unfold wM at h
 split at h<;>first|(simp only[aK] at h;subst h;rfl)|cases h
def ml (t:VT)(x:Operand)(K:V→Prop):Prop:=
 match x with
 | .tmp k=>bK t k K
 | .const v=>(match wM v with|some d=>K d|none=>False)
 | .global g=>(match look Gl g with|some _=>K (.gp g)|none=>False)
 |_=>False
theorem ce {t:VT}{x:Operand}{K:V→Prop}(h:ml t x K):∃v,aW (toT t) x=some v.toD∧K v:=by
 unfold ml at h
 split at h
 ·obtain⟨v,h1,h2⟩:=aQ h
  exact⟨v,by simp only[aW,cx,h1,aM],h2⟩
 ·split at h
  ·rename_i d hd
   exact⟨d,zj hd,h⟩
  ·exact h.elim
 ·rename_i g
  split at h
  ·rename_i y hy
   exact⟨.gp g,by simp[aW,hy,V.toD],h⟩
  ·exact h.elim
 ·exact h.elim
def Eg (t:VT):List Operand→(List V→Prop)→Prop
 |[],K=>K []
 |x::l,K=>ml t x fun v=>Eg t l fun vs=>K (v::vs)
theorem xI {t:VT}:∀{l:List Operand} {K:List V→Prop},Eg t l K→∃vs,evalDs (toT t) l=some (aB vs)∧K vs
 |[],K,h=>⟨[],rfl,h⟩
 |x::l,K,h=>by
  obtain⟨v,h1,h2⟩:=ce h
  obtain⟨vs,h3,h4⟩:=xI h2
  exact⟨v::vs,tL h1 h3,h4⟩
def vA (l:List (Nat×V)):List (Nat×D):=l.map fun p=>(p.1,p.2.toD)
def Eh (t:VT):List (Nat×Operand)→(List (Nat×V)→Prop)→Prop
 |[],K=>K []
 |(k,x)::l,K=>ml t x fun v=>Eh t l fun vs=>K ((k,v)::vs)
theorem xJ {t:VT}:∀{l:List (Nat×Operand)} {K:List (Nat×V)→Prop},Eh t l K→∃vs,evalPs (toT t) l=some (vA vs)∧K vs
 |[],K,h=>⟨[],rfl,h⟩
 |(k,x)::l,K,h=>by
  obtain⟨v,h1,h2⟩:=ce h
  obtain⟨vs,h3,h4⟩:=xJ h2
  exact⟨(k,v)::vs,tM h1 h3,h4⟩
def uo {α:Type}:List α→Nat→(α→Prop)→Prop
 |[],_,_=>False
 |c::_,0,K=>K c
 |_::cs,n+1,K=>uo cs n K
theorem jb {α:Type}:∀{l:List α} {n:Nat} {K:α→Prop},uo l n K→∃x,l[n]?=some x∧K x
 |[],_,_,h=>h.elim
 |c::_,0,K,h=>⟨c,rfl,h⟩
 |_::cs,n+1,K,h=>by
  obtain⟨x,h1,h2⟩:=jb (l:=cs) (n:=n) h
  exact⟨x,by simpa using h1,h2⟩
def pO:List V→Nat→(List V→Prop)→Prop
 |_,0,K=>K []
 |[],_+1,_=>False
 |c::cs,n+1,K=>pO cs n fun r=>K (c::r)
theorem lX:∀{l:List V} {n:Nat} {K:List V→Prop},pO l n K→n≤l.length∧K (l.take n)
 |l,0,K,h=>⟨gJ _,by cases l<;>simpa[pO] using h⟩
 |[],_+1,_,h=>h.elim
 |c::cs,n+1,K,h=>by
  obtain⟨h1,h2⟩:=lX (l:=cs) (n:=n) h
  exact⟨by simpa using h1,by simpa using h2⟩
def B2:List V→Nat→Nat→(List V→Prop)→Prop
 |l,0,s,K=>pO l s K
 |[],_+1,_,_=>False
 |_::cs,o+1,s,K=>B2 cs o s K
theorem sP:∀{l:List V} {o s:Nat} {K:List V→Prop},B2 l o s K→o+s≤l.length∧K ((l.drop o).take s)
 |l,0,s,K,h=>by
  have h':pO l s K:=by cases l<;>simpa[B2] using h
  obtain⟨h1,h2⟩:=lX h'
  exact⟨by omega,by simpa using h2⟩
 |[],_+1,_,_,h=>h.elim
 |_::cs,o+1,s,K,h=>by
  obtain⟨h1,h2⟩:=sP (l:=cs) (o:=o) h
  exact⟨by simp only[dZ];omega,by simpa using h2⟩
def uz:List V→List V→(List V→Prop)→Prop
 |l,[],K=>K l
 |[],_::_,_=>False
 |_::l,x::m,K=>uz l m fun r=>K (x::r)
def qx:List V→Nat→List V→(List V→Prop)→Prop
 |l,0,m,K=>uz l m K
 |[],_+1,_,_=>False
 |c::l,o+1,m,K=>qx l o m fun r=>K (c::r)
theorem uA:∀{l m:List V} {K:List V→Prop},uz l m K→m.length≤l.length∧K (m++l.drop m.length)
 |l,[],K,h=>⟨gJ _,by cases l<;>simpa[uz] using h⟩
 |[],_::_,_,h=>h.elim
 |_::l,x::m,K,h=>by
  obtain⟨h1,h2⟩:=uA (l:=l) (m:=m) h
  exact⟨by simpa using h1,by simpa using h2⟩
theorem ia:∀{l:List V} {o:Nat} {m:List V} {K:List V→Prop},qx l o m K→o+m.length≤l.length∧K (l.take o++m++l.drop (o+m.length))
 |l,0,m,K,h=>by
  have h':uz l m K:=by cases l<;>simpa[qx] using h
  obtain⟨h1,h2⟩:=uA h'
  exact⟨by omega,by simpa using h2⟩
 |[],_+1,_,_,h=>h.elim
 |c::l,o+1,m,K,h=>by
  obtain⟨h1,h2⟩:=ia (l:=l) (o:=o) (m:=m) h
  refine⟨by simp only[dZ];omega,?_⟩
  have:o+1+m.length=(o+m.length)+1:=by omega
  rw[this]
  simpa using h2
theorem aR (l:List V):(aB l).length=l.length:=by rw[ci,bH]
theorem j3 (l m:List V)(o:Nat):bk (aB l) o (aB m)=aB (l.take o++m++l.drop (o+m.length)):=by
 simp only[bk,ci,jr,List.map_take,List.map_drop,bH]
def V.cells:V→List V
 | .agg cs=>cs
 |v=>[v]
theorem bq (v:V):v.toD.cells=aB v.cells:=by
 cases v
 case hro k o=>cases o<;>rfl
 case hpo k o=>cases o<;>rfl
 case obo t o=>cases o<;>rfl
 all_goals rfl
def fg (ti:TI)(cs:List V)(o:Nat)(K:V→Prop):Prop:=bif ti.agg then B2 cs o ti.sz fun r=>K (.agg r) else uo cs o K
theorem cy {P:Program}{T:TypeId}{ti:TI}(ht:ti.ok P T){cs:List V}{o:Nat}{K:V→Prop}(h:fg ti cs o K):∃v,bT P T (aB cs) o=some v.toD∧K v:=by
 unfold fg at h
 have ha:=ht.agg
 cases hb:ti.agg with
 |true=>
  rw[hb] at h ha
  obtain⟨h1,h2⟩:=sP h
  refine⟨_,DQ ha ht.size (by rw[aR];exact h1) ?_,h2⟩
  simp only[ci,←List.map_take,←List.map_drop]
 |false=>
  rw[hb] at h ha
  obtain⟨v,h1,h2⟩:=jb h
  exact⟨v,B6 ha (by rw[ci,cd,h1];rfl),h2⟩
theorem sS {P:Program}{T:TypeId}{A B:List D}{o:Nat}{d:D}(h:bT P T A o=some d):bT P T (A++B) o=some d:=by
 unfold bT at h⊢
 cases h1:isAggT P T with
 |none=>rw[h1] at h;simp at h
 |some b=>
  cases b with
  |true=>
   cases h2:sizeT P T with
   |none=>rw[h1,h2] at h;simp at h
   |some s=>
    rw[h1,h2] at h
    simp only at h⊢
    split at h
    ·rename_i hle
     rw[if_pos (by rw[ck];omega),←h]
     congr 2
     rw[List.drop_append_of_le_length (by omega),List.take_append_of_le_length (by rw[List.length_drop];omega)]
    ·cases h
  |false=>
   rw[h1] at h
   simp only at h⊢
   have hlt:=(cz.1 h).1
   rw[gg hlt]
   exact h
theorem qy {P:Program}{T:TypeId}{A B:List D}{o:Nat}{d:D}(h:bT P T B o=some d):bT P T (A++B) (A.length+o)=some d:=by
 unfold bT at h⊢
 cases h1:isAggT P T with
 |none=>rw[h1] at h;simp at h
 |some b=>
  cases b with
  |true=>
   cases h2:sizeT P T with
   |none=>rw[h1,h2] at h;simp at h
   |some s=>
    rw[h1,h2] at h
    simp only at h⊢
    split at h
    ·rename_i hle
     rw[if_pos (by rw[ck];omega),←h]
     congr 2
     rw[List.drop_append,List.drop_of_length_le (by omega),d5,Nat.add_sub_cancel_left]
    ·cases h
  |false=>
   rw[h1] at h
   simp only at h⊢
   rw[jq (by omega)]
   simpa using h
def Chk (b:Bool)(K:Prop):Prop:=match b with|true=>K|false=>False
def Mk (b:Bool)(K:Prop):Prop:=b=true∧K
theorem Chk.ok {b:Bool}{K:Prop}(h:Chk b K):b=true∧K:=by cases b<;>first|exact h.elim|exact⟨rfl,h⟩
def eQ (n:Nat)(K:Nat→Prop):Prop:=
 match n with
 |0=>K 0|1=>K 1|2=>K 2|3=>K 3|4=>K 4|5=>K 5|6=>K 6|7=>K 7|8=>K 8|9=>K 9|10=>K 10|11=>K 11|12=>K 12|13=>K 13|14=>K 14|15=>K 15
 |16=>K 16|17=>K 17|18=>K 18|19=>K 19|20=>K 20|21=>K 21|22=>K 22|23=>K 23
 |n=>K n
theorem bJ {n:Nat}{K:Nat→Prop}(h:eQ n K):K n:=by
 unfold eQ at h
 split at h<;>exact h
def eR:List Nat→(List Nat→Prop)→Prop
 |[],K=>K []
 |b::l,K=>eQ b fun b=>eR l fun l=>K (b::l)
theorem cg:∀{l:List Nat} {K:List Nat→Prop},eR l K→K l
 |[],K,h=>h
 |b::l,K,h=>cg (l:=l) (K:=fun l=>K (b::l)) (bJ (K:=fun b=>eR l fun l=>K (b::l)) h)
def Cp {α:Type}:List α→List α→(List α→Prop)→Prop
 |[],m,K=>K m
 |a::l,m,K=>Cp l m fun r=>K (a::r)
theorem rI {α:Type}:∀{l m:List α} {K:List α→Prop},Cp l m K→K (l++m)
 |[],m,K,h=>h
 |a::l,m,K,h=>rI (l:=l) (K:=fun r=>K (a::r)) h
def jS:List Nat→Bool
 |[]=>true
 |a::l=>!(l.contains a) && jS l
theorem iO:∀{l:List Nat},jS l=true→l.Nodup
 |[],_=>List.nodup_nil
 |a::l,hl=>by
  simp only[jS,b6,iZ] at hl
  exact List.nodup_cons.2 ⟨by simpa using hl.1,iO hl.2⟩
def a7 {α:Type}:List (Nat×α)→Nat→Option α
 |[],_=>none
 |(k,a)::l,x=>bif Nat.beq x k then some a else a7 l x
theorem a8 {α:Type}:∀(l:List (Nat×α)) (x:Nat),a7 l x=look l x
 |[],_=>rfl
 |(k,a)::l,x=>by
  simp only[a7,look,a8 l x]
  by_cases e:x=k
  ·subst e;simp
  ·have:Nat.beq x k=false:=by
    cases hb:Nat.beq x k with
    |false=>rfl
    |true=>exact absurd (bY hb) e
   rw[this,if_neg e];rfl
def cH (h:VH)(u:HL)(vu:VH):Prop:=(∀b,look (puts u (toH h)) b=look (toH (puts vu h)) b)∧∀x∈u,x.1.1∈vu.map (·.1)
theorem ba {h:VH}:cH h [] []:=⟨fun _=>rfl,fun x hx=>by cases hx⟩
theorem od {h:VH}{u1 u2:HL}{v1 v2:VH}(h1:cH h u1 v1)(h2:cH (puts v1 h) u2 v2):cH h (u1++u2) (v1++v2):=by
 refine⟨fun b=>?_,fun x hx=>?_⟩
 ·rw[bG,bG,←h2.1 b]
  exact bQ (h1.1 b)
 ·rw[jr]
  rcases cm.1 hx with hx|hx
  ·exact dK _ (h1.2 x hx)
  ·exact dA _ (h2.2 x hx)
theorem sV {h:VH}{k:Nat}{y:VB}{u:HL}(hk:∀x∈u,x.1.1=k)(hu:∀i,look (puts u (toH h)) (k,i)=y.blks[i]?):cH h u [(k,y)]:=by
 refine⟨fun b=>?_,fun x hx=>by rw[hk x hx];exact bd.2 rfl⟩
 obtain⟨b1,b2⟩:=b
 rw[az]
 show _=(look (put k y h) b1).bind _
 rw[aD]
 by_cases e:b1=k
 ·subst e;rw[if_pos rfl];exact hu b2
 ·rw[if_neg e,aS _ _ _ fun x hx he=>e (by rw[←hk x hx,he]),az]
theorem ma {h:VH}{k:Nat}{y:VB}{d:Blk}(ho:∀i,i≠0→look (toH h) (k,i)=none)(hy:y.blks=[d]):cH h [((k,0),d)] [(k,y)]:=by
 refine sV (fun x hx=>by obtain rfl:=bd.1 hx;rfl) fun i=>?_
 show look (put (k,0) d (toH h)) (k,i)=_
 rw[aD,hy]
 cases i with
 |zero=>rw[if_pos rfl];rfl
 |succ i=>rw[if_neg (by simp),ho _ (by simp)];rfl
theorem Bv {h:VH}{k:Nat}{x:VB}(h1:look h k=some x)(hs:x.sgl=true):∀i,i≠0→look (toH h) (k,i)=none:=by
 intro i hi
 obtain⟨d,hd⟩:=VB.sgl_ok hs
 rw[az,h1]
 simp only[bp,hd]
 cases i with
 |zero=>exact absurd rfl hi
 |succ i=>rfl
theorem eu {h:VH}{k:Nat}{x y:VB}{d:Blk}(h1:look h k=some x)(hs:x.sgl=true)(hy:y.blks=[d]):cH h [((k,0),d)] [(k,y)]:=ma (Bv h1 hs) hy
theorem fE {h:VH}{n:Nat}{y:VB}{d:Blk}(hn:∀b:Id,n≤b.1→look (toH h) b=none)(hy:y.blks=[d]):cH h [((n,0),d)] [(n,y)]:=ma (fun i _=>hn (n,i) (aN _)) hy
theorem sU {h:VH}{k i:Nat}{x y:VB}{d:Blk}(h1:look h k=some x)(hy:y.blks=x.blks.set i d)(hi:i<x.blks.length):cH h [((k,i),d)] [(k,y)]:=by
 refine sV (fun x hx=>by obtain rfl:=bd.1 hx;rfl) fun j=>?_
 show look (put (k,i) d (toH h)) (k,j)=_
 rw[aD,az,h1,hy]
 by_cases e:j=i
 ·subst e;rw[if_pos rfl,List.getElem?_set_self hi]
 ·rw[if_neg (by simp[e]),List.getElem?_set_ne (cq e)];rfl
theorem Cb {h:VH}{k:Nat}{x y:VB}{d:Blk}(h1:look h k=some x)(hy:y.blks=x.blks++[d]):cH h [((k,x.blks.length),d)] [(k,y)]:=by
 refine sV (fun x hx=>by obtain rfl:=bd.1 hx;rfl) fun j=>?_
 show look (put (k,x.blks.length) d (toH h)) (k,j)=_
 rw[aD,az,h1,hy]
 by_cases e:j=x.blks.length
 ·subst e;rw[if_pos rfl];simp
 ·rw[if_neg (by simp[e])]
  simp only[bp]
  by_cases hl:j<x.blks.length
  ·rw[gg hl]
  ·rw[js (by omega),js (by rw[ck,List.length_singleton];omega)]
def mJ (h:VH)(k:Nat):Bool:=match a7 h k with|some x=>!x.sgl|none=>true
theorem mK {h:VH}{k i:Nat}(hf:mJ h k=true){d:Blk}(hd:look (toH h) (k,i)=some d):(∃T cs,d= .var T cs)∨(∃E l,d= .row E l)∨d= .gone∨∃q p,d= .obj q p:=by
 rw[az,←a8] at hd
 unfold mJ at hf
 cases hl:a7 h k with
 |none=>rw[hl] at hd;cases hd
 |some x=>
  rw[hl] at hf hd
  simp only[bp] at hd
  cases x<;>simp[VB.sgl] at hf
  all_goals (simp only[VB.blks,cd] at hd;obtain⟨y,_,rfl⟩:=bj.1 hd)
  ·exact .inl ⟨_,_,rfl⟩
  ·exact .inl ⟨_,_,rfl⟩
  ·exact .inr (.inl ⟨_,_,rfl⟩)
  ·cases y with
   |none=>exact .inr (.inr (.inl rfl))
   |some y=>exact .inr (.inl ⟨_,_,rfl⟩)
  ·exact .inr (.inr (.inr ⟨_,_,rfl⟩))
theorem xL {h:VH}{k:Nat}(hf:mJ h k=true)(i:Nat):fwd (toH h) (.ref (k,i))= .ref (k,i):=by
 simp only[fwd]
 split
 ·rename_i c hc;rcases mK hf hc with⟨_,_,e⟩|⟨_,_,e⟩|e|⟨_,_,e⟩<;>cases e
 ·rename_i c hc;rcases mK hf hc with⟨_,_,e⟩|⟨_,_,e⟩|e|⟨_,_,e⟩<;>cases e
 ·rfl
theorem rX {h:VH}{k:Nat}(hf:mJ h k=true)(i o:Nat):fwd (toH h) (.ptr (k,i) o)= .ptr (k,i) o:=by
 simp only[fwd]
 split
 ·rename_i c hc;rcases mK hf hc with⟨_,_,e⟩|⟨_,_,e⟩|e|⟨_,_,e⟩<;>cases e
 ·rename_i c hc;rcases mK hf hc with⟨_,_,e⟩|⟨_,_,e⟩|e|⟨_,_,e⟩<;>cases e
 ·rfl
theorem Aw {h:VH}{k:Nat}(hf:mJ h k=true)(i j o:Nat):fwd (toH h) (.eptr (k,i) j o)= .eptr (k,i) j o:=by
 simp only[fwd]
 split
 ·rename_i c hc;rcases mK hf hc with⟨_,_,e⟩|⟨_,_,e⟩|e|⟨_,_,e⟩<;>cases e
 ·rfl
theorem Ej {h:VH}{k:Nat}(hf:mJ h k=true)(i:Nat):fwd (toH h) (.mp (k,i))= .mp (k,i):=by
 simp only[fwd]
 split
 ·rename_i c hc;rcases mK hf hc with⟨_,_,e⟩|⟨_,_,e⟩|e|⟨_,_,e⟩<;>cases e
 ·rfl
theorem pt (h:VH)(b:Nat):look (toH h) (b,0)=match a7 h b with|some x=>x.blks[0]? |none=>none:=by
 rw[az,←a8]
 cases a7 h b<;>rfl
def CF (h:VH)(b:Nat):V:=match a7 h b with
 |some (.moved k i)=>.fref k i
 |some (.froz t xs)=>.lst t xs
 |_=>.ref b
theorem CG (h:VH)(b:Nat):fwd (toH h) (.ref (b,0))=(CF h b).toD:=by
 simp only[fwd,pt,CF]
 cases hl:a7 h b with
 |none=>rfl
 |some x=>
  cases x with
  |fvar T t xs=>cases xs<;>rfl
  |fvari T m t xs=>cases xs<;>rfl
  |frow E t xs=>cases xs<;>rfl
  |frowx E t xs=>cases xs with|nil=>rfl|cons y _=>cases y<;>rfl
  |maps ls=>cases ls<;>rfl
  |_=>rfl
def sj (h:VH)(b o:Nat):V:=match a7 h b with
 |some (.moved k i)=>.fptr k i o
 |some (.fvb t x)=>(match o with|0=>.box t x|o+1=>(match enc t x with| .agg _=>.iptr t x (o+1)|_=>.undef))
 |_=>.ptr b o
theorem xO (h:VH)(b o:Nat)(hne:sj h b o≠ .undef):fwd (toH h) (.ptr (b,0) o)=(sj h b o).toD:=by
 unfold sj at hne⊢
 simp only[fwd,pt]
 cases hl:a7 h b with
 |none=>rfl
 |some x=>
  cases x with
  |fvar T t xs=>cases xs<;>rfl
  |fvari T m t xs=>cases xs<;>rfl
  |frow E t xs=>cases xs<;>rfl
  |frowx E t xs=>cases xs with|nil=>rfl|cons y _=>cases y<;>rfl
  |maps ls=>cases ls<;>rfl
  |fvb t x=>
   rw[hl] at hne
   cases o with
   |zero=>rfl
   |succ o=>
    simp only at hne⊢
    have e1:=i4 t x
    cases he:enc t x with
    |agg cs=>
     rw[he] at e1
     simp only[VB.blks,fi,V.toD] at e1⊢
     rw[←e1]
     rfl
    |_=>rw[he] at hne;exact absurd rfl hne
  |_=>rfl
def sf (h:VH)(b:Nat):Option (Nat×Nat):=match a7 h b with|some (.moved k i)=>some (k,i)|_=>none
theorem El (h:VH)(b i o:Nat):fwd (toH h) (.eptr (b,0) i o)=match sf h b with|some p=>.eptr p i o|none=>.eptr (b,0) i o:=by
 simp only[fwd,pt,sf]
 cases hl:a7 h b with
 |none=>rfl
 |some x=>
  cases x with
  |fvar T t xs=>cases xs<;>rfl
  |fvari T m t xs=>cases xs<;>rfl
  |frow E t xs=>cases xs<;>rfl
  |frowx E t xs=>cases xs with|nil=>rfl|cons y _=>cases y<;>rfl
  |maps ls=>cases ls<;>rfl
  |_=>rfl
theorem En (h:VH)(b o n:Nat):fwd (toH h) (.vref (b,0) o n)=match sf h b with|some p=>.vref p o n|none=>.vref (b,0) o n:=by
 simp only[fwd,pt,sf]
 cases hl:a7 h b with
 |none=>rfl
 |some x=>
  cases x with
  |fvar T t xs=>cases xs<;>rfl
  |fvari T m t xs=>cases xs<;>rfl
  |frow E t xs=>cases xs<;>rfl
  |frowx E t xs=>cases xs with|nil=>rfl|cons y _=>cases y<;>rfl
  |maps ls=>cases ls<;>rfl
  |_=>rfl
theorem Em (h:VH)(b:Nat):fwd (toH h) (.mp (b,0))=match sf h b with|some p=>.mp p|none=>.mp (b,0):=by
 simp only[fwd,pt,sf]
 cases hl:a7 h b with
 |none=>rfl
 |some x=>
  cases x with
  |fvar T t xs=>cases xs<;>rfl
  |fvari T m t xs=>cases xs<;>rfl
  |frow E t xs=>cases xs<;>rfl
  |frowx E t xs=>cases xs with|nil=>rfl|cons y _=>cases y<;>rfl
  |maps ls=>cases ls<;>rfl
  |_=>rfl
mutual
def cT (h:VH)(v:V)(K:V→Prop):Prop:=
 match v with
 | .ref b=>(match a7 h b with
  |some (.moved k i)=>K (.fref k i)
  |some (.froz t xs)=>K (.lst t xs)
  |_=>K (.ref b))
 | .ptr b o=>(match a7 h b with
  |some (.moved k i)=>K (.fptr k i o)
  |some (.fvb t x)=>(match o with|0=>K (.box t x)|o+1=>(match enc t x with| .agg _=>K (.iptr t x (o+1))|_=>False))
  |_=>K (.ptr b o))
 | .eptr b j o=>(match sf h b with|some (k,i)=>K (.feptr k i j o)|none=>K (.eptr b j o))
 | .vref b o n=>(match sf h b with|some _=>False|none=>K (.vref b o n))
 | .aptr b p j=>(match a7 h b with
  |some (.moved k i)=>K (.faptr k i p j)
  |some (.fvb _ _)=>False
  |_=>K (.aptr b p j))
 | .fref k i=>Chk (mJ h k) (K (.fref k i))
 | .fptr k i o=>Chk (mJ h k) (K (.fptr k i o))
 | .feptr k i j o=>Chk (mJ h k) (K (.feptr k i j o))
 | .faptr k i p j=>Chk (mJ h k) (K (.faptr k i p j))
 | .hro k o=>Chk (mJ h k) (K (.hro k o))
 | .hpo k o=>Chk (mJ h k) (K (.hpo k o))
 | .mp b=>(match sf h b with|some (k,i)=>K (.fmp k i)|none=>K (.mp b))
 | .fmp k i=>Chk (mJ h k) (K (.fmp k i))
 | .agg cs=>kN h cs fun cs=>K (.agg cs)
 | .tup cs=>kN h cs fun cs=>K (.tup cs)
 | .clo f cs=>kN h cs fun cs=>K (.clo f cs)
 | .ifc T v=>cT h v fun v=>K (.ifc T v)
 | .int k n=>K (.int k n)
 | .bool b=>K (.bool b)
 | .tt=>K .tt
 | .ff=>K .ff
 | .str s=>K (.str s)
 | .lst t xs=>K (.lst t xs)
 | .box t x=>K (.box t x)
 | .nilp=>K .nilp
 | .nils=>K .nils
 | .nilf=>K .nilf
 | .nilm=>K .nilm
 | .val v=>K (.val v)
 | .dbox cs=>K (.dbox cs)
 | .nili=>K .nili
 | .gp g=>K (.gp g)
 | .gv g=>K (.gv g)
 | .iptr t x o=>K (.iptr t x o)
 | .obo t o=>K (.obo t o)
 | .undef=>K .undef
 | .junk=>K .junk
def kN (h:VH)(l:List V)(K:List V→Prop):Prop:=
 match l with
 |[]=>K []
 |v::l=>cT h v fun v=>kN h l fun l=>K (v::l)
end
mutual
theorem kr {h:VH}:∀{v:V} {K:V→Prop},cT h v K→∃r,fwd (toH h) v.toD=r.toD∧K r
 | .ref b,K,hk=>by
  simp only[cT] at hk
  refine⟨CF h b,CG h b,?_⟩
  unfold CF
  cases hl:a7 h b with
  |none=>rw[hl] at hk;exact hk
  |some x=>rw[hl] at hk;cases x<;>exact hk
 | .ptr b o,K,hk=>by
  simp only[cT] at hk
  have key:sj h b o≠ .undef∧K (sj h b o):=by
   unfold sj
   cases hl:a7 h b with
   |none=>rw[hl] at hk;exact⟨by simp,hk⟩
   |some x=>
    rw[hl] at hk
    cases x with
    |fvb t x=>
     cases o with
     |zero=>exact⟨by simp,hk⟩
     |succ o=>
      simp only at hk⊢
      cases he:enc t x with
      |agg cs=>rw[he] at hk;exact⟨by simp,hk⟩
      |_=>rw[he] at hk;exact hk.elim
    |_=>exact⟨by simp,hk⟩
  exact⟨_,xO h b o key.1,key.2⟩
 | .eptr b j o,K,hk=>by
  simp only[cT] at hk
  have:=El h b j o
  split at hk<;>rename_i e<;>rw[e] at this
  ·exact⟨.feptr _ _ j o,this,hk⟩
  ·exact⟨.eptr b j o,this,hk⟩
 | .vref b o n,K,hk=>by
  simp only[cT] at hk
  have:=En h b o n
  split at hk<;>rename_i e<;>rw[e] at this
  ·exact hk.elim
  ·exact⟨.vref b o n,this,hk⟩
 | .aptr b p j,K,hk=>by
  simp only[cT] at hk
  have key:sj h b (p+j)≠ .undef∧∃r:V,(sj h b (p+j)).toD=r.toD∧K r:=by
   unfold sj
   cases hl:a7 h b with
   |none=>rw[hl] at hk;exact⟨by simp,.aptr b p j,rfl,hk⟩
   |some x=>
    rw[hl] at hk
    cases x with
    |fvb t x=>exact hk.elim
    |moved k i=>exact⟨by simp,.faptr k i p j,rfl,hk⟩
    |_=>exact⟨by simp,.aptr b p j,rfl,hk⟩
  obtain⟨k1,r,k2,k3⟩:=key
  exact⟨r,(xO h b (p+j) k1).trans k2,k3⟩
 | .fref k i,K,hk=>by simp only[cT] at hk;obtain⟨c,hk⟩:=hk.ok;exact⟨_,by simp only[V.toD];exact xL c i,hk⟩
 | .fptr k i o,K,hk=>by simp only[cT] at hk;obtain⟨c,hk⟩:=hk.ok;exact⟨_,by simp only[V.toD];exact rX c i o,hk⟩
 | .feptr k i j o,K,hk=>by simp only[cT] at hk;obtain⟨c,hk⟩:=hk.ok;exact⟨_,by simp only[V.toD];exact Aw c i j o,hk⟩
 | .faptr k i p j,K,hk=>by simp only[cT] at hk;obtain⟨c,hk⟩:=hk.ok;exact⟨_,by simp only[V.toD];exact rX c i (p+j),hk⟩
 | .hro k o,K,hk=>by simp only[cT] at hk;obtain⟨c,hk⟩:=hk.ok;exact⟨.hro k o,by cases o with|none=>rfl|some i=>exact xL c i,hk⟩
 | .hpo k o,K,hk=>by simp only[cT] at hk;obtain⟨c,hk⟩:=hk.ok;exact⟨.hpo k o,by cases o with|none=>rfl|some i=>exact rX c i 0,hk⟩
 | .mp b,K,hk=>by
  simp only[cT] at hk
  have:=Em h b
  split at hk<;>rename_i e<;>rw[e] at this
  ·exact⟨.fmp _ _,this,hk⟩
  ·exact⟨.mp b,this,hk⟩
 | .fmp k i,K,hk=>by simp only[cT] at hk;obtain⟨c,hk⟩:=hk.ok;exact⟨_,by simp only[V.toD];exact Ej c i,hk⟩
 | .agg cs,K,hk=>by
  simp only[cT] at hk
  obtain⟨r,h1,h2⟩:=gx hk
  exact⟨_,by simp only[fwd,V.toD,h1],h2⟩
 | .tup cs,K,hk=>by
  simp only[cT] at hk
  obtain⟨r,h1,h2⟩:=gx hk
  exact⟨_,by simp only[fwd,V.toD,h1],h2⟩
 | .clo f cs,K,hk=>by
  simp only[cT] at hk
  obtain⟨r,h1,h2⟩:=gx hk
  exact⟨_,by simp only[fwd,V.toD,h1],h2⟩
 | .ifc T v,K,hk=>by
  simp only[cT] at hk
  obtain⟨r,h1,h2⟩:=kr hk
  exact⟨_,by simp only[fwd,V.toD,h1],h2⟩
 | .int k n,K,hk=>⟨.int k n,by simp only[V.toD,fwd],by simpa only[cT] using hk⟩
 | .bool b,K,hk=>⟨.bool b,by simp only[V.toD,fwd],by simpa only[cT] using hk⟩
 | .tt,K,hk=>⟨.tt,by simp only[V.toD,fwd],by simpa only[cT] using hk⟩
 | .ff,K,hk=>⟨.ff,by simp only[V.toD,fwd],by simpa only[cT] using hk⟩
 | .str s,K,hk=>⟨.str s,by simp only[V.toD,fwd],by simpa only[cT] using hk⟩
 | .lst t xs,K,hk=>⟨.lst t xs,by simp only[V.toD,fwd],by simpa only[cT] using hk⟩
 | .box t x,K,hk=>⟨.box t x,by simp only[V.toD,fwd],by simpa only[cT] using hk⟩
 | .nilp,K,hk=>⟨.nilp,by simp only[V.toD,fwd],by simpa only[cT] using hk⟩
 | .nils,K,hk=>⟨.nils,by simp only[V.toD,fwd],by simpa only[cT] using hk⟩
 | .nilf,K,hk=>⟨.nilf,by simp only[V.toD,fwd],by simpa only[cT] using hk⟩
 | .nilm,K,hk=>⟨.nilm,by simp only[V.toD,fwd],by simpa only[cT] using hk⟩
 | .val v,K,hk=>⟨.val v,by simp only[V.toD,fwd],by simpa only[cT] using hk⟩
 | .dbox cs,K,hk=>⟨.dbox cs,by simp only[V.toD,fwd],by simpa only[cT] using hk⟩
 | .nili,K,hk=>⟨.nili,by simp only[V.toD,fwd],by simpa only[cT] using hk⟩
 | .gp g,K,hk=>⟨.gp g,by simp only[V.toD,fwd],by simpa only[cT] using hk⟩
 | .gv g,K,hk=>⟨.gv g,by simp only[V.toD,fwd],by simpa only[cT] using hk⟩
 | .iptr t x o,K,hk=>⟨.iptr t x o,by simp only[V.toD,fwd],by simpa only[cT] using hk⟩
 | .obo t o,K,hk=>⟨.obo t o,by cases o<;>simp only[V.toD,aj,fwd],by simpa only[cT] using hk⟩
 | .undef,K,hk=>⟨.undef,by simp only[V.toD,fwd],by simpa only[cT] using hk⟩
 | .junk,K,hk=>⟨.junk,by simp only[V.toD,fwd],by simpa only[cT] using hk⟩
theorem gx {h:VH}:∀{l:List V} {K:List V→Prop},kN h l K→∃r,i5 (toH h) (aB l)=aB r∧K r
 |[],K,hk=>⟨[],by simp only[aB,i5],by simpa only[kN] using hk⟩
 |v::l,K,hk=>by
  simp only[kN] at hk
  obtain⟨v',h1,h2⟩:=kr hk
  obtain⟨l',h3,h4⟩:=gx h2
  exact⟨v'::l',by simp only[aB,i5,h1,h3],h4⟩
end
def tI (t:VT)(h:VH)(x:Operand)(K:V→Prop):Prop:=ml t x fun v=>cT h v K
theorem dW {t:VT}{h:VH}{x:Operand}{K:V→Prop}(hk:tI t h x K):∃v,evalF (toT t) (toH h) x=some v.toD∧K v:=by
 obtain⟨v,h1,h2⟩:=ce hk
 obtain⟨r,h3,h4⟩:=kr h2
 exact⟨r,by unfold evalF;rw[h1,aM,h3],h4⟩
def wn (t:VT)(h:VH):List Operand→(List V→Prop)→Prop
 |[],K=>K []
 |x::l,K=>tI t h x fun v=>wn t h l fun vs=>K (v::vs)
theorem ko {t:VT}{h:VH}:∀{l:List Operand} {K:List V→Prop},wn t h l K→∃vs,evalFs (toT t) (toH h) l=some (aB vs)∧K vs
 |[],K,hk=>⟨[],rfl,hk⟩
 |x::l,K,hk=>by
  obtain⟨v,h1,h2⟩:=dW hk
  obtain⟨vs,h3,h4⟩:=ko h2
  refine⟨v::vs,?_,h4⟩
  simp only[evalFs] at h3⊢
  simp[gh,h1,h3,aB]
def Av (t:VT)(h:VH):List (Nat×Operand)→(List (Nat×V)→Prop)→Prop
 |[],K=>K []
 |(k,x)::l,K=>tI t h x fun v=>Av t h l fun vs=>K ((k,v)::vs)
theorem tJ {t:VT}{h:VH}:∀{l:List (Nat×Operand)} {K:List (Nat×V)→Prop},Av t h l K→∃vs,evalFPs (toT t) (toH h) l=some (vA vs)∧K vs
 |[],K,hk=>⟨[],rfl,hk⟩
 |(k,x)::l,K,hk=>by
  obtain⟨v,h1,h2⟩:=dW hk
  obtain⟨vs,h3,h4⟩:=tJ h2
  refine⟨(k,v)::vs,?_,h4⟩
  simp only[evalFPs] at h3⊢
  simp[gh,h1,h3,vA]
def jv {α:Type}(o:Option α)(A:Prop)(B:α→Prop):Prop:=(o=none→A)∧∀x,o=some x→B x
def V.whole:V→Bool
 | .tup _| .undef=>false
 |_=>true
def V.one:V→Bool
 | .agg _| .tup _| .undef=>false
 |_=>true
theorem fA (v:V):v.toD.whole=v.whole:=by
 cases v
 case hro k o=>cases o<;>rfl
 case hpo k o=>cases o<;>rfl
 case obo t o=>cases o<;>rfl
 all_goals rfl
theorem lM (v:V):v.toD.one=v.one:=by
 cases v
 case hro k o=>cases o<;>rfl
 case hpo k o=>cases o<;>rfl
 case obo t o=>cases o<;>rfl
 all_goals rfl
theorem lh (l:List V)(h:l.all V.one=true):(aB l).all D.one=true:=by
 rw[ci,List.all_map]
 rw[bc] at h⊢
 intro x hx
 simp only[Function.comp,lM]
 exact h x hx
theorem cD (t:Ty)(x:t.den):(aj t x).cells=aB (enc t x).cells:=by rw[←i4,bq]
def AO (t:Ty)(xs:List t.den)(j:Nat):Nat→(List V→Prop)→Prop
 |0,K=>ct (j≤xs.length) (K [])
 |n+1,K=>fF xs j fun e=>AO t xs (j+1) n fun l=>K (enc t e::l)
theorem tW {t:Ty}{xs:List t.den}:∀{n j:Nat} {K:List V→Prop},AO t xs j n K→∃l,j+n≤xs.length∧((xs.map (aj t)).drop j).take n=aB l∧K l
 |0,j,K,hk=>⟨[],hk.1,by simp[aB],hk.2⟩
 |n+1,j,K,hk=>by
  obtain⟨e,he,hk⟩:=hk
  obtain⟨l,h1,h2,h3⟩:=tW hk
  refine⟨enc t e::l,by omega,?_,h3⟩
  obtain⟨hj,rfl⟩:=cz.1 he
  rw[nB (by rw[bH];exact hj),List.take_succ_cons,h2,List.getElem_map,aB,i4]
def nP (ti:TI)(x:VB)(i o:Nat)(K:V→Prop):Prop:=
 match x with
 | .fvar _ t xs=>fF xs i fun e=>fg ti (enc t e).cells o K
 |_=>False
def xY (ti:TI)(h:VH)(v:V)(K:V→Prop):Prop:=
 match v with
 | .ptr b o=>dB h b fun x=>(match x with
  | .var _ cs=>fg ti cs o K
  | .vari _ pre m _ xs post=>(match Nat.blt o pre.length with
   |true=>fg ti pre o K
   |false=>ct (xs.length=m∧pre.length+m≤o) (fg ti post (o-(pre.length+m)) K))
  | .fvb t e=>fg ti (enc t e).cells o K
  |_=>False)
 | .aptr b p i=>dB h b fun x=>(match x with
  | .vari _ pre _ t xs _=>Chk (Nat.beq p pre.length && !ti.agg && t.sz==1) (fF xs i fun e=>K (enc t e))
  |_=>False)
 | .eptr b i o=>dB h b fun x=>(match x with
  | .row _ t xs=>fF xs i fun e=>fg ti (enc t e).cells o K
  | .lit _ vs=>uo vs i fun e=>fg ti e.cells o K
  |_=>False)
 | .fptr k i o=>dB h k fun x=>nP ti x i o K
 | .hpo k p=>jv p False fun i=>dB h k fun x=>nP ti x i 0 K
 | .faptr k i p j=>dB h k fun x=>(match x with
  | .fvari _ _ t xss=>Chk (Nat.beq p 0 && t.sz==1) (fF xss i fun xs=>(match ti.agg with
   |false=>fF xs j fun e=>K (enc t e)
   |true=>AO t xs j ti.sz fun l=>K (.agg l)))
  |_=>False)
 | .feptr k i j o=>dB h k fun x=>(match x with
  | .frow _ t xss=>fF xss i fun xs=>fF xs j fun e=>fg ti (enc t e).cells o K
  | .frowx _ t xss=>fF xss i fun ox=>jv ox False fun xs=>fF xs j fun e=>fg ti (enc t e).cells o K
  |_=>False)
 | .iptr t e o=>fg ti (enc t e).cells o K
 | .box t e=>fg ti (enc t e).cells 0 K
 | .dbox cs=>fg ti cs 0 K
 | .obo t p=>jv p False fun e=>fg ti (enc t e).cells 0 K
 | .gp g=>fg ti [.gv g] 0 K
 |_=>False
theorem oK {P:Program}{T:TypeId}{ti:TI}(ht:ti.ok P T){h:VH}{k i o:Nat}{x:VB}(hx:look h k=some x){K:V→Prop}(hk:nP ti x i o K):∃r,cP P (toH h) T (.ptr (k,i) o)=some r.toD∧K r:=by
 unfold nP at hk
 split at hk
 ·rename_i T' t xs
  obtain⟨e,h4,h5⟩:=hk
  obtain⟨r,h6,h7⟩:=cy ht h5
  have hl:=aI (i:=i) hx (d:=.var T' (aj t e).cells) (by simp only[VB.blks,cd,h4,aM])
  exact⟨r,by simp only[cP,hl,cD,h6],h7⟩
 ·exact hk.elim
theorem uh {P:Program}{T:TypeId}{ti:TI}(ht:ti.ok P T){h:VH}{v:V}{K:V→Prop}(hk:xY ti h v K):∃r,cP P (toH h) T v.toD=some r.toD∧K r:=by
 unfold xY at hk
 split at hk
 ·rename_i b o
  obtain⟨x,h1,h3⟩:=bn hk
  split at h3
  ·rename_i T' cs
   have hl:=aI (i:=0) h1 (d:=.var T' (aB cs)) rfl
   obtain⟨r,h4,h5⟩:=cy ht h3
   exact⟨r,by simp only[V.toD,cP,hl,h4],h5⟩
  ·rename_i T' pre m t xs post
   have hl:=aI (i:=0) h1 (d:=.var T' (aB pre++xs.map (aj t)++aB post)) rfl
   split at h3
   ·obtain⟨r,h4,h5⟩:=cy ht h3
    exact⟨r,by simp only[V.toD,cP,hl,cV];exact sS h4,h5⟩
   ·obtain⟨⟨c1,c2⟩,h3⟩:=h3
    obtain⟨r,h4,h5⟩:=cy ht h3
    refine⟨r,?_,h5⟩
    simp only[V.toD,cP,hl]
    have h6:=qy (A:=aB pre++xs.map (aj t)) h4
    rw[ck,bH,aR,c1] at h6
    rw[show pre.length+m+(o-(pre.length+m))=o by omega] at h6
    exact h6
  ·rename_i t e
   have hl:=aI (i:=0) h1 (d:=.fvar (aj t e).cells) rfl
   obtain⟨r,h4,h5⟩:=cy ht h3
   exact⟨r,by simp only[V.toD,cP,hl,cD,h4],h5⟩
  ·exact h3.elim
 ·rename_i b p i
  obtain⟨x,h1,h3⟩:=bn hk
  split at h3
  ·rename_i T' pre m t xs post
   have hl:=aI (i:=0) h1 (d:=.var T' (aB pre++xs.map (aj t)++aB post)) rfl
   obtain⟨c,h3⟩:=h3.ok
   simp only[b6,iZ,beq_iff_eq] at c
   obtain⟨⟨c1,c2⟩,c3⟩:=c
   obtain⟨e,h4,h5⟩:=h3
   have hp:p=pre.length:=bY c1
   refine⟨enc t e,?_,h5⟩
   simp only[V.toD,cP,hl,i4]
   have hlt:=(cz.1 h4).1
   have ha:=ht.agg
   rw[c2] at ha
   refine B6 ha ?_
   rw[cV,jq (by rw[aR];omega),aR,hp,Nat.add_sub_cancel_left,gg (by simpa using hlt),cd,h4]
   rfl
  ·exact h3.elim
 ·rename_i b i o
  obtain⟨x,h1,h3⟩:=bn hk
  split at h3
  ·rename_i E t xs
   have hl:=aI (i:=0) h1 (d:=.row E (xs.map (aj t))) rfl
   obtain⟨e,h4,h5⟩:=h3
   obtain⟨r,h6,h7⟩:=cy ht h5
   exact⟨r,by simp only[V.toD,cP,hl,cd,h4,aM,cD,h6],h7⟩
  ·rename_i E vs
   have hl:=aI (i:=0) h1 (d:=.row E (aB vs)) rfl
   obtain⟨e,h4,h5⟩:=jb h3
   obtain⟨r,h6,h7⟩:=cy ht h5
   refine⟨r,?_,h7⟩
   simp only[V.toD,cP,hl,ci,cd,h4,aM,bq]
   rw[←ci];exact h6
  ·exact h3.elim
 ·obtain⟨x,h1,h3⟩:=bn hk
  obtain⟨r,h4,h5⟩:=oK ht h1 h3
  exact⟨r,h4,h5⟩
 ·rename_i k p
  cases p with
  |none=>exact(hk.1 rfl).elim
  |some i=>
   obtain⟨x,h1,h3⟩:=bn (hk.2 i rfl)
   obtain⟨r,h4,h5⟩:=oK ht h1 h3
   exact⟨r,h4,h5⟩
 ·rename_i k i p j
  obtain⟨x,h1,h3⟩:=bn hk
  split at h3
  ·rename_i T' m t xss
   obtain⟨c,xs,h4,h8⟩:=h3.ok
   clear h3
   simp only[b6,beq_iff_eq] at c
   obtain⟨c1,c3⟩:=c
   have hl:=aI (i:=i) h1 (d:=.var T' (xs.map (aj t))) (by simp only[VB.blks,cd,h4,aM])
   have hp:p=0:=bY c1
   subst hp
   have ha:=ht.agg
   split at h8
   ·rename_i c2
    rw[c2] at ha
    obtain⟨e,h5,h6⟩:=h8
    refine⟨enc t e,?_,h6⟩
    simp only[V.toD,cP,hl,i4]
    exact B6 ha (by rw[gM,cd,h5];rfl)
   ·rename_i c2
    rw[c2] at ha
    obtain⟨l,h5,h6,h7⟩:=tW h8
    refine⟨.agg l,?_,h7⟩
    simp only[V.toD,cP,hl]
    exact DQ ha ht.size (by rw[gM,bH];exact h5) (by rw[gM];exact h6)
  ·exact h3.elim
 ·rename_i k i j o
  obtain⟨x,h1,h3⟩:=bn hk
  split at h3
  ·rename_i E t xss
   obtain⟨xs,h4,e,h5,h6⟩:=h3
   have hl:=aI (i:=i) h1 (d:=.row E (xs.map (aj t))) (by simp only[VB.blks,cd,h4,aM])
   obtain⟨r,h7,h8⟩:=cy ht h6
   exact⟨r,by simp only[V.toD,cP,hl,cd,h5,aM,cD,h7],h8⟩
  ·rename_i E t xss
   obtain⟨ox,h4,h5⟩:=h3
   cases ox with
   |none=>exact(h5.1 rfl).elim
   |some xs=>
    obtain⟨e,h5,h6⟩:=h5.2 xs rfl
    have hl:=aI (i:=i) h1 (d:=.row E (xs.map (aj t))) (by simp only[VB.blks,cd,h4,aM,rowX])
    obtain⟨r,h7,h8⟩:=cy ht h6
    exact⟨r,by simp only[V.toD,cP,hl,cd,h5,aM,cD,h7],h8⟩
  ·exact h3.elim
 ·obtain⟨r,h4,h5⟩:=cy ht hk
  exact⟨r,by simp only[V.toD,cP,cD,h4],h5⟩
 ·obtain⟨r,h4,h5⟩:=cy ht hk
  exact⟨r,by simp only[V.toD,cP,cD,h4],h5⟩
 ·obtain⟨r,h4,h5⟩:=cy ht hk
  exact⟨r,by simp only[V.toD,cP,h4],h5⟩
 ·rename_i t p
  cases p with
  |none=>exact(hk.1 rfl).elim
  |some e=>
   obtain⟨r,h4,h5⟩:=cy ht (hk.2 e rfl)
   exact⟨r,by simp only[V.toD,aj,cP,cD,h4],h5⟩
 ·obtain⟨r,h4,h5⟩:=cy ht hk
  exact⟨r,by simp only[V.toD,cP];exact h4,h5⟩
 ·exact hk.elim
variable {P:Program} {N:Nat}
def eC (P:Program)[PhC P](N:Nat)(h:VH)(u:HL)(vu:VH)(f:List Nat):Prop:=
 cH h u vu∧∀o t d u1,OpS P N o t (puts u (toH h)) d u1 f→OpS P N o t (toH h) d (u++u1) f
theorem eU [PhC P]{h:VH}{f:List Nat}:eC P N h [] [] f:=⟨ba,fun o t d u1 hd=>hd⟩
theorem jc [PhC P]{h:VH}{u1 u2:HL}{v1 v2:VH}{f:List Nat}(h1:eC P N h u1 v1 f)(h2:eC P N (puts v1 h) u2 v2 f):eC P N h (u1++u2) (v1++v2) f:=by
 refine⟨od h1.1 h2.1,fun o t d u hd=>?_⟩
 rw[cV]
 refine h1.2 o t d _ (mW (fun b=>(h1.1.1 b).symm) (h2.2 o t d u (mW (fun b=>?_) hd)))
 rw[bG]
 exact bQ (h1.1.1 b)
theorem iQ {t:Ty}(ht:t.pure=true)(x:t.den):∀c∈(aj t x).cells,leaf c=some c:=by
 intro c hc
 have hp:=(iG ht x).2
 rw[bc] at hp
 have hne:c≠ .nils:=by
  rintro rfl
  cases t<;>simp[Ty.pure] at ht
  case ob t=>cases x<;>simp[aj,D.cells] at hc
  all_goals simp[aj,D.cells,fX,zw,fI] at hc
 unfold leaf
 rw[if_pos (hp c hc)]
 congr 1
 cases c<;>first|rfl|exact absurd rfl hne
theorem kt {f:D→Option D}:∀{l:List D},(∀c∈l,f c=some c)→l.mapM f=some l
 |[],_=>rfl
 |c::l,hl=>by simp[gh,hl c (bh ..),kt fun d hd=>hl d (bl _ hd)]
theorem rk {t:Ty}(ht:t.pure=true)(x:t.den):purE leaf (aj t x)=some (aj t x):=by
 by_cases hag:∃cs,aj t x= .agg cs
 ·obtain⟨cs,he⟩:=hag
  have:=iQ ht x
  rw[he] at this⊢
  simp only[purE,D.cells] at this⊢
  rw[kt this]
  rfl
 ·have hc:(aj t x).cells=[aj t x]:=cS fun cs hcs=>hag ⟨cs,hcs⟩
  have h1:=iQ ht x (aj t x) (by rw[hc];exact bd.2 rfl)
  have h2:purE leaf (aj t x)=leaf (aj t x):=by
   generalize aj t x=d at *
   cases d<;>first|rfl|exact absurd ⟨_,rfl⟩ hag
  rw[h2,h1]
theorem row_pure {t:Ty}(ht:t.pure=true)(xs:List t.den):(xs.map (aj t)).mapM (purE leaf)=some (xs.map (aj t)):=
 kt fun c hc=>by obtain⟨x,_,rfl⟩:=aP.1 hc;exact rk ht x
theorem AE {h:VH}{b:Nat}{E:TypeId}{t:Ty}{xs:List t.den}(hb:look h b=some (.row E t xs))(ht:t.pure=true):frz (toH h) [(b,0)]=[((b,0),.froz (xs.map (aj t)))]:=by
 have hl:=aI (i:=0) hb (d:=.row E (xs.map (aj t))) rfl
 simp[frz,frzB,hl,row_pure ht]
theorem C8 [PhC P]{h:VH}{b:Nat}{E:TypeId}{t:Ty}{xs:List t.den}{f:List Nat}(hb:look h b=some (.row E t xs))(ht:t.pure=true)(hf:b∈f):eC P N h (frz (toH h) [(b,0)]) [(b,.froz t xs)] f:=by
 refine⟨by rw[AE hb ht];exact eu hb rfl rfl,fun o t d u1 hd=>ye (fun k hk=>?_) hd⟩
 simp only[kJ,bI,dt,bd] at hk
 rw[hk];exact hf
theorem uM [PhC P]{h:VH}{b:Nat}{x y:VB}{d:Blk}{f:List Nat}(hb:look h b=some x)(hx:x.blks=[d])(hy:y.blks=[dq (toH h) d])(hf:b∈f∧∀c∈vM d,c.1∈f):eC P N h [((b,0),dq (toH h) d)] [(b,y)] f:=by
 have hl:=aI (i:=0) hb (d:=d) (by rw[hx];rfl)
 refine⟨ma (fun i hi=>?_) hy,fun o t d' u1 hd=>By hl hf hd⟩
 rw[az,hb]
 simp only[bp,hx]
 cases i with
 |zero=>exact absurd rfl hi
 |succ i=>rfl
theorem C7 [PhC P]{h:VH}{b:Nat}{T:TypeId}{t:Ty}{x:t.den}{cs:List V}{f:List Nat}(hb:look h b=some (.var T cs))(hc:aB cs=(aj t x).cells)(ht:t.pure=true)(hf:b∈f):eC P N h (frz (toH h) [(b,0)]) [(b,.fvb t x)] f:=by
 have hl:=aI (i:=0) hb (d:=.var T (aB cs)) rfl
 have hne:¬(aj t x).cells=[]:=by
  intro e
  have h1:=(d8 t x).1
  have h2:=t.sz_pos
  rw[e] at h1
  simp at h1
  omega
 have e:frz (toH h) [(b,0)]=[((b,0),.fvar (aj t x).cells)]:=by simp[frz,frzB,hl,hc,kt (iQ ht x),hne]
 refine⟨by rw[e];exact eu hb rfl rfl,fun o t d u1 hd=>ye (fun k hk=>?_) hd⟩
 simp only[kJ,bI,dt,bd] at hk
 rw[hk];exact hf
theorem lN [PhC P]{h:VH}{b k:Nat}{x y z:VB}{d:Blk}{f:List Nat}(hb:look h b=some x)(hx:x.blks=[d])(hl:d.live=true)(hk:look h k=some y)(hz:z.blks=y.blks++[d])(hbk:b≠k)(hf:b∈f∧k∈f):
  eC P N h [((b,0),.moved (k,y.blks.length)),((k,y.blks.length),d)] [(b,.moved k y.blks.length),(k,z)] f:=by
 have hlb:=aI (i:=0) hb (d:=d) (by rw[hx];rfl)
 have hln:look (toH h) (k,y.blks.length)=none:=by rw[az,hk];simp
 have hm:gD (toH h) [((b,0),(k,y.blks.length))]=some [((b,0),.moved (k,y.blks.length)),((k,y.blks.length),d)]:=by
  simp only[gD,hlb]
  rw[if_pos ⟨hl,hln⟩]
  rfl
 refine⟨?_,fun o t d' u1 hd=>zm hm (fun g hg=>?_) hd⟩
 ·have h1:cH h [((b,0),.moved (k,y.blks.length))] [(b,.moved k y.blks.length)]:=ma (fun i hi=>by
   rw[az,hb]
   simp only[bp,hx]
   cases i with
   |zero=>exact absurd rfl hi
   |succ i=>rfl) rfl
  have hk':look (puts [(b,VB.moved k y.blks.length)] h) k=some y:=by
   show look (put b _ h) k=_
   rw[aD,if_neg (cq hbk)];exact hk
  have h2:=Cb (y:=z) hk' hz
  exact od h1 h2
 ·simp only[i0,List.flatMap_nil,il,kJ,bI,dt,a9,d6,or_false] at hg
  rcases hg with rfl|rfl
  ·exact hf.1
  ·exact hf.2
inductive Sh where
 |any|frz|mr (k:Nat)|mp (k:Nat)|bx (t:Ty)
def Ty.shs:Ty→List Sh
 | .lst _=>[.frz]
 | .led=>[.frz,.any]
 | .vtx=>[.any,.any,.frz,.any]
 | .ppl=>[.any,.any,.frz,.any,.frz]
 | .wrl=>[.frz,.frz,.any,.frz,.frz]
 | .evt=>[.any,.any,.any,.any,.any,.frz,.any]
 | .odd=>[.any,.any,.frz,.any,.any]
 | .ob t=>[.bx t]
 | .hr k=>[.mr k]
 | .hp k=>[.mp k]
 | .vtxo k=>[.any,.any,.mr k,.any]
 | .pplm k=>[.any,.any,.frz,.any,.mr k]
 | .pplo k k'=>[.any,.any,.mr k,.any,.mr k']
 | .evto k=>[.any,.any,.any,.any,.any,.mr k,.any]
 | .nod k=>[.any,.any,.frz,.any,.any,.mr k]
 |_=>[]
def zz {α:Type}(x:Nat)(a:α):List (Nat×α)→(List (Nat×α)→Prop)→Prop
 |[],K=>K [(x,a)]
 |(k,b)::l,K=>bif Nat.beq x k then K ((k,a)::l) else zz x a l fun l'=>K ((k,b)::l')
theorem n5 {α:Type}{x:Nat}{a:α}:∀{l:List (Nat×α)} {K:List (Nat×α)→Prop},zz x a l K→K (put x a l)
 |[],K,h=>h
 |(k,b)::l,K,h=>by
  simp only[zz] at h
  simp only[put]
  by_cases e:x=k
  ·subst e
   simp only[Nat.beq_refl,cond_true] at h
   simpa using h
  ·have:Nat.beq x k=false:=by
    cases hb:Nat.beq x k with
    |false=>rfl
    |true=>exact absurd (bY hb) e
   rw[this] at h
   rw[if_neg e]
   exact n5 h
def lO {α:Type}:List (Nat×α)→List (Nat×α)→(List (Nat×α)→Prop)→Prop
 |[],l,K=>K l
 |(x,a)::u,l,K=>zz x a l fun l'=>lO u l' K
theorem gG {α:Type}:∀{u l:List (Nat×α)} {K:List (Nat×α)→Prop},lO u l K→K (puts u l)
 |[],l,K,h=>h
 |(x,a)::u,l,K,h=>gG (u:=u) (n5 (K:=fun l'=>lO u l' K) h)
def AP:V→List Nat
 | .ref b| .ptr b _| .eptr b _ _| .vref b _ _| .aptr b _ _| .mp b=>[b]
 | .fmp k _| .fref k _| .fptr k _ _| .feptr k _ _ _| .faptr k _ _ _| .hro k _| .hpo k _=>[k]
 |_=>[]
mutual
def fd:V→List Nat
 | .agg cs=>eN cs
 | .tup cs=>eN cs
 | .clo _ cs=>eN cs
 | .ifc _ v=>fd v
 |v=>AP v
def eN:List V→List Nat
 |[]=>[]
 |v::l=>fd v++eN l
end
mutual
theorem iK:∀(v:V),∀b∈aA v.toD,b.1∈fd v
 | .agg cs,b,hb=>by simp only[fd];exact dw cs b (by simpa only[V.toD,aA] using hb)
 | .tup cs,b,hb=>by simp only[fd];exact dw cs b (by simpa only[V.toD,aA] using hb)
 | .clo f cs,b,hb=>by simp only[fd];exact dw cs b (by simpa only[V.toD,aA] using hb)
 | .ifc T v,b,hb=>by simp only[fd];exact iK v b (by simpa only[V.toD,aA] using hb)
 | .ref c,b,hb| .ptr c _,b,hb| .eptr c _ _,b,hb| .vref c _ _,b,hb| .aptr c _ _,b,hb| .mp c,b,hb| .fmp c _,b,hb| .fref c _,b,hb| .fptr c _ _,b,hb| .feptr c _ _ _,b,hb| .faptr c _ _ _,b,hb=>by
  simp only[V.toD,aA,bd] at hb;subst hb;simp[fd,AP]
 | .hro k o,b,hb=>by
  cases o with
  |none=>cases hb
  |some i=>simp only[V.toD,jJ,aA,bd] at hb;subst hb;simp[fd,AP]
 | .hpo k o,b,hb=>by
  cases o with
  |none=>cases hb
  |some i=>simp only[V.toD,p8,aA,bd] at hb;subst hb;simp[fd,AP]
 | .obo t o,b,hb=>by cases o<;>cases hb
 | .int ..,b,hb| .bool _,b,hb| .tt,b,hb| .ff,b,hb| .str _,b,hb| .lst ..,b,hb| .box ..,b,hb| .nilp,b,hb| .nils,b,hb| .nilf,b,hb| .nilm,b,hb| .val _,b,hb| .dbox _,b,hb| .nili,b,hb| .gp _,b,hb| .gv _,b,hb| .iptr ..,b,hb| .undef,b,hb| .junk,b,hb=>by cases hb
theorem dw:∀(l:List V),∀b∈bE (aB l),b.1∈eN l
 |[],b,hb=>by cases hb
 |v::l,b,hb=>by
  simp only[aB,bE,cm] at hb
  simp only[eN,cm]
  rcases hb with hb|hb
  ·exact .inl (iK v b hb)
  ·exact .inr (dw l b hb)
end
def E3:V→V
 | .nils=>.lst (.int .i64) []
 |v=>v
theorem Bo (v:V):(E3 v).toD=nz0 v.toD:=by
 cases v
 case hro k o=>cases o<;>rfl
 case hpo k o=>cases o<;>rfl
 case obo t o=>cases o<;>rfl
 all_goals rfl
def ir:List V→List V
 |[]=>[]
 |v::l=>E3 v::ir l
theorem lL:∀l:List V,aB (ir l)=(aB l).map nz0
 |[]=>rfl
 |v::l=>by simp only[ir,aB,bI,Bo,lL l]
def Gf (t:Ty)(cs:List V):V:=bif t.sz==1 then cs.headD .undef else .agg cs
def CE (h:VH)(sh:Sh)(v:V)(K:VH→List Nat→Prop):Prop:=
 match sh,v with
 | .frz,.ref b=>(match a7 h b with
  |some (.row _ t xs)=>Chk t.pure (K [(b,.froz t xs)] [b])
  |_=>K [] [])
 | .mr k,.ref b=>(match a7 h b,a7 h k with
  |some (.row E t xs),some (.frow E' t' xss)=>Chk (Nat.beq E E' && !Nat.beq b k) (match kK t' t xs with
   |some xs'=>K [(b,.moved k xss.length),(k,.frow E' t' (xss++[xs']))] [b,k]
   |none=>False)
  |some (.row E t xs),some (.frowx E' t' xss)=>Chk (Nat.beq E E' && !Nat.beq b k) (match kK t' t xs with
   |some xs'=>K [(b,.moved k xss.length),(k,.frowx E' t' (xss++[some xs']))] [b,k]
   |none=>False)
  |_,_=>K [] [])
 |_,_=>K [] []
theorem xN [PhC P]{h:VH}{sh:Sh}{v:V}{K:VH→List Nat→Prop}(hk:CE h sh v K):∃u vu g,(∀f:List Nat,(∀k∈g,k∈f)→eC P N h u vu f)∧K vu g:=by
 unfold CE at hk
 split at hk
 ·rename_i b
  split at hk
  ·rename_i E t xs hb
   obtain⟨c,hk⟩:=hk.ok
   rw[a8] at hb
   exact⟨_,_,_,fun f hf=>C8 hb c (hf b (by simp)),hk⟩
  ·exact⟨[],[],[],fun f _=>eU,hk⟩
 ·rename_i k b
  split at hk
  ·rename_i E t xs E' t' xss hb hk'
   obtain⟨c,hk⟩:=hk.ok
   simp only[b6,iZ] at c
   obtain⟨c1,c2⟩:=c
   obtain rfl:=bY c1
   have hbk:b≠k:=by rintro rfl;simp at c2
   rw[a8] at hb hk'
   split at hk
   ·rename_i xs' hx
    have hce:=fH hx
    have hpre:∀f:List Nat,(∀g∈[b,k],g∈f)→eC P N h [((b,0),.moved (k,(VB.frow E t' xss).blks.length)),((k,(VB.frow E t' xss).blks.length),.row E (xs.map (aj t)))] [(b,.moved k (VB.frow E t' xss).blks.length),(k,.frow E t' (xss++[xs']))] f:=fun f hf=>
     lN hb rfl rfl hk' (by simp only[VB.blks,jr,bI,dt,hce]) hbk ⟨hf b (by simp),hf k (by simp)⟩
    have e:(VB.frow E t' xss).blks.length=xss.length:=by simp[VB.blks]
    rw[e] at hpre
    exact⟨_,_,_,hpre,hk⟩
   ·exact hk.elim
  ·rename_i E t xs E' t' xss hb hk'
   obtain⟨c,hk⟩:=hk.ok
   simp only[b6,iZ] at c
   obtain⟨c1,c2⟩:=c
   obtain rfl:=bY c1
   have hbk:b≠k:=by rintro rfl;simp at c2
   rw[a8] at hb hk'
   split at hk
   ·rename_i xs' hx
    have hce:=fH hx
    have hpre:∀f:List Nat,(∀g∈[b,k],g∈f)→eC P N h [((b,0),.moved (k,(VB.frowx E t' xss).blks.length)),((k,(VB.frowx E t' xss).blks.length),.row E (xs.map (aj t)))] [(b,.moved k (VB.frowx E t' xss).blks.length),(k,.frowx E t' (xss++[some xs']))] f:=fun f hf=>
     lN hb rfl rfl hk' (by simp only[VB.blks,jr,bI,dt,rowX,hce]) hbk ⟨hf b (by simp),hf k (by simp)⟩
    have e:(VB.frowx E t' xss).blks.length=xss.length:=by simp[VB.blks]
    rw[e] at hpre
    exact⟨_,_,_,hpre,hk⟩
   ·exact hk.elim
  ·exact⟨[],[],[],fun f _=>eU,hk⟩
 ·exact⟨[],[],[],fun f _=>eU,hk⟩
def AC (h:VH):List Sh→List V→(VH→VH→List Nat→Prop)→Prop
 |sh::shs,v::vs,K=>CE h sh v fun vu g=>lO vu h fun h1=>AC h1 shs vs fun h2 vu2 g2=>K h2 (vu++vu2) (g++g2)
 |_,_,K=>K h [] []
theorem tS [PhC P]:∀{shs:List Sh} {vs:List V} {h:VH} {K:VH→VH→List Nat→Prop},AC h shs vs K→∃u vu g,(∀f:List Nat,(∀k∈g,k∈f)→eC P N h u vu f)∧K (puts vu h) vu g
 |[],vs,h,K,hk=>⟨[],[],[],fun f _=>eU,by cases vs<;>exact hk⟩
 |sh::shs,[],h,K,hk=>⟨[],[],[],fun f _=>eU,hk⟩
 |sh::shs,v::vs,h,K,hk=>by
  obtain⟨u1,v1,g1,p1,hk⟩:=xN (P:=P) (N:=N) hk
  have hk:=gG hk
  obtain⟨u2,v2,g2,p2,hk⟩:=tS hk
  refine⟨u1++u2,v1++v2,g1++g2,fun f hf=>jc (p1 f fun k hk=>hf k (dK _ hk)) (p2 f fun k hk=>hf k (dA _ hk)),?_⟩
  rw[bG]
  exact hk
def vg (h:VH)(b:Nat)(T:TypeId)(cs:List V)(t:Ty)(K:VH→VH→List Nat→t.den→List V→Prop):Prop:=
 AC h t.shs cs fun h1 vu1 g1=>(match a7 h1 b with
  |some (.var T' cs')=>Chk (Nat.beq T T') (kN h1 cs' fun cs2=>(match E1 t (Gf t (ir cs2)) with
   |some x=>Chk (lenB (ir cs2) t.sz) (lO [(b,.var T (ir cs2))] h1 fun h2=>K h2 (vu1++[(b,.var T (ir cs2))]) (g1++b::eN cs') x (ir cs2))
   |none=>False))
  |_=>False)
where
 lenB:List V→Nat→Bool
 |[],0=>true
 |_::l,n+1=>lenB l n
 |_,_=>false
theorem xV:∀{l:List V} {n:Nat},vg.lenB l n=true→l.length=n
 |[],0,_=>rfl
 |_::l,n+1,h=>by simp[xV (l:=l) (n:=n) h]
 |[],_+1,h=>by cases h
 |_::_,0,h=>by cases h
theorem zh {t:Ty}{cs:List V}{x:t.den}(hl:cs.length=t.sz)(hd:(Gf t cs).toD=aj t x):aB cs=(aj t x).cells:=by
 unfold Gf at hd
 by_cases hs:t.sz=1
 ·have e:(t.sz==1)=true:=by simp[hs]
  rw[e,cond_true] at hd
  rw[hs] at hl
  match cs,hl with
  |[c],_=>
   simp only[List.headD_cons] at hd
   have h1:=(d8 t x).2
   have hone:(aj t x).one=true:=by
    cases hq:aj t x with
    |agg ds=>
     have hlen:=(d8 t x).1
     rw[hq,hs] at hlen
     cases t<;>simp[Ty.sz] at hs<;>first|(cases hq;done)|(simp[aj] at hq;done)|(cases x<;>simp[aj,jJ,p8] at hq;done)
    |tup ds=>cases t<;>first|(simp[aj] at hq;done)|(cases x<;>simp[aj,jJ,p8] at hq;done)
    |undef=>cases t<;>first|(simp[aj] at hq;done)|(cases x<;>simp[aj,jJ,p8] at hq;done)
    |_=>rfl
   rw[cF hone,←hd]
   rfl
 ·have e:(t.sz==1)=false:=by simp[hs]
  rw[e,cond_false] at hd
  rw[←hd]
  rfl
theorem wv {h:VH}{T:TypeId}{cs cs2:List V}(hf:i5 (toH h) (aB cs)=aB cs2):dq (toH h) (.var T (aB cs))= .var T (aB (ir cs2)):=by
 simp only[dq]
 rw[lL,←hf,d9,eI]
 rfl
theorem vh [PhC P]{h:VH}{b:Nat}{T:TypeId}{cs:List V}{t:Ty}{K:VH→VH→List Nat→t.den→List V→Prop}(hk:vg h b T cs t K):∃u vu g x cs2,(∀f:List Nat,(∀k∈g,k∈f)→eC P N h u vu f)∧look (puts vu h) b=some (.var T cs2)∧aB cs2=(aj t x).cells∧b∈g∧K (puts vu h) vu g x cs2:=by
 unfold vg at hk
 obtain⟨u1,v1,g1,p1,hk⟩:=tS (P:=P) (N:=N) hk
 split at hk
 ·rename_i T' cs' hb
  obtain⟨c,hk1⟩:=hk.ok
  obtain rfl:=bY c
  rw[a8] at hb
  obtain⟨cs2,f1,hk⟩:=gx hk1
  split at hk
  ·rename_i x hx
   obtain⟨c2,hk⟩:=hk.ok
   have hk:=gG hk
   have hlast:=wv (T:=T) f1
   refine⟨u1++[((b,0),dq (toH (puts v1 h)) (.var T (aB cs')))],v1++[(b,.var T (ir cs2))],g1++b::eN cs',x,ir cs2,fun f hf=>jc (p1 f fun k hk=>hf k (dK _ hk)) (uM (y:=.var T (ir cs2)) hb rfl (by rw[hlast];rfl) ⟨hf b (by simp),fun c hc=>hf c.1 ?_⟩),?_,zh (xV c2) (rQ hx),by simp,?_⟩
   ·refine dA _ (bl _ (dw cs' c ?_))
    rw[fl]
    exact hc
   ·rw[bG]
    show look (put b _ _) b=_
    rw[aD];simp
   ·rw[bG];exact hk
  ·exact hk.elim
 ·exact hk.elim
def Ek (h:VH)(sh:Sh)(v:V)(K:VH→List Nat→Prop):Prop:=
 match sh,v with
 | .bx t,.ptr b 0=>(match a7 h b with
  |some (.var T cs)=>Chk t.pure (vg h b T cs t fun _ vu g x _=>K (vu++[(b,.fvb t x)]) g)
  |_=>K [] [])
 | .mp k,.ptr b 0=>(match a7 h b,a7 h k with
  |some (.var T cs),some (.fvar _ t _)=>Chk (!Nat.beq b k) (vg h b T cs t fun h2 vu g x _=>(match a7 h2 k with
   |some (.fvar T' t' xs)=>Chk (Nat.beq T T') (match tw t' t x with
    |some x'=>K (vu++[(b,.moved k xs.length),(k,.fvar T' t' (xs++[x']))]) (k::g)
    |none=>False)
   |_=>False))
  |some (.vari T [] _ t xs []),some (.fvari T' m t' xss)=>Chk (!Nat.beq b k && Nat.beq T T') (match kK t' t xs with
   |some xs'=>K [(b,.moved k xss.length),(k,.fvari T' m t' (xss++[xs']))] [b,k]
   |none=>False)
  |_,_=>K [] [])
 |sh,v=>CE h sh v K
theorem CD [PhC P]{h:VH}{sh:Sh}{v:V}{K:VH→List Nat→Prop}(hk:Ek h sh v K):∃u vu g,(∀f:List Nat,(∀k∈g,k∈f)→eC P N h u vu f)∧K vu g:=by
 unfold Ek at hk
 split at hk
 ·rename_i t b
  split at hk
  ·rename_i T cs hb
   obtain⟨c,hk⟩:=hk.ok
   obtain⟨u,vu,g,x,cs2,p1,p2,p3,p4,hk⟩:=vh (P:=P) (N:=N) hk
   exact⟨_,_,_,fun f hf=>jc (p1 f hf) (C7 p2 p3 c (hf b p4)),hk⟩
  ·exact⟨[],[],[],fun f _=>eU,hk⟩
 ·rename_i k b
  split at hk
  ·rename_i T cs T0 t xs0 hb hk0
   obtain⟨c,hk⟩:=hk.ok
   have hbk:b≠k:=by rintro rfl;simp at c
   obtain⟨u,vu,g,x,cs2,p1,p2,p3,p4,hk⟩:=vh (P:=P) (N:=N) hk
   split at hk
   ·rename_i T' t' xs hk'
    obtain⟨c1,hk⟩:=hk.ok
    obtain rfl:=bY c1
    rw[a8] at hk'
    split at hk
    ·rename_i x' hx
     have hpre:∀f:List Nat,(∀g'∈k::g,g'∈f)→eC P N (puts vu h) [((b,0),.moved (k,(VB.fvar T t' xs).blks.length)),((k,(VB.fvar T t' xs).blks.length),.var T (aB cs2))] [(b,.moved k (VB.fvar T t' xs).blks.length),(k,.fvar T t' (xs++[x']))] f:=fun f hf=>
      lN p2 rfl rfl hk' (by simp only[VB.blks,jr,bI,dt,p3,oA hx]) hbk ⟨hf b (bl _ p4),hf k (by simp)⟩
     have e:(VB.fvar T t' xs).blks.length=xs.length:=by simp[VB.blks]
     rw[e] at hpre
     exact⟨_,_,_,fun f hf=>jc (p1 f fun k hk=>hf k (bl _ hk)) (hpre f hf),hk⟩
    ·exact hk.elim
   ·exact hk.elim
  ·rename_i T m0 t xs T' m t' xss hb hk0
   obtain⟨c,hk⟩:=hk.ok
   simp only[b6] at c
   have hbk:b≠k:=by rintro rfl;simp at c
   obtain rfl:=bY c.2
   rw[a8] at hb hk0
   split at hk
   ·rename_i xs' hx
    have e:(VB.fvari T m t' xss).blks.length=xss.length:=by simp[VB.blks]
    have hpre:∀f:List Nat,(∀g'∈[b,k],g'∈f)→eC P N h [((b,0),.moved (k,(VB.fvari T m t' xss).blks.length)),((k,(VB.fvari T m t' xss).blks.length),.var T (xs'.map (aj t')))] [(b,.moved k (VB.fvari T m t' xss).blks.length),(k,.fvari T m t' (xss++[xs']))] f:=fun f hf=>
     lN hb (by simp only[VB.blks,aB,d5,il,fH hx]) rfl hk0 (by simp only[VB.blks,jr,bI,dt]) hbk ⟨hf b (by simp),hf k (by simp)⟩
    rw[e] at hpre
    exact⟨_,_,_,hpre,hk⟩
   ·exact hk.elim
  ·exact⟨[],[],[],fun f _=>eU,hk⟩
 ·exact xN hk
def xM (h:VH):List Sh→List V→(VH→VH→List Nat→Prop)→Prop
 |sh::shs,v::vs,K=>Ek h sh v fun vu g=>lO vu h fun h1=>xM h1 shs vs fun h2 vu2 g2=>K h2 (vu++vu2) (g++g2)
 |_,_,K=>K h [] []
theorem oM [PhC P]:∀{shs:List Sh} {vs:List V} {h:VH} {K:VH→VH→List Nat→Prop},xM h shs vs K→∃u vu g,(∀f:List Nat,(∀k∈g,k∈f)→eC P N h u vu f)∧K (puts vu h) vu g
 |[],vs,h,K,hk=>⟨[],[],[],fun f _=>eU,by cases vs<;>exact hk⟩
 |sh::shs,[],h,K,hk=>⟨[],[],[],fun f _=>eU,hk⟩
 |sh::shs,v::vs,h,K,hk=>by
  obtain⟨u1,v1,g1,p1,hk⟩:=CD (P:=P) (N:=N) hk
  have hk:=gG hk
  obtain⟨u2,v2,g2,p2,hk⟩:=oM hk
  refine⟨u1++u2,v1++v2,g1++g2,fun f hf=>jc (p1 f fun k hk=>hf k (dK _ hk)) (p2 f fun k hk=>hf k (dA _ hk)),?_⟩
  rw[bG]
  exact hk
end Go.Proofs.Ytbmnihglaokhmaa.Am
namespace Go.Proofs.Ytbmnihglaokhmaa.Am
open Go Go.RowKit
def mB (op:BinOp)(tk:TK)(d e:V)(K:V→Prop):Prop:=
 match d,e with
 | .int k x,.int k' y=>(match decEq k k' with
  |isTrue _=>(match op with
   | .add=>Ari k (x+y) fun z=>K (.int k z)
   | .sub=>Ari k (x-y) fun z=>K (.int k z)
   | .mul=>Ari k (x*y) fun z=>K (.int k z)
   | .quo=>ct (y≠0) (Ari k (x.tdiv y) fun z=>K (.int k z))
   | .rem=>ct (y≠0) (K (.int k (x.tmod y)))
   | .and=>K (.int k (k.wrap (BitVec.ofInt k.bits x &&& BitVec.ofInt k.bits y).toNat))
   | .or=>K (.int k (k.wrap (BitVec.ofInt k.bits x|||BitVec.ofInt k.bits y).toNat))
   | .xor=>K (.int k (k.wrap (BitVec.ofInt k.bits x^^^BitVec.ofInt k.bits y).toNat))
   | .eql=>K (.bool (x==y))
   | .neq=>K (.bool (x !=y))
   | .lss=>K (.bool (decide (x<y)))
   | .leq=>K (.bool (decide (x≤y)))
   | .gtr=>K (.bool (decide (y<x)))
   | .geq=>K (.bool (decide (y≤x)))
   |_=>False)
  |isFalse _=>False)
 | .str x,.str y=>(match op with
  | .add=>ct (x.size+y.size≤9223372036854775807) (K (.str (x++y)))
  | .eql=>K (.bool (x.toList==y.toList))
  | .neq=>K (.bool !(x.toList==y.toList))
  |_=>False)
 | .bool x,.bool y=>(match tk,op with
  | .bool,.eql=>K (.bool (x==y))
  | .bool,.neq=>K (.bool !(x==y))
  |_,_=>False)
 | .bool x,.tt=>(match tk,op with
  | .bool,.eql=>K (.bool x)
  | .bool,.neq=>K (.bool !x)
  |_,_=>False)
 | .bool x,.ff=>(match tk,op with
  | .bool,.eql=>K (.bool !x)
  | .bool,.neq=>K (.bool x)
  |_,_=>False)
 |d,.nils=>slN d fun r=>(match tk,op with
  | .slice _,.eql=>K (.bool r)
  | .slice _,.neq=>K (.bool !r)
  |_,_=>False)
 |d,e=>nilK d e fun r=>(match tk,op with
  | .ptr _,.eql=>K (.bool r)
  | .ptr _,.neq=>K (.bool !r)
  |_,_=>False)
where
 slN (v:V) (K:Bool→Prop):Prop:=match v with
  | .nils=>K true
  | .lst _ (_::_)=>K false
  | .ref _| .vref .. | .fref ..=>K false
  | .hro _ (some _)=>K false
  |_=>False
 isN (v:V) (K:Bool→Prop):Prop:=match v with
  | .nilp=>K true
  | .ptr .. | .eptr .. | .aptr .. | .iptr .. | .box .. | .fptr .. | .feptr .. | .faptr ..=>K false
  | .hpo _ o=>K o.isNone
  | .obo _ o=>K o.isNone
  |_=>False
 nilK (d e:V) (K:Bool→Prop):Prop:=match d,e with
  | .nilp,e=>isN e K
  |d,.nilp=>isN d K
  |_,_=>False
def cX (P:Program)(op:BinOp)(T:TypeId)(d e:D):Option D:=
 match eJ op d e with
 |some r=>some r
 |none=>(match dn P op T d e with
  |some r=>some r
  |none=>dj op T P d e)
theorem sv {v:V}{K:Bool→Prop}(hk:mB.isN v K):∃r,((r=true∧v.toD= .nilp)∨(r=false∧dU v.toD=true∧v.toD≠ .nilp))∧K r:=by
 unfold mB.isN at hk
 split at hk
 ·exact⟨true,.inl ⟨rfl,rfl⟩,hk⟩
 all_goals first|exact hk.elim|exact⟨false,.inr ⟨rfl,rfl,by simp[V.toD]⟩,hk⟩|skip
 ·rename_i k o
  cases o with
  |none=>exact⟨true,.inl ⟨rfl,rfl⟩,hk⟩
  |some i=>exact⟨false,.inr ⟨rfl,rfl,by simp[V.toD,p8]⟩,hk⟩
 ·rename_i t o
  cases o with
  |none=>exact⟨true,.inl ⟨rfl,rfl⟩,hk⟩
  |some i=>exact⟨false,.inr ⟨rfl,rfl,by simp[V.toD,aj]⟩,hk⟩
theorem EP {v:V}{K:Bool→Prop}(hk:mB.slN v K):∃r,qU v.toD=some r∧(∀op,eJ op v.toD .nils=none)∧K r:=by
 unfold mB.slN at hk
 split at hk
 ·exact⟨true,rfl,fun _=>rfl,hk⟩
 ·exact⟨false,rfl,fun _=>rfl,hk⟩
 ·exact⟨false,rfl,fun _=>rfl,hk⟩
 ·exact⟨false,rfl,fun _=>rfl,hk⟩
 ·exact⟨false,rfl,fun _=>rfl,hk⟩
 ·exact⟨false,rfl,fun _=>rfl,hk⟩
 ·exact hk.elim
theorem Bm {d e:V}{K:Bool→Prop}(hk:mB.nilK d e K):∃r,K r:=by
 unfold mB.nilK at hk
 split at hk
 ·obtain⟨r,_,h2⟩:=sv hk;exact⟨r,h2⟩
 ·obtain⟨r,_,h2⟩:=sv hk;exact⟨r,h2⟩
 ·exact hk.elim
theorem x9 {P:Program}{op:BinOp}{T E:TypeId}(hu:P.underlying T=some (.pointer E)){d e:V}{K:Bool→Prop}(hk:mB.nilK d e K):
  ∃r,cX P .eql T d.toD e.toD=some (.bool r)∧cX P .neq T d.toD e.toD=some (.bool !r)∧K r:=by
 unfold mB.nilK at hk
 have key:∀x:D,dU x=true→x≠ .nilp→(∀op,eJ op .nilp x=none∧eJ op x .nilp=none):=by
  intro x hx hn op
  cases x<;>simp[dU] at hx<;>exact⟨rfl,rfl⟩
 split at hk
 ·obtain⟨r,h1,h2⟩:=sv hk
  refine⟨r,?_,?_,h2⟩<;>rcases h1 with⟨rfl,h1⟩|⟨rfl,h1,h3⟩
  ·simp[cX,V.toD,h1,eJ,dn,hu]
  ·simp only[cX,V.toD,(key _ h1 h3 _).1,dn,hu]
   generalize e.toD=x at *
   cases x<;>simp[dU] at h1<;>simp[dU]
  ·simp[cX,V.toD,h1,eJ,dn,hu]
  ·simp only[cX,V.toD,(key _ h1 h3 _).1,dn,hu]
   generalize e.toD=x at *
   cases x<;>simp[dU] at h1<;>simp[dU]
 ·obtain⟨r,h1,h2⟩:=sv hk
  refine⟨r,?_,?_,h2⟩<;>rcases h1 with⟨rfl,h1⟩|⟨rfl,h1,h3⟩
  ·simp[cX,V.toD,h1,eJ,dn,hu]
  ·simp only[cX,V.toD,(key _ h1 h3 _).2,dn,hu]
   generalize d.toD=x at *
   cases x<;>simp[dU] at h1<;>simp[dU]
  ·simp[cX,V.toD,h1,eJ,dn,hu]
  ·simp only[cX,V.toD,(key _ h1 h3 _).2,dn,hu]
   generalize d.toD=x at *
   cases x<;>simp[dU] at h1<;>simp[dU]
 ·exact hk.elim
theorem Ct {P:Program}{op:BinOp}{T:TypeId}{tk:TK}(ht:tk.ok P T){d e:V}{K:V→Prop}(hk:mB op tk d e K):∃r,cX P op T d.toD e.toD=some r.toD∧K r:=by
 unfold mB at hk
 split at hk
 ·rename_i k x k' y
  split at hk
  ·rename_i e' _
   subst e'
   split at hk
   ·exact⟨_,by simp only[cX,V.toD,eJ,if_true],hk.ok⟩
   ·exact⟨_,by simp only[cX,V.toD,eJ,if_true],hk.ok⟩
   ·exact⟨_,by simp only[cX,V.toD,eJ,if_true],hk.ok⟩
   ·exact⟨_,by simp only[cX,V.toD,eJ,if_true,if_neg hk.1],hk.2.ok⟩
   ·exact⟨_,by simp only[cX,V.toD,eJ,if_true,if_neg hk.1],hk.2⟩
   all_goals first|exact hk.elim|exact⟨_,by simp only[cX,V.toD,eJ,if_true],hk⟩
  ·exact hk.elim
 ·split at hk
  ·exact⟨_,by simp only[cX,V.toD,eJ,if_pos hk.1],hk.2⟩
  all_goals first|exact hk.elim|exact⟨_,by simp only[cX,V.toD,eJ],hk⟩
 ·split at hk
  ·have hu:P.underlying T=some .bool:=ht
   exact⟨_,by simp[cX,V.toD,eJ,dn,dj,hu],hk⟩
  ·have hu:P.underlying T=some .bool:=ht
   exact⟨_,by simp[cX,V.toD,eJ,dn,dj,hu],hk⟩
  ·exact hk.elim
 ·rename_i x
  split at hk
  ·have hu:P.underlying T=some .bool:=ht
   exact⟨.bool x,by cases x<;>simp[cX,V.toD,eJ,dn,dj,hu],hk⟩
  ·have hu:P.underlying T=some .bool:=ht
   exact⟨.bool !x,by cases x<;>simp[cX,V.toD,eJ,dn,dj,hu],hk⟩
  ·exact hk.elim
 ·rename_i x
  split at hk
  ·have hu:P.underlying T=some .bool:=ht
   exact⟨.bool !x,by cases x<;>simp[cX,V.toD,eJ,dn,dj,hu],hk⟩
  ·have hu:P.underlying T=some .bool:=ht
   exact⟨.bool x,by cases x<;>simp[cX,V.toD,eJ,dn,dj,hu],hk⟩
  ·exact hk.elim
 ·obtain⟨r,h1,h2,h3⟩:=EP hk
  clear hk
  split at h3
  ·rename_i E
   have hu:P.underlying T=some (.slice E):=ht
   exact⟨.bool r,by simp only[cX,show V.nils.toD=D.nils from rfl,h2,dn,hu,h1,aM,V.toD],h3⟩
  ·rename_i E
   have hu:P.underlying T=some (.slice E):=ht
   exact⟨.bool !r,by simp only[cX,show V.nils.toD=D.nils from rfl,h2,dn,hu,h1,aM,V.toD],h3⟩
  ·exact h3.elim
 ·split at hk
  ·rename_i E
   obtain⟨r,h1,h2,h3⟩:=x9 (op:=.eql) (show P.underlying T=some (.pointer E) from ht) hk
   exact⟨.bool r,h1,h3⟩
  ·rename_i E
   obtain⟨r,h1,h2,h3⟩:=x9 (op:=.eql) (show P.underlying T=some (.pointer E) from ht) hk
   exact⟨.bool !r,h2,h3⟩
  ·exact(Bm hk).elim fun _ h=>h.elim
def Fl (_:BinOp)(_:Bool)(_ _:V)(_:V→Prop):Prop:=False
theorem CK {P:Program}{op:BinOp}{T:TypeId}{cn:Bool}(ht:DG P T=true){d e:V}{K:V→Prop}(hk:Fl op cn d e K):
  ∃r,eJ op d.toD e.toD=none∧dn P op T d.toD e.toD=none∧dj op T P d.toD e.toD=none∧mq P op T cn d.toD e.toD=some r.toD∧K r:=hk.elim
def FD (_:BinOp)(_ _:V)(_:V→Prop):Prop:=False
theorem Dn {P:Program}{op:BinOp}{T:TypeId}(ht:FF P T=true){d e:V}{K:V→Prop}(hk:FD op d e K):
  ∃r:V,eJ op d.toD e.toD=none∧dn P op T d.toD e.toD=none∧dj op T P d.toD e.toD=none∧(∀cn,mq P op T cn d.toD e.toD=none)∧oo P op T d.toD e.toD=some r.toD∧K r:=hk.elim
def Fy (_:Program)(_:TypeId)(_:BinOp)(_:VH)(_ _:Nat)(_ _:Option Nat)(_:V→Prop):Prop:=False
theorem C4 {P:Program}{T:TypeId}{op:BinOp}{h:VH}{k k':Nat}{o o':Option Nat}{K:V→Prop}(hk:Fy P T op h k k' o o' K):
  ∃r:V,eJ op (V.hpo k o).toD (V.hpo k' o').toD=none∧dn P op T (V.hpo k o).toD (V.hpo k' o').toD=none∧dj op T P (V.hpo k o).toD (V.hpo k' o').toD=none∧(∀cn,mq P op T cn (V.hpo k o).toD (V.hpo k' o').toD=none)∧oo P op T (V.hpo k o).toD (V.hpo k' o').toD=none∧my P op T (toH h) (V.hpo k o).toD (V.hpo k' o').toD=some r.toD∧K r:=hk.elim
def Gr (op:UnOp)(d:V)(K:V→Prop):Prop:=
 match d,op with
 | .int k n,.neg=>Ari k (0-n) fun z=>K (.int k z)
 | .bool b,.not=>K (.bool !b)
 | .tt,.not=>K .ff
 | .ff,.not=>K .tt
 |_,_=>False
theorem ES {op:UnOp}{d:V}{K:V→Prop}(hk:Gr op d K):∃r,E0 op d.toD=some r.toD∧K r:=by
 unfold Gr at hk
 split at hk
 ·exact⟨_,by simp only[V.toD,E0],hk.ok⟩
 ·exact⟨_,by simp only[V.toD,E0],hk⟩
 ·exact⟨.ff,rfl,hk⟩
 ·exact⟨.tt,rfl,hk⟩
 ·exact hk.elim
def rz (v:V)(cs:List V):V:=match v with| .agg _=>.agg cs|_=>cs.headD .undef
theorem zS {v:V}{cs:List V}:(rz v cs).toD=cj v.toD (aB cs):=by
 unfold rz cj
 cases v
 case hro k o=>cases o<;>cases cs<;>rfl
 case hpo k o=>cases o<;>cases cs<;>rfl
 case obo t o=>cases o<;>cases cs<;>rfl
 all_goals first|rfl|(cases cs<;>rfl)
def tC (t:Ty)(v:V)(K:t.den→Prop):Prop:=match E1 t v with|some x=>K x|none=>False
theorem kl {t:Ty}{v:V}{K:t.den→Prop}(h:tC t v K):∃x,v.toD=aj t x∧K x:=by
 unfold tC at h
 split at h
 ·rename_i x hx
  exact⟨x,rQ hx,h⟩
 ·exact h.elim
def pg:List V→Nat→Bool
 |[],0=>true
 |_::l,n+1=>pg l n
 |_,_=>false
theorem gy:∀{l:List V} {n:Nat},pg l n=true→l.length=n
 |[],0,_=>rfl
 |_::l,n+1,h=>by simp[gy (l:=l) (n:=n) h]
 |[],_+1,h=>by cases h
 |_::_,0,h=>by cases h
theorem nx {A B m:List D}{o:Nat}(h:o+m.length≤A.length):bk (A++B) o m=bk A o m++B:=by
 unfold bk
 rw[List.take_append_of_le_length (by omega),List.drop_append_of_le_length (by omega)]
 simp[cV]
theorem lU {A B m:List D}{o:Nat}:bk (A++B) (A.length+o) m=A++bk B o m:=by
 unfold bk
 rw[List.take_append,List.drop_append]
 have e1:A.length+o-A.length=o:=by omega
 have e2:A.length+o+m.length-A.length=o+m.length:=by omega
 rw[e1,e2,ii (by omega),List.drop_of_length_le (by omega)]
 simp[cV]
theorem pK {l:List D}{i:Nat}{d:D}(h:i<l.length):bk l i [d]=l.set i d:=by
 unfold bk
 rw[List.set_eq_take_append_cons_drop,if_pos h]
 simp
def sN (ti:TI)(h:VH)(d v:V)(K:V→VH→Prop):Prop:=
 match d with
 | .ptr b o=>dB h b fun x=>(match x with
  | .var T' cs=>Chk (v.whole && pg v.cells ti.sz && v.cells.all V.one) (qx cs o v.cells fun cs'=>K .undef [(b,.var T' cs')])
  | .vari T' pre m t xs post=>Chk (v.whole && pg v.cells ti.sz && v.cells.all V.one) (match Nat.blt o pre.length with
   |true=>qx pre o v.cells fun pre'=>K .undef [(b,.vari T' pre' m t xs post)]
   |false=>ct (xs.length=m∧pre.length+m≤o) (qx post (o-(pre.length+m)) v.cells fun post'=>K .undef [(b,.vari T' pre m t xs post')]))
  |_=>False)
 |_=>False
theorem j9 {P:Program}{h:HL}{T T':TypeId}{b:Id}{o:Nat}{cs:List D}{e:D}(hb:look h b=some (.var T' cs))(hw:e.whole=true)(hs:sizeT P T=some e.cells.length)(hl:o+e.cells.length≤cs.length)(h1:e.cells.all D.one=true):
  fk P h T (.ptr b o) e=some [(b,.var T' (bk cs o e.cells))]:=by
 simp only[fk,hb]
 rw[if_pos ⟨hw,hs,hl,h1⟩]
theorem xt {P:Program}{h:HL}{T E:TypeId}{b:Id}{i o:Nat}{l:List D}{x e:D}(hb:look h b=some (.row E l))(hx:l[i]?=some x)(hw:e.whole=true)(hs:sizeT P T=some e.cells.length)(hl:o+e.cells.length≤x.cells.length)(h1:e.cells.all D.one=true):
  fk P h T (.eptr b i o) e=some [(b,.row E (l.set i (cj x (bk x.cells o e.cells))))]:=by
 simp only[fk,hb,hx]
 rw[if_pos ⟨hw,hs,hl,h1⟩]
theorem xb {P:Program}{T:TypeId}{ti:TI}(ht:ti.ok P T){h:VH}{d v:V}{K:V→VH→Prop}(hk:sN ti h d v K):∃u vu,fk P (toH h) T d.toD v.toD=some u∧cH h u vu∧K .undef vu:=by
 unfold sN at hk
 split at hk
 ·rename_i b o
  obtain⟨z,h1,h3⟩:=bn hk
  split at h3
  ·rename_i T' cs
   obtain⟨hc,h4⟩:=h3.ok
   simp only[b6] at hc
   obtain⟨⟨c1,c2⟩,c3⟩:=hc
   obtain⟨h5,h6⟩:=ia h4
   have hl:=aI (i:=0) h1 (d:=.var T' (aB cs)) rfl
   refine⟨_,_,j9 (o:=o) (e:=v.toD) hl (by rw[fA];exact c1) (by rw[ht.size,bq,aR,gy c2]) (by rw[bq,aR,aR];exact h5) (by rw[bq];exact lh _ c3),?_,h6⟩
   exact eu h1 rfl (by simp only[VB.blks,bq,j3])
  ·rename_i T' pre m t xs post
   obtain⟨hc,h4⟩:=h3.ok
   simp only[b6] at hc
   obtain⟨⟨c1,c2⟩,c3⟩:=hc
   have hl:=aI (i:=0) h1 (d:=.var T' (aB pre++xs.map (aj t)++aB post)) rfl
   split at h4
   ·obtain⟨h5,h6⟩:=ia h4
    refine⟨_,_,j9 (o:=o) (e:=v.toD) hl (by rw[fA];exact c1) (by rw[ht.size,bq,aR,gy c2]) (by rw[bq,aR,ck,ck,aR];omega) (by rw[bq];exact lh _ c3),?_,h6⟩
    refine eu h1 rfl ?_
    simp only[VB.blks]
    have es:bk (aB pre++xs.map (aj t)++aB post) o v.toD.cells=aB (pre.take o++v.cells++pre.drop (o+v.cells.length))++xs.map (aj t)++aB post:=by
     rw[bq,cV (aB pre),nx (by rw[aR,aR];exact h5),j3];simp only[cV]
    rw[es]
   ·obtain⟨⟨n1,n2⟩,h4⟩:=h4
    obtain⟨h5,h6⟩:=ia h4
    refine⟨_,_,j9 (o:=o) (e:=v.toD) hl (by rw[fA];exact c1) (by rw[ht.size,bq,aR,gy c2]) (by rw[bq,aR,ck,ck,aR,aR,bH];omega) (by rw[bq];exact lh _ c3),?_,h6⟩
    refine eu h1 rfl ?_
    simp only[VB.blks]
    have e:o=(aB pre++xs.map (aj t)).length+(o-(pre.length+m)):=by rw[ck,aR,bH];omega
    rw[e,bq,lU,j3]
    have e2:(aB pre++xs.map (aj t)).length+(o-(pre.length+m))-(pre.length+m)=o-(pre.length+m):=by omega
    rw[e2]
  ·exact h3.elim
 ·exact hk.elim
def EQ (h:VH)(d:V)(K:Option (Ty×Nat)→Prop):Prop:=
 match d with
 | .aptr b _ _=>(match a7 h b with|some (.vari _ _ _ t _ _)=>K (some (t,0))|_=>K none)
 | .eptr b _ o=>(match a7 h b with|some (.row _ t _)=>K (some (t,o))|_=>K none)
 | .fptr k _ o=>(match a7 h k with|some (.fvar _ t _)=>K (some (t,o))|_=>K none)
 | .faptr k _ _ _=>(match a7 h k with|some (.fvari _ _ t _)=>K (some (t,0))|_=>K none)
 | .feptr k _ _ o=>(match a7 h k with|some (.frow _ t _)=>K (some (t,o))|_=>K none)
 |_=>K none
theorem Dq {h:VH}{d:V}{K:Option (Ty×Nat)→Prop}(hk:EQ h d K):∃r,K r:=by
 unfold EQ at hk
 split at hk<;>first|exact⟨_,hk⟩|(split at hk<;>exact⟨_,hk⟩)
def yr (ti:TI)(h:VH)(d v:V)(K:V→VH→Prop):Prop:=
 Chk (v.whole && pg v.cells ti.sz && v.cells.all V.one) (match d with
 | .aptr b p i=>dB h b fun x=>(match x with
  | .vari T' pre m t xs post=>Chk (Nat.beq p pre.length && ti.sz==1 && t.sz==1 && v.one) (tC t (E3 v) fun e=>ct (i<xs.length) (K .undef [(b,.vari T' pre m t (xs.set i e) post)]))
  |_=>False)
 | .eptr b i o=>dB h b fun x=>(match x with
  | .row E t xs=>fF xs i fun e=>qx (enc t e).cells o (ir v.cells) fun cs'=>tC t (rz (enc t e) cs') fun e'=>K .undef [(b,.row E t (xs.set i e'))]
  |_=>False)
 | .fptr k i o=>dB h k fun x=>(match x with
  | .fvar T' t xs=>fF xs i fun e=>qx (enc t e).cells o (ir v.cells) fun cs'=>tC t (rz (enc t e) cs') fun e'=>K .undef [(k,.fvar T' t (xs.set i e'))]
  |_=>False)
 | .faptr k i p j=>dB h k fun x=>(match x with
  | .fvari T' m t xss=>Chk (Nat.beq p 0 && ti.sz==1 && t.sz==1 && v.one) (tC t (E3 v) fun e=>fF xss i fun xs=>ct (j<xs.length) (K .undef [(k,.fvari T' m t (xss.set i (xs.set j e)))]))
  |_=>False)
 | .feptr k i j o=>dB h k fun x=>(match x with
  | .frow E t xss=>fF xss i fun xs=>fF xs j fun e=>qx (enc t e).cells o (ir v.cells) fun cs'=>tC t (rz (enc t e) cs') fun e'=>K .undef [(k,.frow E t (xss.set i (xs.set j e')))]
  |_=>False)
 |_=>False)
theorem nq (v:V):(nzE v.toD).cells=aB (ir v.cells):=by rw[fv,bq,lL]
theorem rc (d:D):(nzE d).whole=d.whole:=by cases d<;>rfl
theorem uq (l:List V):(ir l).length=l.length:=by
 have:=congrArg List.length (lL l)
 rwa [aR,bH,aR] at this
theorem Bp {v:V}(h:v.cells.all V.one=true):(nzE v.toD).cells.all D.one=true:=by
 rw[fv,bq]
 have:=lh _ h
 rw[bc] at this⊢
 intro x hx
 obtain⟨y,hy,rfl⟩:=aP.1 hx
 rw[yd]
 exact this y hy
theorem gB {α β:Type}(f:α→β)(l:List α)(i:Nat)(x:α):(l.set i x).map f=(l.map f).set i (f x):=by simp[List.map_set]
theorem rT {t:Ty}{e e':t.den}{o:Nat}{v:V}(h1:o+(ir v.cells).length≤(enc t e).cells.length)(h2:(rz (enc t e) ((enc t e).cells.take o++ir v.cells++(enc t e).cells.drop (o+(ir v.cells).length))).toD=aj t e'):
  cj (aj t e) (bk (aj t e).cells o (nzE v.toD).cells)=aj t e':=by
 rw[←h2,zS,i4,cD,nq,j3]
theorem xd {P:Program}{T:TypeId}{ti:TI}(ht:ti.ok P T){h:VH}{d v:V}{K:V→VH→Prop}(hk:yr ti h d v K):∃u vu,fk P (toH h) T d.toD (nzE v.toD)=some u∧cH h u vu∧K .undef vu:=by
 obtain⟨c0,hk⟩:=Chk.ok hk
 simp only[b6] at c0
 obtain⟨⟨c1,c2⟩,c3⟩:=c0
 have hw:(nzE v.toD).whole=true:=by rw[rc,fA];exact c1
 have hlen:(nzE v.toD).cells.length=ti.sz:=by rw[nq,aR,uq,gy c2]
 have hs:sizeT P T=some (nzE v.toD).cells.length:=by rw[ht.size,hlen]
 have h1:=Bp c3
 have one:v.one=true→(nzE v.toD).cells=[(E3 v).toD]:=by
  intro ho
  have:v.cells=[v]:=by cases v<;>first|rfl|cases ho
  rw[nq,this]
  rfl
 split at hk
 ·rename_i b p i _
  obtain⟨x,hb,hk⟩:=bn hk
  split at hk
  ·rename_i T' pre m t xs post
   obtain⟨c,hk⟩:=hk.ok
   simp only[b6,beq_iff_eq] at c
   obtain⟨⟨⟨d1,d2⟩,d3⟩,d4⟩:=c
   have hp:p=pre.length:=bY d1
   obtain⟨e,he,hi,hk⟩:=kl hk
   have hl:=aI (i:=0) hb (d:=.var T' (aB pre++xs.map (aj t)++aB post)) rfl
   refine⟨_,_,j9 (o:=p+i) (e:=nzE v.toD) hl hw hs (by rw[hlen,d2,ck,ck,aR,bH];omega) h1,?_,hk⟩
   refine eu hb rfl ?_
   simp only[VB.blks]
   have es:bk (aB pre++xs.map (aj t)++aB post) (p+i) (nzE v.toD).cells=aB pre++(xs.set i e).map (aj t)++aB post:=by
    rw[one d4,he,hp,cV (aB pre),show pre.length+i=(aB pre).length+i by rw[aR],lU,nx (by simp;omega),pK (by simpa using hi),gB]
    simp only[cV]
   rw[es]
  ·exact hk.elim
 ·rename_i b i o _
  obtain⟨x,hb,hk⟩:=bn hk
  split at hk
  ·rename_i E t xs
   obtain⟨e,he,hk⟩:=hk
   obtain⟨h5,hk⟩:=ia hk
   obtain⟨e',he',hk⟩:=kl hk
   have hl:=aI (i:=0) hb (d:=.row E (xs.map (aj t))) rfl
   refine⟨_,_,xt (x:=aj t e) (e:=nzE v.toD) hl (by rw[cd,he];rfl) hw hs (by rw[nq,aR,cD,aR];exact h5) h1,?_,hk⟩
   refine eu hb rfl ?_
   simp only[VB.blks]
   rw[rT h5 he',gB]
  ·exact hk.elim
 ·rename_i k i o _
  obtain⟨x,hb,hk⟩:=bn hk
  split at hk
  ·rename_i T' t xs
   obtain⟨e,he,hk⟩:=hk
   obtain⟨h5,hk⟩:=ia hk
   obtain⟨e',he',hk⟩:=kl hk
   have hl:=aI (i:=i) hb (d:=.var T' (aj t e).cells) (by simp only[VB.blks,cd,he,aM])
   refine⟨_,_,j9 (e:=nzE v.toD) hl hw hs (by rw[nq,aR,cD,aR];exact h5) h1,?_,hk⟩
   have hi:=(cz.1 he).1
   refine sU hb ?_ (by simpa[VB.blks] using hi)
   simp only[VB.blks]
   rw[gB]
   have hc:=jh (e:=aj t e) (m:=(nzE v.toD).cells) (o:=o) (by rw[nq,aR,cD,aR];exact h5) (fun y hy=>cF (by rw[bc] at h1;exact h1 y hy))
   rw[rT h5 he'] at hc
   rw[hc]
  ·exact hk.elim
 ·rename_i k i p j _
  obtain⟨x,hb,hk⟩:=bn hk
  split at hk
  ·rename_i T' m t xss
   obtain⟨c,hk1⟩:=hk.ok
   simp only[b6,beq_iff_eq] at c
   obtain⟨⟨⟨d1,d2⟩,d3⟩,d4⟩:=c
   have hp:p=0:=bY d1
   subst hp
   obtain⟨e,he,xs,hx,hj,hk⟩:=kl hk1
   have hl:=aI (i:=i) hb (d:=.var T' (xs.map (aj t))) (by simp only[VB.blks,cd,hx,aM])
   refine⟨_,_,j9 (o:=0+j) (e:=nzE v.toD) hl hw hs (by rw[hlen,d2,bH];omega) h1,?_,hk⟩
   have hi:=(cz.1 hx).1
   refine sU hb ?_ (by simpa[VB.blks] using hi)
   simp only[VB.blks]
   rw[gB,one d4,he,gM,pK (by simpa using hj),gB]
  ·exact hk.elim
 ·rename_i k i j o _
  obtain⟨x,hb,hk⟩:=bn hk
  split at hk
  ·rename_i E t xss
   obtain⟨xs,hx,e,he,hk⟩:=hk
   obtain⟨h5,hk⟩:=ia hk
   obtain⟨e',he',hk⟩:=kl hk
   have hl:=aI (i:=i) hb (d:=.row E (xs.map (aj t))) (by simp only[VB.blks,cd,hx,aM])
   refine⟨_,_,xt (x:=aj t e) (e:=nzE v.toD) hl (by rw[cd,he];rfl) hw hs (by rw[nq,aR,cD,aR];exact h5) h1,?_,hk⟩
   have hi:=(cz.1 hx).1
   refine sU hb ?_ (by simpa[VB.blks] using hi)
   simp only[VB.blks]
   rw[gB,rT h5 he',gB]
  ·exact hk.elim
 ·exact hk.elim

end Go.Proofs.Ytbmnihglaokhmaa.Am
