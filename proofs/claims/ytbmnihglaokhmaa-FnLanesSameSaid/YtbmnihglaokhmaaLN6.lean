/- The plain machine with types: one operation is sound. The plain machine with types: regions. The plain machine with types: control. The plain machine with types: what is no more wanted is forgotten. The plain machine with types: what is no more wanted is forgotten, put together. The plain machine with types: loops, results, contracts. The trace, while others are at work: what each may touch. Workers and their starter: what each does, where each stands. Whose places they are, and what a step leaves of that. What holds of the machine and the trace, whoever stands where. -/
import Derived.Conc.CrowdTrace
import Derived.Conc.CrowdBase
import Derived.Conc.Beside
import Derived.Conc.CrowdStepC2
import Derived.Test.YtbmnihglaokhmaaLN5
set_option linter.unusedSimpArgs false
set_option linter.unusedVariables false
set_option maxHeartbeats 1000000
namespace Go.Proofs.Ytbmnihglaokhmaa.Am
open Go Go.RowKit
variable {P:Program} {N:Nat} {Θ:TT} {t:VT} {h:VH} {n:Nat}
set_option maxHeartbeats 1600000 in
theorem B1 [PhC P](hΘ:Θ.ok P){o:Oper}(hn:∀c:Id,n≤c.1→look (toH h) c=none){K:V→VH→List Nat→Prop}(hk:B0 P Θ o.op t h n K):vD P N o t h K:=by
 obtain⟨dst,op,ty,pos,after,guard⟩:=o
 simp only at hk
 unfold B0 at hk
 split at hk
 ·obtain⟨v,h1,h2⟩:=ce hk
  exact lV (m:=false) (fun n=>by simp only[cQ,h1,aM]) ba (cN rfl _) h2
 ·obtain⟨v,h1,h2⟩:=ce hk
  exact lV (m:=false) (fun n=>by simp only[cQ,h1,aM]) ba (cN rfl _) h2
 ·obtain⟨v,h1,h2⟩:=dW hk
  obtain⟨ti,l1,h2⟩:=aQ h2
  obtain⟨r,h3,h4⟩:=uh (hΘ _ _ l1) h2
  exact lV (m:=false) (fun n=>by simp only[cQ,h1,bp,h3,aM]) ba (eB rfl (by simp[Op.operands])) h4
 ·rename_i T x y
  obtain⟨d,h1,h2⟩:=dW hk
  obtain⟨v,h3,h2⟩:=dW h2
  obtain⟨ti,l1,h2⟩:=aQ h2
  obtain⟨tg,h2⟩:=Dq h2
  split at h2
  ·obtain⟨u,vu,h5,h6,h7⟩:=xb (hΘ _ _ l1) h2
   exact lV (m:=false) (fun n=>by
    simp only[cQ,h1,h3,bp,Bool.not_false,nzM,if_true,h5,aM];rfl) h6 (eB rfl (by simp[Op.operands])) h7
  ·obtain⟨u1,v1,g1,p1,h2⟩:=oM (P:=P) (N:=N) h2
   obtain⟨d,h1,h2⟩:=dW h2
   obtain⟨v,h3,h2⟩:=dW h2
   obtain⟨u,vu,h5,h6,h7⟩:=xd (hΘ _ _ l1) h2
   refine⟨.undef,_,_,vf p1 (fy (step0 (m:=true) (fun n=>?_) h6) (eB rfl (by simp[Op.operands]))),h7⟩
   simp only[cQ,h1,h3,bp,Bool.not_true,nzM,eZ,if_false,h5,aM];rfl
 ·rename_i T x f
  obtain⟨v,h1,h2⟩:=ce hk
  obtain⟨ti,l1,h2⟩:=aQ h2
  have hu:=(hΘ _ _ l1).und
  split at h2
  ·rename_i fs e
   rw[e] at hu
   obtain⟨g,g1,h2⟩:=jb h2
   obtain⟨c,h2⟩:=h2.ok
   simp only[decide_eq_true_eq] at c
   obtain⟨r,h3,h4⟩:=Ei (P:=P) (T:=T) (i:=f) ((hu.1 f g.1 g.2.1 g.2.2 g1).2 c) h2
   exact lV (m:=false) (fun n=>by simp only[cQ,h1,bp,h3,aM]) ba (cN rfl _) h4
  ·exact h2.elim
 ·obtain⟨v,h1,h2⟩:=dW hk
  obtain⟨i,h3,h4⟩:=ce h2
  obtain⟨ti,l1,h4⟩:=aQ h4
  have hu:=(hΘ _ _ l1).und
  split at h4
  ·split at h4
   ·rename_i E e
    rw[e] at hu
    obtain⟨ei,l2,h4⟩:=aQ h4
    exact⟨_,[],_,⟨[],ba,fun f hf=>zl rfl hu (hΘ _ _ l2).size h1 h3 h4.1 (fun j hj=>hf j (by simp only[dg,cm];exact .inl (jX _ j hj)))⟩,h4.2⟩
   ·exact h4.elim
  ·rename_i k j _ _
   obtain⟨r,h5,h6⟩:=Eu hΘ (hΘ _ _ l1) (k:=k) h4
   exact lV (m:=false) (fun n=>by
    have h3':aW (toT t) _=some (.int k j):=h3
    simp only[cQ,h1,h3',bp,h5,aM]) ba (eB rfl (by simp[Op.operands])) h6
  ·exact h4.elim
 ·rename_i op T x y yT
  obtain⟨d,h1,h2⟩:=dW hk
  obtain⟨e,h3,h4⟩:=dW h2
  obtain⟨ti,l1,h4⟩:=aQ h4
  have hu:=(hΘ _ _ l1).und
  have fin:∀{tk:TK},tk.ok P T→mB op tk d e (fun r=>K r [] (dg t h [x,y]))→∃r:V,(∀n,cQ P false (.binOp op T x y yT) (toT t) (toH h) n=some (r.toD,[]))∧K r [] (dg t h [x,y]):=fun hu h4=>by
   obtain⟨r,h5,h6⟩:=Ct (P:=P) hu h4
   refine⟨r,fun n=>?_,h6⟩
   simp only[cQ,h1,h3,bp]
   unfold cX at h5
   split at h5
   ·rename_i r' hr
    rw[hr]
    simp only[aK] at h5
    rw[h5]
   ·rename_i hr
    rw[hr]
    split at h5
    ·rename_i r' hr'
     simp only[aK] at h5
     simp only[hr',h5]
    ·rename_i hr'
     simp only[hr',h5]
  split at h4
  ·rename_i hi
   rw[hi] at hu
   obtain⟨r,h5,h6,h7,h8,h9⟩:=CK (P:=P) hu h4
   refine lV (m:=false) (u:=[]) (fun n=>?_) ba (eB rfl (by simp[Op.operands])) h9
   simp only[cQ,h1,h3,bp,h5,h6,h7,h8]
  ·obtain⟨hm,h4⟩:=h4
   obtain⟨r,h5,h6,h7,h8,h9,h10⟩:=Dn (P:=P) hm h4
   refine lV (m:=false) (u:=[]) (fun n=>?_) ba (eB rfl (by simp[Op.operands])) h10
   simp only[cQ,h1,h3,bp,h5,h6,h7,h8,h9]
  ·rename_i E hi
   rw[hi] at hu
   split at h4
   ·obtain⟨r,h5,h6,h7,h8,h9,h10,h11⟩:=C4 h4
    refine lV (m:=false) (u:=[]) (fun n=>?_) ba (eB rfl (by simp[Op.operands])) h11
    simp only[cQ,h1,h3,bp,h5,h6,h7,h8,h9,h10,aM]
   ·obtain⟨r,h5,h6⟩:=fin hu h4
    exact lV (m:=false) (u:=[]) h5 ba (eB rfl (by simp[Op.operands])) h6
  ·obtain⟨r,h5,h6⟩:=fin hu h4
   exact lV (m:=false) (u:=[]) h5 ba (eB rfl (by simp[Op.operands])) h6
 ·obtain⟨d,h1,h2⟩:=ce hk
  obtain⟨r,h5,h6⟩:=ES h2
  exact lV (m:=false) (fun n=>by simp only[cQ,h1,bp,h5,aM]) ba (cN rfl _) h6
 ·rename_i b args Ts
  split at hk
  ·obtain⟨vs,h1,h2⟩:=ko hk
   split at h2
   ·rename_i d e T T' eT
    split at h2
    ·rename_i c
     have hne:T≠T':=by rintro rfl;simp at c
     obtain⟨ti,l1,h3⟩:=aQ h2
     obtain⟨ti',l1',h3⟩:=aQ h3
     obtain⟨r,u,vu,h5,h6,h7⟩:=tp hΘ (hΘ _ _ l1) (hΘ _ _ l1') hn h3
     refine DO (m:=false) hn ?_ h6 (fun k hk=>?_) h7
     ·simp only[cQ,h1,bp,eT,aB,dp,hne,if_false,h5]
     ·rcases a9.1 hk with rfl|hk
      ·exact bh ..
      ·refine bl _ (eB (l:=args.toList) rfl (by simp[Op.operands,Call.operands]) k hk)
    ·rename_i c
     obtain rfl:=bY c
     obtain⟨ti,l1,h3⟩:=aQ h2
     split at h3
     ·obtain⟨r,u,vu,h5,h6,h7⟩:=ot hΘ (hΘ _ _ l1) hn h3
      refine DO (m:=false) hn ?_ h6 (fun k hk=>?_) h7
      ·simp only[cQ,h1,bp,eT,aB,dp,if_true,h5]
      ·rcases a9.1 hk with rfl|hk
       ·exact bh ..
       ·refine bl _ (eB (l:=args.toList) rfl (by simp[Op.operands,Call.operands]) k hk)
     ·split at h3
      ·obtain⟨ei,l2,h3⟩:=aQ h3
       obtain⟨τ,h3⟩:=A6 h3
       obtain⟨u1,v1,g1,p1,h3⟩:=zN (P:=P) (N:=N) h3
       obtain⟨cl,h3⟩:=h3.ok
       obtain⟨vs,h1,h3⟩:=ko h3
       split at h3
       ·rename_i d e
        have p0:=(p1 g1 fun k hk=>hk).1
        have hn':=qN hn p0 cl
        obtain⟨r,u,vu,h5,h6,h7⟩:=ot hΘ (hΘ _ _ l1) hn' h3
        refine⟨r,_,_,vf p1 (fy (DP (m:=false) hn' ?_ h6) (fun k hk=>?_)),h7⟩
        ·simp only[cQ,h1,bp,eT,aB,dp,if_true,h5]
        ·rcases a9.1 hk with rfl|hk
         ·exact bh ..
         ·refine bl _ (eB (l:=args.toList) rfl (by simp[Op.operands,Call.operands]) k hk)
       ·exact h3.elim
      ·exact h3.elim
   ·exact h2.elim
  ·obtain⟨vs,h1,h2⟩:=ko hk
   obtain⟨r,u,vu,h5,h6,h7⟩:=rL (m:=false) hΘ h2
   exact lV (m:=false) (fun n=>by simp only[cQ,h1,bp,h5]) h6 (eB rfl (by simp[Op.operands,Call.operands])) h7
 ·rename_i f args Ts
  obtain⟨vs,h1,h2⟩:=ko hk
  obtain⟨os,fs,h2⟩:=h2
  obtain⟨r,vu,gl,h3,h4⟩:=ru (N:=N) (o:=⟨dst,.call ⟨.value (.func f),args,Ts⟩,ty,pos,after,guard⟩) hn ⟨args,Ts,.inl ⟨rfl,h1⟩⟩ h2
  refine⟨r,vu,_,fy h3 (fun k hk=>?_),h4⟩
  simpa[Op.operands,Call.operands] using hk
 ·rename_i k args Ts
  obtain⟨c,h1,h2⟩:=dW hk
  split at h2
  ·rename_i f cs
   obtain⟨vs,h3,h2⟩:=ko h2
   obtain⟨os,fs,h2⟩:=h2
   obtain⟨r,vu,gl,h3,h4⟩:=ru (N:=N) (o:=⟨dst,.call ⟨.value (.tmp k),args,Ts⟩,ty,pos,after,guard⟩) hn ⟨args,Ts,.inr ⟨k,aB cs,aB vs,rfl,h1,h3,by simp[ci]⟩⟩ h2
   refine⟨r,vu,_,fy h3 (fun k hk=>?_),h4⟩
   simpa[Op.operands,Call.operands] using hk
  ·exact h2.elim
 ·exact hk.elim
 ·obtain⟨b,h1,h2⟩:=ce hk
  split at h2
  ·obtain⟨r,h3,h4⟩:=ce h2
   have h1':aW (toT t) _=some (.bool true):=h1
   exact lV (m:=false) (fun n=>by simp only[cQ,h1',h3,aM]) ba (cN rfl _) h4
  ·obtain⟨r,h3,h4⟩:=ce h2
   have h1':aW (toT t) _=some (.bool false):=h1
   exact lV (m:=false) (fun n=>by simp only[cQ,h1',h3,aM]) ba (cN rfl _) h4
  ·rename_i b
   cases b with
   |true=>
    obtain⟨r,h3,h4⟩:=ce (h2.1 rfl)
    have h1':aW (toT t) _=some (.bool true):=h1
    exact lV (m:=false) (fun n=>by simp only[cQ,h1',h3,aM]) ba (cN rfl _) h4
   |false=>
    obtain⟨r,h3,h4⟩:=ce (h2.2 rfl)
    have h1':aW (toT t) _=some (.bool false):=h1
    exact lV (m:=false) (fun n=>by simp only[cQ,h1',h3,aM]) ba (cN rfl _) h4
  ·exact h2.elim
 ·obtain⟨ti,l1,h2⟩:=aQ hk
  split at h2
  ·rename_i z hz
   refine DO (m:=false) (u:=[((n,0),.var _ (aB z.cells))]) hn ?_ (fE hn rfl) (fun k hk=>?_) h2
   ·simp only[cQ,(hΘ _ _ l1).zero z hz,aM,bq];rfl
   ·rcases a9.1 hk with rfl|hk
    ·exact bh ..
    ·exact cN rfl _ k hk
  ·exact h2.elim
 ·obtain⟨v,h1,h2⟩:=ce hk
  obtain⟨c,h3⟩:=h2.ok
  refine DO (m:=false) (u:=[((n,0),.var _ (aB v.cells))]) hn ?_ (fE hn rfl) (fun k hk=>?_) h3
  ·simp only[cQ,h1,bp,fA,c,if_true,bq];rfl
  ·rcases a9.1 hk with rfl|hk
   ·exact bh ..
   ·exact cN rfl _ k hk
 ·rename_i T ps
  obtain⟨vs,h1,h2⟩:=xJ hk
  obtain⟨ti,l1,h2⟩:=aQ h2
  have hu:=(hΘ _ _ l1).und
  have hz:=(hΘ _ _ l1).zero
  split at h2
  ·rename_i fs zs e ez
   rw[e] at hu
   obtain⟨cs,h3,h4⟩:=tP h2
   have hz':=hz _ ez
   simp only[V.toD] at hz'
   exact lV (m:=false) (fun n=>by simp only[cQ,h1,bp,oh,hu.2,hz',h3,aM];rfl) ba (cN rfl _) h4
  ·rename_i M E zs e ez
   rw[e] at hu
   obtain⟨ei,l2,h2⟩:=aQ h2
   obtain⟨c,h4⟩:=h2.ok
   have hz':=hz _ ez
   simp only[V.toD] at hz'
   have hv:vs=[]:=List.isEmpty_iff.1 c
   subst hv
   have hpl:kv P T=some []:=by
    have hs:=(hΘ _ _ l2).size
    unfold sizeT at hs
    obtain⟨i,hi,_⟩:=bj.1 hs
    unfold kv
    rw[show P.underlying T=some (.array M E) from hu]
    simp only[hi,aM]
   exact lV (m:=false) (fun n=>by simp only[cQ,h1,bp,oh,hpl,hz',vA,gw,aM];rfl) ba (cN rfl _) h4
  ·exact h2.elim
 ·rename_i T len ps
  obtain⟨vs,h1,h2⟩:=tJ hk
  obtain⟨ti,l1,h2⟩:=aQ h2
  have hu:=(hΘ _ _ l1).und
  split at h2
  ·rename_i E e
   rw[e] at hu
   obtain⟨ei,l2,h2⟩:=aQ h2
   have hei:=hΘ _ _ l2
   obtain⟨c,h2⟩:=h2.ok
   simp only[b6,decide_eq_true_eq] at c
   obtain⟨⟨⟨⟨c1,c2⟩,c3⟩,c4⟩,c5⟩:=c
   obtain⟨r,u,vu,h5,h6,h7⟩:=vS (show P.underlying T=some (.slice E) from hu) (hei.elem c1 c2) c3 c4 c5 hn h2
   refine DO (m:=false) hn (by simp only[cQ,h1,bp,h5]) h6 (fun k hk=>?_) h7
   rcases a9.1 hk with rfl|hk
   ·exact bh ..
   ·exact bl _ (eB rfl (by simp[Op.operands]) k hk)
  ·exact h2.elim
 ·obtain⟨v,h1,h2⟩:=ce hk
  obtain⟨r,h3,h4,h5⟩:=C9 h2
  exact lV (m:=false) (fun n=>by simp only[cQ,h1,bp,h3,if_true,h4]) ba (cN rfl _) h5
 ·obtain⟨v,h1,h2⟩:=dW hk
  obtain⟨ti,l1,h2⟩:=aQ h2
  obtain⟨si,l2,h2⟩:=aQ h2
  obtain⟨r,h3,h4⟩:=Ag hΘ (hΘ _ _ l1) (hΘ _ _ l2) h2
  exact lV (m:=false) (fun n=>by simp only[cQ,h1,bp,h3,aM]) ba (eB rfl (by simp[Op.operands])) h4
 ·obtain⟨v,h1,h2⟩:=ce hk
  obtain⟨ti,l1,h2⟩:=aQ h2
  obtain⟨c,h2⟩:=h2.ok
  exact lV (m:=false) (fun n=>by simp only[cQ,h1,bp,u7 (hΘ _ _ l1).und c,if_true];rfl) ba (cN rfl _) h2
 ·rename_i f first captured
  obtain⟨c,h2⟩:=hk.ok
  obtain⟨vs,h1,h2⟩:=xI h2
  exact lV (m:=false) (fun n=>by simp only[cQ,bY c,if_true,h1,aM];rfl) ba (cN rfl _) h2
 ·obtain⟨v,h1,h2⟩:=ce hk
  obtain⟨ti,l1,h2⟩:=aQ h2
  obtain⟨r,h3,h4⟩:=vK (hΘ _ _ l1) h2
  exact lV (m:=false) (fun n=>by simp only[cQ,h1,bp,h3,aM]) ba (cN rfl _) h4
 ·obtain⟨a,h1,h2⟩:=ce hk
  obtain⟨b,h3,h4⟩:=ce h2
  obtain⟨ti,l1,h4⟩:=aQ h4
  have hu:=(hΘ _ _ l1).und
  split at h4
  ·rename_i E k1 a k2 b e _
   rw[e] at hu
   obtain⟨ei,l2,h4⟩:=aQ h4
   have hei:=hΘ _ _ l2
   split at h4
   ·rename_i z τ hz hτ
    obtain⟨c,h4⟩:=h4.ok
    simp only[b6,beq_iff_eq,decide_eq_true_eq] at c
    obtain⟨⟨c1,c2⟩,c3⟩:=c
    obtain⟨x,hx,h5⟩:=EE h4
    obtain⟨h6,h7,h8⟩:=h5
    refine DO (m:=false) (u:=[((n,0),.row E ((List.replicate a.toNat x).map (aj τ)))]) hn ?_ (fE hn rfl) (fun k hk=>?_) h8
    ·have h1':aW (toT t) _=some (.int k1 a):=h1
     have h3':aW (toT t) _=some (.int k2 b):=h3
     simp only[cQ,h1',h3',bp,te,show P.underlying _=some (.slice E) from hu,hei.elem (by rw[hz];rfl) c1,hei.zero z hz]
     rw[if_pos]
     ·simp only[nzM,eZ,if_false,hx,List.map_replicate];rfl
     ·refine⟨h6.1,h6.2,h7,?_⟩
      simp only[FH,b6,beq_iff_eq]
      refine⟨?_,by rw[bq];exact iC _ c3⟩
      have h9:=congrArg (fun d:D=>d.cells.length) hx
      simp only[fv,bH,(d8 τ x).1] at h9
      omega
    ·rcases a9.1 hk with rfl|hk
     ·exact bh ..
     ·exact cN rfl _ k hk
   ·rename_i z hz hτ
    obtain⟨c,h4⟩:=h4.ok
    simp only[b6,beq_iff_eq,decide_eq_true_eq] at c
    obtain⟨⟨c1,c2⟩,c3⟩:=c
    obtain⟨h6,h7,h8⟩:=h4
    refine DO (m:=true) (u:=[((n,0),.row E (aB (List.replicate a.toNat z)))]) hn ?_ (fE hn rfl) (fun k hk=>?_) h8
    ·have h1':aW (toT t) _=some (.int k1 a):=h1
     have h3':aW (toT t) _=some (.int k2 b):=h3
     simp only[cQ,h1',h3',bp,te,show P.underlying _=some (.slice E) from hu,hei.elem (by rw[hz];rfl) c1,hei.zero z hz]
     rw[if_pos]
     ·simp only[nzM,if_true,ci,List.map_replicate];rfl
     ·refine⟨h6.1,h6.2,h7,?_⟩
      simp only[FH,b6,beq_iff_eq]
      refine⟨?_,by rw[bq];exact iC _ c3⟩
      rw[bq,aR]
      exact c2
    ·rcases a9.1 hk with rfl|hk
     ·exact bh ..
     ·exact cN rfl _ k hk
   ·exact h4.elim
  ·exact h4.elim
 ·rename_i T x lo hi
  obtain⟨v,h1,h2⟩:=dW hk
  obtain⟨lo',h3,h4⟩:=tK h2
  obtain⟨hi',h5,h6⟩:=tK h4
  obtain⟨ti,l1,h6⟩:=aQ h6
  obtain⟨q,r,u,vu,h7,h8,h9⟩:=zK hΘ (hΘ _ _ l1) hn h6
  cases q with
  |true=>
   exact DO (m:=true) hn (by simp only[cQ,h1,h3,h5,bp,h7]) h8 (fun k hk=>hk) h9
  |false=>
   exact lV (m:=false) (fun n'=>by
    simp only[cQ,h1,h3,h5,bp]
    rw[zY rfl (m':=(n,0))]
    exact h7) h8 (fun k hk=>hk) h9
 ·rename_i T x f
  obtain⟨v,h1,h2⟩:=ce hk
  obtain⟨ti,l1,h2⟩:=aQ h2
  have hu:=(hΘ _ _ l1).und
  split at h2
  ·rename_i fs cs e _
   rw[e] at hu
   obtain⟨g,g1,h2⟩:=jb h2
   obtain⟨gi,l2,h2⟩:=aQ h2
   obtain⟨r,h3,h4⟩:=cy (hΘ _ _ l2) h2
   exact lV (m:=false) (fun n=>by
    have h1':aW (toT t) _=some (.agg (aB cs)):=h1
    simp only[cQ,h1',bp,xr,(hu.1 f g.1 g.2.1 g.2.2 g1).1,h3,aM]) ba (cN rfl _) h4
  ·exact h2.elim
 ·obtain⟨v,h1,h2⟩:=ce hk
  obtain⟨i,h3,h4⟩:=ce h2
  obtain⟨ti,l1,h4⟩:=aQ h4
  have hu:=(hΘ _ _ l1).und
  split at h4
  ·rename_i s k i e _
   rw[e] at hu
   refine lV (m:=false) (u:=[]) (fun n=>?_) ba (cN rfl _) h4.2
   have h1':aW (toT t) _=some (.str s):=h1
   have h3':aW (toT t) _=some (.int k i):=h3
   simp only[cQ,h1',h3',bp,ol,show P.underlying _=some .string from hu]
   rw[if_pos h4.1]
   rfl
  ·rename_i m E cs k i e _
   rw[e] at hu
   obtain⟨ei,l2,h4⟩:=aQ h4
   obtain⟨r,h5,h6⟩:=cy (hΘ _ _ l2) h4.2
   refine lV (m:=false) (u:=[]) (fun n=>?_) ba (cN rfl _) h6
   have h1':aW (toT t) _=some (.agg (aB cs)):=h1
   have h3':aW (toT t) _=some (.int k i):=h3
   simp only[cQ,h1',h3',bp,ol,show P.underlying _=some (.array m E) from hu,(hΘ _ _ l2).size]
   rw[if_pos h4.1,h5]
   rfl
  ·exact h4.elim
 ·obtain⟨v,h1,h2⟩:=ce hk
  split at h2
  ·rename_i cs
   obtain⟨r,h3,h4⟩:=jb h2
   exact lV (m:=false) (fun n=>by
    have h1':aW (toT t) _=some (.tup (aB cs)):=h1
    simp only[cQ,h1',bp,iB,ci,cd,h3,aM]) ba (cN rfl _) h4
  ·exact h2.elim
 ·exact⟨.mp n,[(n,.map [])],[n],⟨_,fE hn (y:=.map []) rfl,fun f hf=>Bz (ux rfl (hn (n,0) (aN _))) fun k hk=>hf k hk⟩,hk⟩
 ·rename_i T m k v
  obtain⟨c,hk⟩:=hk
  obtain⟨d,h1,hk⟩:=dW hk
  obtain⟨kk,h2,hk⟩:=ce hk
  obtain⟨vv,h3,hk⟩:=ce hk
  split at hk
  ·rename_i b a c' _ _
   obtain⟨x,h4,hk⟩:=bn hk
   split at hk
   ·rename_i l
    exact⟨.undef,_,_,⟨_,eu h4 rfl (y:=.map (dY l a c')) rfl,fun f hf=>qn rfl c h1 h2 h3 (aI h4 rfl) (fun j hj=>hf j (bl _ (jX _ j hj))) (hf b (bh ..))⟩,hk⟩
   ·exact hk.elim
  ·exact hk.elim
 ·rename_i T m
  obtain⟨c,hk⟩:=hk
  obtain⟨d,h1,hk⟩:=dW hk
  obtain⟨k,i,l,h2,h3,hk⟩:=Be hk
  rw[h2] at h1
  exact⟨.ptr n 0,_,_,⟨_,fE hn (y:=.it k i l.length (List.range l.length) none) rfl,fun f hf=>zn rfl c h1 h3 (hn (n,0) (aN _)) (fun j hj=>hf j (bl _ (bl _ (jX _ j hj)))) (hf k (by simp)) (hf n (bh ..))⟩,hk⟩
 ·rename_i x
  obtain⟨d,h1,hk⟩:=dW hk
  split at hk
  ·rename_i b
   obtain⟨y,h2,hk⟩:=bn hk
   split at hk
   ·rename_i k i m left c
    obtain⟨l,h3,hk⟩:=oX hk
    obtain⟨h4,p,h5,hk⟩:=hk
    exact⟨.tup [.int .i64 p.1,.int .i64 p.2],[],_,⟨[],ba,fun f hf=>zk rfl h1 (aI h2 rfl) h3 h4 h5 (fun j hj=>hf j (bl _ (bl _ (jX _ j hj)))) (hf b (bh ..)) (hf k (by simp))⟩,hk⟩
   ·exact hk.elim
  ·exact hk.elim
 ·exact hk.elim
end Go.Proofs.Ytbmnihglaokhmaa.Am
namespace Go.Proofs.Ytbmnihglaokhmaa.Am
open Go Go.RowKit Go.Conc
variable {P:Program} {N:Nat}
def rR (a b:List Nat):Bool:=a.all fun x=>!b.contains x
abbrev qA:=List (Nat×List Nat×List Nat)
def li (dep:List Nat)(fws:qA)(f ws:List Nat):Bool:=
 fws.all fun x=>(rR x.2.2 f && rR x.2.2 ws && rR ws x.2.1)||dep.contains x.1
def Ac (fws:qA)(f ws:List Nat):Bool:=fws.all fun x=>rR x.2.2 f && rR x.2.2 ws && rR ws x.2.1
theorem Ad {dep:List Nat}{fws:qA}{f ws:List Nat}(h:Ac fws f ws=true):li dep fws f ws=true:=by
 unfold Ac at h
 unfold li
 rw[bc] at h⊢
 intro x hx
 rw[h x hx]
 rfl
theorem Ae {dep:List Nat}{fws:qA}:li dep fws [] []=true:=by
 unfold li
 rw[bc]
 intro x hx
 simp[rR]
def xy (dep:Unit→List Nat)(fws:qA)(f ws:List Nat)(K:Prop):Prop:=
 match Ac fws f ws with
 |true=>K
 |false=>Mk (li (dep ()) fws f ws) K
theorem tA {dep:Unit→List Nat}{fws:qA}{f ws:List Nat}{K:Prop}(h:xy dep fws f ws K):li (dep ()) fws f ws=true∧K:=by
 unfold xy at h
 split at h
 ·rename_i e;exact⟨Ad e,h⟩
 ·exact h
def oE (N:Nat)(dst:Option Tmp):Bool:=match dst with|some d=>Nat.blt d N|none=>true
def uQ (dst:Option Nat)(v:V)(t:VT):VT:=match dst with|some k=>(k,v)::t|none=>t
theorem n6 (dst:Option Nat)(v:V)(t:VT):toT (uQ dst v t)=eA dst v.toD (toT t):=by cases dst<;>rfl
def D8 (n:Nat):VH→Nat
 |[]=>0
 |(x,_)::u=>bif Nat.ble n x then D8 n u+1 else D8 n u
def BE (dst:Option Nat)(v:V)(t:VT)(K:VT→Prop):Prop:=match dst with|some k=>K ((k,v)::t)|none=>K t
theorem uR {dst:Option Nat}{v:V}{t:VT}{K:VT→Prop}(h:BE dst v t K):K (uQ dst v t):=by cases dst<;>exact h
theorem zZ {l:List Nat}{b x:Nat}:x∈DX l b↔x∈l∨x=b:=by
 unfold DX
 split
 ·rename_i h
  refine⟨.inl,fun h'=>h'.elim id fun e=>?_⟩
  subst e
  simpa using h
 ·simp
theorem qB:∀{bs l:List Nat} {x:Nat},x∈fb l bs↔x∈l∨x∈bs
 |[],l,x=>by simp[fb]
 |b::bs,l,x=>by
  simp only[fb,qB,zZ,a9]
  exact or_assoc
def gP (y x:VB)(A B:Prop):Prop:=(y=x∧A)∨B
def pG (h:VH):VH→(VH→List Nat→Prop)→Prop
 |[],K=>K [] []
 |(k,x)::u,K=>match a7 h k with
  |some y=>gP y x (pG h u fun r ds=>K r (k::ds)) (pG h u fun r ds=>K ((k,x)::r) ds)
  |none=>pG h u fun r ds=>K ((k,x)::r) ds
def wZ (h u:VH)(K:VH→List Nat→Prop):Prop:=match jS (keysV u) with
 |true=>pG h u K
 |false=>K u []
structure SameOK (h u u':VH)(ds:List Nat):Prop where
 sub:∀k∈keysV u',k∈keysV u
 out:∀k∈ds,k∉keysV u'
 rest:∀k∈keysV u,k∉ds→k∈keysV u'
 new:∀g:VH,∀k,k∉ds→look (puts u' g) k=look (puts u g) k
 old:∀g:VH,∀k∈ds,look (puts u g) k=look h k
theorem rp (h u:VH):SameOK h u u []:=⟨fun _ h=>h,(by simp),fun _ h _=>h,fun _ _ _=>rfl,(by simp)⟩
theorem dG (k:Nat)(x:VB)(u:VH):keysV ((k,x)::u)=k::keysV u:=rfl
theorem ud {u:VH}{k:Nat}(h:k∉keysV u):∀x∈u,x.1≠k:=fun x hx e=>h (by rw[←fJ];exact aP.2 ⟨x,hx,e⟩)
theorem pH {h:VH}:∀{u:VH} {K:VH→List Nat→Prop},(keysV u).Nodup→pG h u K→∃u' ds,SameOK h u u' ds∧(∀k∈ds,k∈keysV u)∧K u' ds
 |[],K,_,hk=>⟨[],[],rp h [],by simp,hk⟩
 |(k,x)::u,K,hn,hk=>by
  rw[dG,List.nodup_cons] at hn
  have keep:(pG h u fun r ds=>K ((k,x)::r) ds)→∃u' ds,SameOK h ((k,x)::u) u' ds∧(∀j∈ds,j∈keysV ((k,x)::u))∧K u' ds:=by
   intro hk
   obtain⟨u',ds,s,hd,hk⟩:=pH hn.2 hk
   refine⟨_,ds,⟨fun j hj=>?_,fun j hj hc=>?_,fun j hj hne=>?_,fun g j hj=>s.new _ j hj,fun g j hj=>s.old _ j hj⟩,fun j hj=>by rw[dG];exact bl _ (hd j hj),hk⟩
   ·rw[dG] at hj⊢
    rcases a9.1 hj with e|hj
    ·rw[e];exact bh ..
    ·exact bl _ (s.sub j hj)
   ·rw[dG] at hc
    rcases a9.1 hc with e|hc
    ·exact hn.1 (e▸hd j hj)
    ·exact s.out j hj hc
   ·rw[dG] at hj⊢
    rcases a9.1 hj with e|hj
    ·rw[e];exact bh ..
    ·exact bl _ (s.rest j hj hne)
  simp only[pG] at hk
  split at hk
  ·rename_i y hy
   rw[a8] at hy
   rcases hk with⟨e,hk⟩|hk
   ·subst e
    obtain⟨u',ds,s,hd,hk⟩:=pH hn.2 hk
    refine⟨u',k::ds,⟨fun j hj=>by rw[dG];exact bl _ (s.sub j hj),fun j hj hc=>?_,fun j hj hne=>?_,fun g j hj=>?_,fun g j hj=>?_⟩,fun j hj=>?_,hk⟩
    ·rcases a9.1 hj with e|hj
     ·exact hn.1 (e▸s.sub j hc)
     ·exact s.out j hj hc
    ·rw[dG] at hj
     rcases a9.1 hj with e|hj
     ·exact absurd (e▸bh ..) hne
     ·exact s.rest j hj fun h=>hne (bl _ h)
    ·have hjk:j≠k:=fun e=>hj (e▸bh ..)
     show _=look (puts u (put k y g)) j
     rw[s.new g j fun h=>hj (bl _ h)]
     exact mQ u j (by rw[aD,if_neg hjk])
    ·show look (puts u (put k y g)) j=_
     rcases a9.1 hj with e|hj
     ·subst e
      rw[aS _ _ _ (ud hn.1),aD,if_pos rfl,hy]
     ·exact s.old _ j hj
    ·rw[dG]
     rcases a9.1 hj with e|hj
     ·rw[e];exact bh ..
     ·exact bl _ (hd j hj)
   ·exact keep hk
  ·exact keep hk
theorem zI {h u:VH}{K:VH→List Nat→Prop}(hk:wZ h u K):∃u' ds,SameOK h u u' ds∧K u' ds:=by
 unfold wZ at hk
 split at hk
 ·rename_i e
  obtain⟨u',ds,s,_,hk⟩:=pH (iO e) hk
  exact⟨u',ds,s,hk⟩
 ·exact⟨u,[],rp h u,hk⟩
theorem ui {u:HL}{p:Id→Bool}:∀{g:HL} {b:Id},p b=true→look (puts (u.filter fun x=>p x.1) g) b=look (puts u g) b:=by
 induction u with
 |nil=>intro g b _;rfl
 |cons x u ih=>
  intro g b hp
  by_cases hx:p x.1=true
  ·rw[List.filter_cons_of_pos (by exact hx)]
   exact ih hp
  ·rw[List.filter_cons_of_neg (by exact hx),ih hp]
   have hne:b≠x.1:=fun e=>hx (e▸hp)
   exact bQ (u:=u) (by rw[aD,if_neg hne])
theorem StepOK.same [PhC P]{o:Oper}{t:VT}{h u u':VH}{r:V}{gl ds:List Nat}(hs:StepOK P N o t h r u gl)(s:SameOK h u u' ds):StepOK P N o t h r u' (gl++ds):=by
 obtain⟨uu,hU,hS⟩:=hs
 have hin:∀b:Id,b.1∈ds→look (toH (puts u h)) b=look (toH h) b:=fun b hb=>by rw[az,az,s.old h b.1 hb]
 have hout:∀(g:HL) (b:Id),b.1∈ds→look (puts (uu.filter fun x=>!ds.contains x.1.1) g) b=look g b:=fun g b hb=>aS _ _ _ fun x hx e=>by
  have:=(kP.1 hx).2
  rw[e] at this
  simp[hb] at this
 have hnew:∀(g:HL) (b:Id),b.1∉ds→look (puts (uu.filter fun x=>!ds.contains x.1.1) g) b=look (puts uu g) b:=fun g b hb=>ui (p:=fun b=>!ds.contains b.1) (by simp[hb])
 refine⟨uu.filter fun x=>!ds.contains x.1.1,⟨fun b=>?_,fun x hx=>?_⟩,fun f hf=>?_⟩
 ·by_cases hb:b.1∈ds
  ·rw[hout _ b hb,az,az,aS _ _ _ (ud (s.out _ hb))]
  ·rw[hnew _ b hb,hU.1 b,az,az,s.new h b.1 hb]
 ·obtain⟨h1,h2⟩:=kP.1 hx
  have h3:=hU.2 x h1
  rw[fJ] at h3⊢
  exact s.rest _ h3 (by simpa using h2)
 ·obtain⟨nn,hS⟩:=hS f (fun k hk=>hf k (dK _ hk))
  refine⟨nn,fun t' h' ht ha main dfs γ ρ a w hsim=>?_⟩
  have hw:=hS t' h' ht ha main dfs γ ρ a w hsim
  refine hw.mono (aN _) ?_
  rintro γ' a' w' ⟨v,ρ',rfl,hex,q1,q2⟩
  have he:∀b:Id,look (puts (uu.filter fun x=>!ds.contains x.1.1) h') b=look (puts uu h') b:=by
   intro b
   by_cases hb:b.1∈ds
   ·have e1:look (toH h) b=look h' b:=ha b (hf _ (dA _ hb))
    rw[hout _ b hb,←e1,←hin b hb,←hU.1 b]
    exact bQ e1
   ·exact hnew _ b hb
  have hL:Live (puts (uu.filter fun x=>!ds.contains x.1.1) h')=Live (puts uu h'):=funext fun b=>by simp only[Live,he]
  have hO:okOf (γ'.At w') ρ' (puts (uu.filter fun x=>!ds.contains x.1.1) h') w'=okOf (γ'.At w') ρ' (puts uu h') w':=funext fun k=>by simp only[okOf,he]
  refine⟨v,ρ',rfl,hex,Sim.congr q1 (fun _=>rfl) he,?_⟩
  rw[hL,hO]
  exact q2
def xk (P:Program)[PhC P](Θ:TT)(dep:Nat→List Nat)(chk:Bool)(N:Nat)(o:Oper)(k:Nat)(fws:qA)(t:VT)(h:VH)(n:Nat)(K:qA→VSt→Prop):Prop:=
 Chk (oE N o.dst) (B0 P Θ o.op t h n fun d u gl=>BE o.dst d t fun t'=>match u with
  |[]=>(match chk with
   |false=>K fws ⟨t',h,n⟩
   |true=>eR (fb [] gl) fun f=>(match f with
    |[]=>K fws ⟨t',h,n⟩
    |f=>xy (fun _=>dep k) fws f [] (K ((k,f,[])::fws) ⟨t',h,n⟩)))
  |u=>eQ (n+D8 n u) fun n'=>match chk with
   |false=>Chk (ze n' u) (lO u h fun h'=>K fws ⟨t',h',n'⟩)
   |true=>wZ h u fun u ds=>Chk (ze n' u) (lO u h fun h'=>eR (fb [] (gl++ds)) fun f=>eR (keysV u) fun ws=>xy (fun _=>dep k) fws f ws (K ((k,f,ws)::fws) ⟨t',h',n'⟩)))
def ry (N:Nat)(o:Oper)(t:VT)(h:VH)(n:Nat)(K:VSt→Prop):Prop:=Chk (oE N o.dst) (BE o.dst (.tup []) t fun t'=>K ⟨t',h,n⟩)
def jy (P:Program)[PhC P](Θ:TT)(ops:Array Oper)(dep:Nat→List Nat)(chk:Bool)(N:Nat):List Oper→Nat→qA→VSt→(VSt→Prop)→Prop
 |[],_,_,σ,K=>K σ
 |o::l,k,fws,⟨t,h,n⟩,K=>match o.guard with
  |none=>xk P Θ dep chk N o k fws t h n fun fws' σ'=>jy P Θ ops dep chk N l (k+1) fws' σ' K
  |some (g,want)=>(match(ops[g]?).bind (·.dst) with
   |some s=>bK t s fun v=>(match v with
    | .tt=>(match want with
      |true=>xk P Θ dep chk N o k fws t h n fun fws' σ'=>jy P Θ ops dep chk N l (k+1) fws' σ' K
      |false=>ry N o t h n fun σ'=>jy P Θ ops dep chk N l (k+1) fws σ' K)
    | .ff=>(match want with
      |false=>xk P Θ dep chk N o k fws t h n fun fws' σ'=>jy P Θ ops dep chk N l (k+1) fws' σ' K
      |true=>ry N o t h n fun σ'=>jy P Θ ops dep chk N l (k+1) fws σ' K)
    | .bool b=>j7 b
     (match want with
      |true=>xk P Θ dep chk N o k fws ((s,.tt)::t) h n fun fws' σ'=>jy P Θ ops dep chk N l (k+1) fws' σ' K
      |false=>ry N o ((s,.tt)::t) h n fun σ'=>jy P Θ ops dep chk N l (k+1) fws σ' K)
     (match want with
      |false=>xk P Θ dep chk N o k fws ((s,.ff)::t) h n fun fws' σ'=>jy P Θ ops dep chk N l (k+1) fws' σ' K
      |true=>ry N o ((s,.ff)::t) h n fun σ'=>jy P Θ ops dep chk N l (k+1) fws σ' K)
    | .tup []=>ry N o t h n fun σ'=>jy P Θ ops dep chk N l (k+1) fws σ' K
    |_=>False)
   |none=>False)
theorem OpS.congr [PhC P]{o:Oper}{t t':List (Nat×D)}{h h':HL}{d:D}{u:HL}{f:List Nat}(ht:∀x,look t x=look t' x)(hh:∀b,look h b=look h' b)(hd:OpS P N o t h d u f):OpS P N o t' h' d u f:=
 let ⟨n,hd⟩:=hd
 ⟨n,fun t2 h2 e1 e2=>hd t2 h2 (fun x hx=>(oI fun k _=>ht k).trans (e1 x hx)) fun b hb=>(hh b).trans (e2 b hb)⟩
theorem TRun.congr [PhC P]{ops:Array Oper}:∀{L:List (Oper×Rc)} {t t':List (Nat×D)} {h h':HL} {n:Nat},(∀x,look t x=look t' x)→(∀b,look h b=look h' b)→TRun P ops N t h n L→TRun P ops N t' h' n L
 |[],_,_,_,_,_,_,_,_=>trivial
 |(o,r)::L,t,t',h,h',n,he,hh,⟨h1,h2,h3⟩=>by
  refine⟨h1,?_,TRun.congr (fun x=>?_) (fun b=>bQ (hh b)) h3⟩
  ·have hg:cJ ops t o=cJ ops t' o:=lr fun k _=>he k
   rcases h2 with⟨g1,g2⟩|⟨g1,g2⟩
   ·exact .inl ⟨hg▸g1,g2.congr he hh⟩
   ·exact .inr ⟨hg▸g1,g2⟩
  ·rw[cE,cE,he x]
def E6 (k:Nat)(pre:List (Oper×Rc))(fws:qA):Prop:=
 pre.length=k∧∀i o r,pre[i]?=some (o,r)→(r.u≠[]∨r.f≠[])→∃f ws,(i,f,ws)∈fws∧(∀x∈r.u,x.1.1∈ws)∧∀x∈r.f,x∈f
theorem m9:∀(k k':Nat) (l:List (Oper×Rc)) (t:List (Nat×D)),ib (fun _=>true) k l t=ib (fun _=>true) k' l t
 |_,_,[],_=>rfl
 |k,k',(o,r)::l,t=>m9 (k+1) (k'+1) l _
theorem m8:∀(k k':Nat) (l:List (Oper×Rc)) (t:HL),gt (fun _=>true) k l t=gt (fun _=>true) k' l t
 |_,_,[],_=>rfl
 |k,k',(o,r)::l,t=>m8 (k+1) (k'+1) l _
def jz (σ:VSt):Prop:=∀c:Id,σ.n≤c.1→look (toH σ.h) c=none
def Runs (P:Program)[PhC P](N:Nat)(ops:Array Oper)(dep:Nat→List Nat)(chk:Bool)(l:List Oper)(k:Nat)(fws:qA)(σ σ':VSt):Prop:=
 ∀pre:List (Oper×Rc),(chk=true→E6 k pre fws)→∃L:List (Oper×Rc),L.map (·.1)=l∧TRun P ops N (toT σ.t) (toH σ.h) σ.n L∧
  (∀x,look (toT σ'.t) x=look (ib (fun _=>true) 0 L (toT σ.t)) x)∧(∀x,look (toH σ'.h) x=look (gt (fun _=>true) 0 L (toH σ.h)) x)∧
  jz σ'∧
  (chk=true→∀i j oi ri oj rj,i<k+j→(pre++L)[i]?=some (oi,ri)→L[j]?=some (oj,rj)→(dep (k+j)).contains i=false→(∀x∈ri.u,x.1.1∉rj.f∧∀y∈rj.u,x.1.1≠y.1.1)∧(∀x∈rj.u,x.1.1∉ri.f))
variable {ops:Array Oper} {dep:Nat→List Nat} {chk:Bool}
theorem Runs.nil [PhC P]{k:Nat}{fws:qA}{σ:VSt}(hn:jz σ):Runs P N ops dep chk [] k fws σ σ:=fun pre _=>
 ⟨[],rfl,trivial,fun _=>rfl,fun _=>rfl,hn,fun _ i j oi ri oj rj _ _ hj=>by simp at hj⟩
theorem Runs.congr [PhC P]{l:List Oper}{k:Nat}{fws:qA}{σ τ σ':VSt}(h:Runs P N ops dep chk l k fws τ σ')(ht:∀x,look (toT τ.t) x=look (toT σ.t) x)(hh:τ.h=σ.h)(hn:τ.n=σ.n):Runs P N ops dep chk l k fws σ σ':=by
 intro pre hpre
 obtain⟨L,h1,h2,h3,h4,h5,h6⟩:=h pre hpre
 rw[hh] at h2 h4
 rw[hn] at h2
 exact⟨L,h1,h2.congr ht (fun _=>rfl),fun x=>by rw[h3];exact kA _ L 0 _ _ x (ht x),h4,h5,h6⟩
theorem rS {a b:List Nat}(h:rR a b=true):∀x∈a,x∉b:=by
 intro x hx
 unfold rR at h
 rw[bc] at h
 simpa using h x hx
theorem Runs.step [PhC P]{o:Oper}{l:List Oper}{k:Nat}{fws:qA}{σ σ':VSt}{d:V}{u:VH}{gl:List Nat}{n':Nat}(hg:cJ ops (toT σ.t) o=some true)(hd:oE N o.dst=true)(ha:StepOK P N o σ.t σ.h d u gl)(hn:σ.n≤n')(hu:ze n' u=true)
  (hc:chk=true→li (dep k) fws gl (keysV u)=true) {fws':qA} (hf:chk=true→fws'=(k,gl,keysV u)::fws∨(fws'=fws∧gl=[]∧u=[])) (h:Runs P N ops dep chk l (k+1) fws' ⟨uQ o.dst d σ.t,puts u σ.h,n'⟩ σ'):Runs P N ops dep chk (o::l) k fws σ σ':=by
 intro pre hpre
 obtain⟨uu,hU,hS⟩:=ha
 have hS:=hS gl fun k hk=>hk
 let r:Rc:=⟨d.toD,uu,gl,σ.n,n'⟩
 have huk:∀x∈uu,x.1.1∈keysV u:=fun x hx=>by rw[←fJ];exact hU.2 x hx
 obtain⟨L,h1,h2,h3,h4,h5,h6⟩:=h (pre++[(o,r)]) (fun hchk=>by
  obtain⟨q1,q2⟩:=hpre hchk
  refine⟨by simp[q1],fun i o' r' hi hne=>?_⟩
  have hmono:∀x∈fws,x∈fws':=by
   intro x hx
   rcases hf hchk with e|⟨e,_⟩
   ·rw[e];exact bl _ hx
   ·rw[e];exact hx
  rcases cY i pre.length with hlt|hge
  ·rw[gg hlt] at hi
   obtain⟨f,ws,a1,a2⟩:=q2 i o' r' hi hne
   exact⟨f,ws,hmono _ a1,a2⟩
  ·rw[jq hge] at hi
   have:i-pre.length=0:=by
    have:=(cz.1 hi).1
    simpa using this
   rw[this] at hi
   simp only[fi,aK,bi] at hi
   obtain⟨rfl,rfl⟩:=hi
   have hik:i=k:=by omega
   rcases hf hchk with e|⟨_,e1,e2⟩
   ·rw[hik,e]
    exact⟨gl,keysV u,bh ..,huk,fun x hx=>hx⟩
   ·exfalso
    rcases hne with hne|hne
    ·refine hne ?_
     show uu=[]
     cases huu:uu with
     |nil=>rfl
     |cons x l=>have:=huk x (by rw[huu];exact bh ..);rw[e2] at this;cases this
    ·exact hne e1)
 have hdst:∀x,o.dst=some x→x<N:=by
  intro x hx
  simpa[oE,hx,Nat.blt_eq] using hd
 rw[n6] at h2
 have h2':=h2.congr (fun _=>rfl) (fun b=>(hU.1 b).symm)
 refine⟨(o,r)::L,by simp[h1],⟨⟨rfl,hn,fun x hx=>sy hu _ (hU.2 x hx),hdst⟩,.inl ⟨hg,hS⟩,h2'⟩,fun x=>(h3 x).trans ?_,fun x=>(h4 x).trans ?_,h5,fun hchk i j oi ri oj rj hij hi hj hdp=>?_⟩
 ·show look (ib _ 0 L (toT (uQ o.dst d σ.t))) x=look (ib _ 1 L (if(fun _=>true) 0=true then _ else _)) x
  simp only[if_true,n6]
  rw[m9 0 1]
 ·show look (gt _ 0 L (toH (puts u σ.h))) x=look (gt _ 1 L (if(fun _=>true) 0=true then _ else _)) x
  simp only[if_true]
  rw[m8 0 1]
  exact kz _ L 1 _ _ x (hU.1 x).symm
 ·cases j with
  |zero=>
   simp only[fi,aK,bi] at hj
   obtain⟨rfl,rfl⟩:=hj
   obtain⟨q1,q2⟩:=hpre hchk
   rw[gg (by omega)] at hi
   by_cases hne:ri.u≠[]∨ri.f≠[]
   ·obtain⟨f0,ws0,hm,m1,m2⟩:=q2 i oi ri hi hne
    have hcf:=hc hchk
    unfold li at hcf
    rw[bc] at hcf
    have:=hcf _ hm
    simp only[Nat.add_zero] at hdp
    simp only[hdp,Bool.or_false,b6] at this
    obtain⟨⟨c1,c2⟩,c3⟩:=this
    exact⟨fun x hx=>⟨rS c1 _ (m1 x hx),fun y hy he=>rS c2 _ (m1 x hx) (he▸huk y hy)⟩,fun x hx hxf=>rS c3 _ (huk x hx) (m2 _ hxf)⟩
   ·have e1:ri.u=[]:=by
     rcases fa (ri.u=[]) with h|h
     ·exact h
     ·exact absurd (.inl h) hne
    have e2:ri.f=[]:=by
     rcases fa (ri.f=[]) with h|h
     ·exact h
     ·exact absurd (.inr h) hne
    rw[e1,e2]
    exact⟨fun x hx=>(by cases hx),fun x hx h=>(by cases h)⟩
  |succ j=>
   refine h6 hchk i j oi ri oj rj (by omega) (by simpa using hi) (by simpa using hj) (by rw[show k+1+j=k+(j+1) by omega];exact hdp)
theorem Runs.skip [PhC P]{o:Oper}{l:List Oper}{k:Nat}{fws:qA}{σ σ':VSt}(hg:cJ ops (toT σ.t) o=some false)(hd:oE N o.dst=true)(h:Runs P N ops dep chk l (k+1) fws ⟨uQ o.dst (.tup []) σ.t,σ.h,σ.n⟩ σ'):Runs P N ops dep chk (o::l) k fws σ σ':=by
 intro pre hpre
 let r:Rc:=⟨.tup [],[],[],σ.n,σ.n⟩
 obtain⟨L,h1,h2,h3,h4,h5,h6⟩:=h (pre++[(o,r)]) (fun hchk=>by
  obtain⟨q1,q2⟩:=hpre hchk
  refine⟨by simp[q1],fun i o' r' hi hne=>?_⟩
  rcases cY i pre.length with hlt|hge
  ·rw[gg hlt] at hi
   exact q2 i o' r' hi hne
  ·rw[jq hge] at hi
   have:i-pre.length=0:=by
    have:=(cz.1 hi).1
    simpa using this
   rw[this] at hi
   simp only[fi,aK,bi] at hi
   obtain⟨rfl,rfl⟩:=hi
   simp[r] at hne)
 have hdst:∀x,o.dst=some x→x<N:=by
  intro x hx
  simpa[oE,hx,Nat.blt_eq] using hd
 rw[n6] at h2
 refine⟨(o,r)::L,by simp[h1],⟨⟨rfl,aN _,by simp[r],hdst⟩,.inr ⟨hg,rfl,rfl,rfl⟩,h2⟩,fun x=>(h3 x).trans ?_,fun x=>(h4 x).trans ?_,h5,fun hchk i j oi ri oj rj hij hi hj hdp=>?_⟩
 ·show look (ib _ 0 L (toT (uQ o.dst (.tup []) σ.t))) x=look (ib _ 1 L (if(fun _=>true) 0=true then _ else _)) x
  simp only[if_true,n6]
  rw[m9 0 1]
  rfl
 ·show look (gt _ 0 L (toH σ.h)) x=look (gt _ 1 L (if(fun _=>true) 0=true then _ else _)) x
  simp only[if_true]
  rw[m8 0 1]
  rfl
 ·cases j with
  |zero=>
   simp only[fi,aK,bi] at hj
   obtain⟨rfl,rfl⟩:=hj
   refine⟨fun x hx=>⟨by simp[r],by simp[r]⟩,by simp[r]⟩
  |succ j=>
   refine h6 hchk i j oi ri oj rj (by omega) (by simpa using hi) (by simpa using hj) (by rw[show k+1+j=k+(j+1) by omega];exact hdp)
theorem tf [PhC P]{gl:List Nat}{o:Oper}{t:VT}{h:VH}{r:V}{u:VH}(hs:StepOK P N o t h r u gl):StepOK P N o t h r u (fb [] gl):=fy hs fun k hk=>qB.2 (.inr hk)
theorem Dr [PhC P]{Θ:TT}(hΘ:Θ.ok P){o:Oper}{k:Nat}{fws:qA}{σ:VSt}(hfr:jz σ){K:qA→VSt→Prop}(h:xk P Θ dep chk N o k fws σ.t σ.h σ.n K):
  ∃(d:V) (u:VH) (gl:List Nat) (n':Nat) (fws':qA),oE N o.dst=true∧StepOK P N o σ.t σ.h d u gl∧σ.n≤n'∧ze n' u=true∧(chk=true→li (dep k) fws gl (keysV u)=true)∧
   (chk=true→fws'=(k,gl,keysV u)::fws∨(fws'=fws∧gl=[]∧u=[]))∧K fws' ⟨uQ o.dst d σ.t,puts u σ.h,n'⟩:=by
 obtain⟨hd,h1⟩:=Chk.ok h
 obtain⟨d,u,gl,ha0,h2⟩:=B1 (N:=N) hΘ hfr h1
 have ha:=tf ha0
 have h3:=uR h2
 split at h3
 ·split at h3
  ·exact⟨d,[],_,σ.n,fws,hd,ha,aN _,rfl,fun hc=>(by cases hc),fun hc=>(by cases hc),h3⟩
  ·have h4:=cg h3
   split at h4
   ·rename_i e
    exact⟨d,[],_,σ.n,fws,hd,ha,aN _,rfl,fun _=>by rw[e];exact Ae,fun _=>.inr ⟨rfl,e,rfl⟩,h4⟩
   ·obtain⟨h5,h6⟩:=tA h4
    exact⟨d,[],_,σ.n,_,hd,ha,aN _,rfl,fun _=>h5,fun _=>.inl rfl,h6⟩
 ·have h4:=bJ h3
  split at h4
  ·obtain⟨hl,h5⟩:=h4.ok
   have h6:=gG h5
   exact⟨d,_,_,_,fws,hd,ha,Nat.le_add_right _ _,hl,fun hc=>(by cases hc),fun hc=>(by cases hc),h6⟩
  ·obtain⟨u',ds,s,h5⟩:=zI h4
   obtain⟨hl,h5⟩:=h5.ok
   have h6:=gG h5
   have ha2:=tf (ha0.same s)
   obtain⟨h7,h8⟩:=tA (cg (cg h6))
   exact⟨d,_,_,_,_,hd,ha2,Nat.le_add_right _ _,hl,fun _=>h7,fun _=>.inl rfl,h8⟩
theorem wu [PhC P]{o:Oper}{t:VT}{h:VH}{n n':Nat}{d:V}{u:VH}{gl:List Nat}(hn:∀c:Id,n≤c.1→look (toH h) c=none)(hle:n≤n')(ha:StepOK P N o t h d u gl)(hu:ze n' u=true){t':VT}:jz ⟨t',puts u h,n'⟩:=by
 obtain⟨uu,hU,_⟩:=ha
 exact qN (n:=n') (fun c hc=>hn c (gK hle hc)) hU hu
theorem eG {o:Oper}{t:VT}{g s:Nat}{want b:Bool}{v:V}(h1:o.guard=some (g,want))(h2:(ops[g]?).bind (·.dst)=some s)(h3:look t s=some v)(hv:v.toD= .bool b):cJ ops (toT t) o=some (b==want):=by
 unfold cJ
 rw[h1]
 simp only[h2,cx,h3,aM,hv]
theorem jP {t:VT}{s:Nat}{v v':V}(h:look t s=some v)(he:v'.toD=v.toD)(x:Nat):look (toT ((s,v')::t)) x=look (toT t) x:=by
 rw[cx,cx]
 show Option.map _ (if x=s then _ else _)=_
 split
 ·rename_i e;subst e;rw[h];simp[he]
 ·rfl
theorem kI [PhC P]{Θ:TT}(hΘ:Θ.ok P):∀{l:List Oper} {k:Nat} {fws:qA} {σ:VSt} {K:VSt→Prop},jz σ→jy P Θ ops dep chk N l k fws σ K→∃σ',K σ'∧Runs P N ops dep chk l k fws σ σ'
 |[],k,fws,σ,K,hn,h=>⟨σ,h,Runs.nil hn⟩
 |o::l,k,fws,σ,K,hn,h=>by
  have run:∀σ:VSt,jz σ→cJ ops (toT σ.t) o=some true→(xk P Θ dep chk N o k fws σ.t σ.h σ.n fun fws' σ'=>jy P Θ ops dep chk N l (k+1) fws' σ' K)→∃σ',K σ'∧Runs P N ops dep chk (o::l) k fws σ σ':=by
   intro σ hn hg h
   obtain⟨d,u,gl,n',fws',h1,h2,h3,h4,h5,h6,h7⟩:=Dr hΘ hn h
   obtain⟨σ',h9,h10⟩:=kI hΘ (wu hn h3 h2 h4) h7
   exact⟨σ',h9,Runs.step hg h1 h2 h3 h4 h5 h6 h10⟩
  have skip:∀σ:VSt,jz σ→cJ ops (toT σ.t) o=some false→(ry N o σ.t σ.h σ.n fun σ'=>jy P Θ ops dep chk N l (k+1) fws σ' K)→∃σ',K σ'∧Runs P N ops dep chk (o::l) k fws σ σ':=by
   intro σ hn hg h
   obtain⟨hd,h7⟩:=Chk.ok h
   have h7:=uR h7
   obtain⟨σ',h8,h9⟩:=kI (σ:=⟨uQ o.dst (.tup []) σ.t,σ.h,σ.n⟩) hΘ hn h7
   exact⟨σ',h8,Runs.skip hg hd h9⟩
  obtain⟨st,sh,sn⟩:=σ
  unfold jy at h
  split at h
  ·rename_i e
   exact run ⟨st,sh,sn⟩ hn (by unfold cJ;rw[e]) h
  ·rename_i g want e
   split at h
   ·rename_i s es
    obtain⟨v,h1,h2⟩:=aQ h
    split at h2
    ·cases want with
     |true=>exact run ⟨st,sh,sn⟩ hn (eG e es (b:=true) h1 rfl) h2
     |false=>exact skip ⟨st,sh,sn⟩ hn (eG e es (b:=true) h1 rfl) h2
    ·cases want with
     |true=>exact skip ⟨st,sh,sn⟩ hn (eG e es (b:=false) h1 rfl) h2
     |false=>exact run ⟨st,sh,sn⟩ hn (eG e es (b:=false) h1 rfl) h2
    ·rename_i b
     cases b with
     |true=>
      have h3:=h2.1 rfl
      have hsh:∀x,look (toT ((s,.tt)::st)) x=look (toT st) x:=jP h1 rfl
      cases want with
      |true=>
       obtain⟨σ',k1,k2⟩:=run ⟨(s,.tt)::st,sh,sn⟩ hn (eG e es (b:=true) (v:=.tt) (by simp[look]) rfl) h3
       exact⟨σ',k1,k2.congr hsh rfl rfl⟩
      |false=>
       obtain⟨σ',k1,k2⟩:=skip ⟨(s,.tt)::st,sh,sn⟩ hn (eG e es (b:=true) (v:=.tt) (by simp[look]) rfl) h3
       exact⟨σ',k1,k2.congr hsh rfl rfl⟩
     |false=>
      have h3:=h2.2 rfl
      have hsh:∀x,look (toT ((s,.ff)::st)) x=look (toT st) x:=jP h1 rfl
      cases want with
      |true=>
       obtain⟨σ',k1,k2⟩:=skip ⟨(s,.ff)::st,sh,sn⟩ hn (eG e es (b:=false) (v:=.ff) (by simp[look]) rfl) h3
       exact⟨σ',k1,k2.congr hsh rfl rfl⟩
      |false=>
       obtain⟨σ',k1,k2⟩:=run ⟨(s,.ff)::st,sh,sn⟩ hn (eG e es (b:=false) (v:=.ff) (by simp[look]) rfl) h3
       exact⟨σ',k1,k2.congr hsh rfl rfl⟩
    ·refine skip ⟨st,sh,sn⟩ hn ?_ h2
     unfold cJ
     rw[e]
     simp only[es,cx,h1,aM,V.toD,aB]
    ·exact h2.elim
   ·exact h.elim
end Go.Proofs.Ytbmnihglaokhmaa.Am
namespace Go.Proofs.Ytbmnihglaokhmaa.Am
open Go Go.RowKit
variable {P:Program} {N:Nat} {K:Id→Prop}
def At (P:Program)[PhC P](N:Nat)(K:Id→Prop)(c:Code)(Q:Exit→VSt→Prop)(σ:VSt):Prop:=∃e σ',Brings P N K c σ.toD e σ'.toD∧(jk P N K σ'.toD→Q e σ')
theorem io [PhC P]{c:Code}{σ:St}(h:¬jk P N K σ)(e:Exit)(σ':St):Brings P N K c σ e σ':=⟨0,fun main dfs γ ρ0 a w hs=>absurd ⟨dfs,γ,ρ0,a,w,hs⟩ h⟩
variable {Q:Exit→VSt→Prop} {σ:VSt}
theorem At.real [PhC P]{c:Code}(h:jk P N K σ.toD→At P N K c Q σ):At P N K c Q σ:=by
 rcases fa (jk P N K σ.toD) with hr|hr
 ·exact h hr
 ·exact⟨.normal,σ,io hr _ _,fun h=>absurd h hr⟩
theorem At.mono [PhC P]{c:Code}{Q':Exit→VSt→Prop}(h:At P N K c Q σ)(hq:∀e σ,Q e σ→Q' e σ):At P N K c Q' σ:=by
 obtain⟨e,σ',h1,h2⟩:=h
 exact⟨e,σ',h1,fun hr=>hq _ _ (h2 hr)⟩
def FE (next:VSt→Prop)(Q:Exit→VSt→Prop):Exit→VSt→Prop
 | .normal,σ=>next σ
 |e,σ=>Q e σ
def vN (id:Nat)(Q:Exit→VSt→Prop):Exit→VSt→Prop
 | .exit id',σ=>bif Nat.beq id' id then Q .normal σ else Q (.exit id') σ
 |e,σ=>Q e σ
theorem kh [PhC P](h:Q .normal σ):At P N K .skip Q σ:=⟨.normal,σ,.skip,fun _=>h⟩
theorem mz [PhC P](h:Q .ret σ):At P N K .ret Q σ:=⟨.ret,σ,.ret,fun _=>h⟩
theorem kb [PhC P]{id:Nat}(h:Q (.exit id) σ):At P N K (.exit id) Q σ:=⟨.exit id,σ,.exit,fun _=>h⟩
theorem mA [PhC P]{x y:Code}(h:At P N K x (FE (At P N K y Q) Q) σ):At P N K (.seq x y) Q σ:=by
 obtain⟨e,σ1,h1,h2⟩:=h
 rcases fa (jk P N K σ1.toD) with hr|hr
 ·cases e with
  |normal=>
   obtain⟨e2,σ2,h3,h4⟩:=h2 hr
   exact⟨e2,σ2,.seqN h1 h3,h4⟩
  |_=>exact⟨_,σ1,.seqX (by simp) h1,fun hr=>h2 hr⟩
 ·cases e with
  |normal=>exact⟨.normal,σ1,.seqN h1 (io hr _ _),fun h=>absurd h hr⟩
  |_=>exact⟨_,σ1,.seqX (by simp) h1,fun h=>absurd h hr⟩
theorem tr [PhC P]{id:Nat}{c:Code}(h:At P N K c (vN id Q) σ):At P N K (.block id c) Q σ:=by
 obtain⟨e,σ1,h1,h2⟩:=h
 cases e with
 |exit id'=>
  by_cases hid:id'=id
  ·subst hid
   exact⟨.normal,σ1,.blockE h1,fun hr=>by have:=h2 hr;simpa only[vN,Nat.beq_refl,cond_true] using this⟩
  ·refine⟨.exit id',σ1,.blockX (by simp[hid]) h1,fun hr=>?_⟩
   have hb:Nat.beq id' id=false:=by
    cases hb:Nat.beq id' id with
    |false=>rfl
    |true=>exact absurd (bY hb) hid
   have:=h2 hr
   simpa only[vN,hb,cond_false] using this
 |_=>exact⟨_,σ1,.blockX (by simp) h1,h2⟩
def Dz (c:Operand)(σ:VSt)(A B:VSt→Prop):Prop:=
 match c,σ with
 | .tmp s,⟨t,h,n⟩=>bK t s fun v=>(match v with
  | .tt=>A ⟨t,h,n⟩
  | .ff=>B ⟨t,h,n⟩
  | .bool b=>j7 b (A ⟨(s,.tt)::t,h,n⟩) (B ⟨(s,.ff)::t,h,n⟩)
  |_=>False)
 | .const (.bool true),σ=>A σ
 | .const (.bool false),σ=>B σ
 |_,_=>False
theorem SimS.congr {dfs:List Deferred}{γ:Gh}{ρ0:Id→Pl}{a:Act}{w:World}{σ σ':St}(h:SimS P dfs γ N ρ0 K σ a w)(ht:∀x,look σ'.t x=look σ.t x)(hh:∀x,look σ'.h x=look σ.h x)(hn:σ'.n=σ.n):SimS P dfs γ N ρ0 K σ' a w:=by
 obtain⟨h1,h2,ρ,h3,h4⟩:=h
 refine⟨fun b hb=>by rw[hh];exact h1 b (by omega),fun b hb=>?_,ρ,h3,h4.congr ht hh⟩
 have:=h2 b hb
 unfold Live at this⊢
 rw[hh]
 exact this
theorem ny {s:Nat}{v v':V}(h:look σ.t s=some v)(he:v'.toD=v.toD):Weak P N K σ.toD (VSt.toD ⟨(s,v')::σ.t,σ.h,σ.n⟩):=
 fun _ _ _ _ _ hs=>hs.congr (fun x=>jP h he x) (fun _=>rfl) rfl
theorem nM [PhC P]{c:Operand}{x y:Code}(h:Dz c σ (At P N K x Q) (At P N K y Q)):At P N K (.cond c x y) Q σ:=by
 unfold Dz at h
 split at h
 ·rename_i s st sh sn
  obtain⟨v,h1,h2⟩:=aQ h
  split at h2
  ·obtain⟨e,σ1,h3,h4⟩:=h2
   exact⟨e,σ1,.condT (by simp only[aW,VSt.toD,cx,h1,aM,V.toD]) h3,h4⟩
  ·obtain⟨e,σ1,h3,h4⟩:=h2
   exact⟨e,σ1,.condF (by simp only[aW,VSt.toD,cx,h1,aM,V.toD]) h3,h4⟩
  ·rename_i b
   have hev:aW (VSt.toD ⟨st,sh,sn⟩).t (.tmp s)=some (.bool b):=by simp only[aW,VSt.toD,cx,h1,aM,V.toD]
   cases b with
   |true=>
    obtain⟨e,σ1,h3,h4⟩:=h2.1 rfl
    exact⟨e,σ1,.condT hev (.pre (ny (σ:=⟨st,sh,sn⟩) h1 rfl) h3),h4⟩
   |false=>
    obtain⟨e,σ1,h3,h4⟩:=h2.2 rfl
    exact⟨e,σ1,.condF hev (.pre (ny (σ:=⟨st,sh,sn⟩) h1 rfl) h3),h4⟩
  ·exact h2.elim
 ·obtain⟨e,σ1,h3,h4⟩:=h
  exact⟨e,σ1,.condT rfl h3,h4⟩
 ·obtain⟨e,σ1,h3,h4⟩:=h
  exact⟨e,σ1,.condF rfl h3,h4⟩
 ·exact h.elim
theorem tu [PhC P]{c:Code}(h:jz σ→At P N K c Q σ):At P N K c Q σ:=by
 rcases fa (jz σ) with hr|hr
 ·exact h hr
 ·refine At.real fun⟨dfs,γ,ρ0,a,w,hs⟩=>absurd hs.1 hr
theorem kg [PhC P]{Θ:TT}(hΘ:Θ.ok P){id:Nat}{ops:Array Oper}(h:jy P Θ ops (fun _=>[]) false N ops.toList 0 [] σ (Q .normal)):At P N K (.region id ops false) Q σ:=by
 refine tu fun hn=>?_
 obtain⟨σ',h1,h2⟩:=kI hΘ hn h
 obtain⟨L,l1,l2,l3,l4,l5,_⟩:=h2 [] fun h=>by cases h
 exact⟨.normal,σ',.regionS l1 l2 l3 l4 fun _=>l5,fun _=>h1⟩
def E9 (o:Oper):Nat:=o.after.toList.foldl (fun m e=>bif Region.binds .any e then m|||(1<<<e.on) else m) 0
def DY (ops:List Oper):Nat→Nat→Nat
 |0,m=>m
 |j+1,m=>match m.testBit j with
  |true=>DY ops j (m|||(match ops[j]? with|some o=>E9 o|none=>0))
  |false=>DY ops j m
def yQ (ops:Array Oper)(k:Nat):List Nat:=
 match ops.toList[k]? with
 |some o=>(List.range k).filter fun i=>(DY ops.toList k (E9 o)).testBit i
 |none=>[]
theorem kf [PhC P]{Θ:TT}(hΘ:Θ.ok P)(hm:P.follows .mixedOrders=true){id:Nat}{ops:Array Oper}(hok:Reg.okB ops (yQ ops)=true)(h:jy P Θ ops (yQ ops) true N ops.toList 0 [] σ (Q .normal)):At P N K (.region id ops true) Q σ:=by
 refine tu fun hn=>?_
 obtain⟨σ',h1,h2⟩:=kI hΘ hn h
 obtain⟨L,l1,l2,l3,l4,l5,l6⟩:=h2 [] fun _=>⟨rfl,fun i o r hi=>by simp at hi⟩
 refine⟨.normal,σ',(.regionD (yQ ops) hm hok l1 l2 ?_ l3 l4 fun _=>l5),fun _=>h1⟩
 intro i j oi ri oj rj hij hi hj hdp
 exact l6 rfl i j oi ri oj rj (by omega) (by simpa using hi) hj (by simpa using hdp)
end Go.Proofs.Ytbmnihglaokhmaa.Am
namespace Go.Proofs.Ytbmnihglaokhmaa.Am
open Go Go.RowKit
variable {P:Program} {N:Nat} {K:Id→Prop} {os:List Nat} {n:Nat} {h:VH}
def Ge (h:VH)(b:Nat):Bool:=match a7 h b with
 |some (.row ..)|some (.lit ..)|some (.var ..)|some (.vari ..)|some (.map ..)|some (.it ..)=>true
 |_=>false
def Bb (h:VH):List Nat→List Nat
 |[]=>[]
 |b::l=>match Nat.ble 4 b && Ge h b with|true=>b::Bb h l|false=>Bb h l
def qS:VB→List Nat
 | .var _ cs=>eN cs
 | .vari _ pre _ _ _ post=>eN pre++eN post
 | .lit _ vs=>eN vs
 | .it k _ _ _ _=>[k]
 |_=>[]
def sq (h:VH):Nat→Nat→List Nat→(List Nat→Prop)→Prop
 |0,_,l,K=>K l
 |k+1,i,l,K=>match l[i]? with
  |none=>K l
  |some b=>eR (fb l (Bb h (match a7 h b with|some x=>qS x|none=>[]))) fun l=>sq h k (i+1) l K
theorem qP {h:VH}:∀{k i:Nat} {l:List Nat} {K:List Nat→Prop},sq h k i l K→∃l,K l
 |0,_,l,_,hk=>⟨l,hk⟩
 |k+1,i,l,K,hk=>by
  simp only[sq] at hk
  split at hk
  ·exact⟨_,hk⟩
  ·have hk:=cg hk
   exact qP hk
def sr (h:VH)(l:List Nat)(K:List Nat→Prop):Prop:=eR l fun l=>sq h 60 0 l K
theorem oP {h:VH}{l:List Nat}{K:List Nat→Prop}(hk:sr h l K):∃l,K l:=qP (cg hk)
def DC:VT→List Nat
 |[]=>[]
 |(_,v)::l=>fd v++DC l
mutual
def bN (os:List Nat)(v:V)(K:V→Prop):Prop:=
 match v with
 | .ref b=>kZ b os 4 fun r=>(match r with|some i=>K (.ref i)|none=>False)
 | .ptr b o=>kZ b os 4 fun r=>(match r with|some i=>K (.ptr i o)|none=>False)
 | .eptr b j o=>kZ b os 4 fun r=>(match r with|some i=>K (.eptr i j o)|none=>False)
 | .vref b o q=>kZ b os 4 fun r=>(match r with|some i=>K (.vref i o q)|none=>False)
 | .aptr b p j=>kZ b os 4 fun r=>(match r with|some i=>K (.aptr i p j)|none=>False)
 | .mp b=>kZ b os 4 fun r=>(match r with|some i=>K (.mp i)|none=>False)
 | .fmp k i=>Chk (Nat.blt k 4) (K (.fmp k i))
 | .fref k i=>Chk (Nat.blt k 4) (K (.fref k i))
 | .fptr k i o=>Chk (Nat.blt k 4) (K (.fptr k i o))
 | .feptr k i j o=>Chk (Nat.blt k 4) (K (.feptr k i j o))
 | .faptr k i p j=>Chk (Nat.blt k 4) (K (.faptr k i p j))
 | .hro k o=>Chk (Nat.blt k 4) (K (.hro k o))
 | .hpo k o=>Chk (Nat.blt k 4) (K (.hpo k o))
 | .agg cs=>jB os cs fun cs=>K (.agg cs)
 | .tup cs=>jB os cs fun cs=>K (.tup cs)
 | .clo f cs=>jB os cs fun cs=>K (.clo f cs)
 | .ifc T v=>bN os v fun v=>K (.ifc T v)
 | .int k n=>K (.int k n)
 | .bool b=>K (.bool b)
 | .tt=>K (.bool true)
 | .ff=>K (.bool false)
 | .str s=>K (.str s)
 | .lst t xs=>K (.lst t xs)
 | .box t x=>K (.box t x)
 | .nilp=>K .nilp
 | .nils=>K .nils
 | .nilf=>K .nilf
 | .nilm=>K .nilm
 | .val v=>K (.val v)
 | .dbox cs=>K (.dbox cs)
 | .nili=>K .nili
 | .gv g=>K (.gv g)
 | .gp _=>False
 | .iptr t x o=>K (.iptr t x o)
 | .obo t o=>K (.obo t o)
 | .undef=>K .undef
 | .junk=>K .junk
def jB (os:List Nat)(l:List V)(K:List V→Prop):Prop:=
 match l with
 |[]=>K []
 |v::l=>bN os v fun v=>jB os l fun l=>K (v::l)
end
structure KeepOK (os:List Nat)(h h':VH):Prop where
 sgl:∀m b,os[m]?=some b→Live (toH h) (b,0)→Live (toH h') (4+m,0)
 fam:∀k,k<4→∀i,Live (toH h) (k,i)→Live (toH h') (k,i)
section
variable {h':VH}
theorem EN (H:KeepOK os h h'){m b:Nat}(hb:os[m]?=some b):Rn (toH h) (gI (gN os n)) (toH h') (.ref (b,0)) (.ref (4+m,0)):=by
 have e:gI (gN os n) (4+m,0)=(b,0):=by simp only[gI,ee,db hb]
 have:=Rn.ref (h:=toH h) (g:=gI (gN os n)) (h':=toH h') (4+m,0) fun hl=>H.sgl m b hb (by rw[e] at hl;exact hl)
 rwa [e] at this
theorem BM (H:KeepOK os h h'){m b:Nat}(hb:os[m]?=some b)(o:Nat):Rn (toH h) (gI (gN os n)) (toH h') (.ptr (b,0) o) (.ptr (4+m,0) o):=by
 have e:gI (gN os n) (4+m,0)=(b,0):=by simp only[gI,ee,db hb]
 have:=Rn.ptr (h:=toH h) (g:=gI (gN os n)) (h':=toH h') (4+m,0) o fun hl=>H.sgl m b hb (by rw[e] at hl;exact hl)
 rwa [e] at this
theorem De (H:KeepOK os h h'){m b:Nat}(hb:os[m]?=some b)(j o:Nat):Rn (toH h) (gI (gN os n)) (toH h') (.eptr (b,0) j o) (.eptr (4+m,0) j o):=by
 have e:gI (gN os n) (4+m,0)=(b,0):=by simp only[gI,ee,db hb]
 have:=Rn.eptr (h:=toH h) (g:=gI (gN os n)) (h':=toH h') (4+m,0) j o fun hl=>H.sgl m b hb (by rw[e] at hl;exact hl)
 rwa [e] at this
theorem Dg (H:KeepOK os h h'){m b:Nat}(hb:os[m]?=some b)(o q:Nat):Rn (toH h) (gI (gN os n)) (toH h') (.vref (b,0) o q) (.vref (4+m,0) o q):=by
 have e:gI (gN os n) (4+m,0)=(b,0):=by simp only[gI,ee,db hb]
 have:=Rn.vref (h:=toH h) (g:=gI (gN os n)) (h':=toH h') (4+m,0) o q fun hl=>H.sgl m b hb (by rw[e] at hl;exact hl)
 rwa [e] at this
theorem FB (H:KeepOK os h h'){m b:Nat}(hb:os[m]?=some b):Rn (toH h) (gI (gN os n)) (toH h') (.mp (b,0)) (.mp (4+m,0)):=by
 have e:gI (gN os n) (4+m,0)=(b,0):=by simp only[gI,ee,db hb]
 have:=Rn.mp (h:=toH h) (g:=gI (gN os n)) (h':=toH h') (4+m,0) fun hl=>H.sgl m b hb (by rw[e] at hl;exact hl)
 rwa [e] at this
theorem mM {k:Nat}(hk:k<4)(i:Nat):gI (gN os n) (k,i)=(k,i):=by simp only[gI,mN os n hk]
theorem yk (H:KeepOK os h h'){k:Nat}(hk:k<4)(i:Nat):Rn (toH h) (gI (gN os n)) (toH h') (.ref (k,i)) (.ref (k,i)):=by
 have e:gI (gN os n) (k,i)=(k,i):=mM hk i
 have:=Rn.ref (h:=toH h) (g:=gI (gN os n)) (h':=toH h') (k,i) fun hl=>H.fam k hk i (by rw[e] at hl;exact hl)
 rwa [e] at this
theorem sJ (H:KeepOK os h h'){k:Nat}(hk:k<4)(i o:Nat):Rn (toH h) (gI (gN os n)) (toH h') (.ptr (k,i) o) (.ptr (k,i) o):=by
 have e:gI (gN os n) (k,i)=(k,i):=mM hk i
 have:=Rn.ptr (h:=toH h) (g:=gI (gN os n)) (h':=toH h') (k,i) o fun hl=>H.fam k hk i (by rw[e] at hl;exact hl)
 rwa [e] at this
theorem BK (H:KeepOK os h h'){k:Nat}(hk:k<4)(i j o:Nat):Rn (toH h) (gI (gN os n)) (toH h') (.eptr (k,i) j o) (.eptr (k,i) j o):=by
 have e:gI (gN os n) (k,i)=(k,i):=mM hk i
 have:=Rn.eptr (h:=toH h) (g:=gI (gN os n)) (h':=toH h') (k,i) j o fun hl=>H.fam k hk i (by rw[e] at hl;exact hl)
 rwa [e] at this
theorem BL (H:KeepOK os h h'){k:Nat}(hk:k<4)(i:Nat):Rn (toH h) (gI (gN os n)) (toH h') (.mp (k,i)) (.mp (k,i)):=by
 have e:gI (gN os n) (k,i)=(k,i):=mM hk i
 have:=Rn.mp (h:=toH h) (g:=gI (gN os n)) (h':=toH h') (k,i) fun hl=>H.fam k hk i (by rw[e] at hl;exact hl)
 rwa [e] at this
theorem lR (H:KeepOK os h h'){k:Nat}(hk:k<4)(o:Option Nat):Rn (toH h) (gI (gN os n)) (toH h') (jJ k o) (jJ k o):=by
 cases o with
 |none=>exact .pure _ rfl
 |some i=>exact yk H hk i
theorem DN (H:KeepOK os h h'){k:Nat}(hk:k<4)(o:Option Nat):Rn (toH h) (gI (gN os n)) (toH h') (p8 k o) (p8 k o):=by
 cases o with
 |none=>exact .pure _ rfl
 |some i=>exact sJ H hk i 0
theorem i3 {a b:Nat}(h:Nat.blt a b=true):a<b:=by simpa[Nat.blt_eq] using h
mutual
theorem jA:∀{v:V} {K:V→Prop},bN os v K→∃r:V,(∀h',KeepOK os h h'→Rn (toH h) (gI (gN os n)) (toH h') v.toD r.toD)∧r.one=v.one∧K r
 | .ref b,K,hk=>by
  simp only[bN] at hk
  obtain⟨r,r1,r2,hk⟩:=dP hk
  split at hk
  ·obtain⟨m,rfl,hm⟩:=r2 _ rfl
   exact⟨.ref (4+m),fun h' H=>EN H hm,rfl,hk⟩
  ·exact hk.elim
 | .ptr b o,K,hk=>by
  simp only[bN] at hk
  obtain⟨r,r1,r2,hk⟩:=dP hk
  split at hk
  ·obtain⟨m,rfl,hm⟩:=r2 _ rfl
   exact⟨.ptr (4+m) o,fun h' H=>BM H hm o,rfl,hk⟩
  ·exact hk.elim
 | .eptr b j o,K,hk=>by
  simp only[bN] at hk
  obtain⟨r,r1,r2,hk⟩:=dP hk
  split at hk
  ·obtain⟨m,rfl,hm⟩:=r2 _ rfl
   exact⟨.eptr (4+m) j o,fun h' H=>De H hm j o,rfl,hk⟩
  ·exact hk.elim
 | .vref b o q,K,hk=>by
  simp only[bN] at hk
  obtain⟨r,r1,r2,hk⟩:=dP hk
  split at hk
  ·obtain⟨m,rfl,hm⟩:=r2 _ rfl
   exact⟨.vref (4+m) o q,fun h' H=>Dg H hm o q,rfl,hk⟩
  ·exact hk.elim
 | .aptr b p j,K,hk=>by
  simp only[bN] at hk
  obtain⟨r,r1,r2,hk⟩:=dP hk
  split at hk
  ·obtain⟨m,rfl,hm⟩:=r2 _ rfl
   exact⟨.aptr (4+m) p j,fun h' H=>BM H hm (p+j),rfl,hk⟩
  ·exact hk.elim
 | .mp b,K,hk=>by
  simp only[bN] at hk
  obtain⟨r,r1,r2,hk⟩:=dP hk
  split at hk
  ·obtain⟨m,rfl,hm⟩:=r2 _ rfl
   exact⟨.mp (4+m),fun h' H=>FB H hm,rfl,hk⟩
  ·exact hk.elim
 | .fmp k i,K,hk=>by simp only[bN] at hk;obtain⟨c,hk⟩:=hk.ok;exact⟨.fmp k i,fun h' H=>BL H (i3 c) i,rfl,hk⟩
 | .fref k i,K,hk=>by simp only[bN] at hk;obtain⟨c,hk⟩:=hk.ok;exact⟨.fref k i,fun h' H=>yk H (i3 c) i,rfl,hk⟩
 | .fptr k i o,K,hk=>by simp only[bN] at hk;obtain⟨c,hk⟩:=hk.ok;exact⟨.fptr k i o,fun h' H=>sJ H (i3 c) i o,rfl,hk⟩
 | .feptr k i j o,K,hk=>by simp only[bN] at hk;obtain⟨c,hk⟩:=hk.ok;exact⟨.feptr k i j o,fun h' H=>BK H (i3 c) i j o,rfl,hk⟩
 | .faptr k i p j,K,hk=>by simp only[bN] at hk;obtain⟨c,hk⟩:=hk.ok;exact⟨.faptr k i p j,fun h' H=>sJ H (i3 c) i (p+j),rfl,hk⟩
 | .hro k o,K,hk=>by simp only[bN] at hk;obtain⟨c,hk⟩:=hk.ok;exact⟨.hro k o,fun h' H=>lR H (i3 c) o,rfl,hk⟩
 | .hpo k o,K,hk=>by simp only[bN] at hk;obtain⟨c,hk⟩:=hk.ok;exact⟨.hpo k o,fun h' H=>DN H (i3 c) o,rfl,hk⟩
 | .agg cs,K,hk=>by
  simp only[bN] at hk
  obtain⟨r,h1,h2,h3,hk⟩:=iE hk
  exact⟨.agg r,fun h' H=>by simp only[V.toD];exact .agg _ _ h1 (h2 h' H),rfl,hk⟩
 | .tup cs,K,hk=>by
  simp only[bN] at hk
  obtain⟨r,h1,h2,h3,hk⟩:=iE hk
  exact⟨.tup r,fun h' H=>by simp only[V.toD];exact .tup _ _ h1 (h2 h' H),rfl,hk⟩
 | .clo f cs,K,hk=>by
  simp only[bN] at hk
  obtain⟨r,h1,h2,h3,hk⟩:=iE hk
  exact⟨.clo f r,fun h' H=>by simp only[V.toD];exact .clo f _ _ h1 (h2 h' H),rfl,hk⟩
 | .ifc T v,K,hk=>by
  simp only[bN] at hk
  obtain⟨r,h1,h2,hk⟩:=jA hk
  exact⟨.ifc T r,fun h' H=>by simp only[V.toD];exact .ifc T _ _ (h1 h' H),rfl,hk⟩
 | .int k m,K,hk=>⟨.int k m,fun h' H=>.pure _ rfl,rfl,by simpa only[bN] using hk⟩
 | .bool b,K,hk=>⟨.bool b,fun h' H=>.pure _ rfl,rfl,by simpa only[bN] using hk⟩
 | .tt,K,hk=>⟨.bool true,fun h' H=>.pure _ rfl,rfl,by simpa only[bN] using hk⟩
 | .ff,K,hk=>⟨.bool false,fun h' H=>.pure _ rfl,rfl,by simpa only[bN] using hk⟩
 | .str s,K,hk=>⟨.str s,fun h' H=>.pure _ rfl,rfl,by simpa only[bN] using hk⟩
 | .lst t xs,K,hk=>⟨.lst t xs,fun h' H=>.pure _ rfl,rfl,by simpa only[bN] using hk⟩
 | .box t x,K,hk=>⟨.box t x,fun h' H=>.pure _ rfl,rfl,by simpa only[bN] using hk⟩
 | .nilp,K,hk=>⟨.nilp,fun h' H=>.pure _ rfl,rfl,by simpa only[bN] using hk⟩
 | .nils,K,hk=>⟨.nils,fun h' H=>.pure _ rfl,rfl,by simpa only[bN] using hk⟩
 | .nilf,K,hk=>⟨.nilf,fun h' H=>.pure _ rfl,rfl,by simpa only[bN] using hk⟩
 | .nilm,K,hk=>⟨.nilm,fun h' H=>.pure _ rfl,rfl,by simpa only[bN] using hk⟩
 | .val v,K,hk=>⟨.val v,fun h' H=>.pure _ rfl,rfl,by simpa only[bN] using hk⟩
 | .dbox cs,K,hk=>⟨.dbox cs,fun h' H=>.pure _ rfl,rfl,by simpa only[bN] using hk⟩
 | .nili,K,hk=>⟨.nili,fun h' H=>.pure _ rfl,rfl,by simpa only[bN] using hk⟩
 | .gv g,K,hk=>⟨.gv g,fun h' H=>.gv g,rfl,by simpa only[bN] using hk⟩
 | .gp _,K,hk=>by simp only[bN] at hk
 | .iptr t x o,K,hk=>⟨.iptr t x o,fun h' H=>.iptr _ _,rfl,by simpa only[bN] using hk⟩
 | .obo t o,K,hk=>⟨.obo t o,fun h' H=>.pure _ (by cases o<;>rfl),rfl,by simpa only[bN] using hk⟩
 | .undef,K,hk=>⟨.undef,fun h' H=>.undef _,rfl,by simpa only[bN] using hk⟩
 | .junk,K,hk=>⟨.junk,fun h' H=>.junk,rfl,by simpa only[bN] using hk⟩
theorem iE:∀{l:List V} {K:List V→Prop},jB os l K→∃r:List V,(aB l).length=(aB r).length∧(∀h',KeepOK os h h'→∀i,i<(aB l).length→Rn (toH h) (gI (gN os n)) (toH h') ((aB l).getD i .undef) ((aB r).getD i .undef))∧(l.all V.one=r.all V.one)∧K r
 |[],K,hk=>⟨[],rfl,fun h' H i hi=>by simp[aB] at hi,rfl,by simpa only[jB] using hk⟩
 |v::l,K,hk=>by
  simp only[jB] at hk
  obtain⟨v',h1,h2,hk⟩:=jA hk
  obtain⟨r,h3,h4,h5,hk⟩:=iE hk
  refine⟨v'::r,by simp only[aB,dZ,h3],fun h' H i hi=>?_,by simp only[List.all_cons,h2,h5],hk⟩
  cases i with
  |zero=>simpa[aB] using h1 h' H
  |succ i=>simpa[aB] using h4 h' H i (by simpa[aB] using hi)
end
def AL (os:List Nat)(h:VH)(l:List V)(K:List V→Prop):Prop:=kN h l fun l=>jB os l K
theorem AF (g:HL)(l:List D){i:Nat}(hi:i<l.length):(i5 g l).getD i .undef=fwd g (l.getD i .undef):=by
 rw[d9,aX,cd,a6 hi,aX,a6 hi]
 rfl
theorem nT {l:List V}{K:List V→Prop}(hk:AL os h l K):∃r:List V,(aB l).length=(aB r).length∧(∀h',KeepOK os h h'→∀i,i<(aB l).length→Rn (toH h) (gI (gN os n)) (toH h') ((aB l).getD i .undef) ((aB r).getD i .undef))∧((aB l).all D.one=true→(aB r).all D.one=true)∧K r:=by
 obtain⟨l',h1,hk⟩:=gx hk
 obtain⟨r,h2,h3,h4,hk⟩:=iE (h:=h) (n:=n) hk
 have hlen:(aB l).length=(aB l').length:=by rw[←h1,d9,bH]
 refine⟨r,hlen.trans h2,fun h' H i hi=>.fwd _ _ ?_,fun ha=>?_,hk⟩
 ·rw[←AF _ _ hi,h1]
  exact h3 h' H i (by rw[←hlen];exact hi)
 ·refine lh _ ?_
  rw[←h4]
  have e:(aB l').all D.one=l'.all V.one:=by
   rw[ci,List.all_map]
   refine congrArg (fun f=>List.all l' f) (funext fun v=>lM v)
  rw[←e,←h1,d9,List.all_map]
  rw[bc] at ha⊢
  intro d hd
  simp only[Function.comp,nR]
  exact ha d hd
theorem pA (H:KeepOK os h h'){t:Ty}(ht:∀k∈t.fams,k<4)(x:t.den):∀c∈(aj t x).cells,Rn (toH h) (gI (gN os n)) (toH h') c c:=by
 intro c hc
 by_cases hp:t.pure=true
 ·have:=(iG hp x).2
  rw[bc] at this
  exact .pure c (this c hc)
 ·have lf:∀d:D,d.pure0=true→Rn (toH h) (gI (gN os n)) (toH h') d d:=fun d hd=>.pure d hd
  cases t<;>simp only[Ty.pure,not_true_eq_false] at hp
  case hr k=>
   simp only[aj,(ly k x).2,bd] at hc
   subst hc
   exact lR H (ht k (by simp[Ty.fams])) x
  case hp k=>
   simp only[aj,(lx k x).2,bd] at hc
   subst hc
   exact DN H (ht k (by simp[Ty.fams])) x
  case vtxo k=>
   simp only[aj,D.cells,a9,d6,or_false] at hc
   rcases hc with rfl|rfl|rfl|rfl
   ·exact lf _ rfl
   ·exact lf _ rfl
   ·exact lR H (ht k (by simp[Ty.fams])) _
   ·exact lf _ rfl
  case pplm k=>
   simp only[aj,D.cells,fX,fR,d5,a9,d6,or_false] at hc
   rcases hc with rfl|rfl|rfl|rfl|rfl
   ·exact lf _ rfl
   ·exact lf _ rfl
   ·exact lf _ rfl
   ·exact lf _ rfl
   ·exact lR H (ht k (by simp[Ty.fams])) _
  case pplo k k'=>
   simp only[aj,D.cells,a9,d6,or_false] at hc
   rcases hc with rfl|rfl|rfl|rfl|rfl
   ·exact lf _ rfl
   ·exact lf _ rfl
   ·exact lR H (ht k (by simp[Ty.fams])) _
   ·exact lf _ rfl
   ·exact lR H (ht k' (by simp[Ty.fams])) _
  case evto k=>
   simp only[aj,D.cells,a9,d6,or_false] at hc
   rcases hc with rfl|rfl|rfl|rfl|rfl|rfl|rfl
   ·exact lf _ rfl
   ·exact lf _ rfl
   ·exact lf _ rfl
   ·exact lf _ rfl
   ·exact lf _ rfl
   ·exact lR H (ht k (by simp[Ty.fams])) _
   ·exact lf _ rfl
  case lres k k'=>
   simp only[aj,D.cells,a9,d6,or_false] at hc
   rcases hc with rfl|rfl|rfl
   ·exact BL H (ht k (by simp[Ty.fams])) _
   ·exact lf _ rfl
   ·exact lR H (ht k' (by simp[Ty.fams])) _
  case nod k=>
   simp only[aj,D.cells,fX,fR,d5,a9,d6,or_false] at hc
   rcases hc with rfl|rfl|rfl|rfl|rfl|rfl
   ·exact lf _ rfl
   ·exact lf _ rfl
   ·exact lf _ rfl
   ·exact lf _ rfl
   ·exact lf _ rfl
   ·exact lR H (ht k (by simp[Ty.fams])) _
theorem wW (H:KeepOK os h h'){t:Ty}(ht:∀k∈t.fams,k<4)(x:t.den):Rn (toH h) (gI (gN os n)) (toH h') (aj t x) (aj t x):=by
 have hc:=pA (n:=n) H ht x
 by_cases hag:∃cs,aj t x= .agg cs
 ·obtain⟨cs,he⟩:=hag
  rw[he] at hc⊢
  exact .agg cs cs rfl fun i hi=>hc _ (br hi)
 ·have he:(aj t x).cells=[aj t x]:=cS fun cs hcs=>hag ⟨cs,hcs⟩
  exact hc _ (by rw[he];exact bd.2 rfl)
theorem wX (H:KeepOK os h h'){t:Ty}(ht:∀k∈t.fams,k<4)(E:TypeId)(xs:List t.den):RnB (toH h) (gI (gN os n)) (toH h') (.row E (xs.map (aj t))) (.row E (xs.map (aj t))):=by
 refine .row E _ _ rfl fun i hi=>?_
 obtain⟨x,_,hx⟩:=aP.1 (br hi)
 rw[←hx]
 exact⟨wW H ht x,fun s hs=>⟨hs,fun j hj=>pA H ht x _ (br (by rw[hs.1];exact hj))⟩⟩
theorem BN (H:KeepOK os h h')(T:TypeId){cs:List D}(hc:∀c∈cs,Rn (toH h) (gI (gN os n)) (toH h') c c):RnB (toH h) (gI (gN os n)) (toH h') (.var T cs) (.var T cs):=.var T _ _ rfl fun i hi=>hc _ (br hi)
def F7 (os:List Nat)(h:VH)(v:V)(K:V→Prop):Prop:=match v with
 | .agg cs=>AL os h cs fun cs=>K (.agg cs)
 |v=>Chk v.one (cT h v fun v=>bN os v K)
theorem Ep {v:V}{K:V→Prop}(hk:F7 os h v K):∃r:V,(∀h',KeepOK os h h'→Rn (toH h) (gI (gN os n)) (toH h') v.toD r.toD∧∀s,wfC s v.toD→wfC s r.toD∧∀j,j<s→Rn (toH h) (gI (gN os n)) (toH h') (v.toD.cells.getD j .undef) (r.toD.cells.getD j .undef))∧K r:=by
 unfold F7 at hk
 split at hk
 ·rename_i cs
  obtain⟨r,h1,h2,h3,hk⟩:=nT (n:=n) hk
  refine⟨.agg r,fun h' H=>⟨by simp only[V.toD];exact .agg _ _ h1 (h2 h' H),fun s hs=>?_⟩,hk⟩
  have hs1:(aB cs).length=s:=by have:=hs.1;simpa only[V.toD,D.cells] using this
  refine⟨⟨?_,?_⟩,fun j hj=>?_⟩
  ·show (aB r).length=s
   omega
  ·exact h3 (by have:=hs.2;simpa only[V.toD,D.cells] using this)
  ·exact h2 h' H j (by omega)
 ·obtain⟨c,hk⟩:=hk.ok
  obtain⟨v',h1,hk⟩:=kr hk
  obtain⟨r,h2,h3,hk⟩:=jA (h:=h) (n:=n) hk
  have o1:v.toD.one=true:=by rw[lM];exact c
  have o2:r.toD.one=true:=by
   rw[lM,h3,←lM,←h1,nR];exact o1
  refine⟨r,fun h' H=>?_,hk⟩
  have hr:Rn (toH h) (gI (gN os n)) (toH h') v.toD r.toD:=.fwd _ _ (by rw[h1];exact h2 h' H)
  refine⟨hr,fun s hs=>?_⟩
  have hs1:=hs.1
  rw[cF o1] at hs1⊢
  rw[cF o2]
  simp only[List.length_singleton] at hs1
  subst hs1
  refine⟨⟨by rw[cF o2];rfl,by rw[cF o2];simp[o2]⟩,fun j hj=>?_⟩
  obtain rfl:j=0:=by omega
  exact hr
def Eq (os:List Nat)(h:VH):List V→(List V→Prop)→Prop
 |[],K=>K []
 |v::l,K=>F7 os h v fun v=>Eq os h l fun l=>K (v::l)
theorem xP:∀{l:List V} {K:List V→Prop},Eq os h l K→∃r:List V,(∀h' E,KeepOK os h h'→RnB (toH h) (gI (gN os n)) (toH h') (.row E (aB l)) (.row E (aB r)))∧K r
 |[],K,hk=>⟨[],fun h' E H=>.row E _ _ rfl fun i hi=>by simp[aB] at hi,hk⟩
 |v::l,K,hk=>by
  obtain⟨v',h1,hk⟩:=Ep (n:=n) hk
  obtain⟨r,h2,hk⟩:=xP hk
  refine⟨v'::r,fun h' E H=>?_,hk⟩
  cases h2 h' E H with
  |row _ _ _ hl hc=>
   refine .row E _ _ (by simp only[aB,dZ,hl]) fun i hi=>?_
   cases i with
   |zero=>simpa[aB] using h1 h' H
   |succ i=>simpa[aB] using hc i (by simpa[aB] using hi)
def Fs (l:List Nat):Bool:=l.all fun k=>Nat.blt k 4
theorem wF {l:List Nat}(h:Fs l=true):∀k∈l,k<4:=by
 unfold Fs at h
 rw[bc] at h
 exact fun k hk=>i3 (h k hk)
def F6 (os:List Nat)(h:VH)(x:VB)(K:VB→Prop):Prop:=
 match x with
 | .var T cs=>AL os h cs fun cs=>K (.var T cs)
 | .vari T pre m t xs post=>Chk (Fs t.fams) (AL os h pre fun pre=>AL os h post fun post=>K (.vari T pre m t xs post))
 | .row E t xs=>Chk (Fs t.fams) (K (.row E t xs))
 | .lit E vs=>Eq os h vs fun vs=>K (.lit E vs)
 | .froz t xs=>K (.froz t xs)
 | .fvb t x=>K (.fvb t x)
 | .moved _ _=>K .gone
 | .gone=>K .gone
 | .map l=>K (.map l)
 | .it k i n left cur=>bif Nat.blt k 4 then K (.it k i n left cur) else kZ k os 4 fun r=>(match r,i with|some k',0=>K (.it k' 0 n left cur)|_,_=>False)
 |_=>False
theorem Eo {x:VB}{K:VB→Prop}(hk:F6 os h x K):∃y d d',x.blks=[d]∧y.blks=[d']∧(∀h',KeepOK os h h'→RnB (toH h) (gI (gN os n)) (toH h') d d')∧K y:=by
 unfold F6 at hk
 split at hk
 ·rename_i T cs
  obtain⟨r,h1,h2,_,hk⟩:=nT (n:=n) hk
  exact⟨_,_,_,rfl,rfl,fun h' H=>.var T _ _ h1 (h2 h' H),hk⟩
 ·rename_i T pre m t xs post
  obtain⟨c,hk⟩:=hk.ok
  obtain⟨pre',h1,h2,_,hk⟩:=nT (n:=n) hk
  obtain⟨post',h3,h4,_,hk⟩:=nT (n:=n) hk
  refine⟨_,_,_,rfl,rfl,fun h' H=>.var T _ _ (by simp only[ck,h1,h3]) fun i hi=>?_,hk⟩
  by_cases c1:i<(aB pre).length
  ·rw[cV,cV,eE (A:=aB pre) c1,eE (A:=aB pre') (by rw[←h1];exact c1)]
   exact h2 h' H i c1
  ·rw[cV,cV,eF (A:=aB pre) (by omega),eF (A:=aB pre') (by rw[←h1];omega),←h1]
   simp only[ck] at hi
   by_cases c2:i-(aB pre).length<(xs.map (aj t)).length
   ·rw[eE c2,eE c2]
    obtain⟨e,he,hee⟩:=aP.1 (br c2)
    rw[←hee]
    exact wW H (wF c) e
   ·rw[eF (by omega),eF (by omega)]
    exact h4 h' H _ (by omega)
 ·obtain⟨c,hk⟩:=hk.ok
  exact⟨_,_,_,rfl,rfl,fun h' H=>wX H (wF c) _ _,hk⟩
 ·obtain⟨r,h1,hk⟩:=xP (n:=n) hk
  exact⟨_,_,_,rfl,rfl,fun h' H=>h1 h' _ H,hk⟩
 ·exact⟨_,_,_,rfl,rfl,fun h' H=>.froz _,hk⟩
 ·exact⟨_,_,_,rfl,rfl,fun h' H=>.fvar _,hk⟩
 ·exact⟨_,_,_,rfl,rfl,fun h' H=>.gone _,hk⟩
 ·exact⟨_,_,_,rfl,rfl,fun h' H=>.gone _,hk⟩
 ·exact⟨_,_,_,rfl,rfl,fun h' H=>.obj none _ (fun c hc=>by cases hc),hk⟩
 ·rename_i k i q left cur
  cases hb:Nat.blt k 4 with
  |true=>
   rw[hb] at hk
   have hk4:=i3 hb
   refine⟨_,_,_,rfl,rfl,fun h' H=>?_,hk⟩
   have e:gI (gN os n) (k,i)=(k,i):=mM hk4 i
   have:=RnB.obj (h:=toH h) (g:=gI (gN os n)) (h':=toH h') (some (k,i)) (t5 q left cur) fun c hc hl=>by
    cases hc
    exact H.fam k hk4 i (by rw[e] at hl;exact hl)
   simp only[aM,e] at this
   exact this
  |false=>
   rw[hb] at hk
   simp only[cond_false] at hk
   obtain⟨r,r1,r2,hk⟩:=dP hk
   split at hk
   ·obtain⟨m,rfl,hm⟩:=r2 _ rfl
    refine⟨_,_,_,rfl,rfl,fun h' H=>?_,hk⟩
    have e:gI (gN os n) (4+m,0)=(k,0):=by simp only[gI,ee,db hm]
    have:=RnB.obj (h:=toH h) (g:=gI (gN os n)) (h':=toH h') (some (4+m,0)) (t5 q left cur) fun c hc hl=>by
     cases hc
     exact H.sgl m k hm (by rw[e] at hl;exact hl)
    simp only[aM,e] at this
    exact this
   ·exact hk.elim
 ·exact hk.elim
end
end Go.Proofs.Ytbmnihglaokhmaa.Am
namespace Go.Proofs.Ytbmnihglaokhmaa.Am
open Go Go.RowKit
variable {P:Program} {N:Nat} {K:Id→Prop} {os:List Nat} {n:Nat} {h:VH} {σ:VSt}
def F8 (os:List Nat)(h:VH):List Nat→Nat→(VH→Prop)→Prop
 |[],_,K=>K []
 |b::l,i,K=>dB h b fun x=>F6 os h x fun y=>eQ (i+1) fun j=>F8 os h l j fun r=>K ((i,y)::r)
theorem AK:∀{l:List Nat} {i:Nat} {K:VH→Prop},F8 os h l i K→∃hs,(∀k x,look hs k=some x→∃m,k=i+m∧m<l.length)∧
   (∀m b,l[m]?=some b→∃x y d d',look h b=some x∧look hs (i+m)=some y∧x.blks=[d]∧y.blks=[d']∧∀h',KeepOK os h h'→RnB (toH h) (gI (gN os n)) (toH h') d d')∧K hs
 |[],i,K,hk=>⟨[],(fun k x hx=>by cases hx),by simp,hk⟩
 |b::l,i,K,hk=>by
  obtain⟨x,hx,hk⟩:=bn hk
  obtain⟨y,d,d',e1,e2,e3,hk⟩:=Eo (n:=n) hk
  have hk:=bJ hk
  obtain⟨hs,h3,h4,hk⟩:=AK hk
  refine⟨(i,y)::hs,fun k z hz=>?_,fun m b' hm=>?_,hk⟩
  ·simp only[look] at hz
   split at hz
   ·exact⟨0,by omega,by simp⟩
   ·obtain⟨m,e1,e2⟩:=h3 k z hz
    exact⟨m+1,by omega,by simpa using e2⟩
  ·cases m with
   |zero=>
    simp only[fi,aK] at hm
    subst hm
    exact⟨x,y,d,d',hx,by simp[look],e1,e2,e3⟩
   |succ m=>
    obtain⟨z,z',f1,f2,q1,q2,q3⟩:=h4 m b' (by simpa using hm)
    refine⟨z,z',f1,f2,q1,?_,q3⟩
    simp only[look]
    rw[if_neg (by omega),show i+(m+1)=i+1+m by omega]
    exact q2
def Fg (h:VH):List Nat→(VH→Prop)→Prop
 |[],K=>K []
 |k::l,K=>match a7 h k with
  |some x=>Chk (!x.sgl && Fs x.fams) (Fg h l fun r=>K ((k,x)::r))
  |none=>Fg h l K
theorem ww:∀{l:List Nat} {K:VH→Prop},Fg h l K→∃hf,(∀k x,look hf k=some x→k∈l∧look h k=some x∧x.sgl=false∧∀j∈x.fams,j<4)∧(∀k∈l,look hf k=look h k)∧K hf
 |[],K,hk=>⟨[],(fun k x hx=>by cases hx),by simp,hk⟩
 |k::l,K,hk=>by
  simp only[Fg,a8] at hk
  cases hx:look h k with
  |none=>
   rw[hx] at hk
   obtain⟨hf,h1,h2,hk⟩:=ww hk
   refine⟨hf,fun j y hy=>?_,fun j hj=>?_,hk⟩
   ·obtain⟨q1,q2⟩:=h1 j y hy
    exact⟨bl _ q1,q2⟩
   ·by_cases hjl:j∈l
    ·exact h2 j hjl
    ·obtain rfl:j=k:=(a9.1 hj).resolve_right hjl
     rw[hx]
     cases hf':look hf j with
     |none=>rfl
     |some y=>exact absurd (h1 j y hf').1 hjl
  |some x=>
   rw[hx] at hk
   obtain⟨c,hk⟩:=hk.ok
   simp only[b6,iZ] at c
   obtain⟨hf,h1,h2,hk⟩:=ww hk
   refine⟨(k,x)::hf,fun j y hy=>?_,fun j hj=>?_,hk⟩
   ·simp only[look] at hy
    split at hy
    ·rename_i e
     cases hy
     subst e
     exact⟨bh ..,hx,c.1,wF c.2⟩
    ·obtain⟨q1,q2⟩:=h1 j y hy
     exact⟨bl _ q1,q2⟩
   ·simp only[look]
    by_cases e:j=k
    ·rw[if_pos e,e,hx]
    ·rw[if_neg e]
     exact h2 j ((a9.1 hj).resolve_left e)
theorem Df {h':VH}(H:KeepOK os h h'){x:VB}(hs:x.sgl=false)(hf:∀j∈x.fams,j<4):∀d∈x.blks,RnB (toH h) (gI (gN os n)) (toH h') d d:=by
 intro d hd
 cases x<;>simp[VB.sgl] at hs
 ·rename_i T t xs
  obtain⟨e,_,rfl⟩:=aP.1 hd
  exact BN H T (pA H hf e)
 ·rename_i T m t xss
  obtain⟨xs,_,rfl⟩:=aP.1 hd
  refine BN H T fun c hc=>?_
  obtain⟨e,_,rfl⟩:=aP.1 hc
  exact wW H hf e
 ·rename_i E t xss
  obtain⟨xs,_,rfl⟩:=aP.1 hd
  exact wX H hf E xs
 ·rename_i E t xss
  obtain⟨xs,_,rfl⟩:=aP.1 hd
  cases xs with
  |none=>exact .gone _
  |some xs=>exact wX H hf E xs
 ·obtain⟨l,_,rfl⟩:=aP.1 hd
  exact .obj none _ (fun c hc=>by cases hc)
def yi:Nat→Nat→List Nat→Bool
 |0,_,_=>true
 |m+1,i,b::l=>Nat.beq b i && yi m (i+1) l
 |_+1,_,[]=>false
theorem uN:∀{m i:Nat} {l:List Nat},yi m i l=true→∀j,j<m→l[j]?=some (i+j)
 |0,i,l,_,j,hj=>by omega
 |m+1,i,[],hp,j,hj=>by cases hp
 |m+1,i,b::l,hp,j,hj=>by
  simp only[yi,b6] at hp
  cases j with
  |zero=>simp[bY hp.1]
  |succ j=>
   have:=uN hp.2 j (by omega)
   rw[show i+1+j=i+(j+1) by omega] at this
   simpa using this
def KB (m:Nat)(K:Id→Prop):Prop:=∀b,K b→b.1<4+m
def A4 (m:Nat)(os:List Nat)(h:VH)(n:Nat)(K:VH→Prop):Prop:=Chk (zo os n && yi m 4 os) (Fg h [0,1,2,3] fun hf=>F8 os h os 4 fun hs=>Cp hf hs K)
theorem ua {m:Nat}{Q:VH→Prop}(hk:A4 m os h n Q):∃h',KeepOK os h h'∧Ren (toH h) (gI (gN os n)) (toH h')∧(∀K,KB m K→∀b,K b→Live (toH h) b→gI (gN os n) b=b∧Live (toH h') b)∧(∀b:Id,4+os.length≤b.1→look (toH h') b=none)∧Q h':=by
 obtain⟨c,hk⟩:=hk.ok
 simp only[b6] at c
 obtain⟨c1,c2⟩:=c
 obtain⟨hf,f1,f2,hk⟩:=ww hk
 obtain⟨hs,s1,s2,hk⟩:=AK (n:=n) hk
 have hk:=rI hk
 have hlow:∀k x,look hf k=some x→k<4:=fun k x hx=>by
  have:=(f1 k x hx).1
  simp only[a9,d6,or_false] at this
  omega
 have hf_none:∀m,look hf (4+m)=none:=by
  intro m
  cases hl:look hf (4+m) with
  |none=>rfl
  |some y=>have:=hlow _ _ hl;omega
 have fam:∀k,k<4→look (hf++hs) k=look h k:=by
  intro k hk
  have hm:k∈[0,1,2,3]:=by
   simp only[a9,d6,or_false];omega
  rw[gz,f2 k hm]
  cases hl:look h k with
  |some x=>rfl
  |none=>
   cases hl2:look hs k with
   |none=>rfl
   |some y=>obtain⟨m,e,_⟩:=s1 k y hl2;omega
 have sgl:∀m,look (hf++hs) (4+m)=look hs (4+m):=fun m=>by rw[gz,hf_none]
 have H:KeepOK os h (hf++hs):=by
  refine⟨fun m b hb _=>?_,fun k hk i hl=>?_⟩
  ·obtain⟨x,y,d,d',q1,q2,q3,q4,q5⟩:=s2 m b hb
   exact Live.of_look (aI (by rw[sgl];exact q2) (by rw[q4];rfl))
  ·unfold Live at hl⊢
   rw[az] at hl⊢
   rw[fam k hk]
   exact hl
 have cases':∀b x',look (toH (hf++hs)) b=some x'→(b.1<4∧∃x,look h b.1=some x∧look hf b.1=some x∧x.blks[b.2]?=some x')∨∃m c d,b=(4+m,0)∧os[m]?=some c∧look (toH h) (c,0)=some d∧RnB (toH h) (gI (gN os n)) (toH (hf++hs)) d x':=by
  intro b x' hx
  rw[az] at hx
  obtain⟨x,q1,q2⟩:=bu.1 hx
  by_cases hb:b.1<4
  ·rw[fam _ hb] at q1
   have hm:b.1∈[0,1,2,3]:=by
    simp only[a9,d6,or_false];omega
   exact .inl ⟨hb,x,q1,by rw[f2 _ hm];exact q1,q2⟩
  ·obtain⟨m,hm⟩:∃m,b.1=4+m:=⟨b.1-4,by omega⟩
   rw[hm,sgl] at q1
   obtain⟨m',e,hlt⟩:=s1 _ _ q1
   obtain rfl:m=m':=by omega
   obtain⟨z,y,d,d',r1,r2,r3,r4,r5⟩:=s2 m os[m] (a6 hlt)
   rw[r2] at q1
   obtain rfl:=bm q1
   rw[r4] at q2
   obtain⟨b1,b2⟩:=b
   simp only at hm q2
   cases b2 with
   |succ j=>simp at q2
   |zero=>
    simp only[fi,aK] at q2
    subst q2 hm
    exact .inr ⟨m,os[m],d,rfl,a6 hlt,aI r1 (by rw[r3];rfl),r5 _ H⟩
 refine⟨hf++hs,H,⟨fun b x' hx=>?_,fun b c x y _ _ _ _ he=>AI c1 he⟩,fun K hK b hb hl=>?_,fun b hb=>?_,hk⟩
 ·rcases cases' b x' hx with⟨g1,x,g2,g3,g4⟩|⟨m,c,d,rfl,g1,g2,g3⟩
  ·refine⟨x',?_,?_⟩
   ·simp only[gI,mN os n g1]
    exact aI g2 g4
   ·obtain⟨_,_,q3,q4⟩:=f1 _ _ g3
    exact Df H q3 q4 x' (dm g4)
  ·refine⟨d,?_,g3⟩
   simp only[gI,ee,db g1]
   exact g2
 ·have hb4:=hK b hb
  by_cases hlt:b.1<4
  ·obtain⟨b1,b2⟩:=b
   exact⟨mM hlt b2,H.fam b1 hlt b2 hl⟩
  ·obtain⟨j,hj⟩:∃j,b.1=4+j:=⟨b.1-4,by omega⟩
   have hos:=uN c2 j (by omega)
   obtain⟨x,y,d,d',q1,q2,q3,q4,q5⟩:=s2 j _ hos
   obtain⟨b1,b2⟩:=b
   simp only at hj
   subst hj
   unfold Live at hl
   rw[az,q1] at hl
   simp only[bp,q3] at hl
   cases b2 with
   |succ i=>simp at hl
   |zero=>
    refine⟨by simp only[gI,ee,db hos],H.sgl j _ hos ?_⟩
    exact Live.of_look (aI q1 (by rw[q3];rfl))
 ·cases hx:look (toH (hf++hs)) b with
  |none=>rfl
  |some x'=>
   exfalso
   rcases cases' b x' hx with⟨g1,_⟩|⟨m,c,d,rfl,g1,_⟩
   ·omega
   ·have:=(cz.1 g1).1
    simp only at hb
    omega
def oY (h:VH)(t:VT):List Nat→(VT→Prop)→Prop
 |[],K=>K []
 |k::ts,K=>(match a7 t k with
  |some v=>cT h v fun v=>oY h t ts fun r=>K ((k,v)::r)
  |none=>oY h t ts K)
theorem mO {t:VT}:∀{ts:List Nat} {K:VT→Prop},oY h t ts K→∃r,(∀k v',look r k=some v'→∃v,look t k=some v∧fwd (toH h) v.toD=v'.toD)∧K r
 |[],K,hk=>⟨[],(fun k v hv=>by cases hv),hk⟩
 |k::ts,K,hk=>by
  simp only[oY,a8] at hk
  cases hl:look t k with
  |none=>
   rw[hl] at hk
   exact mO hk
  |some v=>
   rw[hl] at hk
   obtain⟨v',h1,h2⟩:=kr hk
   obtain⟨r,h3,h4⟩:=mO h2
   refine⟨(k,v')::r,fun j w hw=>?_,h4⟩
   simp only[look] at hw
   split at hw
   ·rename_i e
    cases hw
    subst e
    exact⟨v,hl,h1⟩
   ·exact h3 j w hw
def z5 (os:List Nat):VT→(VT→Prop)→Prop
 |[],K=>K []
 |(k,v)::l,K=>bN os v fun v=>z5 os l fun l=>K ((k,v)::l)
theorem tv:∀{l:VT} {K:VT→Prop},z5 os l K→∃r,(∀k v',look r k=some v'→∃v,look l k=some v∧∀h',KeepOK os h h'→Rn (toH h) (gI (gN os n)) (toH h') v.toD v'.toD)∧K r
 |[],K,hk=>⟨[],(fun k v hv=>by cases hv),hk⟩
 |(k,v)::l,K,hk=>by
  obtain⟨v',h1,_,h2⟩:=jA (h:=h) (n:=n) hk
  obtain⟨r,h3,h4⟩:=tv h2
  refine⟨(k,v')::r,fun j w hw=>?_,h4⟩
  simp only[look] at hw⊢
  split at hw
  ·rename_i e
   cases hw
   exact⟨v,by rw[if_pos e],h1⟩
  ·rename_i e
   rw[if_neg e]
   exact h3 j w hw
def GF (m:Nat)(ts:List Nat)(σ:VSt)(Q:VSt→Prop):Prop:=
 match σ with
 |⟨t0,h0,n0⟩=>oY h0 t0 ts fun t=>sr h0 (fb (List.range' 4 m) (Bb h0 (DC t))) fun os=>A4 m os h0 n0 fun h'=>z5 os t fun t'=>eQ (4+os.length) fun n=>Q ⟨t',h',n⟩
theorem Er {m:Nat}{ts:List Nat}{Q:VSt→Prop}(hK:KB m K)(h:GF m ts σ Q):∃σ',Weak P N K σ.toD σ'.toD∧Q σ':=by
 obtain⟨t,t1,h1⟩:=mO h
 obtain⟨os,h2⟩:=oP h1
 obtain⟨h',q1,q2,q3,q4,h3⟩:=ua h2
 obtain⟨t',t2,h4⟩:=tv (h:=σ.h) (n:=σ.n) h3
 have h5:=bJ h4
 refine⟨_,pV (σ':=VSt.toD ⟨t',h',_⟩) q2 (fun k d' hd=>?_) (fun b hb hl=>q3 K hK b hb hl) q4,h5⟩
 simp only[VSt.toD,cx] at hd
 obtain⟨v',hv,rfl⟩:=bj.1 hd
 obtain⟨v,hv1,hv2⟩:=t2 k v' hv
 obtain⟨v0,hv3,hv4⟩:=t1 k v hv1
 exact⟨v0.toD,by simp only[VSt.toD,cx,hv3,aM],.fwd _ _ (by have h9:=hv2 h' q1;rw[←hv4] at h9;exact h9)⟩
end Go.Proofs.Ytbmnihglaokhmaa.Am
namespace Go.Proofs.Ytbmnihglaokhmaa.Am
open Go Go.RowKit
variable {P:Program} {N:Nat} {K:Id→Prop} {Q:Exit→VSt→Prop} {σ:VSt} {h:VH}
def rowP (h:VH):List Nat→List Nat
 |[]=>[]
 |b::l=>match a7 h b with
  |some (.row _ t _)=>(match t.pure with|true=>b::rowP h l|false=>rowP h l)
  |_=>rowP h l
theorem rowP_ok:∀{l:List Nat},∀b∈rowP h l,FI h b
 |[],b,hb=>by cases hb
 |c::l,b,hb=>by
  simp only[rowP] at hb
  split at hb
  ·rename_i E t xs hc
   rw[a8] at hc
   split at hb
   ·rename_i hp
    rcases a9.1 hb with rfl|hb
    ·exact .inl ⟨E,t,xs,hp,hc⟩
    ·exact rowP_ok b hb
   ·exact rowP_ok b hb
  ·exact rowP_ok b hb
def F4 (h:VH)(l:List Nat)(K:VH→Prop):Prop:=eR (rowP h l) fun ws=>FM h ws fun u=>lO u h K
theorem AH {l:List Nat}{K:VH→Prop}(hk:F4 h l K):∃h1,(∃bs,∀b,look (puts (frz (toH h) bs) (toH h)) b=look (toH h1) b)∧K h1:=by
 have h1:=cg hk
 have h2:=(xn h1).1
 have h3:=gG h2
 exact⟨_,⟨_,(Cc fun b hb=>rowP_ok b hb).1.1⟩,h3⟩
theorem Dt {t:VT}{n:Nat}{h1:VH}{bs:List Id}(he:∀b,look (puts (frz (toH h) bs) (toH h)) b=look (toH h1) b):Weak P N K (VSt.toD ⟨t,h,n⟩) (VSt.toD ⟨t,h1,n⟩):=
 Weak.trans (pU bs) fun _ _ _ _ _ hs=>hs.congr (fun _=>rfl) (fun b=>(he b).symm) rfl
def GC (t:VT)(h:VH):List Nat→List Nat
 |[]=>[]
 |k::l=>(match a7 t k with
  |some (.ptr b _)=>(match a7 h b with|some x=>qS x|none=>[])
  |some v=>fd v
  |none=>[])++GC t h l
def ld (m:Nat)(fs ts:List Nat)(σ:VSt)(Q:VSt→Prop):Prop:=
 match σ with|⟨t0,h0,n0⟩=>F4 h0 (GC t0 h0 fs) fun h=>GF m ts ⟨t0,h,n0⟩ Q
theorem ig {m:Nat}(hK:KB m K){fs ts:List Nat}{K1:VSt→Prop}(h:ld m fs ts σ K1):∃σ',Weak P N K σ.toD σ'.toD∧K1 σ':=by
 obtain⟨t0,h0,n0⟩:=σ
 obtain⟨h1,⟨bs,he⟩,h2⟩:=AH h
 obtain⟨σ',w1,h4⟩:=Er (P:=P) (N:=N) hK h2
 exact⟨σ',Weak.trans (Dt he) w1,h4⟩
theorem xv [PhC P]{c:Code}{σ':VSt}(hw:Weak P N K σ.toD σ'.toD)(h:At P N K c Q σ'):At P N K c Q σ:=by
 obtain⟨e,σ1,h1,h2⟩:=h
 exact⟨e,σ1,.pre hw h1,h2⟩
def Dx (back:VSt→Prop)(Q:Exit→VSt→Prop):Exit→VSt→Prop
 | .normal,σ=>back σ
 |e,σ=>Q e σ
theorem bw [PhC P]{α:Type}{c:Code}{m:Nat}(hK:KB m K)(fs ts:List Nat)(st:α→VSt)(p:α→Prop)(μ:α→Nat)(x0:α)(h0:p x0)(hg:ld m fs ts σ fun σ'=>σ'=st x0)
  (round:∀x,p x→At P N K c (Dx (fun σ'=>ld m fs ts σ' fun σ2=>∃y,p y∧μ y<μ x∧σ2=st y) Q) (st x)):At P N K (.loop c) Q σ:=by
 have key:∀n x,μ x=n→p x→∃e σ',LoopB P N K c (st x).toD e σ'.toD∧(jk P N K σ'.toD→Q e σ'):=by
  intro n
  induction n using Nat.strongRecOn with
  |_ n ih=>
   intro x hn hp
   obtain⟨e,σ1,h1,h2⟩:=round x hp
   cases e with
   |normal=>
    rcases fa (jk P N K σ1.toD) with hr|hr
    ·obtain⟨σ2,w1,y,q1,q2,rfl⟩:=ig (P:=P) (N:=N) hK (h2 hr)
     obtain⟨e,σ3,h3,h4⟩:=ih (μ y) (by omega) y rfl q1
     exact⟨e,σ3,.round h1 (.pre w1 h3),h4⟩
    ·exact⟨.ret,σ1,.round h1 (.out (by simp) (io hr _ _)),fun h=>absurd h hr⟩
   |_=>exact⟨_,σ1,.out (by simp) h1,h2⟩
 obtain⟨σ0,w0,rfl⟩:=ig (P:=P) (N:=N) hK hg
 obtain⟨e,σ1,h1,h2⟩:=key _ x0 rfl h0
 exact⟨e,σ1,.pre w0 (.loop h1),h2⟩
def A2:V→Bool
 | .ptr .. | .eptr .. | .iptr .. | .box .. | .dbox .. | .aptr .. | .fptr .. | .feptr .. | .faptr ..=>true
 |_=>false
theorem y9 {v:V}(h:A2 v=true):dU v.toD=true:=by cases v<;>first|rfl|cases h
def zD (Θ:TT)(σ:VSt):List ResultVar→(List V→Prop)→Prop
 |[],K=>K []
 | .tmp k::rs,K=>(match a7 σ.t k with
  |some v=>zD Θ σ rs fun vs=>K (v::vs)
  |none=>zD Θ σ rs fun vs=>K (.undef::vs))
 | .cell k T::rs,K=>bK σ.t k fun v=>Chk (A2 v) (bK Θ T fun ti=>xY ti σ.h v fun r=>zD Θ σ rs fun vs=>K (r::vs))
theorem n7 {Θ:TT}(hΘ:Θ.ok P):∀{rs:List ResultVar} {K:List V→Prop},zD Θ σ rs K→∃vs,rs.mapM (nI P σ.toD)=some (aB vs)∧K vs
 |[],K,h=>⟨[],rfl,h⟩
 | .tmp k::rs,K,h=>by
  simp only[zD,a8] at h
  split at h
  ·rename_i v e
   obtain⟨vs,h1,h2⟩:=n7 hΘ h
   have hr:nI P σ.toD (.tmp k)=some v.toD:=by simp only[nI,VSt.toD,cx,e,aM,e9]
   exact⟨v::vs,by simp only[gh,hr,h1,aB];rfl,h2⟩
  ·rename_i e
   obtain⟨vs,h1,h2⟩:=n7 hΘ h
   have hr:nI P σ.toD (.tmp k)=some V.undef.toD:=by simp only[nI,VSt.toD,cx,e,Option.map_none,Option.getD_none];rfl
   exact⟨.undef::vs,by simp only[gh,hr,h1,aB];rfl,h2⟩
 | .cell k T::rs,K,h=>by
  obtain⟨v,l1,h1⟩:=aQ h
  obtain⟨c,h2⟩:=h1.ok
  obtain⟨ti,l2,h3⟩:=aQ h2
  obtain⟨r,h4,h5⟩:=uh (hΘ _ _ l2) h3
  obtain⟨vs,h6,h7⟩:=n7 hΘ h5
  refine⟨r::vs,?_,h7⟩
  have hr:nI P σ.toD (.cell k T)=some r.toD:=by
   simp only[nI,VSt.toD,cx,l1,aM,bp,y9 c,if_true,h4]
  simp only[gh,hr,h6,aB]
  rfl
def EG:List V→V
 |[v]=>v
 |vs=>.tup vs
theorem C0 (vs:List V):one (aB vs)=(EG vs).toD:=by
 match vs with
 |[]=>rfl
 |[v]=>rfl
 |v::v'::vs=>rfl
theorem AG {g g':HL}(he:∀b,look g b=look g' b)(d:D):fwd g d=fwd g' d:=mL fun b _=>he b
theorem Rn.congr {h1 h2 h':HL}{g:Id→Id}(he:∀b,look h1 b=look h2 b){d d':D}(hr:Rn h1 g h' d d'):Rn h2 g h' d d':=by
 have hl:∀b,Live h2 b→Live h1 b:=fun b hb=>by unfold Live at hb⊢;rw[he];exact hb
 induction hr with
 |ref b hb=>exact .ref b fun h=>hb (hl _ h)
 |ptr b o hb=>exact .ptr b o fun h=>hb (hl _ h)
 |eptr b i o hb=>exact .eptr b i o fun h=>hb (hl _ h)
 |vref b o n hb=>exact .vref b o n fun h=>hb (hl _ h)
 |mp b hb=>exact .mp b fun h=>hb (hl _ h)
 |lst b l hb=>exact .lst b l (by rw[←he];exact hb)
 |box b cs hb=>exact .box b cs (by rw[←he];exact hb)
 |fwd d d' hd ih=>exact .fwd d d' (by rw[←AG he];exact ih)
 |pure d hd=>exact .pure d hd
 |nils=>exact .nils
 |iptr e o=>exact .iptr e o
 |gv k=>exact .gv k
 |agg cs cs' hl hc ih=>exact .agg cs cs' hl ih
 |tup cs cs' hl hc ih=>exact .tup cs cs' hl ih
 |clo f cs cs' hl hc ih=>exact .clo f cs cs' hl ih
 |ifc T d d' hd ih=>exact .ifc T d d' ih
 |undef d=>exact .undef d
 |junk=>exact .junk
theorem Ren.congr {h1 h2 h':HL}{g:Id→Id}(he:∀b,look h1 b=look h2 b)(hr:Ren h1 g h'):Ren h2 g h':=by
 refine⟨fun b x' hx=>?_,hr.inj⟩
 obtain⟨x,h3,h4⟩:=hr.blk b x' hx
 refine⟨x,by rw[←he];exact h3,?_⟩
 cases h4 with
 |var T cs cs' hl hc=>exact .var T cs cs' hl fun i hi=>(hc i hi).congr he
 |row E l l' hl hc=>exact .row E l l' hl fun i hi=>⟨(hc i hi).1.congr he,fun s hs=>⟨((hc i hi).2 s hs).1,fun j hj=>(((hc i hi).2 s hs).2 j hj).congr he⟩⟩
 |froz l=>exact .froz l
 |fvar cs=>exact .fvar cs
 |obj b p hb=>exact .obj b p fun c hc h=>hb c hc (by unfold Live at h⊢;rw[he];exact h)
 |gone x=>exact .gone x
def CB (Θ:TT)(rs:List ResultVar)(m:Nat)(pr:Bool)(σ:VSt)(Q:V→VH→Prop):Prop:=
 match σ with
 |⟨t0,h0,n0⟩=>zD Θ ⟨t0,h0,n0⟩ rs fun vs=>F4 h0 (match pr with|true=>fd (EG vs)|false=>[]) fun h=>cT h (EG vs) fun v=>sr h (fb (List.range' 4 m) (Bb h (fd v))) fun os=>A4 m os h n0 fun hout=>bN os v fun r=>Q r hout
theorem CC {Θ:TT}(hΘ:Θ.ok P){rs:List ResultVar}{m:Nat}(hK:KB m K){pr:Bool}{Q:V→VH→Prop}(h:CB Θ rs m pr σ Q):∃r hout,rE P rs K σ.toD r.toD (toH hout)∧Q r hout:=by
 obtain⟨t0,h0,n0⟩:=σ
 obtain⟨vs,r1,h1⟩:=n7 hΘ h
 obtain⟨hh,⟨bs,he⟩,h2⟩:=AH h1
 obtain⟨v,f1,h3⟩:=kr h2
 obtain⟨os,h4⟩:=oP h3
 obtain⟨hout,q1,q2,q3,q4,h5⟩:=ua h4
 obtain⟨r,b1,_,h6⟩:=jA (h:=hh) (n:=n0) h5
 refine⟨r,hout,⟨_,bs,_,r1,?_,q2.congr fun b=>(he b).symm,fun b hb hl=>?_⟩,h6⟩
 ·refine Rn.congr (fun b=>(he b).symm) ?_
  rw[C0]
  refine .fwd _ _ ?_
  rw[f1]
  exact b1 hout q1
 ·refine q3 K hK b hb ?_
  have hl2:=lD (bs:=bs) hl
  unfold Live at hl2⊢
  rw[←he]
  exact hl2
theorem iJ {l:List D}{i:Nat}(hi:i<l.length):∀b∈aA (l.getD i .undef),b∈bE l:=by
 refine gS ?_
 rw[aX,a6 hi]
 exact fh hi
theorem qG (d:D):∀c∈d.cells,∀b∈aA c,b∈aA d:=by
 intro c hc b hb
 cases d with
 |agg cs=>simp only[aA];exact gS hc b hb
 |_=>simp only[D.cells,bd] at hc;subst hc;exact hb
theorem Rn.sub {h h' h2:HL}{g:Id→Id}{d d':D}(hr:Rn h g h' d d'):(∀b∈aA d',Live h' b→Live h2 b)→Rn h g h2 d d':=by
 induction hr with
 |ref b hb=>intro hs;exact .ref b fun h=>hs b (by simp[aA]) (hb h)
 |ptr b o hb=>intro hs;exact .ptr b o fun h=>hs b (by simp[aA]) (hb h)
 |eptr b i o hb=>intro hs;exact .eptr b i o fun h=>hs b (by simp[aA]) (hb h)
 |vref b o n hb=>intro hs;exact .vref b o n fun h=>hs b (by simp[aA]) (hb h)
 |mp b hb=>intro hs;exact .mp b fun h=>hs b (by simp[aA]) (hb h)
 |lst b l hb=>intro _;exact .lst b l hb
 |box b cs hb=>intro _;exact .box b cs hb
 |fwd d d' hd ih=>intro hs;exact .fwd d d' (ih hs)
 |pure d hd=>intro _;exact .pure d hd
 |nils=>intro _;exact .nils
 |iptr e o=>intro _;exact .iptr e o
 |gv k=>intro _;exact .gv k
 |agg cs cs' hl hc ih=>intro hs;exact .agg cs cs' hl fun i hi=>ih i hi fun b hb=>hs b (by simp only[aA];exact iJ (by omega) b hb)
 |tup cs cs' hl hc ih=>intro hs;exact .tup cs cs' hl fun i hi=>ih i hi fun b hb=>hs b (by simp only[aA];exact iJ (by omega) b hb)
 |clo f cs cs' hl hc ih=>intro hs;exact .clo f cs cs' hl fun i hi=>ih i hi fun b hb=>hs b (by simp only[aA];exact iJ (by omega) b hb)
 |ifc T d d' hd ih=>intro hs;exact .ifc T d d' (ih fun b hb=>hs b (by simpa only[aA] using hb))
 |undef d=>intro _;exact .undef d
 |junk=>intro _;exact .junk
def yG:Blk→List Id
 | .var _ cs=>bE cs
 | .row _ l=>bE l
 | .obj (some c) _=>[c]
 |_=>[]
theorem RnB.sub {h h' h2:HL}{g:Id→Id}{x x':Blk}(hr:RnB h g h' x x')(hs:∀b∈yG x',Live h' b→Live h2 b):RnB h g h2 x x':=by
 cases hr with
 |var T cs cs' hl hc=>exact .var T cs cs' hl fun i hi=>(hc i hi).sub fun b hb=>hs b (iJ (by omega) b hb)
 |row E l l' hl hc=>
  refine .row E l l' hl fun i hi=>⟨(hc i hi).1.sub fun b hb=>hs b (iJ (by omega) b hb),fun s hw=>⟨((hc i hi).2 s hw).1,fun j hj=>(((hc i hi).2 s hw).2 j hj).sub fun b hb=>hs b (iJ (i:=i) (by omega) b ?_)⟩⟩
  have hw2:=((hc i hi).2 s hw).1
  have hj2:j<(l'.getD i .undef).cells.length:=by rw[hw2.1];exact hj
  refine qG _ ((l'.getD i .undef).cells.getD j .undef) ?_ b hb
  rw[aX (l:=(l'.getD i .undef).cells),a6 hj2]
  exact fh _
 |froz l=>exact .froz l
 |fvar cs=>exact .fvar cs
 |obj b p hb=>exact .obj b p fun c hc h=>hs c (by subst hc;simp[yG]) (hb c hc h)
 |gone x=>exact .gone x
theorem xF (t:Ty)(x:t.den):∀b∈aA (aj t x),b.1∈t.fams:=by
 have hh:∀(k:Nat) (o:Option Nat),∀b∈aA (jJ k o),b.1=k:=fun k o b hb=>by
  cases o with
  |none=>cases hb
  |some i=>simp only[jJ,aA,bd] at hb;rw[hb]
 intro b hb
 cases t
 case hr k=>simp only[aj] at hb;simp[Ty.fams,hh _ _ b hb]
 case hp k=>
  cases x with
  |none=>cases hb
  |some i=>simp only[aj,p8,aA,bd] at hb;rw[hb];simp[Ty.fams]
 case vtxo k=>simp only[aj,aA,bE,d5,il] at hb;simp[Ty.fams,hh _ _ b hb]
 case pplm k=>simp only[aj,fX,fI,fR,aA,bE,d5,il] at hb;simp[Ty.fams,hh _ _ b hb]
 case pplo k k'=>
  simp only[aj,aA,bE,d5,il,cm] at hb
  rcases hb with hb|hb<;>simp[Ty.fams,hh _ _ b hb]
 case evto k=>simp only[aj,aA,bE,d5,il] at hb;simp[Ty.fams,hh _ _ b hb]
 case nod k=>simp only[aj,fX,fI,fR,aA,bE,d5,il] at hb;simp[Ty.fams,hh _ _ b hb]
 case lres k k'=>
  simp only[aj,aA,bE,d5,il,cm,bd] at hb
  rcases hb with rfl|hb
  ·simp[Ty.fams]
  ·simp[Ty.fams,hh _ _ b hb]
 case ob t=>cases x<;>cases hb
 all_goals cases hb
theorem jE (t:Ty)(xs:List t.den):∀b∈bE (xs.map (aj t)),b.1∈t.fams:=by
 intro b hb
 rw[fl,dM] at hb
 obtain⟨d,hd,hb⟩:=hb
 obtain⟨x,_,rfl⟩:=aP.1 hd
 exact xF t x b hb
theorem th {l m:List D}{b:Id}:b∈bE (l++m)↔b∈bE l∨b∈bE m:=by simp[fl]
theorem EV (y:VB):∀d∈y.blks,∀b∈yG d,b.1∈qS y++y.fams:=by
 intro d hd b hb
 rw[cm]
 cases y with
 |var T cs=>simp only[VB.blks,bd] at hd;subst hd;exact .inl (dw cs b hb)
 |vari T pre m t xs post=>
  simp only[VB.blks,bd] at hd
  subst hd
  simp only[yG,th] at hb
  rcases hb with(hb|hb)|hb
  ·exact .inl (dK _ (dw _ b hb))
  ·exact .inr (jE t xs b hb)
  ·exact .inl (dA _ (dw _ b hb))
 |row E t xs=>simp only[VB.blks,bd] at hd;subst hd;exact .inr (jE t xs b hb)
 |lit E vs=>simp only[VB.blks,bd] at hd;subst hd;exact .inl (dw vs b hb)
 |fvar T t xs=>
  obtain⟨x,_,rfl⟩:=aP.1 hd
  simp only[yG,fl,dM] at hb
  obtain⟨c,hc,hb⟩:=hb
  exact .inr (xF t x b (qG _ c hc b hb))
 |fvari T m t xss=>obtain⟨xs,_,rfl⟩:=aP.1 hd;exact .inr (jE t xs b hb)
 |frow E t xss=>obtain⟨xs,_,rfl⟩:=aP.1 hd;exact .inr (jE t xs b hb)
 |frowx E t xss=>
  obtain⟨xs,_,rfl⟩:=aP.1 hd
  cases xs with
  |none=>cases hb
  |some xs=>exact .inr (jE t xs b hb)
 |froz t xs=>simp only[VB.blks,bd] at hd;subst hd;cases hb
 |fvb t x=>simp only[VB.blks,bd] at hd;subst hd;cases hb
 |moved k i=>simp only[VB.blks,bd] at hd;subst hd;cases hb
 |gone=>simp only[VB.blks,bd] at hd;subst hd;cases hb
 |map l=>simp only[VB.blks,bd] at hd;subst hd;cases hb
 |maps ls=>obtain⟨l,_,rfl⟩:=aP.1 hd;cases hb
 |it k i n left cur=>simp only[VB.blks,bd] at hd;subst hd;simp only[yG,wD,bd] at hb;subst hb;simp[qS]
def AQ:VH→Bool
 |[]=>false
 |(k,_)::l=>Nat.blt k 4||AQ l
def DI (S:List Nat)(j:Nat):Bool:=Nat.ble 4 j||S.contains j
def CM (S l:List Nat):Bool:=l.all (DI S)
def yh (h:VH)(S:List Nat):List Nat:=h.flatMap fun p=>match DI S p.1 with|true=>(qS p.2++p.2.fams).filter fun k=>Nat.blt k 4|false=>[]
def Bq (S fs0:List Nat)(r:V)(h:VH):Bool:=CM S fs0 && CM S (fd r) && h.all fun p=>!DI S p.1||CM S (qS p.2++p.2.fams)
def tQ (S:List Nat):VH→(VH→Prop)→Prop
 |[],K=>K []
 |(j,x)::l,K=>match DI S j with
  |true=>tQ S l fun r=>K ((j,x)::r)
  |false=>tQ S l K
theorem oL {S:List Nat}:∀{l:VH} {K:VH→Prop},tQ S l K→∃l',(∀j,look l' j=if DI S j=true then look l j else none)∧K l'
 |[],K,h=>⟨[],fun j=>by simp[look],h⟩
 |(k,x)::l,K,h=>by
  simp only[tQ] at h
  split at h
  ·rename_i e
   obtain⟨l',h1,h2⟩:=oL (l:=l) h
   refine⟨_,fun j=>?_,h2⟩
   simp only[look,h1]
   by_cases ej:j=k
   ·subst ej;simp[e]
   ·simp[ej]
  ·rename_i e
   obtain⟨l',h1,h2⟩:=oL (l:=l) h
   refine⟨_,fun j=>?_,h2⟩
   simp only[look,h1]
   by_cases ej:j=k
   ·subst ej;simp[e]
   ·simp[ej]
def tD (fs0:List Nat)(r:V)(h:VH)(K:VH→Prop):Prop:=
 match AQ h with
 |false=>K h
 |true=>eR (fb [] (fs0++(fd r).filter fun k=>Nat.blt k 4)) fun S=>eR (fb S (yh h S)) fun S=>eR (fb S (yh h S)) fun S=>eR (fb S (yh h S)) fun S=>Chk (Bq S fs0 r h) (tQ S h K)
theorem Aq {fs0:List Nat}{r:V}{rs:List ResultVar}{σ:VSt}{K:Id→Prop}(hK:∀b,K b→b.1<4→b.1∈fs0){h:VH}{Q:VH→Prop}(hr:rE P rs K σ.toD r.toD (toH h))(hk:tD fs0 r h Q):∃h',rE P rs K σ.toD r.toD (toH h')∧Q h':=by
 unfold tD at hk
 split at hk
 ·exact⟨h,hr,hk⟩
 ·have hk:=cg (cg (cg (cg hk)))
  obtain⟨c,hk⟩:=hk.ok
  generalize fb _ (yh h _)=S at *
  simp only[Bq,CM,b6,bc,Bool.or_eq_true,iZ] at c
  obtain⟨⟨c1,c2⟩,c3⟩:=c
  obtain⟨h',h1,h2⟩:=oL hk
  refine⟨h',?_,h2⟩
  have hl:∀b:Id,look (toH h') b=if DI S b.1=true then look (toH h) b else none:=by
   intro b
   rw[az,az,h1]
   split<;>rfl
  have hlv:∀b:Id,DI S b.1=true→Live (toH h) b→Live (toH h') b:=by
   intro b hb hv
   unfold Live at hv⊢
   rw[hl,if_pos hb]
   exact hv
  obtain⟨ds,bs,g,r1,r2,r3,r4⟩:=hr
  refine⟨ds,bs,g,r1,r2.sub fun b hb=>hlv b (c2 _ (iK r b hb)),⟨fun b x' hx=>?_,fun b b2 x y hx hy=>?_⟩,fun b hb hv=>?_⟩
  ·rw[hl] at hx
   split at hx
   ·rename_i e
    obtain⟨x,q1,q2⟩:=r3.blk b x' hx
    refine⟨x,q1,q2.sub fun b2 hb2=>hlv b2 ?_⟩
    rw[az] at hx
    obtain⟨y,hy1,hy2⟩:=bu.1 hx
    rcases c3 _ (dr hy1) with h0|h0
    ·simp only at h0;rw[e] at h0;cases h0
    ·exact h0 _ (EV y x' (dm hy2) b2 hb2)
   ·cases hx
  ·rw[hl] at hx hy
   split at hx
   ·split at hy
    ·exact r3.inj b b2 x y hx hy
    ·cases hy
   ·cases hx
  ·obtain⟨q1,q2⟩:=r4 b hb hv
   refine⟨q1,hlv b ?_ q2⟩
   rcases cY b.1 4 with hlt|hge
   ·exact c1 _ (hK b hb hlt)
   ·have:Nat.ble 4 b.1=true:=by rw[Nat.ble_eq];exact hge
    simp[DI,this]
def rY (h:VH):List Nat:=(keysV h).filter fun k=>Nat.blt k 4
def Ff (Q:VSt→Prop):Exit→VSt→Prop
 | .normal,σ=>Q σ
 | .ret,σ=>Q σ
 |_,_=>False
def bD:List V→Nat→VT
 |[],_=>[]
 |v::l,k=>(k,v)::bD l (k+1)
theorem tq:∀(l:List V) (k:Nat),((aB l).zipIdx k).map (fun x=>(x.2,x.1))=toT (bD l k)
 |[],k=>rfl
 |v::l,k=>by simp[aB,pY,bD,tq l (k+1),toT]
theorem yV {hin:VH}{n0:Nat}(hl:ze n0 hin=true):∀b:Id,n0≤b.1→look (toH hin) b=none:=by
 intro b hb
 rw[az]
 cases hx:look hin b.1 with
 |none=>rfl
 |some x=>
  have:=sy hl b.1 (aP.2 ⟨_,dr hx,rfl⟩)
  omega
theorem D9 [PhC P] {Θ : TT} (hΘ : Θ.ok P) {f : FuncId} {fn : Func} {c : Code} (hf : P.funcs[f]? = some fn) (hb : fn.body = some c) (hname : (fn.name == "runtime.NumGoroutine") = false) (pr : Bool) {vs : List V} {hin : VH} (m n0 : Nat) (hn0 : 4 + m = n0) (hlt : ze n0 hin = true) (hnd : jS (keysV hin) = true) (hl : Nat.ble vs.length fn.ntmps = true)
  {R:V→VH→Prop} {r0:V} {hout0:VH} (h0:R r0 hout0)
  (h:∀K,KB m K→(∀d∈aB vs,bnd 6 d)→(∀x∈hin,∀d∈x.2.blks,bndB 6 d)→At P fn.ntmps K c (Ff fun σ=>CB Θ fn.results.toList m pr σ fun r hout=>tD (rY hin) r hout (R r)) ⟨bD vs 0,hin,n0⟩):∃r hout,R r hout∧bt P f vs hin r hout:=by
 have hlen:(aB vs).length≤fn.ntmps:=by rw[aR];exact Nat.le_of_ble_eq_true hl
 have e1:z0 (aB vs)=toT (bD vs 0):=tq vs 0
 have hfr:=yV hlt
 have hK:KB m (Live (toH hin)):=by
  intro b hb
  rcases cY b.1 (4+m) with hlt|hge
  ·exact hlt
  ·unfold Live at hb
   rw[hfr b (by omega)] at hb
   cases hb
 have hbnd:(∀b x,look (toH hin) b=some x→bndB 6 x)→∀x∈hin,∀d∈x.2.blks,bndB 6 d:=by
  rintro hq ⟨k,x⟩ hx d hd
  obtain⟨i,hi⟩:=List.getElem?_of_mem hd
  exact hq (k,i) d (aI (gC (by rw[fJ];exact iO hnd) hx) hi)
 rcases fa ((∀d∈aB vs,bnd 6 d)∧∀b x,look (toH hin) b=some x→bndB 6 x) with hbb|hbb
 ·obtain⟨e,σ',h1,h2⟩:=h _ hK hbb.1 (hbnd hbb.2)
  rcases fa (jk P fn.ntmps (Live (toH hin)) σ'.toD) with hr|hr
  ·have h3:=h2 hr
   have hfin:(e= .normal∨e= .ret)∧CB Θ fn.results.toList m pr σ' fun r hout=>tD (rY hin) r hout (R r):=by
    cases e with
    |normal=>exact⟨.inl rfl,h3⟩
    |ret=>exact⟨.inr rfl,h3⟩
    |_=>exact h3.elim
   obtain⟨r,hout1,q1,q2⟩:=CC hΘ hK hfin.2
   obtain⟨hout,q1,q2⟩:=Aq (fun b hb hlt=>by
    unfold Live at hb
    rw[az] at hb
    obtain⟨d,hd⟩:=mh.1 hb
    obtain⟨y,hy,-⟩:=bu.1 hd
    simp only[rY,kP]
    exact⟨by rw[←fJ];exact aP.2 ⟨_,dr hy,rfl⟩,by simpa[Nat.blt_eq] using hlt⟩) q1 q2
   refine⟨r,hout,q2,vY hf hb hname rfl rfl hlen hfr fun _ _=>⟨e,σ'.toD,?_,fun _=>⟨hfin.1,q1⟩⟩⟩
   rw[e1]
   exact h1
  ·refine⟨r0,hout0,h0,vY hf hb hname rfl rfl hlen hfr fun _ _=>⟨e,σ'.toD,?_,fun h=>absurd h hr⟩⟩
   rw[e1]
   exact h1
 ·exact⟨r0,hout0,h0,vY hf hb hname rfl rfl hlen hfr fun b1 b2=>absurd ⟨b1,b2⟩ hbb⟩
theorem bg [PhC P] {Θ : TT} (hΘ : Θ.ok P) {f : FuncId} {fn : Func} {c : Code} (hf : P.funcs[f]? = some fn) (hb : fn.body = some c) (hname : (fn.name == "runtime.NumGoroutine") = false) (pr : Bool) {vs : List V} {hin : VH} (m n0 : Nat) (hn0 : 4 + m = n0) (hlt : ze n0 hin = true) (hnd : jS (keysV hin) = true) (hl : Nat.ble vs.length fn.ntmps = true) {r : V} {hout : VH}
  (h:∀K,KB m K→(∀d∈aB vs,bnd 6 d)→(∀x∈hin,∀d∈x.2.blks,bndB 6 d)→At P fn.ntmps K c (Ff fun σ=>CB Θ fn.results.toList m pr σ fun r' hout'=>tD (rY hin) r' hout' fun hout'=>r'=r∧hout'=hout) ⟨bD vs 0,hin,n0⟩):bt P f vs hin r hout:=by
 obtain⟨r',hout',⟨rfl,rfl⟩,h2⟩:=D9 hΘ hf hb hname pr m n0 hn0 hlt hnd hl (R:=fun r' hout'=>r'=r∧hout'=hout) ⟨rfl,rfl⟩ h
 exact h2
end Go.Proofs.Ytbmnihglaokhmaa.Am
namespace Go.Proofs.Ytbmnihglaokhmaa.Am
open Go Go.RowKit Go.Conc Go.ConcN
theorem q8 {x:MemAct}{a:Touch}{B:Nat}(h:x.touch? =some a)(hl:x.low B):a.loc.low B:=by
 cases x with
 |access e=>simp only[MemAct.touch?,aK] at h;subst h;exact hl
 |mark m=>cases m<;>simp only[MemAct.touch?,aK,reduceCtorEq] at h<;>subst h<;>exact hl
 |_=>simp[MemAct.touch?] at h
structure TL (Shun Sh:Loc→Prop)(Own Rd:Nat→Loc→Prop)(B L0 N:Nat)(t:Trace):Prop where
 nr:∀said,¬Race said t
 own:∀g l,Own g l→Perm t g l
 rd:∀g l,Rd g l→PermW t g l
 quiet:Quiet Sh t
 seen:∀op∈t,op.act.low B
 gs:∀(i:Nat) (op:MemOp),t[i]?=some op→op.g<N
 known:∀i a,touchAt t i=some a→a.loc.isMemory=true→Knows t 0 i∨((Shun a.loc∨Sh a.loc)∧a.kind= .atomic)∨∃g,t.g? i=some g∧L0≤g∧t.counts i
 over:∀i g,t.g? i=some g→g≠0→g<L0→t.counts i→∃j,t.g? j=some 0∧HappensBefore t i j
structure Apart3 (Sh:Loc→Prop)(Own Rd:Nat→Loc→Prop):Prop where
 own:∀g g' l,Own g l→Own g' l→g=g'
 ownRd:∀g g' l,Own g l→Rd g' l→g=g'
 ownSh:∀g l,Own g l→¬Sh l
 rdSh:∀g l,Rd g l→¬Sh l
def Cl (Sh:Loc→Prop)(Own Rd:Nat→Loc→Prop)(B g:Nat)(op:MemOp):Prop:=
 op.g=g∧op.act.low B∧∀x,op.act.touch? =some x→(Sh x.loc∧x.kind≠ .plain∧(x.kind= .said→g=0))∨(x.kind= .plain∧(Own g x.loc∨(Rd g x.loc∧x.write=false)))
section
variable {Shun Sh:Loc→Prop} {Own Rd Own' Rd':Nat→Loc→Prop} {B B' L0 N:Nat} {t u:Trace}
theorem Hh {i g:Nat}(h:t.g? i=some g):i<t.size:=by
 unfold Trace.g? at h
 obtain⟨z,hz,_⟩:=bj.1 h
 exact lt_size_of_getElem? hz
theorem uB (h:∀i g,t.g? i=some g→g≠0→g<L0→t.counts i→∃j,t.g? j=some 0∧HappensBefore t i j)(hu:∀op∈u,op.g=0∨L0≤op.g∨op.act.touch? =none):
  ∀i g,(t++u).g? i=some g→g≠0→g<L0→(t++u).counts i→∃j,(t++u).g? j=some 0∧HappensBefore (t++u) i j:=by
 intro i g hg hne hlt hc
 obtain⟨op,hop,hog⟩:=bj.1 hg
 rcases getElem?_append_cases hop with⟨hi,hop'⟩|⟨_,hou⟩
 ·obtain⟨j,hj,hb⟩:=h i g (by simp[Trace.g?,hop',hog]) hne hlt ((counts_old hi).1 hc)
  exact⟨j,by rw[g?_old (Hh hj)];exact hj,hb_app u hb⟩
 ·rcases hu op hou with h0|h0|h0
  ·exact absurd (hog.symm.trans h0) hne
  ·omega
  ·obtain⟨x,hx,_⟩:=hc
   simp[Trace.act?,hop,h0] at hx
theorem qX (h:∀i a,touchAt t i=some a→a.loc.isMemory=true→Knows t 0 i∨((Shun a.loc∨Sh a.loc)∧a.kind= .atomic)∨∃g,t.g? i=some g∧L0≤g∧t.counts i)
  (hu:∀op∈u,∀a,op.act.touch? =some a→op.g=0∨(Sh a.loc∧a.kind= .atomic)∨(L0≤op.g∧a.kind= .plain)):
  ∀i a,touchAt (t++u) i=some a→a.loc.isMemory=true→Knows (t++u) 0 i∨((Shun a.loc∨Sh a.loc)∧a.kind= .atomic)∨∃g,(t++u).g? i=some g∧L0≤g∧(t++u).counts i:=by
 intro i a ha hm
 obtain⟨x,hx,hxa⟩:=touch_of ha
 rcases getElem?_append_cases hx with⟨hi,hx'⟩|⟨_,hxu⟩
 ·rcases h i a (by rw[touchAt_of hx'];exact hxa) hm with h|h|⟨g,h1,h2,h3⟩
  ·exact .inl (h.app u)
  ·exact .inr (.inl h)
  ·exact .inr (.inr ⟨g,by rw[g?_old hi];exact h1,h2,(counts_old hi).2 h3⟩)
 ·rcases hu x hxu a hxa with h|h|⟨h1,h2⟩
  ·have:=knows_own hx
   rw[h] at this
   exact .inl this
  ·exact .inr (.inl ⟨.inr h.1,h.2⟩)
  ·exact .inr (.inr ⟨x.g,by simp[Trace.g?,hx],h1,a,by simp[Trace.act?,hx,hxa],hm,.inl (by rw[h2];simp)⟩)
theorem TL.app (A:Apart3 Sh Own Rd)(h:TL Shun Sh Own Rd B L0 N t){g:Nat}(hN:g<N)(hg:g=0∨L0≤g∨∀op∈u,op.act.touch? =none)(hu:∀op∈u,Cl Sh Own Rd B g op):TL Shun Sh Own Rd B L0 N (t++u):=by
 refine⟨fun said=>?_,fun g' l hl=>(h.own g' l hl).app fun op hop b hb e=>?_,fun g' l hl=>(h.rd g' l hl).app fun op hop b hb e hw=>?_,h.quiet.app fun op hop x hx hs=>?_,seen_app h.seen fun op hop=>(hu op hop).2.1,fun i op hi=>?_,
  qX h.known fun op hop a ha=>?_,uB h.over fun op hop=>?_⟩
 ·refine noRace_append (h.nr said) (fun op hop=>(hu op hop).1) (fun i a ha op hop b hb hc=>?_)
  rcases (hu op hop).2.2 b hb with⟨hs,hk,hn⟩|⟨_,ho|⟨hr,hbw⟩⟩
  ·exact h.quiet.known hs hk hn i a ha hc
  ·exact h.own g b.loc ho i a ha hc.1
  ·exact h.rd g b.loc hr i a ha hc.1 (hc.2.2.1.resolve_right (by simp[hbw]))
 ·rcases (hu op hop).2.2 b hb with⟨hs,_⟩|⟨_,ho|⟨hr,_⟩⟩
  ·exact absurd (e▸hs) (A.ownSh g' l hl)
  ·rw[(hu op hop).1];exact A.own g g' l (e▸ho) hl
  ·rw[(hu op hop).1];exact(A.ownRd g' g l hl (e▸hr)).symm
 ·rcases (hu op hop).2.2 b hb with⟨hs,_⟩|⟨_,ho|⟨_,hr⟩⟩
  ·exact absurd (e▸hs) (A.rdSh g' l hl)
  ·rw[(hu op hop).1];exact A.ownRd g g' l (e▸ho) hl
  ·rw[hr] at hw;cases hw
 ·rcases (hu op hop).2.2 x hx with⟨_,hk,hn⟩|⟨_,ho|⟨hr,_⟩⟩
  ·exact⟨hk,fun e=>(hu op hop).1.trans (hn e)⟩
  ·exact absurd hs (A.ownSh g _ ho)
  ·exact absurd hs (A.rdSh g _ hr)
 ·rcases getElem?_append_cases hi with⟨_,hi'⟩|⟨_,hiu⟩
  ·exact h.gs i op hi'
  ·rw[(hu op hiu).1];exact hN
 ·rcases (hu op hop).2.2 a ha with⟨hs,hk,hn⟩|⟨hk,_⟩
  ·cases hkk:a.kind with
   |plain=>exact absurd hkk hk
   |said=>exact .inl ((hu op hop).1.trans (hn hkk))
   |atomic=>exact .inr (.inl ⟨hs,rfl⟩)
  ·rcases hg with hg|hg|hg
   ·exact .inl ((hu op hop).1.trans hg)
   ·exact .inr (.inr ⟨by rw[(hu op hop).1];exact hg,hk⟩)
   ·rw[hg op hop] at ha;cases ha
 ·rcases hg with hg|hg|hg
  ·exact .inl ((hu op hop).1.trans hg)
  ·exact .inr (.inl (by rw[(hu op hop).1];exact hg))
  ·exact .inr (.inr (hg op hop))
theorem TL.grow (h:TL Shun Sh Own Rd B L0 N t)(hB:B≤B')(ho:∀g l,Own' g l→Own g l∨¬l.low B)(hr:∀g l,Rd' g l→Rd g l∨Own g l):TL Shun Sh Own' Rd' B' L0 N t:=by
 refine⟨h.nr,fun g l hl=>(ho g l hl).elim (h.own g l) fun hn i a ha e=>?_,fun g l hl=>(hr g l hl).elim (h.rd g l) fun x=>PermW.of (h.own g l x),h.quiet,fun op hop=>MemAct.low_mono hB (h.seen op hop),h.gs,h.known,h.over⟩
 obtain⟨x,hx,hxa⟩:=touch_of ha
 exact absurd (e▸q8 hxa (h.seen x (Array.mem_of_getElem? hx))) hn
theorem TL.fork (h:TL Shun Sh Own Rd B L0 N t)(hL:L0≤N)(h0N:0<N){x y:MemOp}(hx:x.g=0∧x.act= .go N)(hy:y.g=N∧y.act= .start)(h0:Deaf t 0=0)
  (ho:∀g l,Own' g l→(g≠N∧Own g l)∨(g=N∧Own 0 l)) (hr:∀g l,Rd' g l→(g≠N∧(Own g l∨Rd g l))∨(g=N∧(Own 0 l∨Rd 0 l))):TL Shun Sh Own' Rd' B L0 (N+1) (t++ #[x,y]):=by
 have hk:Deaf t N=0:=Deaf_absent fun i op hi e=>by have:=h.gs i op hi;omega
 have hmem:∀op∈ #[x,y],op=x∨op=y:=fun op hop=>by simpa using hop
 have hnt:∀op∈ #[x,y],∀b,op.act.touch? =some b→False:=by
  intro op hop b hb
  rcases hmem op hop with rfl|rfl
  ·rw[hx.2] at hb;cases hb
  ·rw[hy.2] at hb;cases hb
 have old:∀{i:Nat} {a:Touch},touchAt (t++ #[x,y]) i=some a→touchAt t i=some a:=by
  intro i a ha
  obtain⟨z,hz,hza⟩:=touch_of ha
  rcases getElem?_append_cases hz with⟨_,hz'⟩|⟨_,hzu⟩
  ·rw[touchAt_of hz'];exact hza
  ·exact(hnt z hzu a hza).elim
 refine⟨fun said=>?_,fun g l hl=>?_,fun g l hl=>?_,h.quiet.app fun op hop b hb _=>(hnt op hop b hb).elim,seen_app h.seen fun op hop=>?_,fun i op hi=>?_,qX h.known fun op hop a ha=>(hnt op hop a ha).elim,uB h.over fun op hop=>?_⟩
 ·have e:t++ #[x,y]=(t++ #[x])++ #[y]:=by apply Array.ext';simp
  rw[e]
  refine noRace_append (g:=N) (noRace_append (g:=0) (h.nr said) (fun op hop=>by simp at hop;rw[hop];exact hx.1) (fun i a _ op hop b hb _=>(hnt op (by simp at hop⊢;exact .inl hop) b hb).elim))
   (fun op hop=>by simp at hop;rw[hop];exact hy.1) (fun i a _ op hop b hb _=>(hnt op (by simp at hop⊢;exact .inr hop) b hb).elim)
 ·rcases ho g l hl with⟨_,z⟩|⟨eg,z⟩
  ·exact(h.own g l z).app fun op hop b hb _=>(hnt op hop b hb).elim
  ·rw[eg];exact fun i a ha e=>fork_knows hx hy h0 hk (h.own 0 l z i a (old ha) e)
 ·rcases hr g l hl with⟨_,z|z⟩|⟨eg,z|z⟩
  ·exact(PermW.of (h.own g l z)).app fun op hop b hb _ _=>(hnt op hop b hb).elim
  ·exact(h.rd g l z).app fun op hop b hb _ _=>(hnt op hop b hb).elim
  ·rw[eg];exact fun i a ha e _=>fork_knows hx hy h0 hk (h.own 0 l z i a (old ha) e)
  ·rw[eg];exact fun i a ha e hw=>fork_knows hx hy h0 hk (h.rd 0 l z i a (old ha) e hw)
 ·rcases hmem op hop with rfl|rfl
  ·rw[hx.2];trivial
  ·rw[hy.2];trivial
 ·rcases getElem?_append_cases hi with⟨_,hi'⟩|⟨_,hiu⟩
  ·have:=h.gs i op hi';omega
  ·rcases hmem op hiu with rfl|rfl
   ·rw[hx.1];omega
   ·rw[hy.1];omega
 ·rcases hmem op hop with rfl|rfl
  ·exact .inl hx.1
  ·exact .inr (.inl (by rw[hy.1];exact hL))
theorem TL.begin (h:Past Shun B t)(hg:∀(i:Nat) (op:MemOp),t[i]?=some op→op.g<N)(hB:B≤B')(hSh:∀l,Sh l→¬l.low B)
  (ho:∀g l,Own g l→g=0∧l.isMemory=true∧¬Shun l) (hr:∀g l,Rd g l→g=0∧l.isMemory=true∧¬Shun l):TL Shun Sh Own Rd B' N N t:=by
 have perm:∀l:Loc,l.isMemory=true→¬Shun l→Perm t 0 l:=fun l hm hs i a ha e=>(h.known i a ha (e▸hm)).elim id fun hx=>absurd (e▸hx.1) hs
 refine⟨h.clean,fun g l hl=>?_,fun g l hl=>?_,fun i op x hi hx hs=>?_,fun op hop=>MemAct.low_mono hB (h.seen op hop),hg,fun i a ha hm=>(h.known i a ha hm).elim .inl fun hx=>.inr (.inl ⟨.inl hx.1,hx.2⟩),fun i g hgi hne _ hc=>h.over i g hgi hne hc⟩
 ·obtain⟨rfl,hm,hs⟩:=ho g l hl;exact perm l hm hs
 ·obtain⟨rfl,hm,hs⟩:=hr g l hl;exact PermW.of (perm l hm hs)
 ·exact absurd (q8 hx (h.seen op (Array.mem_of_getElem? hi))) (hSh _ hs)
theorem TL.finish (h:TL Shun Sh Own Rd B L0 N t){a:Addr}{q:Nat}(all:∀g,L0≤g→g<N→∃r,RelBy a t g r∧r<q)(hn:NoRelease a t)
  (hq:t.act? q=some (.mark (.acquire a))) (hg:t.g? q=some 0) (hh:t.heard q) (hd:Deaf t 0=0):Past (fun l=>Shun l∨Sh l) B t:=by
 have key:∀i g,t.g? i=some g→L0≤g→t.counts i→HappensBefore t i q:=by
  intro i g hgi hL hc
  have hN:g<N:=by
   obtain⟨op,ho,rfl⟩:=bj.1 hgi
   exact h.gs i op ho
  obtain⟨r,hr,hrq⟩:=all g hL hN
  have edge:HappensBefore t r q:=.single (.inr ⟨.marked hrq (.inr hr.act) hq (fun k _ _=>hn k),hr.heard,hh⟩)
  have hle:i≤r:=Nat.le_of_not_lt fun hlt=>hr.after i hlt hgi hc
  rcases cY i r with hlt|hge
  ·exact .trans (.single (.inl ⟨hlt,g,hgi,hr.g⟩)) edge
  ·obtain rfl:i=r:=by omega
   exact edge
 obtain⟨z,hz,hz0⟩:=bj.1 hg
 refine⟨h.nr,fun i a ha hm=>?_,fun i g hgi hne hc=>?_,hd,h.seen⟩
 ·rcases h.known i a ha hm with hx|hx|⟨g,h1,h2,h3⟩
  ·exact .inl hx
  ·exact .inr hx
  ·exact .inl ⟨q,z,hz,hz0,.inr (key i g h1 h2 h3)⟩
 ·rcases cY g L0 with hlt|hge
  ·exact h.over i g hgi hne hlt hc
  ·exact⟨q,hg,key i g hgi hge hc⟩
end
end Go.Proofs.Ytbmnihglaokhmaa.Am
namespace Go.Proofs.Ytbmnihglaokhmaa.Am
open Go Go.RowKit Go.Conc Go.ConcN
open Go.ConcR (KK wgBlock WgAt stA smA rd wr mk DC0)
structure RG (ty:TypeId)(Wg:Nat)(γ:Gh)(w w1:World):Prop where
 rel:Rel γ w w1
 live:WgLive ty Wg w→WgLive ty Wg w1
theorem RG.refl {ty:TypeId}{Wg:Nat}{γ:Gh}(w:World):RG ty Wg γ w w:=⟨Rel.refl _ _,id⟩
theorem RG.trans {ty:TypeId}{Wg:Nat}{γ:Gh}{a b c:World}(h:RG ty Wg γ a b)(k:RG ty Wg γ b c):RG ty Wg γ a c:=⟨h.rel.trans k.rel,k.live∘h.live⟩
def mo (Wg:Nat)(e:Event):Prop:=∃a,a.block=Wg∧(e=⟨.mark (.read a),false,true⟩∨e=⟨.mark (.write a),false,true⟩)
def DS (Wg:Nat)(w w':World)(es:Array Event):Prop:=w'=w∧∀e∈es,mo Wg e
structure PubG (γ:Gh)(w w':World)(es:Array Event):Prop where
 os:w'.os=w.os
 tape:w'.tape=w.tape
 output:w'.output=w.output
 size:w'.heap.size=w.heap.size
 block:∀b,(∀o,¬γ.X b o)→w'.heap[b]?=w.heap[b]?
 shape:∀(b:Nat) (c:Array Value) (T:TypeId) (fz:Nat×Nat),w.heap[b]?=some (Obj.cells c T fz)→∃c':Array Value,w'.heap[b]?=some (Obj.cells c' T fz)∧c'.size=c.size
 cell:∀b o,¬γ.X b o→w'.cell? ⟨b,o,none⟩=w.cell? ⟨b,o,none⟩
 ev:∀e∈es,∃b o,e=⟨.cell ⟨b,o,none⟩,true,false⟩∧γ.X b o∧b<w.heap.size
@[reducible] def pubPh (P:Program):PhC P where
 ph γ g w K:=(∀b o,γ.X b o→¬γ.A b)→∃g' w' es,stepG P false g w= .go g' w' es∧PubG γ w w' es∧K γ g' w'
 mono h hk hx:=let ⟨g',w',es,h1,h2,h3⟩:=h hx;⟨g',w',es,h1,h2,hk _ _ _ h3⟩
 frame:=by
  intro γ γ2 g w K hS hA hX h hx
  obtain⟨g',w',es,h1,h2,h3⟩:=h fun b o hb hn=>hx b o (hX b o hb) (hA b hn)
  refine⟨g',w',es,h1,⟨h2.os,h2.tape,h2.output,h2.size,fun b hb=>h2.block b fun o ho=>hb o (hX b o ho),h2.shape,fun b o hn=>h2.cell b o fun ho=>hn (hX b o ho),fun e he=>?_⟩,γ,fun _=>False,h3,fun k hk=>hk.elim,fun k=>by simp,fun k=>by simp,rfl,rfl,rfl,rfl,h2.os,h2.tape,h2.output,Nat.le_of_eq h2.size.symm,fun b _ hn=>?_⟩
  ·obtain⟨b,o,e1,e2,e3⟩:=h2.ev e he
   exact⟨b,o,e1,hX b o e2,e3⟩
  ·exact h2.block b fun o ho=>hn (.inl fun hb=>hx b o (hX b o ho) hb)
section
variable (P:Program) (ty:TypeId) (Wg:Nat)
def WD3 (γ:Gh)(g:Goroutine)(w:World):Prop:=
 g.status= .running∧(WgAt ty Wg w 1 0→∃g',stepG P false g w= .go g' (w.setCell (stA Wg) (.int .u64 0)) #[wr (stA Wg)]∧∃m,Goes P false (RG ty Wg γ) DC0 (AtD4 P ty Wg) m g' (w.setCell (stA Wg) (.int .u64 0)))
def WD2 (γ:Gh)(g:Goroutine)(w:World):Prop:=
 g.status= .running∧(WgAt ty Wg w 1 0→∃g',stepG P false g w= .go g' w #[rd (stA Wg)]∧∃m,Goes P false (RG ty Wg γ) DC0 (WD3 P ty Wg γ) m g' w)
def WD1 (γ:Gh)(g:Goroutine)(w:World):Prop:=
 g.status= .running∧∀v wt:Nat,wt≤1→v<2147483647→WgAt ty Wg w ((v+1)*KK+wt) 0→
  ∃g',stepG P false g w= .go g' (w.setCell (stA Wg) (.int .u64 (v*KK+wt))) #[rd (stA Wg),wr (stA Wg)]∧
   ((v=0∧wt=1)→∃m,Goes P false (RG ty Wg γ) DC0 (WD2 P ty Wg γ) m g' (w.setCell (stA Wg) (.int .u64 (v*KK+wt))))∧(¬(v=0∧wt=1)→∃q,QuitsD P q 1 g')
def WK1 (γ:Gh)(g:Goroutine)(w:World):Prop:=
 g.status= .running∧∃g',stepG P false g w= .go g' w #[mk .disable]∧∃m,Goes P false (RG ty Wg γ) DC0 (WD1 P ty Wg γ) m g' w
def WR0 (γ:Gh)(g:Goroutine)(w:World):Prop:=
 g.status= .running∧∃g',stepG P false g w= .go g' w #[mk (.releaseMerge (stA Wg))]∧∃m,Goes P false (RG ty Wg γ) DC0 (WK1 P ty Wg γ) m g' w
def WDone (Res:Gh→World→Prop)(γ:Gh)(g:Goroutine)(w:World):Prop:=Res γ w∧(WgLive ty Wg w→Goes P false (RG ty Wg γ) DC0 (WR0 P ty Wg γ) 40 g w)∧g.status= .running
inductive WS (Res:Gh→World→Prop) (γ:Gh):Nat→Nat→Nat→Goroutine→World→Prop
 |user {m:Nat} {g:Goroutine} {w:World}:@GoesG P (pubPh P) false (WDone P ty Wg Res) m γ g w→WS Res γ 7 (m+41) 0 g w
 |r0 {m:Nat} {g:Goroutine} {w:World}:Res γ w→Goes P false (RG ty Wg γ) DC0 (WR0 P ty Wg γ) m g w→WS Res γ 7 m 0 g w
 |k1 {m:Nat} {g:Goroutine} {w:World}:Res γ w→Goes P false (RG ty Wg γ) DC0 (WK1 P ty Wg γ) m g w→WS Res γ 6 m 0 g w
 |d1 {m:Nat} {g:Goroutine} {w:World}:Res γ w→Goes P false (RG ty Wg γ) DC0 (WD1 P ty Wg γ) m g w→WS Res γ 5 m 1 g w
 |d2 {m:Nat} {g:Goroutine} {w:World}:Res γ w→Goes P false (RG ty Wg γ) DC0 (WD2 P ty Wg γ) m g w→WS Res γ 4 m 1 g w
 |d3 {m:Nat} {g:Goroutine} {w:World}:Res γ w→Goes P false (RG ty Wg γ) DC0 (WD3 P ty Wg γ) m g w→WS Res γ 3 m 1 g w
 |d4 {m:Nat} {g:Goroutine} {w:World}:Res γ w→Goes P false (RG ty Wg γ) DC0 (AtD4 P ty Wg) m g w→WS Res γ 2 m 1 g w
 |quit {q d:Nat} {g:Goroutine} {w:World}:Res γ w→QuitsD P q d g→WS Res γ 1 q d g w
variable (End:Goroutine→Prop) (Anch:Gh→Goroutine→World→Prop)
def SAcq (g:Goroutine)(w:World):Prop:=g.status= .running∧∃g',stepG P true g w= .go g' w #[mk (.acquire (stA Wg))]∧g'.status= .running∧End g'
def SKe (γ:Gh)(g:Goroutine)(w:World):Prop:=
 g.status= .running∧∃g',stepG P true g w= .go g' w #[mk .enable]∧∃m,Goes P true (RG ty Wg γ) (DS Wg) (SAcq P Wg End) m g' w
def SW4 (γ:Gh)(g:Goroutine)(w:World):Prop:=
 g.status= .running∧(WgAt ty Wg w 0 0→∃g',stepG P true g w= .go g' w #[rd (stA Wg)]∧∃m,Goes P true (RG ty Wg γ) (DS Wg) (SKe P ty Wg End γ) m g' w)
def SW3 (γ:Gh)(g:Goroutine)(w:World):Prop:=
 g.status= .running∧g.offers=none∧
  ((∃st,WgAt ty Wg w st 0)→stepG P true g w= .go {g with status:=.blocked} w #[])∧
  (WgAt ty Wg w 0 1→∃g',stepG P true g w= .go g' (w.setCell (smA Wg) (.int .u32 0)) (semEvents (smA Wg))∧∃m,Goes P true (RG ty Wg γ) (DS Wg) (SW4 P ty Wg End γ) m g' (w.setCell (smA Wg) (.int .u32 0)))
def SW2 (γ:Gh)(vs:Nat)(g:Goroutine)(w:World):Prop:=
 g.status= .running∧∀v:Nat,v<2147483648→WgAt ty Wg w (v*KK) 0→
  (v=vs→∃g',stepG P true g w= .go g' (w.setCell (stA Wg) (.int .u64 (v*KK+1))) #[rd (stA Wg),wr (stA Wg)]∧∃m,Goes P true (RG ty Wg γ) (DS Wg) (SW3 P ty Wg End γ) m g' (w.setCell (stA Wg) (.int .u64 (v*KK+1))))∧
  (v≠vs→∃g',stepG P true g w= .go g' w #[rd (stA Wg)]∧∃m,Goes P true (RG ty Wg γ) (DS Wg) (Anch γ) m g' w)
def SW1 (γ:Gh)(g:Goroutine)(w:World):Prop:=
 g.status= .running∧∀v:Nat,v<2147483648→WgAt ty Wg w (v*KK) 0→∃g',stepG P true g w= .go g' w #[rd (stA Wg)]∧
  (v=0→∃m,Goes P true (RG ty Wg γ) (DS Wg) (SKe P ty Wg End γ) m g' w)∧(v≠0→∃m,Goes P true (RG ty Wg γ) (DS Wg) (SW2 P ty Wg End Anch γ v) m g' w)
def SKd (γ:Gh)(g:Goroutine)(w:World):Prop:=
 g.status= .running∧∃g',stepG P true g w= .go g' w #[mk .disable]∧∃m,Goes P true (RG ty Wg γ) (DS Wg) (Anch γ) m g' w
def SWait (γ:Gh)(g:Goroutine)(w:World):Prop:=(WgLive ty Wg w→Goes P true (RG ty Wg γ) (DS Wg) (SKd P ty Wg Anch γ) 60 g w)∧g.status= .running
variable (n:Nat) (Xs:Nat→Nat→Nat→Prop) (Res:Nat→Gh→World→Prop)
def Xr (n:Nat)(Xs:Nat→Nat→Nat→Prop)(j:Nat)(b o:Nat):Prop:=∃i,j≤i∧i<n∧Xs i b o
def Gh.give (n:Nat)(Xs:Nat→Nat→Nat→Prop)(j:Nat)(γ:Gh):Gh:=⟨fun _=>False,γ.A,Xr n Xs j⟩
def Gh.take (X:Nat→Nat→Prop)(γ:Gh):Gh:=⟨fun _=>False,γ.A,X⟩
def SGo (j:Nat)(Nx:Gh→Goroutine→World→Prop)(γ:Gh)(g:Goroutine)(w:World):Prop:=
 g.status= .running∧∃g' child,stepG P true g w= .spawn g' child w #[]∧(∃m,@GoesG P (pubPh P) false (WDone P ty Wg (Res j)) m (γ.take (Xs j)) child w)∧Nx (γ.give n Xs (j+1)) g' w
def SLib (j:Nat)(Nx:Gh→Goroutine→World→Prop)(γ:Gh)(g:Goroutine)(w:World):Prop:=∃m,@GoesG P (noPh P) true (SGo P ty Wg n Xs Res j Nx) m γ g w
def SKeS (j:Nat)(Nx:Gh→Goroutine→World→Prop)(γ:Gh)(g:Goroutine)(w:World):Prop:=
 g.status= .running∧∃g',stepG P true g w= .go g' w #[mk .enable]∧∃m,Goes P true (RG ty Wg γ) (DS Wg) (SLib P ty Wg n Xs Res j Nx γ) m g' w
def SA1 (j:Nat)(Nx:Gh→Goroutine→World→Prop)(γ:Gh)(g:Goroutine)(w:World):Prop:=
 g.status= .running∧∀v:Nat,v<2147483647→WgAt ty Wg w (v*KK) 0→
  ∃g',stepG P true g w= .go g' (w.setCell (stA Wg) (.int .u64 ((v+1)*KK))) #[rd (stA Wg),wr (stA Wg)]∧∃m,Goes P true (RG ty Wg γ) (DS Wg) (SKeS P ty Wg n Xs Res j Nx γ) m g' (w.setCell (stA Wg) (.int .u64 ((v+1)*KK)))
def SKdS (j:Nat)(Nx:Gh→Goroutine→World→Prop)(γ:Gh)(g:Goroutine)(w:World):Prop:=
 g.status= .running∧∃g',stepG P true g w= .go g' w #[mk .disable]∧∃m,Goes P true (RG ty Wg γ) (DS Wg) (SA1 P ty Wg n Xs Res j Nx γ) m g' w
def SAdd (j:Nat)(Nx:Gh→Goroutine→World→Prop)(γ:Gh)(g:Goroutine)(w:World):Prop:=(WgLive ty Wg w→Goes P true (RG ty Wg γ) (DS Wg) (SKdS P ty Wg n Xs Res j Nx γ) 60 g w)∧g.status= .running
def Spw:Nat→Gh→Goroutine→World→Prop
 |0,γ,g,w=>∃m,@GoesG P (noPh P) true (SWait P ty Wg Anch) m γ g w
 |r+1,γ,g,w=>∃m,@GoesG P (noPh P) true (SAdd P ty Wg n Xs Res (n-(r+1)) (Spw r)) m γ g w
inductive CS (γ:Gh):CTag→Nat→Nat→Goroutine→World→Prop
 |su {r m:Nat} {g:Goroutine} {w:World}:r<n→γ.X=Xr n Xs (n-(r+1))→ @GoesG P (noPh P) true (SAdd P ty Wg n Xs Res (n-(r+1)) (Spw P ty Wg Anch n Xs Res r)) m γ g w→CS γ (.sp r 5) (m+61) 0 g w
 |sk {r m:Nat} {g:Goroutine} {w:World}:r<n→γ.X=Xr n Xs (n-(r+1))→Goes P true (RG ty Wg γ) (DS Wg) (SKdS P ty Wg n Xs Res (n-(r+1)) (Spw P ty Wg Anch n Xs Res r) γ) m g w→CS γ (.sp r 5) m 0 g w
 |sa {r m:Nat} {g:Goroutine} {w:World}:r<n→γ.X=Xr n Xs (n-(r+1))→Goes P true (RG ty Wg γ) (DS Wg) (SA1 P ty Wg n Xs Res (n-(r+1)) (Spw P ty Wg Anch n Xs Res r) γ) m g w→CS γ (.sp r 4) m 1 g w
 |se {r m:Nat} {g:Goroutine} {w:World}:r<n→γ.X=Xr n Xs (n-(r+1))→Goes P true (RG ty Wg γ) (DS Wg) (SKeS P ty Wg n Xs Res (n-(r+1)) (Spw P ty Wg Anch n Xs Res r) γ) m g w→CS γ (.sp r 3) m 1 g w
 |sl {r m:Nat} {g:Goroutine} {w:World}:r<n→γ.X=Xr n Xs (n-(r+1))→Goes P true (RG ty Wg γ) (DS Wg) (SLib P ty Wg n Xs Res (n-(r+1)) (Spw P ty Wg Anch n Xs Res r) γ) m g w→CS γ (.sp r 2) m 0 g w
 |sg {r m:Nat} {g:Goroutine} {w:World}:r<n→γ.X=Xr n Xs (n-(r+1))→ @GoesG P (noPh P) true (SGo P ty Wg n Xs Res (n-(r+1)) (Spw P ty Wg Anch n Xs Res r)) m γ g w→CS γ (.sp r 1) m 0 g w
 |ku {m:Nat} {g:Goroutine} {w:World}:@GoesG P (noPh P) true (SWait P ty Wg Anch) m γ g w→CS γ .kd (m+61) 0 g w
 |kd {m:Nat} {g:Goroutine} {w:World}:Goes P true (RG ty Wg γ) (DS Wg) (SKd P ty Wg Anch γ) m g w→CS γ .kd m 0 g w
 |anch {m:Nat} {g:Goroutine} {w:World}:Goes P true (RG ty Wg γ) (DS Wg) (Anch γ) m g w→CS γ .anch m 1 g w
 |w1 {m:Nat} {g:Goroutine} {w:World}:Goes P true (RG ty Wg γ) (DS Wg) (SW1 P ty Wg End Anch γ) m g w→CS γ .w1 m 1 g w
 |w2 {vs m:Nat} {g:Goroutine} {w:World}:Goes P true (RG ty Wg γ) (DS Wg) (SW2 P ty Wg End Anch γ vs) m g w→CS γ (.w2 vs) m 1 g w
 |w3 {m:Nat} {g:Goroutine} {w:World}:Goes P true (RG ty Wg γ) (DS Wg) (SW3 P ty Wg End γ) m g w→CS γ .w3 (m+1) 1 g w
 |blk {g:Goroutine} {w:World}:(∀w₁,RG ty Wg γ w w₁→SW3 P ty Wg End γ g w₁)→CS γ .blk 0 1 {g with status:=.blocked} w
 |w4 {m:Nat} {g:Goroutine} {w:World}:Goes P true (RG ty Wg γ) (DS Wg) (SW4 P ty Wg End γ) m g w→CS γ .w4 m 1 g w
 |ke {m:Nat} {g:Goroutine} {w:World}:Goes P true (RG ty Wg γ) (DS Wg) (SKe P ty Wg End γ) m g w→CS γ .ke m 1 g w
 |acq {m:Nat} {g:Goroutine} {w:World}:Goes P true (RG ty Wg γ) (DS Wg) (SAcq P Wg End) m g w→CS γ .acq m 0 g w
end
end Go.Proofs.Ytbmnihglaokhmaa.Am
namespace Go.Proofs.Ytbmnihglaokhmaa.Am
open Go Go.RowKit Go.Conc Go.ConcN
open Go.ConcR (KK wgBlock WgAt stA smA rd wr mk DC0 Bk g_of_ofEvents ofEvent_loc_mark ofEvent_cell)
def OwnF (Γ:Nat→Gh)(g:Nat)(l:Loc):Prop:=(∃a:Addr,l= .cell a∧((Γ g).S a.block∨(Γ g).X a.block a.off))∨∃r,l= .obj r∧(Γ g).S r
def RdG (Γ:Nat→Gh)(g:Nat)(l:Loc):Prop:=∃a:Addr,l= .cell a∧(Γ g).R a.block
structure Dis (Wg C n0:Nat)(Γ:Nat→Gh)(w:World):Prop where
 own:∀i j,i≠j→∀k,(Γ i).S k→¬(Γ j).A k
 x:∀i j,i≠j→∀b o,(Γ i).X b o→¬(Γ j).X b o
 xc:∀i b o,(Γ i).X b o→b=C
 ca:∀i,¬(Γ i).A C
 wa:∀i,¬(Γ i).A Wg
 low:∀i k,(Γ i).A k→k<w.heap.size
 new:∀i k,(Γ i).S k→n0≤k
 cw:C≠Wg
 c0:C<n0
 w0:Wg<n0
 size:n0≤w.heap.size
section
variable {Wg C n0:Nat} {Γ:Nat→Gh} {w w':World}
theorem Dis.apart (h:Dis Wg C n0 Γ w):Apart3 (ShN Wg) (OwnF Γ) (RdG Γ):=by
 refine⟨fun g g' l h1 h2=>?_,fun g g' l h1 h2=>?_,fun g l h1 h2=>?_,fun g l h1 h2=>?_⟩
 ·rcases Nat.decEq g g' with hne|rfl
  ·exfalso
   rcases h1 with⟨a,rfl,h1⟩|⟨r,rfl,h1⟩<;>rcases h2 with⟨a',e,h2⟩|⟨r',e,h2⟩<;>cases e
   ·rcases h1 with h1|h1<;>rcases h2 with h2|h2
    ·exact h.own g g' hne _ h1 (.inl h2)
    ·exact h.ca g (.inl (h.xc _ _ _ h2▸h1))
    ·exact h.ca g' (.inl (h.xc _ _ _ h1▸h2))
    ·exact h.x g g' hne _ _ h1 h2
   ·exact h.own g g' hne _ h1 (.inl h2)
  ·rfl
 ·rcases Nat.decEq g g' with hne|rfl
  ·exfalso
   obtain⟨a',rfl,h2⟩:=h2
   rcases h1 with⟨a,e,h1⟩|⟨r,e,h1⟩<;>cases e
   rcases h1 with h1|h1
   ·exact h.own g g' hne _ h1 (.inr h2)
   ·exact h.ca g' (.inr (h.xc _ _ _ h1▸h2))
  ·rfl
 ·obtain⟨a',rfl,h2⟩:=h2
  rcases h1 with⟨a,e,h1⟩|⟨r,e,h1⟩<;>cases e
  rcases h1 with h1|h1
  ·exact h.wa g (.inl (h2▸h1))
  ·exact h.cw ((h.xc _ _ _ h1).symm.trans h2)
 ·obtain⟨a',rfl,h2⟩:=h2
  obtain⟨a,e,h1⟩:=h1
  cases e
  exact h.wa g (.inr (h2▸h1))
theorem Dis.rel_own (h:Dis Wg C n0 Γ w){i j:Nat}(hij:i≠j)(hf:Fr (Γ i).S w w'):Rel (Γ j) w w':=by
 refine⟨⟨hf.os,hf.tape,hf.output,hf.size,fun k hk hn=>hf.block k hk fun hs=>hn (h.own i j hij k hs)⟩,fun b o hx=>?_,fun b o hx=>?_⟩
 all_goals
  have hb:=h.xc j b o hx
  subst hb
  have e:=hf.block b (bU h.c0 h.size) fun hs=>h.ca i (.inl hs)
  first|exact World.cell?_of_block e|exact ShpB.of e
theorem Dis.rel_wg (h:Dis Wg C n0 Γ w){j:Nat}(hf:Aside Wg w w'):Rel (Γ j) w w':=by
 refine⟨⟨hf.os,hf.tape,hf.output,Nat.le_of_eq hf.size.symm,fun k hk hn=>hf.block k fun e=>hn (fun hA=>h.wa j (e▸hA))⟩,fun b o hx=>?_,fun b o hx=>?_⟩
 all_goals
  have hb:=h.xc j b o hx
  subst hb
  first|exact World.cell?_of_block (hf.block b h.cw)|exact ShpB.of (hf.block b h.cw)
theorem Dis.rel_pub (h:Dis Wg C n0 Γ w){i j:Nat}(hij:i≠j){es:Array Event}(hp:PubG (Γ i) w w' es):Rel (Γ j) w w':=by
 refine⟨⟨hp.os,hp.tape,hp.output,Nat.le_of_eq hp.size.symm,fun k hk hn=>hp.block k fun o hx=>?_⟩,fun b o hx=>hp.cell b o fun hx'=>h.x i j hij b o hx' hx,fun b _ _=>hp.shape b⟩
 have hb:=h.xc i k o hx
 exact hn fun hA=>h.ca j (hb▸hA)
theorem mc {α:Type}(f:Nat→α)(i:Nat):upd f i (f i)=f:=by
 funext a
 by_cases e:a=i
 ·subst e;simp[upd]
 ·simp[upd,e]
theorem Dis.grow (h:Dis Wg C n0 Γ w)(i:Nat)(hs:w.heap.size≤w'.heap.size):Dis Wg C n0 (upd Γ i ((Γ i).grow w w')) w':=by
 have hX:∀j,(upd Γ i ((Γ i).grow w w') j).X=(Γ j).X:=fun j=>by
  by_cases e:j=i
  ·subst e;rw[upd_same];rfl
  ·rw[upd_ne _ _ e]
 have hA:∀j k,(upd Γ i ((Γ i).grow w w') j).A k→(Γ j).A k∨(j=i∧w.heap.size≤k∧k<w'.heap.size):=fun j k hk=>by
  by_cases e:j=i
  ·subst e
   rw[upd_same] at hk
   rcases hk with(hk|hk)|hk
   ·exact .inl (.inl hk)
   ·exact .inr ⟨rfl,hk⟩
   ·exact .inl (.inr hk)
  ·rw[upd_ne _ _ e] at hk;exact .inl hk
 have hS:∀j k,(upd Γ i ((Γ i).grow w w') j).S k→(Γ j).S k∨(j=i∧w.heap.size≤k∧k<w'.heap.size):=fun j k hk=>by
  by_cases e:j=i
  ·subst e
   rw[upd_same] at hk
   exact hk.imp id fun hk=>⟨rfl,hk⟩
  ·rw[upd_ne _ _ e] at hk;exact .inl hk
 refine⟨fun a b hab k h1 h2=>?_,fun a b hab c o h1 h2=>?_,fun a b o h1=>?_,fun a h1=>?_,fun a h1=>?_,fun a k h1=>?_,fun a k h1=>?_,h.cw,h.c0,h.w0,gK h.size hs⟩
 ·rcases hS a k h1 with z1|⟨e1,z1,_⟩<;>rcases hA b k h2 with z2|⟨e2,z2,_⟩
  ·exact h.own a b hab k z1 z2
  ·have:=h.low a k (.inl z1);omega
  ·have:=h.low b k z2;omega
  ·exact hab (e1.trans e2.symm)
 ·rw[hX] at h1 h2;exact h.x a b hab c o h1 h2
 ·rw[hX] at h1;exact h.xc a b o h1
 ·rcases hA a C h1 with h1|⟨_,h1,_⟩
  ·exact h.ca a h1
  ·have:=h.c0;have:=h.size;omega
 ·rcases hA a Wg h1 with h1|⟨_,h1,_⟩
  ·exact h.wa a h1
  ·have:=h.w0;have:=h.size;omega
 ·rcases hA a k h1 with h1|⟨_,_,h1⟩
  ·exact bU (h.low a k h1) hs
  ·exact h1
 ·rcases hS a k h1 with h1|⟨_,h1,_⟩
  ·exact h.new a k h1
  ·exact gK h.size h1
theorem Dis.same (h:Dis Wg C n0 Γ w)(hs:w'.heap.size=w.heap.size):Dis Wg C n0 Γ w':=
 ⟨h.own,h.x,h.xc,h.ca,h.wa,fun i k hk=>by rw[hs];exact h.low i k hk,h.new,h.cw,h.c0,h.w0,by rw[hs];exact h.size⟩
theorem Dis.fork (h:Dis Wg C n0 Γ w){c:Nat}(hc:c≠0)(ho:Γ c=⟨fun _=>False,fun _=>False,fun _ _=>False⟩){X X':Nat→Nat→Prop}(hX:∀b o,X b o→(Γ 0).X b o)(hX':∀b o,X' b o→(Γ 0).X b o)(hd:∀b o,X b o→¬X' b o):
  Dis Wg C n0 (upd (upd Γ 0 ⟨fun _=>False,(Γ 0).A,X'⟩) c ⟨fun _=>False,(Γ 0).A,X⟩) w:=by
 generalize hΓ:upd (upd Γ 0 ⟨fun _=>False,(Γ 0).A,X'⟩) c ⟨fun _=>False,(Γ 0).A,X⟩=Γ'
 have g0:Γ' 0=⟨fun _=>False,(Γ 0).A,X'⟩:=by rw[←hΓ,upd_ne _ _ (cq hc),upd_same]
 have gc:Γ' c=⟨fun _=>False,(Γ 0).A,X⟩:=by rw[←hΓ,upd_same]
 have gn:∀j,j≠0→j≠c→Γ' j=Γ j:=fun j h0 h1=>by rw[←hΓ,upd_ne _ _ h1,upd_ne _ _ h0]
 have cs:∀j,j=0∨j=c∨(j≠0∧j≠c):=fun j=>by omega
 have hA:∀j k,(Γ' j).A k→(Γ j).A k∨(Γ 0).A k:=fun j k hk=>by
  rcases cs j with rfl|rfl|⟨e1,e2⟩
  ·rw[g0] at hk;exact .inr (hk.elim False.elim id)
  ·rw[gc] at hk;exact .inr (hk.elim False.elim id)
  ·rw[gn j e1 e2] at hk;exact .inl hk
 have hS:∀j k,(Γ' j).S k→(j≠0∧j≠c)∧(Γ j).S k:=fun j k hk=>by
  rcases cs j with rfl|rfl|⟨e1,e2⟩
  ·rw[g0] at hk;exact hk.elim
  ·rw[gc] at hk;exact hk.elim
  ·rw[gn j e1 e2] at hk;exact⟨⟨e1,e2⟩,hk⟩
 refine⟨fun a b hab k h1 h2=>?_,fun a b hab d o h1 h2=>?_,fun a b o h1=>?_,fun a h1=>(hA a C h1).elim (h.ca a) (h.ca 0),fun a h1=>(hA a Wg h1).elim (h.wa a) (h.wa 0),fun a k h1=>(hA a k h1).elim (h.low a k) (h.low 0 k),
  fun a k h1=>h.new a k (hS a k h1).2,h.cw,h.c0,h.w0,h.size⟩
 ·obtain⟨⟨e1,_⟩,h1⟩:=hS a k h1
  rcases hA b k h2 with h2|h2
  ·exact h.own a b hab k h1 h2
  ·exact h.own a 0 e1 k h1 h2
 ·rcases cs a with rfl|rfl|⟨e1,e2⟩<;>rcases cs b with rfl|rfl|⟨e3,e4⟩
  ·exact hab rfl
  ·rw[g0] at h1;rw[gc] at h2;exact hd d o h2 h1
  ·rw[g0] at h1;rw[gn b e3 e4] at h2;exact h.x 0 b (cq e3) d o (hX' d o h1) h2
  ·rw[gc] at h1;rw[g0] at h2;exact hd d o h1 h2
  ·exact hab rfl
  ·rw[gc] at h1;rw[gn b e3 e4] at h2;exact h.x 0 b (cq e3) d o (hX d o h1) h2
  ·rw[gn a e1 e2] at h1;rw[g0] at h2;exact h.x a 0 e1 d o h1 (hX' d o h2)
  ·rw[gn a e1 e2] at h1;rw[gc] at h2;exact h.x a 0 e1 d o h1 (hX d o h2)
  ·rw[gn a e1 e2] at h1;rw[gn b e3 e4] at h2;exact h.x a b hab d o h1 h2
 ·rcases cs a with rfl|rfl|⟨e1,e2⟩
  ·rw[g0] at h1;exact h.xc 0 b o (hX' b o h1)
  ·rw[gc] at h1;exact h.xc 0 b o (hX b o h1)
  ·rw[gn a e1 e2] at h1;exact h.xc a b o h1
end
theorem jm {g:Nat}{fn:FuncId}{pos:String}{es:Array Event}{op:MemOp}(h:op∈MemOp.ofEvents g fn pos es):∃e∈es,op={g,fn,pos,act:=.ofEvent e}:=by
 rw[ofEvents_eq] at h
 obtain⟨e,he,rfl⟩:=Array.mem_map.1 h
 exact⟨e,he,rfl⟩
section
variable {Wg C n0:Nat} {Γ:Nat→Gh} {w w':World} {B id:Nat} {fn:FuncId} {pos:String} {es:Array Event}
theorem CY (h:∀e∈es,EvOK (Γ id) B e):∀op∈MemOp.ofEvents id fn pos es,Cl (ShN Wg) (OwnF Γ) (RdG Γ) B id op:=by
 intro op hop
 obtain⟨e,he,rfl⟩:=jm hop
 rcases h e he with(⟨a,wr,rfl,hb,hA,hw⟩|rfl)|⟨r,wr,rfl,hb,hS⟩
 ·refine⟨rfl,hb,fun x hx=>.inr ?_⟩
  simp only[MemAct.ofEvent,MemAct.touch?,aK] at hx
  subst hx
  refine⟨by simp,?_⟩
  rcases hA with hA|hA|hA
  ·exact .inl (.inl ⟨a,rfl,.inl hA⟩)
  ·exact .inl (.inl ⟨a,rfl,.inl hA⟩)
  ·cases wr with
   |true=>exact .inl (.inl ⟨a,rfl,.inl (hw rfl)⟩)
   |false=>exact .inr ⟨⟨a,rfl,hA⟩,rfl⟩
 ·exact⟨rfl,trivial,fun x hx=>by simp[MemAct.ofEvent,MemAct.touch?] at hx⟩
 ·have e1:MemAct.ofEvent ⟨.obj r,wr,false⟩= .access ⟨.obj r,wr,false⟩:=by cases wr<;>rfl
  refine⟨rfl,by simp only[e1];exact hb,fun x hx=>.inr ?_⟩
  simp only[e1,MemAct.touch?,aK] at hx
  subst hx
  exact⟨by simp,.inl (.inr ⟨r,rfl,hS⟩)⟩
theorem CZ (h:PubG (Γ id) w w' es):∀op∈MemOp.ofEvents id fn pos es,Cl (ShN Wg) (OwnF Γ) (RdG Γ) w.heap.size id op:=by
 intro op hop
 obtain⟨e,he,rfl⟩:=jm hop
 obtain⟨b,o,rfl,hx,hb⟩:=h.ev e he
 refine⟨rfl,hb,fun x hx'=>.inr ?_⟩
 simp only[MemAct.ofEvent,MemAct.touch?,aK] at hx'
 subst hx'
 exact⟨by simp,.inl (.inl ⟨_,rfl,.inr hx⟩)⟩
theorem EF (hw:Wg<B)(h:∀e∈es,Bk Wg e):∀op∈MemOp.ofEvents id fn pos es,Cl (ShN Wg) (OwnF Γ) (RdG Γ) B id op:=by
 intro op hop
 obtain⟨e,he,rfl⟩:=jm hop
 rcases h e he with h1|h1|⟨a,wr,rfl,ha⟩
 ·simp only[Cl,ofEvent_loc_mark h1];exact⟨trivial,trivial,fun x hx=>by cases hx⟩
 ·simp only[Cl,ofEvent_loc_mark h1];exact⟨trivial,trivial,fun x hx=>by cases hx⟩
 ·refine⟨rfl,by simp only[ofEvent_cell];show a.block<B;omega,fun x hx=>.inl ?_⟩
  simp only[ofEvent_cell,MemAct.touch?,aK] at hx
  subst hx
  exact⟨⟨a,rfl,ha⟩,by simp,by simp⟩
theorem Bs (hw:Wg<B)(h:∀e∈es,mo Wg e):∀op∈MemOp.ofEvents 0 fn pos es,Cl (ShN Wg) (OwnF Γ) (RdG Γ) B 0 op:=by
 intro op hop
 obtain⟨e,he,rfl⟩:=jm hop
 obtain⟨a,ha,rfl|rfl⟩:=h e he<;>
 ·refine⟨rfl,by show a.block<B;omega,fun x hx=>.inl ?_⟩
  simp only[MemAct.ofEvent,MemAct.touch?,aK] at hx
  subst hx
  exact⟨⟨a,rfl,ha⟩,by simp,fun _=>rfl⟩
theorem Br {m:Mark}(hm:m= .releaseMerge (stA Wg)∨m= .acquire (stA Wg))(hw:Wg<B):∀op∈MemOp.ofEvents id fn pos #[mk m],Cl (ShN Wg) (OwnF Γ) (RdG Γ) B id op:=by
 intro op hop
 obtain⟨e,he,rfl⟩:=jm hop
 simp only[List.mem_toArray,a9,d6,or_false] at he
 subst he
 rcases hm with rfl|rfl
 ·exact⟨rfl,hw,fun x hx=>by simp[mk,MemAct.ofEvent,MemAct.touch?] at hx⟩
 ·exact⟨rfl,hw,fun x hx=>by simp[mk,MemAct.ofEvent,MemAct.touch?] at hx⟩
end
end Go.Proofs.Ytbmnihglaokhmaa.Am
namespace Go.Proofs.Ytbmnihglaokhmaa.Am
open Go Go.RowKit Go.Conc Go.ConcN
open Go.ConcR (KK wgBlock WgAt stA smA rd wr mk DC0 Bk g_of_ofEvents ofEvent_loc_mark ofEvent_cell again_blocked)
theorem GoesG.cases {P:Program}[PhC P]{main:Bool}{Stop:Gh→Goroutine→World→Prop}{γ:Gh}{g:Goroutine}{w:World}{n:Nat}(h:GoesG P main Stop n γ g w):
  (∀w1,Rel γ w w1→Stop γ g w1)∨∃m,n=m+1∧g.status= .running∧((∀w1,Rel γ w w1→(stepG P main g w1).goes fun g' w' es=>Gua γ w1 w' es∧GoesG P main Stop m (γ.grow w1 w') g' w')∨
   ∀w1,Rel γ w w1→PhC.ph P γ g w1 (fun γ' g' w'=>GoesG P main Stop m γ' g' w')):=by
 cases n with
 |zero=>exact .inl h
 |succ n=>exact h.imp id fun h=>⟨n,rfl,h.elim (fun h=>⟨h.1,.inl h.2⟩) fun h=>⟨h.1,.inr h.2⟩⟩
theorem GoesG.running {P:Program}[PhC P]{main:Bool}{Stop:Gh→Goroutine→World→Prop}{γ:Gh}{g:Goroutine}{w:World}{n:Nat}(hst:∀γ g w,Stop γ g w→g.status= .running)(h:GoesG P main Stop n γ g w):g.status= .running:=by
 rcases h.cases with h|⟨_,_,h,_⟩
 ·exact hst _ _ _ (h w (Rel.refl _ _))
 ·exact h
section
variable {P:Program} {ty:TypeId} {Wg:Nat}
theorem fe {γ:Gh}:∀a b c,RG ty Wg γ a b→RG ty Wg γ b c→RG ty Wg γ a c:=fun _ _ _ h k=>h.trans k
variable {Res:Gh→World→Prop} {γ:Gh} {s m d:Nat} {g:Goroutine} {w w':World}
theorem WS.rely (hR:∀γ w w1,Rel γ w w1→Res γ w→Res γ w1)(h:WS P ty Wg Res γ s m d g w)(hr:RG ty Wg γ w w'):WS P ty Wg Res γ s m d g w':=by
 cases h with
 |user h=>exact .user (@GoesG.rely P (pubPh P) _ _ _ _ _ _ _ h hr.rel)
 |r0 x h=>exact .r0 (hR _ _ _ hr.rel x) (Goes.rely fe h hr)
 |k1 x h=>exact .k1 (hR _ _ _ hr.rel x) (Goes.rely fe h hr)
 |d1 x h=>exact .d1 (hR _ _ _ hr.rel x) (Goes.rely fe h hr)
 |d2 x h=>exact .d2 (hR _ _ _ hr.rel x) (Goes.rely fe h hr)
 |d3 x h=>exact .d3 (hR _ _ _ hr.rel x) (Goes.rely fe h hr)
 |d4 x h=>exact .d4 (hR _ _ _ hr.rel x) (Goes.rely fe h hr)
 |quit x h=>exact .quit (hR _ _ _ hr.rel x) h
theorem WS.status (h:WS P ty Wg Res γ s m d g w):g.status= .running∨(g.status= .finished∧s=1):=by
 cases h with
 |user h=>exact .inl (@GoesG.running P (pubPh P) _ _ _ _ _ _ (fun _ _ _ x=>x.2.2) h)
 |r0 _ h=>exact .inl (Goes.running (fun _ _ x=>x.1) w (RG.refl w) h)
 |k1 _ h=>exact .inl (Goes.running (fun _ _ x=>x.1) w (RG.refl w) h)
 |d1 _ h=>exact .inl (Goes.running (fun _ _ x=>x.1) w (RG.refl w) h)
 |d2 _ h=>exact .inl (Goes.running (fun _ _ x=>x.1) w (RG.refl w) h)
 |d3 _ h=>exact .inl (Goes.running (fun _ _ x=>x.1) w (RG.refl w) h)
 |d4 _ h=>exact .inl (Goes.running (fun _ _ x=>x.1) w (RG.refl w) h)
 |quit _ h=>exact h.status.imp id fun x=>⟨x,rfl⟩
theorem WS.woken (h:WS P ty Wg Res γ s m d g w)(a a':Goroutine)(w':World):woken P a a' w' g=g:=by
 unfold Go.Conc.woken
 split
 ·exact again_running _ (h.status.imp id And.left)
 ·rfl
end
structure Base (Wg C:Nat)(wb w:World):Prop where
 fr:Fr (fun k=>k=Wg∨k=C) wb w
 pay:∀(c:Array Value) (T:TypeId) (fz:Nat×Nat),wb.heap[C]?=some (Obj.cells c T fz)→∃c':Array Value,w.heap[C]?=some (Obj.cells c' T fz)∧c'.size=c.size
section
variable (Wg C:Nat) (wb:World) (Shun:Loc→Prop) (Γ:Nat→Gh) (id:Nat) (γ':Gh) (w w':World) (es:Array Event)
structure Kind:Prop where
 others:∀j,j≠id→Rel (Γ j) w w'
 dis:Dis Wg C wb.heap.size (upd Γ id γ') w'
 tl:∀(t:Trace) (fn:FuncId) (pos:String) (L0 N:Nat),TL Shun (ShN Wg) (OwnF Γ) (RdG Γ) w.heap.size L0 N t→id<N→(id=0∨L0≤id∨∀e∈es,(MemAct.ofEvent e).touch? =none)→
  TL Shun (ShN Wg) (OwnF (upd Γ id γ')) (RdG (upd Γ id γ')) w'.heap.size L0 N (t++MemOp.ofEvents id fn pos es)
 base:Base Wg C wb w→Base Wg C wb w'
 nr:∀e∈es,e.loc≠ .mark (.release (stA Wg))
end
section
variable {Wg C:Nat} {wb:World} {Shun:Loc→Prop} {Γ:Nat→Gh} {id:Nat} {w w':World} {es:Array Event}
theorem iy {L0:Nat}{fn:FuncId}{pos:String}(h:id=0∨L0≤id∨∀e∈es,(MemAct.ofEvent e).touch? =none):id=0∨L0≤id∨∀op∈MemOp.ofEvents id fn pos es,op.act.touch? =none:=
 h.imp (fun h=>h) fun h=>h.imp (fun h=>h) fun h op hop=>by
  obtain⟨e,he,rfl⟩:=jm hop
  exact h e he
theorem oZ (hd:Dis Wg C wb.heap.size Γ w)(hg:Gua (Γ id) w w' es):Kind Wg C wb Shun Γ id ((Γ id).grow w w') w w' es:=by
 have hd':=hd.grow id hg.fr.size
 refine⟨fun j hj=>hd.rel_own (cq hj) hg.fr,hd',fun t fn pos L0 N h hN h0=>?_,fun hb=>⟨⟨hg.fr.os.trans hb.fr.os,hg.fr.tape.trans hb.fr.tape,hg.fr.output.trans hb.fr.output,gK hb.fr.size hg.fr.size,fun k hk hn=>?_⟩,fun c T fz hc=>?_⟩,fun e he=>?_⟩
 ·have h1:TL Shun (ShN Wg) (OwnF (upd Γ id ((Γ id).grow w w'))) (RdG (upd Γ id ((Γ id).grow w w'))) w'.heap.size L0 N t:=by
   refine h.grow hg.fr.size (fun g l hl=>?_) (fun g l hl=>.inl ?_)
   ·by_cases e:g=id
    ·subst e
     rcases hl with⟨a,rfl,hl⟩|⟨r,rfl,hl⟩
     ·rw[upd_same] at hl
      rcases hl with(hl|hl)|hl
      ·exact .inl (.inl ⟨a,rfl,.inl hl⟩)
      ·exact .inr (by have:=hl.1;show¬a.block<_;omega)
      ·exact .inl (.inl ⟨a,rfl,.inr hl⟩)
     ·rw[upd_same] at hl
      rcases hl with hl|hl
      ·exact .inl (.inr ⟨r,rfl,hl⟩)
      ·exact .inr (by have:=hl.1;show¬r<_;omega)
    ·exact .inl (by unfold OwnF at hl⊢;rwa [upd_ne _ _ e] at hl)
   ·by_cases e:g=id
    ·subst e
     obtain⟨a,rfl,hl⟩:=hl
     rw[upd_same] at hl
     exact⟨a,rfl,hl⟩
    ·unfold RdG at hl⊢;rwa [upd_ne _ _ e] at hl
  refine h1.app hd'.apart hN (iy h0) (CY fun e he=>?_)
  rw[upd_same];exact hg.ev e he
 ·exact(hg.fr.block k (bU hk hb.fr.size) fun hs=>by have:=hd.new id k hs;omega).trans (hb.fr.block k hk hn)
 ·obtain⟨c',h1,h2⟩:=hb.pay c T fz hc
  exact⟨c',(hg.fr.block C (bU hd.c0 hd.size) fun hs=>hd.ca id (.inl hs)).trans h1,h2⟩
 ·rcases hg.ev e he with(⟨a,wr,rfl,_⟩|rfl)|⟨r,wr,rfl,_⟩<;>simp
theorem Cs (hd:Dis Wg C wb.heap.size Γ w)(hA:Aside Wg w w')(hb:Base Wg C wb w):Base Wg C wb w':=by
 refine⟨⟨hA.os.trans hb.fr.os,hA.tape.trans hb.fr.tape,hA.output.trans hb.fr.output,by rw[hA.size];exact hb.fr.size,fun k hk hn=>(hA.block k fun e=>hn (.inl e)).trans (hb.fr.block k hk hn)⟩,fun c T fz hc=>?_⟩
 obtain⟨c',h1,h2⟩:=hb.pay c T fz hc
 exact⟨c',(hA.block C hd.cw).trans h1,h2⟩
theorem sw (hd:Dis Wg C wb.heap.size Γ w)(hA:Aside Wg w w')(hok:∀fn pos,∀op∈MemOp.ofEvents id fn pos es,Cl (ShN Wg) (OwnF Γ) (RdG Γ) w.heap.size id op)(hnr:∀e∈es,e.loc≠ .mark (.release (stA Wg))):
  Kind Wg C wb Shun Γ id (Γ id) w w' es:=by
 refine⟨fun j _=>hd.rel_wg hA,by rw[mc];exact hd.same hA.size,fun t fn pos L0 N h hN h0=>?_,Cs hd hA,hnr⟩
 rw[mc,hA.size]
 exact h.app hd.apart hN (iy h0) (hok fn pos)
theorem lz (hd:Dis Wg C wb.heap.size Γ w)(hA:Aside Wg w w')(hb:∀e∈es,Bk Wg e):Kind Wg C wb Shun Γ id (Γ id) w w' es:=
 sw hd hA (fun _ _=>EF (bU hd.w0 hd.size) hb) (norel_of_Bk hb)
theorem qW (hd:Dis Wg C wb.heap.size Γ w)(hb:DS Wg w w' es):Kind Wg C wb Shun Γ 0 (Γ 0) w w' es:=by
 obtain⟨rfl,hb⟩:=hb
 exact sw hd (.refl Wg _) (fun _ _=>Bs (bU hd.w0 hd.size) hb) fun e he=>by obtain⟨a,_,rfl|rfl⟩:=hb e he<;>simp
theorem qV (hd:Dis Wg C wb.heap.size Γ w){m:Mark}(hm:m= .releaseMerge (stA Wg)∨m= .acquire (stA Wg)):Kind Wg C wb Shun Γ id (Γ id) w w #[mk m]:=
 sw hd (.refl Wg _) (fun _ _=>Br hm (bU hd.w0 hd.size)) fun e he=>by
  simp only[List.mem_toArray,a9,d6,or_false] at he
  subst he
  rcases hm with rfl|rfl<;>simp[mk]
theorem A7 (hd:Dis Wg C wb.heap.size Γ w)(hp:PubG (Γ id) w w' es):Kind Wg C wb Shun Γ id (Γ id) w w' es:=by
 refine⟨fun j hj=>hd.rel_pub (cq hj) hp,by rw[mc];exact hd.same hp.size,fun t fn pos L0 N h hN h0=>?_,
  fun hb=>⟨⟨hp.os.trans hb.fr.os,hp.tape.trans hb.fr.tape,hp.output.trans hb.fr.output,by rw[hp.size];exact hb.fr.size,fun k hk hn=>(hp.block k fun o hx=>hn (.inr (hd.xc id k o hx))).trans (hb.fr.block k hk hn)⟩,fun c T fz hc=>?_⟩,fun e he=>?_⟩
 ·rw[mc,hp.size]
  exact h.app hd.apart hN (iy h0) (CZ hp)
 ·obtain⟨c',h1,h2⟩:=hb.pay c T fz hc
  obtain⟨c2,h3,h4⟩:=hp.shape C c' T fz h1
  exact⟨c2,h3,h4.trans h2⟩
 ·obtain⟨b,o,rfl,_⟩:=hp.ev e he
  simp
end
section
variable (P:Program) (ty:TypeId) (Wg C:Nat) (wb:World) (Shun:Loc→Prop) (L:Nat) (Res:Nat→Gh→World→Prop)
def Rs (L:Nat)(Res:Nat→Gh→World→Prop)(i:Nat)(γ:Gh)(w:World):Prop:=i<L∨Res (i-L) γ w
def gh0:Gh:=⟨fun _=>False,fun _=>False,fun _ _=>False⟩
structure Com (J:Nat)(gs:Array Goroutine)(w:World)(t:Trace)(D:Nat→WD)(Γ:Nat→Gh)(d0:Nat):Prop where
 size:gs.size=J+1
 wk:∀i,i<J→∃g,gs[i+1]?=some g∧WS P ty Wg (Rs L Res i) (Γ (i+1)) (D i).stage (D i).fuel (D i).deaf g w
 old:∀i,i<L→(D i).stage=1
 LJ:L≤J
 out:∀i,J<i→Γ i=gh0
 dis:Dis Wg C wb.heap.size Γ w
 tl:TL Shun (ShN Wg) (OwnF Γ) (RdG Γ) w.heap.size (L+1) (J+1) t
 norel:NoRelease (stA Wg) t
 deaf0:Deaf t 0=d0
 deafW:∀i,i<J→Deaf t (i+1)=(D i).deaf
 rel:∀i,L≤i→i<J→(D i).stage≤6→∃r,RelBy (stA Wg) t (i+1) r
 base:Base Wg C wb w
end
section
variable {P:Program} {ty:TypeId} {Wg C:Nat} {wb:World} {Shun:Loc→Prop} {L:Nat} {Res:Nat→Gh→World→Prop}
 {J:Nat} {gs:Array Goroutine} {w w':World} {t:Trace} {D:Nat→WD} {Γ:Nat→Gh} {d0:Nat}
theorem gZ (hR:∀j γ w w1,Rel γ w w1→Res j γ w→Res j γ w1)(i:Nat):∀γ w w1,Rel γ w w1→Rs L Res i γ w→Rs L Res i γ w1:=fun γ w w1 hr h=>h.imp id (hR _ _ _ _ hr)
theorem DM (ty:TypeId)(Wg:Nat)(γ:Gh)(w:World)(d:Nat):RG ty Wg γ w (w.at d):=⟨Rel.at _ _ _,fun h=>h⟩
theorem Com.at (hR:∀j γ w w1,Rel γ w w1→Res j γ w→Res j γ w1)(h:Com P ty Wg C wb Shun L Res J gs w t D Γ d0)(d:Nat):Com P ty Wg C wb Shun L Res J gs (w.at d) t D Γ d0:=
 ⟨h.size,fun i hi=>let ⟨g,hg,hs⟩:=h.wk i hi;⟨g,hg,hs.rely (gZ hR i) (DM _ _ _ w d)⟩,h.old,h.LJ,h.out,h.dis.same rfl,h.tl,h.norel,h.deaf0,h.deafW,h.rel,
  ⟨⟨h.base.fr.os,h.base.fr.tape,h.base.fr.output,h.base.fr.size,h.base.fr.block⟩,h.base.pay⟩⟩
theorem Com.stepW (hR:∀j γ w w1,Rel γ w w1→Res j γ w→Res j γ w1)(h:Com P ty Wg C wb Shun L Res J gs w t D Γ d0){i:Nat}(hi:i<J){g g':Goroutine}{fn:FuncId}{pos:String}{es:Array Event}{s' m' dd':Nat}{γ':Gh}
  (hk:Kind Wg C wb Shun Γ (i+1) γ' w w' es) (hl:WgLive ty Wg w') (hs':WS P ty Wg (Rs L Res i) γ' s' m' dd' g' w') (hold:i<L→s'=1) (hn:i<L→∀e∈es,(MemAct.ofEvent e).touch? =none)
  (hdeaf:deafBehind (D i).deaf es=dd') (hrel:s'≤6→L≤i→∃r,RelBy (stA Wg) (t++MemOp.ofEvents (i+1) fn pos es) (i+1) r):
  Com P ty Wg C wb Shun L Res J ((gs.map (woken P g g' w')).setIfInBounds (i+1) g') w' (t++MemOp.ofEvents (i+1) fn pos es) (upd D i ⟨s',m',dd'⟩) (upd Γ (i+1) γ') d0:=by
 refine⟨by simp[h.size],fun i' hi'=>?_,fun i' hi'=>?_,h.LJ,fun j hj=>?_,hk.dis,hk.tl _ _ _ _ _ h.tl (by omega) (by rcases cY i L with hlt|hge;exact .inr (.inr (hn hlt));exact .inr (.inl (by omega))),h.norel.app (norel_of hk.nr),
  by rw[Deaf_other t (by omega) _ g_of_ofEvents,h.deaf0],fun i' hi'=>?_,fun i' hL' hi' hst=>?_,hk.base h.base⟩
 ·by_cases e:i'=i
  ·subst e
   exact⟨g',get_map_set_same _ _ _ (by rw[h.size];omega),by rw[upd_same,upd_same];exact hs'⟩
  ·obtain⟨x,hx,hsx⟩:=h.wk i' hi'
   refine⟨x,by rw[get_map_set _ _ _ _ (by omega),hx,aM,hsx.woken],?_⟩
   rw[upd_ne D _ e,upd_ne Γ _ (by omega)]
   exact hsx.rely (gZ hR i') ⟨hk.others _ (by omega),fun _=>hl⟩
 ·by_cases e:i'=i
  ·subst e;rw[upd_same];exact hold hi'
  ·rw[upd_ne D _ e];exact h.old i' hi'
 ·rw[upd_ne Γ _ (by omega)];exact h.out j hj
 ·by_cases e:i'=i
  ·subst e;rw[Deaf_own,h.deafW i' hi',upd_same];exact hdeaf
  ·rw[Deaf_other t (by omega) _ g_of_ofEvents,h.deafW i' hi',upd_ne D _ e]
 ·by_cases e:i'=i
  ·subst e;rw[upd_same] at hst;exact hrel hst hL'
  ·rw[upd_ne D _ e] at hst
   obtain⟨r,hr⟩:=h.rel i' hL' hi' hst
   exact⟨r,hr.appOther g_of_ofEvents (by omega)⟩
theorem Com.step0 (hR:∀j γ w w1,Rel γ w w1→Res j γ w→Res j γ w1)(h:Com P ty Wg C wb Shun L Res J gs w t D Γ d0){a a':Goroutine}{fn:FuncId}{pos:String}{es:Array Event}{γ':Gh}
  (hk:Kind Wg C wb Shun Γ 0 γ' w w' es) (hl:WgLive ty Wg w'):
  Com P ty Wg C wb Shun L Res J ((gs.map (woken P a a' w')).setIfInBounds 0 a') w' (t++MemOp.ofEvents 0 fn pos es) D (upd Γ 0 γ') (deafBehind d0 es):=by
 refine⟨by simp[h.size],fun i hi=>?_,h.old,h.LJ,fun j hj=>?_,hk.dis,hk.tl _ _ _ _ _ h.tl (by omega) (.inl rfl),h.norel.app (norel_of hk.nr),by rw[Deaf_own,h.deaf0],fun i hi=>by rw[Deaf_other t (by omega) _ g_of_ofEvents,h.deafW i hi],fun i hL hi hst=>?_,hk.base h.base⟩
 ·obtain⟨x,hx,hsx⟩:=h.wk i hi
  exact⟨x,by rw[get_map_set _ _ _ _ (by omega),hx,aM,hsx.woken],by rw[upd_ne Γ _ (by omega)];exact hsx.rely (gZ hR i) ⟨hk.others _ (by omega),fun _=>hl⟩⟩
 ·rw[upd_ne Γ _ (by omega)];exact h.out j hj
 ·obtain⟨r,hr⟩:=h.rel i hL hi hst
  exact⟨r,hr.appOther g_of_ofEvents (by omega)⟩
end

end Go.Proofs.Ytbmnihglaokhmaa.Am
