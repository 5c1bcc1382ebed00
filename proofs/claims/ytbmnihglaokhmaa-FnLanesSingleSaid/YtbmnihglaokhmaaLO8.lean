/- Lanes: plain laws on labels: how transactions are divided into lanes. Lanes: the program's labels; a lane on its own. Lanes: what the specification's functions give. Lanes: what the specification's LanesRun gives. Ledgers: what the program's functions give. Lanes: how the program divides transactions into lanes. Lanes: what a lane does on its own. The library's functions of the WaitGroup under this program's numbers. -/
import Derived.Test.YtbmnihglaokhmaaChecked
import Derived.Conc.WgGenN3
import Derived.Test.YtbmnihglaokhmaaLO7
set_option linter.unusedSimpArgs false
set_option linter.unusedVariables false
set_option maxHeartbeats 1000000
namespace Go.Proofs.Ytbmnihglaokhmaa.Am
open Go
set_option linter.unusedSectionVars false
variable [PhC Try.prog]
def f6 (lab:List Int)(n f:Nat):List Nat:=(List.range n).filter fun i=>lab.getD i 0==(f:Int)
def cd (lab:List Int)(n:Nat):Nat→List (List Nat)
 |0=>[]
 |f+1=>cd lab n f++(if f6 lab n f=[] then[] else[f6 lab n f])
structure LabOK (ts:List Txn)(lab:List Int):Prop where
 rng:∀i,i<ts.length→0≤lab.getD i 0∧lab.getD i 0<ts.length
 conf:∀i j,i<ts.length→j<ts.length→confI ts i j=true→lab.getD i 0=lab.getD j 0
theorem pb {lab:List Int}{n f i:Nat}:i∈f6 lab n f↔i<n∧lab.getD i 0=(f:Int):=by
 simp[f6]
theorem lh {lab:List Int}{n:Nat}:∀{k:Nat} {L:List Nat},L∈cd lab n k→∃f,f<k∧L=f6 lab n f∧L≠[]
 |0,L,h=>by cases h
 |k+1,L,h=>by
  simp only[cd,cm] at h
  rcases h with h|h
  ·obtain⟨f,h1,h2⟩:=lh h;exact⟨f,by omega,h2⟩
  ·split at h
   ·cases h
   ·rename_i hne
    rw[bd] at h
    exact⟨k,by omega,h,by rw[h];exact hne⟩
theorem jX {lab:List Int}{n i:Nat}:∀{k:Nat},i∈(cd lab n k).flatten↔i<n∧0≤lab.getD i 0∧lab.getD i 0<(k:Int)
 |0=>by
  simp only[cd,List.flatten_nil,dU,false_iff]
  rintro⟨h1,h2,h3⟩;omega
 |k+1=>by
  simp only[cd,List.flatten_append,cm,jX (k:=k)]
  have e:i∈(if f6 lab n k=[] then([]:List (List Nat)) else[f6 lab n k]).flatten↔i∈f6 lab n k:=by
   split
   ·rename_i h;simp[h]
   ·simp
  rw[e,pb]
  constructor
  ·rintro(⟨h1,h2,h3⟩|⟨h1,h2⟩)
   ·exact⟨h1,h2,by omega⟩
   ·exact⟨h1,by omega,by omega⟩
  ·rintro⟨h1,h2,h3⟩
   by_cases h:lab.getD i 0=(k:Int)
   ·exact .inr ⟨h1,h⟩
   ·exact .inl ⟨h1,h2,by omega⟩
theorem xN (lab:List Int)(n f:Nat):(f6 lab n f).Pairwise (· < ·):=List.Pairwise.filter _ List.pairwise_lt_range
theorem lO {lab:List Int}{n:Nat}:∀k,(cd lab n k).flatten.Nodup
 |0=>by simp[cd]
 |k+1=>by
  simp only[cd,List.flatten_append,List.nodup_append]
  refine⟨lO k,?_,fun a ha b hb he=>?_⟩
  ·split
   ·simp
   ·simp only[List.flatten_cons,List.flatten_nil,ir]
    exact(xN lab n k).imp fun h=>Nat.ne_of_lt h
  ·have h1:=jX.1 ha
   have h2:b∈f6 lab n k:=by
    split at hb
    ·cases hb
    ·simpa using hb
   rw[pb] at h2
   rw[he] at h1
   omega
theorem lN {ts:List Txn}{lab:List Int}(h:LabOK ts lab):∀k,(cd lab ts.length k).Pairwise fun L M=>∀x∈L,∀y∈M,confI ts x y=false
 |0=>by simp[cd]
 |k+1=>by
  simp only[cd,List.pairwise_append]
  refine⟨lN h k,?_,fun L hL M hM x hx y hy=>?_⟩
  ·split<;>simp
  ·obtain⟨f,hf,rfl,_⟩:=lh hL
   have hM':y∈f6 lab ts.length k:=by
    split at hM
    ·cases hM
    ·rw[bd] at hM;exact hM▸hy
   rw[pb] at hx hM'
   cases hc:confI ts x y with
   |false=>rfl
   |true=>have:=h.conf x y hx.1 hM'.1 hc;omega
theorem jg {ts:List Txn}{lab:List Int}(h:LabOK ts lab):LanesOK ts (cd lab ts.length ts.length) where
 up:=fun L hL=>by obtain⟨f,_,rfl,_⟩:=lh hL;exact xN ..
 apart:=lN h _
 nodup:=lO _
 mem:=fun i=>by
  rw[jX]
  exact⟨fun h=>h.1,fun hi=>⟨hi,h.rng i hi⟩⟩
def wJ (lab:List Int)(i k:Nat):List Int:=(lab.set i (min (lab.getD i 0) (lab.getD k 0))).set k (min (lab.getD i 0) (lab.getD k 0))
def dW (ts:List Txn)(i:Nat)(lab:List Int)(k:Nat):List Int:=if confI ts i k=true then wJ lab i k else lab
def rowS (ts:List Txn)(lab:List Int)(i:Nat):List Int:=(List.range i).foldl (dW ts i) lab
def f7 (ts:List Txn)(lab:List Int):List Int:=(List.range ts.length).foldl (rowS ts) lab
def lg (n:Nat):List Int:=(List.range n).map fun i:Nat=>(i:Int)
def cz (ts:List Txn):Nat→List Int
 |0=>lg ts.length
 |r+1=>f7 ts (cz ts r)
theorem A7 (lab:List Int)(i k:Nat):(wJ lab i k).length=lab.length:=by simp[wJ]
theorem lU {lab:List Int}{i k:Nat}(hi:i<lab.length)(hk:k<lab.length)(j:Nat):(wJ lab i k).getD j 0=if j=i∨j=k then min (lab.getD i 0) (lab.getD k 0) else lab.getD j 0:=by
 unfold wJ
 by_cases c1:k=j
 ·subst c1
  rw[bQ (by simpa using hk),if_pos (.inr rfl)]
 ·rw[aY c1]
  by_cases c2:i=j
  ·subst c2
   rw[bQ hi,if_pos (.inl rfl)]
  ·rw[aY c2,if_neg (by omega)]
structure Keeps (ts:List Txn)(lab lab':List Int):Prop where
 len:lab'.length=lab.length
 le:∀j,lab'.getD j 0≤lab.getD j 0
 low:∀j,0≤lab.getD j 0→0≤lab'.getD j 0∨∃i,i<lab.length∧lab.getD i 0<0
 shut:∀m,(∀i k,i<lab.length→k<lab.length→confI ts i k=true→(lab.getD i 0≤m↔lab.getD k 0≤m))→∀j,lab'.getD j 0≤m↔lab.getD j 0≤m
theorem Keeps.refl (ts:List Txn)(lab:List Int):Keeps ts lab lab:=⟨rfl,fun _=>Int.le_refl _,fun _ h=>.inl h,fun _ _ _=>Iff.rfl⟩
theorem Keeps.trans {ts:List Txn}{a b c:List Int}(h:Keeps ts a b)(k:Keeps ts b c):Keeps ts a c:=by
 refine⟨k.len.trans h.len,fun j=>Int.le_trans (k.le j) (h.le j),fun j hj=>?_,fun m hm j=>?_⟩
 ·rcases h.low j hj with h1|h1
  ·rcases k.low j h1 with h2|⟨i,hi,h2⟩
   ·exact .inl h2
   ·rcases Int.lt_or_le (a.getD i 0) 0 with h3|h3
    ·exact .inr ⟨i,by rw[←h.len];exact hi,h3⟩
    ·rcases h.low i h3 with h4|h4
     ·omega
     ·exact .inr h4
  ·exact .inr h1
 ·have hb:=h.shut m hm
  exact(k.shut m (fun i q hi hq hc=>by rw[hb i,hb q];exact hm i q (by rw[←h.len];exact hi) (by rw[←h.len];exact hq) hc) j).trans (hb j)
theorem fR {ts:List Txn}{lab:List Int}{i k:Nat}(hi:i<lab.length)(hk:k<lab.length):Keeps ts lab (dW ts i lab k):=by
 unfold dW
 split
 ·rename_i hc
  refine⟨A7 ..,fun j=>?_,fun j hj=>?_,fun m hm j=>?_⟩
  ·rw[lU hi hk]
   split
   ·rename_i h;rcases h with rfl|rfl<;>omega
   ·exact Int.le_refl _
  ·rw[lU hi hk]
   split
   ·rcases Int.lt_or_le (lab.getD i 0) 0 with h1|h1
    ·exact .inr ⟨i,hi,h1⟩
    ·rcases Int.lt_or_le (lab.getD k 0) 0 with h2|h2
     ·exact .inr ⟨k,hk,h2⟩
     ·exact .inl (by omega)
   ·exact .inl hj
  ·rw[lU hi hk]
   have:=hm i k hi hk hc
   split
   ·rename_i h
    rcases h with rfl|rfl<;>omega
   ·exact Iff.rfl
 ·exact Keeps.refl ..
theorem dp {ts:List Txn}{f:List Int→Nat→List Int}{n:Nat}(hf:∀lab k,k<n→lab.length=ts.length→Keeps ts lab (f lab k)):∀(L:List Nat) (lab:List Int),(∀k∈L,k<n)→lab.length=ts.length→Keeps ts lab (L.foldl f lab)
 |[],lab,_,_=>Keeps.refl ..
 |k::L,lab,hL,hl=>by
  have h1:=hf lab k (hL k (bf ..)) hl
  exact h1.trans (dp hf L _ (fun j hj=>hL j (bi _ hj)) (h1.len.trans hl))
theorem rowS_keeps {ts:List Txn}{lab:List Int}{i:Nat}(hi:i<ts.length)(hl:lab.length=ts.length):Keeps ts lab (rowS ts lab i):=
 dp (n:=i) (fun lab k hk hl=>fR (by omega) (by omega)) _ _ (fun k hk=>by simpa using hk) hl
theorem gt {ts:List Txn}{lab:List Int}(hl:lab.length=ts.length):Keeps ts lab (f7 ts lab):=
 dp (n:=ts.length) (fun lab k hk hl=>rowS_keeps hk hl) _ _ (fun k hk=>by simpa using hk) hl
theorem rowS_spreads {ts:List Txn}{lab:List Int}{i k:Nat}(hi:i<ts.length)(hk:k<i)(hl:lab.length=ts.length)(hc:confI ts i k=true){m:Int}(hm:lab.getD i 0≤m∨lab.getD k 0≤m):(rowS ts lab i).getD i 0≤m∧(rowS ts lab i).getD k 0≤m:=by
 unfold rowS
 have e:List.range i=List.range k++k::(List.range i).drop (k+1):=by
  have h1:=(List.take_append_drop k (List.range i)).symm
  have h2:(List.range i).take k=List.range k:=by rw[List.take_range];congr 1;omega
  rw[h2] at h1
  have h3:(List.range i).drop k=k::(List.range i).drop (k+1):=by
   have:=rI (l:=List.range i) (i:=k) (by simpa using hk)
   simpa using this
  rw[h3] at h1
  exact h1
 rw[e,List.foldl_append,List.foldl_cons]
 have k1:=dp (ts:=ts) (n:=i) (f:=dW ts i) (fun lab j hj hl=>fR (by omega) (by omega)) (List.range k) lab (fun j hj=>Nat.lt_trans (gU.1 hj) hk) hl
 generalize (List.range k).foldl (dW ts i) lab=l1 at *
 have hl1:l1.length=ts.length:=k1.len.trans hl
 have k2:Keeps ts (dW ts i l1 k) (((List.range i).drop (k+1)).foldl (dW ts i) (dW ts i l1 k)):=dp (ts:=ts) (n:=i) (fun lab j hj hl=>fR (by omega) (by omega)) _ _ (fun j hj=>by
  have:=List.mem_of_mem_drop hj
  simpa using this) ((fR (by omega) (by omega)).len.trans hl1)
 have g:∀j,j=i∨j=k→(dW ts i l1 k).getD j 0≤m:=by
  intro j hj
  unfold dW
  rw[if_pos hc,lU (by omega) (by omega),if_pos hj]
  have:=k1.le i
  have:=k1.le k
  omega
 exact⟨Int.le_trans (k2.le i) (g i (.inl rfl)),Int.le_trans (k2.le k) (g k (.inr rfl))⟩
theorem pM {ts:List Txn}{lab:List Int}{i k:Nat}(hi:i<ts.length)(hk:k<i)(hl:lab.length=ts.length)(hc:confI ts i k=true){m:Int}(hm:lab.getD i 0≤m∨lab.getD k 0≤m):(f7 ts lab).getD i 0≤m∧(f7 ts lab).getD k 0≤m:=by
 unfold f7
 have e:List.range ts.length=List.range i++i::(List.range ts.length).drop (i+1):=by
  have h1:=(List.take_append_drop i (List.range ts.length)).symm
  have h2:(List.range ts.length).take i=List.range i:=by rw[List.take_range];congr 1;omega
  rw[h2] at h1
  have h3:(List.range ts.length).drop i=i::(List.range ts.length).drop (i+1):=by
   have:=rI (l:=List.range ts.length) (i:=i) (by simpa using hi)
   simpa using this
  rw[h3] at h1
  exact h1
 rw[e,List.foldl_append,List.foldl_cons]
 have k1:=dp (ts:=ts) (n:=ts.length) (f:=rowS ts) (fun lab j hj hl=>rowS_keeps hj hl) (List.range i) lab (fun j hj=>Nat.lt_trans (gU.1 hj) hi) hl
 generalize (List.range i).foldl (rowS ts) lab=l1 at *
 have hl1:l1.length=ts.length:=k1.len.trans hl
 have k2:Keeps ts (rowS ts l1 i) (((List.range ts.length).drop (i+1)).foldl (rowS ts) (rowS ts l1 i)):=dp (ts:=ts) (n:=ts.length) (fun lab j hj hl=>rowS_keeps hj hl) _ _ (fun j hj=>by
  have:=List.mem_of_mem_drop hj
  simpa using this) ((rowS_keeps hi hl1).len.trans hl1)
 have hm1:l1.getD i 0≤m∨l1.getD k 0≤m:=hm.imp (fun h=>Int.le_trans (k1.le i) h) (fun h=>Int.le_trans (k1.le k) h)
 obtain⟨g1,g2⟩:=rowS_spreads hi hk hl1 hc hm1
 exact⟨Int.le_trans (k2.le i) g1,Int.le_trans (k2.le k) g2⟩
def nL (lab:List Int)(m:Int):Nat:=lab.countP fun x=>decide (x≤m)
def yj (ts:List Txn)(lab:List Int)(m:Int):Prop:=∀i k,i<lab.length→k<lab.length→confI ts i k=true→(lab.getD i 0≤m↔lab.getD k 0≤m)
theorem tH:∀{a b:List Int} {m:Int},b.length=a.length→(∀j,b.getD j 0≤a.getD j 0)→nL a m≤nL b m∧∀j,j<a.length→b.getD j 0≤m→¬a.getD j 0≤m→nL a m<nL b m
 |[],[],m,_,_=>⟨aN _,fun j hj=>by simp at hj⟩
 |[],_::_,m,h,_=>by simp at h
 |_::_,[],m,h,_=>by simp at h
 |x::a,y::b,m,hl,h=>by
  have h0:y≤x:=by simpa using h 0
  obtain⟨h1,h2⟩:=tH (a:=a) (b:=b) (m:=m) (by simpa using hl) fun j=>by simpa using h (j+1)
  simp only[nL,List.countP_cons,decide_eq_true_eq] at *
  refine⟨?_,fun j hj c1 c2=>?_⟩
  ·split<;>split<;>omega
  ·cases j with
   |zero=>
    simp only[List.getD_cons_zero] at c1 c2
    rw[if_neg c2,if_pos c1];omega
   |succ j=>
    have:=h2 j (by simpa using hj) (by simpa using c1) (by simpa using c2)
    split<;>split<;>omega
theorem df (ts:List Txn):∀r,(cz ts r).length=ts.length
 |0=>by simp[cz,lg]
 |r+1=>(gt (df ts r)).len.trans (df ts r)
theorem oN {ts:List Txn}{i k:Nat}(h:confI ts i k=true):confI ts k i=true:=by
 cases hc:confI ts k i with
 |true=>rfl
 |false=>rw[oO hc] at h;cases h
theorem wl {ts:List Txn}{i k:Nat}(h:confI ts i k=true)(lab:List Int)(m:Int)(hs:∀a b,b<a→a<lab.length→confI ts a b=true→(lab.getD a 0≤m↔lab.getD b 0≤m))(hi:i<lab.length)(hk:k<lab.length):lab.getD i 0≤m↔lab.getD k 0≤m:=by
 rcases Nat.lt_trichotomy i k with hlt|rfl|hlt
 ·exact(hs k i hlt hk (oN h)).symm
 ·exact Iff.rfl
 ·exact hs i k hlt hi h
theorem pq (ts:List Txn)(m:Int):∀r,yj ts (cz ts r) m∨(∃i,i<ts.length∧(i:Int)≤m)→yj ts (cz ts r) m∨r+1≤nL (cz ts r) m
 |0,h=>by
  rcases h with h|⟨i,hi,him⟩
  ·exact .inl h
  ·right
   have:0<nL (cz ts 0) m:=by
    unfold nL
    rw[List.countP_pos_iff]
    exact⟨(i:Int),aP.2 ⟨i,gU.2 hi,rfl⟩,by simpa using him⟩
   omega
 |r+1,h=>by
  have hl:=df ts r
  have hk:=gt (ts:=ts) hl
  by_cases hs:yj ts (cz ts r) m
  ·left
   intro i k hi hk' hc
   have e:=hk.shut m hs
   show (f7 ts (cz ts r)).getD i 0≤m↔(f7 ts (cz ts r)).getD k 0≤m
   rw[e i,e k]
   have hl2:(cz ts (r+1)).length=ts.length:=df ts (r+1)
   exact hs i k (by omega) (by omega) hc
  ·-- not shut: someone comes in
   obtain⟨a,b,hba,ha,hc,hne⟩:∃a b,b<a∧a<(cz ts r).length∧confI ts a b=true∧¬((cz ts r).getD a 0≤m↔(cz ts r).getD b 0≤m):=by
    rcases fb (∃a b,b<a∧a<(cz ts r).length∧confI ts a b=true∧¬((cz ts r).getD a 0≤m↔(cz ts r).getD b 0≤m)) with h|h
    ·exact h
    ·exfalso
     refine hs fun i k hi hk hc=>wl hc _ _ (fun a b hba ha hc=>?_) hi hk
     rcases fb ((cz ts r).getD a 0≤m↔(cz ts r).getD b 0≤m) with h2|h2
     ·exact h2
     ·exact absurd ⟨a,b,hba,ha,hc,h2⟩ h
   have hone:∃i,i<ts.length∧(i:Int)≤m:=by
    rcases h with h|h
    ·-- shut next,but m is below all
     rcases fb (∃i,i<ts.length∧(i:Int)≤m) with h2|h2
     ·exact h2
     ·exfalso
      have hneg:m<0:=by
       rcases Int.lt_or_le m 0 with h3|h3
       ·exact h3
       ·exact absurd ⟨0,by omega,h3⟩ h2
      have hpos:∀r j,j<ts.length→0≤(cz ts r).getD j 0:=by
       intro r
       induction r with
       |zero=>intro j hj;simp[cz,lg,aX,hj]
       |succ r ih=>
        intro j hj
        rcases (gt (ts:=ts) (df ts r)).low j (ih j hj) with h4|⟨i,hi,h4⟩
        ·exact h4
        ·rw[df] at hi
         have:=ih i hi;omega
      have h5:=hpos r a (by omega)
      have h6:=hpos r b (by omega)
      exact hne ⟨fun h=>by omega,fun h=>by omega⟩
    ·exact h
   rcases pq ts m r (.inr hone) with h1|h1
   ·exact absurd h1 hs
   ·right
    have hor:(cz ts r).getD a 0≤m∨(cz ts r).getD b 0≤m:=by
     rcases fb ((cz ts r).getD a 0≤m) with h2|h2
     ·exact .inl h2
     ·rcases fb ((cz ts r).getD b 0≤m) with h3|h3
      ·exact .inr h3
      ·exact absurd ⟨fun h=>absurd h h2,fun h=>absurd h h3⟩ hne
    obtain⟨g1,g2⟩:=pM (ts:=ts) (by omega) hba hl hc hor
    have hstep:=(tH (a:=cz ts r) (b:=f7 ts (cz ts r)) (m:=m) hk.len hk.le).2
    have:nL (cz ts r) m<nL (f7 ts (cz ts r)) m:=by
     rcases fb ((cz ts r).getD a 0≤m) with h2|h2
     ·have h3:¬(cz ts r).getD b 0≤m:=fun h=>hne ⟨fun _=>h,fun _=>h2⟩
      exact hstep b (by omega) g2 h3
     ·exact hstep a ha g1 h2
    show r+1+1≤nL (f7 ts (cz ts r)) m
    omega
theorem CF (ts:List Txn):LabOK ts (cz ts ts.length):=by
 have hpos:∀r j,j<ts.length→0≤(cz ts r).getD j 0∧(cz ts r).getD j 0≤j:=by
  intro r
  induction r with
  |zero=>intro j hj;simp[cz,lg,aX,hj]
  |succ r ih=>
   intro j hj
   have hk:=gt (ts:=ts) (df ts r)
   refine⟨?_,Int.le_trans (hk.le j) (ih j hj).2⟩
   rcases hk.low j (ih j hj).1 with h4|⟨i,hi,h4⟩
   ·exact h4
   ·rw[df] at hi
    have:=(ih i hi).1;omega
 have hshut:∀m:Int,0≤m→yj ts (cz ts ts.length) m:=by
  intro m hm
  rcases Nat.eq_zero_or_pos ts.length with h0|hp
  ·intro i k hi
   rw[df] at hi;omega
  ·rcases pq ts m ts.length (.inr ⟨0,hp,hm⟩) with h|h
   ·exact h
   ·exfalso
    have:nL (cz ts ts.length) m≤(cz ts ts.length).length:=List.countP_le_length
    rw[df] at this
    omega
 refine⟨fun i hi=>⟨(hpos _ i hi).1,by have:=(hpos ts.length i hi).2;omega⟩,fun i j hi hj hc=>?_⟩
 have hl:=df ts ts.length
 have h1:=(hshut _ (hpos ts.length i hi).1 i j (by omega) (by omega) hc).1 (Int.le_refl _)
 have h2:=(hshut _ (hpos ts.length j hj).1 i j (by omega) (by omega) hc).2 (Int.le_refl _)
 omega
end Go.Proofs.Ytbmnihglaokhmaa.Am
namespace Go.Proofs.Ytbmnihglaokhmaa.Am
open Go
set_option linter.unusedSectionVars false
variable [PhC Try.prog]
def u5 (hi lo:Int)(lab:List Int)(k:Nat):List Int:=if lab.getD k 0=hi then lab.set k lo else lab
def eX (lab:List Int)(hi lo:Int)(m:Nat):List Int:=(List.range m).foldl (u5 hi lo) lab
def gg (ts:List Txn)(i:Nat)(lab:List Int)(j:Nat):List Int:=if lab.getD i 0≠lab.getD j 0∧confI ts i j=true then eX lab (max (lab.getD i 0) (lab.getD j 0)) (min (lab.getD i 0) (lab.getD j 0)) (i+1) else lab
def rowI (ts:List Txn)(lab:List Int)(i:Nat):List Int:=(List.range i).foldl (gg ts i) (lab.set i (i:Int))
def fy (ts:List Txn)(k:Nat):List Int:=(List.range k).foldl (rowI ts) (List.replicate ts.length 0)
theorem nj {lab:List Int}{hi lo:Int}(hne:lo≠hi):∀m,m≤lab.length→(eX lab hi lo m).length=lab.length∧∀k,(eX lab hi lo m).getD k 0=if k<m∧lab.getD k 0=hi then lo else lab.getD k 0
 |0,_=>⟨rfl,fun k=>by simp[eX]⟩
 |m+1,hm=>by
  obtain⟨h1,h2⟩:=nj (lab:=lab) hne m (by omega)
  have e:eX lab hi lo (m+1)=u5 hi lo (eX lab hi lo m) m:=by simp[eX,jE,List.foldl_append]
  rw[e]
  have hmm:=h2 m
  rw[if_neg (by omega)] at hmm
  unfold u5
  by_cases c:lab.getD m 0=hi
  ·rw[hmm,if_pos c]
   refine⟨by simpa using h1,fun k=>?_⟩
   by_cases ek:m=k
   ·subst ek
    rw[bQ (by omega),if_pos ⟨by omega,c⟩]
   ·rw[aY ek,h2 k]
    by_cases c2:k<m∧lab.getD k 0=hi
    ·rw[if_pos c2,if_pos ⟨by omega,c2.2⟩]
    ·rw[if_neg c2,if_neg (by omega)]
  ·rw[hmm,if_neg c]
   refine⟨h1,fun k=>?_⟩
   rw[h2 k]
   by_cases c2:k<m∧lab.getD k 0=hi
   ·rw[if_pos c2,if_pos ⟨by omega,c2.2⟩]
   ·rw[if_neg c2,if_neg]
    rintro⟨h3,h4⟩
    rcases db k m with h5|h5
    ·exact c2 ⟨h5,h4⟩
    ·have:k=m:=by omega
     subst this;exact c h4
structure InvI (ts:List Txn)(i j:Nat)(lab:List Int):Prop where
 len:lab.length=ts.length
 rng:∀k,k≤i→0≤lab.getD k 0∧lab.getD k 0≤k
 old:∀a b,a<i→b<i→confI ts a b=true→lab.getD a 0=lab.getD b 0
 new:∀b,b<j→confI ts i b=true→lab.getD i 0=lab.getD b 0
theorem zj {ts:List Txn}{i j:Nat}{lab:List Int}(hi:i<ts.length)(hj:j<i)(h:InvI ts i j lab):InvI ts i (j+1) (gg ts i lab j):=by
 unfold gg
 split
 ·rename_i hc
  obtain⟨hne,hc⟩:=hc
  have ri:=h.rng i (aN _)
  have rj:=h.rng j (by omega)
  obtain⟨h1,h2⟩:=nj (lab:=lab) (hi:=max (lab.getD i 0) (lab.getD j 0)) (lo:=min (lab.getD i 0) (lab.getD j 0)) (by omega) (i+1) (by have:=h.len;omega)
  generalize eX lab (max (lab.getD i 0) (lab.getD j 0)) (min (lab.getD i 0) (lab.getD j 0)) (i+1)=lab' at *
  refine⟨h1.trans h.len,fun k hk=>?_,fun a b ha hb hab=>?_,fun b hb hib=>?_⟩
  ·rw[h2]
   have:=h.rng k hk
   split
   ·rename_i c;omega
   ·exact this
  ·rw[h2,h2,h.old a b ha hb hab]
   by_cases c:lab.getD b 0=max (lab.getD i 0) (lab.getD j 0)
   ·rw[if_pos ⟨by omega,c⟩,if_pos ⟨by omega,c⟩]
   ·rw[if_neg (fun h=>c h.2),if_neg (fun h=>c h.2)]
  ·rw[h2,h2]
   have hbi:b<i:=by omega
   rcases db b j with hlt|hge
   ·have e:=h.new b hlt hib
    rw[←e]
    by_cases c:lab.getD i 0=max (lab.getD i 0) (lab.getD j 0)
    ·rw[if_pos ⟨by omega,c⟩,if_pos ⟨by omega,c⟩]
    ·rw[if_neg (fun h=>c h.2),if_neg (fun h=>c h.2)]
   ·obtain rfl:b=j:=by omega
    by_cases c:lab.getD i 0≤lab.getD b 0
    ·rw[if_neg (by omega),if_pos (by omega)];omega
    ·rw[if_pos (by omega),if_neg (by omega)];omega
 ·rename_i hc
  refine⟨h.len,h.rng,h.old,fun b hb hib=>?_⟩
  rcases db b j with hlt|hge
  ·exact h.new b hlt hib
  ·obtain rfl:b=j:=by omega
   rcases fb (lab.getD i 0=lab.getD b 0) with h1|h1
   ·exact h1
   ·exact absurd ⟨h1,hib⟩ hc
theorem rowI_inv {ts:List Txn}{i:Nat}{lab:List Int}(hi:i<ts.length)(hl:lab.length=ts.length)(hr:∀k,k<i→0≤lab.getD k 0∧lab.getD k 0≤k)(ho:∀a b,a<i→b<i→confI ts a b=true→lab.getD a 0=lab.getD b 0):∀j,j≤i→InvI ts i j ((List.range j).foldl (gg ts i) (lab.set i (i:Int)))
 |0,_=>by
  refine⟨by simpa using hl,fun k hk=>?_,fun a b ha hb hab=>?_,fun b hb=>by omega⟩
  ·by_cases e:i=k
   ·subst e;simp only[List.range_zero,List.foldl_nil];rw[bQ (by omega)];omega
   ·simp only[List.range_zero,List.foldl_nil];rw[aY e];exact hr k (by omega)
  ·simp only[List.range_zero,List.foldl_nil]
   rw[aY (by omega),aY (by omega)]
   exact ho a b ha hb hab
 |j+1,hj=>by
  rw[jE,List.foldl_append]
  exact zj hi (by omega) (rowI_inv hi hl hr ho j (by omega))
theorem pp (ts:List Txn):∀i,i≤ts.length→(fy ts i).length=ts.length∧(∀k,k<i→0≤(fy ts i).getD k 0∧(fy ts i).getD k 0≤k)∧∀a b,a<i→b<i→confI ts a b=true→(fy ts i).getD a 0=(fy ts i).getD b 0
 |0,_=>⟨by simp[fy],fun k hk=>by omega,fun a b ha=>by omega⟩
 |i+1,hi=>by
  obtain⟨h1,h2,h3⟩:=pp ts i (by omega)
  have e:fy ts (i+1)=rowI ts (fy ts i) i:=by simp[fy,jE,List.foldl_append]
  rw[e]
  have:=rowI_inv (by omega) h1 h2 h3 i (aN _)
  refine⟨this.len,fun k hk=>this.rng k (by omega),fun a b ha hb hab=>?_⟩
  rcases Nat.lt_trichotomy a b with hlt|rfl|hlt
  ·rcases db b i with hb'|hb'
   ·exact this.old a b (by omega) hb' hab
   ·obtain rfl:b=i:=by omega
    exact(this.new a hlt (oN hab)).symm
  ·rfl
  ·rcases db a i with ha'|ha'
   ·exact this.old a b ha' (by omega) hab
   ·obtain rfl:a=i:=by omega
    exact this.new b hlt hab
theorem sI (ts:List Txn):LabOK ts (fy ts ts.length):=by
 obtain⟨h1,h2,h3⟩:=pp ts ts.length (aN _)
 exact⟨fun i hi=>⟨(h2 i hi).1,by have:=(h2 i hi).2;omega⟩,fun i j hi hj hc=>h3 i j hi hj hc⟩
def bY (ts:List Txn)(L:List Nat):List Txn:=L.map fun i=>ts.getD i ⟨0,0,0,0⟩
def i4 (us:List Txn)(a:Nat):Prop:=∃t∈us,t.a.toNat=a∨t.b.toNat=a
def Gu (us:List Txn)(b b':List Int):Prop:=∀a,i4 us a→b.getD a 0=b'.getD a 0
theorem j7:∀(us:List Txn) (l:Led),(bu l us).b.length=l.b.length
 |[],_=>rfl
 |t::us,l=>(j7 us _).trans nq
theorem jr:∀(us:List Txn) (l:Led) {a:Nat},¬i4 us a→(bu l us).b.getD a 0=l.b.getD a 0
 |[],_,_,_=>rfl
 |t::us,l,a,h=>by
  show (bu (bO l t) us).b.getD a 0=_
  rw[jr us _ fun⟨u,hu,hc⟩=>h ⟨u,bi _ hu,hc⟩]
  exact kf (fun e=>h ⟨t,bf ..,.inl e⟩) fun e=>h ⟨t,bf ..,.inr e⟩
theorem rx {vs:List Txn}:∀(us:List Txn),(∀t∈us,t∈vs∧bW t=true)→∀(l l':Led),l.b.length=6→l'.b.length=6→(∀a,i4 vs a→l.b.getD a 0=l'.b.getD a 0)→
  cK l us=cK l' us∧(bu l us).f-l.f=(bu l' us).f-l'.f∧∀a,i4 vs a→(bu l us).b.getD a 0=(bu l' us).b.getD a 0
 |[],_,l,l',_,_,ha=>⟨rfl,by simp[bu],ha⟩
 |t::us,h,l,l',hl,hl',ha=>by
  obtain⟨ht,hv⟩:=h t (bf ..)
  obtain⟨t1,t2,t3,-⟩:=dP (x:=t.a) (y:=t.b) (s:=t.s) (e:=t.e) hv
  have ea:=ha t.a.toNat ⟨t,ht,.inl rfl⟩
  have eb:=ha t.b.toNat ⟨t,ht,.inr rfl⟩
  have ev:cE l t=cE l' t:=by unfold cE;rw[ea,eb]
  have hne:=ji t1.1 t2.1 t3
  have es:(bO l t).f-l.f=(bO l' t).f-l'.f∧∀a,i4 vs a→(bO l t).b.getD a 0=(bO l' t).b.getD a 0:=by
   unfold bO
   rw[←ev]
   cases cE l t with
   |false=>exact⟨by simp,ha⟩
   |true=>
    refine⟨by simp only[if_true];omega,fun a hta=>?_⟩
    simp only[if_true]
    by_cases c1:t.b.toNat=a
    ·subst c1
     rw[bQ (by simp;omega),bQ (by simp;omega),eb]
    ·rw[aY c1,aY c1]
     by_cases c2:t.a.toNat=a
     ·subst c2
      rw[bQ (by omega),bQ (by omega),ea]
     ·rw[aY c2,aY c2]
      exact ha a hta
  obtain⟨g1,g2,g3⟩:=rx us (fun u hu=>h u (bi _ hu)) (bO l t) (bO l' t) (nq.trans hl) (nq.trans hl') es.2
  refine⟨by simp only[cK,ev,g1],?_,g3⟩
  show (bu (bO l t) us).f-l.f=(bu (bO l' t) us).f-l'.f
  omega
end Go.Proofs.Ytbmnihglaokhmaa.Am
namespace Go.Proofs.Ytbmnihglaokhmaa.Am
open Go
set_option linter.unusedSectionVars false
variable [PhC Try.prog]
attribute [local irreducible] Mk ct Ari fl mJ jJ cL dy jb gq At bz
set_option maxRecDepth 10000
theorem C5 (a b s e a' b' s' e':Int):bz Try.prog 78 [.agg [.int .i64 a,.int .i64 b,.int .i64 s,.int .i64 e],.agg [.int .i64 a',.int .i64 b',.int .i64 s',.int .i64 e']] [] (.bool (dR ⟨a,b,s,e⟩ ⟨a',b',s',e'⟩)) []:=by
 refine bH bq Try.func78 rfl rfl false 0 4 rfl rfl rfl rfl fun K hK hb1 hb2=>?_;simp only[bJ,enc,Nat.reduceAdd]
 clear hb1 hb2
 (repeat' first|refine st ?_|refine sa fun xe hxe=>?_|refine sb (fun hq=>?_) fun hq=>?_|exact aE)
 all_goals (refine⟨congrArg V.bool ?_,rfl⟩;(first|rfl|(simp[dR];done)|(simp_all[dR];done)|(rw[Bool.eq_iff_iff];(try simp[dR] at *);omega)|(simp_all[dR];omega)))
def fO (ts:List Txn):Bool:=decide (ts.length≤16) && ts.all bW
theorem BL (ts:List Txn):bz Try.prog 39 [.lst .txn ts] [] (.bool (fO ts)) []:=by
 refine bH bq Try.func39 rfl rfl false 0 4 rfl rfl rfl rfl fun K hK hb1 hb2=>?_;simp only[bJ,enc,Nat.reduceAdd]
 simp[aB,V.toD,bnd,aj,D.cells] at hb1
 clear hb2
 (repeat' first|refine st ?_|refine sa fun xe hxe=>?_|refine sb (fun hq=>?_) fun hq=>?_|exact aE)
 refine bA hK [] [0,2,3] (fun i:Nat=>⟨[(0,.lst .txn ts),(2,.bool false),(3,.int .i64 i)],[],4⟩) (fun i=>i≤ts.length∧∀x∈ts.take i,bW x=true) (fun i=>ts.length-i) 0 ⟨by simp,by simp⟩ rfl ?_
 rintro i ⟨hi,hall⟩
 by_cases hlt:i<ts.length
 ·have hx:ts[i]?=some (ts[i]):=aZ hlt
  have hm:ts[i]∈ts:=eG hlt
  have ht:ts.take (i+1)=ts.take i++[ts[i]]:=mA hlt
  generalize ts[i]=x at *
  obtain⟨x1,x2,x3,x4⟩:=x
  cases hv:bW ⟨x1,x2,x3,x4⟩
  ·have hal:fO ts=false:=by
    simp only[fO,mC]
    right
    rw[List.all_eq_false]
    exact⟨_,hm,by simp[hv]⟩
   have hc:=jv x1 x2 x3 x4
   rw[hv] at hc
   rw[hal]
   (repeat' first|refine st ?_|refine sa fun xe hxe=>?_|refine sb (fun hq=>?_) fun hq=>?_|refine cr (hc) ?_|exact aE)
   all_goals exact⟨rfl,rfl⟩
  ·have hc:=jv x1 x2 x3 x4
   rw[hv] at hc
   (repeat' first|refine st ?_|refine sa fun xe hxe=>?_|refine sb (fun hq=>?_) fun hq=>?_|refine cr (hc) ?_|exact aE)
   refine⟨i+1,⟨hlt,?_⟩,by omega,rfl⟩
   rw[ht]
   intro y hy
   rcases cm.1 hy with hy|hy
   ·exact hall y hy
   ·rw[bd.1 hy];exact hv
 ·have hal:ts.all bW=true:=by
   rw[bc]
   rw[gj (by omega)] at hall
   exact hall
  (repeat' first|refine st ?_|refine sa fun xe hxe=>?_|refine sb (fun hq=>?_) fun hq=>?_|exact aE)
  all_goals (refine⟨?_,rfl⟩;simp only[fO,hal,Bool.and_true];(first|rfl|(congr 1;simp;omega)|(simp;omega)))
def wE (lab:List Int)(n f:Nat):List Int:=(f6 lab n f).map fun i:Nat=>(i:Int)
def eO (lab:List Int)(n k:Nat):List (List Int):=(cd lab n k).map fun L=>L.map fun i:Nat=>(i:Int)
theorem yZ (i:Nat):lg (i+1)=lg i++[(i:Int)]:=by simp[lg,jE]
theorem po (i:Nat):(lg i).length=i:=by simp[lg]
theorem Ap (i n:Nat)(h:i≤n):(lg i++List.replicate (n-i) (0:Int)).length=n:=by simp[po];omega
theorem Aq (i n:Nat)(h:i<n):(lg i++List.replicate (n-i) (0:Int)).set i (i:Int)=lg (i+1)++List.replicate (n-(i+1)) 0:=by
 rw[List.set_append_right _ _ (by rw[po];omega),po,Nat.sub_self,yZ,show n-i=(n-(i+1))+1 by omega,List.replicate_succ,List.set_cons_zero]
 simp
theorem jT {l:List Int}{i:Nat}(h:i<l.length):l[i]?=some (l.getD i 0):=by rw[aX,aZ h];rfl
theorem qY (lab:List Int)(i f:Nat):(f6 lab (i+1) f).map (fun i:Nat=>(i:Int))=if lab.getD i 0=(f:Int) then(f6 lab i f).map (fun i:Nat=>(i:Int))++[(i:Int)] else(f6 lab i f).map fun i:Nat=>(i:Int):=by
 simp only[f6,jE,List.filter_append,List.filter_cons,List.filter_nil]
 by_cases h:lab.getD i 0=(f:Int)
 ·rw[if_pos h,if_pos (by simpa using h)];simp
 ·rw[if_neg h,if_neg (by simpa using h)];simp
theorem jY (lab:List Int)(n f:Nat):eO lab n (f+1)=eO lab n f++(if(wE lab n f).length=0 then[] else[wE lab n f]):=by
 unfold eO wE
 simp only[cd,jB,bG]
 by_cases h:f6 lab n f=[]
 ·rw[if_pos h,if_pos (by simp[h])];rfl
 ·rw[if_neg h,if_neg (by simpa using h)];rfl
theorem tI {ts:List Txn}{i k:Nat}{t u:Txn}(hi:ts[i]?=some t)(hk:ts[k]?=some u):confI ts i k=dR t u:=by simp only[confI,hi,hk]
theorem BK (ts:List Txn)(hl:ts.length≤16):bz Try.prog 41 [.lst .txn ts] [] (.lst (.lst (.int .i64)) (eO (cz ts ts.length) ts.length ts.length)) []:=by
 refine bH bq Try.func41 rfl rfl true 0 4 rfl rfl rfl rfl fun K hK hb1 hb2=>?_;simp only[bJ,enc,Nat.reduceAdd]
 clear hb1 hb2
 (repeat' first|refine st ?_|refine sa fun xe hxe=>?_|refine sb (fun hq=>?_) fun hq=>?_|exact aE)
 refine bA hK [] [0,2,3,4] (fun i:Nat=>⟨[(0,.lst .txn ts),(2,.nils),(3,.ref 4),(4,.int .i64 i)],[(4,.row 3 (.int .i64) (lg i++List.replicate (ts.length-i) 0))],5⟩) (fun i=>i≤ts.length) (fun i=>ts.length-i) 0 (by simp) (by rfl) ?_
 intro i hi
 have hlen:=Ap i ts.length hi
 by_cases hlt:i<ts.length
 ·have hset:=Aq i ts.length hlt
  generalize lg i++List.replicate (ts.length-i) 0=L at *
  (repeat' first|refine st ?_|refine sa fun xe hxe=>?_|refine sb (fun hq=>?_) fun hq=>?_|exact aE)
  refine⟨i+1,hlt,by omega,?_⟩
  rw[←hset]
  rfl
 have:i=ts.length:=by omega
 subst this
 have e0:lg ts.length++List.replicate (ts.length-ts.length) 0=cz ts 0:=by simp[cz]
 rw[e0]
 clear hlt hi hlen e0
 (repeat' first|refine st ?_|refine sa fun xe hxe=>?_|refine sb (fun hq=>?_) fun hq=>?_|exact aE)
 refine bA hK [] [0,2,3,5] (fun r:Nat=>⟨[(0,.lst .txn ts),(2,.nils),(3,.ref 4),(5,.int .i64 r)],[(4,.row 3 (.int .i64) (cz ts r))],5⟩) (fun r=>r≤ts.length) (fun r=>ts.length-r) 0 (by simp) (by rfl) ?_
 intro r hr
 by_cases hlt:r<ts.length
 ·have hlab:=df ts r
  have hrd:cz ts (r+1)=f7 ts (cz ts r):=rfl
  generalize cz ts r=lab at *
  (repeat' first|refine st ?_|refine sa fun xe hxe=>?_|refine sb (fun hq=>?_) fun hq=>?_|exact aE)
  refine bA hK [] [0,2,3,5,6] (fun i:Nat=>⟨[(0,.lst .txn ts),(2,.nils),(3,.ref 4),(5,.int .i64 r),(6,.int .i64 i)],[(4,.row 3 (.int .i64) ((List.range i).foldl (rowS ts) lab))],5⟩) (fun i=>i≤ts.length) (fun i=>ts.length-i) 0 (by simp) (by rfl) ?_
  intro i hi
  have hl1:((List.range i).foldl (rowS ts) lab).length=ts.length:=(dp (ts:=ts) (n:=ts.length) (fun lab k hk hl=>rowS_keeps hk hl) _ _ (fun k hk=>by have:=gU.1 hk;omega) hlab).len.trans hlab
  by_cases hlt2:i<ts.length
  ·have hstep:(List.range (i+1)).foldl (rowS ts) lab=rowS ts ((List.range i).foldl (rowS ts) lab) i:=by rw[jE,List.foldl_append];rfl
   generalize (List.range i).foldl (rowS ts) lab=lab1 at *
   have hxi:ts[i]?=some ts[i]:=aZ hlt2
   generalize ts[i]=ti at *
   obtain⟨x1,x2,x3,x4⟩:=ti
   (repeat' first|refine st ?_|refine sa fun xe hxe=>?_|refine sb (fun hq=>?_) fun hq=>?_|exact aE)
   refine bA hK [] [0,2,3,5,6,7] (fun k:Nat=>⟨[(0,.lst .txn ts),(2,.nils),(3,.ref 4),(5,.int .i64 r),(6,.int .i64 i),(7,.int .i64 k)],[(4,.row 3 (.int .i64) ((List.range k).foldl (dW ts i) lab1))],5⟩) (fun k=>k≤i) (fun k=>i-k) 0 (by simp) (by rfl) ?_
   intro k hk
   have hl2:((List.range k).foldl (dW ts i) lab1).length=ts.length:=(dp (ts:=ts) (n:=i) (fun lab k hk hl=>fR (by omega) (by omega)) _ _ (fun j hj=>by have:=gU.1 hj;omega) hl1).len.trans hl1
   by_cases hlt3:k<i
   ·have hstep2:(List.range (k+1)).foldl (dW ts i) lab1=dW ts i ((List.range k).foldl (dW ts i) lab1) k:=by rw[jE,List.foldl_append];rfl
    generalize (List.range k).foldl (dW ts i) lab1=lab2 at *
    have hk':k<ts.length:=by omega
    have hxk:ts[k]?=some ts[k]:=aZ hk'
    generalize ts[k]=tk at *
    obtain⟨y1,y2,y3,y4⟩:=tk
    have hcf:=tI hxi hxk
    have hg1:lab2[i]?=some (lab2.getD i 0):=jT (by omega)
    have hg2:lab2[k]?=some (lab2.getD k 0):=jT (by omega)
    have hc:=C5 x1 x2 x3 x4 y1 y2 y3 y4
    cases hcb:dR ⟨x1,x2,x3,x4⟩ ⟨y1,y2,y3,y4⟩
    ·rw[hcb] at hc hcf
     have he:dW ts i lab2 k=lab2:=by unfold dW;rw[hcf];rfl
     (repeat' first|refine st ?_|refine sa fun xe hxe=>?_|refine sb (fun hq=>?_) fun hq=>?_|refine cr (hc) ?_|exact aE)
     refine⟨k+1,by omega,by omega,?_⟩
     rw[hstep2,he]
     rfl
    ·rw[hcb] at hc hcf
     have he:dW ts i lab2 k=wJ lab2 i k:=by unfold dW;rw[hcf];rfl
     (repeat' first|refine st ?_|refine sa fun xe hxe=>?_|refine sb (fun hq=>?_) fun hq=>?_|refine cr (hc) ?_|exact aE)
     refine⟨k+1,by omega,by omega,?_⟩
     have hmin:(if lab2.getD k 0<lab2.getD i 0 then lab2.getD k 0 else lab2.getD i 0)=min (lab2.getD i 0) (lab2.getD k 0):=by split<;>omega
     rw[hstep2,he,wJ,←hmin]
     rfl
   ·have:k=i:=by omega
    subst this
    have he:(List.range k).foldl (dW ts k) lab1=rowS ts lab1 k:=rfl
    rw[he] at *
    (repeat' first|refine st ?_|refine sa fun xe hxe=>?_|refine sb (fun hq=>?_) fun hq=>?_|exact aE)
    refine⟨k+1,by omega,by omega,?_⟩
    rw[hstep]
    rfl
  ·have:i=ts.length:=by omega
   subst this
   have he:(List.range ts.length).foldl (rowS ts) lab=f7 ts lab:=rfl
   rw[he] at *
   (repeat' first|refine st ?_|refine sa fun xe hxe=>?_|refine sb (fun hq=>?_) fun hq=>?_|exact aE)
   refine⟨r+1,by omega,by omega,?_⟩
   rw[hrd]
   rfl
 have:r=ts.length:=by omega
 subst this
 have hlab:=df ts ts.length
 clear hlt hr
 generalize cz ts ts.length=lab at *
 have hN:ts.length=ts.length:=rfl
 (repeat' first|refine st ?_|refine sa fun xe hxe=>?_|refine sb (fun hq=>?_) fun hq=>?_|exact aE)
 refine bA hK [] [0,2,3,9,10] (fun f:Nat=>⟨[(0,.lst .txn ts),(2,.nils),(3,.ref 4),(9,.ref 5),(10,.int .i64 f)],[(4,.row 3 (.int .i64) lab),(5,.row 23 (.lst (.int .i64)) (eO lab ts.length f))],6⟩) (fun f=>f≤ts.length) (fun f=>ts.length-f) 0 (by simp) (by rfl) ?_
 intro f hf
 have hzl:(eO lab ts.length f).length≤f:=by
  clear hf
  induction f with
  |zero=>simp[eO,cd]
  |succ f ih=>rw[jY,b7];split<;>simp<;>omega
 by_cases hlt:f<ts.length
 ·have hstep:=jY lab ts.length f
  generalize eO lab ts.length f=Z at *
  (repeat' first|refine st ?_|refine sa fun xe hxe=>?_|refine sb (fun hq=>?_) fun hq=>?_|exact aE)
  refine bA hK [] [0,2,3,9,10,11,12] (fun i:Nat=>⟨[(0,.lst .txn ts),(2,.nils),(3,.ref 4),(9,.ref 5),(10,.int .i64 f),(11,.ref 6),(12,.int .i64 i)],[(4,.row 3 (.int .i64) lab),(5,.row 23 (.lst (.int .i64)) Z),(6,.row 3 (.int .i64) ((f6 lab i f).map fun i:Nat=>(i:Int)))],7⟩) (fun i=>i≤ts.length) (fun i=>ts.length-i) 0 (by simp) (by rfl) ?_
  intro i hi
  have hgl:((f6 lab i f).map fun i:Nat=>(i:Int)).length≤i:=by rw[bG];exact gm (List.length_filter_le _ _) (by simp)
  by_cases hlt2:i<ts.length
  ·have hs2:=qY lab i f
   have hg:lab[i]?=some (lab.getD i 0):=jT (by omega)
   generalize (f6 lab i f).map (fun i:Nat=>(i:Int))=G at *
   by_cases hc:lab.getD i 0=(f:Int)
   ·rw[if_pos hc] at hs2
    (repeat' first|refine st ?_|refine sa fun xe hxe=>?_|refine sb (fun hq=>?_) fun hq=>?_|exact aE)
    refine⟨i+1,by omega,by omega,?_⟩
    rw[hs2]
    rfl
   ·rw[if_neg hc] at hs2
    (repeat' first|refine st ?_|refine sa fun xe hxe=>?_|refine sb (fun hq=>?_) fun hq=>?_|exact aE)
    refine⟨i+1,by omega,by omega,?_⟩
    rw[hs2]
    rfl
  ·have:i=ts.length:=by omega
   subst this
   have he:(f6 lab ts.length f).map (fun i:Nat=>(i:Int))=wE lab ts.length f:=rfl
   rw[he] at *
   generalize wE lab ts.length f=G at *
   by_cases hc:G.length=0
   ·rw[if_pos hc] at hstep
    (repeat' first|refine st ?_|refine sa fun xe hxe=>?_|refine sb (fun hq=>?_) fun hq=>?_|exact aE)
    refine⟨f+1,by omega,by omega,?_⟩
    rw[hstep,ir]
    rfl
   ·rw[if_neg hc] at hstep
    (repeat' first|refine st ?_|refine sa fun xe hxe=>?_|refine sb (fun hq=>?_) fun hq=>?_|exact aE)
    refine⟨f+1,by omega,by omega,?_⟩
    rw[hstep]
    rfl
 ·have:f=ts.length:=by omega
  subst this
  (repeat' first|refine st ?_|refine sa fun xe hxe=>?_|refine sb (fun hq=>?_) fun hq=>?_|exact aE)
  exact⟨rfl,rfl⟩
end Go.Proofs.Ytbmnihglaokhmaa.Am
namespace Go.Proofs.Ytbmnihglaokhmaa.Am
open Go
set_option linter.unusedSectionVars false
variable [PhC Try.prog]
attribute [local irreducible] Mk ct Ari fl mJ jJ cL dy jb gq At bz
set_option maxRecDepth 10000
def iB (lanes:List (List Nat))(p k:Nat):List Nat:=(lanes.take p).flatten++(lanes.getD p []).take k
theorem rr (lanes:List (List Nat))(p:Nat):iB lanes p 0=(lanes.take p).flatten:=by simp[iB]
theorem zq {lanes:List (List Nat)}{p k i:Nat}{L:List Nat}(hp:lanes[p]?=some L)(hk:L[k]?=some i):iB lanes p (k+1)=iB lanes p k++[i]:=by
 have hg:lanes.getD p []=L:=by rw[aX,hp];rfl
 obtain⟨hlt,rfl⟩:=cq.1 hk
 simp only[iB,hg,mA hlt,cX]
theorem zp {lanes:List (List Nat)}{p:Nat}{L:List Nat}(hp:lanes[p]?=some L):iB lanes p L.length=(lanes.take (p+1)).flatten:=by
 have hg:lanes.getD p []=L:=by rw[aX,hp];rfl
 obtain⟨hlt,rfl⟩:=cq.1 hp
 unfold iB
 rw[hg,mA hlt,List.flatten_append,nI,List.flatten_cons,List.flatten_nil,ir]
theorem Bu (lanes:List (List Nat))(p k:Nat):(iB lanes p k).Sublist lanes.flatten:=by
 have h1:lanes.flatten=(lanes.take p).flatten++(lanes.drop p).flatten:=by rw[←List.flatten_append,List.take_append_drop]
 rw[h1]
 refine List.Sublist.append (List.Sublist.refl _) ?_
 rcases db p lanes.length with hp|hp
 ·rw[rI hp,List.flatten_cons,aX,aZ hp]
  exact(List.take_sublist _ _).trans (List.sublist_append_left _ _)
 ·rw[aX,jC hp]
  simp
theorem LanesOK.len {ts:List Txn}{lanes:List (List Nat)}(h:LanesOK ts lanes):lanes.flatten.length=ts.length:=by
 have:lanes.flatten.Perm (List.range ts.length):=(List.perm_ext_iff_of_nodup h.nodup List.nodup_range).2 fun a=>by rw[h.mem,gU]
 rw[this.length_eq,List.length_range]
theorem Bv {ts:List Txn}{lanes:List (List Nat)}(h:LanesOK ts lanes){l:Led}(hok:mF l)(hf:l.f+9*ts.length≤99000)(o:List Bool)(p k:Nat):mF (cZ ts (l,o) (iB lanes p k)).1∧(cZ ts (l,o) (iB lanes p k)).1.f≤l.f+9*ts.length∧(cZ ts (l,o) (iB lanes p k)).2.length=o.length:=by
 have hs:=Bu lanes p k
 have hl:(iB lanes p k).length≤ts.length:=by rw[←h.len];exact hs.length_le
 have hm:∀i∈iB lanes p k,i<ts.length:=fun i hi=>(h.mem i).1 (hs.subset hi)
 rw[mf ts _ l o hm]
 have:=oh l ((iB lanes p k).map fun i=>ts.getD i ⟨0,0,0,0⟩) hok (by rw[bG];omega)
 rw[bG] at this
 exact⟨this.1,by omega,js ..⟩
theorem gr {ts:List Txn}{lanes:List (List Nat)}(h:LanesOK ts lanes){p k i:Nat}{L:List Nat}(hp:lanes[p]?=some L)(hk:L[k]?=some i):i<ts.length:=
 (h.mem i).1 (List.mem_flatten.2 ⟨L,dm hp,dm hk⟩)
theorem lM {ts:List Txn}{lanes:List (List Nat)}(h:LanesOK ts lanes){p:Nat}{L:List Nat}(hp:lanes[p]?=some L):L.length≤ts.length:=by
 rw[←h.len]
 exact(List.sublist_flatten_of_mem (dm hp)).length_le
theorem yh {ts:List Txn}(hv:∀t∈ts,bW t=true){lanes:List (List Nat)}(h:LanesOK ts lanes)(l:Led):cZ ts (l,List.replicate ts.length false) (lanes.take lanes.length).flatten=(bu l ts,cK l ts):=by
 rw[nI,h.run hv,lr ts l _ (by simp) ts.length (aN _),nI]
 simp
theorem iR (lab:List Int)(n k:Nat):eO lab n k=(cd lab n k).map fun L=>L.map fun i:Nat=>(i:Int):=rfl
theorem fA (lab:List Int)(n:Nat):∀k,(cd lab n k).length≤k
 |0=>aN _
 |k+1=>by
  have:=fA lab n k
  simp only[cd,b7]
  split<;>simp<;>omega
def nO (l:Led)(ts:List Txn):Bool:=fU l 16 && fO ts
theorem oc {b:List Int}{f:Int}{ts:List Txn}(h:nO ⟨b,f⟩ ts=true):fU ⟨b,f⟩ 16=true∧fO ts=true∧ts.length≤16∧(∀t∈ts,bW t=true)∧mF ⟨b,f⟩∧f+9*ts.length≤99000:=by
 simp only[nO,bT] at h
 obtain⟨h1,h2⟩:=nB (by omega) h.1
 have h3:=h.2
 simp only[fO,bT,decide_eq_true_eq,bc] at h3
 exact⟨h.1,h.2,h3.1,h3.2,h1,by omega⟩
theorem nE (b:List Int)(f:Int)(ts:List Txn):bz Try.prog 9 [.agg [.lst (.int .i64) b,.int .i64 f],.lst .txn ts] []
  (if nO ⟨b,f⟩ ts then .tup [.agg [.lst (.int .i64) (bu ⟨b,f⟩ ts).b,.int .i64 (bu ⟨b,f⟩ ts).f],.lst .bool (cK ⟨b,f⟩ ts)] else .tup [.agg [.nils,.int .i64 0],.lst .bool []]) []:=by
 refine bH bq Try.func9 rfl rfl true 0 4 rfl rfl rfl rfl fun K hK hb1 hb2=>?_;simp only[bJ,enc,Nat.reduceAdd]
 simp[aB,V.toD,bnd,aj,D.cells] at hb1
 clear hb2
 have hroom:=EC b f 16 (by omega)
 have hval:=BL ts
 cases hv:nO ⟨b,f⟩ ts
 ·cases hr:fU ⟨b,f⟩ 16
  ·rw[hr] at hroom
   (repeat' first|refine st ?_|refine sa fun xe hxe=>?_|refine sb (fun hq=>?_) fun hq=>?_|refine cr (hroom) ?_|exact aE)
   exact⟨rfl,rfl⟩
  ·have hl:fO ts=false:=by simpa[nO,hr] using hv
   rw[hr] at hroom
   rw[hl] at hval
   (repeat' first|refine st ?_|refine sa fun xe hxe=>?_|refine sb (fun hq=>?_) fun hq=>?_|refine cr (hroom) ?_|refine cr (hval) ?_|exact aE)
   exact⟨rfl,rfl⟩
 ·obtain⟨h1,h2,h3,h4,h5,h6⟩:=oc hv
  have hlen:b.length=6:=h5.1
  rw[h1] at hroom
  rw[h2] at hval
  have hlo:LanesOK ts (cd (cz ts ts.length) ts.length ts.length):=jg (CF ts)
  have hfin:=yh h4 hlo ⟨b,f⟩
  have hll:=fA (cz ts ts.length) ts.length ts.length
  have hlc:=BK ts h3
  rw[iR] at hlc
  generalize cd (cz ts ts.length) ts.length ts.length=lanes at *
  (repeat' first|refine st ?_|refine sa fun xe hxe=>?_|refine sb (fun hq=>?_) fun hq=>?_|refine cr (hroom) ?_|refine cr (hval) ?_|refine cr (hlc) ?_|((with_reducible refine gB ?_);(conv=>whnf);(first|with_reducible refine ld (wm _ _ (by omega)) ?_);conv=>whnf)|exact aE)
  refine bA hK [6] [1,4,5,6,7,8,9] (fun p:Nat=>⟨[(1,.lst .txn ts),(4,.ptr 4 0),(5,.nils),(6,.ptr 5 0),(7,.ref 6),(8,.lst (.lst (.int .i64)) (lanes.map fun L=>L.map fun i:Nat=>(i:Int))),(9,.int .i64 p)],
   [(4,.var 25 [.nils,.int .i64 0]),(5,.var 25 [.lst (.int .i64) (cZ ts (⟨b,f⟩,List.replicate ts.length false) (lanes.take p).flatten).1.b,.int .i64 (cZ ts (⟨b,f⟩,List.replicate ts.length false) (lanes.take p).flatten).1.f]),(6,.row 4 .bool (cZ ts (⟨b,f⟩,List.replicate ts.length false) (lanes.take p).flatten).2)],7⟩)
   (fun p=>p≤lanes.length) (fun p=>lanes.length-p) 0 (by simp) (by rfl) ?_
  intro p hp
  have hzl:(lanes.map fun L=>L.map fun i:Nat=>(i:Int)).length=lanes.length:=bG ..
  by_cases hlt:p<lanes.length
  ·have hL:lanes[p]?=some lanes[p]:=aZ hlt
   generalize lanes[p]=L at *
   have hZ:(lanes.map fun L=>L.map fun i:Nat=>(i:Int))[p]?=some (L.map fun i:Nat=>(i:Int)):=by rw[b9,hL];rfl
   have hLl:=lM hlo hL
   have hml:(L.map fun i:Nat=>(i:Int)).length=L.length:=bG ..
   rw[←rr]
   (repeat' first|refine st ?_|refine sa fun xe hxe=>?_|refine sb (fun hq=>?_) fun hq=>?_|exact aE)
   refine bA hK [6] [1,4,5,6,7,8,9,10] (fun k:Nat=>⟨[(1,.lst .txn ts),(4,.ptr 4 0),(5,.nils),(6,.ptr 5 0),(7,.ref 6),(8,.lst (.lst (.int .i64)) (lanes.map fun L=>L.map fun i:Nat=>(i:Int))),(9,.int .i64 p),(10,.int .i64 k)],
    [(4,.var 25 [.nils,.int .i64 0]),(5,.var 25 [.lst (.int .i64) (cZ ts (⟨b,f⟩,List.replicate ts.length false) (iB lanes p k)).1.b,.int .i64 (cZ ts (⟨b,f⟩,List.replicate ts.length false) (iB lanes p k)).1.f]),(6,.row 4 .bool (cZ ts (⟨b,f⟩,List.replicate ts.length false) (iB lanes p k)).2)],7⟩)
    (fun k=>k≤L.length) (fun k=>L.length-k) 0 (by simp) (by rfl) ?_
   intro k hk
   obtain⟨o1,o2,o3⟩:=Bv hlo h5 h6 (List.replicate ts.length false) p k
   rw[gT] at o3
   by_cases hlt2:k<L.length
   ·have hi:L[k]?=some L[k]:=aZ hlt2
    generalize L[k]=i at *
    have hiZ:(L.map fun i:Nat=>(i:Int))[k]?=some (i:Int):=by rw[b9,hi];rfl
    have hin:=gr hlo hL hi
    have hx:ts[i]?=some ts[i]:=aZ hin
    generalize ts[i]=tc at *
    have hst:cZ ts (⟨b,f⟩,List.replicate ts.length false) (iB lanes p (k+1))=dT ts (cZ ts (⟨b,f⟩,List.replicate ts.length false) (iB lanes p k)) i:=by rw[zq hL hi,iX];rfl
    generalize cZ ts (⟨b,f⟩,List.replicate ts.length false) (iB lanes p k)=s at *
    obtain⟨⟨cb,cf⟩,co⟩:=s
    obtain⟨x,y,s,e⟩:=tc
    simp only[dT,hx] at hst
    have hcl:cb.length=6:=o1.1
    have ho3:co.length=ts.length:=o3
    generalize lanes.map (fun L=>L.map fun i:Nat=>(i:Int))=Z at *
    generalize L.map (fun i:Nat=>(i:Int))=LZ at *
    (repeat' first|refine st ?_|refine sa fun xe hxe=>?_|refine sb (fun hq=>?_) fun hq=>?_|refine cr (Ch _ _ _ _ _ _ o1) ?_|exact aE)
    refine⟨k+1,by omega,by omega,?_⟩
    rw[hst]
    rfl
   ·have:k=L.length:=by omega
    subst this
    have hfl:=zp hL
    have hst:cZ ts (⟨b,f⟩,List.replicate ts.length false) (iB lanes p L.length)=cZ ts (⟨b,f⟩,List.replicate ts.length false) (lanes.take (p+1)).flatten:=by rw[hfl]
    generalize hZZ:lanes.map (fun L=>L.map fun i:Nat=>(i:Int))=Z at *
    generalize L.map (fun i:Nat=>(i:Int))=LZ at *
    (repeat' first|refine st ?_|refine sa fun xe hxe=>?_|refine sb (fun hq=>?_) fun hq=>?_|exact aE)
    refine⟨p+1,by omega,by omega,?_⟩
    rw[←hst]
    rfl
  ·have:p=lanes.length:=by omega
   subst this
   rw[hfin]
   (repeat' first|refine st ?_|refine sa fun xe hxe=>?_|refine sb (fun hq=>?_) fun hq=>?_|exact aE)
   exact⟨rfl,rfl⟩
end Go.Proofs.Ytbmnihglaokhmaa.Am
namespace Go.Proofs.Ytbmnihglaokhmaa.Am
open Go
set_option linter.unusedSectionVars false
variable [PhC Try.prog]
attribute [local irreducible] Mk ct Ari fl mJ jJ cL dy jb gq At bz
set_option maxRecDepth 10000
theorem uh (n:Int):bz Try.prog 83 [.int .i64 n] [] (.bool (mG n 0 5)) []:=by
 refine bH bq Try.func83 rfl rfl false 0 4 rfl rfl rfl rfl fun K hK hb1 hb2=>?_;simp only[bJ,enc,Nat.reduceAdd]
 (repeat' first|refine st ?_|refine sa fun xe hxe=>?_|refine sb (fun hq=>?_) fun hq=>?_|exact aE)
 all_goals (refine⟨congrArg V.bool ?_,rfl⟩;(first|rfl|(simp[mG];done)|(simp_all[mG];done)|(rw[Bool.eq_iff_iff];(try simp[mG] at *);omega)|(simp_all[mG];omega)))
theorem ia (a b s e:Int):bz Try.prog 56 [.agg [.int .i64 a,.int .i64 b,.int .i64 s,.int .i64 e]] [] (.bool (bW ⟨a,b,s,e⟩)) []:=by
 refine bH bq Try.func56 rfl rfl false 0 4 rfl rfl rfl rfl fun K hK hb1 hb2=>?_;simp only[bJ,enc,Nat.reduceAdd]
 clear hb1 hb2
 (repeat' first|refine st ?_|refine sa fun xe hxe=>?_|refine sb (fun hq=>?_) fun hq=>?_|refine cr (uh _) ?_|exact aE)
 all_goals (refine⟨congrArg V.bool ?_,rfl⟩;(first|rfl|(simp[bW,mG];done)|(simp_all[bW,mG];done)|(rw[Bool.eq_iff_iff];(try simp[bW,mG] at *);omega)|(simp_all[bW,mG];omega)))
theorem jV (b:List Int)(f:Int):bz Try.prog 55 [.agg [.lst (.int .i64) b,.int .i64 f]] [] (.bool (li ⟨b,f⟩)) []:=by
 refine bH bq Try.func55 rfl rfl false 0 4 rfl rfl rfl rfl fun K hK hb1 hb2=>?_;simp only[bJ,enc,Nat.reduceAdd]
 simp[aB,V.toD,bnd,aj,D.cells] at hb1
 clear hb2
 by_cases hc:b.length=6∧0≤f∧f≤5994
 ·(repeat' first|refine st ?_|refine sa fun xe hxe=>?_|refine sb (fun hq=>?_) fun hq=>?_|exact aE)
  refine bA hK [] [2,20,21,22] (fun i:Nat=>⟨[(2,.bool false),(20,.lst (.int .i64) b),(21,.int .i64 b.length),(22,.int .i64 i)],[],4⟩) (fun i=>i≤b.length∧∀x∈b.take i,mG x 0 999=true) (fun i=>b.length-i) 0 ⟨by simp,by simp⟩ rfl ?_
  rintro i ⟨hi,hall⟩
  by_cases hlt:i<b.length
  ·have hx:b[i]?=some (b[i]):=aZ hlt
   have hm:b[i]∈b:=eG hlt
   have ht:b.take (i+1)=b.take i++[b[i]]:=mA hlt
   generalize b[i]=x at *
   by_cases hv:0≤x∧x≤999
   ·(repeat' first|refine st ?_|refine sa fun xe hxe=>?_|refine sb (fun hq=>?_) fun hq=>?_|exact aE)
    refine⟨i+1,⟨hlt,?_⟩,by omega,rfl⟩
    rw[ht]
    intro y hy
    rcases cm.1 hy with hy|hy
    ·exact hall y hy
    ·rw[bd.1 hy];simp only[mG,bT,decide_eq_true_eq];exact hv
   ·have hal:li ⟨b,f⟩=false:=by
     simp only[li,mC]
     left
     rw[List.all_eq_false]
     exact⟨x,hm,by simp only[mG,bT,decide_eq_true_eq];exact hv⟩
    rw[hal]
    (repeat' first|refine st ?_|refine sa fun xe hxe=>?_|refine sb (fun hq=>?_) fun hq=>?_|exact aE)
    all_goals exact⟨rfl,rfl⟩
  ·have hal:(b.all fun x=>mG x 0 999)=true:=by
    rw[bc]
    rw[gj (by omega)] at hall
    exact hall
   have hl:li ⟨b,f⟩=true:=by
    unfold li
    rw[hal]
    simp only[mG,Bool.true_and,bT,decide_eq_true_eq,beq_iff_eq]
    exact hc
   rw[hl]
   (repeat' first|refine st ?_|refine sa fun xe hxe=>?_|refine sb (fun hq=>?_) fun hq=>?_|exact aE)
   all_goals exact⟨rfl,rfl⟩
 ·have hl:li ⟨b,f⟩=false:=by
   simp only[li,mC]
   right
   simp only[mG,beq_eq_false_iff_ne,mC,decide_eq_false_iff_not]
   omega
  rw[hl]
  (repeat' first|refine st ?_|refine sa fun xe hxe=>?_|refine sb (fun hq=>?_) fun hq=>?_|exact aE)
  all_goals exact⟨rfl,rfl⟩
theorem pE (b:List Int)(f:Int)(h:b.length=6):bz Try.prog 30 [.agg [.lst (.int .i64) b,.int .i64 f]] [] (.ptr 4 0) [(4,.vari 60 [] 6 (.int .i64) b [.int .i64 f])]:=by
 refine bH bq Try.func30 rfl rfl false 0 4 rfl rfl rfl rfl fun K hK hb1 hb2=>?_;simp only[bJ,enc,Nat.reduceAdd]
 (repeat' first|refine st ?_|refine sa fun xe hxe=>?_|refine sb (fun hq=>?_) fun hq=>?_|exact aE)
 exact⟨rfl,rfl⟩
theorem Ac (b:List Int)(f a s:Int)(T:TypeId)(h:mF ⟨b,f⟩)(ha:0≤a∧a≤5):bz Try.prog 79 [.ptr 4 0,.int .i64 a,.int .i64 s] [(4,.vari T [] 6 (.int .i64) b [.int .i64 f])]
  (.bool (decide (s≤b.getD a.toNat 0))) [(4,.vari T [] 6 (.int .i64) b [.int .i64 f])]:=by
 refine bH bq Try.func79 rfl rfl false 1 5 rfl rfl rfl rfl fun K hK hb1 hb2=>?_;simp only[bJ,enc,Nat.reduceAdd]
 obtain⟨hx1,hx2⟩:=ee h ha.1 ha.2
 generalize b.getD a.toNat 0=bx at *
 (repeat' first|refine st ?_|refine sa fun xe hxe=>?_|refine sb (fun hq=>?_) fun hq=>?_|exact aE)
 exact⟨rfl,rfl⟩
theorem yz (b:List Int)(f a s:Int)(T:TypeId)(h:mF ⟨b,f⟩)(ha:0≤a∧a≤5)(hs:0≤s∧s≤10000):bz Try.prog 80 [.ptr 4 0,.int .i64 a,.int .i64 s] [(4,.vari T [] 6 (.int .i64) b [.int .i64 f])]
  (.bool (decide (b.getD a.toNat 0+s≤999))) [(4,.vari T [] 6 (.int .i64) b [.int .i64 f])]:=by
 refine bH bq Try.func80 rfl rfl false 1 5 rfl rfl rfl rfl fun K hK hb1 hb2=>?_;simp only[bJ,enc,Nat.reduceAdd]
 obtain⟨hx1,hx2⟩:=ee h ha.1 ha.2
 generalize b.getD a.toNat 0=bx at *
 (repeat' first|refine st ?_|refine sa fun xe hxe=>?_|refine sb (fun hq=>?_) fun hq=>?_|exact aE)
 exact⟨rfl,rfl⟩
theorem tE (b:List Int)(f x y s e:Int)(T:TypeId)(hok:mF ⟨b,f⟩)(hf:f+9≤100000):bz Try.prog 44 [.ptr 4 0,.agg [.int .i64 x,.int .i64 y,.int .i64 s,.int .i64 e]] [(4,.vari T [] 6 (.int .i64) b [.int .i64 f])]
  (.bool (cE ⟨b,f⟩ ⟨x,y,s,e⟩)) [(4,.vari T [] 6 (.int .i64) (bO ⟨b,f⟩ ⟨x,y,s,e⟩).b [.int .i64 (bO ⟨b,f⟩ ⟨x,y,s,e⟩).f])]:=by
 have hlen:b.length=6:=hok.1
 have h3:0≤f∧f≤100000:=hok.2.2
 refine bH bq Try.func44 rfl rfl false 1 5 rfl rfl rfl rfl fun K hK hb1 hb2=>?_;simp only[bJ,enc,Nat.reduceAdd]
 clear hb1 hb2
 cases hv:bW ⟨x,y,s,e⟩
 ·(repeat' first|refine st ?_|refine sa fun xe hxe=>?_|refine sb (fun hq=>?_) fun hq=>?_|refine cr (ia _ _ _ _) ?_|exact aE)
  exact⟨by simp[cE,hv],by simp[bO,cE,hv]⟩
 ·obtain⟨hx,hy,hxy,hs,he⟩:=dP hv
  obtain⟨hx1,hx2⟩:=ee hok hx.1 hx.2
  obtain⟨hy1,hy2⟩:=ee hok hy.1 hy.2
  have hyset:(b.set x.toNat (b.getD x.toNat 0-(s+e)))[y.toNat]?=some (b.getD y.toNat 0):=by rw[List.getElem?_set_ne (by omega)];exact hy1
  (repeat' first|refine st ?_|refine sa fun xe hxe=>?_|refine sb (fun hq=>?_) fun hq=>?_|refine cr (ia _ _ _ _) ?_|((with_reducible refine gB ?_);(conv=>whnf);(first|with_reducible refine ld (Ac _ _ _ _ _ hok (by omega)) ?_|with_reducible refine ld (yz _ _ _ _ _ hok (by omega) (by omega)) ?_);conv=>whnf)|exact aE)
  ·have hn:cE ⟨b,f⟩ ⟨x,y,s,e⟩=false:=by simp only[cE,hv];simp only[Bool.true_and,mC,Bool.not_eq_false',decide_eq_true_eq];omega
   exact⟨by rw[hn],by simp only[bO,hn,e9,if_false]⟩
  ·have hn:cE ⟨b,f⟩ ⟨x,y,s,e⟩=false:=by simp only[cE,hv];simp only[Bool.true_and,mC,Bool.not_eq_false',decide_eq_true_eq];omega
   exact⟨by rw[hn],by simp only[bO,hn,e9,if_false]⟩
  ·have hn:cE ⟨b,f⟩ ⟨x,y,s,e⟩=true:=by simp only[cE,hv];simp only[Bool.true_and,bT,i9,decide_eq_false_iff_not];omega
   exact⟨by rw[hn],by simp only[bO,hn,if_true,Int.sub_sub]⟩
theorem qJ (b:List Int)(f:Int)(T:TypeId)(h:b.length=6):bz Try.prog 37 [.ptr 4 0] [(4,.vari T [] 6 (.int .i64) b [.int .i64 f])] (.agg [.ref 5,.int .i64 f]) [(4,.vari T [] 6 (.int .i64) b [.int .i64 f]),(5,.row 3 (.int .i64) b)]:=by
 refine bH bq Try.func37 rfl rfl false 1 5 rfl rfl rfl rfl fun K hK hb1 hb2=>?_;simp only[bJ,enc,Nat.reduceAdd]
 (repeat' first|refine st ?_|refine sa fun xe hxe=>?_|refine sb (fun hq=>?_) fun hq=>?_|exact aE)
 exact⟨rfl,rfl⟩
theorem gu (b:List Int)(f:Int)(ts:List Txn):bz Try.prog 28 [.agg [.lst (.int .i64) b,.int .i64 f],.lst .txn ts] [] (.bool (iC ⟨b,f⟩ ts)) []:=by
 refine bH bq Try.func28 rfl rfl false 0 4 rfl rfl rfl rfl fun K hK hb1 hb2=>?_;simp only[bJ,enc,Nat.reduceAdd]
 clear hb1 hb2
 cases hv:li ⟨b,f⟩
 ·(repeat' first|refine st ?_|refine sa fun xe hxe=>?_|refine sb (fun hq=>?_) fun hq=>?_|refine cr (jV _ _) ?_|exact aE)
  all_goals (refine⟨congrArg V.bool ?_,rfl⟩;(first|rfl|(simp[iC,fU,hv];done)|(simp_all[iC,fU,hv];done)|(rw[Bool.eq_iff_iff];(try simp[iC,fU,hv] at *);omega)|(simp_all[iC,fU,hv];omega)))
 ·have hf:0≤f∧f≤5994:=by simp[li,mG] at hv;omega
  (repeat' first|refine st ?_|refine sa fun xe hxe=>?_|refine sb (fun hq=>?_) fun hq=>?_|refine cr (jV _ _) ?_|exact aE)
  all_goals (refine⟨congrArg V.bool ?_,rfl⟩;(first|rfl|(simp[iC,fU,hv];done)|(simp_all[iC,fU,hv];done)|(rw[Bool.eq_iff_iff];(try simp[iC,fU,hv] at *);omega)|(simp_all[iC,fU,hv];omega)))
theorem vg (o:List Bool)(m:Nat)(v:Bool)(h:o.length<m):(o++List.replicate (m-o.length) false).set o.length v=(o++[v])++List.replicate (m-(o.length+1)) false:=by
 rw[List.set_append_right _ _ (aN _),Nat.sub_self]
 rw[show m-o.length=(m-(o.length+1))+1 by omega,List.replicate_succ]
 simp
theorem sF (b:List Int)(f:Int)(ts:List Txn):bz Try.prog 12 [.agg [.lst (.int .i64) b,.int .i64 f],.lst .txn ts] []
  (if iC ⟨b,f⟩ ts then .tup [.agg [.ref 4,.int .i64 (bu ⟨b,f⟩ ts).f],.ref 5] else .tup [.agg [.nils,.int .i64 0],.ref 4])
  (if iC ⟨b,f⟩ ts then[(4,.row 3 (.int .i64) (bu ⟨b,f⟩ ts).b),(5,.row 4 .bool (cK ⟨b,f⟩ ts))] else[(4,.row 4 .bool [])]):=by
 refine bH bq Try.func12 rfl rfl false 0 4 rfl rfl rfl rfl fun K hK hb1 hb2=>?_;simp only[bJ,enc,Nat.reduceAdd]
 clear hb1 hb2
 cases hv:iC ⟨b,f⟩ ts
 ·(repeat' first|refine st ?_|refine sa fun xe hxe=>?_|refine sb (fun hq=>?_) fun hq=>?_|refine cr (gu _ _ _) ?_|exact aE)
  exact⟨rfl,rfl⟩
 ·obtain⟨h1,h2,h3,h4⟩:=C4 hv
  have hlen:b.length=6:=h3.1
  (repeat' first|refine st ?_|refine sa fun xe hxe=>?_|refine sb (fun hq=>?_) fun hq=>?_|refine cr (gu _ _ _) ?_|refine cr (pE _ _ hlen) ?_|exact aE)
  refine bA hK [] [4,5,6,7,21,22,23] (fun i:Nat=>⟨[(4,.ptr 4 0),(5,.nils),(6,.ptr 5 0),(7,.ref 6),(21,.lst .txn ts),(22,.int .i64 ts.length),(23,.int .i64 i)],
   [(4,.var 25 [.nils,.int .i64 0]),(5,.vari 60 [] 6 (.int .i64) (bu ⟨b,f⟩ (ts.take i)).b [.int .i64 (bu ⟨b,f⟩ (ts.take i)).f]),(6,.row 4 .bool (cK ⟨b,f⟩ (ts.take i)++List.replicate (ts.length-i) false))],7⟩)
   (fun i=>i≤ts.length) (fun i=>ts.length-i) 0 (by simp) rfl ?_
  intro i hi
  have hok2:=oh ⟨b,f⟩ (ts.take i) h3 (by simp only[jz];omega)
  have hlo:(cK ⟨b,f⟩ (ts.take i)).length=i:=by rw[fV,jz];omega
  by_cases hlt:i<ts.length
  ·have hx:ts[i]?=some ts[i]:=aZ hlt
   have hs1:bu ⟨b,f⟩ (ts.take (i+1))=bO (bu ⟨b,f⟩ (ts.take i)) ts[i]:=by rw[mA hlt,kJ]
   have hs2:cK ⟨b,f⟩ (ts.take (i+1))=cK ⟨b,f⟩ (ts.take i)++[cE (bu ⟨b,f⟩ (ts.take i)) ts[i]]:=by rw[mA hlt,kK]
   have hfl:=vg (cK ⟨b,f⟩ (ts.take i)) ts.length (cE (bu ⟨b,f⟩ (ts.take i)) ts[i]) (by omega)
   rw[hlo] at hfl
   have hll:(cK ⟨b,f⟩ (ts.take i)++List.replicate (ts.length-i) false).length=ts.length:=by rw[b7,gT,hlo];omega
   generalize hrow:cK ⟨b,f⟩ (ts.take i)++List.replicate (ts.length-i) false=row at *
   have hlf:(bu ⟨b,f⟩ (ts.take i)).f+9≤100000:=by
    have:=hok2.2
    simp only[jz] at this
    omega
   generalize bu ⟨b,f⟩ (ts.take i)=lc at *
   generalize ts[i]=tc at *
   obtain⟨cb,cf⟩:=lc
   obtain⟨x,y,s,e⟩:=tc
   have hcf:cf+9≤100000:=hlf
   (repeat' first|refine st ?_|refine sa fun xe hxe=>?_|refine sb (fun hq=>?_) fun hq=>?_|refine cr (tE _ _ _ _ _ _ _ hok2.1 hcf) ?_|exact aE)
   refine⟨i+1,by omega,by omega,?_⟩
   rw[hs1,hs2,←hfl]
   rfl
  ·have:i=ts.length:=by omega
   subst this
   have hl6:(bu ⟨b,f⟩ (ts.take ts.length)).b.length=6:=hok2.1.1
   (repeat' first|refine st ?_|refine sa fun xe hxe=>?_|refine sb (fun hq=>?_) fun hq=>?_|refine cr (qJ _ _ _ hl6) ?_|exact aE)
   rw[nI]
   simp
end Go.Proofs.Ytbmnihglaokhmaa.Am
namespace Go.Proofs.Ytbmnihglaokhmaa.Am
open Go
set_option linter.unusedSectionVars false
variable [PhC Try.prog]
attribute [local irreducible] Mk ct Ari fl mJ jJ cL dy jb gq At bz
set_option maxRecDepth 10000
theorem CB (a b s e a' b' s' e':Int):bz Try.prog 57 [.agg [.int .i64 a,.int .i64 b,.int .i64 s,.int .i64 e],.agg [.int .i64 a',.int .i64 b',.int .i64 s',.int .i64 e']] [] (.bool (dR ⟨a,b,s,e⟩ ⟨a',b',s',e'⟩)) []:=by
 refine bH bq Try.func57 rfl rfl false 0 4 rfl rfl rfl rfl fun K hK hb1 hb2=>?_;simp only[bJ,enc,Nat.reduceAdd]
 clear hb1 hb2
 (repeat' first|refine st ?_|refine sa fun xe hxe=>?_|refine sb (fun hq=>?_) fun hq=>?_|exact aE)
 all_goals (refine⟨congrArg V.bool ?_,rfl⟩;(first|rfl|(simp[dR];done)|(simp_all[dR];done)|(rw[Bool.eq_iff_iff];(try simp[dR] at *);omega)|(simp_all[dR];omega)))
theorem pf (ts:List Txn):bz Try.prog 29 [.lst .txn ts] [] (.bool (fO ts)) []:=by
 refine bH bq Try.func29 rfl rfl false 0 4 rfl rfl rfl rfl fun K hK hb1 hb2=>?_;simp only[bJ,enc,Nat.reduceAdd]
 simp[aB,V.toD,bnd,aj,D.cells] at hb1
 clear hb2
 by_cases hc:ts.length≤16
 ·(repeat' first|refine st ?_|refine sa fun xe hxe=>?_|refine sb (fun hq=>?_) fun hq=>?_|exact aE)
  refine bA hK [] [2,8,9,10] (fun i:Nat=>⟨[(2,.bool false),(8,.lst .txn ts),(9,.int .i64 ts.length),(10,.int .i64 i)],[],4⟩) (fun i=>i≤ts.length∧∀x∈ts.take i,bW x=true) (fun i=>ts.length-i) 0 ⟨by simp,by simp⟩ (by rfl) ?_
  rintro i ⟨hi,hall⟩
  by_cases hlt:i<ts.length
  ·have hx:ts[i]?=some (ts[i]):=aZ hlt
   have hm:ts[i]∈ts:=eG hlt
   have ht:ts.take (i+1)=ts.take i++[ts[i]]:=mA hlt
   generalize ts[i]=x at *
   obtain⟨x1,x2,x3,x4⟩:=x
   cases hv:bW ⟨x1,x2,x3,x4⟩
   ·have hal:fO ts=false:=by
     simp only[fO,mC]
     right
     rw[List.all_eq_false]
     exact⟨_,hm,by simp[hv]⟩
    have hc:=ia x1 x2 x3 x4
    rw[hv] at hc
    rw[hal]
    (repeat' first|refine st ?_|refine sa fun xe hxe=>?_|refine sb (fun hq=>?_) fun hq=>?_|refine cr (hc) ?_|exact aE)
    all_goals exact⟨rfl,rfl⟩
   ·have hc:=ia x1 x2 x3 x4
    rw[hv] at hc
    (repeat' first|refine st ?_|refine sa fun xe hxe=>?_|refine sb (fun hq=>?_) fun hq=>?_|refine cr (hc) ?_|exact aE)
    refine⟨i+1,⟨hlt,?_⟩,by omega,rfl⟩
    rw[ht]
    intro y hy
    rcases cm.1 hy with hy|hy
    ·exact hall y hy
    ·rw[bd.1 hy];exact hv
  ·have hal:fO ts=true:=by
    simp only[fO,bT,decide_eq_true_eq,bc]
    rw[gj (by omega)] at hall
    exact⟨hc,hall⟩
   rw[hal]
   (repeat' first|refine st ?_|refine sa fun xe hxe=>?_|refine sb (fun hq=>?_) fun hq=>?_|exact aE)
   all_goals exact⟨rfl,rfl⟩
 ·have hal:fO ts=false:=by simp[fO,hc]
  rw[hal]
  (repeat' first|refine st ?_|refine sa fun xe hxe=>?_|refine sb (fun hq=>?_) fun hq=>?_|exact aE)
  all_goals exact⟨rfl,rfl⟩
theorem ug (ts:List Txn)(hl:ts.length≤16):bz Try.prog 31 [.lst .txn ts] [] (.lst (.lst (.int .i64)) (eO (fy ts ts.length) ts.length ts.length)) []:=by
 refine bH bq Try.func31 rfl rfl true 0 4 rfl rfl rfl rfl fun K hK hb1 hb2=>?_;simp only[bJ,enc,Nat.reduceAdd]
 clear hb1 hb2
 (repeat' first|refine st ?_|refine sa fun xe hxe=>?_|refine sb (fun hq=>?_) fun hq=>?_|exact aE)
 rw[gT]
 refine bA hK [] [0,2,3,19,20] (fun i:Nat=>⟨[(0,.lst .txn ts),(2,.nils),(3,.ref 4),(19,.int .i64 ts.length),(20,.int .i64 i)],[(4,.row 3 (.int .i64) (fy ts i))],5⟩) (fun i=>i≤ts.length) (fun i=>ts.length-i) 0 (by simp) (by rfl) ?_
 intro i hi
 obtain⟨hlen,hrg,hcf⟩:=pp ts i hi
 by_cases hlt:i<ts.length
 ·have hstep:fy ts (i+1)=rowI ts (fy ts i) i:=by simp[fy,jE,List.foldl_append]
  generalize fy ts i=lab at *
  have hxi:ts[i]?=some ts[i]:=aZ hlt
  generalize ts[i]=ti at *
  obtain⟨x1,x2,x3,x4⟩:=ti
  (repeat' first|refine st ?_|refine sa fun xe hxe=>?_|refine sb (fun hq=>?_) fun hq=>?_|exact aE)
  refine bA hK [] [0,2,3,19,20,4,27,28] (fun j:Nat=>⟨[(0,.lst .txn ts),(2,.nils),(3,.ref 4),(19,.int .i64 ts.length),(20,.int .i64 i),(4,.int .i64 i),(27,.int .i64 i),(28,.int .i64 j)],[(4,.row 3 (.int .i64) ((List.range j).foldl (gg ts i) (lab.set i (i:Int))))],5⟩) (fun j=>j≤i) (fun j=>i-j) 0 (by simp) (by rfl) ?_
  intro j hj
  have hinv:=rowI_inv hlt hlen hrg hcf j hj
  have hl1:=hinv.len
  by_cases hlt2:j<i
  ·have hstep2:(List.range (j+1)).foldl (gg ts i) (lab.set i (i:Int))=gg ts i ((List.range j).foldl (gg ts i) (lab.set i (i:Int))) j:=by rw[jE,List.foldl_append];rfl
   generalize (List.range j).foldl (gg ts i) (lab.set i (i:Int))=lab1 at *
   have hj':j<ts.length:=by omega
   have hxj:ts[j]?=some ts[j]:=aZ hj'
   generalize ts[j]=tj at *
   obtain⟨y1,y2,y3,y4⟩:=tj
   have hce:=tI hxi hxj
   have hg1:lab1[i]?=some (lab1.getD i 0):=jT (by omega)
   have hg2:lab1[j]?=some (lab1.getD j 0):=jT (by omega)
   have hc:=CB x1 x2 x3 x4 y1 y2 y3 y4
   have hne:(lab1.getD i 0≠lab1.getD j 0∧confI ts i j=true)∨¬(lab1.getD i 0≠lab1.getD j 0∧confI ts i j=true):=fb _
   by_cases heq:lab1.getD i 0=lab1.getD j 0
   ·have he:gg ts i lab1 j=lab1:=by unfold gg;rw[if_neg (fun h=>h.1 heq)]
    (repeat' first|refine st ?_|refine sa fun xe hxe=>?_|refine sb (fun hq=>?_) fun hq=>?_|refine cr (hc) ?_|exact aE)
    refine⟨j+1,by omega,by omega,?_⟩
    rw[hstep2,he]
    rfl
   ·cases hcb:dR ⟨x1,x2,x3,x4⟩ ⟨y1,y2,y3,y4⟩
    ·rw[hcb] at hc hce
     have he:gg ts i lab1 j=lab1:=by unfold gg;rw[if_neg (fun h=>by rw[hce] at h;cases h.2)]
     (repeat' first|refine st ?_|refine sa fun xe hxe=>?_|refine sb (fun hq=>?_) fun hq=>?_|refine cr (hc) ?_|exact aE)
     refine⟨j+1,by omega,by omega,?_⟩
     rw[hstep2,he]
     rfl
    ·rw[hcb] at hc hce
     have he:gg ts i lab1 j=eX lab1 (max (lab1.getD i 0) (lab1.getD j 0)) (min (lab1.getD i 0) (lab1.getD j 0)) (i+1):=by unfold gg;rw[if_pos ⟨heq,hce⟩]
     (repeat' first|refine st ?_|refine sa fun xe hxe=>?_|refine sb (fun hq=>?_) fun hq=>?_|refine cr (hc) ?_|exact aE)
     have e1:(if lab1.getD j 0<lab1.getD i 0 then lab1.getD j 0 else lab1.getD i 0)=min (lab1.getD i 0) (lab1.getD j 0):=by split<;>omega
     have e2:(if lab1.getD i 0<lab1.getD j 0 then lab1.getD j 0 else lab1.getD i 0)=max (lab1.getD i 0) (lab1.getD j 0):=by split<;>omega
     rw[e1,e2]
     have hlh:min (lab1.getD i 0) (lab1.getD j 0)≠max (lab1.getD i 0) (lab1.getD j 0):=by omega
     clear e1 e2 hq
     generalize min (lab1.getD i 0) (lab1.getD j 0)=lo at *
     generalize max (lab1.getD i 0) (lab1.getD j 0)=hi at *
     refine bA hK [] [0,2,3,19,20,4,27,28,8,9,60,61] (fun k:Nat=>⟨[(0,.lst .txn ts),(2,.nils),(3,.ref 4),(19,.int .i64 ts.length),(20,.int .i64 i),(4,.int .i64 i),(27,.int .i64 i),(28,.int .i64 j),(8,.int .i64 lo),(9,.int .i64 hi),(60,.int .i64 ((i:Int)+1)),(61,.int .i64 k)],[(4,.row 3 (.int .i64) (eX lab1 hi lo k))],5⟩) (fun k=>k≤i+1) (fun k=>i+1-k) 0 (by simp) (by rfl) ?_
     intro k hk
     obtain⟨r1,r2⟩:=nj (lab:=lab1) hlh k (by omega)
     by_cases hlt3:k<i+1
     ·have hstep3:eX lab1 hi lo (k+1)=u5 hi lo (eX lab1 hi lo k) k:=by simp[eX,jE,List.foldl_append]
      generalize eX lab1 hi lo k=lab2 at *
      have hg:lab2[k]?=some (lab2.getD k 0):=jT (by omega)
      by_cases hc4:lab2.getD k 0=hi
      ·have he4:u5 hi lo lab2 k=lab2.set k lo:=by unfold u5;rw[if_pos hc4]
       (repeat' first|refine st ?_|refine sa fun xe hxe=>?_|refine sb (fun hq=>?_) fun hq=>?_|exact aE)
       refine⟨k+1,by omega,by omega,?_⟩
       rw[hstep3,he4]
       rfl
      ·have he4:u5 hi lo lab2 k=lab2:=by unfold u5;rw[if_neg hc4]
       (repeat' first|refine st ?_|refine sa fun xe hxe=>?_|refine sb (fun hq=>?_) fun hq=>?_|exact aE)
       refine⟨k+1,by omega,by omega,?_⟩
       rw[hstep3,he4]
       rfl
     ·have hki:k=i+1:=by omega
      subst hki
      rw[←he] at *
      (repeat' first|refine st ?_|refine sa fun xe hxe=>?_|refine sb (fun hq=>?_) fun hq=>?_|exact aE)
      refine⟨j+1,by omega,by omega,?_⟩
      rw[hstep2]
      rfl
  ·have:j=i:=by omega
   subst this
   have he:(List.range j).foldl (gg ts j) (lab.set j (j:Int))=rowI ts lab j:=rfl
   rw[he] at *
   (repeat' first|refine st ?_|refine sa fun xe hxe=>?_|refine sb (fun hq=>?_) fun hq=>?_|exact aE)
   refine⟨j+1,by omega,by omega,?_⟩
   rw[hstep]
   rfl
 have:i=ts.length:=by omega
 subst this
 clear hlt hi hrg hcf
 generalize fy ts ts.length=lab at *
 (repeat' first|refine st ?_|refine sa fun xe hxe=>?_|refine sb (fun hq=>?_) fun hq=>?_|exact aE)
 refine bA hK [] [0,2,3,11,79,80] (fun f:Nat=>⟨[(0,.lst .txn ts),(2,.nils),(3,.ref 4),(11,.ref 5),(79,.int .i64 ts.length),(80,.int .i64 f)],[(4,.row 3 (.int .i64) lab),(5,.row 23 (.lst (.int .i64)) (eO lab ts.length f))],6⟩) (fun f=>f≤ts.length) (fun f=>ts.length-f) 0 (by simp) (by rfl) ?_
 intro f hf
 have hzl:(eO lab ts.length f).length≤f:=by rw[iR,bG];exact fA ..
 by_cases hlt:f<ts.length
 ·have hstep:=jY lab ts.length f
  generalize eO lab ts.length f=Z at *
  (repeat' first|refine st ?_|refine sa fun xe hxe=>?_|refine sb (fun hq=>?_) fun hq=>?_|exact aE)
  refine bA hK [] [0,2,3,11,79,80,12,13,85,86] (fun i:Nat=>⟨[(0,.lst .txn ts),(2,.nils),(3,.ref 4),(11,.ref 5),(79,.int .i64 ts.length),(80,.int .i64 f),(12,.int .i64 f),(13,.ref 6),(85,.int .i64 ts.length),(86,.int .i64 i)],[(4,.row 3 (.int .i64) lab),(5,.row 23 (.lst (.int .i64)) Z),(6,.row 3 (.int .i64) ((f6 lab i f).map fun i:Nat=>(i:Int)))],7⟩) (fun i=>i≤ts.length) (fun i=>ts.length-i) 0 (by simp) (by rfl) ?_
  intro i hi
  have hgl:((f6 lab i f).map fun i:Nat=>(i:Int)).length≤i:=by rw[bG];exact gm (List.length_filter_le _ _) (by simp)
  by_cases hlt2:i<ts.length
  ·have hs2:=qY lab i f
   have hg:lab[i]?=some (lab.getD i 0):=jT (by omega)
   generalize (f6 lab i f).map (fun i:Nat=>(i:Int))=G at *
   by_cases hc:lab.getD i 0=(f:Int)
   ·rw[if_pos hc] at hs2
    (repeat' first|refine st ?_|refine sa fun xe hxe=>?_|refine sb (fun hq=>?_) fun hq=>?_|exact aE)
    refine⟨i+1,by omega,by omega,?_⟩
    rw[hs2]
    rfl
   ·rw[if_neg hc] at hs2
    (repeat' first|refine st ?_|refine sa fun xe hxe=>?_|refine sb (fun hq=>?_) fun hq=>?_|exact aE)
    refine⟨i+1,by omega,by omega,?_⟩
    rw[hs2]
    rfl
  ·have:i=ts.length:=by omega
   subst this
   have he:(f6 lab ts.length f).map (fun i:Nat=>(i:Int))=wE lab ts.length f:=rfl
   rw[he] at *
   generalize wE lab ts.length f=G at *
   by_cases hc:G.length=0
   ·rw[if_pos hc] at hstep
    (repeat' first|refine st ?_|refine sa fun xe hxe=>?_|refine sb (fun hq=>?_) fun hq=>?_|exact aE)
    refine⟨f+1,by omega,by omega,?_⟩
    rw[hstep,ir]
    rfl
   ·rw[if_neg hc] at hstep
    (repeat' first|refine st ?_|refine sa fun xe hxe=>?_|refine sb (fun hq=>?_) fun hq=>?_|exact aE)
    refine⟨f+1,by omega,by omega,?_⟩
    rw[hstep]
    rfl
 ·have:f=ts.length:=by omega
  subst this
  (repeat' first|refine st ?_|refine sa fun xe hxe=>?_|refine sb (fun hq=>?_) fun hq=>?_|exact aE)
  exact⟨rfl,rfl⟩
theorem pe (ts:List Txn)(h:fO ts=true)(hl:ts.length≤16):bz Try.prog 13 [.lst .txn ts] [] (.lst (.lst (.int .i64)) (eO (fy ts ts.length) ts.length ts.length)) []:=by
 have hval:=pf ts
 rw[h] at hval
 refine bH bq Try.func13 rfl rfl true 0 4 rfl rfl rfl rfl fun K hK hb1 hb2=>?_;simp only[bJ,enc,Nat.reduceAdd]
 (repeat' first|refine st ?_|refine sa fun xe hxe=>?_|refine sb (fun hq=>?_) fun hq=>?_|refine cr (hval) ?_|refine cr (ug _ hl) ?_|exact aE)
 exact⟨rfl,rfl⟩
end Go.Proofs.Ytbmnihglaokhmaa.Am
namespace Go.Proofs.Ytbmnihglaokhmaa.Am
open Go
set_option linter.unusedSectionVars false
variable [PhC Try.prog]
attribute [local irreducible] Mk ct Ari fl mJ jJ cL dy jb gq At bz
set_option maxRecDepth 10000
def gZ (B K:List Int)(t:Txn):List Int:=(K.set t.a.toNat (B.getD t.a.toNat 0)).set t.b.toNat (B.getD t.b.toNat 0)
def jR (B:List Int)(M:List (Int×Int))(t:Txn):List (Int×Int):=dX (dX M t.a (B.getD t.a.toNat 0)) t.b (B.getD t.b.toNat 0)
def ce (B:List Int)(us:List Txn):List Int:=us.foldl (gZ B) [0,0,0,0,0,0]
def dQ (B:List Int)(us:List Txn):List (Int×Int):=us.foldl (jR B) []
theorem vW (B:List Int)(us:List Txn)(t:Txn):ce B (us++[t])=gZ B (ce B us) t:=by simp[ce,List.foldl_append]
theorem vX (B:List Int)(us:List Txn)(t:Txn):dQ B (us++[t])=jR B (dQ B us) t:=by simp[dQ,List.foldl_append]
theorem qQ (B K:List Int)(t:Txn):(gZ B K t).length=K.length:=by simp[gZ]
theorem mR (B:List Int):∀us:List Txn,(ce B us).length=6:=by
 intro us
 unfold ce
 have key:∀(us:List Txn) (K:List Int),K.length=6→(us.foldl (gZ B) K).length=6:=by
  intro us
  induction us with
  |nil=>intro K h;exact h
  |cons t us ih=>intro K h;exact ih _ (by rw[qQ];exact h)
 exact key us _ rfl
theorem yF {B:List Int}(hb:mF ⟨B,0⟩):∀us:List Txn,(∀t∈us,bW t=true)→mF ⟨ce B us,0⟩:=by
 intro us hv
 refine⟨mR B us,?_,by simp,by simp⟩
 unfold ce
 have key:∀(us:List Txn) (K:List Int),(∀t∈us,bW t=true)→(∀x∈K,0≤x∧x≤999)→∀x∈us.foldl (gZ B) K,0≤x∧x≤999:=by
  intro us
  induction us with
  |nil=>intro K _ h;exact h
  |cons t us ih=>
   intro K hv h
   refine ih _ (fun u hu=>hv u (bi _ hu)) fun x hx=>?_
   obtain⟨h1,h2,-⟩:=dP (x:=t.a) (y:=t.b) (s:=t.s) (e:=t.e) (hv t (bf ..))
   have ga:=(ee hb h1.1 h1.2).2
   have gb:=(ee hb h2.1 h2.2).2
   rcases List.mem_or_eq_of_mem_set hx with hx|rfl
   ·rcases List.mem_or_eq_of_mem_set hx with hx|rfl
    ·exact h x hx
    ·exact ga
   ·exact gb
 exact key us _ hv (by simp)
def iD (B K:List Int)(t:Txn):Nat→List Int
 |0=>K
 |1=>K.set t.a.toNat (B.getD t.a.toNat 0)
 |_=>gZ B K t
def kg (B:List Int)(M:List (Int×Int))(t:Txn):Nat→List (Int×Int)
 |0=>M
 |1=>dX M t.a (B.getD t.a.toNat 0)
 |_=>jR B M t
theorem EG {ts:List Txn}{L:List Nat}{k i:Nat}{t:Txn}(hk:L[k]?=some i)(ht:ts[i]?=some t):(bY ts L)[k]?=some t:=by
 simp only[bY,b9,hk,aM,aX,ht]
 rfl
theorem pY {α:Type}{l:List α}{k:Nat}{x:α}(h:l[k]?=some x):l.take (k+1)=l.take k++[x]:=by
 obtain⟨hlt,rfl⟩:=cq.1 h
 exact mA hlt
def lj (M:List (Int×Int))(R:List Int)(left:List Nat):List (Int×Int):=M.zipIdx.map fun p=>if p.2∈left then p.1 else(p.1.1,R.getD p.1.1.toNat 0)
theorem eQ (M:List (Int×Int))(R:List Int)(left:List Nat):(lj M R left).length=M.length:=by simp[lj]
theorem fQ {M:List (Int×Int)}{R:List Int}{left:List Nat}{j:Nat}{q:Int×Int}(h:M[j]?=some q):(lj M R left)[j]?=some (if j∈left then q else(q.1,R.getD q.1.toNat 0)):=by
 simp[lj,List.getElem?_zipIdx,h]
theorem A8 (M:List (Int×Int))(R:List Int):lj M R (List.range M.length)=M:=by
 apply qd
 intro j
 cases h:M[j]? with
 |none=>
  have:M.length≤j:=List.getElem?_eq_none_iff.1 h
  rw[List.getElem?_eq_none_iff,eQ];exact this
 |some q=>
  have:=(cq.1 h).1
  rw[fQ h,if_pos (gU.2 this)]
theorem za {M:List (Int×Int)}{R:List Int}{left:List Nat}(h:∀j,j∉left):lj M R left=M.map fun p=>(p.1,R.getD p.1.toNat 0):=by
 apply qd
 intro j
 rw[b9]
 cases hq:M[j]? with
 |none=>
  have:M.length≤j:=List.getElem?_eq_none_iff.1 hq
  rw[jC (by rw[eQ];exact this)];rfl
 |some q=>rw[fQ hq,if_neg (h j)];rfl
def gd (M:List (Int×Int)):Prop:=(M.map (·.1)).Nodup
theorem kO:∀(M:List (Int×Int)) (a c:Int),(a∈M.map (·.1)∧(dX M a c).map (·.1)=M.map (·.1))∨(a∉M.map (·.1)∧(dX M a c).map (·.1)=M.map (·.1)++[a])
 |[],a,c=>.inr ⟨by simp,rfl⟩
 |p::M,a,c=>by
  unfold dX
  by_cases h:a=p.1
  ·rw[if_pos h];exact .inl ⟨by simp[h],by simp[h]⟩
  ·rw[if_neg h]
   rcases kO M a c with⟨h1,h2⟩|⟨h1,h2⟩
   ·exact .inl ⟨by simp only[bI,a9];exact .inr h1,by simp[h2]⟩
   ·exact .inr ⟨by simp only[bI,a9,not_or];exact⟨h,h1⟩,by simp[h2]⟩
theorem p6 {M:List (Int×Int)}(h:gd M)(a c:Int):gd (dX M a c):=by
 unfold gd at *
 rcases kO M a c with⟨_,h2⟩|⟨h1,h2⟩
 ·rw[h2];exact h
 ·rw[h2,List.nodup_append]
  refine⟨h,by simp,fun x hx y hy he=>?_⟩
  rw[bd] at hy
  exact h1 (hy▸he▸hx)
theorem yo:∀{M:List (Int×Int)} {j:Nat} {q:Int×Int} (c:Int),gd M→M[j]?=some q→dX M q.1 c=M.set j (q.1,c)
 |[],j,q,c,_,h=>by simp at h
 |p::M,0,q,c,_,h=>by
  simp only[fj,aK] at h
  subst h
  simp[dX]
 |p::M,j+1,q,c,hn,h=>by
  simp only[List.getElem?_cons_succ] at h
  unfold gd at hn
  rw[bI,List.nodup_cons] at hn
  have hne:q.1≠p.1:=fun e=>hn.1 (e▸aP.2 ⟨q,dm h,rfl⟩)
  unfold dX
  rw[if_neg hne,yo c hn.2 h]
  rfl
theorem nw (B:List Int)(us:List Txn):gd (dQ B us):=by
 unfold dQ
 have key:∀(us:List Txn) (M:List (Int×Int)),gd M→gd (us.foldl (jR B) M):=by
  intro us
  induction us with
  |nil=>intro M h;exact h
  |cons t us ih=>intro M h;exact ih _ (p6 (p6 h _ _) _ _)
 exact key us _ (by simp[gd])
theorem A9 {M:List (Int×Int)}{R:List Int}{left:List Nat}{j:Nat}{q:Int×Int}(hn:gd M)(hq:M[j]?=some q):dX (lj M R left) q.1 (R.getD q.1.toNat 0)=lj M R (left.filter fun i=>i !=j):=by
 have hn2:gd (lj M R left):=by
  unfold gd at *
  have:(lj M R left).map (·.1)=M.map (·.1):=by
   apply qd
   intro i
   rw[b9,b9]
   cases h:M[i]? with
   |none=>rw[jC (by rw[eQ];exact List.getElem?_eq_none_iff.1 h)]
   |some z=>rw[fQ h];simp only[aM];split<;>rfl
  rw[this];exact hn
 have hg:=fQ (R:=R) (left:=left) hq
 have hlt:j<M.length:=(cq.1 hq).1
 have e:dX (lj M R left) q.1 (R.getD q.1.toNat 0)=(lj M R left).set j (q.1,R.getD q.1.toNat 0):=by
  have:=yo (R.getD (if j∈left then q else(q.1,R.getD q.1.toNat 0)).1.toNat 0) hn2 hg
  have e2:(if j∈left then q else(q.1,R.getD q.1.toNat 0)).1=q.1:=by split<;>rfl
  rw[e2] at this
  exact this
 rw[e]
 apply qd
 intro i
 rw[List.getElem?_set,eQ]
 by_cases c:j=i
 ·subst c
  rw[if_pos rfl,if_pos hlt,fQ hq,if_neg (by simp)]
 ·rw[if_neg c]
  cases h:M[i]? with
  |none=>
   have:=List.getElem?_eq_none_iff.1 h
   rw[jC (by rw[eQ];exact this),jC (by rw[eQ];exact this)]
  |some z=>
   rw[fQ h,fQ h]
   have:i∈left.filter (fun i=>i !=j)↔i∈left:=by simp[cy c]
   by_cases c2:i∈left
   ·rw[if_pos c2,if_pos (this.2 c2)]
   ·rw[if_neg c2,if_neg (fun h=>c2 (this.1 h))]
theorem qL (B:List Int){us:List Txn}(hv:∀t∈us,bW t=true):∀p∈dQ B us,0≤p.1∧p.1≤5:=by
 unfold dQ
 have hu:∀{M:List (Int×Int)} {a c:Int},(∀p∈M,0≤p.1∧p.1≤5)→(0≤a∧a≤5)→∀p∈dX M a c,0≤p.1∧p.1≤5:=by
  intro M a c h ha p hp
  have hk:p.1∈(dX M a c).map (·.1):=aP.2 ⟨p,hp,rfl⟩
  have hm:∀x∈M.map (·.1),0≤x∧x≤5:=fun x hx=>by obtain⟨z,hz,rfl⟩:=aP.1 hx;exact h z hz
  rcases kO M a c with⟨_,h2⟩|⟨_,h2⟩
  ·rw[h2] at hk;exact hm _ hk
  ·rw[h2,cm,bd] at hk
   rcases hk with hk|hk
   ·exact hm _ hk
   ·rw[hk];exact ha
 have key:∀(us:List Txn) (M:List (Int×Int)),(∀t∈us,bW t=true)→(∀p∈M,0≤p.1∧p.1≤5)→∀p∈us.foldl (jR B) M,0≤p.1∧p.1≤5:=by
  intro us
  induction us with
  |nil=>intro M _ h;exact h
  |cons t us ih=>
   intro M hv h
   obtain⟨h1,h2,-⟩:=dP (x:=t.a) (y:=t.b) (s:=t.s) (e:=t.e) (hv t (bf ..))
   exact ih _ (fun u hu=>hv u (bi _ hu)) (hu (hu h h1) h2)
 exact key us _ hv (by simp)
theorem zy (b0 b1 b2 b3 b4 b5:Int)(ts:List Txn)(L:List Nat)(hb:mF ⟨[b0,b1,b2,b3,b4,b5],0⟩)(hv:∀t∈ts,bW t=true)(hL:∀i∈L,i<ts.length)(hl:L.length≤16):
  bz Try.prog 35 [.agg [.int .i64 b0,.int .i64 b1,.int .i64 b2,.int .i64 b3,.int .i64 b4,.int .i64 b5],.lst .txn ts,.lst (.int .i64) (L.map fun i:Nat=>(i:Int))] []
   (.agg [.mp 4,.int .i64 (bu ⟨ce [b0,b1,b2,b3,b4,b5] (bY ts L),0⟩ (bY ts L)).f,.ref 5])
   [(4,.map ((dQ [b0,b1,b2,b3,b4,b5] (bY ts L)).map fun p=>(p.1,(bu ⟨ce [b0,b1,b2,b3,b4,b5] (bY ts L),0⟩ (bY ts L)).b.getD p.1.toNat 0))),(5,.row 4 .bool (cK ⟨ce [b0,b1,b2,b3,b4,b5] (bY ts L),0⟩ (bY ts L)))]:=by
 refine bH bq Try.func35 rfl rfl false 0 4 rfl rfl rfl rfl fun K hK hb1 hb2=>?_;simp only[bJ,enc,Nat.reduceAdd]
 simp[aB,V.toD,bnd,aj,D.cells] at hb1
 clear hb2
 (repeat' first|refine st ?_|refine sa fun xe hxe=>?_|refine sb (fun hq=>?_) fun hq=>?_|exact aE)
 refine vT 4 0 6 ?_
 conv=>whnf
 refine vT 6 0 6 ?_
 conv=>whnf
 rw[bG]
 have hus:∀(k i:Nat) (t:Txn),L[k]?=some i→ts[i]?=some t→(bY ts L)[k]?=some t:=fun k i t=>EG
 have hul:(bY ts L).length=L.length:=bG ..
 have huv:∀t∈bY ts L,bW t=true:=by
  intro t ht
  obtain⟨i,hi,rfl⟩:=aP.1 ht
  have:=hL i hi
  rw[aX,aZ this]
  exact hv _ (eG this)
 have hLZ:∀k i:Nat,L[k]?=some i→(L.map fun i:Nat=>(i:Int))[k]?=some (i:Int):=fun k i h=>by rw[b9,h];rfl
 have hLn:(L.map fun i:Nat=>(i:Int)).length=L.length:=bG ..
 have hB6:[b0,b1,b2,b3,b4,b5].length=6:=rfl
 generalize [b0,b1,b2,b3,b4,b5]=B at *
 generalize bY ts L=us at *
 generalize L.map (fun i:Nat=>(i:Int))=LZ at *
 refine bA hK [] [1,2,3,6,7,8,20,21,22] (fun k:Nat=>⟨[(1,.lst .txn ts),(2,.lst (.int .i64) LZ),(3,.ptr 4 0),(6,.ptr 5 0),(7,.ptr 6 0),(8,.mp 7),(20,.lst (.int .i64) LZ),(21,.int .i64 L.length),(22,.int .i64 k)],
  [(4,.vari 58 [] 6 (.int .i64) B []),(5,.var 74 [.nilm,.int .i64 0,.nils]),(6,.vari 60 [] 6 (.int .i64) (ce B (us.take k)) [.int .i64 0]),(7,.map (dQ B (us.take k)))],8⟩)
  (fun k=>k≤L.length) (fun k=>L.length-k) 0 (by simp) (by rfl) ?_
 intro k hk
 have hKl:=mR B (us.take k)
 by_cases hlt:k<L.length
 ·have hi:L[k]?=some L[k]:=aZ hlt
  generalize L[k]=i at *
  have hiZ:=hLZ k i hi
  have hin:=hL i (dm hi)
  have hx:ts[i]?=some ts[i]:=aZ hin
  generalize ts[i]=tc at *
  have hxv:=hv tc (dm hx)
  have hsn:=pY (hus k i tc hi hx)
  have hk1:ce B (us.take (k+1))=gZ B (ce B (us.take k)) tc:=by rw[hsn,vW]
  have hm1:dQ B (us.take (k+1))=jR B (dQ B (us.take k)) tc:=by rw[hsn,vX]
  generalize ce B (us.take k)=K0 at *
  generalize dQ B (us.take k)=M0 at *
  obtain⟨x,y,s,e⟩:=tc
  obtain⟨v1,v2,v3,-⟩:=dP hxv
  obtain⟨g1,-⟩:=ee hb v1.1 v1.2
  obtain⟨g2,-⟩:=ee hb v2.1 v2.2
  have hlx:[x,y].length=2:=rfl
  (repeat' first|refine st ?_|refine sa fun xe hxe=>?_|refine sb (fun hq=>?_) fun hq=>?_|exact aE)
  refine bA hK [36] [1,2,3,6,7,8,20,21,22,36,37,38] (fun q:Nat=>⟨[(1,.lst .txn ts),(2,.lst (.int .i64) LZ),(3,.ptr 4 0),(6,.ptr 5 0),(7,.ptr 6 0),(8,.mp 7),(20,.lst (.int .i64) LZ),(21,.int .i64 L.length),(22,.int .i64 k),(36,.lst (.int .i64) [x,y]),(37,.int .i64 2),(38,.int .i64 q)],
   [(4,.vari 58 [] 6 (.int .i64) B []),(5,.var 74 [.nilm,.int .i64 0,.nils]),(6,.vari 60 [] 6 (.int .i64) (iD B K0 ⟨x,y,s,e⟩ q) [.int .i64 0]),(7,.map (kg B M0 ⟨x,y,s,e⟩ q))],8⟩)
   (fun q=>q≤2) (fun q=>2-q) 0 (by simp) (by rfl) ?_
  intro q hq
  have hkl:(iD B K0 ⟨x,y,s,e⟩ q).length=6:=by unfold iD;split<;>simp[gZ,hKl]
  rcases db q 1 with hq0|hq0
  ·obtain rfl:q=0:=by omega
   have ek:iD B K0 ⟨x,y,s,e⟩ 1=(iD B K0 ⟨x,y,s,e⟩ 0).set x.toNat (B.getD x.toNat 0):=rfl
   have em:kg B M0 ⟨x,y,s,e⟩ 1=dX (kg B M0 ⟨x,y,s,e⟩ 0) x (B.getD x.toNat 0):=rfl
   generalize iD B K0 ⟨x,y,s,e⟩ 0=K1 at *
   generalize kg B M0 ⟨x,y,s,e⟩ 0=M1 at *
   have hxx:[x,y][0]?=some x:=rfl
   (repeat' first|refine st ?_|refine sa fun xe hxe=>?_|refine sb (fun hq=>?_) fun hq=>?_|exact aE)
   refine⟨1,by omega,by omega,?_⟩
   rw[ek,em]
   rfl
  rcases db q 2 with hq1|hq1
  ·obtain rfl:q=1:=by omega
   have ek:iD B K0 ⟨x,y,s,e⟩ 2=(iD B K0 ⟨x,y,s,e⟩ 1).set y.toNat (B.getD y.toNat 0):=rfl
   have em:kg B M0 ⟨x,y,s,e⟩ 2=dX (kg B M0 ⟨x,y,s,e⟩ 1) y (B.getD y.toNat 0):=rfl
   generalize iD B K0 ⟨x,y,s,e⟩ 1=K1 at *
   generalize kg B M0 ⟨x,y,s,e⟩ 1=M1 at *
   have hxx:[x,y][1]?=some y:=rfl
   (repeat' first|refine st ?_|refine sa fun xe hxe=>?_|refine sb (fun hq=>?_) fun hq=>?_|exact aE)
   refine⟨2,by omega,by omega,?_⟩
   rw[ek,em]
   rfl
  ·obtain rfl:q=2:=by omega
   have ek:iD B K0 ⟨x,y,s,e⟩ 2=gZ B K0 ⟨x,y,s,e⟩:=rfl
   have em:kg B M0 ⟨x,y,s,e⟩ 2=jR B M0 ⟨x,y,s,e⟩:=rfl
   (repeat' first|refine st ?_|refine sa fun xe hxe=>?_|refine sb (fun hq=>?_) fun hq=>?_|exact aE)
   refine⟨k+1,by omega,by omega,?_⟩
   rw[hk1,hm1,←ek,←em]
   rfl
 ·have:k=L.length:=by omega
  subst this
  rw[gj (by omega)]
  have hKok:=yF hb us huv
  have hMn:=nw B us
  have hMr:=qL B huv
  clear hlt hk
  generalize ce B us=K0 at *
  generalize dQ B us=M0 at *
  (repeat' first|refine st ?_|refine sa fun xe hxe=>?_|refine sb (fun hq=>?_) fun hq=>?_|exact aE)
  rw[hLn]
  refine bA hK [] [1,6,7,8,13,60,61,62] (fun k:Nat=>⟨[(1,.lst .txn ts),(6,.ptr 4 0),(7,.ptr 5 0),(8,.mp 6),(13,.ref 7),(60,.lst (.int .i64) LZ),(61,.int .i64 L.length),(62,.int .i64 k)],
   [(4,.var 74 [.nilm,.int .i64 0,.nils]),(5,.vari 60 [] 6 (.int .i64) (bu ⟨K0,0⟩ (us.take k)).b [.int .i64 (bu ⟨K0,0⟩ (us.take k)).f]),(6,.map M0),(7,.row 4 .bool (cK ⟨K0,0⟩ (us.take k)++List.replicate (L.length-k) false))],8⟩)
   (fun k=>k≤L.length) (fun k=>L.length-k) 0 (by simp) (by rfl) ?_
  intro k hk
  have hok2:=oh ⟨K0,0⟩ (us.take k) hKok (by simp only[jz];omega)
  have hlo:(cK ⟨K0,0⟩ (us.take k)).length=k:=by rw[fV,jz];omega
  by_cases hlt:k<L.length
  ·have hi:L[k]?=some L[k]:=aZ hlt
   generalize L[k]=i at *
   have hiZ:=hLZ k i hi
   have hin:=hL i (dm hi)
   have hx:ts[i]?=some ts[i]:=aZ hin
   generalize ts[i]=tc at *
   have hsn:=pY (hus k i tc hi hx)
   have hs1:bu ⟨K0,0⟩ (us.take (k+1))=bO (bu ⟨K0,0⟩ (us.take k)) tc:=by rw[hsn,kJ]
   have hs2:cK ⟨K0,0⟩ (us.take (k+1))=cK ⟨K0,0⟩ (us.take k)++[cE (bu ⟨K0,0⟩ (us.take k)) tc]:=by rw[hsn,kK]
   have hfl:=vg (cK ⟨K0,0⟩ (us.take k)) L.length (cE (bu ⟨K0,0⟩ (us.take k)) tc) (by omega)
   rw[hlo] at hfl
   have hll:(cK ⟨K0,0⟩ (us.take k)++List.replicate (L.length-k) false).length=L.length:=by rw[b7,gT,hlo];omega
   generalize hrow:cK ⟨K0,0⟩ (us.take k)++List.replicate (L.length-k) false=row at *
   have hlf:(bu ⟨K0,0⟩ (us.take k)).f+9≤100000:=by
    have:=hok2.2
    simp only[jz] at this
    omega
   generalize bu ⟨K0,0⟩ (us.take k)=lc at *
   obtain⟨cb,cf⟩:=lc
   obtain⟨x,y,s,e⟩:=tc
   have hcf:cf+9≤100000:=hlf
   (repeat' first|refine st ?_|refine sa fun xe hxe=>?_|refine sb (fun hq=>?_) fun hq=>?_|refine cr (tE _ _ _ _ _ _ _ hok2.1 hcf) ?_|exact aE)
   refine⟨k+1,by omega,by omega,?_⟩
   rw[hs1,hs2,←hfl]
   rfl
  ·have:k=L.length:=by omega
   subst this
   rw[gj (show us.length≤L.length by omega)] at hok2 hlo⊢
   have hR6:(bu ⟨K0,0⟩ us).b.length=6:=hok2.1.1
   rw[Nat.sub_self,List.replicate_zero,ir]
   generalize bu ⟨K0,0⟩ us=R at *
   generalize cK ⟨K0,0⟩ us=O at *
   obtain⟨Rb,Rf⟩:=R
   simp only at hR6
   (repeat' first|refine st ?_|refine sa fun xe hxe=>?_|refine sb (fun hq=>?_) fun hq=>?_|exact aE)
   refine oH (α:=List Nat×Option Nat) hK rfl rfl rfl rfl rfl rfl (by decide) (by decide) [] [6,7,8,13,78]
    (fun a=>⟨[(6,.ptr 4 0),(7,.ptr 5 0),(8,.mp 6),(13,.ref 7),(78,.ptr 8 0)],[(4,.var 74 [.nilm,.int .i64 0,.nils]),(5,.vari 60 [] 6 (.int .i64) Rb [.int .i64 Rf]),(6,.map (lj M0 Rb a.1)),(7,.row 4 .bool O),(8,.it 6 0 M0.length a.1 a.2)],9⟩)
    (fun _=>True) (fun a=>a.1) (fun a=>a.2) (fun a=>lj M0 Rb a.1) (List.range M0.length,none) trivial ?_ (fun a _=>⟨rfl,rfl,aI (x:=.map _) rfl rfl,eQ ..⟩) 6 [] [6,7,8,13]
    ⟨[(6,.ptr 4 0),(7,.ptr 5 0),(8,.mp 6),(13,.ref 7)],[(4,.var 74 [.nilm,.int .i64 0,.nils]),(5,.vari 60 [] 6 (.int .i64) Rb [.int .i64 Rf]),(6,.map (M0.map fun p=>(p.1,Rb.getD p.1.toNat 0))),(7,.row 4 .bool O)],8⟩ ?_ ?_ ?_
   ·simp only[A8]
    rfl
   ·rintro⟨left,cur⟩-hn
    simp only[lw]
    rw[za hn]
    (repeat' first|refine st ?_|refine sa fun xe hxe=>?_|refine sb (fun hq=>?_) fun hq=>?_|exact aE)
    exact⟨rfl,rfl⟩
   ·rintro⟨left,cur⟩ j q-hj hq
    simp only[ju,put,Nat.reduceEqDiff,if_false,if_true,reduceIte]
    simp only at hj hq
    obtain⟨q0,hq0⟩:∃q0,M0[j]?=some q0:=by
     have:=(cq.1 hq).1
     rw[eQ] at this
     exact⟨_,aZ this⟩
    have hqq:q=q0:=by
     have:=fQ (R:=Rb) (left:=left) hq0
     rw[this,if_pos hj] at hq
     exact(bm hq).symm
    subst hqq
    have hupd:=A9 (R:=Rb) (left:=left) hMn hq0
    have hrg:=hMr q (dm hq0)
    have hml:=eQ M0 Rb left
    obtain⟨qk,qv⟩:=q
    simp only at hrg hupd
    have hgk:Rb[qk.toNat]?=some (Rb.getD qk.toNat 0):=jT (by omega)
    generalize lj M0 Rb left=M1 at *
    (repeat' first|refine st ?_|refine sa fun xe hxe=>?_|refine sb (fun hq=>?_) fun hq=>?_|exact aE)
    refine⟨(left.filter fun q=>q !=j,some j),trivial,qR hj,?_⟩
    simp only
    rw[←hupd]
   ·conv=>whnf
    (repeat' first|refine st ?_|refine sa fun xe hxe=>?_|refine sb (fun hq=>?_) fun hq=>?_|exact aE)
    exact⟨rfl,rfl⟩
end Go.Proofs.Ytbmnihglaokhmaa.Am
namespace Go.Proofs.Ytbmnihglaokhmaa
open Go
abbrev y5:Go.Conc.Lib.WgLink:={add:=32,done:=34,wait:=36,relMerge:=58,disable:=59,enable:=60,inBubble:=61,associate:=62,fatal:=63,uOr:=64,uAdd:=65,raceRead:=66,uLoad:=67,uStore:=68,disassociate:=69,semrelease:=70,acquire:=71,isAssociated:=72,uCas:=73,raceWrite:=74,semacquire:=75,orU64:=84,addU64:=85,loadU64:=86,storeU64:=87,casU64:=88,tWgP:=93,tUP:=95,tAssoc:=97,tWg:=70,tAU:=67,tU64:=65,tUint:=101,tU32:=68,tPU32:=102,tPAU:=116,tPU64:=118,tNoCopy:=62,tANoCopy:=63,tAlign64:=64}
theorem i6:Go.Conc.Lib.WgLib Try.prog y5:=
 ⟨Try.func32,Try.func34,Try.func36,Try.func58,Try.func59,Try.func60,Try.func61,Try.func62,Try.func63,Try.func64,Try.func65,Try.func66,Try.func67,Try.func68,Try.func69,Try.func70,Try.func71,Try.func72,Try.func73,Try.func74,Try.func75,Try.func84,Try.func85,Try.func86,Try.func87,Try.func88,Try.underlying93,Try.runUnderlying93,Try.sizeOf93,Try.isAgg93,Try.zeroValue93,Try.underlying95,Try.runUnderlying95,Try.sizeOf95,Try.isAgg95,Try.zeroValue95,Try.underlying97,Try.runUnderlying97,Try.sizeOf97,Try.isAgg97,Try.zeroValue97,Try.underlying70,Try.runUnderlying70,Try.sizeOf70,Try.isAgg70,Try.zeroValue70,Try.underlying67,Try.runUnderlying67,Try.sizeOf67,Try.isAgg67,Try.zeroValue67,Try.underlying65,Try.runUnderlying65,Try.sizeOf65,Try.isAgg65,Try.zeroValue65,Try.underlying101,Try.runUnderlying101,Try.sizeOf101,Try.isAgg101,Try.zeroValue101,Try.underlying68,Try.runUnderlying68,Try.sizeOf68,Try.isAgg68,Try.zeroValue68,Try.underlying102,Try.runUnderlying102,Try.sizeOf102,Try.isAgg102,Try.zeroValue102,Try.underlying116,Try.runUnderlying116,Try.sizeOf116,Try.isAgg116,Try.zeroValue116,Try.underlying118,Try.runUnderlying118,Try.sizeOf118,Try.isAgg118,Try.zeroValue118,Try.underlying0,Try.runUnderlying0,Try.sizeOf0,Try.isAgg0,Try.zeroValue0,Try.underlying3,Try.runUnderlying3,Try.sizeOf3,Try.isAgg3,Try.zeroValue3,Try.underlying4,Try.runUnderlying4,Try.sizeOf4,Try.isAgg4,Try.zeroValue4,Try.underlying9,Try.runUnderlying9,Try.sizeOf9,Try.isAgg9,Try.zeroValue9,Try.underlying20,Try.runUnderlying20,Try.sizeOf20,Try.isAgg20,Try.zeroValue20,Try.underlying21,Try.runUnderlying21,Try.sizeOf21,Try.isAgg21,Try.zeroValue21,(by kernel_rfl),(by kernel_rfl)⟩

end Go.Proofs.Ytbmnihglaokhmaa
