/- The plain machine with types: calls: names, views. The plain machine with types: calls. The plain machine with types: calls: what comes back. The plain machine with types: a call. The plain machine with types: a call, put together. The plain machine with types: what an operation looks at. The plain machine with types: one operation. The plain machine with types: one operation, put together. The plain machine with types: one operation is sound. The plain machine with types: regions. The plain machine with types: control. The plain machine with types: what is no more wanted is forgotten. -/
import Derived.Test.YthmfppknagbkeaaGreatDoorA43
set_option linter.unusedSimpArgs false
set_option linter.unusedVariables false
set_option maxHeartbeats 1000000
namespace Go.Proofs.YthmfppknagbkeaaGreatDoor.Am
open Go Go.RowKit
def af (P:Program)(f:FuncId)(vs:List V)(hin:VH)(r:V)(hout:VH):Prop:=Con P f (ah vs) (toH hin) r.toD (toH hout)
def b8 (P:Program)(f:FuncId)(vs:List V)(hin:VH)(K:V→VH→Prop):Prop:=∃r hout,af P f vs hin r hout∧K r hout
def lz (n:Nat):List Nat→Nat→Nat
 |[],i=>n+i
 |o::_,0=>o
 |_::os,i+1=>lz n os i
def gN (os:List Nat)(n k:Nat):Nat:=match k with
 |0=>0
 |1=>1
 |2=>2
 |3=>3
 |k+4=>lz n os k
abbrev gI (g:Nat→Nat):Id→Id:=fun b=>(g b.1,b.2)
def yS (os:List Nat)(n:Nat):Bool:=gD os && (os.all fun o=>Nat.ble 4 o && Nat.blt o n) && Nat.ble 4 n
theorem db {n:Nat}:∀{os:List Nat} {i b:Nat},os[i]?=some b→lz n os i=b
 |[],i,b,h=>by simp at h
 |o::os,0,b,h=>by simpa[lz] using h
 |o::os,i+1,b,h=>by simpa[lz] using db (os:=os) (i:=i) (by simpa using h)
theorem uf {n:Nat}:∀{os:List Nat} {i:Nat},os.length≤i→lz n os i=n+(i-os.length)
 |[],i,_=>by simp[lz]
 |o::os,0,h=>by simp at h
 |o::os,i+1,h=>by
  have:=uf (n:=n) (os:=os) (i:=i) (by simpa using h)
  simp only[lz,this,List.length_cons]
  omega
theorem mo (os:List Nat)(n:Nat){k:Nat}(hk:k<4):gN os n k=k:=by
 match k,hk with
 |0,_|1,_|2,_|3,_=>rfl
theorem eV (os:List Nat)(n m:Nat):gN os n (4+m)=lz n os m:=by rw[Nat.add_comm];rfl
theorem xQ {os:List Nat}{n:Nat}(h:yS os n=true):os.Nodup∧(∀o∈os,4≤o∧o<n)∧4≤n:=by
 unfold yS at h
 simp only[Bool.and_eq_true,List.all_eq_true] at h
 obtain⟨⟨h1,h2⟩,h3⟩:=h
 exact⟨fA h1,fun o ho=>⟨Nat.le_of_ble_eq_true (h2 o ho).1,by have:=(h2 o ho).2;simpa[Nat.blt_eq] using this⟩,Nat.le_of_ble_eq_true h3⟩
theorem nC (os:List Nat)(n k:Nat):(k<4∧gN os n k=k)∨(∃m b,k=4+m∧os[m]?=some b∧gN os n k=b)∨(∃m,k=4+m∧os.length≤m∧gN os n k=n+(m-os.length)):=by
 by_cases hk:k<4
 ·exact .inl ⟨hk,mo os n hk⟩
 ·obtain⟨m,rfl⟩:∃m,k=4+m:=⟨k-4,by omega⟩
  rw[eV]
  by_cases hm:m<os.length
  ·exact .inr (.inl ⟨m,os[m],rfl,List.getElem?_eq_getElem hm,db (List.getElem?_eq_getElem hm)⟩)
  ·exact .inr (.inr ⟨m,rfl,by omega,uf (by omega)⟩)
theorem AD {os:List Nat}{n:Nat}(h:yS os n=true){a b:Nat}(he:gN os n a=gN os n b):a=b:=by
 obtain⟨h1,h2,h3⟩:=xQ h
 rcases nC os n a with⟨a1,a2⟩|⟨m,x,rfl,a1,a2⟩|⟨m,rfl,a1,a2⟩<;>rcases nC os n b with⟨b1,b2⟩|⟨m',y,rfl,b1,b2⟩|⟨m',rfl,b1,b2⟩<;>rw[a2,b2] at he
 ·exact he
 ·have:=h2 y (List.mem_of_getElem? b1);omega
 ·omega
 ·have:=h2 x (List.mem_of_getElem? a1);omega
 ·subst he
  have e1:=(List.getElem?_eq_some_iff.1 a1).1
  have:=(List.getElem?_inj e1 h1).1 (a1.trans b1.symm)
  omega
 ·have:=h2 x (List.mem_of_getElem? a1);omega
 ·omega
 ·have:=h2 y (List.mem_of_getElem? b1);omega
 ·omega
theorem AC {os:List Nat}{n:Nat}(h:yS os n=true){a b:Id}(he:gI (gN os n) a=gI (gN os n) b):a=b:=by
 obtain⟨a1,a2⟩:=a
 obtain⟨b1,b2⟩:=b
 simp only[gI,Prod.mk.injEq] at he⊢
 exact⟨AD h he.1,he.2⟩
def mI (b:Nat):List Nat→Nat→(Option Nat→Prop)→Prop
 |[],_,K=>K none
 |o::os,i,K=>bif Nat.beq o b then K (some i) else eJ (i+1) fun i=>mI b os i K
theorem ef {b:Nat}:∀{os:List Nat} {i:Nat} {K:Option Nat→Prop},mI b os i K→∃r,(r=none→b∉os)∧(∀j,r=some j→∃m,j=i+m∧os[m]?=some b)∧K r
 |[],i,K,hk=>⟨none,by simp,by simp,hk⟩
 |o::os,i,K,hk=>by
  simp only[mI] at hk
  cases hb:Nat.beq o b with
  |true=>
   rw[hb] at hk
   obtain rfl:=Nat.eq_of_beq_eq_true hb
   exact⟨some i,by simp,fun j hj=>⟨0,by simpa using hj.symm,rfl⟩,hk⟩
  |false=>
   rw[hb] at hk
   simp only[cond_false] at hk
   have hk:=aW hk
   obtain⟨r,h1,h2,h3⟩:=ef hk
   refine⟨r,fun hr hm=>?_,fun j hj=>?_,h3⟩
   ·rcases List.mem_cons.1 hm with rfl|hm
    ·simp at hb
    ·exact h1 hr hm
   ·obtain⟨m,e1,e2⟩:=h2 j hj
    exact⟨m+1,by omega,by simpa using e2⟩
def Ty.fams:Ty→List Nat
 | .hr k| .hp k| .vtxo k| .pplm k| .nod k=>[k]
 | .pplo k k'=>[k,k']
 |_=>[]
def Ck (a b:List Nat):Bool:=a.all fun x=>b.contains x
theorem sB {a b:List Nat}(h:Ck a b=true):∀x∈a,x∈b:=by
 unfold Ck at h
 rw[List.all_eq_true] at h
 intro x hx
 simpa using h x hx
mutual
def bp (os fs:List Nat)(h:VH)(v:V)(K:V→List Nat→Prop):Prop:=
 match v with
 | .ref b=>mI b os 4 fun r=>(match r with
  |some i=>K (.ref i) []
  |none=>(match aC h b with
   |some (.row _ t xs)=>Chk t.pure (K (.lst t xs) [b])
   |some (.froz t xs)=>K (.lst t xs) [b]
   |_=>False))
 | .ptr b o=>mI b os 4 fun r=>(match r with
  |some i=>K (.ptr i o) []
  |none=>(match aC h b,o with
   |some (.fvb t x),0=>K (.box t x) [b]
   |_,_=>False))
 | .eptr b j o=>mI b os 4 fun r=>(match r with|some i=>K (.eptr i j o) []|none=>False)
 | .vref b o m=>mI b os 4 fun r=>(match r with|some i=>K (.vref i o m) []|none=>False)
 | .aptr b p j=>mI b os 4 fun r=>(match r with|some i=>K (.aptr i p j) []|none=>False)
 | .fref k i=>Chk (fs.contains k) (K (.fref k i) [])
 | .fptr k i o=>Chk (fs.contains k) (K (.fptr k i o) [])
 | .feptr k i j o=>Chk (fs.contains k) (K (.feptr k i j o) [])
 | .faptr k i p j=>Chk (fs.contains k) (K (.faptr k i p j) [])
 | .hro k o=>(match fs.contains k with
  |true=>K (.hro k o) []
  |false=>fY o False fun i=>(match aC h k with
   |some (.frow _ t xss)=>Chk (t.pure && !os.contains k) (eD xss i fun xs=>K (.lst t xs) [k])
   |some (.frowx _ t xss)=>Chk (t.pure && !os.contains k) (eD xss i fun ox=>fY ox False fun xs=>K (.lst t xs) [k])
   |_=>False))
 | .hpo k o=>Chk (fs.contains k) (K (.hpo k o) [])
 | .agg cs=>iY os fs h cs fun cs ws=>K (.agg cs) ws
 | .clo f cs=>iY os fs h cs fun cs ws=>K (.clo f cs) ws
 | .ifc T v=>bp os fs h v fun v ws=>K (.ifc T v) ws
 | .nils=>K (.lst (.int .i64) []) []
 | .int k n=>K (.int k n) []
 | .bool b=>K (.bool b) []
 | .tt=>K .tt []
 | .ff=>K .ff []
 | .str s=>K (.str s) []
 | .lst t xs=>K (.lst t xs) []
 | .box t x=>K (.box t x) []
 | .nilp=>K .nilp []
 | .nilf=>K .nilf []
 | .nili=>K .nili []
 | .gv g=>K (.gv g) []
 | .obo t o=>K (.obo t o) []
 | .junk=>K .junk []
 |_=>False
def iY (os fs:List Nat)(h:VH)(l:List V)(K:List V→List Nat→Prop):Prop:=
 match l with
 |[]=>K [] []
 |v::l=>bp os fs h v fun v ws=>iY os fs h l fun l ws'=>K (v::l) (ws++ws')
end
def Iw (h:VH)(b:Nat):Prop:=(∃E t,∃xs:List (Ty.den t),t.pure=true∧look h b=some (.row E t xs))∨(∃t,∃xs:List (Ty.den t),look h b=some (.froz t xs))∨∃t,∃x:Ty.den t,look h b=some (.fvb t x)
def Ix (h:VH)(b:Nat):Prop:=(∃E t,∃xs:List (List (Ty.den t)),look h b=some (.frow E t xs))∨∃E t,∃xs:List (Option (List (Ty.den t))),look h b=some (.frowx E t xs)
def uX (h:VH)(os fs:List Nat)(b:Nat):Prop:=b∉os∧(Iw h b∨(b∉fs∧Ix h b))
def Iu (h:VH)(ws:List Nat)(W:List Id):Prop:=∀b∈ws,∀i,Live (toH h) (b,i)→(b,i)∈W
structure HinOK (os fs:List Nat)(h:VH)(hin:HL):Prop where
 low:∀k∈fs,k<4
 sgl:∀m b,os[m]?=some b→Live hin (4+m,0)
 fam:∀k∈fs,∀i,Live (toH h) (k,i)→Live hin (k,i)
theorem kk {os fs:List Nat}{n:Nat}{h:VH}{hin:HL}(H:HinOK os fs h hin){m b:Nat}(hb:os[m]?=some b):VLive (toH h) (gI (gN os n)) hin fs (4+m,0)∧gI (gN os n) (4+m,0)=(b,0):=
 ⟨.inl (H.sgl m b hb),by simp only[gI,eV,db hb]⟩
theorem mV {os fs:List Nat}{n:Nat}{h:VH}{hin:HL}(H:HinOK os fs h hin){k:Nat}(hk:k∈fs)(i:Nat):VLive (toH h) (gI (gN os n)) hin fs (k,i)∧gI (gN os n) (k,i)=(k,i):=by
 have e:gI (gN os n) (k,i)=(k,i):=by simp only[gI,mo os n (H.low k hk)]
 exact⟨.inr ⟨by rw[e];exact hk,fun hl=>H.fam k hk i (by rw[e] at hl;exact hl)⟩,e⟩
section
variable {os fs:List Nat} {n:Nat} {h:VH} {hin:HL} {W:List Id}
theorem Cz (H:HinOK os fs h hin){m b:Nat}(hb:os[m]?=some b):View (toH h) (gI (gN os n)) hin W fs (.ref (b,0)) (.ref (4+m,0)):=by
 obtain⟨h1,h2⟩:=kk (n:=n) H hb
 have:=View.ref (W:=W) _ h1
 rwa [h2] at this
theorem uP (H:HinOK os fs h hin){m b:Nat}(hb:os[m]?=some b)(o:Nat):View (toH h) (gI (gN os n)) hin W fs (.ptr (b,0) o) (.ptr (4+m,0) o):=by
 obtain⟨h1,h2⟩:=kk (n:=n) H hb
 have:=View.ptr (W:=W) _ o h1
 rwa [h2] at this
theorem zf (H:HinOK os fs h hin){m b:Nat}(hb:os[m]?=some b)(j o:Nat):View (toH h) (gI (gN os n)) hin W fs (.eptr (b,0) j o) (.eptr (4+m,0) j o):=by
 obtain⟨h1,h2⟩:=kk (n:=n) H hb
 have:=View.eptr (W:=W) _ j o h1
 rwa [h2] at this
theorem zg (H:HinOK os fs h hin){m b:Nat}(hb:os[m]?=some b)(o q:Nat):View (toH h) (gI (gN os n)) hin W fs (.vref (b,0) o q) (.vref (4+m,0) o q):=by
 obtain⟨h1,h2⟩:=kk (n:=n) H hb
 have:=View.vref (W:=W) _ o q h1
 rwa [h2] at this
theorem qA (H:HinOK os fs h hin){k:Nat}(hk:k∈fs)(i:Nat):View (toH h) (gI (gN os n)) hin W fs (.ref (k,i)) (.ref (k,i)):=by
 obtain⟨h1,h2⟩:=mV (n:=n) H hk i
 have:=View.ref (W:=W) _ h1
 rwa [h2] at this
theorem mU (H:HinOK os fs h hin){k:Nat}(hk:k∈fs)(i o:Nat):View (toH h) (gI (gN os n)) hin W fs (.ptr (k,i) o) (.ptr (k,i) o):=by
 obtain⟨h1,h2⟩:=mV (n:=n) H hk i
 have:=View.ptr (W:=W) _ o h1
 rwa [h2] at this
theorem wH (H:HinOK os fs h hin){k:Nat}(hk:k∈fs)(i j o:Nat):View (toH h) (gI (gN os n)) hin W fs (.eptr (k,i) j o) (.eptr (k,i) j o):=by
 obtain⟨h1,h2⟩:=mV (n:=n) H hk i
 have:=View.eptr (W:=W) _ j o h1
 rwa [h2] at this
theorem iZ (H:HinOK os fs h hin){k:Nat}(hk:k∈fs)(o:Option Nat):View (toH h) (gI (gN os n)) hin W fs (l9 k o) (l9 k o):=by
 cases o with
 |none=>exact .pure 0 _ _ rfl (fun b hb=>by cases hb)
 |some i=>exact qA H hk i
theorem yi (H:HinOK os fs h hin){k:Nat}(hk:k∈fs)(o:Option Nat):View (toH h) (gI (gN os n)) hin W fs (m6 k o) (m6 k o):=by
 cases o with
 |none=>exact .pure 0 _ _ rfl (fun b hb=>by cases hb)
 |some i=>exact mU H hk i 0
theorem kj {d d':D}{g:Id→Id}{hh:HL}(hd:leaf d=some d'):View hh g hin W fs d d':=.pure 0 _ _ hd (fun b hb=>by cases hb)
theorem jL {cs:List D}{g:Id→Id}{hh:HL}(hc:∀c∈cs,View hh g hin W fs c c):View hh g hin W fs (.agg cs) (.agg cs):=.agg cs cs rfl fun i hi=>hc _ (aL hi)
theorem lU (H:HinOK os fs h hin){t:Ty}(ht:∀k∈t.fams,k∈fs)(x:t.den):View (toH h) (gI (gN os n)) hin W fs (ag t x) (ag t x):=by
 by_cases hp:t.pure=true
 ·by_cases hag:∃cs,ag t x= .agg cs
  ·obtain⟨cs,he⟩:=hag
   have:=io hp x
   rw[he] at this⊢
   exact jL fun c hc=>kj (this c hc)
  ·have hc:(ag t x).cells=[ag t x]:=bR fun cs hcs=>hag ⟨cs,hcs⟩
   exact kj (io hp x _ (by rw[hc];exact List.mem_singleton.2 rfl))
 ·have lf:∀d:D,leaf d=some d→View (toH h) (gI (gN os n)) hin W fs d d:=fun d hd=>kj hd
  cases t<;>simp only[Ty.pure,not_true_eq_false] at hp
  case hr k=>exact iZ H (ht k (by simp[Ty.fams])) x
  case hp k=>exact yi H (ht k (by simp[Ty.fams])) x
  case vtxo k=>
   refine jL fun c hc=>?_
   simp only[List.mem_cons,List.not_mem_nil,or_false] at hc
   rcases hc with rfl|rfl|rfl|rfl
   ·exact lf _ rfl
   ·exact lf _ rfl
   ·exact iZ H (ht k (by simp[Ty.fams])) _
   ·exact lf _ rfl
  case pplm k=>
   refine jL fun c hc=>?_
   simp only[ft,List.cons_append,List.nil_append,List.mem_cons,List.not_mem_nil,or_false] at hc
   rcases hc with rfl|rfl|rfl|rfl|rfl
   ·exact lf _ rfl
   ·exact lf _ rfl
   ·exact lf _ rfl
   ·exact lf _ rfl
   ·exact iZ H (ht k (by simp[Ty.fams])) _
  case pplo k k'=>
   refine jL fun c hc=>?_
   simp only[List.mem_cons,List.not_mem_nil,or_false] at hc
   rcases hc with rfl|rfl|rfl|rfl|rfl
   ·exact lf _ rfl
   ·exact lf _ rfl
   ·exact iZ H (ht k (by simp[Ty.fams])) _
   ·exact lf _ rfl
   ·exact iZ H (ht k' (by simp[Ty.fams])) _
  case nod k=>
   refine jL fun c hc=>?_
   simp only[ft,List.cons_append,List.nil_append,List.mem_cons,List.not_mem_nil,or_false] at hc
   rcases hc with rfl|rfl|rfl|rfl|rfl|rfl
   ·exact lf _ rfl
   ·exact lf _ rfl
   ·exact lf _ rfl
   ·exact lf _ rfl
   ·exact lf _ rfl
   ·exact iZ H (ht k (by simp[Ty.fams])) _
theorem yj {b:Nat}(hw:(b,0)∈W){t:Ty}{xs:List t.den}{g:Id→Id}(hb:(∃E,t.pure=true∧look h b=some (.row E t xs))∨look h b=some (.froz t xs)):View (toH h) g hin W fs (.ref (b,0)) (.lst (xs.map (ag t))):=by
 refine .pure 1 _ _ ?_ fun c hc=>?_
 ·rcases hb with⟨E,hp,hb⟩|hb
  ·have hl:=am (i:=0) hb (d:=.row E (xs.map (ag t))) rfl
   simp only[purD,hl]
   rw[show (fun x=>leaf x)=leaf from rfl,row_pure hp]
   rfl
  ·have hl:=am (i:=0) hb (d:=.froz (xs.map (ag t))) rfl
   simp only[purD,hl]
 ·unfold idsD at hc
  rcases List.mem_cons.1 hc with rfl|hc
  ·exact hw
  ·exfalso
   split at hc
   ·rw[List.mem_flatMap] at hc
    obtain⟨e,_,hc⟩:=hc
    rw[List.mem_flatMap] at hc
    obtain⟨d,_,hc⟩:=hc
    cases hc
   ·cases hc
theorem uQ {b i:Nat}(hw:(b,i)∈W){E:TypeId}{t:Ty}{xs:List t.den}{g:Id→Id}(hp:t.pure=true)(hl:look (toH h) (b,i)=some (.row E (xs.map (ag t)))):View (toH h) g hin W fs (.ref (b,i)) (.lst (xs.map (ag t))):=by
 refine .pure 1 _ _ ?_ fun c hc=>?_
 ·simp only[purD,hl]
  rw[show (fun x=>leaf x)=leaf from rfl,row_pure hp]
  rfl
 ·unfold idsD at hc
  rcases List.mem_cons.1 hc with rfl|hc
  ·exact hw
  ·exfalso
   split at hc
   ·rw[List.mem_flatMap] at hc
    obtain⟨e,_,hc⟩:=hc
    rw[List.mem_flatMap] at hc
    obtain⟨d,_,hc⟩:=hc
    cases hc
   ·cases hc
end
end Go.Proofs.YthmfppknagbkeaaGreatDoor.Am
namespace Go.Proofs.YthmfppknagbkeaaGreatDoor.Am
open Go Go.RowKit
variable {P:Program} {os fs:List Nat} {n:Nat} {h:VH}
def Vw (os fs:List Nat)(n:Nat)(h:VH)(ws:List Nat)(v v':V):Prop:=∀hin,HinOK os fs h hin→∀W:List Id,Iu h ws W→View (toH h) (gI (gN os n)) hin W fs v.toD v'.toD
def I4 (os fs:List Nat)(n:Nat)(h:VH)(ws:List Nat)(l l':List V):Prop:=(ah l).length=(ah l').length∧∀hin,HinOK os fs h hin→∀W:List Id,Iu h ws W→∀i,i<(ah l).length→View (toH h) (gI (gN os n)) hin W fs ((ah l).getD i .undef) ((ah l').getD i .undef)
theorem dH {v v':V}{ws:List Nat}(hd:leaf v.toD=some v'.toD):Vw os fs n h ws v v':=fun _ _ _ _=>kj hd
mutual
theorem pC:∀{v:V} {K:V→List Nat→Prop},bp os fs h v K→∃v' ws,Vw os fs n h ws v v'∧(∀b∈ws,uX h os fs b)∧K v' ws
 | .ref b,K,hk=>by
  simp only[bp] at hk
  obtain⟨r,r1,r2,hk⟩:=ef hk
  split at hk
  ·obtain⟨m,rfl,hm⟩:=r2 _ rfl
   exact⟨_,_,fun hin H W _=>Cz H hm,by simp,hk⟩
  ·split at hk
   ·rename_i E t xs hb
    obtain⟨c,hk⟩:=hk.ok
    rw[aD] at hb
    exact⟨_,_,fun hin H W hW=>yj (hW b (by simp) 0 (Live.of_look (am (i:=0) hb rfl))) (.inl ⟨E,c,hb⟩),fun b' hb'=>by simp at hb';subst hb';exact⟨r1 rfl,.inl (.inl ⟨E,t,xs,c,hb⟩)⟩,hk⟩
   ·rename_i t xs hb
    rw[aD] at hb
    exact⟨_,_,fun hin H W hW=>yj (hW b (by simp) 0 (Live.of_look (am (i:=0) hb rfl))) (.inr hb),fun b' hb'=>by simp at hb';subst hb';exact⟨r1 rfl,.inl (.inr (.inl ⟨t,xs,hb⟩))⟩,hk⟩
   ·exact hk.elim
 | .ptr b o,K,hk=>by
  simp only[bp] at hk
  obtain⟨r,r1,r2,hk⟩:=ef hk
  split at hk
  ·obtain⟨m,rfl,hm⟩:=r2 _ rfl
   exact⟨_,_,fun hin H W _=>uP H hm o,by simp,hk⟩
  ·split at hk
   ·rename_i t x hb _
    rw[aD] at hb
    have hl:=am (i:=0) hb (d:=.fvar (ag t x).cells) rfl
    refine⟨_,_,fun hin H W hW=>.pure 1 _ _ (by simp only[V.toD,purD,hl]) fun c hc=>?_,fun b' hb'=>by simp at hb';subst hb';exact⟨r1 rfl,.inl (.inr (.inr ⟨t,x,hb⟩))⟩,hk⟩
    simp only[V.toD,idsD,hl,List.mem_cons,List.not_mem_nil,or_false] at hc
    subst hc
    exact hW b (by simp) 0 (Live.of_look hl)
   ·exact hk.elim
 | .eptr b j o,K,hk=>by
  simp only[bp] at hk
  obtain⟨r,r1,r2,hk⟩:=ef hk
  split at hk
  ·obtain⟨m,rfl,hm⟩:=r2 _ rfl
   exact⟨_,_,fun hin H W _=>zf H hm j o,by simp,hk⟩
  ·exact hk.elim
 | .vref b o q,K,hk=>by
  simp only[bp] at hk
  obtain⟨r,r1,r2,hk⟩:=ef hk
  split at hk
  ·obtain⟨m,rfl,hm⟩:=r2 _ rfl
   exact⟨_,_,fun hin H W _=>zg H hm o q,by simp,hk⟩
  ·exact hk.elim
 | .aptr b p j,K,hk=>by
  simp only[bp] at hk
  obtain⟨r,r1,r2,hk⟩:=ef hk
  split at hk
  ·obtain⟨m,rfl,hm⟩:=r2 _ rfl
   exact⟨_,_,fun hin H W _=>uP H hm (p+j),by simp,hk⟩
  ·exact hk.elim
 | .fref k i,K,hk=>by
  simp only[bp] at hk
  obtain⟨c,hk⟩:=hk.ok
  exact⟨_,_,fun hin H W _=>qA H (by simpa using c) i,by simp,hk⟩
 | .fptr k i o,K,hk=>by
  simp only[bp] at hk
  obtain⟨c,hk⟩:=hk.ok
  exact⟨_,_,fun hin H W _=>mU H (by simpa using c) i o,by simp,hk⟩
 | .feptr k i j o,K,hk=>by
  simp only[bp] at hk
  obtain⟨c,hk⟩:=hk.ok
  exact⟨_,_,fun hin H W _=>wH H (by simpa using c) i j o,by simp,hk⟩
 | .faptr k i p j,K,hk=>by
  simp only[bp] at hk
  obtain⟨c,hk⟩:=hk.ok
  exact⟨_,_,fun hin H W _=>mU H (by simpa using c) i (p+j),by simp,hk⟩
 | .hro k o,K,hk=>by
  simp only[bp] at hk
  split at hk
  ·rename_i c
   exact⟨_,_,fun hin H W _=>iZ H (by simpa using c) o,by simp,hk⟩
  ·rename_i c
   have c:k∉fs:=by simpa using c
   cases o with
   |none=>exact(hk.1 rfl).elim
   |some i=>
    have hk:=hk.2 i rfl
    split at hk
    ·rename_i E t xss hb
     rw[aD] at hb
     obtain⟨c2,xs,hxs,hk⟩:=hk.ok
     simp only[Bool.and_eq_true,Bool.not_eq_true',List.contains_eq_mem,decide_eq_false_iff_not] at c2
     have hl:=am (i:=i) hb (d:=.row E (xs.map (ag t))) (by simp only[VB.blks,List.getElem?_map,hxs,Option.map_some])
     exact⟨_,_,fun hin H W hW=>uQ (hW k (by simp) i (Live.of_look hl)) c2.1 hl,fun b' hb'=>by simp at hb';subst hb';exact⟨c2.2,.inr ⟨c,.inl ⟨E,t,xss,hb⟩⟩⟩,hk⟩
    ·rename_i E t xss hb
     rw[aD] at hb
     obtain⟨c2,ox,hxs,hk⟩:=hk.ok
     simp only[Bool.and_eq_true,Bool.not_eq_true',List.contains_eq_mem,decide_eq_false_iff_not] at c2
     cases ox with
     |none=>exact(hk.1 rfl).elim
     |some xs=>
      have hk:=hk.2 xs rfl
      have hl:=am (i:=i) hb (d:=.row E (xs.map (ag t))) (by simp only[VB.blks,List.getElem?_map,hxs,Option.map_some,rowX])
      exact⟨_,_,fun hin H W hW=>uQ (hW k (by simp) i (Live.of_look hl)) c2.1 hl,fun b' hb'=>by simp at hb';subst hb';exact⟨c2.2,.inr ⟨c,.inr ⟨E,t,xss,hb⟩⟩⟩,hk⟩
    ·exact hk.elim
 | .hpo k o,K,hk=>by
  simp only[bp] at hk
  obtain⟨c,hk⟩:=hk.ok
  exact⟨_,_,fun hin H W _=>yi H (by simpa using c) o,by simp,hk⟩
 | .agg cs,K,hk=>by
  simp only[bp] at hk
  obtain⟨cs',ws,h1,h2,h3⟩:=fD hk
  exact⟨_,ws,fun hin H W hW=>by simp only[V.toD];exact .agg _ _ h1.1 (h1.2 hin H W hW),h2,h3⟩
 | .clo f cs,K,hk=>by
  simp only[bp] at hk
  obtain⟨cs',ws,h1,h2,h3⟩:=fD hk
  exact⟨_,ws,fun hin H W hW=>by simp only[V.toD];exact .clo f _ _ h1.1 (h1.2 hin H W hW),h2,h3⟩
 | .ifc T v,K,hk=>by
  simp only[bp] at hk
  obtain⟨v',ws,h1,h2,h3⟩:=pC hk
  exact⟨_,ws,fun hin H W hW=>by simp only[V.toD];exact .ifc T _ _ (h1 hin H W hW),h2,h3⟩
 | .nils,K,hk=>⟨_,[],dH (v':=.lst (.int .i64) []) rfl,by simp,by simpa only[bp] using hk⟩
 | .int k m,K,hk=>⟨_,[],dH (v':=.int k m) rfl,by simp,by simpa only[bp] using hk⟩
 | .bool b,K,hk=>⟨_,[],dH (v':=.bool b) rfl,by simp,by simpa only[bp] using hk⟩
 | .tt,K,hk=>⟨_,[],dH (v':=.tt) rfl,by simp,by simpa only[bp] using hk⟩
 | .ff,K,hk=>⟨_,[],dH (v':=.ff) rfl,by simp,by simpa only[bp] using hk⟩
 | .str s,K,hk=>⟨_,[],dH (v':=.str s) rfl,by simp,by simpa only[bp] using hk⟩
 | .lst t xs,K,hk=>⟨_,[],dH (v':=.lst t xs) rfl,by simp,by simpa only[bp] using hk⟩
 | .box t x,K,hk=>⟨_,[],dH (v':=.box t x) rfl,by simp,by simpa only[bp] using hk⟩
 | .nilp,K,hk=>⟨_,[],dH (v':=.nilp) rfl,by simp,by simpa only[bp] using hk⟩
 | .nilf,K,hk=>⟨_,[],dH (v':=.nilf) rfl,by simp,by simpa only[bp] using hk⟩
 | .nili,K,hk=>⟨_,[],dH (v':=.nili) rfl,by simp,by simpa only[bp] using hk⟩
 | .obo t o,K,hk=>⟨_,[],dH (v':=.obo t o) (by cases o<;>rfl),by simp,by simpa only[bp] using hk⟩
 | .junk,K,hk=>⟨_,[],fun _ _ _ _=>.junk,by simp,by simpa only[bp] using hk⟩
 | .gv g,K,hk=>⟨.gv g,[],fun _ _ _ _=>.gv g,by simp,by simpa only[bp] using hk⟩
 | .tup _,K,hk| .gp _,K,hk| .iptr ..,K,hk| .undef,K,hk=>by simp only[bp] at hk
theorem fD:∀{l:List V} {K:List V→List Nat→Prop},iY os fs h l K→∃l' ws,I4 os fs n h ws l l'∧(∀b∈ws,uX h os fs b)∧K l' ws
 |[],K,hk=>⟨[],[],⟨rfl,fun hin H W _ i hi=>by simp[ah] at hi⟩,by simp,by simpa only[iY] using hk⟩
 |v::l,K,hk=>by
  simp only[iY] at hk
  obtain⟨v',ws,h1,h2,hk⟩:=pC hk
  obtain⟨l',ws',h3,h4,hk⟩:=fD hk
  refine⟨v'::l',ws++ws',⟨by simp only[ah,List.length_cons,h3.1],fun hin H W hW i hi=>?_⟩,fun b hb=>?_,hk⟩
  ·cases i with
   |zero=>simpa[ah] using h1 hin H W fun b hb=>hW b (List.mem_append_left _ hb)
   |succ i=>
    have:=h3.2 hin H W (fun b hb=>hW b (List.mem_append_right _ hb)) i (by simpa[ah] using hi)
    simpa[ah] using this
  ·rcases List.mem_append.1 hb with hb|hb
   ·exact h2 b hb
   ·exact h4 b hb
end
def iX (os fs:List Nat)(h:VH):List V→(List V→List Nat→Prop)→Prop
 |[],K=>K [] []
 | .nils::l,K=>iX os fs h l fun l ws=>K (.nils::l) ws
 |v::l,K=>bp os fs h v fun v' ws=>iX os fs h l fun l' ws'=>K (v'::l') (ws++ws')
theorem mT:∀{l:List V} {K:List V→List Nat→Prop},iX os fs h l K→∃l' ws,I4 os fs n h ws l l'∧(∀b∈ws,uX h os fs b)∧K l' ws
 |[],K,hk=>⟨[],[],⟨rfl,fun hin H W _ i hi=>by simp[ah] at hi⟩,by simp,by simpa only[iX] using hk⟩
 |v::l,K,hk=>by
  have key:∃v' ws,Vw os fs n h ws v v'∧(∀b∈ws,uX h os fs b)∧iX os fs h l fun l' ws'=>K (v'::l') (ws++ws'):=by
   by_cases e:v= .nils
   ·subst e
    exact⟨.nils,[],fun hin H W _=>.nils,by simp,by simpa only[iX,List.nil_append] using hk⟩
   ·have hk':bp os fs h v fun v' ws=>iX os fs h l fun l' ws'=>K (v'::l') (ws++ws'):=by
     cases v<;>first|exact hk|exact absurd rfl e
    obtain⟨v',ws,h1,h2,hk⟩:=pC (n:=n) hk'
    exact⟨v',ws,h1,h2,hk⟩
  obtain⟨v',ws,h1,h2,hk⟩:=key
  obtain⟨l',ws',h3,h4,hk⟩:=mT hk
  refine⟨v'::l',ws++ws',⟨by simp only[ah,List.length_cons,h3.1],fun hin H W hW i hi=>?_⟩,fun b hb=>?_,hk⟩
  ·cases i with
   |zero=>simpa[ah] using h1 hin H W fun b hb=>hW b (List.mem_append_left _ hb)
   |succ i=>
    have:=h3.2 hin H W (fun b hb=>hW b (List.mem_append_right _ hb)) i (by simpa[ah] using hi)
    simpa[ah] using this
  ·rcases List.mem_append.1 hb with hb|hb
   ·exact h2 b hb
   ·exact h4 b hb
def wG (os fs:List Nat)(h:VH)(x:VB)(K:VB→List Nat→Prop):Prop:=
 match x with
 | .var T cs=>iY os fs h cs fun cs ws=>K (.var T cs) ws
 | .vari T pre m t xs post=>Chk (Ck t.fams fs) (iX os fs h pre fun pre ws=>iX os fs h post fun post ws'=>K (.vari T pre m t xs post) (ws++ws'))
 | .row E t xs=>Chk (Ck t.fams fs) (K (.row E t xs) [])
 | .lit E vs=>iY os fs h vs fun vs ws=>K (.lit E vs) ws
 |_=>False
def IF (os fs:List Nat)(n:Nat)(h:VH)(ws:List Nat)(x x':VB):Prop:=∃d d',x.blks=[d]∧x'.blks=[d']∧∀hin,HinOK os fs h hin→∀W:List Id,Iu h ws W→ViewB (toH h) (gI (gN os n)) hin W fs d d'
theorem dV {A B:List D}{i:Nat}(hi:i<A.length):(A++B).getD i .undef=A.getD i .undef:=by simp[List.getD_eq_getElem?_getD,List.getElem?_append_left hi]
theorem dW {A B:List D}{i:Nat}(hi:A.length≤i):(A++B).getD i .undef=B.getD (i-A.length) .undef:=by simp[List.getD_eq_getElem?_getD,List.getElem?_append_right hi]
theorem ze {x:VB}{K:VB→List Nat→Prop}(hk:wG os fs h x K):∃x' ws,IF os fs n h ws x x'∧(∀b∈ws,uX h os fs b)∧K x' ws:=by
 unfold wG at hk
 split at hk
 ·rename_i T cs
  obtain⟨cs',ws,h1,h2,hk⟩:=fD (n:=n) hk
  exact⟨_,ws,⟨_,_,rfl,rfl,fun hin H W hW=>.var T _ _ h1.1 (h1.2 hin H W hW)⟩,h2,hk⟩
 ·rename_i T pre m t xs post
  obtain⟨c,hk⟩:=hk.ok
  obtain⟨pre',ws,h1,h2,hk⟩:=mT (n:=n) hk
  obtain⟨post',ws',h3,h4,hk⟩:=mT (n:=n) hk
  refine⟨_,ws++ws',⟨_,_,rfl,rfl,fun hin H W hW=>.var T _ _ ?_ fun i hi=>?_⟩,fun b hb=>(List.mem_append.1 hb).elim (h2 b) (h4 b),hk⟩
  ·simp only[List.length_append,h1.1,h3.1]
  ·have g1:=h1.2 hin H W (fun b hb=>hW b (List.mem_append_left _ hb))
   have g3:=h3.2 hin H W (fun b hb=>hW b (List.mem_append_right _ hb))
   by_cases c1:i<(ah pre).length
   ·rw[List.append_assoc,List.append_assoc,dV (A:=ah pre) c1,dV (A:=ah pre') (by rw[←h1.1];exact c1)]
    exact g1 i c1
   ·rw[List.append_assoc,List.append_assoc,dW (A:=ah pre) (by omega),dW (A:=ah pre') (by rw[←h1.1];omega),←h1.1]
    simp only[List.length_append] at hi
    by_cases c2:i-(ah pre).length<(xs.map (ag t)).length
    ·rw[dV c2,dV c2]
     obtain⟨e,he,hee⟩:=List.mem_map.1 (aL c2)
     rw[←hee]
     exact lU H (sB c) e
    ·rw[dW (by omega),dW (by omega)]
     exact g3 _ (by omega)
 ·rename_i E t xs
  obtain⟨c,hk⟩:=hk.ok
  refine⟨_,[],⟨_,_,rfl,rfl,fun hin H W hW=>.row E _ _ rfl fun i hi=>?_⟩,by simp,hk⟩
  obtain⟨e,he,hee⟩:=List.mem_map.1 (aL hi)
  rw[←hee]
  exact lU H (sB c) e
 ·rename_i E cs
  obtain⟨cs',ws,h1,h2,hk⟩:=fD (n:=n) hk
  exact⟨_,ws,⟨_,_,rfl,rfl,fun hin H W hW=>.row E _ _ h1.1 (h1.2 hin H W hW)⟩,h2,hk⟩
 ·exact hk.elim
def Cc (os fs:List Nat)(h:VH):List Nat→Nat→(VH→List Nat→Prop)→Prop
 |[],_,K=>K [] []
 |b::l,i,K=>dj h b fun x=>wG os fs h x fun x' ws=>eJ (i+1) fun j=>Cc os fs h l j fun r ws'=>K ((i,x')::r) (ws++ws')
theorem uB:∀{l:List Nat} {i:Nat} {K:VH→List Nat→Prop},Cc os fs h l i K→∃hs ws,(∀k x,look hs k=some x→∃m,k=i+m∧m<l.length)∧(∀m b,l[m]?=some b→∃x x',look h b=some x∧look hs (i+m)=some x'∧IF os fs n h ws x x')∧(∀b∈ws,uX h os fs b)∧K hs ws
 |[],i,K,hk=>⟨[],[],(fun k x hx=>by cases hx),by simp,by simp,hk⟩
 |b::l,i,K,hk=>by
  obtain⟨x,hx,hk⟩:=aG hk
  obtain⟨x',ws,h1,h2,hk⟩:=ze (n:=n) hk
  obtain⟨hs,ws',h3,h4,h5,hk⟩:=uB (aW hk)
  refine⟨(i,x')::hs,ws++ws',fun k y hy=>?_,fun m b' hm=>?_,fun b hb=>(List.mem_append.1 hb).elim (h2 b) (h5 b),hk⟩
  ·simp only[look] at hy
   split at hy
   ·rename_i e;exact⟨0,by omega,by simp⟩
   ·obtain⟨m,e1,e2⟩:=h3 k y hy
    exact⟨m+1,by omega,by simpa using e2⟩
  ·cases m with
   |zero=>
    simp only[List.getElem?_cons_zero,Option.some.injEq] at hm
    subst hm
    obtain⟨d,d',e1,e2,e3⟩:=h1
    exact⟨x,x',hx,by simp[look],d,d',e1,e2,fun hin H W hW=>e3 hin H W fun b hb=>hW b (List.mem_append_left _ hb)⟩
   |succ m=>
    obtain⟨y,y',q1,q2,d,d',e1,e2,e3⟩:=h4 m b' (by simpa using hm)
    refine⟨y,y',q1,?_,d,d',e1,e2,fun hin H W hW=>e3 hin H W fun b hb=>hW b (List.mem_append_right _ hb)⟩
    simp only[look]
    rw[if_neg (by omega),show i+(m+1)=i+1+m by omega]
    exact q2
def VB.fams:VB→List Nat
 | .vari _ _ _ t _ _=>t.fams
 | .row _ t _=>t.fams
 | .fvar _ t _=>t.fams
 | .fvari _ _ t _=>t.fams
 | .frow _ t _=>t.fams
 | .frowx _ t _=>t.fams
 |_=>[]
def Ao (fs:List Nat)(h:VH):List Nat→(VH→Prop)→Prop
 |[],K=>K []
 |k::l,K=>dj h k fun x=>Chk (!x.sgl && Ck x.fams fs) (Ao fs h l fun r=>K ((k,x)::r))
theorem tB:∀{l:List Nat} {K:VH→Prop},Ao fs h l K→∃hf,(∀k x,look hf k=some x→k∈l∧look h k=some x∧x.sgl=false∧∀j∈x.fams,j∈fs)∧(∀k∈l,∃x,look hf k=some x)∧K hf
 |[],K,hk=>⟨[],(fun k x hx=>by cases hx),by simp,hk⟩
 |k::l,K,hk=>by
  obtain⟨x,hx,hk⟩:=aG hk
  obtain⟨c,hk⟩:=hk.ok
  simp only[Bool.and_eq_true,Bool.not_eq_true'] at c
  obtain⟨hf,h1,h2,hk⟩:=tB hk
  refine⟨(k,x)::hf,fun j y hy=>?_,fun j hj=>?_,hk⟩
  ·simp only[look] at hy
   split at hy
   ·rename_i e
    simp only[Option.some.injEq] at hy
    subst hy e
    exact⟨List.mem_cons_self ..,hx,c.1,sB c.2⟩
   ·obtain⟨q1,q2⟩:=h1 j y hy
    exact⟨List.mem_cons_of_mem _ q1,q2⟩
  ·simp only[look]
   by_cases e:j=k
   ·exact⟨x,by rw[if_pos e]⟩
   ·rw[if_neg e]
    rcases List.mem_cons.1 hj with rfl|hj
    ·exact absurd rfl e
    ·exact h2 j hj
theorem Cy {x:VB}{hin:HL}{W:List Id}(H:HinOK os fs h hin)(hs:x.sgl=false)(hf:∀j∈x.fams,j∈fs):∀d∈x.blks,ViewB (toH h) (gI (gN os n)) hin W fs d d:=by
 intro d hd
 have key:∀(t:Ty) (xs:List t.den),(∀k∈t.fams,k∈fs)→∀i,i<(xs.map (ag t)).length→View (toH h) (gI (gN os n)) hin W fs ((xs.map (ag t)).getD i .undef) ((xs.map (ag t)).getD i .undef):=by
  intro t xs ht i hi
  obtain⟨e,he,hee⟩:=List.mem_map.1 (aL hi)
  rw[←hee]
  exact lU H ht e
 cases x<;>simp[VB.sgl] at hs
 ·rename_i T t xs
  obtain⟨e,_,rfl⟩:=List.mem_map.1 hd
  refine .var T _ _ rfl fun i hi=>?_
  have hv:View (toH h) (gI (gN os n)) hin W fs (ag t e) (ag t e):=lU H hf e
  exact(hv.wf (d8 t e)).2 i (by rw[←(d8 t e).1];exact hi)
 ·rename_i T m t xss
  obtain⟨xs,_,rfl⟩:=List.mem_map.1 hd
  exact .var T _ _ rfl (key t xs hf)
 ·rename_i E t xss
  obtain⟨xs,_,rfl⟩:=List.mem_map.1 hd
  exact .row E _ _ rfl (key t xs hf)
 ·rename_i E t xss
  obtain⟨xs,_,rfl⟩:=List.mem_map.1 hd
  cases xs with
  |none=>exact .gone
  |some xs=>exact .row E _ _ rfl (key t xs hf)
end Go.Proofs.YthmfppknagbkeaaGreatDoor.Am
namespace Go.Proofs.YthmfppknagbkeaaGreatDoor.Am
open Go Go.RowKit
variable {P:Program} {os fs:List Nat} {n:Nat} {h:VH}
mutual
def iK:V→Bool
 | .lst .. | .box .. | .iptr .. | .obo .. | .gp _| .gv _=>false
 | .agg cs=>eW cs
 | .tup cs=>eW cs
 | .clo _ cs=>eW cs
 | .ifc _ v=>iK v
 |_=>true
def eW:List V→Bool
 |[]=>true
 |v::l=>iK v && eW l
end
theorem oZ (k:Nat)(o:Option Nat):noMem (l9 k o)=true:=by cases o<;>rfl
theorem oY (k:Nat)(o:Option Nat):noMem (m6 k o)=true:=by cases o<;>rfl
mutual
theorem mD:∀v:V,iK v=true→noMem v.toD=true
 | .agg cs,hv=>by simp only[iK] at hv;simp only[V.toD,noMem,dd cs hv]
 | .tup cs,hv=>by simp only[iK] at hv;simp only[V.toD,noMem,dd cs hv]
 | .clo f cs,hv=>by simp only[iK] at hv;simp only[V.toD,noMem,dd cs hv]
 | .ifc T v,hv=>by simp only[iK] at hv;simp only[V.toD,noMem,mD v hv]
 | .hro k o,_=>oZ k o
 | .hpo k o,_=>oY k o
 | .lst ..,hv| .box ..,hv| .iptr ..,hv| .obo ..,hv| .gp _,hv| .gv _,hv=>by simp only[iK] at hv;cases hv
 | .int ..,_| .bool _,_| .tt,_| .ff,_| .str _,_| .nilp,_| .nils,_| .nilf,_| .nili,_| .ref _,_| .ptr ..,_| .eptr ..,_| .vref ..,_| .aptr ..,_| .fref ..,_| .fptr ..,_| .feptr ..,_| .faptr ..,_| .undef,_| .junk,_=>by simp only[V.toD,noMem]
theorem dd:∀l:List V,eW l=true→fT (ah l)=true
 |[],_=>rfl
 |v::l,hv=>by
  simp only[eW,Bool.and_eq_true] at hv
  simp only[ah,fT,mD v hv.1,dd l hv.2,Bool.and_self]
end
def Ty.flat:Ty→Bool
 | .int _| .bool| .str| .txn| .slt| .hr _| .hp _=>true
 |_=>false
theorem oF {t:Ty}(h:t.flat=true)(x:t.den):(ag t x).cells.all noMem=true:=by
 cases t<;>first|(cases h;done)|rfl|skip
 ·simp only[ag,(lq _ x).2];simp[oZ]
 ·simp only[ag,(lp _ x).2];simp[oY]
theorem tH {t:Ty}(h:t.flat=true)(x:t.den):noMem (ag t x)=true:=by
 cases t<;>first|(cases h;done)|rfl|skip
 ·exact oZ _ x
 ·exact oY _ x
def nO:VB→Bool
 | .var _ cs=>eW cs
 | .vari _ pre _ t _ post=>eW pre && eW post && t.flat
 | .row _ t _=>t.flat
 | .lit _ vs=>vs.all fun v=>eW v.cells
 | .froz _ _| .fvb _ _=>false
 | .fvar _ t _=>t.flat
 | .fvari _ _ t _=>t.flat
 | .frow _ t _=>t.flat
 | .frowx _ t _=>t.flat
 | .moved .. | .gone=>true
theorem v9 (l:List D):fT l=true↔∀d∈l,noMem d=true:=by rw[eL,List.all_eq_true]
theorem wa {x:VB}(h:nO x=true):∀d∈x.blks,noMemB d=true:=by
 intro d hd
 have kc:∀(t:Ty) (xs:List t.den),t.flat=true→∀e∈xs.map (ag t),e.cells.all noMem=true:=by
  intro t xs ht e he
  obtain⟨x,_,rfl⟩:=List.mem_map.1 he
  exact oF ht x
 have kd:∀(t:Ty) (xs:List t.den),t.flat=true→∀e∈xs.map (ag t),noMem e=true:=by
  intro t xs ht e he
  obtain⟨x,_,rfl⟩:=List.mem_map.1 he
  exact tH ht x
 cases x with
 |var T cs=>
  obtain rfl:=List.mem_singleton.1 hd
  simp only[noMemB,←eL]
  exact dd cs h
 |vari T pre m t xs post=>
  obtain rfl:=List.mem_singleton.1 hd
  simp only[nO,Bool.and_eq_true] at h
  simp only[noMemB,List.all_append,←eL,dd _ h.1.1,dd _ h.1.2,Bool.true_and,Bool.and_true]
  rw[v9]
  exact kd t xs h.2
 |row E t xs=>
  obtain rfl:=List.mem_singleton.1 hd
  simp only[noMemB,List.all_eq_true]
  intro e he
  exact List.all_eq_true.1 (kc t xs h e he)
 |lit E vs=>
  obtain rfl:=List.mem_singleton.1 hd
  simp only[nO,List.all_eq_true] at h
  simp only[noMemB,bI,List.all_map,List.all_eq_true]
  intro v hv
  have:=dd _ (h v hv)
  rw[eL] at this
  simp only[Function.comp,aJ]
  exact this
 |froz t xs=>cases h
 |fvb t x=>cases h
 |fvar T t xs=>
  obtain⟨e,_,rfl⟩:=List.mem_map.1 hd
  exact oF h e
 |fvari T m t xss=>
  obtain⟨xs,_,rfl⟩:=List.mem_map.1 hd
  simp only[noMemB,List.all_eq_true]
  exact kd t xs h
 |frow E t xss=>
  obtain⟨xs,_,rfl⟩:=List.mem_map.1 hd
  simp only[noMemB,List.all_eq_true]
  intro e he
  exact List.all_eq_true.1 (kc t xs h e he)
 |frowx E t xss=>
  obtain⟨xs,_,rfl⟩:=List.mem_map.1 hd
  cases xs with
  |none=>rfl
  |some xs=>
   simp only[rowX,noMemB,List.all_eq_true]
   intro e he
   exact List.all_eq_true.1 (kc t xs h e he)
 |moved k i=>obtain rfl:=List.mem_singleton.1 hd;rfl
 |gone=>obtain rfl:=List.mem_singleton.1 hd;rfl
mutual
def cS (g:Nat→Nat)(v:V)(K:V→Prop):Prop:=
 match v with
 | .ref b=>eJ (g b) fun b=>K (.ref b)
 | .vref b o n=>eJ (g b) fun b=>K (.vref b o n)
 | .ptr b o=>eJ (g b) fun b=>K (.ptr b o)
 | .eptr b i o=>eJ (g b) fun b=>K (.eptr b i o)
 | .aptr b p i=>eJ (g b) fun b=>K (.aptr b p i)
 | .fref k i=>Chk (Nat.beq (g k) k) (K (.fref k i))
 | .fptr k i o=>Chk (Nat.beq (g k) k) (K (.fptr k i o))
 | .feptr k i j o=>Chk (Nat.beq (g k) k) (K (.feptr k i j o))
 | .faptr k i p j=>Chk (Nat.beq (g k) k) (K (.faptr k i p j))
 | .hro k o=>Chk (Nat.beq (g k) k) (K (.hro k o))
 | .hpo k o=>Chk (Nat.beq (g k) k) (K (.hpo k o))
 | .agg cs=>jx g cs fun cs=>K (.agg cs)
 | .tup cs=>jx g cs fun cs=>K (.tup cs)
 | .clo f cs=>jx g cs fun cs=>K (.clo f cs)
 | .ifc T v=>cS g v fun v=>K (.ifc T v)
 | .int k n=>K (.int k n)
 | .bool b=>K (.bool b)
 | .tt=>K .tt
 | .ff=>K .ff
 | .str s=>K (.str s)
 | .lst t xs=>K (.lst t xs)
 | .box t x=>K (.box t x)
 | .nilp=>K .nilp
 | .nils=>K .nils
 | .nilf=>K .nilf
 | .nili=>K .nili
 | .gp g=>K (.gp g)
 | .gv g=>K (.gv g)
 | .iptr t x o=>K (.iptr t x o)
 | .obo t o=>K (.obo t o)
 | .undef=>K .undef
 | .junk=>K .junk
def jx (g:Nat→Nat)(l:List V)(K:List V→Prop):Prop:=
 match l with
 |[]=>K []
 |v::l=>cS g v fun v=>jx g l fun l=>K (v::l)
end
theorem kM {g:Nat→Nat}{k:Nat}(hk:g k=k)(o:Option Nat):renD (gI g) (l9 k o)=l9 k o:=by
 cases o with
 |none=>rfl
 |some i=>simp[l9,renD,hk]
theorem BZ {g:Nat→Nat}{k:Nat}(hk:g k=k)(o:Option Nat):renD (gI g) (m6 k o)=m6 k o:=by
 cases o with
 |none=>rfl
 |some i=>simp[m6,renD,hk]
mutual
theorem sk {g:Nat→Nat}:∀{v:V} {K:V→Prop},cS g v K→∃r,renD (gI g) v.toD=r.toD∧K r
 | .ref b,K,h=>⟨.ref (g b),rfl,aW (by simpa only[cS] using h)⟩
 | .vref b o n,K,h=>⟨.vref (g b) o n,rfl,aW (by simpa only[cS] using h)⟩
 | .ptr b o,K,h=>⟨.ptr (g b) o,rfl,aW (by simpa only[cS] using h)⟩
 | .eptr b i o,K,h=>⟨.eptr (g b) i o,rfl,aW (by simpa only[cS] using h)⟩
 | .aptr b p i,K,h=>⟨.aptr (g b) p i,rfl,aW (by simpa only[cS] using h)⟩
 | .fref k i,K,h=>by simp only[cS] at h;obtain⟨c,h⟩:=h.ok;exact⟨.fref k i,by simp[V.toD,renD,Nat.eq_of_beq_eq_true c],h⟩
 | .fptr k i o,K,h=>by simp only[cS] at h;obtain⟨c,h⟩:=h.ok;exact⟨.fptr k i o,by simp[V.toD,renD,Nat.eq_of_beq_eq_true c],h⟩
 | .feptr k i j o,K,h=>by simp only[cS] at h;obtain⟨c,h⟩:=h.ok;exact⟨.feptr k i j o,by simp[V.toD,renD,Nat.eq_of_beq_eq_true c],h⟩
 | .faptr k i p j,K,h=>by simp only[cS] at h;obtain⟨c,h⟩:=h.ok;exact⟨.faptr k i p j,by simp[V.toD,renD,Nat.eq_of_beq_eq_true c],h⟩
 | .hro k o,K,h=>by simp only[cS] at h;obtain⟨c,h⟩:=h.ok;exact⟨.hro k o,kM (Nat.eq_of_beq_eq_true c) o,h⟩
 | .hpo k o,K,h=>by simp only[cS] at h;obtain⟨c,h⟩:=h.ok;exact⟨.hpo k o,BZ (Nat.eq_of_beq_eq_true c) o,h⟩
 | .agg cs,K,h=>by
  simp only[cS] at h
  obtain⟨r,h1,h2⟩:=fj h
  exact⟨.agg r,by simp only[V.toD,renD,h1],h2⟩
 | .tup cs,K,h=>by
  simp only[cS] at h
  obtain⟨r,h1,h2⟩:=fj h
  exact⟨.tup r,by simp only[V.toD,renD,h1],h2⟩
 | .clo f cs,K,h=>by
  simp only[cS] at h
  obtain⟨r,h1,h2⟩:=fj h
  exact⟨.clo f r,by simp only[V.toD,renD,h1],h2⟩
 | .ifc T v,K,h=>by
  simp only[cS] at h
  obtain⟨r,h1,h2⟩:=sk h
  exact⟨.ifc T r,by simp only[V.toD,renD,h1],h2⟩
 | .int k n,K,h=>⟨.int k n,rfl,by simpa only[cS] using h⟩
 | .bool b,K,h=>⟨.bool b,rfl,by simpa only[cS] using h⟩
 | .tt,K,h=>⟨.tt,rfl,by simpa only[cS] using h⟩
 | .ff,K,h=>⟨.ff,rfl,by simpa only[cS] using h⟩
 | .str s,K,h=>⟨.str s,rfl,by simpa only[cS] using h⟩
 | .lst t xs,K,h=>⟨.lst t xs,rfl,by simpa only[cS] using h⟩
 | .box t x,K,h=>⟨.box t x,rfl,by simpa only[cS] using h⟩
 | .nilp,K,h=>⟨.nilp,rfl,by simpa only[cS] using h⟩
 | .nils,K,h=>⟨.nils,rfl,by simpa only[cS] using h⟩
 | .nilf,K,h=>⟨.nilf,rfl,by simpa only[cS] using h⟩
 | .nili,K,h=>⟨.nili,rfl,by simpa only[cS] using h⟩
 | .gp g,K,h=>⟨.gp g,rfl,by simpa only[cS] using h⟩
 | .gv g,K,h=>⟨.gv g,rfl,by simpa only[cS] using h⟩
 | .iptr t x o,K,h=>⟨.iptr t x o,rfl,by simpa only[cS] using h⟩
 | .obo t o,K,h=>⟨.obo t o,by cases o<;>rfl,by simpa only[cS] using h⟩
 | .undef,K,h=>⟨.undef,rfl,by simpa only[cS] using h⟩
 | .junk,K,h=>⟨.junk,rfl,by simpa only[cS] using h⟩
theorem fj {g:Nat→Nat}:∀{l:List V} {K:List V→Prop},jx g l K→∃r,mN (gI g) (ah l)=ah r∧K r
 |[],K,h=>⟨[],rfl,by simpa only[jx] using h⟩
 |v::l,K,h=>by
  simp only[jx] at h
  obtain⟨v',h1,h2⟩:=sk h
  obtain⟨l',h3,h4⟩:=fj h2
  exact⟨v'::l',by simp only[ah,mN,h1,h3],h4⟩
end
def tG (g:Nat→Nat)(l:List Nat):Bool:=l.all fun k=>Nat.beq (g k) k
theorem j2 {g:Nat→Nat}{l:List Nat}(h:tG g l=true):∀k∈l,g k=k:=by
 unfold tG at h
 rw[List.all_eq_true] at h
 exact fun k hk=>Nat.eq_of_beq_eq_true (h k hk)
theorem xX {g:Nat→Nat}{t:Ty}(ht:∀k∈t.fams,g k=k)(x:t.den):renD (gI g) (ag t x)=ag t x:=by
 cases t<;>try rfl
 case ob t=>cases x<;>rfl
 case hr k=>exact kM (ht k (by simp[Ty.fams])) x
 case hp k=>exact BZ (ht k (by simp[Ty.fams])) x
 case vtxo k=>simp only[ag,renD,mN,kM (ht k (by simp[Ty.fams]))]
 case pplm k=>simp only[ag,ft,List.cons_append,List.nil_append,renD,mN,kM (ht k (by simp[Ty.fams])),ey]
 case pplo k k'=>simp only[ag,renD,mN,kM (ht k (by simp[Ty.fams])),kM (ht k' (by simp[Ty.fams]))]
 case nod k=>simp only[ag,ft,List.cons_append,List.nil_append,renD,mN,kM (ht k (by simp[Ty.fams])),ey]
def BW (g:Nat→Nat)(x:VB)(K:VB→Prop):Prop:=
 match x with
 | .var T cs=>jx g cs fun cs=>K (.var T cs)
 | .vari T pre m t xs post=>Chk (tG g t.fams) (jx g pre fun pre=>jx g post fun post=>K (.vari T pre m t xs post))
 | .row E t xs=>Chk (tG g t.fams) (K (.row E t xs))
 | .lit E vs=>jx g vs fun vs=>K (.lit E vs)
 | .froz t xs=>K (.froz t xs)
 | .fvb t x=>K (.fvb t x)
 | .fvar T t xs=>Chk (tG g t.fams) (K (.fvar T t xs))
 | .fvari T m t xss=>Chk (tG g t.fams) (K (.fvari T m t xss))
 | .frow E t xss=>Chk (tG g t.fams) (K (.frow E t xss))
 | .frowx E t xss=>Chk (tG g t.fams) (K (.frowx E t xss))
 | .moved k i=>eJ (g k) fun k=>K (.moved k i)
 | .gone=>K .gone
theorem lH {g:Nat→Nat}{t:Ty}(ht:∀k∈t.fams,g k=k)(xs:List t.den):(xs.map (ag t)).map (renD (gI g))=xs.map (ag t):=by
 rw[List.map_map]
 exact List.map_congr_left fun x _=>xX ht x
theorem BX {g:Nat→Nat}{x:VB}{K:VB→Prop}(h:BW g x K):∃y,y.blks=x.blks.map (renB (gI g))∧K y:=by
 unfold BW at h
 split at h
 ·obtain⟨r,h1,h2⟩:=fj h
  exact⟨_,by simp only[VB.blks,List.map_cons,List.map_nil,renB,←eX,h1],h2⟩
 ·rename_i T pre m t xs post
  obtain⟨c,h⟩:=h.ok
  obtain⟨r,h1,h2⟩:=fj h
  obtain⟨r2,h3,h4⟩:=fj h2
  refine⟨_,?_,h4⟩
  rw[eX] at h1 h3
  simp only[VB.blks,List.map_cons,List.map_nil,renB,List.map_append,h1,h3,lH (j2 c)]
 ·rename_i E t xs
  obtain⟨c,h⟩:=h.ok
  exact⟨_,by simp only[VB.blks,List.map_cons,List.map_nil,renB,lH (j2 c)],h⟩
 ·obtain⟨r,h1,h2⟩:=fj h
  exact⟨_,by simp only[VB.blks,List.map_cons,List.map_nil,renB,←eX,h1],h2⟩
 ·exact⟨_,rfl,h⟩
 ·exact⟨_,rfl,h⟩
 ·rename_i T t xs
  obtain⟨c,h⟩:=h.ok
  refine⟨_,?_,h⟩
  simp only[VB.blks,List.map_map]
  refine List.map_congr_left fun x _=>?_
  simp only[Function.comp,renB]
  rw[←iQ,xX (j2 c)]
 ·rename_i T m t xss
  obtain⟨c,h⟩:=h.ok
  refine⟨_,?_,h⟩
  simp only[VB.blks,List.map_map]
  refine List.map_congr_left fun xs _=>?_
  simp only[Function.comp,renB,lH (j2 c)]
 ·rename_i E t xss
  obtain⟨c,h⟩:=h.ok
  refine⟨_,?_,h⟩
  simp only[VB.blks,List.map_map]
  refine List.map_congr_left fun xs _=>?_
  simp only[Function.comp,renB,lH (j2 c)]
 ·rename_i E t xss
  obtain⟨c,h⟩:=h.ok
  refine⟨_,?_,h⟩
  simp only[VB.blks,List.map_map]
  refine List.map_congr_left fun xs _=>?_
  cases xs with
  |none=>rfl
  |some xs=>simp only[Function.comp,rowX,renB,lH (j2 c)]
 ·exact⟨_,rfl,aW h⟩
 ·exact⟨_,rfl,h⟩
def Bs (g:Nat→Nat):VH→(VH→Prop)→Prop
 |[],K=>K []
 |(k,x)::l,K=>BW g x fun y=>eJ (g k) fun b=>Bs g l fun u=>K ((b,y)::u)
inductive RenVH (g:Nat→Nat):VH→VH→Prop where
 |nil:RenVH g [] []
 |cons {k:Nat} {x y:VB} {l u:VH} (hy:y.blks=x.blks.map (renB (gI g))) (hl:RenVH g l u):RenVH g ((k,x)::l) ((g k,y)::u)
theorem ug {g:Nat→Nat}:∀{l:VH} {K:VH→Prop},Bs g l K→∃u,RenVH g l u∧K u
 |[],K,h=>⟨[],.nil,h⟩
 |(k,x)::l,K,h=>by
  obtain⟨y,h1,h2⟩:=BX h
  obtain⟨u,h3,h4⟩:=ug (aW h2)
  exact⟨(g k,y)::u,.cons h1 h3,h4⟩
theorem RenVH.look {g:Nat→Nat}(hg:∀a b,g a=g b→a=b){l u:VH}(hr:RenVH g l u):(∀k,(Am.look l k=none→Am.look u (g k)=none)∧∀x,Am.look l k=some x→∃y,Am.look u (g k)=some y∧y.blks=x.blks.map (renB (gI g)))∧∀b,(∀k,Am.look l k≠none→g k≠b)→Am.look u b=none:=by
 induction hr with
 |nil=>exact⟨fun k=>⟨fun _=>rfl,fun x hx=>by cases hx⟩,fun b _=>rfl⟩
 | @cons k0 x0 y0 l u hy hl ih=>
  refine⟨fun k=>?_,fun b hb=>?_⟩
  ·by_cases e:k=k0
   ·subst e
    refine⟨fun hn=>by simp[Am.look] at hn,fun x hx=>⟨y0,by simp[Am.look],?_⟩⟩
    simp[Am.look] at hx
    subst hx
    exact hy
   ·have e':¬g k=g k0:=fun he=>e (hg _ _ he)
    simp only[Am.look,if_neg e,if_neg e']
    exact ih.1 k
  ·have e':¬b=g k0:=fun he=>hb k0 (by simp[Am.look]) he.symm
   simp only[Am.look,if_neg e']
   refine ih.2 b fun k hk=>hb k ?_
   simp only[Am.look]
   split
   ·simp
   ·exact hk
theorem RenVH.keys {g:Nat→Nat}{l u:VH}(hr:RenVH g l u):u.map (·.1)=l.map (fun p=>g p.1):=by
 induction hr with
 |nil=>rfl
 |cons hy hl ih=>simp[ih]
end Go.Proofs.YthmfppknagbkeaaGreatDoor.Am
namespace Go.Proofs.YthmfppknagbkeaaGreatDoor.Am
open Go Go.RowKit
variable {P:Program} {os fs:List Nat} {n:Nat} {h:VH}
theorem mE {α β:Type}{f:α→β}{l:List α}(hf:∀a b,f a=f b→a=b)(h:l.Nodup):(l.map f).Nodup:=List.pairwise_map.2 (List.Pairwise.imp (fun hne e=>hne (hf _ _ e)) h)
theorem lw {κ α:Type}[DecidableEq κ]{us g:List (κ×α)}(hn:(us.map (·.1)).Nodup)(b:κ):look (puts us g) b=match look us b with|some y=>some y|none=>look g b:=by
 cases hl:look us b with
 |some y=>exact gC us g b y hn (bT hl)
 |none=>
  refine ax us g b fun x hx he=>?_
  have:=fe hn (k:=x.1) (a:=x.2) hx
  rw[he,hl] at this
  cases this
theorem mB {κ α:Type}[DecidableEq κ](us:List (κ×α)){g g':List (κ×α)}(b:κ)(hg:look g b=look g' b):look (puts us g) b=look (puts us g') b:=by
 induction us generalizing g g' with
 |nil=>exact hg
 |cons x us ih=>
  show look (puts us (put x.1 x.2 g)) b=look (puts us (put x.1 x.2 g')) b
  refine ih ?_
  rw[ai,ai,hg]
theorem qz:∀(s:List Nat) (l:VH),(∀p∈pQ s l,p.1.1∉s)∧((pQ s l).map (·.1)).Nodup
 |s,[]=>⟨by simp[pQ],by simp[pQ]⟩
 |s,(k,x)::l=>by
  obtain⟨ih1,ih2⟩:=qz (k::s) l
  have hfam:∀p∈fam k x.blks,p.1.1=k:=by
   intro p hp
   obtain⟨q,_,rfl⟩:=List.mem_map.1 hp
   rfl
  have hnd:((fam k x.blks).map (·.1)).Nodup:=by
   have e:∀(l:List Blk) (q:Nat),(((l.zipIdx q).map fun p:Blk×Nat=>(((k,p.2),p.1):Id×Blk)).map (·.1))=(List.range' q l.length).map fun i=>((k,i):Id):=by
    intro l
    induction l with
    |nil=>intro q;rfl
    |cons y l ih=>intro q;simp only[List.zipIdx_cons,List.map_cons,List.length_cons,List.range'_succ,ih]
   unfold fam
   rw[e]
   exact mE (fun a b hab=>by simpa using hab) List.nodup_range'
  simp only[pQ]
  cases hc:s.contains k with
  |true=>
   simp only[cond_true,List.nil_append]
   exact⟨fun p hp hs=>ih1 p hp (List.mem_cons_of_mem _ hs),ih2⟩
  |false=>
   have hk:k∉s:=by simpa using hc
   simp only[cond_false,List.map_append]
   refine⟨fun p hp=>?_,List.nodup_append.2 ⟨hnd,ih2,fun a ha b hb he=>?_⟩⟩
   ·rcases List.mem_append.1 hp with hp|hp
    ·rw[hfam p hp];exact hk
    ·exact fun hs=>ih1 p hp (List.mem_cons_of_mem _ hs)
   ·obtain⟨p,hp,rfl⟩:=List.mem_map.1 ha
    obtain⟨q,hq,rfl⟩:=List.mem_map.1 hb
    have:=ih1 q hq
    rw[←he,hfam p hp] at this
    exact this (List.mem_cons_self ..)
theorem pA (l:VH):((toH l).map (·.1)).Nodup:=(qz [] l).2
theorem xH {l:VH}{p:Id×Blk}(hp:p∈toH l):∃x,look l p.1.1=some x∧p.2∈x.blks:=by
 have h1:=fe (pA l) (k:=p.1) (a:=p.2) hp
 rw[ak] at h1
 obtain⟨x,h2,h3⟩:=Option.bind_eq_some_iff.1 h1
 exact⟨x,h2,List.mem_of_getElem? h3⟩
theorem qi {g:Id→Id}(hg:∀a b,g a=g b→a=b):∀(l:HL),(∀b,look (renH g l) (g b)=(look l b).map (renB g))∧∀c,(∀b,look l b≠none→g b≠c)→look (renH g l) c=none
 |[]=>⟨fun b=>rfl,fun c _=>rfl⟩
 |(b0,x)::l=>by
  obtain⟨h1,h2⟩:=qi hg l
  refine⟨fun b=>?_,fun c hc=>?_⟩
  ·show look ((g b0,renB g x)::renH g l) (g b)=_
   simp only[look]
   by_cases e:b=b0
   ·subst e;simp
   ·rw[if_neg fun he=>e (hg _ _ he),if_neg e]
    exact h1 b
  ·show look ((g b0,renB g x)::renH g l) c=none
   simp only[look]
   rw[if_neg fun he=>hc b0 (by simp[look]) he.symm]
   refine h2 c fun b hb=>hc b ?_
   simp only[look]
   split
   ·simp
   ·exact hb
theorem yY {g:Id→Id}(hg:∀a b,g a=g b→a=b){l:HL}(hn:(l.map (·.1)).Nodup):((renH g l).map (·.1)).Nodup:=by
 unfold renH
 rw[List.map_map]
 have:(fun x:Id×Blk=>x.1)∘(fun p:Id×Blk=>(g p.1,renB g p.2))=g∘(fun x:Id×Blk=>x.1):=rfl
 rw[this,←List.map_map]
 exact mE hg hn
theorem yg {g:Nat→Nat}(hg:∀a b,g a=g b→a=b){hout u h0:VH}{H:HL}(hH:∀b,look H b=look (toH h0) b)(hr:RenVH g hout u)(hn:(hout.map (·.1)).Nodup)(hc:∀k x,look hout k=some x→∀j,x.blks.length≤j→look (toH h0) (g k,j)=none):
  (∀b,look (puts (renH (gI g) (toH hout)) H) b=look (toH (puts u h0)) b)∧∀x∈renH (gI g) (toH hout),x.1.1∈u.map (·.1):=by
 have hgI:∀a b:Id,gI g a=gI g b→a=b:=by
  rintro⟨a1,a2⟩ ⟨b1,b2⟩ he
  simp only[gI,Prod.mk.injEq] at he⊢
  exact⟨hg _ _ he.1,he.2⟩
 have hun:(u.map (·.1)).Nodup:=by
  rw[hr.keys]
  have:(fun p:Nat×VB=>g p.1)=g∘(fun x:Nat×VB=>x.1):=rfl
  rw[this,←List.map_map]
  exact mE hg hn
 obtain⟨q1,q2⟩:=qi hgI (toH hout)
 obtain⟨r1,r2⟩:=hr.look hg
 refine⟨fun b=>?_,fun x hx=>?_⟩
 ·rw[lw (yY hgI (pA hout)),ak,lw hun,hH]
  by_cases hex:∃k x,look hout k=some x∧g k=b.1
  ·obtain⟨k,x,hk,he⟩:=hex
   obtain⟨y,y1,y2⟩:=(r1 k).2 x hk
   have e1:b=gI g (k,b.2):=by simp[gI,he]
   rw[←he,y1,he]
   have e2:look (renH (gI g) (toH hout)) b=(x.blks[b.2]?).map (renB (gI g)):=by
    rw[e1,q1,ak,hk];rfl
   rw[e2]
   simp only[Option.bind_some,y2,List.getElem?_map]
   cases hx:x.blks[b.2]? with
   |some d=>rfl
   |none=>
    simp only[Option.map_none]
    have:=hc k x hk b.2 (by simpa using hx)
    rw[he] at this
    exact this
  ·have e1:look u b.1=none:=r2 b.1 fun k hk he=>hex (by
    cases hl:look hout k with
    |none=>exact absurd hl hk
    |some x=>exact⟨k,x,hl,he⟩)
   have e2:look (renH (gI g) (toH hout)) b=none:=q2 b fun c hcl he=>hex (by
    rw[ak] at hcl
    cases hl:look hout c.1 with
    |none=>rw[hl] at hcl;exact absurd rfl hcl
    |some x=>exact⟨c.1,x,hl,by rw[←he]⟩)
   rw[e1,e2]
   exact ak h0 b
 ·obtain⟨p,hp,rfl⟩:=List.mem_map.1 hx
  obtain⟨x,h1,_⟩:=xH hp
  obtain⟨y,h2,_⟩:=(r1 p.1.1).2 x h1
  exact List.mem_map.2 ⟨_,bT h2,rfl⟩
def IE (h:VH):List Nat→(VH→Prop)→Prop
 |[],K=>K []
 |b::l,K=>IE h l fun u=>(match aC h b with
  |some (.row _ t xs)=>K ((b,.froz t xs)::u)
  |some (.frow ..)=>False
  |some (.frowx ..)=>False
  |_=>K u)
def uW (h:VH):List Nat→VH
 |[]=>[]
 |b::l=>match aC h b with
  |some (.row _ t xs)=>(b,.froz t xs)::uW h l
  |_=>uW h l
theorem wK:∀{l:List Nat} {K:VH→Prop},IE h l K→K (uW h l)∧∀b∈l,¬Ix h b
 |[],K,hk=>⟨hk,by simp⟩
 |b::l,K,hk=>by
  obtain⟨this,h2⟩:=wK (l:=l) hk
  simp only[uW]
  have key:K (match aC h b with
   |some (.row _ t xs)=>(b,.froz t xs)::uW h l
   |_=>uW h l)∧¬Ix h b:=by
   cases hl:aC h b with
   |none=>
    rw[hl] at this
    rw[aD] at hl
    exact⟨this,fun hf=>by rcases hf with⟨E,t,xs,hf⟩|⟨E,t,xs,hf⟩<;>rw[hl] at hf<;>cases hf⟩
   |some x=>
    rw[hl] at this
    rw[aD] at hl
    have hx:(∀E t xs,x≠ .frow E t xs)→(∀E t xs,x≠ .frowx E t xs)→¬Ix h b:=fun h1 h2 hf=>by
     rcases hf with⟨E,t,xs,hf⟩|⟨E,t,xs,hf⟩<;>rw[hl] at hf<;>cases hf
     ·exact h1 _ _ _ rfl
     ·exact h2 _ _ _ rfl
    cases x<;>first|exact this.elim|exact⟨this,hx (fun _ _ _ he=>by cases he) (fun _ _ _ he=>by cases he)⟩
  exact⟨key.1,fun c hc=>(List.mem_cons.1 hc).elim (fun e=>e▸key.2) (h2 c)⟩
theorem lx:∀(ws:List Nat) (g:VH) (b:Nat),look (puts (uW h ws) g) b=if b∈ws then(match look h b with|some (.row _ t xs)=>some (.froz t xs)|_=>look g b) else look g b
 |[],g,b=>by simp[uW,puts]
 |c::ws,g,b=>by
  simp only[uW]
  rw[aD]
  split
  ·rename_i E t xs hc
   show look (puts (uW h ws) (put c (.froz t xs) g)) b=_
   rw[lx ws,ai]
   by_cases hb:b=c
   ·subst hb
    simp only[if_true,List.mem_cons,true_or,hc]
    split
    ·rfl
    ·rfl
   ·by_cases hm:b∈ws
    ·simp[hm,hb]
    ·simp[hm,hb]
  ·rename_i hc
   rw[lx ws]
   by_cases hb:b=c
   ·subst hb
    have:(match look h b with|some (VB.row _ t xs)=>some (VB.froz t xs)|_=>look g b)=look g b:=by
     split
     ·rename_i e;exact absurd e (hc _ _ _)
     ·rfl
    simp[this]
   ·simp[hb]
theorem Cw {ws:List Nat}(hw:∀b∈ws,Iw h b):bE h (frz (toH h) (ws.map fun b=>(b,0))) (uW h ws)∧∀b∈ws.map (fun b=>((b,0):Id)),∀x,look (toH h) b=some x→x.mutable=true→(frzB (toH h) b).isSome=true:=by
 have fz:∀b E t,∀xs:List (Ty.den t),look h b=some (.row E t xs)→t.pure=true→frzB (toH h) (b,0)=some (.froz (xs.map (ag t))):=by
  intro b E t xs hb hp
  have hl:=am (i:=0) hb (d:=.row E (xs.map (ag t))) rfl
  simp[frzB,hl,row_pure hp]
 refine⟨⟨fun b=>?_,fun x hx=>?_⟩,fun b hb x hx hmu=>?_⟩
 ·obtain⟨b1,b2⟩:=b
  rw[bZ,ak (puts (uW h ws) h),lx]
  by_cases hm:b1∈ws
  ·rw[if_pos hm]
   rcases hw b1 hm with⟨E,t,xs,hp,hb⟩|⟨t,xs,hb⟩|⟨t,x,hb⟩
   ·rw[hb]
    simp only[Option.bind_some,VB.blks]
    cases b2 with
    |zero=>
     rw[if_pos (List.mem_map.2 ⟨b1,hm,rfl⟩),fz b1 E t xs hb hp]
     rfl
    |succ j=>
     rw[if_neg (by simp)]
     exact BE hb rfl (j+1) (by simp)
   ·rw[hb]
    have e:frzB (toH h) (b1,b2)=none:=by
     unfold frzB
     rw[ak,hb]
     simp only[Option.bind_some,VB.blks]
     cases b2<;>simp
    rw[e]
    simp only[ite_self]
    rw[ak,hb]
   ·rw[hb]
    have e:frzB (toH h) (b1,b2)=none:=by
     unfold frzB
     rw[ak,hb]
     simp only[Option.bind_some,VB.blks]
     cases b2<;>simp
    rw[e]
    simp only[ite_self]
    rw[ak,hb]
  ·rw[if_neg (fun hmem=>by obtain⟨c,hc,he⟩:=List.mem_map.1 hmem;simp only[Prod.mk.injEq] at he;exact hm (he.1▸hc)),if_neg hm,ak]
 ·obtain⟨c,hc,hcx⟩:=List.mem_filterMap.1 hx
  obtain⟨y,hy,rfl⟩:=Option.map_eq_some_iff.1 hcx
  obtain⟨b,hb,rfl⟩:=List.mem_map.1 hc
  show b∈(uW h ws).map (·.1)
  rcases hw b hb with⟨E,t,xs,hp,hl⟩|⟨t,xs,hl⟩|⟨t,x,hl⟩
  ·have:look (puts (uW h ws) []) b=some (.froz t xs):=by rw[lx,if_pos hb,hl]
   rcases Classical.em (b∈(uW h ws).map (·.1)) with h1|h1
   ·exact h1
   ·rw[ax _ _ _ fun x hx e=>h1 (List.mem_map.2 ⟨x,hx,e⟩)] at this
    cases this
  ·exfalso
   have:=am (i:=0) hl (d:=.froz (xs.map (ag t))) rfl
   simp[frzB,this] at hy
  ·exfalso
   have:=am (i:=0) hl (d:=.fvar (ag t x).cells) rfl
   simp[frzB,this] at hy
 ·obtain⟨c,hc,rfl⟩:=List.mem_map.1 hb
  rcases hw c hc with⟨E,t,xs,hp,hl⟩|⟨t,xs,hl⟩|⟨t,x',hl⟩
  ·rw[fz c E t xs hl hp];rfl
  ·have:=am (i:=0) hl (d:=.froz (xs.map (ag t))) rfl
   rw[this] at hx;cases hx;cases hmu
  ·have:=am (i:=0) hl (d:=.fvar (ag t x').cells) rfl
   rw[this] at hx;cases hx;cases hmu
end Go.Proofs.YthmfppknagbkeaaGreatDoor.Am
namespace Go.Proofs.YthmfppknagbkeaaGreatDoor.Am
open Go Go.RowKit
variable {P:Program} {os fs:List Nat} {n:Nat} {h:VH}
def aF:VB→Nat
 | .fvar _ _ xs=>xs.length
 | .fvari _ _ _ xss=>xss.length
 | .frow _ _ xss=>xss.length
 | .frowx _ _ xss=>xss.length
 |_=>1
theorem jY (x:VB):x.blks.length=aF x:=by cases x<;>simp[VB.blks,aF]
def keysV:VH→List Nat
 |[]=>[]
 |(k,_)::l=>k::keysV l
theorem dz:∀l:VH,l.map (·.1)=keysV l
 |[]=>rfl
 |(k,x)::l=>by simp[keysV,dz l]
def vm (h:VH)(fs:List Nat):VH→Prop→Prop
 |[],K=>K
 |(k,x)::l,K=>match Nat.blt k 4 with
  |true=>Chk (!x.sgl) (match aC h k with
   |none=>vm h fs l K
   |some y=>Chk (fs.contains k && !y.sgl) (bk (aF y≤aF x) (vm h fs l K)))
  |false=>Chk x.sgl (vm h fs l K)
theorem w7 {K:Prop}:∀{l:VH},vm h fs l K→(∀k x,look l k=some x→(k<4∧∀y,look h k=some y→k∈fs∧aF y≤aF x)∨(4≤k∧x.sgl=true))∧K
 |[],hk=>⟨(fun k x hx=>by cases hx),hk⟩
 |(k0,x0)::l,hk=>by
  simp only[vm] at hk
  have key:((k0<4∧∀y,look h k0=some y→k0∈fs∧aF y≤aF x0)∨(4≤k0∧x0.sgl=true))∧vm h fs l K:=by
   split at hk
   ·rename_i hb
    have hlt:k0<4:=by simpa[Nat.blt_eq] using hb
    obtain⟨c,hk⟩:=hk.ok
    split at hk
    ·rename_i hn
     rw[aD] at hn
     exact⟨.inl ⟨hlt,fun y hy=>by rw[hn] at hy;cases hy⟩,hk⟩
    ·rename_i y hy
     rw[aD] at hy
     obtain⟨c2,hle,hk⟩:=hk.ok
     simp only[Bool.and_eq_true] at c2
     exact⟨.inl ⟨hlt,fun y' hy'=>by rw[hy] at hy';obtain rfl:=Option.some.inj hy';exact⟨by simpa using c2.1,hle⟩⟩,hk⟩
   ·rename_i hb
    obtain⟨c,hk⟩:=hk.ok
    have hge:4≤k0:=by
     rcases Nat.lt_or_ge k0 4 with hlt|hge
     ·have:Nat.blt k0 4=true:=by simpa[Nat.blt_eq] using hlt
      rw[hb] at this;cases this
     ·exact hge
    exact⟨.inr ⟨hge,c⟩,hk⟩
  obtain⟨k1,k2⟩:=key
  obtain⟨h1,h2⟩:=w7 k2
  refine⟨fun k x hx=>?_,h2⟩
  simp only[look] at hx
  split at hx
  ·rename_i e;cases hx;subst e;exact k1
  ·exact h1 k x hx
def Dy (hout:VH):List Nat→Nat→Bool
 |[],_=>true
 |_::l,i=>(aC hout i).isSome && Dy hout l (i+1)
theorem xw {hout:VH}:∀{l:List Nat} {i:Nat},Dy hout l i=true→∀m,m<l.length→∃x,look hout (i+m)=some x
 |[],i,_,m,hm=>by simp at hm
 |_::l,i,hb,m,hm=>by
  simp only[Dy,Bool.and_eq_true,aD] at hb
  cases m with
  |zero=>exact Option.isSome_iff_exists.1 hb.1
  |succ m=>
   have:=xw hb.2 m (by simpa using hm)
   rwa [show i+1+m=i+(m+1) by omega] at this
def xK (l:VH):Bool:=l.all fun p=>nO p.2
def pV (P:Program)(h:VH)(n:Nat)(f:FuncId)(vs:List V)(os fs:List Nat)(K:V→VH→List Nat→Prop):Prop:=
 Chk (yS os n && fs.all (fun k=>Nat.blt k 4)) (iY os fs h vs fun vs' ws=>Ao fs h fs fun hf=>Cc os fs h os 4 fun hs ws'=>CP hf hs fun hin=>b8 P f vs' hin fun r hout=>
  Chk (gD (keysV hout) && fs.all (fun k=>(aC hout k).isSome) && Dy hout os 4) (vm h fs hout (cS (gN os n) r fun r'=>Bs (gN os n) hout fun u=>
   match iK r && xK hout with
   |true=>K r' u ((ws++ws')++fs++keysV u)
   |false=>IE h (ws++ws') fun u0=>K r' (u0++u) ((ws++ws')++fs++keysV u))))
theorem zI {f:FuncId}{vs:List V}{K:V→VH→List Nat→Prop}(hfr:∀c:Id,n≤c.1→look (toH h) c=none)(hk:pV P h n f vs os fs K):
  ∃r u vu gl,(∀f':List Nat,(∀k∈gl,k∈f')→∃c:CallOK P f (toH h) n (ah vs) r.toD u f',∀b,Live c.hout b→(c.g b).1∈f')∧bE h u vu∧K r vu gl:=by
 obtain⟨c0,hk⟩:=hk.ok
 simp only[Bool.and_eq_true,List.all_eq_true] at c0
 obtain⟨c1,c2⟩:=c0
 have hlow:∀k∈fs,k<4:=fun k hk=>by simpa[Nat.blt_eq] using c2 k hk
 obtain⟨o1,o2,o3⟩:=xQ c1
 obtain⟨vs',ws,v1,v2,hk⟩:=fD (n:=n) hk
 obtain⟨hf,f1,f2,hk⟩:=tB hk
 obtain⟨hs,ws',s1,s2,s3,hk⟩:=uB (n:=n) hk
 have hk:=qM hk
 obtain⟨r,hout,hcon,hk⟩:=hk
 obtain⟨c3,hk⟩:=hk.ok
 simp only[Bool.and_eq_true,List.all_eq_true] at c3
 obtain⟨⟨c3,c4⟩,c5⟩:=c3
 obtain⟨cov,hk⟩:=w7 hk
 obtain⟨r',r1,hk⟩:=sk hk
 obtain⟨u,hr,hk⟩:=ug hk
 have hg:∀a b,gN os n a=gN os n b→a=b:=fun a b=>AD c1
 have hgI:∀a b:Id,gI (gN os n) a=gI (gN os n) b→a=b:=fun a b=>AC c1
 have hin_look:∀k x,look (hf++hs) k=some x→(k∈fs∧look hf k=some x)∨(∃m b,k=4+m∧os[m]?=some b∧look hs k=some x):=by
  intro k x hx
  rw[fb] at hx
  cases hl:look hf k with
  |some y=>
   rw[hl] at hx
   obtain rfl:=Option.some.inj hx
   exact .inl ⟨(f1 k _ hl).1,rfl⟩
  |none=>
   rw[hl] at hx
   obtain⟨m,rfl,hm⟩:=s1 k x hx
   exact .inr ⟨m,os[m],rfl,List.getElem?_eq_getElem hm,hx⟩
 have hf_none:∀m,look hf (4+m)=none:=by
  intro m
  cases hl:look hf (4+m) with
  |none=>rfl
  |some y=>have:=hlow _ (f1 _ _ hl).1;omega
 have hin_sgl:∀m b,os[m]?=some b→∃x x',look h b=some x∧look (hf++hs) (4+m)=some x'∧IF os fs n h ws' x x':=by
  intro m b hb
  obtain⟨x,x',q1,q2,q3⟩:=s2 m b hb
  exact⟨x,x',q1,by rw[fb,hf_none];exact q2,q3⟩
 have hin_fam:∀k∈fs,∃x,look (hf++hs) k=some x∧look h k=some x∧x.sgl=false∧∀j∈x.fams,j∈fs:=by
  intro k hk
  obtain⟨x,hx⟩:=f2 k hk
  obtain⟨_,q2,q3,q4⟩:=f1 k x hx
  exact⟨x,by rw[fb,hx],q2,q3,q4⟩
 have H:HinOK os fs h (toH (hf++hs)):=by
  refine⟨hlow,fun m b hb=>?_,fun k hk i hl=>?_⟩
  ·obtain⟨x,x',q1,q2,d,d',e1,e2,e3⟩:=hin_sgl m b hb
   exact Live.of_look (am q2 (by rw[e2];rfl))
  ·obtain⟨x,q1,q2,q3,q4⟩:=hin_fam k hk
   unfold Live at hl⊢
   rw[ak,q2] at hl
   rw[ak,q1]
   exact hl
 have live_in:∀b,Live (toH (hf++hs)) b→(b.1∈fs∧∃x,look h b.1=some x∧look (hf++hs) b.1=some x∧b.2<x.blks.length)∨∃m c,b=(4+m,0)∧os[m]?=some c:=by
  intro b hb
  unfold Live at hb
  rw[ak] at hb
  cases hl:look (hf++hs) b.1 with
  |none=>rw[hl] at hb;cases hb
  |some x=>
   rw[hl] at hb
   simp only[Option.bind_some] at hb
   rcases hin_look _ _ hl with⟨g1,g2⟩|⟨m,c,e,g1,g2⟩
   ·obtain⟨_,q2,q3,q4⟩:=f1 _ _ g2
    refine .inl ⟨g1,x,q2,rfl,?_⟩
    rcases Nat.lt_or_ge b.2 x.blks.length with hlt|hge
    ·exact hlt
    ·rw[List.getElem?_eq_none hge] at hb;cases hb
   ·obtain⟨y,y',q1,q2,d,d',e1,e2,_⟩:=hin_sgl m c g1
    rw[e,q2] at hl
    obtain rfl:=Option.some.inj hl
    rw[e2] at hb
    refine .inr ⟨m,c,?_,g1⟩
    obtain⟨b1,b2⟩:=b
    simp only at e hb⊢
    cases b2 with
    |zero=>rw[e]
    |succ j=>simp at hb
 have hcov:∀k x,look hout k=some x→∀j,x.blks.length≤j→look (toH h) (gN os n k,j)=none:=by
  intro k x hx j hj
  rcases nC os n k with⟨a1,a2⟩|⟨m,b,rfl,a1,a2⟩|⟨m,rfl,a1,a2⟩<;>rw[a2]
  ·rcases cov k x hx with⟨_,q⟩|⟨q,_⟩
   ·rw[ak]
    cases hl:look h k with
    |none=>rfl
    |some y=>
     simp only[Option.bind_some]
     rw[List.getElem?_eq_none]
     have:=(q y hl).2
     rw[←jY,←jY] at this
     omega
   ·omega
  ·rcases cov _ x hx with⟨q,_⟩|⟨_,q⟩
   ·omega
   ·obtain⟨d,hd⟩:=VB.sgl_ok q
    rw[hd] at hj
    simp only[List.length_singleton] at hj
    obtain⟨y,y',q1,q2,e,e',e1,e2,_⟩:=hin_sgl m b a1
    rw[ak,q1]
    simp only[Option.bind_some,e1]
    rw[List.getElem?_eq_none]
    simpa using hj
  ·exact hfr _ (by show n≤n+_;omega)
 have hW:∀b∈ws++ws',uX h os fs b:=fun b hb=>(List.mem_append.1 hb).elim (v2 b) (s3 b)
 have hkeys:=pA hout
 have hnd:(hout.map (·.1)).Nodup:=by rw[dz];exact fA c3
 have hukeys:∀b,Live (toH hout) b→(gI (gN os n) b).1∈keysV u:=by
  intro b hb
  unfold Live at hb
  rw[ak] at hb
  cases hl:look hout b.1 with
  |none=>rw[hl] at hb;cases hb
  |some x=>
   obtain⟨y,y1,_⟩:=((hr.look hg).1 b.1).2 x hl
   rw[←dz]
   exact List.mem_map.2 ⟨_,bT y1,rfl⟩
 have mk:∀(uu:HL) (W:List Id),Iu h (ws++ws') W→(∀b∈W,b.1∈ws++ws')→((noMem r.toD=true∧(∀p∈toH hout,noMemB p.2=true)∧uu=renH (gI (gN os n)) (toH hout))∨((∀b∈W,∀x,look (toH h) b=some x→x.mutable=true→(frzB (toH h) b).isSome=true)∧uu=frz (toH h) W++renH (gI (gN os n)) (toH hout)))→
   ∀f':List Nat,(∀k∈(ws++ws')++fs++keysV u,k∈f')→∃c:CallOK P f (toH h) n (ah vs) r'.toD uu f',∀b,Live c.hout b→(c.g b).1∈f':=by
  intro uu W hcW hWs hupd f' hf'
  refine⟨⟨gI (gN os n),W,fs,ah vs',toH (hf++hs),r.toD,toH hout,hcon,v1.1,?_,?_,hkeys,fun b b' _ _ he=>hgI b b' he,?_,?_,?_,⟨?_,?_,?_⟩,r1.symm,hupd⟩,?_⟩
  ·exact v1.2 _ H _ fun b hb=>hcW b (List.mem_append_left _ hb)
  ·intro b x' hx
   have hlv:Live (toH (hf++hs)) b:=Live.of_look hx
   rcases live_in b hlv with⟨g1,x,g2,g3,g4⟩|⟨m,c,rfl,g1⟩
   ·rw[ak,g3] at hx
    refine⟨x',by simp only[gI,mo os n (hlow _ g1)];rw[ak,g2];exact hx,?_⟩
    obtain⟨y,y1,y2,y3,y4⟩:=hin_fam _ g1
    rw[g2] at y2
    obtain rfl:=Option.some.inj y2
    exact Cy H y3 y4 x' (List.mem_of_getElem? hx)
   ·obtain⟨y,y',q1,q2,d,d',e1,e2,e3⟩:=hin_sgl m c g1
    rw[ak,q2] at hx
    simp only[Option.bind_some,e2,List.getElem?_cons_zero,Option.some.injEq] at hx
    subst hx
    refine⟨d,?_,e3 _ H _ fun b hb=>hcW b (List.mem_append_right _ hb)⟩
    simp only[gI,eV,db g1]
    exact am q1 (by rw[e1];rfl)
  ·intro b hb
   rcases live_in b hb with⟨g1,x,g2,g3,g4⟩|⟨m,c,rfl,g1⟩
   ·have hl:=c4 _ g1
    rw[aD] at hl
    obtain⟨y,hy⟩:=Option.isSome_iff_exists.1 hl
    rcases cov _ _ hy with⟨_,q⟩|⟨q,_⟩
    ·have:=(q x g2).2
     rw[←jY,←jY] at this
     unfold Live
     rw[ak,hy]
     simp only[Option.bind_some]
     rw[List.getElem?_eq_getElem (by omega)]
     rfl
    ·have:=hlow _ g1;omega
   ·obtain⟨y,hy⟩:=xw c5 m (List.getElem?_eq_some_iff.1 g1).1
    rcases cov _ _ hy with⟨q,_⟩|⟨_,q⟩
    ·omega
    ·obtain⟨d,hd⟩:=VB.sgl_ok q
     exact Live.of_look (am hy (by rw[hd];rfl))
  ·intro b hb hnb
   have hb':=hb
   unfold Live at hb
   rw[ak] at hb
   cases hl:look hout b.1 with
   |none=>rw[hl] at hb;cases hb
   |some x=>
    rw[hl] at hb
    rcases nC os n b.1 with⟨a1,a2⟩|⟨m,c,e,a1,a2⟩|⟨m,e,a1,a2⟩<;>simp only[gI]<;>rw[a2]
    ·cases hh:look h b.1 with
     |none=>rw[ak,hh];rfl
     |some y=>
      rcases cov _ _ hl with⟨_,q⟩|⟨q,_⟩
      ·obtain⟨g1,_⟩:=q y hh
       obtain⟨z,z1,z2,_⟩:=hin_fam _ g1
       rw[hh] at z2
       obtain rfl:=Option.some.inj z2
       unfold Live at hnb
       rw[ak,z1] at hnb
       rw[ak,hh]
       simpa using hnb
      ·omega
    ·exfalso
     rcases cov _ _ hl with⟨q,_⟩|⟨_,q⟩
     ·omega
     ·obtain⟨d,hd⟩:=VB.sgl_ok q
      simp only[Option.bind_some,hd] at hb
      obtain⟨b1,b2⟩:=b
      simp only at e hb hnb
      cases b2 with
      |zero=>exact hnb (by rw[e];exact H.sgl m c a1)
      |succ j=>simp at hb
    ·exact hfr _ (by show n≤n+_;omega)
  ·intro b hb b' hb' he
   obtain⟨q1,q2⟩:=hW _ (hWs b hb)
   obtain⟨c,i⟩:=b
   rcases live_in b' hb' with⟨g1,x,g2,g3,g4⟩|⟨m,c',rfl,g1⟩
   ·simp only[gI,mo os n (hlow _ g1),Prod.mk.injEq] at he
    obtain⟨y,y1,y2,y3,_⟩:=hin_fam _ g1
    rw[he.1] at y2
    rcases q2 with(⟨E,t,xs,_,hb⟩|⟨t,xs,hb⟩|⟨t,x,hb⟩)|⟨q2,_⟩
    ·rw[y2] at hb;cases hb;cases y3
    ·rw[y2] at hb;cases hb;cases y3
    ·rw[y2] at hb;cases hb;cases y3
    ·exact q2 (he.1▸g1)
   ·simp only[gI,eV,db g1,Prod.mk.injEq] at he
    obtain⟨he,_⟩:=he
    subst he
    exact q1 (List.mem_of_getElem? g1)
  ·exact fun b hb=>.inl (hf' _ (List.mem_append_right _ (hukeys b hb)))
  ·exact fun b hb=>hf' _ (List.mem_append_left _ (List.mem_append_left _ (hWs b hb)))
  ·exact fun k hk=>hf' _ (List.mem_append_left _ (List.mem_append_right _ hk))
  ·exact fun b hb=>hf' _ (List.mem_append_right _ (hukeys b hb))
 split at hk
 ·rename_i hm
  simp only[Bool.and_eq_true,xK,List.all_eq_true] at hm
  refine⟨r',_,u,_,mk _ (((toH h).map (·.1)).filter fun b=>decide (b.1∈ws++ws')) (fun b hb i hl=>?_) (fun b hb=>by simpa using(List.mem_filter.1 hb).2) (.inl ⟨mD r hm.1,fun p hp=>?_,rfl⟩),yg hg (fun _=>rfl) hr hnd hcov,hk⟩
  ·refine List.mem_filter.2 ⟨?_,by simpa using hb⟩
   obtain⟨d,hd⟩:=Option.isSome_iff_exists.1 hl
   exact List.mem_map.2 ⟨_,bT hd,rfl⟩
  obtain⟨x,x1,x2⟩:=xH hp
  exact wa (hm.2 _ (bT x1)) _ x2
 ·obtain⟨hk,hnf⟩:=wK hk
  have hW1:∀b∈ws++ws',Iw h b:=fun b hb=>(hW b hb).2.elim id fun q=>(hnf b hb q.2).elim
  obtain⟨w1,w2⟩:=Cw hW1
  refine⟨r',_,_,_,mk _ ((ws++ws').map fun b=>(b,0)) (fun b hb i hl=>?_) (fun b hb=>by obtain⟨c,hc,rfl⟩:=List.mem_map.1 hb;exact hc) (.inr ⟨w2,rfl⟩),?_,hk⟩
  ·have h0:i=0:=by
    unfold Live at hl
    cases i with
    |zero=>rfl
    |succ j=>
     rcases hW1 b hb with⟨E,t,xs,_,hx⟩|⟨t,xs,hx⟩|⟨t,x,hx⟩<;>rw[BE hx rfl (j+1) (by simp)] at hl<;>cases hl
   subst h0
   exact List.mem_map.2 ⟨b,hb,rfl⟩
  have hcov':∀k x,look hout k=some x→∀j,x.blks.length≤j→look (toH (puts (uW h (ws++ws')) h)) (gN os n k,j)=none:=by
   intro k x hx j hj
   have h1:=hcov k x hx j hj
   rw[←w1.1,bZ]
   split
   ·rename_i y hy
    exfalso
    split at hy
    ·obtain⟨⟨z,z1,_⟩,_⟩:=ia hy
     rw[h1] at z1;cases z1
    ·cases hy
   ·exact h1
  obtain⟨q1,q2⟩:=yg hg w1.1 hr hnd hcov'
  refine⟨fun b=>?_,fun x hx=>?_⟩
  ·rw[aN,aN];exact q1 b
  ·rw[List.map_append]
   rcases List.mem_append.1 hx with hx|hx
   ·exact List.mem_append_left _ (w1.2 x hx)
   ·exact List.mem_append_right _ (q2 x hx)
end Go.Proofs.YthmfppknagbkeaaGreatDoor.Am
namespace Go.Proofs.YthmfppknagbkeaaGreatDoor.Am
open Go Go.RowKit
variable {P:Program} {N:Nat} {Θ:TT} {t:VT} {h:VH} {n:Nat}
mutual
theorem rD (g:HL):∀(d:D),∀b∈aj (fwd g d),b∈aj d∨∃c∈aj d,look g c=some (.moved b)
 | .ref c,b,hb=>by
  simp only[fwd] at hb
  split at hb
  ·rename_i c' hc
   simp only[aj,List.mem_singleton] at hb
   subst hb
   exact .inr ⟨c,by simp[aj],hc⟩
  ·cases hb
  ·exact .inl hb
 | .ptr c o,b,hb=>by
  simp only[fwd] at hb
  split at hb
  ·rename_i c' hc
   simp only[aj,List.mem_singleton] at hb
   subst hb
   exact .inr ⟨c,by simp[aj],hc⟩
  ·split at hb<;>cases hb
  ·exact .inl hb
 | .eptr c i o,b,hb=>by
  simp only[fwd] at hb
  split at hb
  ·rename_i c' hc
   simp only[aj,List.mem_singleton] at hb
   subst hb
   exact .inr ⟨c,by simp[aj],hc⟩
  ·exact .inl hb
 | .vref c o q,b,hb=>by
  simp only[fwd] at hb
  split at hb
  ·rename_i c' hc
   simp only[aj,List.mem_singleton] at hb
   subst hb
   exact .inr ⟨c,by simp[aj],hc⟩
  ·exact .inl hb
 | .ifc T d,b,hb=>by
  simp only[fwd,aj] at hb
  rcases rD g d b hb with h1|⟨c,h1,h2⟩
  ·exact .inl (by simpa only[aj] using h1)
  ·exact .inr ⟨c,by simpa only[aj] using h1,h2⟩
 | .clo f cs,b,hb=>by
  simp only[fwd,aj] at hb
  rcases lj g cs b hb with h1|⟨c,h1,h2⟩
  ·exact .inl (by simpa only[aj] using h1)
  ·exact .inr ⟨c,by simpa only[aj] using h1,h2⟩
 | .agg cs,b,hb=>by
  simp only[fwd,aj] at hb
  rcases lj g cs b hb with h1|⟨c,h1,h2⟩
  ·exact .inl (by simpa only[aj] using h1)
  ·exact .inr ⟨c,by simpa only[aj] using h1,h2⟩
 | .tup cs,b,hb=>by
  simp only[fwd,aj] at hb
  rcases lj g cs b hb with h1|⟨c,h1,h2⟩
  ·exact .inl (by simpa only[aj] using h1)
  ·exact .inr ⟨c,by simpa only[aj] using h1,h2⟩
 | .int ..,b,hb| .bool _,b,hb| .str _,b,hb| .lst _,b,hb| .box _,b,hb| .nilp,b,hb| .nils,b,hb| .nilf,b,hb| .nili,b,hb| .gp _,b,hb| .gv _,b,hb| .iptr ..,b,hb| .undef,b,hb| .junk,b,hb=>by simp[fwd,aj] at hb
theorem lj (g:HL):∀(l:List D),∀b∈aO (iI g l),b∈aO l∨∃c∈aO l,look g c=some (.moved b)
 |[],b,hb=>by simp[iI,aO] at hb
 |d::l,b,hb=>by
  simp only[iI,aO,List.mem_append] at hb⊢
  rcases hb with hb|hb
  ·rcases rD g d b hb with h1|⟨c,h1,h2⟩
   ·exact .inl (.inl h1)
   ·exact .inr ⟨c,.inl h1,h2⟩
  ·rcases lj g l b hb with h1|⟨c,h1,h2⟩
   ·exact .inl (.inr h1)
   ·exact .inr ⟨c,.inr h1,h2⟩
end
def Bp (h:VH):List Nat→List Nat
 |[]=>[]
 |b::l=>match aC h b with
  |some (.moved k _)=>k::Bp h l
  |_=>Bp h l
theorem xI:∀{l:List Nat} {b k i:Nat},b∈l→look h b=some (.moved k i)→k∈Bp h l
 |c::l,b,k,i,hb,hl=>by
  simp only[Bp]
  rcases List.mem_cons.1 hb with rfl|hb
  ·rw[aD,hl];simp
  ·have:=xI hb hl
   split
   ·exact List.mem_cons_of_mem _ this
   ·exact this
theorem Bq {c b:Id}(hc:look (toH h) c=some (.moved b)):look h c.1=some (.moved b.1 b.2):=by
 rw[ak] at hc
 obtain⟨x,h1,h2⟩:=Option.bind_eq_some_iff.1 hc
 rw[h1]
 have hm:=List.mem_of_getElem? h2
 cases x<;>simp only[VB.blks,List.mem_singleton,List.mem_map,reduceCtorEq,and_false,exists_false,Blk.moved.injEq] at hm
 case frowx=>
  obtain⟨y,_,e⟩:=hm
  cases y<;>cases e
 rw[hm]
def B9 (t:VT)(h:VH)(x:Operand):List Nat:=match x with
 | .tmp k=>(match aC t k with|some v=>ex v++Bp h (ex v)|none=>[])
 |_=>[]
def cw (t:VT)(h:VH):List Operand→List Nat
 |[]=>[]
 |x::l=>B9 t h x++cw t h l
theorem wc {v:Value}{d:D}(h:gh v=some d)(g:HL):aj d=[]∧aj (fwd g d)=[]:=by
 unfold gh at h
 split at h<;>first|(simp only[Option.some.injEq] at h;subst h;exact⟨by simp[aj],by simp[fwd,aj]⟩)|cases h
theorem Ca (x:Operand):∀k∈lK (eq t) (toH h) x,k∈B9 t h x:=by
 intro k hk
 unfold lK at hk
 cases x with
 |tmp j=>
  simp only[aA,bU] at hk
  simp only[B9,aD]
  cases hl:look t j with
  |none=>rw[hl] at hk;cases hk
  |some v=>
   rw[hl] at hk
   simp only[Option.map_some] at hk
   rcases List.mem_append.1 hk with hk|hk
   ·obtain⟨b,hb,rfl⟩:=List.mem_map.1 hk
    exact List.mem_append_left _ (ic v b hb)
   ·obtain⟨b,hb,rfl⟩:=List.mem_map.1 hk
    rcases rD _ _ b hb with h1|⟨c,h1,h2⟩
    ·exact List.mem_append_left _ (ic v b h1)
    ·exact List.mem_append_right _ (xI (ic v c h1) (Bq h2))
 |const v=>
  simp only[aA] at hk
  cases hv:gh v with
  |none=>rw[hv] at hk;cases hk
  |some d=>
   rw[hv] at hk
   obtain⟨e1,e2⟩:=wc hv (toH h)
   simp[e1,e2,j4] at hk
 |global g=>
  simp only[aA] at hk
  by_cases hg:(look Gl g).isSome=true
  ·rw[if_pos hg] at hk
   simp[aj,fwd,j4] at hk
  ·rw[if_neg hg] at hk
   simp at hk
 |_=>simp[aA] at hk
theorem pj:∀(l:List Operand),∀k∈qy (eq t) (toH h) l,k∈cw t h l
 |[],k,hk=>by cases hk
 |x::l,k,hk=>by
  simp only[qy,List.flatMap_cons,List.mem_append] at hk
  simp only[cw,List.mem_append]
  rcases hk with hk|hk
  ·exact .inl (Ca x k hk)
  ·exact .inr (pj l k hk)
def ng (t:VT)(h:VH)(op:Op):List Nat:=match i9 op with|true=>cw t h op.operands.toList|false=>[]
theorem x9 (op:Op):∀k∈wr (eq t) (toH h) op,k∈ng t h op:=by
 intro k hk
 unfold wr at hk
 unfold ng
 cases hl:i9 op with
 |false=>rw[hl] at hk;cases hk
 |true=>rw[hl] at hk;exact pj _ k hk
def StepOK (P:Program)(N:Nat)(o:Oper)(t:VT)(h:VH)(r:V)(vu:VH)(gl:List Nat):Prop:=∃u,bE h u vu∧∀f:List Nat,(∀k∈gl,k∈f)→OpS P N o (eq t) (toH h) r.toD u f
theorem Ax (g:HL):∃n:Nat,look g (n,0)=none:=by
 have key:∀(l:HL),∃m,∀p∈l,p.1.1<m:=by
  intro l
  induction l with
  |nil=>exact⟨0,by simp⟩
  |cons p l ih=>
   obtain⟨m,hm⟩:=ih
   refine⟨max m (p.1.1+1),fun q hq=>?_⟩
   rcases List.mem_cons.1 hq with rfl|hq
   ·omega
   ·have:=hm q hq;omega
 obtain⟨m,hm⟩:=key g
 refine⟨m,?_⟩
 cases hl:look g (m,0) with
 |none=>rfl
 |some x=>have:=hm _ (bT hl);simp only at this;omega
theorem BF {t:List (Nat×D)}{h:HL}{m:Bool}{o:Oper}{d:D}{u:HL}{f:List Nat}(hd:∀n,cq P m o.op t h n=some (d,u))(hf:∀k∈wr t h o.op,k∈f):OpS P N o t h d u f:=by
 intro t' h' ht ha w0 S A ρ a w s
 obtain⟨n,hn⟩:=Ax h'
 refine s.op (m:=m) (n:=n) ?_ hn
 rw[←E6 (t:=t') (h:=h) (fs:=f) ?_ ha,←E7 ht]
 ·exact hd n
 ·have:wr t' h o.op=wr t h o.op:=by
   unfold wr
   cases hl:i9 o.op with
   |false=>rfl
   |true=>
    simp only[cond_true,qy]
    have hx:∀x∈o.op.operands.toList,lK t' h x=lK t h x:=fun x hx=>by unfold lK;rw[ht x (Array.mem_toList_iff.1 hx)]
    generalize o.op.operands.toList=l at hx
    induction l with
    |nil=>rfl
    |cons x l ih=>rw[List.flatMap_cons,List.flatMap_cons,hx x (List.mem_cons_self ..),ih fun y hy=>hx y (List.mem_cons_of_mem _ hy)]
  rw[this]
  exact hf
theorem Fo {m:Bool}{o:Oper}{r:V}{u:HL}{vu:VH}(hd:∀n,cq P m o.op (eq t) (toH h) n=some (r.toD,u))(hu:bE h u vu):StepOK P N o t h r vu (ng t h o.op):=
 ⟨u,hu,fun f hf=>BF hd fun k hk=>hf k (x9 _ k hk)⟩
theorem Fp {m:Bool}{o:Oper}{r:V}{u:HL}{vu:VH}(hn:∀c:Id,n≤c.1→look (toH h) c=none)(hd:cq P m o.op (eq t) (toH h) n=some (r.toD,u))(hu:bE h u vu):StepOK P N o t h r vu (n::ng t h o.op):=
 ⟨u,hu,fun f hf=>D7 (hn (n,0) (Nat.le_refl _)) hd (fun k hk=>hf k (List.mem_cons_of_mem _ (x9 _ k hk))) (hf n (List.mem_cons_self ..))⟩
theorem uF {o:Oper}{r:V}{u1:HL}{v1 v2:VH}{g1 g2:List Nat}(hp:∀f:List Nat,(∀k∈g1,k∈f)→dS P N h u1 v1 f)(hs:StepOK P N o t (puts v1 h) r v2 g2):StepOK P N o t h r (v1++v2) (g1++g2):=by
 obtain⟨u,h1,h2⟩:=hs
 have p0:=hp g1 fun k hk=>hk
 refine⟨u1++u,n3 p0.1 h1,fun f hf=>(hp f fun k hk=>hf k (List.mem_append_left _ hk)).2 _ _ _ _ (mF (fun b=>(p0.1.1 b).symm) (h2 f fun k hk=>hf k (List.mem_append_right _ hk)))⟩
theorem dZ {o:Oper}{r:V}{vu:VH}{g g':List Nat}(hs:StepOK P N o t h r vu g)(hg:∀k∈g,k∈g'):StepOK P N o t h r vu g':=by
 obtain⟨u,h1,h2⟩:=hs
 exact⟨u,h1,fun f hf=>h2 f fun k hk=>hf k (hg k hk)⟩
theorem mS {o:Oper}{f:FuncId}{vs:List V}{os fs:List Nat}{K:V→VH→List Nat→Prop}(hn:∀c:Id,n≤c.1→look (toH h) c=none)(hc:oq P (eq t) (toH h) o f (ah vs))(hk:pV P h n f vs os fs K):
  ∃r vu gl,StepOK P N o t h r vu (cw t h o.op.operands.toList++gl)∧K r vu gl:=by
 obtain⟨r,u,vu,gl,h1,h2,h3⟩:=zI hn hk
 refine⟨r,vu,gl,⟨u,h2,fun f' hf'=>?_⟩,h3⟩
 obtain⟨c,hc'⟩:=h1 f' fun k hk=>hf' k (List.mem_append_right _ hk)
 exact BG hn hc c (fun k hk=>hf' k (List.mem_append_left _ (pj _ k hk))) hc'
end Go.Proofs.YthmfppknagbkeaaGreatDoor.Am
namespace Go.Proofs.YthmfppknagbkeaaGreatDoor.Am
open Go Go.RowKit
variable {P:Program} {N:Nat} {Θ:TT} {t:VT} {h:VH} {n:Nat}
mutual
def HX (own:Bool)(h:VH):V→List Nat
 | .ref b=>(match aC h b with
  |some (.row _ t _)=>bif own|| !t.pure then[b] else[]
  |some (.lit ..)=>[b]
  |_=>[])
 | .ptr b _=>(match aC h b with
  |some (.fvb ..)=>[]
  |_=>[b])
 | .agg cs=>ln own h cs
 | .tup cs=>ln own h cs
 | .clo _ cs=>ln own h cs
 | .ifc _ v=>HX own h v
 |v=>AL v
def ln (own:Bool)(h:VH):List V→List Nat
 |[]=>[]
 |v::l=>HX own h v++ln own h l
end
def IV (own:Bool)(h:VH):VB→List Nat
 | .var _ cs=>ln own h cs
 | .vari _ pre _ t _ post=>ln own h pre++t.fams++ln own h post
 | .lit _ vs=>ln own h vs
 |x=>x.fams
def Fz (l:List Nat)(b:Nat):List Nat:=match l.contains b with|true=>l|false=>l++[b]
def e9:List Nat→List Nat→List Nat
 |l,[]=>l
 |l,b::bs=>e9 (Fz l b) bs
def nE (own:Bool)(h:VH):Nat→Nat→List Nat→(List Nat→Prop)→Prop
 |0,_,l,K=>K l
 |k+1,i,l,K=>match l[i]? with
  |none=>K l
  |some b=>eA (e9 l (match aC h b with|some x=>IV own h x|none=>[])) fun l=>nE own h k (i+1) l K
theorem oL {own:Bool}:∀{k i:Nat} {l:List Nat} {K:List Nat→Prop},nE own h k i l K→∃l,K l
 |0,_,l,_,hk=>⟨l,hk⟩
 |k+1,i,l,K,hk=>by
  simp only[nE] at hk
  split at hk
  ·exact⟨_,hk⟩
  ·have hk:=bw hk
   exact oL hk
def DA (own:Bool)(h:VH)(vs:List V)(K:List Nat→List Nat→Prop):Prop:=
 eA (e9 [] (ln own h vs)) fun l=>nE own h 60 0 l fun l=>eA (l.filter fun b=>Nat.ble 4 b) fun os=>eA (l.filter fun b=>Nat.blt b 4) fun fs=>K os fs
theorem rJ {own:Bool}{vs:List V}{K:List Nat→List Nat→Prop}(hk:DA own h vs K):∃os fs,K os fs:=by
 have hk:=bw hk
 obtain⟨l,hk⟩:=oL hk
 have hk:=bw hk
 have hk:=bw hk
 exact⟨_,_,hk⟩
def br (P:Program)(h:VH)(n:Nat)(f:FuncId)(vs:List V)(K:V→VH→List Nat→Prop):Prop:=∃os fs,pV P h n f vs os fs K
theorem bl {f:FuncId}{vs:List V}{K:V→VH→List Nat→Prop}(hk:DA false h vs fun os fs=>pV P h n f vs os fs K):br P h n f vs K:=rJ hk
theorem FE {f:FuncId}{vs:List V}{K:V→VH→List Nat→Prop}(hk:DA true h vs fun os fs=>pV P h n f vs os fs K):br P h n f vs K:=rJ hk
def Ij (h:VH)(k:Nat):Bool:=match aC h k with
 |some (.frow _ t _)=>t.pure
 |some (.frowx _ t _)=>t.pure
 |_=>false
theorem iD {f:FuncId}{vs:List V}{K:V→VH→List Nat→Prop}(hk:DA false h vs fun os fs=>eA (fs.filter fun k=>!Ij h k) fun fs=>pV P h n f vs os fs K):br P h n f vs K:=by
 obtain⟨os,fs,hk⟩:=rJ hk
 exact⟨_,_,bw hk⟩
def mi (Θ:TT)(b:Builtin)(vs:List V)(Ts:List TypeId)(h:VH)(K:V→VH→Prop):Prop:=
 match b,vs,Ts with
 | .len,[v],[T]=>aQ Θ T fun ti=>GG ti h v fun r=>K r []
 | .copy,[d,e],[T,_]=>aQ Θ T fun ti=>zT Θ ti h d e K
 | .min,[.int k x,.int k' y],_=>Chk (decide (k=k')) (K (.int k (if y<x then y else x)) [])
 | .max,[.int k x,.int k' y],_=>Chk (decide (k=k')) (K (.int k (if x<y then y else x)) [])
 |_,_,_=>False
theorem qT (hΘ:Θ.ok P){b:Builtin}{vs:List V}{Ts:List TypeId}{m:Bool}{K:V→VH→Prop}(hk:mi Θ b vs Ts h K):∃r u vu,(∀n,cV P m b (ah vs) Ts (toH h) n=some (r.toD,u))∧bE h u vu∧K r vu:=by
 unfold mi at hk
 split at hk
 ·obtain⟨ti,l1,hk⟩:=aq hk
  obtain⟨r,h1,h2⟩:=DX (hΘ _ _ l1) hk
  exact⟨r,[],[],fun n=>by simp only[cV,ah,h1,Option.map_some],aB,h2⟩
 ·obtain⟨ti,l1,hk⟩:=aq hk
  obtain⟨r,u,vu,h1,h2,h3⟩:=zU hΘ (hΘ _ _ l1) hk
  exact⟨r,u,vu,fun n=>by simp only[cV,ah,h1],h2,h3⟩
 ·obtain⟨c,hk⟩:=hk.ok
  simp only[decide_eq_true_eq] at c
  exact⟨_,[],[],fun n=>by simp only[cV,ah,V.toD,if_pos c],aB,hk⟩
 ·obtain⟨c,hk⟩:=hk.ok
  simp only[decide_eq_true_eq] at c
  exact⟨_,[],[],fun n=>by simp only[cV,ah,V.toD,if_pos c],aB,hk⟩
 ·exact hk.elim
def Aq (h:VH)(τ:Ty):List V→(VH→VH→List Nat→Prop)→Prop
 |[],K=>K h [] []
 |v::l,K=>xn h τ.shs v.cells fun h1 vu g=>Aq h1 τ l fun h2 vu2 g2=>K h2 (vu++vu2) (g++g2)
theorem tE {τ:Ty}:∀{l:List V} {h:VH} {K:VH→VH→List Nat→Prop},Aq h τ l K→∃u vu g,(∀f:List Nat,(∀k∈g,k∈f)→dS P N h u vu f)∧K (puts vu h) vu g
 |[],h,K,hk=>⟨[],[],[],fun f _=>eh,hk⟩
 |v::l,h,K,hk=>by
  obtain⟨u1,v1,g1,p1,hk⟩:=oE (P:=P) (N:=N) hk
  obtain⟨u2,v2,g2,p2,hk⟩:=tE hk
  refine⟨u1++u2,v1++v2,g1++g2,fun f hf=>iP (p1 f fun k hk=>hf k (List.mem_append_left _ hk)) (p2 f fun k hk=>hf k (List.mem_append_right _ hk)),?_⟩
  rw[aN]
  exact hk
def zZ (t:Ty):List V→Option (List t.den)
 |[]=>some []
 |v::l=>match Hw t (pH.nzL v),zZ t l with
  |some x,some xs=>some (x::xs)
  |_,_=>none
theorem w8 {t:Ty}:∀{l:List V} {xs:List t.den},zZ t l=some xs→(ah l).map nzE=xs.map (ag t)
 |[],xs,h=>by simp only[zZ,Option.some.injEq] at h;subst h;rfl
 |v::l,xs,h=>by
  simp only[zZ] at h
  split at h
  ·rename_i x xs' h1 h2
   simp only[Option.some.injEq] at h
   subst h
   simp only[ah,List.map_cons,w8 h2]
   rw[←q9 h1,rZ]
  ·cases h
def wE (h:VH)(b:Nat)(τ:Ty)(K:VH→VH→List Nat→Prop):Prop:=
 match aC h b with
 |some (.lit _ vs)=>Aq h τ vs fun h1 vu g=>(match aC h1 b with
  |some (.lit E vs')=>kt h1 vs' fun vs2=>(match zZ τ vs2 with
   |some xs=>yX b (VB.row E τ xs) h1 fun h2=>K h2 (vu++[(b,.row E τ xs)]) (g++b::ec vs')
   |none=>False)
  |_=>False)
 |_=>K h [] []
theorem zb {b:Nat}{τ:Ty}{K:VH→VH→List Nat→Prop}(hk:wE h b τ K):∃u vu g,(∀f:List Nat,(∀k∈g,k∈f)→dS P N h u vu f)∧K (puts vu h) vu g:=by
 unfold wE at hk
 split at hk
 ·obtain⟨u1,v1,g1,p1,hk⟩:=tE (P:=P) (N:=N) hk
  split at hk
  ·rename_i E vs' hb
   rw[aD] at hb
   obtain⟨vs2,f1,hk⟩:=fJ hk
   split at hk
   ·rename_i xs hx
    have hk:=nU hk
    have hlast:cf (toH (puts v1 h)) (.row E (ah vs'))= .row E (xs.map (ag τ)):=by
     simp only[cf]
     rw[←w8 hx,←f1,dC,List.map_map]
     rfl
    refine⟨u1++[((b,0),cf (toH (puts v1 h)) (.row E (ah vs')))],v1++[(b,.row E τ xs)],g1++b::ec vs',fun f hf=>iP (p1 f fun k hk=>hf k (List.mem_append_left _ hk)) (un (y:=.row E τ xs) hb rfl (by rw[hlast];rfl) ⟨hf b (by simp),fun c hc=>hf c.1 ?_⟩),?_⟩
    ·refine List.mem_append_right _ (List.mem_cons_of_mem _ (cE vs' c ?_))
     rw[eG]
     exact hc
    ·rw[aN];exact hk
   ·exact hk.elim
  ·exact hk.elim
 ·exact⟨[],[],[],fun f _=>eh,hk⟩
def Bc (h:VH)(d:V)(o:Option Ty)(K:Ty→Prop):Prop:=
 match d with
 | .ref b=>dj h b fun x=>(match x with
  | .row _ t _=>K t
  |_=>False)
 |_=>(match o with|some t=>K t|none=>False)
theorem Bd {d:V}{o:Option Ty}{K:Ty→Prop}(hk:Bc h d o K):∃t,K t:=by
 unfold Bc at hk
 split at hk
 ·obtain⟨x,_,hk⟩:=aG hk
  split at hk
  ·exact⟨_,hk⟩
  ·exact hk.elim
 ·split at hk
  ·exact⟨_,hk⟩
  ·exact hk.elim
def IX (h:VH)(e:V):Option Nat:=match e with
 | .ref b=>(match aC h b with|some (.lit ..)=>some b|_=>none)
 |_=>none
def n6 (s:Nat)(v:V):Bool:=v.whole && oR v.cells s && v.cells.all V.one
def Hz:List (Nat×V)→List V
 |[]=>[]
 |(_,v)::l=>pH.nzL v::Hz l
theorem By:∀l:List (Nat×V),((uV l).map fun x=>nzE x.2)=ah (Hz l)
 |[]=>rfl
 |(k,v)::l=>by
  have:=By l
  simp only[uV,List.map_cons,List.map_map] at this⊢
  simp only[Hz,ah,rZ]
  rw[←this]
def xF:List (Nat×V)→Nat→Bool
 |[],0=>true
 |_::l,n+1=>xF l n
 |_,_=>false
theorem ub:∀{l:List (Nat×V)} {n:Nat},xF l n=true→l.length=n
 |[],0,_=>rfl
 |_::l,n+1,h=>by simp[ub (l:=l) (n:=n) h]
 |[],_+1,h=>by cases h
 |_::_,0,h=>by cases h
def qS (ei:TI)(E:TypeId)(vs:List (Nat×V))(n:Nat)(K:V→VH→Prop):Prop:=
 match ei.ty with
 |some τ=>(match pH τ vs with
  |some xs=>Chk (τ.sz==ei.sz) (K (.ref n) [(n,.row E τ xs)])
  |none=>Chk (vs.all fun p=>n6 ei.sz p.2) (K (.ref n) [(n,.lit E (Hz vs))]))
 |none=>Chk (vs.all fun p=>n6 ei.sz p.2) (K (.ref n) [(n,.lit E (Hz vs))])
theorem Ai (t:Ty)(x:t.den):HB t.sz (ag t x)=true:=by
 have h1:=d8 t x
 have hw:(ag t x).whole=true:=by
  cases t<;>first|rfl|(cases x<;>rfl)
 simp only[HB,hw,h1.1,h1.2,beq_self_eq_true,Bool.and_self]
theorem vf {T E:TypeId}{ei:TI}{len:Nat}{vs:List (Nat×V)}{K:V→VH→Prop}(hu:P.underlying T=some (.slice E))(he:elemT P E=some (ei.sz,ei.nb))(hkeys:t6 vs 0=true)(hlen:xF vs len=true)(hb:len*ei.sz≤16777216)
  (hn:∀c:Id,n≤c.1→look (toH h) c=none) (hk:qS ei E vs n K):∃r u vu,cU P (n,0) T len ((uV vs).map fun x=>(x.1,nzE x.2))=some (V.toD r,u)∧bE h u vu∧K r vu:=by
 have hmap1:((uV vs).map fun x=>(x.1,nzE x.2)).map (·.1)=List.range' 0 len:=by
  rw[List.map_map]
  have:=t7 hkeys
  rw[ub hlen] at this
  exact this
 have hmap2:((uV vs).map fun x=>(x.1,nzE x.2)).map (·.2)=(uV vs).map fun x=>nzE x.2:=by
  rw[List.map_map];rfl
 have lit:(vs.all fun p=>n6 ei.sz p.2)=true→cU P (n,0) T len ((uV vs).map fun x=>(x.1,nzE x.2))=some ((V.ref n).toD,[((n,0),.row E (ah (Hz vs)))]):=by
  intro hw
  unfold cU
  simp only[hu,he]
  rw[if_pos,hmap2,By]
  ·rfl
  ·refine⟨hmap1,hb,?_⟩
   rw[hmap2,List.all_eq_true]
   intro e hx
   obtain⟨p,hp,rfl⟩:=List.mem_map.1 hx
   obtain⟨q,hq,rfl⟩:=List.mem_map.1 hp
   rw[List.all_eq_true] at hw
   have:=hw q hq
   simp only[n6,Bool.and_eq_true] at this
   obtain⟨⟨w1,w2⟩,w3⟩:=this
   simp only[HB,Bool.and_eq_true,beq_iff_eq]
   refine⟨by rw[qp,eS];exact w1,?_,BA w3⟩
   rw[m9,aw,ui,fP w2]
 unfold qS at hk
 split at hk
 ·rename_i τ hτ
  split at hk
  ·rename_i xs hx
   obtain⟨c,hk⟩:=hk.ok
   simp only[beq_iff_eq] at c
   have hd:=w9 hx
   refine⟨.ref n,[((n,0),.row E (xs.map (ag τ)))],_,?_,iW hn rfl,hk⟩
   unfold cU
   simp only[hu,he]
   rw[if_pos,hmap2,hd]
   ·rfl
   ·refine⟨hmap1,hb,?_⟩
    rw[hmap2,hd,List.all_eq_true]
    intro e hx
    obtain⟨x,_,rfl⟩:=List.mem_map.1 hx
    rw[←c]
    exact Ai τ x
  ·obtain⟨c,hk⟩:=hk.ok
   exact⟨_,_,_,lit c,iW hn rfl,hk⟩
 ·obtain⟨c,hk⟩:=hk.ok
  exact⟨_,_,_,lit c,iW hn rfl,hk⟩
def Ce (k:TK):Bool:=match k with| .ifc| .func=>false|_=>true
theorem uE {T:TypeId}{k:TK}(h:k.ok P T)(hs:Ce k=true):yp P T=true:=by
 unfold yp
 cases k with
 |struct fs=>
  have:=h.2
  unfold iN at this
  cases hu:P.underlying T with
  |none=>rw[hu] at this;simp at this
  |some d=>
   rw[hu] at this
   cases d<;>first|rfl|(simp at this)
 |ifc=>cases hs
 |func=>cases hs
 |int k=>rw[show P.underlying T=some (.int k) from h]
 |bool=>rw[show P.underlying T=some .bool from h]
 |str=>rw[show P.underlying T=some .string from h]
 |slice E=>rw[show P.underlying T=some (.slice E) from h]
 |ptr E=>rw[show P.underlying T=some (.pointer E) from h]
 |arr m E=>rw[show P.underlying T=some (.array m E) from h]
def wS (T:TypeId)(ti:TI)(ok:Bool)(v:V)(K:V→Prop):Prop:=
 Chk (Ce ti.k) (match v with
  | .ifc T' e=>(match Nat.beq T' T with
   |true=>(match ok with|true=>K (.tup [e,.tt])|false=>K e)
   |false=>Chk ok (match ti.z with|some z=>K (.tup [z,.ff])|none=>False))
  | .nili=>Chk ok (match ti.z with|some z=>K (.tup [z,.ff])|none=>False)
  |_=>False)
theorem u6 {T:TypeId}{ti:TI}(ht:ti.ok P T){ok:Bool}{v:V}{K:V→Prop}(hk:wS T ti ok v K):∃r,kR P T ok v.toD=some (V.toD r)∧K r:=by
 obtain⟨c,hk⟩:=Chk.ok hk
 have hi:=uE ht.und c
 unfold kR
 rw[if_pos hi]
 split at hk
 ·rename_i T' e
  simp only[V.toD]
  split at hk
  ·rename_i hb
   rw[if_pos (Nat.eq_of_beq_eq_true hb)]
   cases ok with
   |true=>exact⟨_,by simp[V.toD,ah],hk⟩
   |false=>exact⟨_,by simp,hk⟩
  ·rename_i hb
   obtain⟨c2,hk⟩:=hk.ok
   rw[if_neg (by rintro rfl;simp at hb)]
   split at hk
   ·rename_i z hz
    refine⟨_,?_,hk⟩
    rw[if_pos c2,ht.zero z hz]
    simp[V.toD,ah]
   ·exact hk.elim
 ·obtain⟨c2,hk⟩:=hk.ok
  split at hk
  ·rename_i z hz
   refine⟨_,?_,hk⟩
   simp only[V.toD]
   rw[if_pos c2,ht.zero z hz]
   simp[V.toD,ah]
  ·exact hk.elim
 ·exact hk.elim
theorem zu {q:Bool}(hq:q=false){T:TypeId}{H:HL}{m m':Id}{d:D}{lo hi:Option D}:d5 P H q m T d lo hi=d5 P H q m' T d lo hi:=by
 subst hq
 unfold d5
 simp only[Bool.false_eq_true,if_false]
end Go.Proofs.YthmfppknagbkeaaGreatDoor.Am
namespace Go.Proofs.YthmfppknagbkeaaGreatDoor.Am
open Go Go.RowKit
variable {P:Program} {N:Nat} {Θ:TT} {t:VT} {h:VH} {n:Nat}
def Ja (τ:Ty)(z:V)(K:τ.den→Prop):Prop:=th τ (pH.nzL z) K
theorem GK {τ:Ty}{z:V}{K:τ.den→Prop}(h:Ja τ z K):∃x,nzE z.toD=ag τ x∧K x:=by
 obtain⟨x,h1,h2⟩:=jV h
 exact⟨x,by rw[←rZ];exact h1,h2⟩
def zH (P:Program)(h:VH)(n:Nat)(f:FuncId)(vs:List V)(wr:List Nat)(K:V→VH→List Nat→Prop):Prop:=br P h n f vs fun r vu gl=>K r vu (wr++gl)
def kQ (P:Program)(T:TypeId)(m:String)(K:FuncId→Bool→Prop):Prop:=∃f b,im P T m=some (f,b)∧K f b
theorem Ie {P:Program}{T:TypeId}{m:String}{K:FuncId→Bool→Prop}{f:FuncId}{b:Bool}(h:im P T m=some (f,b))(k:K f b):kQ P T m K:=⟨f,b,h,k⟩
def BU (Θ:TT)(h:VH)(T:TypeId)(b:Bool)(v:V)(K:V→Prop):Prop:=
 match b with
 |true=>K v
 |false=>aQ Θ T fun ti=>(match ti.k with
  | .ptr E=>aQ Θ E fun ei=>uc ei h v K
  |_=>False)
theorem BV {P:Program}{Θ:TT}{h:VH}(hΘ:Θ.ok P){T:TypeId}{b:Bool}{v:V}{K:V→Prop}(hk:BU Θ h T b v K):∃r,jw P (toH h) T b v.toD=some (V.toD r)∧K r:=by
 unfold BU at hk
 split at hk
 ·exact⟨v,by simp[jw],hk⟩
 ·obtain⟨ti,l1,hk⟩:=aq hk
  have hu:=(hΘ _ _ l1).und
  split at hk
  ·rename_i E e
   rw[e] at hu
   have hu:P.underlying T=some (.pointer E):=hu
   obtain⟨ei,l2,hk⟩:=aq hk
   obtain⟨r,h1,h2⟩:=oS (hΘ _ _ l2) hk
   exact⟨r,by simp only[jw,Bool.false_eq_true,if_false,hu,h1],h2⟩
  ·exact hk.elim
def GV (v:V)(K:V→Prop):Prop:=
 match v with
 | .ptr b o=>K (.ptr b o)
 | .eptr b i o=>K (.eptr b i o)
 | .aptr b p i=>K (.aptr b p i)
 | .iptr t x o=>K (.iptr t x o)
 | .box t x=>K (.box t x)
 | .fptr k i o=>K (.fptr k i o)
 | .feptr k i j o=>K (.feptr k i j o)
 | .faptr k i p j=>K (.faptr k i p j)
 | .hpo k o=>fY o False fun i=>K (.fptr k i 0)
 | .obo t o=>fY o False fun x=>K (.box t x)
 |_=>False
theorem Em {v:V}{K:V→Prop}(hk:GV v K):∃r:V,dr v.toD=true∧r.toD=v.toD∧K r:=by
 unfold GV at hk
 split at hk<;>try exact⟨_,rfl,rfl,hk⟩
 ·rename_i k o
  cases o with
  |none=>exact(hk.1 rfl).elim
  |some i=>exact⟨.fptr k i 0,rfl,rfl,hk.2 i rfl⟩
 ·rename_i t o
  cases o with
  |none=>exact(hk.1 rfl).elim
  |some x=>exact⟨.box t x,rfl,rfl,hk.2 x rfl⟩
 ·exact hk.elim
def vY (n:Nat):VH→Bool
 |[]=>true
 |(x,_)::u=>Nat.blt x n && vY n u
theorem rU:∀{u:VH},vY n u=true→∀k∈u.map (·.1),k<n
 |[],_,k,hk=>by cases hk
 |(a,b)::u,h,k,hk=>by
  simp only[vY,Bool.and_eq_true] at h
  rcases List.mem_cons.1 hk with rfl|hk
  ·simpa[Nat.blt_eq] using h.1
  ·exact rU h.2 k hk
theorem p8 {u:HL}{vu:VH}(hn:∀c:Id,n≤c.1→look (toH h) c=none)(hu:bE h u vu)(hl:vY n vu=true):∀c:Id,n≤c.1→look (toH (puts vu h)) c=none:=by
 intro c hc
 rw[←hu.1,ax _ _ _ fun x hx e=>?_]
 ·exact hn c hc
 ·have:=rU hl _ (hu.2 x hx)
  rw[e] at this
  omega
def Ch (P:Program)(Θ:TT)(op:Op)(t:VT)(h:VH)(n:Nat)(K:V→VH→List Nat→Prop):Prop:=
 match op with
 | .move x=>m4 t x fun v=>K v [] []
 | .assign x=>m4 t x fun v=>K v [] []
 | .load T x=>vq t h x fun v=>aQ Θ T fun ti=>uc ti h v fun r=>K r [] (cw t h [x])
 | .store T x y=>vq t h x fun d=>vq t h y fun v=>aQ Θ T fun ti=>Hj h d fun tg=>(match tg with
  |none=>sy ti h d v fun r u=>K r u (cw t h [x,y])
  |some p=>xn h (p.1.shs.drop p.2) v.cells fun h1 vu g=>vq t h1 x fun d=>vq t h1 y fun v=>yc ti h1 d v fun r u=>K r (vu++u) (g++cw t h1 [x,y]))
 | .fieldAddr T x f=>m4 t x fun v=>aQ Θ T fun ti=>(match ti.k with
  | .struct fs=>uh fs f fun g=>Chk (decide (0<g.2.2)) (IQ g v fun r=>K r [] [])
  |_=>False)
 | .indexAddr T x i=>vq t h x fun v=>m4 t i fun ix=>aQ Θ T fun ti=>(match ix with
  | .int _ j=>IW Θ ti h v j fun r=>K r [] (cw t h [x,i])
  |_=>False)
 | .binOp op T x y _=>vq t h x fun d=>vq t h y fun e=>aQ Θ T fun ti=>(match ti.k with
  | .ifc=>AZ op (cB x||cB y) d e fun r=>K r [] (cw t h [x,y])
  | .struct _=>Mk (Cu P T) (Hh op d e fun r=>K r [] (cw t h [x,y]))
  | .ptr E=>(match d,e with
   | .hpo k o,.hpo k' o'=>GO P T op h k k' o o' fun r=>K r [] (cw t h [x,y])
   |d,e=>mg op (.ptr E) d e fun r=>K r [] (cw t h [x,y]))
  |_=>mg op ti.k d e fun r=>K r [] (cw t h [x,y]))
 | .unOp op _ x=>m4 t x fun d=>I3 op d fun r=>K r [] []
 | .call ⟨.builtin b,args,Ts⟩=>(match b with
  | .append=>tw t h args.toList fun vs=>(match vs,Ts.toList with
   |[d,e],[T,T']=>(match Nat.beq T T' with
    |false=>aQ Θ T fun ti=>aQ Θ T' fun ti'=>oh Θ ti ti' h n d e fun r u=>K r u (n::cw t h args.toList)
    |true=>aQ Θ T fun ti=>(match IX h e with
    |none=>nj Θ ti h n d e fun r u=>K r u (n::cw t h args.toList)
    |some b=>(match ti.k with
     | .slice E=>aQ Θ E fun ei=>Bc h d ei.ty fun τ=>wE h b τ fun h1 vu g=>Chk (vY n vu) (tw t h1 args.toList fun vs=>(match vs with
      |[d,e]=>nj Θ ti h1 n d e fun r u=>K r (vu++u) (g++n::cw t h1 args.toList)
      |_=>False))
     |_=>False)))
   |_,_=>False)
  |b=>tw t h args.toList fun vs=>mi Θ b vs Ts.toList h fun r u=>K r u (cw t h args.toList))
 | .call ⟨.value (.func f),args,_⟩=>tw t h args.toList fun vs=>zH P h n f vs (cw t h (.func f::args.toList)) K
 | .call ⟨.value (.tmp k),args,_⟩=>vq t h (.tmp k) fun c=>(match c with
  | .clo f cs=>tw t h args.toList fun vs=>zH P h n f (vs++cs) (cw t h (.tmp k::args.toList)) K
  |_=>False)
 | .call ⟨.invoke x m,args,_⟩=>vq t h x fun c=>(match c with
  | .ifc T v=>kQ P T m fun f b=>BU Θ h T b v fun r=>tw t h args.toList fun vs=>zH P h n f (r::vs) (cw t h (x::args.toList)) K
  |_=>False)
 | .pick c x y=>m4 t c fun b=>(match b with
  | .tt=>m4 t x fun v=>K v [] []
  | .ff=>m4 t y fun v=>K v [] []
  | .bool b=>iB b (m4 t x fun v=>K v [] []) (m4 t y fun v=>K v [] [])
  |_=>False)
 | .alloc T=>aQ Θ T fun ti=>(match ti.z with
  |some z=>K (.ptr n 0) [(n,.var T z.cells)] [n]
  |none=>False)
 | .box T x=>m4 t x fun v=>Chk v.whole (K (.ptr n 0) [(n,.var T v.cells)] [n])
 | .build T ps=>FS t ps.toList fun vs=>aQ Θ T fun ti=>(match ti.k,ti.z with
  | .struct fs,some (.agg zs)=>Ap fs zs vs fun cs=>K (.agg cs) [] []
  | .arr _ E,some (.agg zs)=>aQ Θ E fun _=>Chk vs.isEmpty (K (.agg zs) [] [])
  |_,_=>False)
 | .buildSlice T len ps=>Aj t h ps.toList fun vs=>aQ Θ T fun ti=>(match ti.k with
  | .slice E=>aQ Θ E fun ei=>Chk (ei.z.isSome && decide (0<ei.sz) && t6 vs 0 && xF vs len && decide (len*ei.sz≤16777216)) (qS ei E vs n fun r u=>K r u (n::cw t h (ps.toList.map (·.2))))
  |_=>False)
 | .nilCheck x=>m4 t x fun v=>GV v fun r=>K r [] []
 | .convert S T x=>vq t h x fun v=>aQ Θ T fun ti=>aQ Θ S fun si=>zR Θ ti si h v fun r=>K r [] (cw t h [x])
 | .makeInterface T x=>m4 t x fun v=>aQ Θ T fun ti=>Chk (Ce ti.k) (K (.ifc T v) [] [])
 | .makeFunc (.func f) first captured=>Chk (Nat.beq first.size 0) (FR t captured.toList fun vs=>K (.clo f vs) [] [])
 | .typeAssert x _ T ok=>m4 t x fun v=>aQ Θ T fun ti=>wS T ti ok v fun r=>K r [] []
 | .makeSlice T l c=>m4 t l fun a=>m4 t c fun b=>aQ Θ T fun ti=>(match ti.k,a,b with
  | .slice E,.int _ a,.int _ b=>aQ Θ E fun ei=>(match ei.z,ei.ty with
   |some z,some τ=>Chk (decide (0<ei.sz) && τ.sz==ei.sz && z.cells.all V.pure0) (Ja τ z fun x=>bk (0≤a∧a=b) (bk (jn ei.nb a.toNat) (K (.ref n) [(n,.row E τ (List.replicate a.toNat x))] [n])))
   |_,_=>False)
  |_,_,_=>False)
 | .slice T x lo hi none=>vq t h x fun v=>xg t lo fun l=>xg t hi fun r=>aQ Θ T fun ti=>wu Θ ti h n v l r fun q r u=>(match q with
  |true=>K r u (n::ng t h op)
  |false=>K r u (ng t h op))
 | .field T x f=>m4 t x fun v=>aQ Θ T fun ti=>(match ti.k,v with
  | .struct fs,.agg cs=>uh fs f fun g=>aQ Θ g.1 fun gi=>fk gi cs g.2.1 fun r=>K r [] []
  |_,_=>False)
 | .index T x i=>m4 t x fun v=>m4 t i fun i=>aQ Θ T fun ti=>(match ti.k,v,i with
  | .str,.str s,.int _ i=>bk (0≤i∧i<(s.size:Nat)) (K (.int .u8 ((s.data.toList.getD i.toNat 0).toNat:Nat)) [] [])
  | .arr m E,.agg cs,.int _ i=>aQ Θ E fun ei=>bk (0≤i∧i<(m:Nat)) (fk ei cs (i.toNat * ei.sz) fun r=>K r [] [])
  |_,_,_=>False)
 | .extract x i=>m4 t x fun v=>(match v with
  | .tup cs=>uh cs i fun r=>K r [] []
  |_=>False)
 |_=>False
def uY (P:Program)(N:Nat)(o:Oper)(t:VT)(h:VH)(K:V→VH→List Nat→Prop):Prop:=∃r vu gl,StepOK P N o t h r vu gl∧K r vu gl
theorem lO {m:Bool}{o:Oper}{r:V}{u:HL}{vu:VH}{gl:List Nat}{K:V→VH→List Nat→Prop}(hd:∀n,cq P m o.op (eq t) (toH h) n=some (r.toD,u))(hu:bE h u vu)(hg:∀k∈ng t h o.op,k∈gl)(hk:K r vu gl):uY P N o t h K:=⟨r,vu,gl,dZ (Fo hd hu) hg,hk⟩
theorem Hg {m:Bool}{o:Oper}{r:V}{u:HL}{vu:VH}{gl:List Nat}{K:V→VH→List Nat→Prop}(hn:∀c:Id,n≤c.1→look (toH h) c=none)(hd:cq P m o.op (eq t) (toH h) n=some (r.toD,u))(hu:bE h u vu)(hg:∀k∈n::ng t h o.op,k∈gl)(hk:K r vu gl):uY P N o t h K:=⟨r,vu,gl,dZ (Fp hn hd hu) hg,hk⟩
theorem dQ {op:Op}{l:List Operand}(hl:i9 op=true)(ho:op.operands.toList=l):∀k∈ng t h op,k∈cw t h l:=by
 intro k hk
 unfold ng at hk
 rw[hl] at hk
 rw[ho] at hk
 exact hk
theorem b7 {op:Op}(hl:i9 op=false)(gl:List Nat):∀k∈ng t h op,k∈gl:=by
 intro k hk
 unfold ng at hk
 rw[hl] at hk
 cases hk
end Go.Proofs.YthmfppknagbkeaaGreatDoor.Am
namespace Go.Proofs.YthmfppknagbkeaaGreatDoor.Am
open Go Go.RowKit
variable {P:Program} {N:Nat} {Θ:TT} {t:VT} {h:VH} {n:Nat}
set_option maxHeartbeats 1600000 in
theorem Ci (hΘ:Θ.ok P){o:Oper}(hn:∀c:Id,n≤c.1→look (toH h) c=none){K:V→VH→List Nat→Prop}(hk:Ch P Θ o.op t h n K):uY P N o t h K:=by
 obtain⟨dst,op,ty,pos,after,guard⟩:=o
 simp only at hk
 unfold Ch at hk
 split at hk
 ·obtain⟨v,h1,h2⟩:=bz hk
  exact lO (m:=false) (fun n=>by simp only[cq,h1,Option.map_some]) aB (b7 rfl _) h2
 ·obtain⟨v,h1,h2⟩:=bz hk
  exact lO (m:=false) (fun n=>by simp only[cq,h1,Option.map_some]) aB (b7 rfl _) h2
 ·obtain⟨v,h1,h2⟩:=d9 hk
  obtain⟨ti,l1,h2⟩:=aq h2
  obtain⟨r,h3,h4⟩:=oS (hΘ _ _ l1) h2
  exact lO (m:=false) (fun n=>by simp only[cq,h1,Option.bind_some,h3,Option.map_some]) aB (dQ rfl (by simp[Op.operands])) h4
 ·rename_i T x y
  obtain⟨d,h1,h2⟩:=d9 hk
  obtain⟨v,h3,h2⟩:=d9 h2
  obtain⟨ti,l1,h2⟩:=aq h2
  obtain⟨tg,h2⟩:=ES h2
  split at h2
  ·obtain⟨u,vu,h5,h6,h7⟩:=wA (hΘ _ _ l1) h2
   exact lO (m:=false) (fun n=>by
    simp only[cq,h1,h3,Option.bind_some,Bool.not_false,nzM,if_true,h5,Option.map_some];rfl) h6 (dQ rfl (by simp[Op.operands])) h7
  ·obtain⟨u1,v1,g1,p1,h2⟩:=oE (P:=P) (N:=N) h2
   obtain⟨d,h1,h2⟩:=d9 h2
   obtain⟨v,h3,h2⟩:=d9 h2
   obtain⟨u,vu,h5,h6,h7⟩:=wB (hΘ _ _ l1) h2
   refine⟨.undef,_,_,uF p1 (dZ (Fo (m:=true) (fun n=>?_) h6) (dQ rfl (by simp[Op.operands]))),h7⟩
   simp only[cq,h1,h3,Option.bind_some,Bool.not_true,nzM,Bool.false_eq_true,if_false,h5,Option.map_some];rfl
 ·rename_i T x f
  obtain⟨v,h1,h2⟩:=bz hk
  obtain⟨ti,l1,h2⟩:=aq h2
  have hu:=(hΘ _ _ l1).und
  split at h2
  ·rename_i fs e
   rw[e] at hu
   obtain⟨g,g1,h2⟩:=iL h2
   obtain⟨c,h2⟩:=h2.ok
   simp only[decide_eq_true_eq] at c
   obtain⟨r,h3,h4⟩:=FW (P:=P) (T:=T) (i:=f) ((hu.1 f g.1 g.2.1 g.2.2 g1).2 c) h2
   exact lO (m:=false) (fun n=>by simp only[cq,h1,Option.bind_some,h3,Option.map_some]) aB (b7 rfl _) h4
  ·exact h2.elim
 ·obtain⟨v,h1,h2⟩:=d9 hk
  obtain⟨i,h3,h4⟩:=bz h2
  obtain⟨ti,l1,h4⟩:=aq h4
  split at h4
  ·rename_i k j _
   obtain⟨r,h5,h6⟩:=Ga hΘ (hΘ _ _ l1) (k:=k) h4
   exact lO (m:=false) (fun n=>by
    have h3':aA (eq t) _=some (.int k j):=h3
    simp only[cq,h1,h3',Option.bind_some,h5,Option.map_some]) aB (dQ rfl (by simp[Op.operands])) h6
  ·exact h4.elim
 ·rename_i op T x y yT
  obtain⟨d,h1,h2⟩:=d9 hk
  obtain⟨e,h3,h4⟩:=d9 h2
  obtain⟨ti,l1,h4⟩:=aq h4
  have hu:=(hΘ _ _ l1).und
  have fin:∀{tk:TK},tk.ok P T→mg op tk d e (fun r=>K r [] (cw t h [x,y]))→∃r:V,(∀n,cq P false (.binOp op T x y yT) (eq t) (toH h) n=some (r.toD,[]))∧K r [] (cw t h [x,y]):=fun hu h4=>by
   obtain⟨r,h5,h6⟩:=CS (P:=P) hu h4
   refine⟨r,fun n=>?_,h6⟩
   simp only[cq,h1,h3,Option.bind_some]
   unfold b9 at h5
   split at h5
   ·rename_i r' hr
    rw[hr]
    simp only[Option.some.injEq] at h5
    rw[h5]
   ·rename_i hr
    rw[hr]
    split at h5
    ·rename_i r' hr'
     simp only[Option.some.injEq] at h5
     simp only[hr',h5]
    ·rename_i hr'
     simp only[hr',h5]
  split at h4
  ·rename_i hi
   rw[hi] at hu
   obtain⟨r,h5,h6,h7,h8,h9⟩:=DL (P:=P) hu h4
   refine lO (m:=false) (u:=[]) (fun n=>?_) aB (dQ rfl (by simp[Op.operands])) h9
   simp only[cq,h1,h3,Option.bind_some,h5,h6,h7,h8]
  ·obtain⟨hm,h4⟩:=h4
   obtain⟨r,h5,h6,h7,h8,h9,h10⟩:=EM (P:=P) hm h4
   refine lO (m:=false) (u:=[]) (fun n=>?_) aB (dQ rfl (by simp[Op.operands])) h10
   simp only[cq,h1,h3,Option.bind_some,h5,h6,h7,h8,h9]
  ·rename_i E hi
   rw[hi] at hu
   split at h4
   ·obtain⟨r,h5,h6,h7,h8,h9,h10,h11⟩:=Eb h4
    refine lO (m:=false) (u:=[]) (fun n=>?_) aB (dQ rfl (by simp[Op.operands])) h11
    simp only[cq,h1,h3,Option.bind_some,h5,h6,h7,h8,h9,h10,Option.map_some]
   ·obtain⟨r,h5,h6⟩:=fin hu h4
    exact lO (m:=false) (u:=[]) h5 aB (dQ rfl (by simp[Op.operands])) h6
  ·obtain⟨r,h5,h6⟩:=fin hu h4
   exact lO (m:=false) (u:=[]) h5 aB (dQ rfl (by simp[Op.operands])) h6
 ·obtain⟨d,h1,h2⟩:=bz hk
  obtain⟨r,h5,h6⟩:=Hl h2
  exact lO (m:=false) (fun n=>by simp only[cq,h1,Option.bind_some,h5,Option.map_some]) aB (b7 rfl _) h6
 ·rename_i b args Ts
  split at hk
  ·obtain⟨vs,h1,h2⟩:=iG hk
   split at h2
   ·rename_i d e T T' eT
    split at h2
    ·rename_i c
     have hne:T≠T':=by rintro rfl;simp at c
     obtain⟨ti,l1,h3⟩:=aq h2
     obtain⟨ti',l1',h3⟩:=aq h3
     obtain⟨r,u,vu,h5,h6,h7⟩:=sZ hΘ (hΘ _ _ l1) (hΘ _ _ l1') hn h3
     refine Hg (m:=false) hn ?_ h6 (fun k hk=>?_) h7
     ·simp only[cq,h1,Option.bind_some,eT,ah,cV,hne,if_false,h5]
     ·rcases List.mem_cons.1 hk with rfl|hk
      ·exact List.mem_cons_self ..
      ·refine List.mem_cons_of_mem _ (dQ (l:=args.toList) rfl (by simp[Op.operands,Call.operands]) k hk)
    ·rename_i c
     obtain rfl:=Nat.eq_of_beq_eq_true c
     obtain⟨ti,l1,h3⟩:=aq h2
     split at h3
     ·obtain⟨r,u,vu,h5,h6,h7⟩:=og hΘ (hΘ _ _ l1) hn h3
      refine Hg (m:=false) hn ?_ h6 (fun k hk=>?_) h7
      ·simp only[cq,h1,Option.bind_some,eT,ah,cV,if_true,h5]
      ·rcases List.mem_cons.1 hk with rfl|hk
       ·exact List.mem_cons_self ..
       ·refine List.mem_cons_of_mem _ (dQ (l:=args.toList) rfl (by simp[Op.operands,Call.operands]) k hk)
     ·split at h3
      ·obtain⟨ei,l2,h3⟩:=aq h3
       obtain⟨τ,h3⟩:=Bd h3
       obtain⟨u1,v1,g1,p1,h3⟩:=zb (P:=P) (N:=N) h3
       obtain⟨cl,h3⟩:=h3.ok
       obtain⟨vs,h1,h3⟩:=iG h3
       split at h3
       ·rename_i d e
        have p0:=(p1 g1 fun k hk=>hk).1
        have hn':=p8 hn p0 cl
        obtain⟨r,u,vu,h5,h6,h7⟩:=og hΘ (hΘ _ _ l1) hn' h3
        refine⟨r,_,_,uF p1 (dZ (Fp (m:=false) hn' ?_ h6) (fun k hk=>?_)),h7⟩
        ·simp only[cq,h1,Option.bind_some,eT,ah,cV,if_true,h5]
        ·rcases List.mem_cons.1 hk with rfl|hk
         ·exact List.mem_cons_self ..
         ·refine List.mem_cons_of_mem _ (dQ (l:=args.toList) rfl (by simp[Op.operands,Call.operands]) k hk)
       ·exact h3.elim
      ·exact h3.elim
   ·exact h2.elim
  ·obtain⟨vs,h1,h2⟩:=iG hk
   obtain⟨r,u,vu,h5,h6,h7⟩:=qT (m:=false) hΘ h2
   exact lO (m:=false) (fun n=>by simp only[cq,h1,Option.bind_some,h5]) h6 (dQ rfl (by simp[Op.operands,Call.operands])) h7
 ·rename_i f args Ts
  obtain⟨vs,h1,h2⟩:=iG hk
  obtain⟨os,fs,h2⟩:=h2
  obtain⟨r,vu,gl,h3,h4⟩:=mS (N:=N) (o:=⟨dst,.call ⟨.value (.func f),args,Ts⟩,ty,pos,after,guard⟩) hn ⟨args,Ts,.inl ⟨rfl,h1⟩⟩ h2
  refine⟨r,vu,_,dZ h3 (fun k hk=>?_),h4⟩
  simpa[Op.operands,Call.operands] using hk
 ·rename_i k args Ts
  obtain⟨c,h1,h2⟩:=d9 hk
  split at h2
  ·rename_i f cs
   obtain⟨vs,h3,h2⟩:=iG h2
   obtain⟨os,fs,h2⟩:=h2
   obtain⟨r,vu,gl,h3,h4⟩:=mS (N:=N) (o:=⟨dst,.call ⟨.value (.tmp k),args,Ts⟩,ty,pos,after,guard⟩) hn ⟨args,Ts,.inr (.inl ⟨k,ah cs,ah vs,rfl,h1,h3,by simp[bI]⟩)⟩ h2
   refine⟨r,vu,_,dZ h3 (fun k hk=>?_),h4⟩
   simpa[Op.operands,Call.operands] using hk
  ·exact h2.elim
 ·rename_i x m args Ts
  obtain⟨c,h1,h2⟩:=d9 hk
  split at h2
  ·rename_i T v
   obtain⟨f,b,hm,h2⟩:=h2
   obtain⟨r0,hr,h2⟩:=BV hΘ h2
   obtain⟨vs,h3,h2⟩:=iG h2
   obtain⟨os,fs,h2⟩:=h2
   obtain⟨r,vu,gl,h4,h5⟩:=mS (N:=N) (o:=⟨dst,.call ⟨.invoke x m,args,Ts⟩,ty,pos,after,guard⟩) hn ⟨args,Ts,.inr (.inr ⟨x,m,T,v.toD,r0.toD,b,ah vs,rfl,h1,hm,hr,h3,rfl⟩)⟩ h2
   refine⟨r,vu,_,dZ h4 (fun k hk=>?_),h5⟩
   simpa[Op.operands,Call.operands] using hk
  ·exact h2.elim
 ·obtain⟨b,h1,h2⟩:=bz hk
  split at h2
  ·obtain⟨r,h3,h4⟩:=bz h2
   have h1':aA (eq t) _=some (.bool true):=h1
   exact lO (m:=false) (fun n=>by simp only[cq,h1',h3,Option.map_some]) aB (b7 rfl _) h4
  ·obtain⟨r,h3,h4⟩:=bz h2
   have h1':aA (eq t) _=some (.bool false):=h1
   exact lO (m:=false) (fun n=>by simp only[cq,h1',h3,Option.map_some]) aB (b7 rfl _) h4
  ·rename_i b
   cases b with
   |true=>
    obtain⟨r,h3,h4⟩:=bz (h2.1 rfl)
    have h1':aA (eq t) _=some (.bool true):=h1
    exact lO (m:=false) (fun n=>by simp only[cq,h1',h3,Option.map_some]) aB (b7 rfl _) h4
   |false=>
    obtain⟨r,h3,h4⟩:=bz (h2.2 rfl)
    have h1':aA (eq t) _=some (.bool false):=h1
    exact lO (m:=false) (fun n=>by simp only[cq,h1',h3,Option.map_some]) aB (b7 rfl _) h4
  ·exact h2.elim
 ·obtain⟨ti,l1,h2⟩:=aq hk
  split at h2
  ·rename_i z hz
   refine Hg (m:=false) (u:=[((n,0),.var _ (ah z.cells))]) hn ?_ (iW hn rfl) (fun k hk=>?_) h2
   ·simp only[cq,(hΘ _ _ l1).zero z hz,Option.map_some,aJ];rfl
   ·rcases List.mem_cons.1 hk with rfl|hk
    ·exact List.mem_cons_self ..
    ·exact b7 rfl _ k hk
  ·exact h2.elim
 ·obtain⟨v,h1,h2⟩:=bz hk
  obtain⟨c,h3⟩:=h2.ok
  refine Hg (m:=false) (u:=[((n,0),.var _ (ah v.cells))]) hn ?_ (iW hn rfl) (fun k hk=>?_) h3
  ·simp only[cq,h1,Option.bind_some,eS,c,if_true,aJ];rfl
  ·rcases List.mem_cons.1 hk with rfl|hk
   ·exact List.mem_cons_self ..
   ·exact b7 rfl _ k hk
 ·rename_i T ps
  obtain⟨vs,h1,h2⟩:=xi hk
  obtain⟨ti,l1,h2⟩:=aq h2
  have hu:=(hΘ _ _ l1).und
  have hz:=(hΘ _ _ l1).zero
  split at h2
  ·rename_i fs zs e ez
   rw[e] at hu
   obtain⟨cs,h3,h4⟩:=tC h2
   have hz':=hz _ ez
   simp only[V.toD] at hz'
   exact lO (m:=false) (fun n=>by simp only[cq,h1,Option.bind_some,n8,hu.2,hz',h3,Option.map_some];rfl) aB (b7 rfl _) h4
  ·rename_i M E zs e ez
   rw[e] at hu
   obtain⟨ei,l2,h2⟩:=aq h2
   obtain⟨c,h4⟩:=h2.ok
   have hz':=hz _ ez
   simp only[V.toD] at hz'
   have hv:vs=[]:=List.isEmpty_iff.1 c
   subst hv
   have hpl:iN P T=some []:=by
    have hs:=(hΘ _ _ l2).size
    unfold sizeT at hs
    obtain⟨i,hi,_⟩:=Option.map_eq_some_iff.1 hs
    unfold iN
    rw[show P.underlying T=some (.array M E) from hu]
    simp only[hi,Option.map_some]
   exact lO (m:=false) (fun n=>by simp only[cq,h1,Option.bind_some,n8,hpl,hz',uV,fH,Option.map_some];rfl) aB (b7 rfl _) h4
  ·exact h2.elim
 ·rename_i T len ps
  obtain⟨vs,h1,h2⟩:=tv hk
  obtain⟨ti,l1,h2⟩:=aq h2
  have hu:=(hΘ _ _ l1).und
  split at h2
  ·rename_i E e
   rw[e] at hu
   obtain⟨ei,l2,h2⟩:=aq h2
   have hei:=hΘ _ _ l2
   obtain⟨c,h2⟩:=h2.ok
   simp only[Bool.and_eq_true,decide_eq_true_eq] at c
   obtain⟨⟨⟨⟨c1,c2⟩,c3⟩,c4⟩,c5⟩:=c
   obtain⟨r,u,vu,h5,h6,h7⟩:=vf (show P.underlying T=some (.slice E) from hu) (hei.elem c1 c2) c3 c4 c5 hn h2
   refine Hg (m:=false) hn (by simp only[cq,h1,Option.bind_some,h5]) h6 (fun k hk=>?_) h7
   rcases List.mem_cons.1 hk with rfl|hk
   ·exact List.mem_cons_self ..
   ·exact List.mem_cons_of_mem _ (dQ rfl (by simp[Op.operands]) k hk)
  ·exact h2.elim
 ·obtain⟨v,h1,h2⟩:=bz hk
  obtain⟨r,h3,h4,h5⟩:=Em h2
  exact lO (m:=false) (fun n=>by simp only[cq,h1,Option.bind_some,h3,if_true,h4]) aB (b7 rfl _) h5
 ·obtain⟨v,h1,h2⟩:=d9 hk
  obtain⟨ti,l1,h2⟩:=aq h2
  obtain⟨si,l2,h2⟩:=aq h2
  obtain⟨r,h3,h4⟩:=zS hΘ (hΘ _ _ l1) (hΘ _ _ l2) h2
  exact lO (m:=false) (fun n=>by simp only[cq,h1,Option.bind_some,h3,Option.map_some]) aB (dQ rfl (by simp[Op.operands])) h4
 ·obtain⟨v,h1,h2⟩:=bz hk
  obtain⟨ti,l1,h2⟩:=aq h2
  obtain⟨c,h2⟩:=h2.ok
  exact lO (m:=false) (fun n=>by simp only[cq,h1,Option.bind_some,uE (hΘ _ _ l1).und c,if_true];rfl) aB (b7 rfl _) h2
 ·rename_i f first captured
  obtain⟨c,h2⟩:=hk.ok
  obtain⟨vs,h1,h2⟩:=xh h2
  exact lO (m:=false) (fun n=>by simp only[cq,Nat.eq_of_beq_eq_true c,if_true,h1,Option.map_some];rfl) aB (b7 rfl _) h2
 ·obtain⟨v,h1,h2⟩:=bz hk
  obtain⟨ti,l1,h2⟩:=aq h2
  obtain⟨r,h3,h4⟩:=u6 (hΘ _ _ l1) h2
  exact lO (m:=false) (fun n=>by simp only[cq,h1,Option.bind_some,h3,Option.map_some]) aB (b7 rfl _) h4
 ·obtain⟨a,h1,h2⟩:=bz hk
  obtain⟨b,h3,h4⟩:=bz h2
  obtain⟨ti,l1,h4⟩:=aq h4
  have hu:=(hΘ _ _ l1).und
  split at h4
  ·rename_i E k1 a k2 b e _
   rw[e] at hu
   obtain⟨ei,l2,h4⟩:=aq h4
   have hei:=hΘ _ _ l2
   split at h4
   ·rename_i z τ hz hτ
    obtain⟨c,h4⟩:=h4.ok
    simp only[Bool.and_eq_true,beq_iff_eq,decide_eq_true_eq] at c
    obtain⟨⟨c1,c2⟩,c3⟩:=c
    obtain⟨x,hx,h5⟩:=GK h4
    obtain⟨h6,h7,h8⟩:=h5
    refine Hg (m:=false) (u:=[((n,0),.row E ((List.replicate a.toNat x).map (ag τ)))]) hn ?_ (iW hn rfl) (fun k hk=>?_) h8
    ·have h1':aA (eq t) _=some (.int k1 a):=h1
     have h3':aA (eq t) _=some (.int k2 b):=h3
     simp only[cq,h1',h3',Option.bind_some,wN,show P.underlying _=some (.slice E) from hu,hei.elem (by rw[hz];rfl) c1,hei.zero z hz]
     rw[if_pos]
     ·simp only[nzM,Bool.false_eq_true,if_false,hx,List.map_replicate];rfl
     ·refine⟨h6.1,h6.2,h7,?_⟩
      simp only[ID,Bool.and_eq_true,beq_iff_eq]
      refine⟨?_,by rw[aJ];exact jP _ c3⟩
      have h9:=congrArg (fun d:D=>d.cells.length) hx
      simp only[eM,List.length_map,(d8 τ x).1] at h9
      omega
    ·rcases List.mem_cons.1 hk with rfl|hk
     ·exact List.mem_cons_self ..
     ·exact b7 rfl _ k hk
   ·exact h4.elim
  ·exact h4.elim
 ·rename_i T x lo hi
  obtain⟨v,h1,h2⟩:=d9 hk
  obtain⟨lo',h3,h4⟩:=tx h2
  obtain⟨hi',h5,h6⟩:=tx h4
  obtain⟨ti,l1,h6⟩:=aq h6
  obtain⟨q,r,u,vu,h7,h8,h9⟩:=y8 hΘ (hΘ _ _ l1) hn h6
  cases q with
  |true=>
   exact Hg (m:=true) hn (by simp only[cq,h1,h3,h5,Option.bind_some,h7]) h8 (fun k hk=>hk) h9
  |false=>
   exact lO (m:=false) (fun n'=>by
    simp only[cq,h1,h3,h5,Option.bind_some]
    rw[zu rfl (m':=(n,0))]
    exact h7) h8 (fun k hk=>hk) h9
 ·rename_i T x f
  obtain⟨v,h1,h2⟩:=bz hk
  obtain⟨ti,l1,h2⟩:=aq h2
  have hu:=(hΘ _ _ l1).und
  split at h2
  ·rename_i fs cs e _
   rw[e] at hu
   obtain⟨g,g1,h2⟩:=iL h2
   obtain⟨gi,l2,h2⟩:=aq h2
   obtain⟨r,h3,h4⟩:=bH (hΘ _ _ l2) h2
   exact lO (m:=false) (fun n=>by
    have h1':aA (eq t) _=some (.agg (ah cs)):=h1
    simp only[cq,h1',Option.bind_some,wO,(hu.1 f g.1 g.2.1 g.2.2 g1).1,h3,Option.map_some]) aB (b7 rfl _) h4
  ·exact h2.elim
 ·obtain⟨v,h1,h2⟩:=bz hk
  obtain⟨i,h3,h4⟩:=bz h2
  obtain⟨ti,l1,h4⟩:=aq h4
  have hu:=(hΘ _ _ l1).und
  split at h4
  ·rename_i s k i e _
   rw[e] at hu
   refine lO (m:=false) (u:=[]) (fun n=>?_) aB (b7 rfl _) h4.2
   have h1':aA (eq t) _=some (.str s):=h1
   have h3':aA (eq t) _=some (.int k i):=h3
   simp only[cq,h1',h3',Option.bind_some,n9,show P.underlying _=some .string from hu]
   rw[if_pos h4.1]
   rfl
  ·rename_i m E cs k i e _
   rw[e] at hu
   obtain⟨ei,l2,h4⟩:=aq h4
   obtain⟨r,h5,h6⟩:=bH (hΘ _ _ l2) h4.2
   refine lO (m:=false) (u:=[]) (fun n=>?_) aB (b7 rfl _) h6
   have h1':aA (eq t) _=some (.agg (ah cs)):=h1
   have h3':aA (eq t) _=some (.int k i):=h3
   simp only[cq,h1',h3',Option.bind_some,n9,show P.underlying _=some (.array m E) from hu,(hΘ _ _ l2).size]
   rw[if_pos h4.1,h5]
   rfl
  ·exact h4.elim
 ·obtain⟨v,h1,h2⟩:=bz hk
  split at h2
  ·rename_i cs
   obtain⟨r,h3,h4⟩:=iL h2
   exact lO (m:=false) (fun n=>by
    have h1':aA (eq t) _=some (.tup (ah cs)):=h1
    simp only[cq,h1',Option.bind_some,kS,bI,List.getElem?_map,h3,Option.map_some]) aB (b7 rfl _) h4
  ·exact h2.elim
 ·exact hk.elim
end Go.Proofs.YthmfppknagbkeaaGreatDoor.Am
namespace Go.Proofs.YthmfppknagbkeaaGreatDoor.Am
open Go Go.RowKit
variable {P:Program} {N:Nat}
def rb (a b:List Nat):Bool:=a.all fun x=>!b.contains x
abbrev pS:=List (Nat×List Nat×List Nat)
def kX (dep:List Nat)(fws:pS)(f ws:List Nat):Bool:=
 fws.all fun x=>(rb x.2.2 f && rb x.2.2 ws && rb ws x.2.1)||dep.contains x.1
def zO (fws:pS)(f ws:List Nat):Bool:=fws.all fun x=>rb x.2.2 f && rb x.2.2 ws && rb ws x.2.1
theorem zP {dep:List Nat}{fws:pS}{f ws:List Nat}(h:zO fws f ws=true):kX dep fws f ws=true:=by
 unfold zO at h
 unfold kX
 rw[List.all_eq_true] at h⊢
 intro x hx
 rw[h x hx]
 rfl
theorem zQ {dep:List Nat}{fws:pS}:kX dep fws [] []=true:=by
 unfold kX
 rw[List.all_eq_true]
 intro x hx
 simp[rb]
def w6 (dep:Unit→List Nat)(fws:pS)(f ws:List Nat)(K:Prop):Prop:=
 match zO fws f ws with
 |true=>K
 |false=>Mk (kX (dep ()) fws f ws) K
theorem te {dep:Unit→List Nat}{fws:pS}{f ws:List Nat}{K:Prop}(h:w6 dep fws f ws K):kX (dep ()) fws f ws=true∧K:=by
 unfold w6 at h
 split at h
 ·rename_i e;exact⟨zP e,h⟩
 ·exact h
def ow (N:Nat)(dst:Option Tmp):Bool:=match dst with|some d=>Nat.blt d N|none=>true
def ur (dst:Option Nat)(v:V)(t:VT):VT:=match dst with|some k=>(k,v)::t|none=>t
theorem nV (dst:Option Nat)(v:V)(t:VT):eq (ur dst v t)=fh dst v.toD (eq t):=by cases dst<;>rfl
def FH (n:Nat):VH→Nat
 |[]=>0
 |(x,_)::u=>bif Nat.ble n x then FH n u+1 else FH n u
def BR (dst:Option Nat)(v:V)(t:VT)(K:VT→Prop):Prop:=match dst with|some k=>K ((k,v)::t)|none=>K t
theorem ut {dst:Option Nat}{v:V}{t:VT}{K:VT→Prop}(h:BR dst v t K):K (ur dst v t):=by cases dst<;>exact h
theorem zw {l:List Nat}{b x:Nat}:x∈Fz l b↔x∈l∨x=b:=by
 unfold Fz
 split
 ·rename_i h
  refine⟨.inl,fun h'=>h'.elim id fun e=>?_⟩
  subst e
  simpa using h
 ·simp
theorem pT:∀{bs l:List Nat} {x:Nat},x∈e9 l bs↔x∈l∨x∈bs
 |[],l,x=>by simp[e9]
 |b::bs,l,x=>by
  simp only[e9,pT,zw,List.mem_cons]
  exact or_assoc
def er (y x:VB)(A B:Prop):Prop:=(y=x∧A)∨B
def ph (h:VH):VH→(VH→List Nat→Prop)→Prop
 |[],K=>K [] []
 |(k,x)::u,K=>match aC h k with
  |some y=>er y x (ph h u fun r ds=>K r (k::ds)) (ph h u fun r ds=>K ((k,x)::r) ds)
  |none=>ph h u fun r ds=>K ((k,x)::r) ds
def wn (h u:VH)(K:VH→List Nat→Prop):Prop:=match gD (keysV u) with
 |true=>ph h u K
 |false=>K u []
structure SameOK (h u u':VH)(ds:List Nat):Prop where
 sub:∀k∈keysV u',k∈keysV u
 out:∀k∈ds,k∉keysV u'
 rest:∀k∈keysV u,k∉ds→k∈keysV u'
 new:∀g:VH,∀k,k∉ds→look (puts u' g) k=look (puts u g) k
 old:∀g:VH,∀k∈ds,look (puts u g) k=look h k
theorem qx (h u:VH):SameOK h u u []:=⟨fun _ h=>h,(by simp),fun _ h _=>h,fun _ _ _=>rfl,(by simp)⟩
theorem da (k:Nat)(x:VB)(u:VH):keysV ((k,x)::u)=k::keysV u:=rfl
theorem t8 {u:VH}{k:Nat}(h:k∉keysV u):∀x∈u,x.1≠k:=fun x hx e=>h (by rw[←dz];exact List.mem_map.2 ⟨x,hx,e⟩)
theorem pi {h:VH}:∀{u:VH} {K:VH→List Nat→Prop},(keysV u).Nodup→ph h u K→∃u' ds,SameOK h u u' ds∧(∀k∈ds,k∈keysV u)∧K u' ds
 |[],K,_,hk=>⟨[],[],qx h [],by simp,hk⟩
 |(k,x)::u,K,hn,hk=>by
  rw[da,List.nodup_cons] at hn
  have keep:(ph h u fun r ds=>K ((k,x)::r) ds)→∃u' ds,SameOK h ((k,x)::u) u' ds∧(∀j∈ds,j∈keysV ((k,x)::u))∧K u' ds:=by
   intro hk
   obtain⟨u',ds,s,hd,hk⟩:=pi hn.2 hk
   refine⟨_,ds,⟨fun j hj=>?_,fun j hj hc=>?_,fun j hj hne=>?_,fun g j hj=>s.new _ j hj,fun g j hj=>s.old _ j hj⟩,fun j hj=>by rw[da];exact List.mem_cons_of_mem _ (hd j hj),hk⟩
   ·rw[da] at hj⊢
    rcases List.mem_cons.1 hj with e|hj
    ·rw[e];exact List.mem_cons_self ..
    ·exact List.mem_cons_of_mem _ (s.sub j hj)
   ·rw[da] at hc
    rcases List.mem_cons.1 hc with e|hc
    ·exact hn.1 (e▸hd j hj)
    ·exact s.out j hj hc
   ·rw[da] at hj⊢
    rcases List.mem_cons.1 hj with e|hj
    ·rw[e];exact List.mem_cons_self ..
    ·exact List.mem_cons_of_mem _ (s.rest j hj hne)
  simp only[ph] at hk
  split at hk
  ·rename_i y hy
   rw[aD] at hy
   rcases hk with⟨e,hk⟩|hk
   ·subst e
    obtain⟨u',ds,s,hd,hk⟩:=pi hn.2 hk
    refine⟨u',k::ds,⟨fun j hj=>by rw[da];exact List.mem_cons_of_mem _ (s.sub j hj),fun j hj hc=>?_,fun j hj hne=>?_,fun g j hj=>?_,fun g j hj=>?_⟩,fun j hj=>?_,hk⟩
    ·rcases List.mem_cons.1 hj with e|hj
     ·exact hn.1 (e▸s.sub j hc)
     ·exact s.out j hj hc
    ·rw[da] at hj
     rcases List.mem_cons.1 hj with e|hj
     ·exact absurd (e▸List.mem_cons_self ..) hne
     ·exact s.rest j hj fun h=>hne (List.mem_cons_of_mem _ h)
    ·have hjk:j≠k:=fun e=>hj (e▸List.mem_cons_self ..)
     show _=look (puts u (put k y g)) j
     rw[s.new g j fun h=>hj (List.mem_cons_of_mem _ h)]
     exact mB u j (by rw[ai,if_neg hjk])
    ·show look (puts u (put k y g)) j=_
     rcases List.mem_cons.1 hj with e|hj
     ·subst e
      rw[ax _ _ _ (t8 hn.1),ai,if_pos rfl,hy]
     ·exact s.old _ j hj
    ·rw[da]
     rcases List.mem_cons.1 hj with e|hj
     ·rw[e];exact List.mem_cons_self ..
     ·exact List.mem_cons_of_mem _ (hd j hj)
   ·exact keep hk
  ·exact keep hk
theorem y7 {h u:VH}{K:VH→List Nat→Prop}(hk:wn h u K):∃u' ds,SameOK h u u' ds∧K u' ds:=by
 unfold wn at hk
 split at hk
 ·rename_i e
  obtain⟨u',ds,s,_,hk⟩:=pi (fA e) hk
  exact⟨u',ds,s,hk⟩
 ·exact⟨u,[],qx h u,hk⟩
theorem ud {u:HL}{p:Id→Bool}:∀{g:HL} {b:Id},p b=true→look (puts (u.filter fun x=>p x.1) g) b=look (puts u g) b:=by
 induction u with
 |nil=>intro g b _;rfl
 |cons x u ih=>
  intro g b hp
  by_cases hx:p x.1=true
  ·rw[List.filter_cons_of_pos (by exact hx)]
   exact ih hp
  ·rw[List.filter_cons_of_neg (by exact hx),ih hp]
   have hne:b≠x.1:=fun e=>hx (e▸hp)
   exact aV (u:=u) (by rw[ai,if_neg hne])
theorem StepOK.same {o:Oper}{t:VT}{h u u':VH}{r:V}{gl ds:List Nat}(hs:StepOK P N o t h r u gl)(s:SameOK h u u' ds):StepOK P N o t h r u' (gl++ds):=by
 obtain⟨uu,hU,hS⟩:=hs
 have hin:∀b:Id,b.1∈ds→look (toH (puts u h)) b=look (toH h) b:=fun b hb=>by rw[ak,ak,s.old h b.1 hb]
 have hout:∀(g:HL) (b:Id),b.1∈ds→look (puts (uu.filter fun x=>!ds.contains x.1.1) g) b=look g b:=fun g b hb=>ax _ _ _ fun x hx e=>by
  have:=(List.mem_filter.1 hx).2
  rw[e] at this
  simp[hb] at this
 have hnew:∀(g:HL) (b:Id),b.1∉ds→look (puts (uu.filter fun x=>!ds.contains x.1.1) g) b=look (puts uu g) b:=fun g b hb=>ud (p:=fun b=>!ds.contains b.1) (by simp[hb])
 refine⟨uu.filter fun x=>!ds.contains x.1.1,⟨fun b=>?_,fun x hx=>?_⟩,fun f hf t' h' ht ha w0 S A ρ a w hsim=>?_⟩
 ·by_cases hb:b.1∈ds
  ·rw[hout _ b hb,ak,ak,ax _ _ _ (t8 (s.out _ hb))]
  ·rw[hnew _ b hb,hU.1 b,ak,ak,s.new h b.1 hb]
 ·obtain⟨h1,h2⟩:=List.mem_filter.1 hx
  have h3:=hU.2 x h1
  rw[dz] at h3⊢
  exact s.rest _ h3 (by simpa using h2)
 ·have hw:=hS f (fun k hk=>hf k (List.mem_append_left _ hk)) t' h' ht ha w0 S A ρ a w hsim
  refine Reg.wp_exit_mono (K:=pE P w0 S A N ρ t' h' (puts uu h') a o.dst r.toD) ?_ hw
  rintro a' w' ⟨v,ρ',rfl,hex,q1,q2⟩
  have he:∀b:Id,look (puts (uu.filter fun x=>!ds.contains x.1.1) h') b=look (puts uu h') b:=by
   intro b
   by_cases hb:b.1∈ds
   ·have e1:look (toH h) b=look h' b:=ha b (hf _ (List.mem_append_right _ hb))
    rw[hout _ b hb,←e1,←hin b hb,←hU.1 b]
    exact aV e1
   ·exact hnew _ b hb
  have hL:Live (puts (uu.filter fun x=>!ds.contains x.1.1) h')=Live (puts uu h'):=funext fun b=>by simp only[Live,he]
  have hO:okOf A ρ' (puts (uu.filter fun x=>!ds.contains x.1.1) h') w'=okOf A ρ' (puts uu h') w':=funext fun k=>by simp only[okOf,he]
  refine⟨v,ρ',rfl,hex,q1.congr (fun _=>rfl) he,?_⟩
  rw[hL,hO]
  exact q2
def wI (P:Program)(Θ:TT)(dep:Nat→List Nat)(chk:Bool)(N:Nat)(o:Oper)(k:Nat)(fws:pS)(t:VT)(h:VH)(n:Nat)(K:pS→VSt→Prop):Prop:=
 Chk (ow N o.dst) (Ch P Θ o.op t h n fun d u gl=>BR o.dst d t fun t'=>match u with
  |[]=>(match chk with
   |false=>K fws ⟨t',h,n⟩
   |true=>eA (e9 [] gl) fun f=>(match f with
    |[]=>K fws ⟨t',h,n⟩
    |f=>w6 (fun _=>dep k) fws f [] (K ((k,f,[])::fws) ⟨t',h,n⟩)))
  |u=>eJ (n+FH n u) fun n'=>match chk with
   |false=>Chk (vY n' u) (lF u h fun h'=>K fws ⟨t',h',n'⟩)
   |true=>wn h u fun u ds=>Chk (vY n' u) (lF u h fun h'=>eA (e9 [] (gl++ds)) fun f=>eA (keysV u) fun ws=>w6 (fun _=>dep k) fws f ws (K ((k,f,ws)::fws) ⟨t',h',n'⟩)))
def qC (N:Nat)(o:Oper)(t:VT)(h:VH)(n:Nat)(K:VSt→Prop):Prop:=Chk (ow N o.dst) (BR o.dst (.tup []) t fun t'=>K ⟨t',h,n⟩)
def jM (P:Program)(Θ:TT)(ops:Array Oper)(dep:Nat→List Nat)(chk:Bool)(N:Nat):List Oper→Nat→pS→VSt→(VSt→Prop)→Prop
 |[],_,_,σ,K=>K σ
 |o::l,k,fws,⟨t,h,n⟩,K=>match o.guard with
  |none=>wI P Θ dep chk N o k fws t h n fun fws' σ'=>jM P Θ ops dep chk N l (k+1) fws' σ' K
  |some (g,want)=>(match(ops[g]?).bind (·.dst) with
   |some s=>aQ t s fun v=>(match v with
    | .tt=>(match want with
      |true=>wI P Θ dep chk N o k fws t h n fun fws' σ'=>jM P Θ ops dep chk N l (k+1) fws' σ' K
      |false=>qC N o t h n fun σ'=>jM P Θ ops dep chk N l (k+1) fws σ' K)
    | .ff=>(match want with
      |false=>wI P Θ dep chk N o k fws t h n fun fws' σ'=>jM P Θ ops dep chk N l (k+1) fws' σ' K
      |true=>qC N o t h n fun σ'=>jM P Θ ops dep chk N l (k+1) fws σ' K)
    | .bool b=>iB b
     (match want with
      |true=>wI P Θ dep chk N o k fws ((s,.tt)::t) h n fun fws' σ'=>jM P Θ ops dep chk N l (k+1) fws' σ' K
      |false=>qC N o ((s,.tt)::t) h n fun σ'=>jM P Θ ops dep chk N l (k+1) fws σ' K)
     (match want with
      |false=>wI P Θ dep chk N o k fws ((s,.ff)::t) h n fun fws' σ'=>jM P Θ ops dep chk N l (k+1) fws' σ' K
      |true=>qC N o ((s,.ff)::t) h n fun σ'=>jM P Θ ops dep chk N l (k+1) fws σ' K)
    | .tup []=>qC N o t h n fun σ'=>jM P Θ ops dep chk N l (k+1) fws σ' K
    |_=>False)
   |none=>False)
theorem OpS.congr {o:Oper}{t t':List (Nat×D)}{h h':HL}{d:D}{u:HL}{f:List Nat}(ht:∀x,look t x=look t' x)(hh:∀b,look h b=look h' b)(hd:OpS P N o t h d u f):OpS P N o t' h' d u f:=
 fun t2 h2 e1 e2=>hd t2 h2 (fun x hx=>(oz fun k _=>ht k).trans (e1 x hx)) fun b hb=>(hh b).trans (e2 b hb)
theorem TRun.congr {ops:Array Oper}:∀{L:List (Oper×Rc)} {t t':List (Nat×D)} {h h':HL} {n:Nat},(∀x,look t x=look t' x)→(∀b,look h b=look h' b)→TRun P ops N t h n L→TRun P ops N t' h' n L
 |[],_,_,_,_,_,_,_,_=>trivial
 |(o,r)::L,t,t',h,h',n,he,hh,⟨h1,h2,h3⟩=>by
  refine⟨h1,?_,TRun.congr (fun x=>?_) (fun b=>aV (hh b)) h3⟩
  ·have hg:bX ops t o=bX ops t' o:=lk fun k _=>he k
   rcases h2 with⟨g1,g2⟩|⟨g1,g2⟩
   ·exact .inl ⟨hg▸g1,g2.congr he hh⟩
   ·exact .inr ⟨hg▸g1,g2⟩
  ·rw[dY,dY,he x]
def HD (k:Nat)(pre:List (Oper×Rc))(fws:pS):Prop:=
 pre.length=k∧∀i o r,pre[i]?=some (o,r)→(r.u≠[]∨r.f≠[])→∃f ws,(i,f,ws)∈fws∧(∀x∈r.u,x.1.1∈ws)∧∀x∈r.f,x∈f
theorem mQ:∀(k k':Nat) (l:List (Oper×Rc)) (t:List (Nat×D)),gK (fun _=>true) k l t=gK (fun _=>true) k' l t
 |_,_,[],_=>rfl
 |k,k',(o,r)::l,t=>mQ (k+1) (k'+1) l _
theorem mP:∀(k k':Nat) (l:List (Oper×Rc)) (t:HL),fW (fun _=>true) k l t=fW (fun _=>true) k' l t
 |_,_,[],_=>rfl
 |k,k',(o,r)::l,t=>mP (k+1) (k'+1) l _
def ko (σ:VSt):Prop:=∀c:Id,σ.n≤c.1→look (toH σ.h) c=none
def Runs (P:Program)(N:Nat)(ops:Array Oper)(dep:Nat→List Nat)(chk:Bool)(l:List Oper)(k:Nat)(fws:pS)(σ σ':VSt):Prop:=
 ∀pre:List (Oper×Rc),(chk=true→HD k pre fws)→∃L:List (Oper×Rc),L.map (·.1)=l∧TRun P ops N (eq σ.t) (toH σ.h) σ.n L∧
  (∀x,look (eq σ'.t) x=look (gK (fun _=>true) 0 L (eq σ.t)) x)∧(∀x,look (toH σ'.h) x=look (fW (fun _=>true) 0 L (toH σ.h)) x)∧
  ko σ'∧
  (chk=true→∀i j oi ri oj rj,i<k+j→(pre++L)[i]?=some (oi,ri)→L[j]?=some (oj,rj)→(dep (k+j)).contains i=false→(∀x∈ri.u,x.1.1∉rj.f∧∀y∈rj.u,x.1.1≠y.1.1)∧(∀x∈rj.u,x.1.1∉ri.f))
variable {ops:Array Oper} {dep:Nat→List Nat} {chk:Bool}
theorem Runs.nil {k:Nat}{fws:pS}{σ:VSt}(hn:ko σ):Runs P N ops dep chk [] k fws σ σ:=fun pre _=>
 ⟨[],rfl,trivial,fun _=>rfl,fun _=>rfl,hn,fun _ i j oi ri oj rj _ _ hj=>by simp at hj⟩
theorem Runs.congr {l:List Oper}{k:Nat}{fws:pS}{σ τ σ':VSt}(h:Runs P N ops dep chk l k fws τ σ')(ht:∀x,look (eq τ.t) x=look (eq σ.t) x)(hh:τ.h=σ.h)(hn:τ.n=σ.n):Runs P N ops dep chk l k fws σ σ':=by
 intro pre hpre
 obtain⟨L,h1,h2,h3,h4,h5,h6⟩:=h pre hpre
 rw[hh] at h2 h4
 rw[hn] at h2
 exact⟨L,h1,h2.congr ht (fun _=>rfl),fun x=>by rw[h3];exact kh _ L 0 _ _ x (ht x),h4,h5,h6⟩
theorem rg {a b:List Nat}(h:rb a b=true):∀x∈a,x∉b:=by
 intro x hx
 unfold rb at h
 rw[List.all_eq_true] at h
 simpa using h x hx
theorem Runs.step {o:Oper}{l:List Oper}{k:Nat}{fws:pS}{σ σ':VSt}{d:V}{u:VH}{gl:List Nat}{n':Nat}(hg:bX ops (eq σ.t) o=some true)(hd:ow N o.dst=true)(ha:StepOK P N o σ.t σ.h d u gl)(hn:σ.n≤n')(hu:vY n' u=true)
  (hc:chk=true→kX (dep k) fws gl (keysV u)=true) {fws':pS} (hf:chk=true→fws'=(k,gl,keysV u)::fws∨(fws'=fws∧gl=[]∧u=[])) (h:Runs P N ops dep chk l (k+1) fws' ⟨ur o.dst d σ.t,puts u σ.h,n'⟩ σ'):Runs P N ops dep chk (o::l) k fws σ σ':=by
 intro pre hpre
 obtain⟨uu,hU,hS⟩:=ha
 have hS:=hS gl fun k hk=>hk
 let r:Rc:=⟨d.toD,uu,gl,σ.n,n'⟩
 have huk:∀x∈uu,x.1.1∈keysV u:=fun x hx=>by rw[←dz];exact hU.2 x hx
 obtain⟨L,h1,h2,h3,h4,h5,h6⟩:=h (pre++[(o,r)]) (fun hchk=>by
  obtain⟨q1,q2⟩:=hpre hchk
  refine⟨by simp[q1],fun i o' r' hi hne=>?_⟩
  have hmono:∀x∈fws,x∈fws':=by
   intro x hx
   rcases hf hchk with e|⟨e,_⟩
   ·rw[e];exact List.mem_cons_of_mem _ hx
   ·rw[e];exact hx
  rcases Nat.lt_or_ge i pre.length with hlt|hge
  ·rw[List.getElem?_append_left hlt] at hi
   obtain⟨f,ws,a1,a2⟩:=q2 i o' r' hi hne
   exact⟨f,ws,hmono _ a1,a2⟩
  ·rw[List.getElem?_append_right hge] at hi
   have:i-pre.length=0:=by
    have:=(List.getElem?_eq_some_iff.1 hi).1
    simpa using this
   rw[this] at hi
   simp only[List.getElem?_cons_zero,Option.some.injEq,Prod.mk.injEq] at hi
   obtain⟨rfl,rfl⟩:=hi
   have hik:i=k:=by omega
   rcases hf hchk with e|⟨_,e1,e2⟩
   ·rw[hik,e]
    exact⟨gl,keysV u,List.mem_cons_self ..,huk,fun x hx=>hx⟩
   ·exfalso
    rcases hne with hne|hne
    ·refine hne ?_
     show uu=[]
     cases huu:uu with
     |nil=>rfl
     |cons x l=>have:=huk x (by rw[huu];exact List.mem_cons_self ..);rw[e2] at this;cases this
    ·exact hne e1)
 have hdst:∀x,o.dst=some x→x<N:=by
  intro x hx
  simpa[ow,hx,Nat.blt_eq] using hd
 rw[nV] at h2
 have h2':=h2.congr (fun _=>rfl) (fun b=>(hU.1 b).symm)
 refine⟨(o,r)::L,by simp[h1],⟨⟨rfl,hn,fun x hx=>rU hu _ (hU.2 x hx),hdst⟩,.inl ⟨hg,hS⟩,h2'⟩,fun x=>(h3 x).trans ?_,fun x=>(h4 x).trans ?_,h5,fun hchk i j oi ri oj rj hij hi hj hdp=>?_⟩
 ·show look (gK _ 0 L (eq (ur o.dst d σ.t))) x=look (gK _ 1 L (if(fun _=>true) 0=true then _ else _)) x
  simp only[if_true,nV]
  rw[mQ 0 1]
 ·show look (fW _ 0 L (toH (puts u σ.h))) x=look (fW _ 1 L (if(fun _=>true) 0=true then _ else _)) x
  simp only[if_true]
  rw[mP 0 1]
  exact kg _ L 1 _ _ x (hU.1 x).symm
 ·cases j with
  |zero=>
   simp only[List.getElem?_cons_zero,Option.some.injEq,Prod.mk.injEq] at hj
   obtain⟨rfl,rfl⟩:=hj
   obtain⟨q1,q2⟩:=hpre hchk
   rw[List.getElem?_append_left (by omega)] at hi
   by_cases hne:ri.u≠[]∨ri.f≠[]
   ·obtain⟨f0,ws0,hm,m1,m2⟩:=q2 i oi ri hi hne
    have hcf:=hc hchk
    unfold kX at hcf
    rw[List.all_eq_true] at hcf
    have:=hcf _ hm
    simp only[Nat.add_zero] at hdp
    simp only[hdp,Bool.or_false,Bool.and_eq_true] at this
    obtain⟨⟨c1,c2⟩,c3⟩:=this
    exact⟨fun x hx=>⟨rg c1 _ (m1 x hx),fun y hy he=>rg c2 _ (m1 x hx) (he▸huk y hy)⟩,fun x hx hxf=>rg c3 _ (huk x hx) (m2 _ hxf)⟩
   ·have e1:ri.u=[]:=by
     rcases Classical.em (ri.u=[]) with h|h
     ·exact h
     ·exact absurd (.inl h) hne
    have e2:ri.f=[]:=by
     rcases Classical.em (ri.f=[]) with h|h
     ·exact h
     ·exact absurd (.inr h) hne
    rw[e1,e2]
    exact⟨fun x hx=>(by cases hx),fun x hx h=>(by cases h)⟩
  |succ j=>
   refine h6 hchk i j oi ri oj rj (by omega) (by simpa using hi) (by simpa using hj) (by rw[show k+1+j=k+(j+1) by omega];exact hdp)
theorem Runs.skip {o:Oper}{l:List Oper}{k:Nat}{fws:pS}{σ σ':VSt}(hg:bX ops (eq σ.t) o=some false)(hd:ow N o.dst=true)(h:Runs P N ops dep chk l (k+1) fws ⟨ur o.dst (.tup []) σ.t,σ.h,σ.n⟩ σ'):Runs P N ops dep chk (o::l) k fws σ σ':=by
 intro pre hpre
 let r:Rc:=⟨.tup [],[],[],σ.n,σ.n⟩
 obtain⟨L,h1,h2,h3,h4,h5,h6⟩:=h (pre++[(o,r)]) (fun hchk=>by
  obtain⟨q1,q2⟩:=hpre hchk
  refine⟨by simp[q1],fun i o' r' hi hne=>?_⟩
  rcases Nat.lt_or_ge i pre.length with hlt|hge
  ·rw[List.getElem?_append_left hlt] at hi
   exact q2 i o' r' hi hne
  ·rw[List.getElem?_append_right hge] at hi
   have:i-pre.length=0:=by
    have:=(List.getElem?_eq_some_iff.1 hi).1
    simpa using this
   rw[this] at hi
   simp only[List.getElem?_cons_zero,Option.some.injEq,Prod.mk.injEq] at hi
   obtain⟨rfl,rfl⟩:=hi
   simp[r] at hne)
 have hdst:∀x,o.dst=some x→x<N:=by
  intro x hx
  simpa[ow,hx,Nat.blt_eq] using hd
 rw[nV] at h2
 refine⟨(o,r)::L,by simp[h1],⟨⟨rfl,Nat.le_refl _,by simp[r],hdst⟩,.inr ⟨hg,rfl,rfl,rfl⟩,h2⟩,fun x=>(h3 x).trans ?_,fun x=>(h4 x).trans ?_,h5,fun hchk i j oi ri oj rj hij hi hj hdp=>?_⟩
 ·show look (gK _ 0 L (eq (ur o.dst (.tup []) σ.t))) x=look (gK _ 1 L (if(fun _=>true) 0=true then _ else _)) x
  simp only[if_true,nV]
  rw[mQ 0 1]
  rfl
 ·show look (fW _ 0 L (toH σ.h)) x=look (fW _ 1 L (if(fun _=>true) 0=true then _ else _)) x
  simp only[if_true]
  rw[mP 0 1]
  rfl
 ·cases j with
  |zero=>
   simp only[List.getElem?_cons_zero,Option.some.injEq,Prod.mk.injEq] at hj
   obtain⟨rfl,rfl⟩:=hj
   refine⟨fun x hx=>⟨by simp[r],by simp[r]⟩,by simp[r]⟩
  |succ j=>
   refine h6 hchk i j oi ri oj rj (by omega) (by simpa using hi) (by simpa using hj) (by rw[show k+1+j=k+(j+1) by omega];exact hdp)
theorem sV {gl:List Nat}{o:Oper}{t:VT}{h:VH}{r:V}{u:VH}(hs:StepOK P N o t h r u gl):StepOK P N o t h r u (e9 [] gl):=dZ hs fun k hk=>pT.2 (.inr hk)
theorem EU {Θ:TT}(hΘ:Θ.ok P){o:Oper}{k:Nat}{fws:pS}{σ:VSt}(hfr:ko σ){K:pS→VSt→Prop}(h:wI P Θ dep chk N o k fws σ.t σ.h σ.n K):
  ∃(d:V) (u:VH) (gl:List Nat) (n':Nat) (fws':pS),ow N o.dst=true∧StepOK P N o σ.t σ.h d u gl∧σ.n≤n'∧vY n' u=true∧(chk=true→kX (dep k) fws gl (keysV u)=true)∧
   (chk=true→fws'=(k,gl,keysV u)::fws∨(fws'=fws∧gl=[]∧u=[]))∧K fws' ⟨ur o.dst d σ.t,puts u σ.h,n'⟩:=by
 obtain⟨hd,h1⟩:=Chk.ok h
 obtain⟨d,u,gl,ha0,h2⟩:=Ci (N:=N) hΘ hfr h1
 have ha:=sV ha0
 have h3:=ut h2
 split at h3
 ·split at h3
  ·exact⟨d,[],_,σ.n,fws,hd,ha,Nat.le_refl _,rfl,fun hc=>(by cases hc),fun hc=>(by cases hc),h3⟩
  ·have h4:=bw h3
   split at h4
   ·rename_i e
    exact⟨d,[],_,σ.n,fws,hd,ha,Nat.le_refl _,rfl,fun _=>by rw[e];exact zQ,fun _=>.inr ⟨rfl,e,rfl⟩,h4⟩
   ·obtain⟨h5,h6⟩:=te h4
    exact⟨d,[],_,σ.n,_,hd,ha,Nat.le_refl _,rfl,fun _=>h5,fun _=>.inl rfl,h6⟩
 ·have h4:=aW h3
  split at h4
  ·obtain⟨hl,h5⟩:=h4.ok
   have h6:=fV h5
   exact⟨d,_,_,_,fws,hd,ha,Nat.le_add_right _ _,hl,fun hc=>(by cases hc),fun hc=>(by cases hc),h6⟩
  ·obtain⟨u',ds,s,h5⟩:=y7 h4
   obtain⟨hl,h5⟩:=h5.ok
   have h6:=fV h5
   have ha2:=sV (ha0.same s)
   obtain⟨h7,h8⟩:=te (bw (bw h6))
   exact⟨d,_,_,_,_,hd,ha2,Nat.le_add_right _ _,hl,fun _=>h7,fun _=>.inl rfl,h8⟩
theorem vC {o:Oper}{t:VT}{h:VH}{n n':Nat}{d:V}{u:VH}{gl:List Nat}(hn:∀c:Id,n≤c.1→look (toH h) c=none)(hle:n≤n')(ha:StepOK P N o t h d u gl)(hu:vY n' u=true){t':VT}:ko ⟨t',puts u h,n'⟩:=by
 obtain⟨uu,hU,_⟩:=ha
 exact p8 (n:=n') (fun c hc=>hn c (Nat.le_trans hle hc)) hU hu
theorem dX {o:Oper}{t:VT}{g s:Nat}{want b:Bool}{v:V}(h1:o.guard=some (g,want))(h2:(ops[g]?).bind (·.dst)=some s)(h3:look t s=some v)(hv:v.toD= .bool b):bX ops (eq t) o=some (b==want):=by
 unfold bX
 rw[h1]
 simp only[h2,bU,h3,Option.map_some,hv]
theorem js {t:VT}{s:Nat}{v v':V}(h:look t s=some v)(he:v'.toD=v.toD)(x:Nat):look (eq ((s,v')::t)) x=look (eq t) x:=by
 rw[bU,bU]
 show Option.map _ (if x=s then _ else _)=_
 split
 ·rename_i e;subst e;rw[h];simp[he]
 ·rfl
theorem lW {Θ:TT}(hΘ:Θ.ok P):∀{l:List Oper} {k:Nat} {fws:pS} {σ:VSt} {K:VSt→Prop},ko σ→jM P Θ ops dep chk N l k fws σ K→∃σ',K σ'∧Runs P N ops dep chk l k fws σ σ'
 |[],k,fws,σ,K,hn,h=>⟨σ,h,Runs.nil hn⟩
 |o::l,k,fws,σ,K,hn,h=>by
  have run:∀σ:VSt,ko σ→bX ops (eq σ.t) o=some true→(wI P Θ dep chk N o k fws σ.t σ.h σ.n fun fws' σ'=>jM P Θ ops dep chk N l (k+1) fws' σ' K)→∃σ',K σ'∧Runs P N ops dep chk (o::l) k fws σ σ':=by
   intro σ hn hg h
   obtain⟨d,u,gl,n',fws',h1,h2,h3,h4,h5,h6,h7⟩:=EU hΘ hn h
   obtain⟨σ',h9,h10⟩:=lW hΘ (vC hn h3 h2 h4) h7
   exact⟨σ',h9,Runs.step hg h1 h2 h3 h4 h5 h6 h10⟩
  have skip:∀σ:VSt,ko σ→bX ops (eq σ.t) o=some false→(qC N o σ.t σ.h σ.n fun σ'=>jM P Θ ops dep chk N l (k+1) fws σ' K)→∃σ',K σ'∧Runs P N ops dep chk (o::l) k fws σ σ':=by
   intro σ hn hg h
   obtain⟨hd,h7⟩:=Chk.ok h
   have h7:=ut h7
   obtain⟨σ',h8,h9⟩:=lW (σ:=⟨ur o.dst (.tup []) σ.t,σ.h,σ.n⟩) hΘ hn h7
   exact⟨σ',h8,Runs.skip hg hd h9⟩
  obtain⟨st,sh,sn⟩:=σ
  unfold jM at h
  split at h
  ·rename_i e
   exact run ⟨st,sh,sn⟩ hn (by unfold bX;rw[e]) h
  ·rename_i g want e
   split at h
   ·rename_i s es
    obtain⟨v,h1,h2⟩:=aq h
    split at h2
    ·cases want with
     |true=>exact run ⟨st,sh,sn⟩ hn (dX e es (b:=true) h1 rfl) h2
     |false=>exact skip ⟨st,sh,sn⟩ hn (dX e es (b:=true) h1 rfl) h2
    ·cases want with
     |true=>exact skip ⟨st,sh,sn⟩ hn (dX e es (b:=false) h1 rfl) h2
     |false=>exact run ⟨st,sh,sn⟩ hn (dX e es (b:=false) h1 rfl) h2
    ·rename_i b
     cases b with
     |true=>
      have h3:=h2.1 rfl
      have hsh:∀x,look (eq ((s,.tt)::st)) x=look (eq st) x:=js h1 rfl
      cases want with
      |true=>
       obtain⟨σ',k1,k2⟩:=run ⟨(s,.tt)::st,sh,sn⟩ hn (dX e es (b:=true) (v:=.tt) (by simp[look]) rfl) h3
       exact⟨σ',k1,k2.congr hsh rfl rfl⟩
      |false=>
       obtain⟨σ',k1,k2⟩:=skip ⟨(s,.tt)::st,sh,sn⟩ hn (dX e es (b:=true) (v:=.tt) (by simp[look]) rfl) h3
       exact⟨σ',k1,k2.congr hsh rfl rfl⟩
     |false=>
      have h3:=h2.2 rfl
      have hsh:∀x,look (eq ((s,.ff)::st)) x=look (eq st) x:=js h1 rfl
      cases want with
      |true=>
       obtain⟨σ',k1,k2⟩:=skip ⟨(s,.ff)::st,sh,sn⟩ hn (dX e es (b:=false) (v:=.ff) (by simp[look]) rfl) h3
       exact⟨σ',k1,k2.congr hsh rfl rfl⟩
      |false=>
       obtain⟨σ',k1,k2⟩:=run ⟨(s,.ff)::st,sh,sn⟩ hn (dX e es (b:=false) (v:=.ff) (by simp[look]) rfl) h3
       exact⟨σ',k1,k2.congr hsh rfl rfl⟩
    ·refine skip ⟨st,sh,sn⟩ hn ?_ h2
     unfold bX
     rw[e]
     simp only[es,bU,h1,Option.map_some,V.toD,ah]
    ·exact h2.elim
   ·exact h.elim
end Go.Proofs.YthmfppknagbkeaaGreatDoor.Am
namespace Go.Proofs.YthmfppknagbkeaaGreatDoor.Am
open Go Go.RowKit
variable {P:Program} {N:Nat} {K:Id→Prop}
def At (P:Program)(N:Nat)(K:Id→Prop)(c:Code)(Q:Exit→VSt→Prop)(σ:VSt):Prop:=∃e σ',Brings P N K c σ.toD e σ'.toD∧(eZ P N K σ'.toD→Q e σ')
theorem gx {c:Code}{σ:St}(h:¬eZ P N K σ)(e:Exit)(σ':St):Brings P N K c σ e σ':=fun w0 S A ρ0 a w hs=>absurd ⟨w0,S,A,ρ0,a,w,hs⟩ h
variable {Q:Exit→VSt→Prop} {σ:VSt}
theorem At.real {c:Code}(h:eZ P N K σ.toD→At P N K c Q σ):At P N K c Q σ:=by
 rcases Classical.em (eZ P N K σ.toD) with hr|hr
 ·exact h hr
 ·exact⟨.normal,σ,gx hr _ _,fun h=>absurd h hr⟩
theorem At.mono {c:Code}{Q':Exit→VSt→Prop}(h:At P N K c Q σ)(hq:∀e σ,Q e σ→Q' e σ):At P N K c Q' σ:=by
 obtain⟨e,σ',h1,h2⟩:=h
 exact⟨e,σ',h1,fun hr=>hq _ _ (h2 hr)⟩
def Fs (next:VSt→Prop)(Q:Exit→VSt→Prop):Exit→VSt→Prop
 | .normal,σ=>next σ
 |e,σ=>Q e σ
def vd (id:Nat)(Q:Exit→VSt→Prop):Exit→VSt→Prop
 | .exit id',σ=>bif Nat.beq id' id then Q .normal σ else Q (.exit id') σ
 |e,σ=>Q e σ
theorem cN (h:Q .normal σ):At P N K .skip Q σ:=⟨.normal,σ,.skip,fun _=>h⟩
theorem dt (h:Q .ret σ):At P N K .ret Q σ:=⟨.ret,σ,.ret,fun _=>h⟩
theorem cK {id:Nat}(h:Q (.exit id) σ):At P N K (.exit id) Q σ:=⟨.exit id,σ,.exit,fun _=>h⟩
theorem d7 {x y:Code}(h:At P N K x (Fs (At P N K y Q) Q) σ):At P N K (.seq x y) Q σ:=by
 obtain⟨e,σ1,h1,h2⟩:=h
 rcases Classical.em (eZ P N K σ1.toD) with hr|hr
 ·cases e with
  |normal=>
   obtain⟨e2,σ2,h3,h4⟩:=h2 hr
   exact⟨e2,σ2,.seqN h1 h3,h4⟩
  |_=>exact⟨_,σ1,.seqX (by simp) h1,fun hr=>h2 hr⟩
 ·cases e with
  |normal=>exact⟨.normal,σ1,.seqN h1 (gx hr _ _),fun h=>absurd h hr⟩
  |_=>exact⟨_,σ1,.seqX (by simp) h1,fun h=>absurd h hr⟩
theorem dx {id:Nat}{c:Code}(h:At P N K c (vd id Q) σ):At P N K (.block id c) Q σ:=by
 obtain⟨e,σ1,h1,h2⟩:=h
 cases e with
 |exit id'=>
  by_cases hid:id'=id
  ·subst hid
   exact⟨.normal,σ1,.blockE h1,fun hr=>by have:=h2 hr;simpa only[vd,Nat.beq_refl,cond_true] using this⟩
  ·refine⟨.exit id',σ1,.blockX (by simp[hid]) h1,fun hr=>?_⟩
   have hb:Nat.beq id' id=false:=by
    cases hb:Nat.beq id' id with
    |false=>rfl
    |true=>exact absurd (Nat.eq_of_beq_eq_true hb) hid
   have:=h2 hr
   simpa only[vd,hb,cond_false] using this
 |_=>exact⟨_,σ1,.blockX (by simp) h1,h2⟩
def Fb (c:Operand)(σ:VSt)(A B:VSt→Prop):Prop:=
 match c,σ with
 | .tmp s,⟨t,h,n⟩=>aQ t s fun v=>(match v with
  | .tt=>A ⟨t,h,n⟩
  | .ff=>B ⟨t,h,n⟩
  | .bool b=>iB b (A ⟨(s,.tt)::t,h,n⟩) (B ⟨(s,.ff)::t,h,n⟩)
  |_=>False)
 | .const (.bool true),σ=>A σ
 | .const (.bool false),σ=>B σ
 |_,_=>False
theorem SimS.congr {w0:World}{S:SD}{A:Nat→Prop}{ρ0:Id→Pl}{a:Act}{w:World}{σ σ':St}(h:SimS P w0 S A N ρ0 K σ a w)(ht:∀x,look σ'.t x=look σ.t x)(hh:∀x,look σ'.h x=look σ.h x)(hn:σ'.n=σ.n):SimS P w0 S A N ρ0 K σ' a w:=by
 obtain⟨h1,h2,ρ,h3,h4⟩:=h
 refine⟨fun b hb=>by rw[hh];exact h1 b (by omega),fun b hb=>?_,ρ,h3,h4.congr ht hh⟩
 have:=h2 b hb
 unfold Live at this⊢
 rw[hh]
 exact this
theorem nd {s:Nat}{v v':V}(h:look σ.t s=some v)(he:v'.toD=v.toD):Weak P N K σ.toD (VSt.toD ⟨(s,v')::σ.t,σ.h,σ.n⟩):=
 fun _ _ _ _ _ _ hs=>hs.congr (fun x=>js h he x) (fun _=>rfl) rfl
theorem dB {c:Operand}{x y:Code}(h:Fb c σ (At P N K x Q) (At P N K y Q)):At P N K (.cond c x y) Q σ:=by
 unfold Fb at h
 split at h
 ·rename_i s st sh sn
  obtain⟨v,h1,h2⟩:=aq h
  split at h2
  ·obtain⟨e,σ1,h3,h4⟩:=h2
   exact⟨e,σ1,.condT (by simp only[aA,VSt.toD,bU,h1,Option.map_some,V.toD]) h3,h4⟩
  ·obtain⟨e,σ1,h3,h4⟩:=h2
   exact⟨e,σ1,.condF (by simp only[aA,VSt.toD,bU,h1,Option.map_some,V.toD]) h3,h4⟩
  ·rename_i b
   have hev:aA (VSt.toD ⟨st,sh,sn⟩).t (.tmp s)=some (.bool b):=by simp only[aA,VSt.toD,bU,h1,Option.map_some,V.toD]
   cases b with
   |true=>
    obtain⟨e,σ1,h3,h4⟩:=h2.1 rfl
    exact⟨e,σ1,.condT hev (.pre (nd (σ:=⟨st,sh,sn⟩) h1 rfl) h3),h4⟩
   |false=>
    obtain⟨e,σ1,h3,h4⟩:=h2.2 rfl
    exact⟨e,σ1,.condF hev (.pre (nd (σ:=⟨st,sh,sn⟩) h1 rfl) h3),h4⟩
  ·exact h2.elim
 ·obtain⟨e,σ1,h3,h4⟩:=h
  exact⟨e,σ1,.condT rfl h3,h4⟩
 ·obtain⟨e,σ1,h3,h4⟩:=h
  exact⟨e,σ1,.condF rfl h3,h4⟩
 ·exact h.elim
theorem s4 {c:Code}(h:ko σ→At P N K c Q σ):At P N K c Q σ:=by
 rcases Classical.em (ko σ) with hr|hr
 ·exact h hr
 ·refine At.real fun⟨w0,S,A,ρ0,a,w,hs⟩=>absurd hs.1 hr
theorem cM {Θ:TT}(hΘ:Θ.ok P){id:Nat}{ops:Array Oper}(h:jM P Θ ops (fun _=>[]) false N ops.toList 0 [] σ (Q .normal)):At P N K (.region id ops false) Q σ:=by
 refine s4 fun hn=>?_
 obtain⟨σ',h1,h2⟩:=lW hΘ hn h
 obtain⟨L,l1,l2,l3,l4,l5,_⟩:=h2 [] fun h=>by cases h
 exact⟨.normal,σ',.regionS l1 l2 l3 l4 fun _=>l5,fun _=>h1⟩
def HE (o:Oper):Nat:=o.after.toList.foldl (fun m e=>bif Region.binds .any e then m|||(1<<<e.on) else m) 0
def FA (ops:List Oper):Nat→Nat→Nat
 |0,m=>m
 |j+1,m=>match m.testBit j with
  |true=>FA ops j (m|||(match ops[j]? with|some o=>HE o|none=>0))
  |false=>FA ops j m
def FN (ops:Array Oper)(k:Nat):List Nat:=
 match ops.toList[k]? with
 |some o=>(List.range k).filter fun i=>(FA ops.toList k (HE o)).testBit i
 |none=>[]
theorem cL {Θ:TT}(hΘ:Θ.ok P)(hm:P.follows .mixedOrders=true){id:Nat}{ops:Array Oper}(hok:Reg.okB ops (FN ops)=true)(h:jM P Θ ops (FN ops) true N ops.toList 0 [] σ (Q .normal)):At P N K (.region id ops true) Q σ:=by
 refine s4 fun hn=>?_
 obtain⟨σ',h1,h2⟩:=lW hΘ hn h
 obtain⟨L,l1,l2,l3,l4,l5,l6⟩:=h2 [] fun _=>⟨rfl,fun i o r hi=>by simp at hi⟩
 refine⟨.normal,σ',(.regionD (FN ops) hm hok l1 l2 ?_ l3 l4 fun _=>l5),fun _=>h1⟩
 intro i j oi ri oj rj hij hi hj hdp
 exact l6 rfl i j oi ri oj rj (by omega) (by simpa using hi) hj (by simpa using hdp)
end Go.Proofs.YthmfppknagbkeaaGreatDoor.Am
namespace Go.Proofs.YthmfppknagbkeaaGreatDoor.Am
open Go Go.RowKit
variable {P:Program} {N:Nat} {K:Id→Prop} {os:List Nat} {n:Nat} {h:VH}
def IY (h:VH)(b:Nat):Bool:=match aC h b with
 |some (.row ..)|some (.lit ..)|some (.var ..)|some (.vari ..)=>true
 |_=>false
def Bm (h:VH):List Nat→List Nat
 |[]=>[]
 |b::l=>match Nat.ble 4 b && IY h b with|true=>b::Bm h l|false=>Bm h l
def tL:VB→List Nat
 | .var _ cs=>ec cs
 | .vari _ pre _ _ _ post=>ec pre++ec post
 | .lit _ vs=>ec vs
 |_=>[]
def rF (h:VH):Nat→Nat→List Nat→(List Nat→Prop)→Prop
 |0,_,l,K=>K l
 |k+1,i,l,K=>match l[i]? with
  |none=>K l
  |some b=>eA (e9 l (Bm h (match aC h b with|some x=>tL x|none=>[]))) fun l=>rF h k (i+1) l K
theorem qa {h:VH}:∀{k i:Nat} {l:List Nat} {K:List Nat→Prop},rF h k i l K→∃l,K l
 |0,_,l,_,hk=>⟨l,hk⟩
 |k+1,i,l,K,hk=>by
  simp only[rF] at hk
  split at hk
  ·exact⟨_,hk⟩
  ·have hk:=bw hk
   exact qa hk
def rG (h:VH)(l:List Nat)(K:List Nat→Prop):Prop:=eA l fun l=>rF h 60 0 l K
theorem oH {h:VH}{l:List Nat}{K:List Nat→Prop}(hk:rG h l K):∃l,K l:=qa (bw hk)
def Fe:VT→List Nat
 |[]=>[]
 |(_,v)::l=>ex v++Fe l
mutual
def bh (os:List Nat)(v:V)(K:V→Prop):Prop:=
 match v with
 | .ref b=>mI b os 4 fun r=>(match r with|some i=>K (.ref i)|none=>False)
 | .ptr b o=>mI b os 4 fun r=>(match r with|some i=>K (.ptr i o)|none=>False)
 | .eptr b j o=>mI b os 4 fun r=>(match r with|some i=>K (.eptr i j o)|none=>False)
 | .vref b o q=>mI b os 4 fun r=>(match r with|some i=>K (.vref i o q)|none=>False)
 | .aptr b p j=>mI b os 4 fun r=>(match r with|some i=>K (.aptr i p j)|none=>False)
 | .fref k i=>Chk (Nat.blt k 4) (K (.fref k i))
 | .fptr k i o=>Chk (Nat.blt k 4) (K (.fptr k i o))
 | .feptr k i j o=>Chk (Nat.blt k 4) (K (.feptr k i j o))
 | .faptr k i p j=>Chk (Nat.blt k 4) (K (.faptr k i p j))
 | .hro k o=>Chk (Nat.blt k 4) (K (.hro k o))
 | .hpo k o=>Chk (Nat.blt k 4) (K (.hpo k o))
 | .agg cs=>ji os cs fun cs=>K (.agg cs)
 | .tup cs=>ji os cs fun cs=>K (.tup cs)
 | .clo f cs=>ji os cs fun cs=>K (.clo f cs)
 | .ifc T v=>bh os v fun v=>K (.ifc T v)
 | .int k n=>K (.int k n)
 | .bool b=>K (.bool b)
 | .tt=>K (.bool true)
 | .ff=>K (.bool false)
 | .str s=>K (.str s)
 | .lst t xs=>K (.lst t xs)
 | .box t x=>K (.box t x)
 | .nilp=>K .nilp
 | .nils=>K .nils
 | .nilf=>K .nilf
 | .nili=>K .nili
 | .gv g=>K (.gv g)
 | .gp _=>False
 | .iptr t x o=>K (.iptr t x o)
 | .obo t o=>K (.obo t o)
 | .undef=>K .undef
 | .junk=>K .junk
def ji (os:List Nat)(l:List V)(K:List V→Prop):Prop:=
 match l with
 |[]=>K []
 |v::l=>bh os v fun v=>ji os l fun l=>K (v::l)
end
structure KeepOK (os:List Nat)(h h':VH):Prop where
 sgl:∀m b,os[m]?=some b→Live (toH h) (b,0)→Live (toH h') (4+m,0)
 fam:∀k,k<4→∀i,Live (toH h) (k,i)→Live (toH h') (k,i)
section
variable {h':VH}
theorem G1 (H:KeepOK os h h'){m b:Nat}(hb:os[m]?=some b):Rn (toH h) (gI (gN os n)) (toH h') (.ref (b,0)) (.ref (4+m,0)):=by
 have e:gI (gN os n) (4+m,0)=(b,0):=by simp only[gI,eV,db hb]
 have:=Rn.ref (h:=toH h) (g:=gI (gN os n)) (h':=toH h') (4+m,0) fun hl=>H.sgl m b hb (by rw[e] at hl;exact hl)
 rwa [e] at this
theorem B1 (H:KeepOK os h h'){m b:Nat}(hb:os[m]?=some b)(o:Nat):Rn (toH h) (gI (gN os n)) (toH h') (.ptr (b,0) o) (.ptr (4+m,0) o):=by
 have e:gI (gN os n) (4+m,0)=(b,0):=by simp only[gI,eV,db hb]
 have:=Rn.ptr (h:=toH h) (g:=gI (gN os n)) (h':=toH h') (4+m,0) o fun hl=>H.sgl m b hb (by rw[e] at hl;exact hl)
 rwa [e] at this
theorem Ey (H:KeepOK os h h'){m b:Nat}(hb:os[m]?=some b)(j o:Nat):Rn (toH h) (gI (gN os n)) (toH h') (.eptr (b,0) j o) (.eptr (4+m,0) j o):=by
 have e:gI (gN os n) (4+m,0)=(b,0):=by simp only[gI,eV,db hb]
 have:=Rn.eptr (h:=toH h) (g:=gI (gN os n)) (h':=toH h') (4+m,0) j o fun hl=>H.sgl m b hb (by rw[e] at hl;exact hl)
 rwa [e] at this
theorem EA (H:KeepOK os h h'){m b:Nat}(hb:os[m]?=some b)(o q:Nat):Rn (toH h) (gI (gN os n)) (toH h') (.vref (b,0) o q) (.vref (4+m,0) o q):=by
 have e:gI (gN os n) (4+m,0)=(b,0):=by simp only[gI,eV,db hb]
 have:=Rn.vref (h:=toH h) (g:=gI (gN os n)) (h':=toH h') (4+m,0) o q fun hl=>H.sgl m b hb (by rw[e] at hl;exact hl)
 rwa [e] at this
theorem rE {k:Nat}(hk:k<4)(i:Nat):gI (gN os n) (k,i)=(k,i):=by simp only[gI,mo os n hk]
theorem xY (H:KeepOK os h h'){k:Nat}(hk:k<4)(i:Nat):Rn (toH h) (gI (gN os n)) (toH h') (.ref (k,i)) (.ref (k,i)):=by
 have e:gI (gN os n) (k,i)=(k,i):=rE hk i
 have:=Rn.ref (h:=toH h) (g:=gI (gN os n)) (h':=toH h') (k,i) fun hl=>H.fam k hk i (by rw[e] at hl;exact hl)
 rwa [e] at this
theorem sl (H:KeepOK os h h'){k:Nat}(hk:k<4)(i o:Nat):Rn (toH h) (gI (gN os n)) (toH h') (.ptr (k,i) o) (.ptr (k,i) o):=by
 have e:gI (gN os n) (k,i)=(k,i):=rE hk i
 have:=Rn.ptr (h:=toH h) (g:=gI (gN os n)) (h':=toH h') (k,i) o fun hl=>H.fam k hk i (by rw[e] at hl;exact hl)
 rwa [e] at this
theorem B0 (H:KeepOK os h h'){k:Nat}(hk:k<4)(i j o:Nat):Rn (toH h) (gI (gN os n)) (toH h') (.eptr (k,i) j o) (.eptr (k,i) j o):=by
 have e:gI (gN os n) (k,i)=(k,i):=rE hk i
 have:=Rn.eptr (h:=toH h) (g:=gI (gN os n)) (h':=toH h') (k,i) j o fun hl=>H.fam k hk i (by rw[e] at hl;exact hl)
 rwa [e] at this
theorem pd (H:KeepOK os h h'){k:Nat}(hk:k<4)(o:Option Nat):Rn (toH h) (gI (gN os n)) (toH h') (l9 k o) (l9 k o):=by
 cases o with
 |none=>exact .pure _ rfl
 |some i=>exact xY H hk i
theorem Fn (H:KeepOK os h h'){k:Nat}(hk:k<4)(o:Option Nat):Rn (toH h) (gI (gN os n)) (toH h') (m6 k o) (m6 k o):=by
 cases o with
 |none=>exact .pure _ rfl
 |some i=>exact sl H hk i 0
theorem kC {a b:Nat}(h:Nat.blt a b=true):a<b:=by simpa[Nat.blt_eq] using h
mutual
theorem jh:∀{v:V} {K:V→Prop},bh os v K→∃r:V,(∀h',KeepOK os h h'→Rn (toH h) (gI (gN os n)) (toH h') v.toD r.toD)∧r.one=v.one∧K r
 | .ref b,K,hk=>by
  simp only[bh] at hk
  obtain⟨r,r1,r2,hk⟩:=ef hk
  split at hk
  ·obtain⟨m,rfl,hm⟩:=r2 _ rfl
   exact⟨.ref (4+m),fun h' H=>G1 H hm,rfl,hk⟩
  ·exact hk.elim
 | .ptr b o,K,hk=>by
  simp only[bh] at hk
  obtain⟨r,r1,r2,hk⟩:=ef hk
  split at hk
  ·obtain⟨m,rfl,hm⟩:=r2 _ rfl
   exact⟨.ptr (4+m) o,fun h' H=>B1 H hm o,rfl,hk⟩
  ·exact hk.elim
 | .eptr b j o,K,hk=>by
  simp only[bh] at hk
  obtain⟨r,r1,r2,hk⟩:=ef hk
  split at hk
  ·obtain⟨m,rfl,hm⟩:=r2 _ rfl
   exact⟨.eptr (4+m) j o,fun h' H=>Ey H hm j o,rfl,hk⟩
  ·exact hk.elim
 | .vref b o q,K,hk=>by
  simp only[bh] at hk
  obtain⟨r,r1,r2,hk⟩:=ef hk
  split at hk
  ·obtain⟨m,rfl,hm⟩:=r2 _ rfl
   exact⟨.vref (4+m) o q,fun h' H=>EA H hm o q,rfl,hk⟩
  ·exact hk.elim
 | .aptr b p j,K,hk=>by
  simp only[bh] at hk
  obtain⟨r,r1,r2,hk⟩:=ef hk
  split at hk
  ·obtain⟨m,rfl,hm⟩:=r2 _ rfl
   exact⟨.aptr (4+m) p j,fun h' H=>B1 H hm (p+j),rfl,hk⟩
  ·exact hk.elim
 | .fref k i,K,hk=>by simp only[bh] at hk;obtain⟨c,hk⟩:=hk.ok;exact⟨.fref k i,fun h' H=>xY H (kC c) i,rfl,hk⟩
 | .fptr k i o,K,hk=>by simp only[bh] at hk;obtain⟨c,hk⟩:=hk.ok;exact⟨.fptr k i o,fun h' H=>sl H (kC c) i o,rfl,hk⟩
 | .feptr k i j o,K,hk=>by simp only[bh] at hk;obtain⟨c,hk⟩:=hk.ok;exact⟨.feptr k i j o,fun h' H=>B0 H (kC c) i j o,rfl,hk⟩
 | .faptr k i p j,K,hk=>by simp only[bh] at hk;obtain⟨c,hk⟩:=hk.ok;exact⟨.faptr k i p j,fun h' H=>sl H (kC c) i (p+j),rfl,hk⟩
 | .hro k o,K,hk=>by simp only[bh] at hk;obtain⟨c,hk⟩:=hk.ok;exact⟨.hro k o,fun h' H=>pd H (kC c) o,rfl,hk⟩
 | .hpo k o,K,hk=>by simp only[bh] at hk;obtain⟨c,hk⟩:=hk.ok;exact⟨.hpo k o,fun h' H=>Fn H (kC c) o,rfl,hk⟩
 | .agg cs,K,hk=>by
  simp only[bh] at hk
  obtain⟨r,h1,h2,h3,hk⟩:=gS hk
  exact⟨.agg r,fun h' H=>by simp only[V.toD];exact .agg _ _ h1 (h2 h' H),rfl,hk⟩
 | .tup cs,K,hk=>by
  simp only[bh] at hk
  obtain⟨r,h1,h2,h3,hk⟩:=gS hk
  exact⟨.tup r,fun h' H=>by simp only[V.toD];exact .tup _ _ h1 (h2 h' H),rfl,hk⟩
 | .clo f cs,K,hk=>by
  simp only[bh] at hk
  obtain⟨r,h1,h2,h3,hk⟩:=gS hk
  exact⟨.clo f r,fun h' H=>by simp only[V.toD];exact .clo f _ _ h1 (h2 h' H),rfl,hk⟩
 | .ifc T v,K,hk=>by
  simp only[bh] at hk
  obtain⟨r,h1,h2,hk⟩:=jh hk
  exact⟨.ifc T r,fun h' H=>by simp only[V.toD];exact .ifc T _ _ (h1 h' H),rfl,hk⟩
 | .int k m,K,hk=>⟨.int k m,fun h' H=>.pure _ rfl,rfl,by simpa only[bh] using hk⟩
 | .bool b,K,hk=>⟨.bool b,fun h' H=>.pure _ rfl,rfl,by simpa only[bh] using hk⟩
 | .tt,K,hk=>⟨.bool true,fun h' H=>.pure _ rfl,rfl,by simpa only[bh] using hk⟩
 | .ff,K,hk=>⟨.bool false,fun h' H=>.pure _ rfl,rfl,by simpa only[bh] using hk⟩
 | .str s,K,hk=>⟨.str s,fun h' H=>.pure _ rfl,rfl,by simpa only[bh] using hk⟩
 | .lst t xs,K,hk=>⟨.lst t xs,fun h' H=>.pure _ rfl,rfl,by simpa only[bh] using hk⟩
 | .box t x,K,hk=>⟨.box t x,fun h' H=>.pure _ rfl,rfl,by simpa only[bh] using hk⟩
 | .nilp,K,hk=>⟨.nilp,fun h' H=>.pure _ rfl,rfl,by simpa only[bh] using hk⟩
 | .nils,K,hk=>⟨.nils,fun h' H=>.pure _ rfl,rfl,by simpa only[bh] using hk⟩
 | .nilf,K,hk=>⟨.nilf,fun h' H=>.pure _ rfl,rfl,by simpa only[bh] using hk⟩
 | .nili,K,hk=>⟨.nili,fun h' H=>.pure _ rfl,rfl,by simpa only[bh] using hk⟩
 | .gv g,K,hk=>⟨.gv g,fun h' H=>.gv g,rfl,by simpa only[bh] using hk⟩
 | .gp _,K,hk=>by simp only[bh] at hk
 | .iptr t x o,K,hk=>⟨.iptr t x o,fun h' H=>.iptr _ _,rfl,by simpa only[bh] using hk⟩
 | .obo t o,K,hk=>⟨.obo t o,fun h' H=>.pure _ (by cases o<;>rfl),rfl,by simpa only[bh] using hk⟩
 | .undef,K,hk=>⟨.undef,fun h' H=>.undef _,rfl,by simpa only[bh] using hk⟩
 | .junk,K,hk=>⟨.junk,fun h' H=>.junk,rfl,by simpa only[bh] using hk⟩
theorem gS:∀{l:List V} {K:List V→Prop},ji os l K→∃r:List V,(ah l).length=(ah r).length∧(∀h',KeepOK os h h'→∀i,i<(ah l).length→Rn (toH h) (gI (gN os n)) (toH h') ((ah l).getD i .undef) ((ah r).getD i .undef))∧(l.all V.one=r.all V.one)∧K r
 |[],K,hk=>⟨[],rfl,fun h' H i hi=>by simp[ah] at hi,rfl,by simpa only[ji] using hk⟩
 |v::l,K,hk=>by
  simp only[ji] at hk
  obtain⟨v',h1,h2,hk⟩:=jh hk
  obtain⟨r,h3,h4,h5,hk⟩:=gS hk
  refine⟨v'::r,by simp only[ah,List.length_cons,h3],fun h' H i hi=>?_,by simp only[List.all_cons,h2,h5],hk⟩
  cases i with
  |zero=>simpa[ah] using h1 h' H
  |succ i=>simpa[ah] using h4 h' H i (by simpa[ah] using hi)
end
def AG (os:List Nat)(h:VH)(l:List V)(K:List V→Prop):Prop:=kt h l fun l=>ji os l K
theorem Az (g:HL)(l:List D){i:Nat}(hi:i<l.length):(iI g l).getD i .undef=fwd g (l.getD i .undef):=by
 rw[dC,List.getD_eq_getElem?_getD,List.getElem?_map,List.getElem?_eq_getElem hi,List.getD_eq_getElem?_getD,List.getElem?_eq_getElem hi]
 rfl
theorem nD {l:List V}{K:List V→Prop}(hk:AG os h l K):∃r:List V,(ah l).length=(ah r).length∧(∀h',KeepOK os h h'→∀i,i<(ah l).length→Rn (toH h) (gI (gN os n)) (toH h') ((ah l).getD i .undef) ((ah r).getD i .undef))∧((ah l).all D.one=true→(ah r).all D.one=true)∧K r:=by
 obtain⟨l',h1,hk⟩:=fJ hk
 obtain⟨r,h2,h3,h4,hk⟩:=gS (h:=h) (n:=n) hk
 have hlen:(ah l).length=(ah l').length:=by rw[←h1,dC,List.length_map]
 refine⟨r,hlen.trans h2,fun h' H i hi=>.fwd _ _ ?_,fun ha=>?_,hk⟩
 ·rw[←Az _ _ hi,h1]
  exact h3 h' H i (by rw[←hlen];exact hi)
 ·refine kU _ ?_
  rw[←h4]
  have e:(ah l').all D.one=l'.all V.one:=by
   rw[bI,List.all_map]
   refine congrArg (fun f=>List.all l' f) (funext fun v=>lB v)
  rw[←e,←h1,dC,List.all_map]
  rw[List.all_eq_true] at ha⊢
  intro d hd
  simp only[Function.comp,nB]
  exact ha d hd
theorem pc (H:KeepOK os h h'){t:Ty}(ht:∀k∈t.fams,k<4)(x:t.den):∀c∈(ag t x).cells,Rn (toH h) (gI (gN os n)) (toH h') c c:=by
 intro c hc
 by_cases hp:t.pure=true
 ·have:=(gU hp x).2
  rw[List.all_eq_true] at this
  exact .pure c (this c hc)
 ·have lf:∀d:D,d.pure0=true→Rn (toH h) (gI (gN os n)) (toH h') d d:=fun d hd=>.pure d hd
  cases t<;>simp only[Ty.pure,not_true_eq_false] at hp
  case hr k=>
   simp only[ag,(lq k x).2,List.mem_singleton] at hc
   subst hc
   exact pd H (ht k (by simp[Ty.fams])) x
  case hp k=>
   simp only[ag,(lp k x).2,List.mem_singleton] at hc
   subst hc
   exact Fn H (ht k (by simp[Ty.fams])) x
  case vtxo k=>
   simp only[ag,D.cells,List.mem_cons,List.not_mem_nil,or_false] at hc
   rcases hc with rfl|rfl|rfl|rfl
   ·exact lf _ rfl
   ·exact lf _ rfl
   ·exact pd H (ht k (by simp[Ty.fams])) _
   ·exact lf _ rfl
  case pplm k=>
   simp only[ag,D.cells,ft,List.cons_append,List.nil_append,List.mem_cons,List.not_mem_nil,or_false] at hc
   rcases hc with rfl|rfl|rfl|rfl|rfl
   ·exact lf _ rfl
   ·exact lf _ rfl
   ·exact lf _ rfl
   ·exact lf _ rfl
   ·exact pd H (ht k (by simp[Ty.fams])) _
  case pplo k k'=>
   simp only[ag,D.cells,List.mem_cons,List.not_mem_nil,or_false] at hc
   rcases hc with rfl|rfl|rfl|rfl|rfl
   ·exact lf _ rfl
   ·exact lf _ rfl
   ·exact pd H (ht k (by simp[Ty.fams])) _
   ·exact lf _ rfl
   ·exact pd H (ht k' (by simp[Ty.fams])) _
  case nod k=>
   simp only[ag,D.cells,ft,List.cons_append,List.nil_append,List.mem_cons,List.not_mem_nil,or_false] at hc
   rcases hc with rfl|rfl|rfl|rfl|rfl|rfl
   ·exact lf _ rfl
   ·exact lf _ rfl
   ·exact lf _ rfl
   ·exact lf _ rfl
   ·exact lf _ rfl
   ·exact pd H (ht k (by simp[Ty.fams])) _
theorem wi (H:KeepOK os h h'){t:Ty}(ht:∀k∈t.fams,k<4)(x:t.den):Rn (toH h) (gI (gN os n)) (toH h') (ag t x) (ag t x):=by
 have hc:=pc (n:=n) H ht x
 by_cases hag:∃cs,ag t x= .agg cs
 ·obtain⟨cs,he⟩:=hag
  rw[he] at hc⊢
  exact .agg cs cs rfl fun i hi=>hc _ (aL hi)
 ·have he:(ag t x).cells=[ag t x]:=bR fun cs hcs=>hag ⟨cs,hcs⟩
  exact hc _ (by rw[he];exact List.mem_singleton.2 rfl)
theorem wj (H:KeepOK os h h'){t:Ty}(ht:∀k∈t.fams,k<4)(E:TypeId)(xs:List t.den):RnB (toH h) (gI (gN os n)) (toH h') (.row E (xs.map (ag t))) (.row E (xs.map (ag t))):=by
 refine .row E _ _ rfl fun i hi=>?_
 obtain⟨x,_,hx⟩:=List.mem_map.1 (aL hi)
 rw[←hx]
 exact⟨wi H ht x,fun s hs=>⟨hs,fun j hj=>pc H ht x _ (aL (by rw[hs.1];exact hj))⟩⟩
theorem B2 (H:KeepOK os h h')(T:TypeId){cs:List D}(hc:∀c∈cs,Rn (toH h) (gI (gN os n)) (toH h') c c):RnB (toH h) (gI (gN os n)) (toH h') (.var T cs) (.var T cs):=.var T _ _ rfl fun i hi=>hc _ (aL hi)
def IT (os:List Nat)(h:VH)(v:V)(K:V→Prop):Prop:=match v with
 | .agg cs=>AG os h cs fun cs=>K (.agg cs)
 |v=>Chk v.one (cz h v fun v=>bh os v K)
theorem F2 {v:V}{K:V→Prop}(hk:IT os h v K):∃r:V,(∀h',KeepOK os h h'→Rn (toH h) (gI (gN os n)) (toH h') v.toD r.toD∧∀s,wfC s v.toD→wfC s r.toD∧∀j,j<s→Rn (toH h) (gI (gN os n)) (toH h') (v.toD.cells.getD j .undef) (r.toD.cells.getD j .undef))∧K r:=by
 unfold IT at hk
 split at hk
 ·rename_i cs
  obtain⟨r,h1,h2,h3,hk⟩:=nD (n:=n) hk
  refine⟨.agg r,fun h' H=>⟨by simp only[V.toD];exact .agg _ _ h1 (h2 h' H),fun s hs=>?_⟩,hk⟩
  have hs1:(ah cs).length=s:=by have:=hs.1;simpa only[V.toD,D.cells] using this
  refine⟨⟨?_,?_⟩,fun j hj=>?_⟩
  ·show (ah r).length=s
   omega
  ·exact h3 (by have:=hs.2;simpa only[V.toD,D.cells] using this)
  ·exact h2 h' H j (by omega)
 ·obtain⟨c,hk⟩:=hk.ok
  obtain⟨v',h1,hk⟩:=j3 hk
  obtain⟨r,h2,h3,hk⟩:=jh (h:=h) (n:=n) hk
  have o1:v.toD.one=true:=by rw[lB];exact c
  have o2:r.toD.one=true:=by
   rw[lB,h3,←lB,←h1,nB];exact o1
  refine⟨r,fun h' H=>?_,hk⟩
  have hr:Rn (toH h) (gI (gN os n)) (toH h') v.toD r.toD:=.fwd _ _ (by rw[h1];exact h2 h' H)
  refine⟨hr,fun s hs=>?_⟩
  have hs1:=hs.1
  rw[bD o1] at hs1⊢
  rw[bD o2]
  simp only[List.length_singleton] at hs1
  subst hs1
  refine⟨⟨by rw[bD o2];rfl,by rw[bD o2];simp[o2]⟩,fun j hj=>?_⟩
  obtain rfl:j=0:=by omega
  exact hr
def F3 (os:List Nat)(h:VH):List V→(List V→Prop)→Prop
 |[],K=>K []
 |v::l,K=>IT os h v fun v=>F3 os h l fun l=>K (v::l)
theorem xq:∀{l:List V} {K:List V→Prop},F3 os h l K→∃r:List V,(∀h' E,KeepOK os h h'→RnB (toH h) (gI (gN os n)) (toH h') (.row E (ah l)) (.row E (ah r)))∧K r
 |[],K,hk=>⟨[],fun h' E H=>.row E _ _ rfl fun i hi=>by simp[ah] at hi,hk⟩
 |v::l,K,hk=>by
  obtain⟨v',h1,hk⟩:=F2 (n:=n) hk
  obtain⟨r,h2,hk⟩:=xq hk
  refine⟨v'::r,fun h' E H=>?_,hk⟩
  cases h2 h' E H with
  |row _ _ _ hl hc=>
   refine .row E _ _ (by simp only[ah,List.length_cons,hl]) fun i hi=>?_
   cases i with
   |zero=>simpa[ah] using h1 h' H
   |succ i=>simpa[ah] using hc i (by simpa[ah] using hi)
def Ic (l:List Nat):Bool:=l.all fun k=>Nat.blt k 4
theorem vX {l:List Nat}(h:Ic l=true):∀k∈l,k<4:=by
 unfold Ic at h
 rw[List.all_eq_true] at h
 exact fun k hk=>kC (h k hk)
def IS (os:List Nat)(h:VH)(x:VB)(K:VB→Prop):Prop:=
 match x with
 | .var T cs=>AG os h cs fun cs=>K (.var T cs)
 | .vari T pre m t xs post=>Chk (Ic t.fams) (AG os h pre fun pre=>AG os h post fun post=>K (.vari T pre m t xs post))
 | .row E t xs=>Chk (Ic t.fams) (K (.row E t xs))
 | .lit E vs=>F3 os h vs fun vs=>K (.lit E vs)
 | .froz t xs=>K (.froz t xs)
 | .fvb t x=>K (.fvb t x)
 | .moved _ _=>K .gone
 | .gone=>K .gone
 |_=>False
theorem F1 {x:VB}{K:VB→Prop}(hk:IS os h x K):∃y d d',x.blks=[d]∧y.blks=[d']∧(∀h',KeepOK os h h'→RnB (toH h) (gI (gN os n)) (toH h') d d')∧K y:=by
 unfold IS at hk
 split at hk
 ·rename_i T cs
  obtain⟨r,h1,h2,_,hk⟩:=nD (n:=n) hk
  exact⟨_,_,_,rfl,rfl,fun h' H=>.var T _ _ h1 (h2 h' H),hk⟩
 ·rename_i T pre m t xs post
  obtain⟨c,hk⟩:=hk.ok
  obtain⟨pre',h1,h2,_,hk⟩:=nD (n:=n) hk
  obtain⟨post',h3,h4,_,hk⟩:=nD (n:=n) hk
  refine⟨_,_,_,rfl,rfl,fun h' H=>.var T _ _ (by simp only[List.length_append,h1,h3]) fun i hi=>?_,hk⟩
  by_cases c1:i<(ah pre).length
  ·rw[List.append_assoc,List.append_assoc,dV (A:=ah pre) c1,dV (A:=ah pre') (by rw[←h1];exact c1)]
   exact h2 h' H i c1
  ·rw[List.append_assoc,List.append_assoc,dW (A:=ah pre) (by omega),dW (A:=ah pre') (by rw[←h1];omega),←h1]
   simp only[List.length_append] at hi
   by_cases c2:i-(ah pre).length<(xs.map (ag t)).length
   ·rw[dV c2,dV c2]
    obtain⟨e,he,hee⟩:=List.mem_map.1 (aL c2)
    rw[←hee]
    exact wi H (vX c) e
   ·rw[dW (by omega),dW (by omega)]
    exact h4 h' H _ (by omega)
 ·obtain⟨c,hk⟩:=hk.ok
  exact⟨_,_,_,rfl,rfl,fun h' H=>wj H (vX c) _ _,hk⟩
 ·obtain⟨r,h1,hk⟩:=xq (n:=n) hk
  exact⟨_,_,_,rfl,rfl,fun h' H=>h1 h' _ H,hk⟩
 ·exact⟨_,_,_,rfl,rfl,fun h' H=>.froz _,hk⟩
 ·exact⟨_,_,_,rfl,rfl,fun h' H=>.fvar _,hk⟩
 ·exact⟨_,_,_,rfl,rfl,fun h' H=>.gone _,hk⟩
 ·exact⟨_,_,_,rfl,rfl,fun h' H=>.gone _,hk⟩
 ·exact hk.elim
end

end Go.Proofs.YthmfppknagbkeaaGreatDoor.Am
